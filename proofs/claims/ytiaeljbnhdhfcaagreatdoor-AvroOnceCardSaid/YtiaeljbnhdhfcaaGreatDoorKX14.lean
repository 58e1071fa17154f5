/- JSON: the text of the record that holds itself, read. -/
import Derived.Test.YtiaeljbnhdhfcaaGreatDoorM16
import Derived.Test.YtiaeljbnhdhfcaaGreatDoorM13

namespace Go.Proofs.YtiaeljbnhdhfcaaGreatDoor
open Go Go.RowKit Go.Lx

theorem does_more {P : Program} {w0 : World} {f : FuncId} {args : List HV} {L : List Ob} {kr kr' : KR} (h : Does P w0 f args L kr) (hk : ∀ r L', kr r L' = true → kr' r L' = true) : Does P w0 f args L kr' := by
  refine ⟨h.1, fun E vs hs hv => (h.2 E vs hs hv).mono ?_⟩
  rintro e w' ⟨E', L', y, x, a, b, c, d, e⟩
  exact ⟨E', L', y, x, a, b, c, d, e.imp (fun q => ⟨q.1, hk _ _ q.2⟩) (fun q => ⟨q.1, hk _ _ q.2⟩)⟩

/-- A known run, looked at by a test. -/
theorem pure_of_run {G : Gam} (hG : ∀ {w0 : World}, H4 w0 → GamOK Tryz.prog w0 G) {n m : Nat} {f : FuncId} {args : List HV} {kr0 : KR} {h : HV} (hrun : evG Tryz.prog G n m f args [] kr0 = true) (hk : ∀ r L, kr0 r L = true → r = .ret h ∧ L = []) : PureDo Tryz.prog H4 f args h :=
  fun w0 kr h0 hkr => does_more (evG_sound progOK catches (hG h0) n m f args [] kr0 hrun) fun r L hr => by
    obtain ⟨rfl, rfl⟩ := hk r L hr; exact hkr

def isJ (j0 : J) : KR := fun r L => match r, L with | .ret (.tup [.d .json j, .v (.int .i64 n)]), [] => sameJ j j0 && decide (n = 0) | _, _ => false

theorem isJ_eq (j0 : J) (r : HR) (L : List Ob) (h : isJ j0 r L = true) : r = .ret (.tup [.d .json j0, .v (.int .i64 0)]) ∧ L = [] := by
  unfold isJ at h
  split at h
  · simp only [Bool.and_eq_true, decide_eq_true_eq] at h
    rw [sameJ_eq _ _ h.1, h.2]; exact ⟨rfl, rfl⟩
  · cases h

theorem run24 : evG Tryz.prog (G2 Tryz.prog) 200 30 24 [.d (.list (.int .u8)) text1] [] (isJ topJ) = true := by kernel_rfl

theorem do24w : PureDo Tryz.prog H4 24 [.d (.list (.int .u8)) text1] (.tup [.d .json topJ, .v (.int .i64 0)]) := pure_of_run gamOK2 run24 (isJ_eq topJ)

end Go.Proofs.YtiaeljbnhdhfcaaGreatDoor
