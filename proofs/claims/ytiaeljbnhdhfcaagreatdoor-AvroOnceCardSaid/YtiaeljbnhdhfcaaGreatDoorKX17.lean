/- works(): the known run. -/
import Derived.Test.YtiaeljbnhdhfcaaGreatDoorKX16

namespace Go.Proofs.YtiaeljbnhdhfcaaGreatDoor
open Go Go.RowKit Go.Lx

theorem do9a : PureDo Tryz.prog H4 9 [.d (.list (.int .u8)) text1, .v (.slice none 0 0)] (.tup [.d .av av1, .v (.int .i64 0)]) := pure_of_run gamOK3 run9a (isA_eq av1 0)
theorem do9b : PureDo Tryz.prog H4 9 [.d (.list (.int .u8)) text2, .v (.slice none 0 0)] (.tup [.d .av (Av.mk [] 0), .v (.int .i64 191)]) := pure_of_run gamOK3 run9b (isA_eq _ 191)

def pure4 (f : FuncId) (args : List HV) : Option (Bool × HV) :=
  bif Nat.beq f 9 then (match args with
    | [.d (.list (.int .u8)) xs, .v (.slice none 0 0)] => if (xs : List Int) = text1 then some (true, .tup [.d .av av1, .v (.int .i64 0)]) else if (xs : List Int) = text2 then some (true, .tup [.d .av (Av.mk [] 0), .v (.int .i64 191)]) else none
    | _ => none)
  else pure3 f args

def G4 (P : Program) : Gam := ⟨pure4, libLoud P⟩

theorem gamOK4 {w0 : World} (h0 : H4 w0) : GamOK Tryz.prog w0 (G4 Tryz.prog) := by
  refine ⟨fun f args r h => ?_, lib_loud⟩
  replace h : pure4 f args = some r := h
  unfold pure4 at h
  cases h1 : Nat.beq f 9 with
  | true =>
    rw [h1, cond_true] at h
    have := Nat.eq_of_beq_eq_true h1; subst this
    split at h
    · rename_i xs
      by_cases hx : (xs : List Int) = text1
      · rw [if_pos hx] at h; cases h
        have := pureAns lasts4 do9a rfl rfl h0
        rw [← hx] at this
        exact clause this.1 fun _ => this
      · rw [if_neg hx] at h
        by_cases hx2 : (xs : List Int) = text2
        · rw [if_pos hx2] at h; cases h
          have := pureAns lasts4 do9b rfl rfl h0
          rw [← hx2] at this
          exact clause this.1 fun _ => this
        · rw [if_neg hx2] at h; cases h
    · cases h
  | false =>
  rw [h1, cond_false] at h
  exact (gamOK3 h0).pure f args r h

/-- The answer is true. -/
def isT : KR := fun r L => match r, L with | .ret (.v (.bool true)), [] => true | _, _ => false
theorem isT_eq (r : HR) (L : List Ob) (h : isT r L = true) : r = .ret (.v (.bool true)) ∧ L = [] := by
  unfold isT at h
  split at h
  · exact ⟨rfl, rfl⟩
  · cases h

theorem run7 : evG Tryz.prog (G4 Tryz.prog) 100 30 7 [] [] isT = true := by kernel_rfl

theorem works_true : PureDo Tryz.prog H4 7 [] (.v (.bool true)) := pure_of_run gamOK4 run7 isT_eq

end Go.Proofs.YtiaeljbnhdhfcaaGreatDoor
