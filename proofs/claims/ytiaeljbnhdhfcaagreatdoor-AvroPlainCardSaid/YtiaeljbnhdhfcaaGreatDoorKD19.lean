/- AvroPlain answers true. -/
import Derived.Test.YtiaeljbnhdhfcaaGreatDoorKD18

namespace Go.Proofs.YtiaeljbnhdhfcaaGreatDoor
open Go Go.RowKit Go.Lx

/-- A contract of the kit's whose call leaves new blocks alone. -/
theorem pure_of_below {P : Program} {H : World → Prop} {f : FuncId} {args : List HV} {h : HV} (hb : hasBody P f) (hc : ∀ (E : Env) vs, relAll E args vs → ∃ y, (∀ E', relHV E' h y) ∧ Calls P f vs.toArray E.w fun e w' => e = .returned y ∧ Below E.w.heap.size E.w w') : PureDo P H f args h := by
  intro w0 kr _ hkr
  refine ⟨hb, fun E vs hs hv => ?_⟩
  obtain ⟨y, h1, h2⟩ := hc E vs hv
  refine h2.mono ?_
  rintro e w' ⟨rfl, hbel⟩
  have hL : E.L = [] := hs.L
  let E' : Env := ⟨E.I, E.β, E.L, w'⟩
  obtain ⟨g1, g2⟩ := sim_add (E' := E') hs [] (by simp [E']) (fun _ _ _ => rfl) (fun b hb => hbel.block b hb) hbel.size (fun _ _ h => h) (fun b o h => .inl h) (fun b o h => Nat.lt_of_lt_of_le (hs.Ilt b o h) hbel.size) (by simp) (by simp) hbel.os hbel.tape hbel.output
  rw [hL] at g1
  exact ⟨E', [], y, h, rfl, g1, g2, h1 E', .inl ⟨rfl, hkr⟩⟩

/-- The name of a number. -/
def nameI : Int → Option ByteArray
  | .ofNat 0 => some ⟨#[110, 117, 108, 108]⟩
  | .ofNat 1 => some ⟨#[98, 111, 111, 108, 101, 97, 110]⟩
  | .ofNat 2 => some ⟨#[105, 110, 116]⟩
  | .ofNat 3 => some ⟨#[108, 111, 110, 103]⟩
  | .ofNat 4 => some ⟨#[102, 108, 111, 97, 116]⟩
  | .ofNat 5 => some ⟨#[100, 111, 117, 98, 108, 101]⟩
  | .ofNat 6 => some ⟨#[98, 121, 116, 101, 115]⟩
  | .ofNat 7 => some ⟨#[115, 116, 114, 105, 110, 103]⟩
  | _ => none

theorem nameI_eq : ∀ k : Int, nameOf k eight = nameI k
  | .ofNat 0 => rfl
  | .ofNat 1 => rfl
  | .ofNat 2 => rfl
  | .ofNat 3 => rfl
  | .ofNat 4 => rfl
  | .ofNat 5 => rfl
  | .ofNat 6 => rfl
  | .ofNat 7 => rfl
  | .ofNat (m + 8) => by
    have : ∀ n : Int, n < 8 → ¬ (n = Int.ofNat (m + 8)) := fun n hn h => by simp only [Int.ofNat_eq_natCast] at h; omega
    simp only [nameOf]
    rw [if_neg (this 0 (by omega)), if_neg (this 1 (by omega)), if_neg (this 2 (by omega)), if_neg (this 3 (by omega)), if_neg (this 4 (by omega)), if_neg (this 5 (by omega)), if_neg (this 6 (by omega)), if_neg (this 7 (by omega))]
    rfl
  | .negSucc m => by
    have : ∀ n : Int, 0 ≤ n → ¬ (n = Int.negSucc m) := fun n hn h => by omega
    simp only [nameOf]
    rw [if_neg (this 0 (by omega)), if_neg (this 1 (by omega)), if_neg (this 2 (by omega)), if_neg (this 3 (by omega)), if_neg (this 4 (by omega)), if_neg (this 5 (by omega)), if_neg (this 6 (by omega)), if_neg (this 7 (by omega))]
    rfl

def ans19 (k : Int) : HV := match nameI k with
  | some s => .tup [.v (.string s), .v (.bool true)]
  | none => .tup [.v (.string ⟨#[]⟩), .v (.bool false)]

theorem do19 (k : Int) : PureDo Tryz.prog H4 19 [.v (.int .i64 k)] (ans19 k) := by
  refine pure_of_below ⟨_, Tryz.func19, rfl⟩ fun E vs hv => ?_
  have := relAll_v1 hv
  subst this
  refine ⟨answer19 k, fun E' => ?_, plain19 k E.w⟩
  unfold answer19 ans19
  rw [nameI_eq]
  cases nameI k with
  | some s => exact ⟨_, rfl, _, _, rfl, rfl, _, _, rfl, rfl, rfl⟩
  | none => exact ⟨_, rfl, _, _, rfl, rfl, _, _, rfl, rfl, rfl⟩

def pure5 (f : FuncId) (args : List HV) : Option (Bool × HV) :=
  bif Nat.beq f 19 then (match args with | [.v (.int .i64 k)] => some (true, ans19 k) | _ => none)
  else bif Nat.beq f 7 then (match args with | [] => some (true, .v (.bool true)) | _ => none)
  else libPure f args

def G5 (P : Program) : Gam := ⟨pure5, libLoud P⟩

theorem ans19_flat (k : Int) : refsLt 0 (ans19 k) = true := by
  unfold ans19; cases nameI k <;> rfl

theorem gamOK5 {w0 : World} (h0 : H4 w0) : GamOK Tryz.prog w0 (G5 Tryz.prog) := by
  refine ⟨fun f args r h => ?_, lib_loud⟩
  replace h : pure5 f args = some r := h
  unfold pure5 at h
  cases h1 : Nat.beq f 19 with
  | true =>
    rw [h1, cond_true] at h
    have := Nat.eq_of_beq_eq_true h1; subst this
    split at h
    · rename_i k
      cases h
      have := pureAns lasts4 (do19 k) rfl (ans19_flat k) h0
      exact clause this.1 fun _ => this
    · cases h
  | false =>
  rw [h1, cond_false] at h
  cases h2 : Nat.beq f 7 with
  | true =>
    rw [h2, cond_true] at h
    have := Nat.eq_of_beq_eq_true h2; subst this
    split at h
    · cases h
      have := pureAns lasts4 works_true rfl rfl h0
      exact clause this.1 fun _ => this
    · cases h
  | false =>
  rw [h2, cond_false] at h
  exact lib_pure h0 (G1 Tryz.prog) rfl f args r h

theorem run6n0 : evG Tryz.prog (G5 Tryz.prog) 9 3 6 [.v (.int .i64 (.negSucc 0))] [] isT = true := by kernel_rfl
theorem run6n (m : Nat) (kr : KR) : evG Tryz.prog (G5 Tryz.prog) 9 3 6 [.v (.int .i64 (.negSucc (m + 1)))] [] kr = kr (.ret (.v (.bool true))) [] := by kernel_rfl
theorem run6p (m : Nat) (kr : KR) : evG Tryz.prog (G5 Tryz.prog) 9 3 6 [.v (.int .i64 (.ofNat (m + 8)))] [] kr = kr (.ret (.v (.bool true))) [] := by kernel_rfl
theorem run60 : evG Tryz.prog (G5 Tryz.prog) 9 3 6 [.v (.int .i64 (.ofNat 0))] [] isT = true := by kernel_rfl
theorem run61 : evG Tryz.prog (G5 Tryz.prog) 9 3 6 [.v (.int .i64 (.ofNat 1))] [] isT = true := by kernel_rfl
theorem run62 : evG Tryz.prog (G5 Tryz.prog) 9 3 6 [.v (.int .i64 (.ofNat 2))] [] isT = true := by kernel_rfl
theorem run63 : evG Tryz.prog (G5 Tryz.prog) 9 3 6 [.v (.int .i64 (.ofNat 3))] [] isT = true := by kernel_rfl
theorem run64 : evG Tryz.prog (G5 Tryz.prog) 9 3 6 [.v (.int .i64 (.ofNat 4))] [] isT = true := by kernel_rfl
theorem run65 : evG Tryz.prog (G5 Tryz.prog) 9 3 6 [.v (.int .i64 (.ofNat 5))] [] isT = true := by kernel_rfl
theorem run66 : evG Tryz.prog (G5 Tryz.prog) 9 3 6 [.v (.int .i64 (.ofNat 6))] [] isT = true := by kernel_rfl
theorem run67 : evG Tryz.prog (G5 Tryz.prog) 9 3 6 [.v (.int .i64 (.ofNat 7))] [] isT = true := by kernel_rfl

theorem pure_of_res {G : Gam} (hG : ∀ {w0 : World}, H4 w0 → GamOK Tryz.prog w0 G) {n m : Nat} {f : FuncId} {args : List HV} {h : HV} (hrun : ∀ kr, evG Tryz.prog G n m f args [] kr = kr (.ret h) []) : PureDo Tryz.prog H4 f args h :=
  fun w0 kr h0 hkr => evG_sound progOK catches (hG h0) n m f args [] kr (by rw [hrun]; exact hkr)

theorem avroPlain_true : ∀ k : Int, PureDo Tryz.prog H4 6 [.v (.int .i64 k)] (.v (.bool true))
  | .ofNat 0 => pure_of_run gamOK5 run60 isT_eq
  | .ofNat 1 => pure_of_run gamOK5 run61 isT_eq
  | .ofNat 2 => pure_of_run gamOK5 run62 isT_eq
  | .ofNat 3 => pure_of_run gamOK5 run63 isT_eq
  | .ofNat 4 => pure_of_run gamOK5 run64 isT_eq
  | .ofNat 5 => pure_of_run gamOK5 run65 isT_eq
  | .ofNat 6 => pure_of_run gamOK5 run66 isT_eq
  | .ofNat 7 => pure_of_run gamOK5 run67 isT_eq
  | .ofNat (m + 8) => pure_of_res gamOK5 (run6p m)
  | .negSucc 0 => pure_of_run gamOK5 run6n0 isT_eq
  | .negSucc (m + 1) => pure_of_res gamOK5 (run6n m)

/-- AvroPlain, in every memory in which the one package-level variable that it meets is a number. -/
theorem avroPlain_calls (k : Int) (w : World) (h : H4 w) : Calls Tryz.prog 6 #[.int .i64 k] w fun e w' => e = .returned (.bool true) ∧ Below w.heap.size w w' := by
  have hd := avroPlain_true k w isT h rfl
  let E : Env := ⟨fun _ _ => False, fun _ _ => none, [], w⟩
  have hs : Sim w E ⟨Tm.e, []⟩ [] := ⟨rfl, relT_e _, fun i o hi => by simp [E] at hi, fun i j o o' b p p' h1 => by simp [E] at h1, fun b ⟨i, o, p, h1, _⟩ => by simp [E] at h1, Below.refl _ _, fun b o h => h.elim⟩
  refine (hd.2 E [.int .i64 k] hs ⟨_, _, rfl, rfl, rfl⟩).mono ?_
  rintro e w' ⟨E', L', y, h', rfl, g1, g2, g3, g4⟩
  rcases g4 with ⟨rfl, g4⟩ | ⟨_, g4⟩
  · obtain ⟨e1, _⟩ := isT_eq _ _ g4
    cases e1
    have : y = .bool true := g3
    rw [this]
    exact ⟨rfl, g1.below⟩
  · obtain ⟨e1, _⟩ := isT_eq _ _ g4
    cases e1

#print axioms avroPlain_calls
end Go.Proofs.YtiaeljbnhdhfcaaGreatDoor
