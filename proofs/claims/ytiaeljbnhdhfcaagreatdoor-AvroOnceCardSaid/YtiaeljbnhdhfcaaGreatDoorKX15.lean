/- JSON: checked. -/
import Derived.Test.YtiaeljbnhdhfcaaGreatDoorKX14

namespace Go.Proofs.YtiaeljbnhdhfcaaGreatDoor
open Go Go.RowKit Go.Lx

/-- The answer is that number. -/
def isN (n0 : Int) : KR := fun r L => match r, L with | .ret (.v (.int .i64 n)), [] => decide (n = n0) | _, _ => false

theorem isN_eq (n0 : Int) (r : HR) (L : List Ob) (h : isN n0 r L = true) : r = .ret (.v (.int .i64 n0)) ∧ L = [] := by
  unfold isN at h
  split at h
  · rw [of_decide_eq_true h]; exact ⟨rfl, rfl⟩
  · cases h

theorem run32b : evG Tryz.prog (G2 Tryz.prog) 100 30 32 [.d .json fldJ] [] (isN 0) = true := by kernel_rfl

theorem run32a : evG Tryz.prog (G2 Tryz.prog) 100 30 32 [.d .json topJ] [] (isN 0) = true := by kernel_rfl

theorem do32w {j : J} (h : sameJ j topJ = true ∨ sameJ j fldJ = true) : PureDo Tryz.prog H4 32 [.d .json j] (.v (.int .i64 0)) := by
  rcases h with h | h
  · rw [sameJ_eq _ _ h]; exact pure_of_run gamOK2 run32a (isN_eq 0)
  · rw [sameJ_eq _ _ h]; exact pure_of_run gamOK2 run32b (isN_eq 0)

theorem gamOK3 {w0 : World} (h0 : H4 w0) : GamOK Tryz.prog w0 (G3 Tryz.prog) := by
  refine ⟨fun f args r h => ?_, lib_loud⟩
  replace h : pure3 f args = some r := h
  unfold pure3 at h
  cases h1 : Nat.beq f 24 with
  | true =>
    rw [h1, cond_true] at h
    have := Nat.eq_of_beq_eq_true h1; subst this
    split at h
    · rename_i xs
      by_cases hx : (xs : List Int) = text1
      · rw [if_pos hx] at h; cases h
        have := pureAns lasts4 do24w rfl rfl h0
        rw [← hx] at this
        exact clause this.1 fun _ => this
      · rw [if_neg hx] at h; cases h
    · cases h
  | false =>
  rw [h1, cond_false] at h
  cases h2 : Nat.beq f 32 with
  | true =>
    rw [h2, cond_true] at h
    have := Nat.eq_of_beq_eq_true h2; subst this
    split at h
    · rename_i j
      by_cases hj : sameJ j topJ = true ∨ sameJ j fldJ = true
      · rw [if_pos hj] at h; cases h
        have := pureAns lasts4 (do32w hj) rfl rfl h0
        exact clause this.1 fun _ => this
      · rw [if_neg hj] at h; cases h
    · cases h
  | false =>
  rw [h2, cond_false] at h
  exact (gamOK2 h0).pure f args r h

end Go.Proofs.YtiaeljbnhdhfcaaGreatDoor
