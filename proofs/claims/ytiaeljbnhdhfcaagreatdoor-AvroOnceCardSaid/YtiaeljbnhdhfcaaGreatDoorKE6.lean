/- AvroOnce: what it answers, in every memory that the row allows. -/
import Derived.Test.YtiaeljbnhdhfcaaGreatDoorP13
import Derived.Test.YtiaeljbnhdhfcaaGreatDoorKX17

namespace Go.Proofs.YtiaeljbnhdhfcaaGreatDoor
open Go Go.RowKit Go.Lx Go.Mo

theorem avroOnce_true (n : Int) : PureDo Tryz.prog H5 3 [i64 n] (.v (.bool true)) := by
  by_cases h : n < 0
  · exact do3n (.inl h) works_true
  · by_cases h2 : 300 < n
    · exact do3n (.inr h2) works_true
    · obtain ⟨k, rfl⟩ := Int.eq_ofNat_of_zero_le (show 0 ≤ n by omega)
      exact do3 (n := k) (by omega) (plainN (by omega) works_true)

/-- AvroOnce, in every memory in which bytealg.MaxLen is a number and strconv's powers of ten are the table. -/
theorem avroOnce_calls (k : Int) (w : World) (h : H5 w) : Calls Tryz.prog 3 #[.int .i64 k] w fun e w' => e = .returned (.bool true) ∧ Below w.heap.size w w' := by
  have hd := avroOnce_true k w isT h rfl
  let E : Env := ⟨fun _ _ => False, fun _ _ => none, [], w⟩
  have hs : Sim w E ⟨Tm.e, []⟩ [] := ⟨rfl, relT_e _, fun i o hi => by simp [E] at hi, fun i j o o' b p p' h1 => by simp [E] at h1, fun b ⟨i, o, p, h1, _⟩ => by simp [E] at h1, Below.refl _ _, fun b o h => h.elim⟩
  refine (hd.2 E [.int .i64 k] hs ⟨_, _, rfl, rfl, rfl⟩).mono ?_
  rintro e w' ⟨E', L', y, h', rfl, g1, g2, g3, g4⟩
  rcases g4 with ⟨rfl, g4⟩ | ⟨_, g4⟩
  · obtain ⟨e1, _⟩ := isT_eq _ _ g4
    cases e1
    have : y = .bool true := g3
    rw [this]
    exact ⟨rfl, g1.below⟩
  · obtain ⟨e1, _⟩ := isT_eq _ _ g4
    cases e1
#print axioms avroOnce_calls
end Go.Proofs.YtiaeljbnhdhfcaaGreatDoor
