/- AvroOnce: the row. -/
import Derived.Test.YtiaeljbnhdhfcaaGreatDoorKE7
import Derived.Test.YtiaeljbnhdhfcaaGreatDoorKE8

namespace Go.Proofs.YtiaeljbnhdhfcaaGreatDoor
open Go.ChangeShapes Go.WideShapes Go.ChangeAt Go.RowKit Go

/-- The row. -/
theorem avroOnce_said : Rows.AvroOnceSaid :=
  OpenClaim.holds_of_wide 3 Tryz.f3 rfl rfl rfl rfl rfl rfl rfl ⟨rfl, rfl, rfl, rfl, rfl⟩ rfl rfl rfl rfl rfl (by kernel_rfl) Tryz.func3 once_facts
    (of_decide_eq_true (by kernel_rfl)) (by unfold Func.isWrapper; first | (rw [if_pos (by decide +kernel)]; kernel_rfl) | (rw [if_neg (by decide +kernel)]; exact ⟨rfl, rfl⟩))
    (fun os started H enc _ => once_lifted os started H enc)
#print axioms avroOnce_said

end Go.Proofs.YtiaeljbnhdhfcaaGreatDoor
