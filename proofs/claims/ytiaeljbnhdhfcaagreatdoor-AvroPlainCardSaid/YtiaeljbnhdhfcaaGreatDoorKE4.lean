/- AvroPlain: the row. -/
import Derived.Test.YtiaeljbnhdhfcaaGreatDoorKE1
import Derived.Test.YtiaeljbnhdhfcaaGreatDoorKE3

namespace Go.Proofs.YtiaeljbnhdhfcaaGreatDoor
open Go.ChangeShapes Go.WideShapes Go.ChangeAt Go.RowKit Go

/-- The row. -/
theorem avroPlain_said : Rows.AvroPlainSaid :=
  OpenClaim.holds_of_wide 6 Tryz.f6 rfl rfl rfl rfl rfl rfl rfl ⟨rfl, rfl, rfl, rfl, rfl⟩ rfl rfl rfl rfl rfl (by kernel_rfl) Tryz.func6 plain_facts
    (of_decide_eq_true (by kernel_rfl)) (by unfold Func.isWrapper; first | (rw [if_pos (by decide +kernel)]; kernel_rfl) | (rw [if_neg (by decide +kernel)]; exact ⟨rfl, rfl⟩))
    (fun os started H enc _ => plain_lifted os started H enc)
#print axioms avroPlain_said

end Go.Proofs.YtiaeljbnhdhfcaaGreatDoor
