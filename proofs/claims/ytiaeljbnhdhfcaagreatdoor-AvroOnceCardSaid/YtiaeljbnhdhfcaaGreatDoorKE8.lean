/- AvroOnce: the closed facts. -/
import Derived.Test.YtiaeljbnhdhfcaaGreatDoorRows
import Derived.ProofKit
import Derived.Stop.Joined

namespace Go.Proofs.YtiaeljbnhdhfcaaGreatDoor
open Go.ChangeShapes Go.WideShapes Go.ChangeAt Go.RowKit Go

theorem on1 : (Rows.avroOnceRow.inPlace == Tryz.prog.inPlace 3) = true := by kernel_rfl
theorem on2 : (Rows.avroOnceRow.unfollowed == Tryz.prog.unfollowed 3) = true := by kernel_rfl
theorem on3 : (Rows.avroOnceRow.recurses == Tryz.prog.recurses 3) = true := by kernel_rfl
theorem on4 : (Rows.avroOnceRow.named == Tryz.prog.varsNamed 3) = true := by kernel_rfl

theorem once_facts : joinedFacts Tryz.prog 3 Tryz.f3 Rows.avroOnceSpec Rows.avroOnceRow = true := by
  unfold joinedFacts
  rw [on1, on2, on3, on4]
  kernel_rfl

end Go.Proofs.YtiaeljbnhdhfcaaGreatDoor
