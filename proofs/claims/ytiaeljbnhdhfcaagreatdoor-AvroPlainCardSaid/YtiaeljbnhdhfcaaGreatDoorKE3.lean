/- AvroPlain: the closed facts. -/
import Derived.Test.YtiaeljbnhdhfcaaGreatDoorRows
import Derived.ProofKit
import Derived.Stop.Joined

namespace Go.Proofs.YtiaeljbnhdhfcaaGreatDoor
open Go.ChangeShapes Go.WideShapes Go.ChangeAt Go.RowKit Go

theorem pl1 : (Rows.avroPlainRow.inPlace == Tryz.prog.inPlace 6) = true := by kernel_rfl
theorem pl2 : (Rows.avroPlainRow.unfollowed == Tryz.prog.unfollowed 6) = true := by kernel_rfl
theorem pl3 : (Rows.avroPlainRow.recurses == Tryz.prog.recurses 6) = true := by kernel_rfl
theorem pl4 : (Rows.avroPlainRow.named == Tryz.prog.varsNamed 6) = true := by kernel_rfl

theorem plain_facts : joinedFacts Tryz.prog 6 Tryz.f6 Rows.avroPlainSpec Rows.avroPlainRow = true := by
  unfold joinedFacts
  rw [pl1, pl2, pl3, pl4]
  kernel_rfl

end Go.Proofs.YtiaeljbnhdhfcaaGreatDoor
