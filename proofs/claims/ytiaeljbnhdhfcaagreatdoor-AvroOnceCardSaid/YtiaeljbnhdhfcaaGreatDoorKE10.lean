/- AvroOnce: the tied card. -/
import Derived.Test.YtiaeljbnhdhfcaaGreatDoorKE9
import Derived.Test.YtiaeljbnhdhfcaaGreatDoorTie
import Derived.Test.YtiaeljbnhdhfcaaGreatDoorCards
import Derived.SevenTiedAt

namespace Go.Proofs.YtiaeljbnhdhfcaaGreatDoor
open Go

theorem avroOnce_card : Rows.AvroOnceCardSaid :=
  Claim7.holds_tied_plain_at .later [] [.data, .data, .widerDeep, .widerDeep, .data, .data, .data, .data, .data, .data, .sentinel, .sentinel, .pinned, .pinned, .pinned] true (true, "90552ec6f598ee0692f81d621094276fe501b2980047c28e113317d176c0fbbc") true
    avroOnce_said (fun _ h => by cases h) (by kernel_rfl) (fun _ h => by cases h) avroOnce_row_tie rfl ⟨rfl, rfl⟩ (by kernel_rfl) rfl
    (fun f fn hf hfn => by
      obtain rfl : f = 3 := Option.some.inj ((show Tryz.prog.funcNamed "lexicon/lexiconlaw09.AvroOnce" = some 3 by kernel_rfl).symm.trans hf) |>.symm
      obtain rfl : fn = Tryz.f3 := (Option.some.inj (Tryz.func3.symm.trans hfn)).symm
      exact ⟨by kernel_rfl, fun j t ht => by
        rw [Tryz.params3] at ht
        have hm : t ∈ [3] := by simpa using Array.mem_of_getElem? ht
        have hall : ([3].all fun u => !Tryz.prog.wantsStandIn u) = true := by kernel_rfl
        exact (show Tryz.prog.wantsStandIn t = false by simpa using List.all_eq_true.1 hall t hm)⟩)
    (by kernel_rfl)
#print axioms avroOnce_card
end Go.Proofs.YtiaeljbnhdhfcaaGreatDoor
