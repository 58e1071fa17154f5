/-
  DERIVED. GIVEN WITH THE SEED: THE CARDS: each row of YtiaeljbnhdhfcaaGreatDoorRows.lean that lists a variable, with what it lists TIED to the program's text (the seventh form; the later family's looks); each row that meets fmt, with fmt's text TOLD by the authors' own Lean function (tested against real Go, not proved from fmt's source: count such statements apart). THE CARD IS WHAT COUNTS. Prove the row's statement (the work); the ties are given (YtiaeljbnhdhfcaaGreatDoorTie.lean); close each card by the builder's one call (the guide's Derived/Test/ToyasCard.lean, 'card_holds'). Laid BY PROGRAM, IN A SANDBOX (cutbox-door.mjs). By AI agents, Wed Nov 11 2026. No macro, syntax, notation, axiom, sorry.
-/
import Derived.Test.YtiaeljbnhdhfcaaGreatDoorRows
import GoSem.ClaimSeven
namespace Go.Proofs.YtiaeljbnhdhfcaaGreatDoor
namespace Rows

/-- THE TIED CARD OF 'lexiconlaw09.AvroOnce'. -/
def avroOnceCard : Claim7 := { stood := { row := avroOnceRow, standIns := [], harness := (true, "90552ec6f598ee0692f81d621094276fe501b2980047c28e113317d176c0fbbc"), looks := true }, kinds := [], alts := [], laidByText := true, laidKinds := [.data, .data, .widerDeep, .widerDeep, .data, .data, .data, .data, .data, .data, .sentinel, .sentinel, .pinned, .pinned, .pinned], laidTests := true, laidLooks := .later }
def AvroOnceCardSaid : Prop := Claim7.holds Tryz.pinned (.plain (OpenSpec.ofChange avroOnceSpec)) avroOnceCard

/-- THE TIED CARD OF 'lexiconlaw09.AvroFits'. -/
def avroFitsCard : Claim7 := { stood := { row := avroFitsRow, standIns := [], harness := (true, "90552ec6f598ee0692f81d621094276fe501b2980047c28e113317d176c0fbbc"), looks := true }, kinds := [], alts := [], laidByText := true, laidKinds := [.data, .data, .widerDeep, .widerDeep, .data, .data, .data, .data, .data, .data, .sentinel, .sentinel, .pinned, .pinned, .pinned], laidTests := true, laidLooks := .later }
def AvroFitsCardSaid : Prop := Claim7.holds Tryz.pinned (.plain (OpenSpec.ofChange avroFitsSpec)) avroFitsCard

/-- THE TIED CARD OF 'lexiconlaw09.AvroMet'. -/
def avroMetCard : Claim7 := { stood := { row := avroMetRow, standIns := [], harness := (true, "90552ec6f598ee0692f81d621094276fe501b2980047c28e113317d176c0fbbc"), looks := true }, kinds := [], alts := [], laidByText := true, laidKinds := [.data, .data, .widerDeep, .widerDeep, .data, .data, .data, .data, .data, .data, .sentinel, .sentinel, .pinned, .pinned, .pinned], laidTests := true, laidLooks := .later }
def AvroMetCardSaid : Prop := Claim7.holds Tryz.pinned (.plain (OpenSpec.ofChange avroMetSpec)) avroMetCard

/-- THE TIED CARD OF 'lexiconlaw09.AvroPlain'. -/
def avroPlainCard : Claim7 := { stood := { row := avroPlainRow, standIns := [], harness := (true, "90552ec6f598ee0692f81d621094276fe501b2980047c28e113317d176c0fbbc"), looks := true }, kinds := [], alts := [], laidByText := true, laidKinds := [.data, .data, .widerDeep, .widerDeep, .data, .data, .data, .data, .data, .data, .sentinel, .sentinel, .pinned, .pinned, .pinned], laidTests := true, laidLooks := .later }
def AvroPlainCardSaid : Prop := Claim7.holds Tryz.pinned (.plain (OpenSpec.ofChange avroPlainSpec)) avroPlainCard

/-- THE SECOND FORM's CARD OF 'lexiconlaw09.AvroOnce'. -/
def avroOnceUptoCard : Claim7 := { stood := { row := avroOnceUptoRow, standIns := [], harness := (true, "90552ec6f598ee0692f81d621094276fe501b2980047c28e113317d176c0fbbc"), looks := true }, kinds := [], alts := [], laidByText := true, laidKinds := [.data, .data, .widerDeep, .widerDeep, .data, .data, .data, .data, .data, .data, .sentinel, .sentinel, .pinned, .pinned, .pinned], laidTests := true, laidLooks := .later }
def AvroOnceUptoCardSaid : Prop := Claim7.holds Tryz.pinned (.plain (OpenSpec.upto avroOnceSpec)) avroOnceUptoCard

/-- THE SECOND FORM's CARD OF 'lexiconlaw09.AvroFits'. -/
def avroFitsUptoCard : Claim7 := { stood := { row := avroFitsUptoRow, standIns := [], harness := (true, "90552ec6f598ee0692f81d621094276fe501b2980047c28e113317d176c0fbbc"), looks := true }, kinds := [], alts := [], laidByText := true, laidKinds := [.data, .data, .widerDeep, .widerDeep, .data, .data, .data, .data, .data, .data, .sentinel, .sentinel, .pinned, .pinned, .pinned], laidTests := true, laidLooks := .later }
def AvroFitsUptoCardSaid : Prop := Claim7.holds Tryz.pinned (.plain (OpenSpec.upto avroFitsSpec)) avroFitsUptoCard

/-- THE SECOND FORM's CARD OF 'lexiconlaw09.AvroMet'. -/
def avroMetUptoCard : Claim7 := { stood := { row := avroMetUptoRow, standIns := [], harness := (true, "90552ec6f598ee0692f81d621094276fe501b2980047c28e113317d176c0fbbc"), looks := true }, kinds := [], alts := [], laidByText := true, laidKinds := [.data, .data, .widerDeep, .widerDeep, .data, .data, .data, .data, .data, .data, .sentinel, .sentinel, .pinned, .pinned, .pinned], laidTests := true, laidLooks := .later }
def AvroMetUptoCardSaid : Prop := Claim7.holds Tryz.pinned (.plain (OpenSpec.upto avroMetSpec)) avroMetUptoCard

/-- THE SECOND FORM's CARD OF 'lexiconlaw09.AvroPlain'. -/
def avroPlainUptoCard : Claim7 := { stood := { row := avroPlainUptoRow, standIns := [], harness := (true, "90552ec6f598ee0692f81d621094276fe501b2980047c28e113317d176c0fbbc"), looks := true }, kinds := [], alts := [], laidByText := true, laidKinds := [.data, .data, .widerDeep, .widerDeep, .data, .data, .data, .data, .data, .data, .sentinel, .sentinel, .pinned, .pinned, .pinned], laidTests := true, laidLooks := .later }
def AvroPlainUptoCardSaid : Prop := Claim7.holds Tryz.pinned (.plain (OpenSpec.upto avroPlainSpec)) avroPlainUptoCard
end Rows
end Go.Proofs.YtiaeljbnhdhfcaaGreatDoor
