/- reader.value, jsontext.Parse. -/
import Derived.Test.YtiaeljbnhdhfcaaGreatDoorP2
namespace Go.Proofs.YtiaeljbnhdhfcaaGreatDoor
open Go Go.RowKit Go.Lx Go.Mo

def textF (args : List HV) (L : List Ob) : Option (KR → Bool) := match args with
  | [.ptr id 0] => (match L[id]? with
    | some (.box t (.st [.v (.string s), .v (.bool a), .v (.bool w), .v (.bool g)])) =>
      some (fun kr => Nat.beq t 90 && decide (s.data.toList.length ≤ B42) && quotedOk s.data.toList && !decide (quotedLen s.data.toList = 0) && kr (.ret (tx (textOf s.data.toList))) (L.set id (rdr (behind s.data.toList) a w g)))
    | _ => none)
  | _ => none

abbrev ValG := List UInt8 → Bool → Option (J × List UInt8 × Bool)

def valE (V : ValG) (args : List HV) (L : List Ob) : Option (KR → Bool) := match args with
  | [.ptr id 0] => (match L[id]? with
    | some (.box t (.st [.v (.string s), .v (.bool a), .v (.bool w), .v (.bool g)])) =>
      some (fun kr => Nat.beq t 90 && decide (s.data.toList.length ≤ B42) && forkV (V s.data.toList w) (fun j s' w' => kr (.ret (.d .json j)) (L.set id (rdr s' a w' g))))
    | _ => none)
  | _ => none

noncomputable def G11 : Gam := addL 89 textF G10
noncomputable def G12 (V : ValG) : Gam := addL 45 (valE V) G11

def zdec : HV := .st [.v (.bool false), .v (.string ⟨⟨[]⟩⟩), .v (.int .i64 0)]
/-- The value that is read into. -/
def vbox (k : Int) (n m : Nat) : Ob := .box 43 (.st [.v (.int .i64 k), .v (.bool false), zdec, .v (.string ⟨⟨[]⟩⟩), .own .json 3 0 n, .own .str 4 0 m])
def st88 (k e : Int) (s : List UInt8) (a w g : Bool) (es : List (ByteArray × Int)) (js : List J) (ns : List ByteArray) : St :=
  ⟨slots 73 [(0, .ptr 0 0), (1, .ptr 1 0), (2, .v (.int .u8 e)), (6, .map 2)], [rdr s a w g, vbox k js.length ns.length, .map .str (.int .i64) es, .row .json 0 0 js, .row .str 0 0 ns]⟩

theorem a88 (k e : Int) (s : List UInt8) (a w g : Bool) (o : Ob) (kk : KX) : evd G11 1 (pc 88 [0]) ⟨argT 0 [.ptr 0 0, .ptr 1 0, .v (.int .u8 e)] ⟨73, .nil⟩, [rdr s a w g, o]⟩ (fun x st => kk x (st.keep [0, 1, 2, 6])) = (kk HX.normal ⟨slots 73 [(0, (HV.ptr 0 0)), (1, (HV.ptr 1 0)), (2, (HV.v (Value.int IntKind.u8 e))), (6, (HV.map 2))], [(Ob.box 90 (HV.st [(HV.v (Value.string (ByteArray.mk (Array.mk s)))), (HV.v (Value.bool a)), (HV.v (Value.bool w)), (HV.v (Value.bool g))])), o, (Ob.map Cd.str (Cd.int IntKind.i64) [])]⟩) := by kernel_rfl
theorem b88o (s : List UInt8) (a w g : Bool) (es : List (ByteArray × Int)) (js : List J) (ns : List ByteArray) (kk : KX) : evd G11 2 (pc 88 [1, 0, 0, 0, 0]) (st88 5 125 s a w g es js ns) (fun x st => kk x (st.keep [0, 1, 2, 6])) = (fork (skipL s) ((kk (HX.panic (HV.iface 130 (HV.st [(HV.v (Value.int IntKind.i64 180))]))) ⟨slots 73 [(0, (HV.ptr 0 0)), (1, (HV.ptr 1 0)), (2, (HV.v (Value.int IntKind.u8 125))), (6, (HV.map 2))], [(Ob.box 90 (HV.st [(HV.v (Value.string (ByteArray.mk (Array.mk [])))), (HV.v (Value.bool a)), (HV.v (Value.bool w)), (HV.v (Value.bool g))])), (Ob.box 43 (HV.st [(HV.v (Value.int IntKind.i64 5)), (HV.v (Value.bool Bool.false)), (HV.st [(HV.v (Value.bool Bool.false)), (HV.v (Value.string (ByteArray.mk (Array.mk [])))), (HV.v (Value.int IntKind.i64 0))]), (HV.v (Value.string (ByteArray.mk (Array.mk [])))), (HV.own Cd.json 3 0 (List.length js)), (HV.own Cd.str 4 0 (List.length ns))])), (Ob.map Cd.str (Cd.int IntKind.i64) es), (Ob.row Cd.json 0 0 js), (Ob.row Cd.str 0 0 ns)]⟩)) (fun c0 r0 => ((decide (0 < (((ByteArray.size (ByteArray.mk (Array.mk (c0 :: r0)))) : Nat) : Int))) && (bif (!(ltI (idxGo (UInt8.ofNat (Int.toNat (((UInt8.toNat c0) : Nat) : Int))) [44] 0) 0)) then (((decide (1 ≤ (((ByteArray.size (ByteArray.mk (Array.mk (c0 :: r0)))) : Nat) : Int))) && (decide ((((ByteArray.size (ByteArray.mk (Array.mk (c0 :: r0)))) : Nat) : Int) ≤ (((ByteArray.size (ByteArray.mk (Array.mk (c0 :: r0)))) : Nat) : Int)))) && (bif (!(decide ((((UInt8.toNat c0) : Nat) : Int) = 125))) then (kk HX.normal ⟨slots 73 [(0, (HV.ptr 0 0)), (1, (HV.ptr 1 0)), (2, (HV.v (Value.int IntKind.u8 125))), (6, (HV.map 2))], [(Ob.box 90 (HV.st [(HV.v (Value.string (ByteArray.mk (Array.mk r0)))), (HV.v (Value.bool a)), (HV.v (Value.bool w)), (HV.v (Value.bool g))])), (Ob.box 43 (HV.st [(HV.v (Value.int IntKind.i64 5)), (HV.v (Value.bool Bool.false)), (HV.st [(HV.v (Value.bool Bool.false)), (HV.v (Value.string (ByteArray.mk (Array.mk [])))), (HV.v (Value.int IntKind.i64 0))]), (HV.v (Value.string (ByteArray.mk (Array.mk [])))), (HV.own Cd.json 3 0 (List.length js)), (HV.own Cd.str 4 0 (List.length ns))])), (Ob.map Cd.str (Cd.int IntKind.i64) es), (Ob.row Cd.json 0 0 js), (Ob.row Cd.str 0 0 ns)]⟩) else (kk (HX.exit 0) ⟨slots 73 [(0, (HV.ptr 0 0)), (1, (HV.ptr 1 0)), (2, (HV.v (Value.int IntKind.u8 125))), (6, (HV.map 2))], [(Ob.box 90 (HV.st [(HV.v (Value.string (ByteArray.mk (Array.mk r0)))), (HV.v (Value.bool a)), (HV.v (Value.bool w)), (HV.v (Value.bool g))])), (Ob.box 43 (HV.st [(HV.v (Value.int IntKind.i64 5)), (HV.v (Value.bool Bool.false)), (HV.st [(HV.v (Value.bool Bool.false)), (HV.v (Value.string (ByteArray.mk (Array.mk [])))), (HV.v (Value.int IntKind.i64 0))]), (HV.v (Value.string (ByteArray.mk (Array.mk [])))), (HV.own Cd.json 3 0 (List.length js)), (HV.own Cd.str 4 0 (List.length ns))])), (Ob.map Cd.str (Cd.int IntKind.i64) es), (Ob.row Cd.json 0 0 js), (Ob.row Cd.str 0 0 ns)]⟩))) else (bif (!(decide ((((UInt8.toNat c0) : Nat) : Int) = 125))) then (kk HX.normal ⟨slots 73 [(0, (HV.ptr 0 0)), (1, (HV.ptr 1 0)), (2, (HV.v (Value.int IntKind.u8 125))), (6, (HV.map 2))], [(Ob.box 90 (HV.st [(HV.v (Value.string (ByteArray.mk (Array.mk (c0 :: r0))))), (HV.v (Value.bool a)), (HV.v (Value.bool w)), (HV.v (Value.bool g))])), (Ob.box 43 (HV.st [(HV.v (Value.int IntKind.i64 5)), (HV.v (Value.bool Bool.false)), (HV.st [(HV.v (Value.bool Bool.false)), (HV.v (Value.string (ByteArray.mk (Array.mk [])))), (HV.v (Value.int IntKind.i64 0))]), (HV.v (Value.string (ByteArray.mk (Array.mk [])))), (HV.own Cd.json 3 0 (List.length js)), (HV.own Cd.str 4 0 (List.length ns))])), (Ob.map Cd.str (Cd.int IntKind.i64) es), (Ob.row Cd.json 0 0 js), (Ob.row Cd.str 0 0 ns)]⟩) else (kk (HX.exit 0) ⟨slots 73 [(0, (HV.ptr 0 0)), (1, (HV.ptr 1 0)), (2, (HV.v (Value.int IntKind.u8 125))), (6, (HV.map 2))], [(Ob.box 90 (HV.st [(HV.v (Value.string (ByteArray.mk (Array.mk (c0 :: r0))))), (HV.v (Value.bool a)), (HV.v (Value.bool w)), (HV.v (Value.bool g))])), (Ob.box 43 (HV.st [(HV.v (Value.int IntKind.i64 5)), (HV.v (Value.bool Bool.false)), (HV.st [(HV.v (Value.bool Bool.false)), (HV.v (Value.string (ByteArray.mk (Array.mk [])))), (HV.v (Value.int IntKind.i64 0))]), (HV.v (Value.string (ByteArray.mk (Array.mk [])))), (HV.own Cd.json 3 0 (List.length js)), (HV.own Cd.str 4 0 (List.length ns))])), (Ob.map Cd.str (Cd.int IntKind.i64) es), (Ob.row Cd.json 0 0 js), (Ob.row Cd.str 0 0 ns)]⟩)))))) := by kernel_rfl
theorem b88l (s : List UInt8) (a w g : Bool) (es : List (ByteArray × Int)) (js : List J) (ns : List ByteArray) (kk : KX) : evd G11 2 (pc 88 [1, 0, 0, 0, 0]) (st88 4 93 s a w g es js ns) (fun x st => kk x (st.keep [0, 1, 2, 6])) = (fork (skipL s) ((kk (HX.panic (HV.iface 130 (HV.st [(HV.v (Value.int IntKind.i64 180))]))) ⟨slots 73 [(0, (HV.ptr 0 0)), (1, (HV.ptr 1 0)), (2, (HV.v (Value.int IntKind.u8 93))), (6, (HV.map 2))], [(Ob.box 90 (HV.st [(HV.v (Value.string (ByteArray.mk (Array.mk [])))), (HV.v (Value.bool a)), (HV.v (Value.bool w)), (HV.v (Value.bool g))])), (Ob.box 43 (HV.st [(HV.v (Value.int IntKind.i64 4)), (HV.v (Value.bool Bool.false)), (HV.st [(HV.v (Value.bool Bool.false)), (HV.v (Value.string (ByteArray.mk (Array.mk [])))), (HV.v (Value.int IntKind.i64 0))]), (HV.v (Value.string (ByteArray.mk (Array.mk [])))), (HV.own Cd.json 3 0 (List.length js)), (HV.own Cd.str 4 0 (List.length ns))])), (Ob.map Cd.str (Cd.int IntKind.i64) es), (Ob.row Cd.json 0 0 js), (Ob.row Cd.str 0 0 ns)]⟩)) (fun c0 r0 => ((decide (0 < (((ByteArray.size (ByteArray.mk (Array.mk (c0 :: r0)))) : Nat) : Int))) && (bif (!(ltI (idxGo (UInt8.ofNat (Int.toNat (((UInt8.toNat c0) : Nat) : Int))) [44] 0) 0)) then (((decide (1 ≤ (((ByteArray.size (ByteArray.mk (Array.mk (c0 :: r0)))) : Nat) : Int))) && (decide ((((ByteArray.size (ByteArray.mk (Array.mk (c0 :: r0)))) : Nat) : Int) ≤ (((ByteArray.size (ByteArray.mk (Array.mk (c0 :: r0)))) : Nat) : Int)))) && (bif (!(decide ((((UInt8.toNat c0) : Nat) : Int) = 93))) then (kk HX.normal ⟨slots 73 [(0, (HV.ptr 0 0)), (1, (HV.ptr 1 0)), (2, (HV.v (Value.int IntKind.u8 93))), (6, (HV.map 2))], [(Ob.box 90 (HV.st [(HV.v (Value.string (ByteArray.mk (Array.mk r0)))), (HV.v (Value.bool a)), (HV.v (Value.bool w)), (HV.v (Value.bool g))])), (Ob.box 43 (HV.st [(HV.v (Value.int IntKind.i64 4)), (HV.v (Value.bool Bool.false)), (HV.st [(HV.v (Value.bool Bool.false)), (HV.v (Value.string (ByteArray.mk (Array.mk [])))), (HV.v (Value.int IntKind.i64 0))]), (HV.v (Value.string (ByteArray.mk (Array.mk [])))), (HV.own Cd.json 3 0 (List.length js)), (HV.own Cd.str 4 0 (List.length ns))])), (Ob.map Cd.str (Cd.int IntKind.i64) es), (Ob.row Cd.json 0 0 js), (Ob.row Cd.str 0 0 ns)]⟩) else (kk (HX.exit 0) ⟨slots 73 [(0, (HV.ptr 0 0)), (1, (HV.ptr 1 0)), (2, (HV.v (Value.int IntKind.u8 93))), (6, (HV.map 2))], [(Ob.box 90 (HV.st [(HV.v (Value.string (ByteArray.mk (Array.mk r0)))), (HV.v (Value.bool a)), (HV.v (Value.bool w)), (HV.v (Value.bool g))])), (Ob.box 43 (HV.st [(HV.v (Value.int IntKind.i64 4)), (HV.v (Value.bool Bool.false)), (HV.st [(HV.v (Value.bool Bool.false)), (HV.v (Value.string (ByteArray.mk (Array.mk [])))), (HV.v (Value.int IntKind.i64 0))]), (HV.v (Value.string (ByteArray.mk (Array.mk [])))), (HV.own Cd.json 3 0 (List.length js)), (HV.own Cd.str 4 0 (List.length ns))])), (Ob.map Cd.str (Cd.int IntKind.i64) es), (Ob.row Cd.json 0 0 js), (Ob.row Cd.str 0 0 ns)]⟩))) else (bif (!(decide ((((UInt8.toNat c0) : Nat) : Int) = 93))) then (kk HX.normal ⟨slots 73 [(0, (HV.ptr 0 0)), (1, (HV.ptr 1 0)), (2, (HV.v (Value.int IntKind.u8 93))), (6, (HV.map 2))], [(Ob.box 90 (HV.st [(HV.v (Value.string (ByteArray.mk (Array.mk (c0 :: r0))))), (HV.v (Value.bool a)), (HV.v (Value.bool w)), (HV.v (Value.bool g))])), (Ob.box 43 (HV.st [(HV.v (Value.int IntKind.i64 4)), (HV.v (Value.bool Bool.false)), (HV.st [(HV.v (Value.bool Bool.false)), (HV.v (Value.string (ByteArray.mk (Array.mk [])))), (HV.v (Value.int IntKind.i64 0))]), (HV.v (Value.string (ByteArray.mk (Array.mk [])))), (HV.own Cd.json 3 0 (List.length js)), (HV.own Cd.str 4 0 (List.length ns))])), (Ob.map Cd.str (Cd.int IntKind.i64) es), (Ob.row Cd.json 0 0 js), (Ob.row Cd.str 0 0 ns)]⟩) else (kk (HX.exit 0) ⟨slots 73 [(0, (HV.ptr 0 0)), (1, (HV.ptr 1 0)), (2, (HV.v (Value.int IntKind.u8 93))), (6, (HV.map 2))], [(Ob.box 90 (HV.st [(HV.v (Value.string (ByteArray.mk (Array.mk (c0 :: r0))))), (HV.v (Value.bool a)), (HV.v (Value.bool w)), (HV.v (Value.bool g))])), (Ob.box 43 (HV.st [(HV.v (Value.int IntKind.i64 4)), (HV.v (Value.bool Bool.false)), (HV.st [(HV.v (Value.bool Bool.false)), (HV.v (Value.string (ByteArray.mk (Array.mk [])))), (HV.v (Value.int IntKind.i64 0))]), (HV.v (Value.string (ByteArray.mk (Array.mk [])))), (HV.own Cd.json 3 0 (List.length js)), (HV.own Cd.str 4 0 (List.length ns))])), (Ob.map Cd.str (Cd.int IntKind.i64) es), (Ob.row Cd.json 0 0 js), (Ob.row Cd.str 0 0 ns)]⟩)))))) := by kernel_rfl
theorem c88l (s : List UInt8) (a w g : Bool) (es : List (ByteArray × Int)) (js : List J) (ns : List ByteArray) (kk : KX) : evd G11 2 (pc 88 [1, 0, 0, 0, 1, 0, 0]) (st88 4 93 s a w g es js ns) (fun x st => kk x (st.keep [0, 1, 2, 6])) = (kk HX.normal ⟨slots 73 [(0, (HV.ptr 0 0)), (1, (HV.ptr 1 0)), (2, (HV.v (Value.int IntKind.u8 93))), (6, (HV.map 2))], [(Ob.box 90 (HV.st [(HV.v (Value.string (ByteArray.mk (Array.mk s)))), (HV.v (Value.bool a)), (HV.v (Value.bool w)), (HV.v (Value.bool g))])), (Ob.box 43 (HV.st [(HV.v (Value.int IntKind.i64 4)), (HV.v (Value.bool Bool.false)), (HV.st [(HV.v (Value.bool Bool.false)), (HV.v (Value.string (ByteArray.mk (Array.mk [])))), (HV.v (Value.int IntKind.i64 0))]), (HV.v (Value.string (ByteArray.mk (Array.mk [])))), (HV.own Cd.json 3 0 (List.length js)), (HV.own Cd.str 4 0 (List.length ns))])), (Ob.map Cd.str (Cd.int IntKind.i64) es), (Ob.row Cd.json 0 0 js), (Ob.row Cd.str 0 0 ns)]⟩) := by kernel_rfl
theorem c88o (s : List UInt8) (a w g : Bool) (es : List (ByteArray × Int)) (js : List J) (ns : List ByteArray) (kk : KX) : evd G11 2 (pc 88 [1, 0, 0, 0, 1, 0, 0]) (st88 5 125 s a w g es js ns) (fun x st => kk x (st.keep [0, 1, 2, 6])) = (fork (skipL s) ((kk (HX.panic (HV.iface 130 (HV.st [(HV.v (Value.int IntKind.i64 180))]))) ⟨slots 73 [(0, (HV.ptr 0 0)), (1, (HV.ptr 1 0)), (2, (HV.v (Value.int IntKind.u8 125))), (6, (HV.map 2))], [(Ob.box 90 (HV.st [(HV.v (Value.string (ByteArray.mk (Array.mk [])))), (HV.v (Value.bool a)), (HV.v (Value.bool w)), (HV.v (Value.bool g))])), (Ob.box 43 (HV.st [(HV.v (Value.int IntKind.i64 5)), (HV.v (Value.bool Bool.false)), (HV.st [(HV.v (Value.bool Bool.false)), (HV.v (Value.string (ByteArray.mk (Array.mk [])))), (HV.v (Value.int IntKind.i64 0))]), (HV.v (Value.string (ByteArray.mk (Array.mk [])))), (HV.own Cd.json 3 0 (List.length js)), (HV.own Cd.str 4 0 (List.length ns))])), (Ob.map Cd.str (Cd.int IntKind.i64) es), (Ob.row Cd.json 0 0 js), (Ob.row Cd.str 0 0 ns)]⟩)) (fun c0 r0 => ((decide (0 < (((ByteArray.size (ByteArray.mk (Array.mk (c0 :: r0)))) : Nat) : Int))) && ((((decide (((List.length r0) + 1) ≤ 100000000)) && (quotedOk (c0 :: r0))) && (!(decide ((quotedLen (c0 :: r0)) = 0)))) && (((!(decide (w = Bool.false))) || Bool.true) && (((!(decide (w = Bool.false))) || Bool.true) && (((!(decide (w = Bool.false))) || ((((!(decide (w = Bool.false))) || (decide (w = Bool.false))) && ((!(decide (w = Bool.false))) || (decide (w = Bool.false)))) && Bool.true)) && (((!(decide (w = Bool.false))) || ((((!(decide (w = Bool.false))) || (decide (w = Bool.false))) && Bool.true) && Bool.true)) && (((!(!w)) || (decide (w = Bool.false))) && ((((decide ((List.length ns) ≤ (List.length ns))) && Bool.true) && (decide ((((List.length ns) + 1) * 16) ≤ 140737488355328))) && (fork (skipL (behind (c0 :: r0))) ((kk (HX.panic (HV.iface 130 (HV.st [(HV.v (Value.int IntKind.i64 180))]))) ⟨slots 73 [(0, (HV.ptr 0 0)), (1, (HV.ptr 1 0)), (2, (HV.v (Value.int IntKind.u8 125))), (6, (HV.map 2))], [(Ob.box 90 (HV.st [(HV.v (Value.string (ByteArray.mk (Array.mk [])))), (HV.v (Value.bool a)), (HV.v (Value.bool (w || (ltI 0 (mval (k := Cd.str) (v := (Cd.int IntKind.i64)) es (ByteArray.mk (Array.mk (textOf (c0 :: r0))))))))), (HV.v (Value.bool g))])), (Ob.box 43 (HV.st [(HV.v (Value.int IntKind.i64 5)), (HV.v (Value.bool Bool.false)), (HV.st [(HV.v (Value.bool Bool.false)), (HV.v (Value.string (ByteArray.mk (Array.mk [])))), (HV.v (Value.int IntKind.i64 0))]), (HV.v (Value.string (ByteArray.mk (Array.mk [])))), (HV.own Cd.json 3 0 (List.length js)), (HV.own Cd.str 4 1 ((List.length ns) + 1))])), (Ob.map Cd.str (Cd.int IntKind.i64) (mput (k := Cd.str) (v := (Cd.int IntKind.i64)) es (ByteArray.mk (Array.mk (textOf (c0 :: r0)))) (fwrap IntKind.i64 ((mval (k := Cd.str) (v := (Cd.int IntKind.i64)) es (ByteArray.mk (Array.mk (textOf (c0 :: r0))))) + 1)))), (Ob.row Cd.json 0 0 js), (Ob.row Cd.str 1 0 ((List.take (List.length ns) ns) ++ [(ByteArray.mk (Array.mk (textOf (c0 :: r0))))]))]⟩)) (fun c1 r1 => ((decide (0 < (((ByteArray.size (ByteArray.mk (Array.mk (c1 :: r1)))) : Nat) : Int))) && (bif (!(ltI (idxGo (UInt8.ofNat (Int.toNat (((UInt8.toNat c1) : Nat) : Int))) [58] 0) 0)) then (((decide (1 ≤ (((ByteArray.size (ByteArray.mk (Array.mk (c1 :: r1)))) : Nat) : Int))) && (decide ((((ByteArray.size (ByteArray.mk (Array.mk (c1 :: r1)))) : Nat) : Int) ≤ (((ByteArray.size (ByteArray.mk (Array.mk (c1 :: r1)))) : Nat) : Int)))) && (kk HX.normal ⟨slots 73 [(0, (HV.ptr 0 0)), (1, (HV.ptr 1 0)), (2, (HV.v (Value.int IntKind.u8 125))), (6, (HV.map 2))], [(Ob.box 90 (HV.st [(HV.v (Value.string (ByteArray.mk (Array.mk r1)))), (HV.v (Value.bool a)), (HV.v (Value.bool (w || (ltI 0 (mval (k := Cd.str) (v := (Cd.int IntKind.i64)) es (ByteArray.mk (Array.mk (textOf (c0 :: r0))))))))), (HV.v (Value.bool g))])), (Ob.box 43 (HV.st [(HV.v (Value.int IntKind.i64 5)), (HV.v (Value.bool Bool.false)), (HV.st [(HV.v (Value.bool Bool.false)), (HV.v (Value.string (ByteArray.mk (Array.mk [])))), (HV.v (Value.int IntKind.i64 0))]), (HV.v (Value.string (ByteArray.mk (Array.mk [])))), (HV.own Cd.json 3 0 (List.length js)), (HV.own Cd.str 4 1 ((List.length ns) + 1))])), (Ob.map Cd.str (Cd.int IntKind.i64) (mput (k := Cd.str) (v := (Cd.int IntKind.i64)) es (ByteArray.mk (Array.mk (textOf (c0 :: r0)))) (fwrap IntKind.i64 ((mval (k := Cd.str) (v := (Cd.int IntKind.i64)) es (ByteArray.mk (Array.mk (textOf (c0 :: r0))))) + 1)))), (Ob.row Cd.json 0 0 js), (Ob.row Cd.str 1 0 ((List.take (List.length ns) ns) ++ [(ByteArray.mk (Array.mk (textOf (c0 :: r0))))]))]⟩)) else (kk HX.normal ⟨slots 73 [(0, (HV.ptr 0 0)), (1, (HV.ptr 1 0)), (2, (HV.v (Value.int IntKind.u8 125))), (6, (HV.map 2))], [(Ob.box 90 (HV.st [(HV.v (Value.string (ByteArray.mk (Array.mk (c1 :: r1))))), (HV.v (Value.bool a)), (HV.v (Value.bool (w || (ltI 0 (mval (k := Cd.str) (v := (Cd.int IntKind.i64)) es (ByteArray.mk (Array.mk (textOf (c0 :: r0))))))))), (HV.v (Value.bool g))])), (Ob.box 43 (HV.st [(HV.v (Value.int IntKind.i64 5)), (HV.v (Value.bool Bool.false)), (HV.st [(HV.v (Value.bool Bool.false)), (HV.v (Value.string (ByteArray.mk (Array.mk [])))), (HV.v (Value.int IntKind.i64 0))]), (HV.v (Value.string (ByteArray.mk (Array.mk [])))), (HV.own Cd.json 3 0 (List.length js)), (HV.own Cd.str 4 1 ((List.length ns) + 1))])), (Ob.map Cd.str (Cd.int IntKind.i64) (mput (k := Cd.str) (v := (Cd.int IntKind.i64)) es (ByteArray.mk (Array.mk (textOf (c0 :: r0)))) (fwrap IntKind.i64 ((mval (k := Cd.str) (v := (Cd.int IntKind.i64)) es (ByteArray.mk (Array.mk (textOf (c0 :: r0))))) + 1)))), (Ob.row Cd.json 0 0 js), (Ob.row Cd.str 1 0 ((List.take (List.length ns) ns) ++ [(ByteArray.mk (Array.mk (textOf (c0 :: r0))))]))]⟩))))))))))))))) := by kernel_rfl
theorem d88 (V : ValG) (k e : Int) (s : List UInt8) (a w g : Bool) (es : List (ByteArray × Int)) (js : List J) (ns : List ByteArray) (kk : KX) : evd (G12 V) 2 (pc 88 [1, 0, 0, 0, 1, 0, 1, 0]) (st88 k e s a w g es js ns) (fun x st => kk x (st.keep [0, 1, 2, 6])) = (((decide ((List.length s) ≤ 100000000)) && (forkV (V s w) (fun c0 r0 p02 => (((decide ((((List.length js) : Nat) : Int) = (((List.length js) : Nat) : Int))) && ((Nat.beq (List.length js) (List.length js)) && Bool.true)) && (((((decide ((List.length js) ≤ (List.length js))) && Bool.true) && (decide ((((List.length js) + 1) * 112) ≤ 140737488355328))) && (((decide ((((List.length js) : Nat) : Int) < ((((List.length js) + 1) : Nat) : Int))) && (decide (((List.length js) + 1) ≤ (List.length ((List.take (List.length js) js) ++ [(J.mk 0 Bool.false (Dec.mk Bool.false (ByteArray.mk (Array.mk [])) 0) (ByteArray.mk (Array.mk [])) [] [])]))))) && (((((((decide ((Int.toNat (((List.length js) : Nat) : Int)) < (List.length ((List.take (List.length js) js) ++ [(J.mk 0 Bool.false (Dec.mk Bool.false (ByteArray.mk (Array.mk [])) 0) (ByteArray.mk (Array.mk [])) [] [])])))) && Bool.true) && Bool.true) && Bool.true) && Bool.true) && Bool.true) && (((((decide ((((List.length js) : Nat) : Int) < ((((List.length js) + 1) : Nat) : Int))) && (decide (((List.length js) + 1) ≤ (List.length ((List.take (List.length js) js) ++ [(J.mk 0 Bool.false (Dec.mk Bool.false (ByteArray.mk (Array.mk [])) 0) (ByteArray.mk (Array.mk [])) [] [])]))))) && ((Nat.beq (Int.toNat (((List.length js) : Nat) : Int)) (Int.toNat (((List.length js) : Nat) : Int))) && Bool.true)) && Bool.true) && ((((((decide ((Int.toNat (((List.length js) : Nat) : Int)) < (List.length ((List.take (List.length js) js) ++ [(J.mk 0 Bool.false (Dec.mk Bool.false (ByteArray.mk (Array.mk [])) 0) (ByteArray.mk (Array.mk [])) [] [])])))) && Bool.true) && Bool.true) && Bool.true) && Bool.true) && (kk HX.normal ⟨slots 73 [(0, (HV.ptr 0 0)), (1, (HV.ptr 1 0)), (2, (HV.v (Value.int IntKind.u8 e))), (6, (HV.map 2))], [(Ob.box 90 (HV.st [(HV.v (Value.string (ByteArray.mk (Array.mk r0)))), (HV.v (Value.bool a)), (HV.v (Value.bool p02)), (HV.v (Value.bool g))])), (Ob.box 43 (HV.st [(HV.v (Value.int IntKind.i64 k)), (HV.v (Value.bool Bool.false)), (HV.st [(HV.v (Value.bool Bool.false)), (HV.v (Value.string (ByteArray.mk (Array.mk [])))), (HV.v (Value.int IntKind.i64 0))]), (HV.v (Value.string (ByteArray.mk (Array.mk [])))), (HV.own Cd.json 3 1 ((List.length js) + 1)), (HV.own Cd.str 4 0 (List.length ns))])), (Ob.map Cd.str (Cd.int IntKind.i64) es), (Ob.row Cd.json 1 0 (List.set ((List.take (List.length js) js) ++ [(J.mk 0 Bool.false (Dec.mk Bool.false (ByteArray.mk (Array.mk [])) 0) (ByteArray.mk (Array.mk [])) [] [])]) (Int.toNat (((List.length js) : Nat) : Int)) c0)), (Ob.row Cd.str 0 0 ns)]⟩)))))) && Bool.true))))) && Bool.true) := by kernel_rfl
theorem e88 (k e : Int) (s : List UInt8) (a w g : Bool) (es : List (ByteArray × Int)) (js : List J) (ns : List ByteArray) (kk : KX) : evd G11 2 (pc 88 [1, 0, 0, 0, 1, 0, 1, 1]) (st88 k e s a w g es js ns) (fun x st => kk x (st.keep [0, 1, 2, 6])) = (fork (skipL s) ((kk (HX.panic (HV.iface 130 (HV.st [(HV.v (Value.int IntKind.i64 180))]))) ⟨slots 73 [(0, (HV.ptr 0 0)), (1, (HV.ptr 1 0)), (2, (HV.v (Value.int IntKind.u8 e))), (6, (HV.map 2))], [(Ob.box 90 (HV.st [(HV.v (Value.string (ByteArray.mk (Array.mk [])))), (HV.v (Value.bool a)), (HV.v (Value.bool w)), (HV.v (Value.bool g))])), (Ob.box 43 (HV.st [(HV.v (Value.int IntKind.i64 k)), (HV.v (Value.bool Bool.false)), (HV.st [(HV.v (Value.bool Bool.false)), (HV.v (Value.string (ByteArray.mk (Array.mk [])))), (HV.v (Value.int IntKind.i64 0))]), (HV.v (Value.string (ByteArray.mk (Array.mk [])))), (HV.own Cd.json 3 0 (List.length js)), (HV.own Cd.str 4 0 (List.length ns))])), (Ob.map Cd.str (Cd.int IntKind.i64) es), (Ob.row Cd.json 0 0 js), (Ob.row Cd.str 0 0 ns)]⟩)) (fun c0 r0 => ((decide (0 < (((ByteArray.size (ByteArray.mk (Array.mk (c0 :: r0)))) : Nat) : Int))) && (kk HX.normal ⟨slots 73 [(0, (HV.ptr 0 0)), (1, (HV.ptr 1 0)), (2, (HV.v (Value.int IntKind.u8 e))), (6, (HV.map 2))], [(Ob.box 90 (HV.st [(HV.v (Value.string (ByteArray.mk (Array.mk (c0 :: r0))))), (HV.v (Value.bool a)), (HV.v (Value.bool w)), (HV.v (Value.bool g))])), (Ob.box 43 (HV.st [(HV.v (Value.int IntKind.i64 k)), (HV.v (Value.bool Bool.false)), (HV.st [(HV.v (Value.bool Bool.false)), (HV.v (Value.string (ByteArray.mk (Array.mk [])))), (HV.v (Value.int IntKind.i64 0))]), (HV.v (Value.string (ByteArray.mk (Array.mk [])))), (HV.own Cd.json 3 0 (List.length js)), (HV.own Cd.str 4 0 (List.length ns))])), (Ob.map Cd.str (Cd.int IntKind.i64) es), (Ob.row Cd.json 0 0 js), (Ob.row Cd.str 0 0 ns)]⟩)))) := by kernel_rfl
theorem f88 (k e : Int) (s : List UInt8) (a w g : Bool) (es : List (ByteArray × Int)) (js : List J) (ns : List ByteArray) (kk : KX) : evd G11 2 (pc 88 [1, 1]) (st88 k e s a w g es js ns) (fun x st => kk x (st.keep [0, 1, 2, 6])) = (((decide (1 ≤ (((ByteArray.size (ByteArray.mk (Array.mk s))) : Nat) : Int))) && (decide ((((ByteArray.size (ByteArray.mk (Array.mk s))) : Nat) : Int) ≤ (((ByteArray.size (ByteArray.mk (Array.mk s))) : Nat) : Int)))) && (kk HX.normal ⟨slots 73 [(0, (HV.ptr 0 0)), (1, (HV.ptr 1 0)), (2, (HV.v (Value.int IntKind.u8 e))), (6, (HV.map 2))], [(Ob.box 90 (HV.st [(HV.v (Value.string (ByteArray.mk (Array.mk (List.drop 1 s))))), (HV.v (Value.bool a)), (HV.v (Value.bool w)), (HV.v (Value.bool g))])), (Ob.box 43 (HV.st [(HV.v (Value.int IntKind.i64 k)), (HV.v (Value.bool Bool.false)), (HV.st [(HV.v (Value.bool Bool.false)), (HV.v (Value.string (ByteArray.mk (Array.mk [])))), (HV.v (Value.int IntKind.i64 0))]), (HV.v (Value.string (ByteArray.mk (Array.mk [])))), (HV.own Cd.json 3 0 (List.length js)), (HV.own Cd.str 4 0 (List.length ns))])), (Ob.map Cd.str (Cd.int IntKind.i64) es), (Ob.row Cd.json 0 0 js), (Ob.row Cd.str 0 0 ns)]⟩)) := by kernel_rfl

/-! What is read, in lists -/
abbrev Es := List (ByteArray × Int)
def bt' (l : List UInt8) : ByteArray := ⟨⟨l⟩⟩
def mvalS (es : Es) (n : ByteArray) : Int := mval (k := .str) (v := .int .i64) es n
def mputS (es : Es) (n : ByteArray) (x : Int) : Es := mput (k := .str) (v := .int .i64) es n x

/-- The members of an object, the values of a list, up to the end; so many at most. -/
def inL (V : ValG) (o : Bool) : Nat → List UInt8 → Bool → Es → List J → List ByteArray → Option ((List J × List ByteArray × Es) × List UInt8 × Bool)
  | 0, _, _, _, _, _ => none
  | n + 1, s, w, es, js, ns => match skipL s with
    | [] => none
    | c :: r => if (c.toNat : Int) = (if o then 125 else 93) then some ((js, ns, es), r, w) else
      if o then (match skipL (if (c.toNat : Int) = 44 then r else c :: r) with
        | [] => none
        | d :: q => if quotedOk (d :: q) = true ∧ quotedLen (d :: q) ≠ 0 then (match skipL (behind (d :: q)) with
            | [] => none
            | e :: p => match V (if (e.toNat : Int) = 58 then p else e :: p) (w || ltI 0 (mvalS es (bt' (textOf (d :: q))))) with
              | none => none
              | some (j, s2, w2) => match skipL s2 with
                | [] => none
                | x :: y => inL V o n (x :: y) w2 (mputS es (bt' (textOf (d :: q))) (fwrap .i64 (mvalS es (bt' (textOf (d :: q))) + 1))) (js ++ [j]) (ns ++ [bt' (textOf (d :: q))]))
          else none)
      else match V (if (c.toNat : Int) = 44 then r else c :: r) w with
        | none => none
        | some (j, s2, w2) => match skipL s2 with
          | [] => none
          | x :: y => inL V o n (x :: y) w2 es (js ++ [j]) ns

def dz : Dec := ⟨false, ⟨⟨[]⟩⟩, 0⟩

def valS (V : ValG) (s : List UInt8) (w : Bool) : Option (J × List UInt8 × Bool) := match skipL s with
  | [] => none
  | c :: r => if c = 91 then (match inL V false (r.length + 1) r w [] [] [] with
      | some ((js, ns, _), s', w') => some (.mk 4 false dz ⟨⟨[]⟩⟩ js ns, s', w')
      | none => none)
    else if c = 123 then (match inL V true (r.length + 1) r w [] [] [] with
      | some ((js, ns, _), s', w') => some (.mk 5 false dz ⟨⟨[]⟩⟩ js ns, s', w')
      | none => none)
    else if c = 34 then (if quotedOk (c :: r) = true ∧ quotedLen (c :: r) ≠ 0 then some (.mk 3 false dz ⟨⟨textOf (c :: r)⟩⟩ [] [], behind (c :: r), w) else none)
    else none

/-- reader.value, so deep. -/
def valF : Nat → ValG
  | 0 => fun _ _ => none
  | n + 1 => valS (valF n)

/-- What is read gets shorter. -/
def Eats (V : ValG) : Prop := ∀ s w j s' w', V s w = some (j, s', w') → s'.length < s.length

theorem behind_len (s : List UInt8) : (behind s).length ≤ s.length := by unfold behind; simp

theorem inL_len {V : ValG} (hV : Eats V) {o : Bool} : ∀ (n : Nat) (s : List UInt8) (w : Bool) (es : Es) (js : List J) (ns : List ByteArray) (x : List J × List ByteArray × Es) (s' : List UInt8) (w' : Bool), inL V o n s w es js ns = some (x, s', w') → s'.length < s.length
  | 0, _, _, _, _, _, _, _, _, h => by cases h
  | n + 1, s, w, es, js, ns, x, s', w', h => by
    have hl := skipL_len s
    unfold inL at h
    cases hs : skipL s with
    | nil => rw [hs] at h; cases h
    | cons c r =>
      rw [hs] at h hl
      simp only [List.length_cons] at hl
      dsimp only at h
      by_cases hc : (c.toNat : Int) = (if o then 125 else 93)
      · rw [if_pos hc] at h
        simp only [Option.some.injEq, Prod.mk.injEq] at h
        obtain ⟨-, rfl, -⟩ := h
        omega
      · rw [if_neg hc] at h
        have h1 : (if (c.toNat : Int) = 44 then r else c :: r).length ≤ s.length := by split <;> (try simp only [List.length_cons]) <;> omega
        cases o with
        | true =>
          rw [if_pos rfl] at h
          have hl2 := skipL_len (if (c.toNat : Int) = 44 then r else c :: r)
          split at h
          · cases h
          · rename_i d q hq
            rw [hq] at hl2
            split at h
            · have hl3 := skipL_len (behind (d :: q))
              have hb := behind_len (d :: q)
              split at h
              · cases h
              · rename_i e p hp
                rw [hp] at hl3
                have h2 : (if (e.toNat : Int) = 58 then p else e :: p).length ≤ (e :: p).length := by split <;> simp
                split at h
                · cases h
                · rename_i j s2 w2 hv
                  have h3 := hV _ _ _ _ _ hv
                  have hl4 := skipL_len s2
                  split at h
                  · cases h
                  · rename_i x y hy
                    rw [hy] at hl4
                    have := inL_len hV n _ _ _ _ _ _ _ _ h
                    omega
            · cases h
        | false =>
          rw [if_neg (by simp)] at h
          split at h
          · cases h
          · rename_i j s2 w2 hv
            have h3 := hV _ _ _ _ _ hv
            have hl4 := skipL_len s2
            split at h
            · cases h
            · rename_i x y hy
              rw [hy] at hl4
              have := inL_len hV n _ _ _ _ _ _ _ _ h
              omega

theorem valS_len {V : ValG} (hV : Eats V) : Eats (valS V) := by
  intro s w j s' w' h
  have hl := skipL_len s
  unfold valS at h
  cases hs : skipL s with
  | nil => rw [hs] at h; cases h
  | cons c r =>
    rw [hs] at h hl
    simp only [List.length_cons] at hl
    simp only at h
    split at h
    · split at h
      · rename_i hi
        simp only [Option.some.injEq, Prod.mk.injEq] at h
        obtain ⟨-, rfl, -⟩ := h
        have := inL_len hV _ _ _ _ _ _ _ _ _ hi
        omega
      · cases h
    · split at h
      · split at h
        · rename_i hi
          simp only [Option.some.injEq, Prod.mk.injEq] at h
          obtain ⟨-, rfl, -⟩ := h
          have := inL_len hV _ _ _ _ _ _ _ _ _ hi
          omega
        · cases h
      · split at h
        · split at h
          · rename_i hq
            simp only [Option.some.injEq, Prod.mk.injEq] at h
            obtain ⟨-, rfl, -⟩ := h
            obtain ⟨k, hk, hk2, -⟩ := quoted_is hq.1 hq.2
            unfold behind
            rw [hk, Int.toNat_natCast, List.length_drop]
            simp only [List.length_cons] at hk2 ⊢
            omega
          · cases h
        · cases h

theorem valF_len : ∀ n, Eats (valF n)
  | 0 => fun _ _ _ _ _ h => by cases h
  | n + 1 => valS_len (valF_len n)

end Go.Proofs.YtiaeljbnhdhfcaaGreatDoor

namespace Go.Proofs.YtiaeljbnhdhfcaaGreatDoor
open Go Go.RowKit Go.Lx Go.Mo

theorem g88 (k e : Int) (s : List UInt8) (a w g : Bool) (es : Es) (js : List J) (ns : List ByteArray) (o1 o2 : Ob) (kr : KR) : finK Tryz.prog Tryz.f88 [o1, o2] kr (st88 k e s a w g es js ns) = (kr (HR.ret (HV.tup [])) [(Ob.box 90 (HV.st [(HV.v (Value.string (ByteArray.mk (Array.mk s)))), (HV.v (Value.bool a)), (HV.v (Value.bool w)), (HV.v (Value.bool g))])), (Ob.box 43 (HV.st [(HV.v (Value.int IntKind.i64 k)), (HV.v (Value.bool Bool.false)), (HV.st [(HV.v (Value.bool Bool.false)), (HV.v (Value.string (ByteArray.mk (Array.mk [])))), (HV.v (Value.int IntKind.i64 0))]), (HV.v (Value.string (ByteArray.mk (Array.mk [])))), (HV.own Cd.json 3 0 (List.length js)), (HV.own Cd.str 4 0 (List.length ns))])), (Ob.map Cd.str (Cd.int IntKind.i64) es), (Ob.row Cd.json 0 0 js), (Ob.row Cd.str 0 0 ns)]) := by kernel_rfl

theorem code88 : Tryz.f88.body = some (.seq (pc 88 [0]) (.seq (.block 0 (.loop (pc 88 [1, 0, 0, 0]))) (pc 88 [1, 1]))) := by kernel_rfl
theorem code88b : (pc 88 [1, 0, 0, 0]) = .seq (pc 88 [1, 0, 0, 0, 0]) (.block 1 (.seq (pc 88 [1, 0, 0, 0, 1, 0, 0]) (.seq (pc 88 [1, 0, 0, 0, 1, 0, 1, 0]) (pc 88 [1, 0, 0, 0, 1, 0, 1, 1])))) := by kernel_rfl

theorem idx1 (c b : UInt8) : ltI (idxGo (UInt8.ofNat (Int.toNat ((c.toNat : Nat) : Int))) [b] 0) 0 = !decide ((c.toNat : Int) = (b.toNat : Int)) := by
  rw [Int.toNat_natCast, UInt8.ofNat_toNat]
  by_cases h : b = c
  · subst h; simp [idxGo, ltI]; rfl
  · have h1 : (b == c) = false := by simpa using h
    have h2 : ¬ ((c.toNat : Int) = (b.toNat : Int)) := fun e => h (UInt8.toNat_inj.1 (by omega))
    simp [idxGo, h1, h2, ltI]

def vboxR (k : Int) (v n v' m : Nat) : Ob := .box 43 (.st [.v (.int .i64 k), .v (.bool false), zdec, .v (.string ⟨⟨[]⟩⟩), .own .json 3 v n, .own .str 4 v' m])

theorem vw88 (k e : Int) (s : List UInt8) (a w g : Bool) (es : Es) (js : List J) (ns : List ByteArray) : vw [] 5 (st88 k e s a w g es js ns) = st88 k e s a w g es js ns := by kernel_rfl

theorem vw88a (k e : Int) (s : List UInt8) (a w g : Bool) (es : Es) (js : List J) (ns : List ByteArray) (n : Nat) :
    vw [(4, 1, 0)] 5 ⟨slots 73 [(0, .ptr 0 0), (1, .ptr 1 0), (2, .v (.int .u8 e)), (6, .map 2)], [rdr s a w g, vboxR k 0 js.length 1 n, .map .str (.int .i64) es, .row .json 0 0 js, .row .str 1 0 ns]⟩ =
      ⟨slots 73 [(0, .ptr 0 0), (1, .ptr 1 0), (2, .v (.int .u8 e)), (6, .map 2)], [rdr s a w g, vbox k js.length n, .map .str (.int .i64) es, .row .json 0 0 js, .row .str 0 0 ns]⟩ := by kernel_rfl
theorem vw88c (k e : Int) (s : List UInt8) (a w g : Bool) (es : Es) (js : List J) (ns : List ByteArray) (n : Nat) :
    vw [(3, 1, 0)] 5 ⟨slots 73 [(0, .ptr 0 0), (1, .ptr 1 0), (2, .v (.int .u8 e)), (6, .map 2)], [rdr s a w g, vboxR k 1 n 0 ns.length, .map .str (.int .i64) es, .row .json 1 0 js, .row .str 0 0 ns]⟩ =
      ⟨slots 73 [(0, .ptr 0 0), (1, .ptr 1 0), (2, .v (.int .u8 e)), (6, .map 2)], [rdr s a w g, vbox k n ns.length, .map .str (.int .i64) es, .row .json 0 0 js, .row .str 0 0 ns]⟩ := by kernel_rfl

section
variable {w0 : World} {V : ValG} {a g : Bool} {k e : Int}

theorem wpA_names {L0 : List Ob} {c : Code} {F : HX → St → Prop} {s : List UInt8} {w : Bool} {es : Es} {js : List J} {ns : List ByteArray} {nm : ByteArray} (hL : L0.length ≤ 5) (h4 : L0[4]? = none) (h : WpA Tryz.prog w0 L0 c (st88 k e s a w g es js (ns ++ [nm])) F) :
    WpA Tryz.prog w0 L0 c ⟨slots 73 [(0, .ptr 0 0), (1, .ptr 1 0), (2, .v (.int .u8 e)), (6, .map 2)], [rdr s a w g, vboxR k 0 js.length 1 (ns.length + 1), .map .str (.int .i64) es, .row .json 0 0 js, .row .str 1 0 (List.take ns.length ns ++ [nm])]⟩ F := by
  refine wpA_view [(4, 1, 0)] 5 ?_ ?_
  · simp [vwOk, h4, hL, isRowV]
  · rw [vw88a, List.take_length]
    have hl : (ns ++ [nm]).length = ns.length + 1 := by simp
    rw [← hl]
    exact h

theorem wpA_vals {L0 : List Ob} {c : Code} {F : HX → St → Prop} {s : List UInt8} {w : Bool} {es : Es} {js : List J} {ns : List ByteArray} {j z : J} (hL : L0.length ≤ 5) (h3 : L0[3]? = none) (h : WpA Tryz.prog w0 L0 c (st88 k e s a w g es (js ++ [j]) ns) F) :
    WpA Tryz.prog w0 L0 c ⟨slots 73 [(0, .ptr 0 0), (1, .ptr 1 0), (2, .v (.int .u8 e)), (6, .map 2)], [rdr s a w g, vboxR k 1 (js.length + 1) 0 ns.length, .map .str (.int .i64) es, .row .json 1 0 (List.set (List.take js.length js ++ [z]) (Int.toNat ((js.length : Nat) : Int)) j), .row .str 0 0 ns]⟩ F := by
  refine wpA_view [(3, 1, 0)] 5 ?_ ?_
  · simp [vwOk, h3, hL, isRowV]
  · have he : List.set (List.take js.length js ++ [z]) (Int.toNat ((js.length : Nat) : Int)) j = js ++ [j] := by
      rw [List.take_length, Int.toNat_natCast, List.set_append_right _ _ (Nat.le_refl _), Nat.sub_self]; rfl
    rw [he, vw88c]
    have hl : (js ++ [j]).length = js.length + 1 := by simp
    rw [← hl]
    exact h

abbrev kO (o : Bool) : Int := bif o then 5 else 4
abbrev eO (o : Bool) : Int := bif o then 125 else 93

theorem head88 (hG : GamOK Tryz.prog w0 G11) {L0 : List Ob} {F : HX → St → Prop} {o : Bool} {s : List UInt8} {w : Bool} {es : Es} {js : List J} {ns : List ByteArray} {c : UInt8} {r : List UInt8} (hs : skipL s = c :: r)
    (h : if (c.toNat : Int) = eO o then F (.exit 0) (st88 (kO o) (eO o) (c :: r) a w g es js ns) else F .normal (st88 (kO o) (eO o) (if (c.toNat : Int) = 44 then r else c :: r) a w g es js ns)) :
    WpA Tryz.prog w0 L0 (pc 88 [1, 0, 0, 0, 0]) (st88 (kO o) (eO o) s a w g es js ns) F := by
  have key : ∀ {R : KX → Bool}, (∀ kk : KX, evd G11 2 (pc 88 [1, 0, 0, 0, 0]) (st88 (kO o) (eO o) s a w g es js ns) (fun x st => kk x (st.keep [0, 1, 2, 6])) = R kk) → R (fun x st' => yes (F x st')) = true → WpA Tryz.prog w0 L0 (pc 88 [1, 0, 0, 0, 0]) (st88 (kO o) (eO o) s a w g es js ns) F := fun hr hh => (evd_ok hG [0, 1, 2, 6] hr hh).wpA
  cases o with
  | true =>
    refine key (b88o s a w g es js ns) ?_
    rw [hs]
    simp only [fork, gd1, gd2, gd3, Bool.true_and, idx1, show ((44 : UInt8).toNat : Int) = 44 from rfl, Bool.not_not]
    by_cases hc : (c.toNat : Int) = 125
    · have h44 : ¬ (c.toNat : Int) = 44 := by omega
      rw [if_pos (show (c.toNat : Int) = eO true from hc)] at h
      simp only [hc, decide_true, Bool.not_true, cond_false, h44, decide_false]
      rw [decide_eq_false (show ¬ (125 : Int) = 44 by decide), cond_false]
      exact yes_mk h
    · rw [if_neg (show ¬ (c.toNat : Int) = eO true from hc)] at h
      simp only [hc, decide_false, Bool.not_false, cond_true]
      by_cases h44 : (c.toNat : Int) = 44
      · rw [if_pos h44] at h
        simp only [h44, decide_true, cond_true]
        exact yes_mk h
      · rw [if_neg h44] at h
        simp only [h44, decide_false, cond_false]
        exact yes_mk h
  | false =>
    refine key (b88l s a w g es js ns) ?_
    rw [hs]
    simp only [fork, gd1, gd2, gd3, Bool.true_and, idx1, show ((44 : UInt8).toNat : Int) = 44 from rfl, Bool.not_not]
    by_cases hc : (c.toNat : Int) = 93
    · have h44 : ¬ (c.toNat : Int) = 44 := by omega
      rw [if_pos (show (c.toNat : Int) = eO false from hc)] at h
      simp only [hc, decide_true, Bool.not_true, cond_false, h44, decide_false]
      rw [decide_eq_false (show ¬ (93 : Int) = 44 by decide), cond_false]
      exact yes_mk h
    · rw [if_neg (show ¬ (c.toNat : Int) = eO false from hc)] at h
      simp only [hc, decide_false, Bool.not_false, cond_true]
      by_cases h44 : (c.toNat : Int) = 44
      · rw [if_pos h44] at h
        simp only [h44, decide_true, cond_true]
        exact yes_mk h
      · rw [if_neg h44] at h
        simp only [h44, decide_false, cond_false]
        exact yes_mk h

/-- A value, and to what is behind it. -/
theorem tail88 (hG : GamOK Tryz.prog w0 G11) (hGV : GamOK Tryz.prog w0 (G12 V)) {L0 : List Ob} {F : HX → St → Prop} {s : List UInt8} {w : Bool} {es : Es} {js : List J} {ns : List ByteArray} {j : J} {s2 : List UInt8} {w2 : Bool} {x : UInt8} {y : List UInt8}
    (hL : L0.length ≤ 5) (h3 : L0[3]? = none) (hlen : s.length ≤ B42) (hjs : js.length ≤ B42) (hv : V s w = some (j, s2, w2)) (hs2 : skipL s2 = x :: y) (h : F .normal (st88 k e (x :: y) a w2 g es (js ++ [j]) ns)) :
    WpA Tryz.prog w0 L0 (.seq (pc 88 [1, 0, 0, 0, 1, 0, 1, 0]) (pc 88 [1, 0, 0, 0, 1, 0, 1, 1])) (st88 k e s a w g es js ns) F := by
  refine wpA_seq ((evd_ok hGV [0, 1, 2, 6] (d88 V k e s a w g es js ns) ?_).wpA)
  rw [hv]
  have l1 : (List.take js.length js ++ [(J.mk 0 false (Dec.mk false (ByteArray.mk (Array.mk [])) 0) (ByteArray.mk (Array.mk [])) [] [])]).length = js.length + 1 := by simp
  simp only [forkV, l1, Int.toNat_natCast, decide_eq_true (show s.length ≤ 100000000 from hlen), decide_eq_true (show js.length ≤ js.length from Nat.le_refl _), decide_eq_true (show (js.length + 1) * 112 ≤ 140737488355328 by unfold B42 at hjs; omega), decide_eq_true (show ((js.length : Nat) : Int) < ((js.length + 1 : Nat) : Int) by omega), decide_eq_true (show js.length + 1 ≤ js.length + 1 from Nat.le_refl _), decide_eq_true (show js.length < js.length + 1 from Nat.lt_succ_self _), Nat.beq_refl, decide_true, Bool.true_and, Bool.and_true]
  refine yes_mk ?_
  have := wpA_vals (w0 := w0) (L0 := L0) (a := a) (g := g) (k := k) (e := e) (c := (pc 88 [1, 0, 0, 0, 1, 0, 1, 1])) (F := F) (s := s2) (w := w2) (es := es) (js := js) (ns := ns) (j := j) (z := (J.mk 0 false (Dec.mk false (ByteArray.mk (Array.mk [])) 0) (ByteArray.mk (Array.mk [])) [] [])) hL h3 ?_
  · rw [Int.toNat_natCast] at this
    exact this
  · refine (evd_ok hG [0, 1, 2, 6] (e88 k e s2 a w2 g es (js ++ [j]) ns) ?_).wpA
    rw [hs2]
    simp only [fork, gd1, Bool.true_and]
    exact yes_mk h

/-- A member's name, and to what is behind its colon. -/
theorem name88 (hG : GamOK Tryz.prog w0 G11) {L0 : List Ob} {F : HX → St → Prop} {s : List UInt8} {w : Bool} {es : Es} {js : List J} {ns : List ByteArray} {d x : UInt8} {q y : List UInt8}
    (hL : L0.length ≤ 5) (h4 : L0[4]? = none) (hs : skipL s = d :: q) (hlen : (d :: q).length ≤ B42) (hns : ns.length ≤ B42) (hok : quotedOk (d :: q) = true) (hq : quotedLen (d :: q) ≠ 0) (hb : skipL (behind (d :: q)) = x :: y)
    {c : Code} (h : WpA Tryz.prog w0 L0 c (st88 5 125 (if (x.toNat : Int) = 58 then y else x :: y) a (w || ltI 0 (mvalS es (bt' (textOf (d :: q))))) g (mputS es (bt' (textOf (d :: q))) (fwrap .i64 (mvalS es (bt' (textOf (d :: q))) + 1))) js (ns ++ [bt' (textOf (d :: q))])) F) :
    WpA Tryz.prog w0 L0 (.seq (pc 88 [1, 0, 0, 0, 1, 0, 0]) c) (st88 5 125 s a w g es js ns) F := by
  refine wpA_seq ((evd_ok hG [0, 1, 2, 6] (c88o s a w g es js ns) ?_).wpA)
  rw [hs]
  have l1 : q.length + 1 ≤ 100000000 := hlen
  have go : ∀ {R : Bool}, (R = true) → R = true := fun h => h
  have fin : (bif !ltI (idxGo (UInt8.ofNat (Int.toNat ((x.toNat : Nat) : Int))) [58] 0) 0 then true else false) = decide ((x.toNat : Int) = 58) := by rw [idx1]; simp
  simp only [fork, gd1, gd2, gd3, decide_eq_true l1, hok, decide_eq_false hq, hb, idx1, show ((58 : UInt8).toNat : Int) = 58 from rfl, decide_eq_true (show ns.length ≤ ns.length from Nat.le_refl _), decide_eq_true (show (ns.length + 1) * 16 ≤ 140737488355328 by unfold B42 at hns; omega), Bool.true_and, Bool.and_true, Bool.not_false, Bool.not_not, Bool.or_true, Bool.and_self, Bool.or_false, Bool.true_or]
  have key : ∀ t : List UInt8, t = (if (x.toNat : Int) = 58 then y else x :: y) → WpA Tryz.prog w0 L0 c ⟨slots 73 [(0, .ptr 0 0), (1, .ptr 1 0), (2, .v (.int .u8 125)), (6, .map 2)], [rdr t a (w || ltI 0 (mvalS es (bt' (textOf (d :: q))))) g, vboxR 5 0 js.length 1 (ns.length + 1), .map .str (.int .i64) (mputS es (bt' (textOf (d :: q))) (fwrap .i64 (mvalS es (bt' (textOf (d :: q))) + 1))), .row .json 0 0 js, .row .str 1 0 (List.take ns.length ns ++ [bt' (textOf (d :: q))])]⟩ F := by
    intro t ht
    subst ht
    exact wpA_names hL h4 h
  cases w with
  | true =>
    simp only [decide_false, decide_true, Bool.not_false, Bool.not_true, Bool.true_or, Bool.false_or, Bool.true_and, Bool.and_true, Bool.and_self, Bool.or_true, reduceCtorEq]
    by_cases h58 : (x.toNat : Int) = 58
    · simp only [h58, decide_true, cond_true]
      exact yes_mk (key y (by rw [if_pos h58]))
    · simp only [h58, decide_false, cond_false]
      exact yes_mk (key (x :: y) (by rw [if_neg h58]))
  | false =>
    simp only [decide_false, decide_true, Bool.not_false, Bool.not_true, Bool.true_or, Bool.false_or, Bool.true_and, Bool.and_true, Bool.and_self, Bool.or_true, reduceCtorEq]
    by_cases h58 : (x.toNat : Int) = 58
    · simp only [h58, decide_true, cond_true]
      exact yes_mk (key y (by rw [if_pos h58]))
    · simp only [h58, decide_false, cond_false]
      exact yes_mk (key (x :: y) (by rw [if_neg h58]))

/-- reader.in. -/
theorem loop88 (hG : GamOK Tryz.prog w0 G11) (hGV : GamOK Tryz.prog w0 (G12 V)) (hV : Eats V) {L0 : List Ob} (hL : L0.length ≤ 5) (h3 : L0[3]? = none) (h4 : L0[4]? = none) {o : Bool} {F : HX → St → Prop} {js' : List J} {ns' : List ByteArray} {es' : Es} {s' : List UInt8} {w' : Bool}
    (h : ∀ c : UInt8, F .normal (st88 (kO o) (eO o) (c :: s') a w' g es' js' ns')) (n : Nat) (s : List UInt8) (w : Bool) (es : Es) (js : List J) (ns : List ByteArray) (hi : inL V o n s w es js ns = some ((js', ns', es'), s', w')) (hj : js.length + s.length ≤ B42) (hn : ns.length + s.length ≤ B42) :
    WpA Tryz.prog w0 L0 (.block 0 (.loop (pc 88 [1, 0, 0, 0]))) (st88 (kO o) (eO o) s a w g es js ns) F := by
  refine wpA_block (wpA_loop (α := { p : Nat × List UInt8 × Bool × Es × List J × List ByteArray // inL V o p.1 p.2.1 p.2.2.1 p.2.2.2.1 p.2.2.2.2.1 p.2.2.2.2.2 = some ((js', ns', es'), s', w') ∧ p.2.2.2.2.1.length + p.2.1.length ≤ B42 ∧ p.2.2.2.2.2.length + p.2.1.length ≤ B42 })
    (fun p => st88 (kO o) (eO o) p.1.2.1 a p.1.2.2.1 g p.1.2.2.2.1 p.1.2.2.2.2.1 p.1.2.2.2.2.2) (fun p => p.1.1) (fun p => ?_) ⟨(n, s, w, es, js, ns), hi, hj, hn⟩)
  obtain ⟨⟨n, s, w, es, js, ns⟩, hi, hj, hn⟩ := p
  dsimp only at hi hj hn ⊢
  cases n with
  | zero => cases hi
  | succ n =>
  have hl := skipL_len s
  unfold inL at hi
  cases hs : skipL s with
  | nil => rw [hs] at hi; cases hi
  | cons c r =>
  rw [hs] at hi hl
  simp only [List.length_cons] at hl
  dsimp only at hi
  rw [code88b]
  refine wpA_seq (head88 hG hs ?_)
  by_cases hc : (c.toNat : Int) = eO o
  · rw [if_pos (by cases o <;> exact hc)] at hi
    rw [if_pos hc]
    simp only [Option.some.injEq, Prod.mk.injEq] at hi
    obtain ⟨⟨rfl, rfl, rfl⟩, rfl, rfl⟩ := hi
    exact h c
  · rw [if_neg (by cases o <;> exact hc)] at hi
    rw [if_neg hc]
    have h1 : (if (c.toNat : Int) = 44 then r else c :: r).length ≤ s.length := by split <;> (try simp only [List.length_cons]) <;> omega
    refine wpA_block ?_
    generalize (if (c.toNat : Int) = 44 then r else c :: r) = s1 at hi h1
    cases o with
    | true =>
      rw [if_pos rfl] at hi
      have hl2 := skipL_len s1
      cases hs1 : skipL s1 with
      | nil => rw [hs1] at hi; cases hi
      | cons d q =>
      rw [hs1] at hi hl2
      dsimp only at hi
      by_cases hq : quotedOk (d :: q) = true ∧ quotedLen (d :: q) ≠ 0
      · rw [if_pos hq] at hi
        have hl3 := skipL_len (behind (d :: q))
        have hb := behind_len (d :: q)
        cases hx : skipL (behind (d :: q)) with
        | nil => rw [hx] at hi; cases hi
        | cons x y =>
        rw [hx] at hi hl3
        dsimp only at hi
        have h2 : (if (x.toNat : Int) = 58 then y else x :: y).length ≤ (x :: y).length := by split <;> simp
        refine name88 hG hL h4 hs1 (by omega) (by omega) hq.1 hq.2 hx ?_
        generalize (if (x.toNat : Int) = 58 then y else x :: y) = s2 at hi h2
        cases hv : V s2 (w || ltI 0 (mvalS es (bt' (textOf (d :: q))))) with
        | none => rw [hv] at hi; cases hi
        | some r3 =>
        obtain ⟨j, s3, w3⟩ := r3
        rw [hv] at hi
        dsimp only at hi
        have h5 := hV _ _ _ _ _ hv
        have hl4 := skipL_len s3
        cases hy : skipL s3 with
        | nil => rw [hy] at hi; cases hi
        | cons u v =>
        rw [hy] at hi hl4
        dsimp only at hi
        refine tail88 hG hGV hL h3 (by omega) (by omega) hv hy ?_
        exact ⟨⟨(n, u :: v, w3, _, js ++ [j], ns ++ [bt' (textOf (d :: q))]), hi, by simp only [List.length_append, List.length_singleton]; omega, by simp only [List.length_append, List.length_singleton]; omega⟩, [], 5, Nat.lt_succ_self _, by simp [vwOk, hL], vw88 _ _ _ _ _ _ _ _ _⟩
      · rw [if_neg hq] at hi; cases hi
    | false =>
      rw [if_neg (by simp)] at hi
      refine wpA_seq ((evd_ok hG [0, 1, 2, 6] (c88l s1 a w g es js ns) (yes_mk ?_)).wpA)
      cases hv : V s1 w with
      | none => rw [hv] at hi; cases hi
      | some r3 =>
      obtain ⟨j, s3, w3⟩ := r3
      rw [hv] at hi
      dsimp only at hi
      have h5 := hV _ _ _ _ _ hv
      have hl4 := skipL_len s3
      cases hy : skipL s3 with
      | nil => rw [hy] at hi; cases hi
      | cons u v =>
      rw [hy] at hi hl4
      dsimp only at hi
      refine tail88 hG hGV hL h3 (by omega) (by omega) hv hy ?_
      exact ⟨⟨(n, u :: v, w3, es, js ++ [j], ns), hi, by simp only [List.length_append, List.length_singleton]; omega, by simp only [List.length_cons] at *; omega⟩, [], 5, Nat.lt_succ_self _, by simp [vwOk, hL], vw88 _ _ _ _ _ _ _ _ _⟩
end
end Go.Proofs.YtiaeljbnhdhfcaaGreatDoor

namespace Go.Proofs.YtiaeljbnhdhfcaaGreatDoor
open Go Go.RowKit Go.Lx Go.Mo

def vbox0 (k : Int) : Ob := .box 43 (.st [.v (.int .i64 k), .v (.bool false), zdec, .v (.string ⟨⟨[]⟩⟩), .v (.slice none 0 0), .v (.slice none 0 0)])

theorem nl_cons {c : Cd} {n : Nat} {f g : HV} {fs gs : List HV} (h : Nl c n f g) (hs : Nls c n fs gs) : Nls c n (f :: fs) (g :: gs) := by
  simp only [Nls]; exact ⟨g, gs, rfl, h, hs⟩
theorem nl_nil (c : Cd) (n : Nat) : Nls c n [] [] := by simp [Nls]
theorem nl_st {c : Cd} {n : Nat} {fs gs : List HV} (h : Nls c n fs gs) : Nl c n (.st fs) (.st gs) := by simp only [Nl]; exact .inr ⟨gs, rfl, h⟩
theorem nl_own (c : Cd) (n : Nat) : Nl c n (.v (.slice none 0 0)) (.own c n 0 0) := by simp [Nl]

/-- reader.in, among any objects. -/
def inE (V : ValG) (args : List HV) (L : List Ob) : Option (KR → Bool) := match args with
  | [.ptr i 0, .ptr m 0, .v (.int .u8 e)] => (match L[i]?, L[m]? with
    | some (.box t (.st [.v (.string s), .v (.bool a), .v (.bool w), .v (.bool g)])), some (.box t' (.st [.v (.int .i64 k), .v (.bool false), .st [.v (.bool false), .v (.string z), .v (.int .i64 0)], .v (.string x), .v (.slice none 0 0), .v (.slice none 0 0)])) =>
      some (fun kr => Nat.beq t 90 && Nat.beq t' 43 && decide (k = kO (decide (k = 5))) && decide (e = eO (decide (k = 5))) && z.data.toList.isEmpty && x.data.toList.isEmpty && !Nat.beq i m && decide (s.data.toList.length ≤ B42) &&
        forkV (inL V (decide (k = 5)) (s.data.toList.length + 1) s.data.toList w [] [] []) (fun p s' w' =>
          kr (.ret (.tup [])) (((L.set i (rdr s' a w' g)).set m (.box 43 (.st [.v (.int .i64 k), .v (.bool false), zdec, .v (.string ⟨⟨[]⟩⟩), .own .json (L.length + 1) 0 p.1.length, .own .str (L.length + 2) 0 p.2.1.length]))) ++ [.map .str (.int .i64) p.2.2, .row .json 0 0 p.1, .row .str 0 0 p.2.1])))
    | _, _ => none)
  | _ => none

section
variable {w0 : World} {V : ValG} {a g : Bool}

theorem do88 (hG : GamOK Tryz.prog w0 G11) (hGV : GamOK Tryz.prog w0 (G12 V)) (hV : Eats V) {o : Bool} {n : Nat} {s s' : List UInt8} {w w' : Bool} {js : List J} {ns : List ByteArray} {es : Es} (hi : inL V o n s w [] [] [] = some ((js, ns, es), s', w')) (hs : s.length ≤ B42) {kr : KR}
    (hk : kr (.ret (.tup [])) [rdr s' a w' g, vbox (kO o) js.length ns.length, .map .str (.int .i64) es, .row .json 0 0 js, .row .str 0 0 ns] = true) : Does Tryz.prog w0 88 [.ptr 0 0, .ptr 1 0, .v (.int .u8 (eO o))] [rdr s a w g, vbox0 (kO o)] kr := by
  refine does_wpA Tryz.func88 code88 (n := 73) (by kernel_rfl) ?_
  refine wpA_seq ((evd_ok hG [0, 1, 2, 6] (a88 (kO o) (eO o) s a w g (vbox0 (kO o))) (yes_mk ?_)).wpA)
  refine wpA_nilBox .json 1 (t := 43) (x := .st [.v (.int .i64 (kO o)), .v (.bool false), zdec, .v (.string ⟨⟨[]⟩⟩), .v (.slice none 0 0), .v (.slice none 0 0)]) (y := .st [.v (.int .i64 (kO o)), .v (.bool false), zdec, .v (.string ⟨⟨[]⟩⟩), .own .json 3 0 0, .v (.slice none 0 0)]) rfl (nl_st (nl_cons (Nl.same _ _ _) (nl_cons (Nl.same _ _ _) (nl_cons (Nl.same _ _ _) (nl_cons (Nl.same _ _ _) (nl_cons (nl_own _ _) (nl_cons (Nl.same _ _ _) (nl_nil _ _)))))))) ?_
  refine wpA_nilBox .str 1 (t := 43) (x := .st [.v (.int .i64 (kO o)), .v (.bool false), zdec, .v (.string ⟨⟨[]⟩⟩), .own .json 3 0 0, .v (.slice none 0 0)]) (y := .st [.v (.int .i64 (kO o)), .v (.bool false), zdec, .v (.string ⟨⟨[]⟩⟩), .own .json 3 0 0, .own .str 4 0 0]) rfl (nl_st (nl_cons (Nl.same _ _ _) (nl_cons (Nl.same _ _ _) (nl_cons (Nl.same _ _ _) (nl_cons (Nl.same _ _ _) (nl_cons (Nl.same _ _ _) (nl_cons (nl_own _ _) (nl_nil _ _)))))))) ?_
  show WpA Tryz.prog w0 [rdr s a w g, vbox0 (kO o)] _ (st88 (kO o) (eO o) s a w g [] [] []) _
  refine wpA_seq (loop88 hG hGV hV (by simp) rfl rfl (fun c => ?_) n s w [] [] [] hi (by simpa using hs) (by simpa using hs))
  refine (evd_ok hG [0, 1, 2, 6] (f88 (kO o) (eO o) (c :: s') a w' g es js ns) ?_).wpA
  simp only [gd2, gd3, Bool.true_and]
  refine yes_mk ?_
  show finK Tryz.prog Tryz.f88 [rdr s a w g, vbox0 (kO o)] kr (st88 (kO o) (eO o) s' a w' g es js ns) = true
  rw [g88]
  exact hk

theorem empty_is {z : ByteArray} (h : z.data.toList.isEmpty = true) : z = ⟨⟨[]⟩⟩ := by
  obtain ⟨⟨l⟩⟩ := z
  cases l with
  | nil => rfl
  | cons c l => cases h

theorem inE_ok (hG : GamOK Tryz.prog w0 G11) (hGV : GamOK Tryz.prog w0 (G12 V)) (hV : Eats V) {args : List HV} {L : List Ob} {F : KR → Bool} {kr : KR} (hF : inE V args L = some F) (hk : F kr = true) : Does Tryz.prog w0 88 args L kr := by
  unfold inE at hF
  split at hF
  · rename_i i m e
    split at hF
    · rename_i t s a w g t' k z x hi hm
      cases hF
      simp only [Bool.and_eq_true, decide_eq_true_eq, Bool.not_eq_true'] at hk
      obtain ⟨⟨⟨⟨⟨⟨⟨⟨h1, h2⟩, h3⟩, h4⟩, h5⟩, h6⟩, h7⟩, h8⟩, h9⟩ := hk
      obtain rfl := Nat.eq_of_beq_eq_true h1
      obtain rfl := Nat.eq_of_beq_eq_true h2
      obtain rfl := empty_is h5
      obtain rfl := empty_is h6
      cases hin : inL V (decide (k = 5)) (s.data.toList.length + 1) s.data.toList w [] [] [] with
      | none => rw [hin] at h9; cases h9
      | some r =>
      obtain ⟨⟨js, ns, es⟩, s', w'⟩ := r
      rw [hin] at h9
      simp only [forkV] at h9
      refine does_frame [i, m] [0, 0] ?_ ?_
      · simp only [footOk, hi, hm, Ob.isDead, Ob.ver, List.any_cons, List.any_nil, h7]
        rfl
      · have p0 : posOf i [i, m] 0 = some 0 := by simp only [posOf, Nat.beq_refl, cond_true]
        have p1 : posOf m [i, m] 0 = some 1 := by simp only [posOf, h7, cond_false, Nat.beq_refl, cond_true]
        have e1 : rens (subR [i, m] [0, 0]) [.ptr i 0, .ptr m 0, .v (.int .u8 e)] = [.ptr 0 0, .ptr 1 0, .v (.int .u8 e)] := by
          simp only [rens, ren, subR, p0, p1]
          rfl
        have e2 : subL (subR [i, m] [0, 0]) L [i, m] = [rdr s.data.toList a w g, vbox0 k] := by
          simp only [subL, List.getD_eq_getElem?_getD, hi, hm, Option.getD_some, renOb, ren, rens]
          rfl
        rw [e1, e2, h3, h4]
        refine do88 hG hGV hV hin h8 ?_
        rw [h3] at h9
        exact h9
    · cases hF
  · cases hF

noncomputable def G13 (V : ValG) : Gam := addL 88 (inE V) G11

theorem gamOK13 (hG : GamOK Tryz.prog w0 G11) (hGV : GamOK Tryz.prog w0 (G12 V)) (hV : Eats V) : GamOK Tryz.prog w0 (G13 V) := addL_ok hG (fun _ _ _ _ hF hk => inE_ok hG hGV hV hF hk)
end

/-- A value of no kind. -/
def zbox : Ob := .box 43 (.st [.v (.int .i64 0), .v (.bool false), zdec, .v (.string ⟨⟨[]⟩⟩), .v (.slice none 0 0), .v (.slice none 0 0)])
def st45 (c : Int) (s : List UInt8) (a w g : Bool) : St := ⟨slots 98 [(0, .ptr 0 0), (2, .ptr 1 0), (3, .v (.int .u8 c))], [rdr s a w g, zbox]⟩

theorem a45 (s : List UInt8) (a w g : Bool) (k : KX) : evd G11 1 (pc 45 [0]) ⟨argT 0 [.ptr 0 0] ⟨98, .nil⟩, [rdr s a w g]⟩ (fun x st => k x (st.keep [0, 2])) = (k HX.normal ⟨slots 98 [(0, (HV.ptr 0 0)), (2, (HV.ptr 1 0))], [(Ob.box 90 (HV.st [(HV.v (Value.string (ByteArray.mk (Array.mk s)))), (HV.v (Value.bool a)), (HV.v (Value.bool w)), (HV.v (Value.bool g))])), (Ob.box 43 (HV.st [(HV.v (Value.int IntKind.i64 0)), (HV.v (Value.bool Bool.false)), (HV.st [(HV.v (Value.bool Bool.false)), (HV.v (Value.string (ByteArray.mk (Array.mk [])))), (HV.v (Value.int IntKind.i64 0))]), (HV.v (Value.string (ByteArray.mk (Array.mk [])))), (HV.v (Value.slice Option.none 0 0)), (HV.v (Value.slice Option.none 0 0))]))]⟩) := by kernel_rfl
theorem b45 (s : List UInt8) (a w g : Bool) (k : KX) : evd G11 2 (pc 45 [1, 0, 0]) ⟨slots 98 [(0, .ptr 0 0), (2, .ptr 1 0)], [rdr s a w g, zbox]⟩ (fun x st => k x (st.keep [0, 2, 3])) = (fork (skipL s) ((k (HX.panic (HV.iface 130 (HV.st [(HV.v (Value.int IntKind.i64 180))]))) ⟨slots 98 [(0, (HV.ptr 0 0)), (2, (HV.ptr 1 0)), (3, HV.junk)], [(Ob.box 90 (HV.st [(HV.v (Value.string (ByteArray.mk (Array.mk [])))), (HV.v (Value.bool a)), (HV.v (Value.bool w)), (HV.v (Value.bool g))])), (Ob.box 43 (HV.st [(HV.v (Value.int IntKind.i64 0)), (HV.v (Value.bool Bool.false)), (HV.st [(HV.v (Value.bool Bool.false)), (HV.v (Value.string (ByteArray.mk (Array.mk [])))), (HV.v (Value.int IntKind.i64 0))]), (HV.v (Value.string (ByteArray.mk (Array.mk [])))), (HV.v (Value.slice Option.none 0 0)), (HV.v (Value.slice Option.none 0 0))]))]⟩)) (fun c0 r0 => ((decide (0 < (((ByteArray.size (ByteArray.mk (Array.mk (c0 :: r0)))) : Nat) : Int))) && (bif (!(ltI (idxGo (UInt8.ofNat (Int.toNat (((UInt8.toNat c0) : Nat) : Int))) [91, 123] 0) 0)) then (((decide (1 ≤ (((ByteArray.size (ByteArray.mk (Array.mk (c0 :: r0)))) : Nat) : Int))) && (decide ((((ByteArray.size (ByteArray.mk (Array.mk (c0 :: r0)))) : Nat) : Int) ≤ (((ByteArray.size (ByteArray.mk (Array.mk (c0 :: r0)))) : Nat) : Int)))) && (k HX.normal ⟨slots 98 [(0, (HV.ptr 0 0)), (2, (HV.ptr 1 0)), (3, (HV.v (Value.int IntKind.u8 (((UInt8.toNat c0) : Nat) : Int))))], [(Ob.box 90 (HV.st [(HV.v (Value.string (ByteArray.mk (Array.mk r0)))), (HV.v (Value.bool a)), (HV.v (Value.bool w)), (HV.v (Value.bool g))])), (Ob.box 43 (HV.st [(HV.v (Value.int IntKind.i64 0)), (HV.v (Value.bool Bool.false)), (HV.st [(HV.v (Value.bool Bool.false)), (HV.v (Value.string (ByteArray.mk (Array.mk [])))), (HV.v (Value.int IntKind.i64 0))]), (HV.v (Value.string (ByteArray.mk (Array.mk [])))), (HV.v (Value.slice Option.none 0 0)), (HV.v (Value.slice Option.none 0 0))]))]⟩)) else (k HX.normal ⟨slots 98 [(0, (HV.ptr 0 0)), (2, (HV.ptr 1 0)), (3, (HV.v (Value.int IntKind.u8 (((UInt8.toNat c0) : Nat) : Int))))], [(Ob.box 90 (HV.st [(HV.v (Value.string (ByteArray.mk (Array.mk (c0 :: r0))))), (HV.v (Value.bool a)), (HV.v (Value.bool w)), (HV.v (Value.bool g))])), (Ob.box 43 (HV.st [(HV.v (Value.int IntKind.i64 0)), (HV.v (Value.bool Bool.false)), (HV.st [(HV.v (Value.bool Bool.false)), (HV.v (Value.string (ByteArray.mk (Array.mk [])))), (HV.v (Value.int IntKind.i64 0))]), (HV.v (Value.string (ByteArray.mk (Array.mk [])))), (HV.v (Value.slice Option.none 0 0)), (HV.v (Value.slice Option.none 0 0))]))]⟩))))) := by kernel_rfl
theorem c45l (V : ValG) (s : List UInt8) (a w g : Bool) (k : KX) : evd (G13 V) 2 (.seq (pc 45 [1, 0, 1, 0]) (pc 45 [1, 0, 1, 1])) (st45 91 s a w g) (fun x st => k x (st.keep [0, 2])) = ((decide ((List.length s) ≤ 100000000)) && (forkV (inL V Bool.false ((List.length s) + 1) s w [] [] []) (fun c0 r0 p02 => (k HX.ret ⟨slots 98 [(0, (HV.ptr 0 0)), (2, (HV.ptr 1 0))], [(Ob.box 90 (HV.st [(HV.v (Value.string (ByteArray.mk (Array.mk r0)))), (HV.v (Value.bool a)), (HV.v (Value.bool p02)), (HV.v (Value.bool g))])), (Ob.box 43 (HV.st [(HV.v (Value.int IntKind.i64 4)), (HV.v (Value.bool Bool.false)), (HV.st [(HV.v (Value.bool Bool.false)), (HV.v (Value.string (ByteArray.mk (Array.mk [])))), (HV.v (Value.int IntKind.i64 0))]), (HV.v (Value.string (ByteArray.mk (Array.mk [])))), (HV.own Cd.json 4 0 (List.length (Prod.fst c0))), (HV.own Cd.str 5 0 (List.length (Prod.fst (Prod.snd c0))))])), (Ob.box 43 (HV.st [(HV.v (Value.int IntKind.i64 4)), (HV.v (Value.bool Bool.false)), (HV.st [(HV.v (Value.bool Bool.false)), (HV.v (Value.string (ByteArray.mk (Array.mk [])))), (HV.v (Value.int IntKind.i64 0))]), (HV.v (Value.string (ByteArray.mk (Array.mk [])))), (HV.own Cd.json 4 0 (List.length (Prod.fst c0))), (HV.own Cd.str 5 0 (List.length (Prod.fst (Prod.snd c0))))])), (Ob.map Cd.str (Cd.int IntKind.i64) (Prod.snd (Prod.snd c0))), (Ob.row Cd.json 0 0 (Prod.fst c0)), (Ob.row Cd.str 0 0 (Prod.fst (Prod.snd c0)))]⟩)))) := by kernel_rfl
theorem c45o (V : ValG) (s : List UInt8) (a w g : Bool) (k : KX) : evd (G13 V) 2 (.seq (pc 45 [1, 0, 1, 0]) (pc 45 [1, 0, 1, 1])) (st45 123 s a w g) (fun x st => k x (st.keep [0, 2])) = ((decide ((List.length s) ≤ 100000000)) && (forkV (inL V Bool.true ((List.length s) + 1) s w [] [] []) (fun c0 r0 p02 => (k HX.ret ⟨slots 98 [(0, (HV.ptr 0 0)), (2, (HV.ptr 1 0))], [(Ob.box 90 (HV.st [(HV.v (Value.string (ByteArray.mk (Array.mk r0)))), (HV.v (Value.bool a)), (HV.v (Value.bool p02)), (HV.v (Value.bool g))])), (Ob.box 43 (HV.st [(HV.v (Value.int IntKind.i64 5)), (HV.v (Value.bool Bool.false)), (HV.st [(HV.v (Value.bool Bool.false)), (HV.v (Value.string (ByteArray.mk (Array.mk [])))), (HV.v (Value.int IntKind.i64 0))]), (HV.v (Value.string (ByteArray.mk (Array.mk [])))), (HV.own Cd.json 4 0 (List.length (Prod.fst c0))), (HV.own Cd.str 5 0 (List.length (Prod.fst (Prod.snd c0))))])), (Ob.box 43 (HV.st [(HV.v (Value.int IntKind.i64 5)), (HV.v (Value.bool Bool.false)), (HV.st [(HV.v (Value.bool Bool.false)), (HV.v (Value.string (ByteArray.mk (Array.mk [])))), (HV.v (Value.int IntKind.i64 0))]), (HV.v (Value.string (ByteArray.mk (Array.mk [])))), (HV.own Cd.json 4 0 (List.length (Prod.fst c0))), (HV.own Cd.str 5 0 (List.length (Prod.fst (Prod.snd c0))))])), (Ob.map Cd.str (Cd.int IntKind.i64) (Prod.snd (Prod.snd c0))), (Ob.row Cd.json 0 0 (Prod.fst c0)), (Ob.row Cd.str 0 0 (Prod.fst (Prod.snd c0)))]⟩)))) := by kernel_rfl
theorem c45t (V : ValG) (s : List UInt8) (a w g : Bool) (k : KX) : evd (G13 V) 2 (.seq (pc 45 [1, 0, 1, 0]) (pc 45 [1, 0, 1, 1])) (st45 34 s a w g) (fun x st => k x (st.keep [0, 2])) = ((((decide ((List.length s) ≤ 100000000)) && (quotedOk s)) && (!(decide ((quotedLen s) = 0)))) && (k HX.ret ⟨slots 98 [(0, (HV.ptr 0 0)), (2, (HV.ptr 1 0))], [(Ob.box 90 (HV.st [(HV.v (Value.string (ByteArray.mk (Array.mk (behind s))))), (HV.v (Value.bool a)), (HV.v (Value.bool w)), (HV.v (Value.bool g))])), (Ob.box 43 (HV.st [(HV.v (Value.int IntKind.i64 3)), (HV.v (Value.bool Bool.false)), (HV.st [(HV.v (Value.bool Bool.false)), (HV.v (Value.string (ByteArray.mk (Array.mk [])))), (HV.v (Value.int IntKind.i64 0))]), (HV.v (Value.string (ByteArray.mk (Array.mk (textOf s))))), (HV.v (Value.slice Option.none 0 0)), (HV.v (Value.slice Option.none 0 0))]))]⟩)) := by kernel_rfl

end Go.Proofs.YtiaeljbnhdhfcaaGreatDoor

namespace Go.Proofs.YtiaeljbnhdhfcaaGreatDoor
open Go Go.RowKit Go.Lx Go.Mo

def vbox2 (k : Int) (js : List J) (ns : List ByteArray) : Ob := .box 43 (.st [.v (.int .i64 k), .v (.bool false), zdec, .v (.string ⟨⟨[]⟩⟩), .own .json 4 0 js.length, .own .str 5 0 ns.length])
def st45b (k : Int) (s : List UInt8) (a w g : Bool) (es : Es) (js : List J) (ns : List ByteArray) : St :=
  ⟨slots 98 [(0, .ptr 0 0), (2, .ptr 1 0)], [rdr s a w g, vbox2 k js ns, vbox2 k js ns, .map .str (.int .i64) es, .row .json 0 0 js, .row .str 0 0 ns]⟩
theorem o45 (k : Int) (s s0 : List UInt8) (a w g a0 w1 g0 : Bool) (es : Es) (js : List J) (ns : List ByteArray) (kr : KR) : finK Tryz.prog Tryz.f45 [rdr s0 a0 w1 g0] kr (st45b k s a w g es js ns) = ((((decide ((List.length js) ≤ (List.length js))) && ((decide ((List.length ns) ≤ (List.length ns))) && Bool.true)) && Bool.true) && (kr (HR.ret (HV.d Cd.json (J.mk k Bool.false (Dec.mk Bool.false (ByteArray.mk (Array.mk [])) 0) (ByteArray.mk (Array.mk [])) (List.take (List.length js) js) (List.take (List.length ns) ns)))) [(Ob.box 90 (HV.st [(HV.v (Value.string (ByteArray.mk (Array.mk s)))), (HV.v (Value.bool a)), (HV.v (Value.bool w)), (HV.v (Value.bool g))]))])) := by kernel_rfl
def tbox (m : List UInt8) : Ob := .box 43 (.st [.v (.int .i64 3), .v (.bool false), zdec, tx m, .v (.slice none 0 0), .v (.slice none 0 0)])
theorem o45t (m s s0 : List UInt8) (a w g a0 w1 g0 : Bool) (kr : KR) : finK Tryz.prog Tryz.f45 [rdr s0 a0 w1 g0] kr ⟨slots 98 [(0, .ptr 0 0), (2, .ptr 1 0)], [rdr s a w g, tbox m]⟩ = (kr (HR.ret (HV.d Cd.json (J.mk 3 Bool.false (Dec.mk Bool.false (ByteArray.mk (Array.mk [])) 0) (ByteArray.mk (Array.mk m)) [] []))) [(Ob.box 90 (HV.st [(HV.v (Value.string (ByteArray.mk (Array.mk s)))), (HV.v (Value.bool a)), (HV.v (Value.bool w)), (HV.v (Value.bool g))]))]) := by kernel_rfl

theorem code45 : Tryz.f45.body = some (.seq (pc 45 [0]) (.seq (.seq (pc 45 [1, 0, 0]) (.seq (pc 45 [1, 0, 1, 0]) (pc 45 [1, 0, 1, 1]))) (pc 45 [1, 1]))) := by kernel_rfl

theorem idx2 (c : UInt8) : ltI (idxGo (UInt8.ofNat (Int.toNat ((c.toNat : Nat) : Int))) [91, 123] 0) 0 = !(decide (c = 91) || decide (c = 123)) := by
  rw [Int.toNat_natCast, UInt8.ofNat_toNat]
  by_cases h : c = 91
  · subst h; rfl
  · by_cases h2 : c = 123
    · subst h2; rfl
    · have h1 : ((91 : UInt8) == c) = false := by simpa using fun e => h e.symm
      have h3 : ((123 : UInt8) == c) = false := by simpa using fun e => h2 e.symm
      simp [idxGo, h1, h3, h, h2, ltI]

theorem gamOK11 {w0 : World} (h0 : H4 w0) : GamOK Tryz.prog w0 G11 := by
  refine addL_ok (gamOK10 h0) ?_
  intro args L F kr hF hk
  unfold textF at hF
  split at hF
  · rename_i id
    split at hF
    · rename_i t s a w g hid
      cases hF
      simp only [Bool.and_eq_true, decide_eq_true_eq, Bool.not_eq_true', decide_eq_false_iff_not] at hk
      obtain ⟨⟨⟨⟨h1, h2⟩, h3⟩, h4⟩, h5⟩ := hk
      obtain rfl := Nat.eq_of_beq_eq_true h1
      refine does_box1 (ys := []) (t := 90) (x := .st [.v (.string s), .v (.bool a), .v (.bool w), .v (.bool g)]) (x' := .st [tx (behind s.data.toList), .v (.bool a), .v (.bool w), .v (.bool g)]) (r := .ret (tx (textOf s.data.toList))) hid (fun _ => rfl) (fun _ => rfl) (fun _ => rfl) (fun _ => rfl) (fun k hk => ?_) h5
      exact do89 h0 h2 h3 h4 hk
    · cases hF
  · cases hF

theorem do45 {w0 : World} (h0 : H4 w0) {V : ValG} (hGV : GamOK Tryz.prog w0 (G12 V)) (hV : Eats V) {s s' : List UInt8} {a w w' g : Bool} {j : J} {kr : KR} (hs : s.length ≤ B42) (hv : valS V s w = some (j, s', w')) (hk : kr (.ret (.d .json j)) [rdr s' a w' g] = true) : Does Tryz.prog w0 45 [.ptr 0 0] [rdr s a w g] kr := by
  have hG := gamOK11 h0
  have hG2 := gamOK13 hG hGV hV
  have hl := skipL_len s
  refine does_wpA Tryz.func45 code45 (n := 98) (by kernel_rfl) ?_
  refine wpA_seq ((evd_ok hG [0, 2] (a45 s a w g) (yes_mk ?_)).wpA)
  refine wpA_seq (wpA_seq ((evd_ok hG [0, 2, 3] (b45 s a w g) ?_).wpA))
  unfold valS at hv
  cases hsk : skipL s with
  | nil => rw [hsk] at hv; cases hv
  | cons c r =>
  rw [hsk] at hv hl
  simp only [List.length_cons] at hl
  dsimp only at hv
  simp only [fork, gd1, gd2, gd3, Bool.true_and, idx2, Bool.not_not]
  have hr : r.length ≤ B42 := by omega
  by_cases h91 : c = 91
  · subst h91
    rw [if_pos rfl] at hv
    simp only [decide_true, Bool.true_or, cond_true]
    refine yes_mk ?_
    refine (evd_ok hG2 [0, 2] (c45l V r a w g) ?_).wpA
    rw [decide_eq_true (show r.length ≤ 100000000 from hr)]
    cases hi : inL V false (r.length + 1) r w [] [] [] with
    | none => rw [hi] at hv; cases hv
    | some x =>
    obtain ⟨⟨js, ns, es⟩, s2, w2⟩ := x
    rw [hi] at hv
    simp only [Option.some.injEq, Prod.mk.injEq] at hv
    obtain ⟨rfl, rfl, rfl⟩ := hv
    refine yes_mk ?_
    show finK Tryz.prog Tryz.f45 [rdr s a w g] kr (st45b 4 s2 a w2 g es js ns) = true
    rw [o45]
    simp only [decide_true, Nat.le_refl, List.take_length, Bool.true_and]
    exact hk
  · rw [if_neg h91] at hv
    by_cases h123 : c = 123
    · subst h123
      rw [if_pos rfl] at hv
      simp only [decide_true, Bool.or_true, cond_true]
      refine yes_mk ?_
      refine (evd_ok hG2 [0, 2] (c45o V r a w g) ?_).wpA
      rw [decide_eq_true (show r.length ≤ 100000000 from hr)]
      cases hi : inL V true (r.length + 1) r w [] [] [] with
      | none => rw [hi] at hv; cases hv
      | some x =>
      obtain ⟨⟨js, ns, es⟩, s2, w2⟩ := x
      rw [hi] at hv
      simp only [Option.some.injEq, Prod.mk.injEq] at hv
      obtain ⟨rfl, rfl, rfl⟩ := hv
      refine yes_mk ?_
      show finK Tryz.prog Tryz.f45 [rdr s a w g] kr (st45b 5 s2 a w2 g es js ns) = true
      rw [o45]
      simp only [decide_true, Nat.le_refl, List.take_length, Bool.true_and]
      exact hk
    · rw [if_neg h123] at hv
      by_cases h34 : c = 34
      · subst h34
        rw [if_pos rfl] at hv
        by_cases hq : quotedOk (34 :: r) = true ∧ quotedLen (34 :: r) ≠ 0
        · rw [if_pos hq] at hv
          simp only [Option.some.injEq, Prod.mk.injEq] at hv
          obtain ⟨rfl, rfl, rfl⟩ := hv
          rw [decide_eq_false h91, decide_eq_false h123]
          refine yes_mk ?_
          refine (evd_ok hG2 [0, 2] (c45t V (34 :: r) a w g) ?_).wpA
          rw [decide_eq_true (show (34 :: r : List UInt8).length ≤ 100000000 by simp only [List.length_cons]; unfold B42 at hs; omega), hq.1, decide_eq_false hq.2]
          refine yes_mk ?_
          show finK Tryz.prog Tryz.f45 [rdr s a w g] kr ⟨slots 98 [(0, .ptr 0 0), (2, .ptr 1 0)], [rdr (behind (34 :: r)) a w g, tbox (textOf (34 :: r))]⟩ = true
          rw [o45t]
          exact hk
        · rw [if_neg hq] at hv; cases hv
      · rw [if_neg h34] at hv; cases hv

theorem gamOK12 {w0 : World} (h0 : H4 w0) : ∀ n, GamOK Tryz.prog w0 (G12 (valF n)) := by
  intro n
  induction n with
  | zero =>
    refine addL_ok (gamOK11 h0) ?_
    intro args L F kr hF hk
    unfold valE at hF
    split at hF
    · split at hF
      · cases hF
        simp [valF, forkV] at hk
      · cases hF
    · cases hF
  | succ n ih =>
    refine addL_ok (gamOK11 h0) ?_
    intro args L F kr hF hk
    unfold valE at hF
    split at hF
    · rename_i id
      split at hF
      · rename_i t s a w g hid
        cases hF
        simp only [Bool.and_eq_true, decide_eq_true_eq] at hk
        obtain ⟨⟨h1, h2⟩, h3⟩ := hk
        obtain rfl := Nat.eq_of_beq_eq_true h1
        cases hv : valF (n + 1) s.data.toList w with
        | none => rw [hv] at h3; cases h3
        | some x =>
        obtain ⟨j, s2, w2⟩ := x
        rw [hv] at h3
        refine does_box1 (ys := []) (t := 90) (x := .st [.v (.string s), .v (.bool a), .v (.bool w), .v (.bool g)]) (x' := .st [tx s2, .v (.bool a), .v (.bool w2), .v (.bool g)]) (r := .ret (.d .json j)) hid (fun _ => rfl) (fun _ => rfl) (fun _ => rfl) (fun _ => rfl) (fun k hk => ?_) h3
        exact do45 h0 ih (valF_len n) h2 hv hk
      · cases hF
    · cases hF

end Go.Proofs.YtiaeljbnhdhfcaaGreatDoor

namespace Go.Mo
def asciiB (l : List Int) : Bool := l.all fun x => decide (x < 128)
end Go.Mo
namespace Go.Proofs.YtiaeljbnhdhfcaaGreatDoor
open Go Go.RowKit Go.Lx Go.Mo

def validP (args : List HV) : Option (Bool × HV) := match args with
  | [.d (.list (.int .u8)) xs] => some (asciiB xs, .v (.bool true))
  | _ => none

def gramE (N : Nat) (args : List HV) (L : List Ob) : Option (KR → Bool) := match args with
  | [.v (.string a)] => some (fun kr => decide (a.data.toList.length ≤ B42) && forkW (gramF N 0 a.data.toList [] 0) (fun d b => kr (.ret (.tup [.v (.int .i64 d), .v (.bool b)])) L))
  | _ => none

noncomputable def G14 (N M : Nat) : Gam := addP 41 validP (addL 42 (gramE N) (G12 (valF M)))

theorem a24 (N M : Nat) (xs : List Int) (k : KX) : evd (G14 N M) 1 (pc 24 [0]) ⟨argT 0 [.d (.list (.int .u8)) xs] ⟨49, .nil⟩, []⟩ (fun x st => k x (st.keep [0, 2, 3])) = (k HX.normal ⟨slots 49 [(0, (HV.d (Cd.list (Cd.int IntKind.u8)) xs)), (2, (HV.ptr 0 0)), (3, (HV.v (Value.int IntKind.i64 0)))], [(Ob.box 43 (HV.st [(HV.v (Value.int IntKind.i64 0)), (HV.v (Value.bool Bool.false)), (HV.st [(HV.v (Value.bool Bool.false)), (HV.v (Value.string (ByteArray.mk (Array.mk [])))), (HV.v (Value.int IntKind.i64 0))]), (HV.v (Value.string (ByteArray.mk (Array.mk [])))), (HV.v (Value.slice Option.none 0 0)), (HV.v (Value.slice Option.none 0 0))]))]⟩) := by kernel_rfl
theorem b24 (N M : Nat) (xs : List Int) (k : KX) : evd (G14 N M) 1 (pc 24 [1, 0]) ⟨slots 49 [(0, .d (.list (.int .u8)) xs), (2, .ptr 0 0), (3, .v (.int .i64 0))], [zbox]⟩ (fun x st => k x (st.keep [0, 2, 3])) = (bif (ltI 1048576 (((List.length xs) : Nat) : Int)) then (k HX.ret ⟨slots 49 [(0, (HV.d (Cd.list (Cd.int IntKind.u8)) xs)), (2, (HV.ptr 0 0)), (3, (HV.v (Value.int IntKind.i64 3)))], [(Ob.box 43 (HV.st [(HV.v (Value.int IntKind.i64 0)), (HV.v (Value.bool Bool.false)), (HV.st [(HV.v (Value.bool Bool.false)), (HV.v (Value.string (ByteArray.mk (Array.mk [])))), (HV.v (Value.int IntKind.i64 0))]), (HV.v (Value.string (ByteArray.mk (Array.mk [])))), (HV.v (Value.slice Option.none 0 0)), (HV.v (Value.slice Option.none 0 0))]))]⟩) else ((asciiB xs) && (k HX.normal ⟨slots 49 [(0, (HV.d (Cd.list (Cd.int IntKind.u8)) xs)), (2, (HV.ptr 0 0)), (3, (HV.v (Value.int IntKind.i64 0)))], [(Ob.box 43 (HV.st [(HV.v (Value.int IntKind.i64 0)), (HV.v (Value.bool Bool.false)), (HV.st [(HV.v (Value.bool Bool.false)), (HV.v (Value.string (ByteArray.mk (Array.mk [])))), (HV.v (Value.int IntKind.i64 0))]), (HV.v (Value.string (ByteArray.mk (Array.mk [])))), (HV.v (Value.slice Option.none 0 0)), (HV.v (Value.slice Option.none 0 0))]))]⟩))) := by kernel_rfl
theorem c24 (N M : Nat) (xs : List Int) (k : KX) : evd (G14 N M) 1 (pc 24 [1, 1, 0]) ⟨slots 49 [(0, .d (.list (.int .u8)) xs), (2, .ptr 0 0), (3, .v (.int .i64 0))], [zbox]⟩ (fun x st => k x (st.keep [2, 3, 4])) = (k HX.normal ⟨slots 49 [(2, (HV.ptr 0 0)), (3, (HV.v (Value.int IntKind.i64 0))), (4, (HV.v (Value.string (bback xs))))], [(Ob.box 43 (HV.st [(HV.v (Value.int IntKind.i64 0)), (HV.v (Value.bool Bool.false)), (HV.st [(HV.v (Value.bool Bool.false)), (HV.v (Value.string (ByteArray.mk (Array.mk [])))), (HV.v (Value.int IntKind.i64 0))]), (HV.v (Value.string (ByteArray.mk (Array.mk [])))), (HV.v (Value.slice Option.none 0 0)), (HV.v (Value.slice Option.none 0 0))]))]⟩) := by kernel_rfl
theorem d24 (N M : Nat) (s : List UInt8) (k : KX) : evd (G14 N M) 1 (pc 24 [1, 1, 1, 0]) ⟨slots 49 [(2, .ptr 0 0), (3, .v (.int .i64 0)), (4, tx s)], [zbox]⟩ (fun x st => k x (st.keep [2, 3, 4])) = ((decide ((List.length s) ≤ 100000000)) && (forkW (gramF N 0 s [] 0) (fun c0 r0 => (bif (!r0) then (k HX.ret ⟨slots 49 [(2, (HV.ptr 0 0)), (3, (HV.v (Value.int IntKind.i64 180))), (4, (HV.v (Value.string (ByteArray.mk (Array.mk s)))))], [(Ob.box 43 (HV.st [(HV.v (Value.int IntKind.i64 0)), (HV.v (Value.bool Bool.false)), (HV.st [(HV.v (Value.bool Bool.false)), (HV.v (Value.string (ByteArray.mk (Array.mk [])))), (HV.v (Value.int IntKind.i64 0))]), (HV.v (Value.string (ByteArray.mk (Array.mk [])))), (HV.v (Value.slice Option.none 0 0)), (HV.v (Value.slice Option.none 0 0))]))]⟩) else (bif (ltI 64 c0) then (k HX.ret ⟨slots 49 [(2, (HV.ptr 0 0)), (3, (HV.v (Value.int IntKind.i64 182))), (4, (HV.v (Value.string (ByteArray.mk (Array.mk s)))))], [(Ob.box 43 (HV.st [(HV.v (Value.int IntKind.i64 0)), (HV.v (Value.bool Bool.false)), (HV.st [(HV.v (Value.bool Bool.false)), (HV.v (Value.string (ByteArray.mk (Array.mk [])))), (HV.v (Value.int IntKind.i64 0))]), (HV.v (Value.string (ByteArray.mk (Array.mk [])))), (HV.v (Value.slice Option.none 0 0)), (HV.v (Value.slice Option.none 0 0))]))]⟩) else (k HX.normal ⟨slots 49 [(2, (HV.ptr 0 0)), (3, (HV.v (Value.int IntKind.i64 0))), (4, (HV.v (Value.string (ByteArray.mk (Array.mk s)))))], [(Ob.box 43 (HV.st [(HV.v (Value.int IntKind.i64 0)), (HV.v (Value.bool Bool.false)), (HV.st [(HV.v (Value.bool Bool.false)), (HV.v (Value.string (ByteArray.mk (Array.mk [])))), (HV.v (Value.int IntKind.i64 0))]), (HV.v (Value.string (ByteArray.mk (Array.mk [])))), (HV.v (Value.slice Option.none 0 0)), (HV.v (Value.slice Option.none 0 0))]))]⟩)))))) := by kernel_rfl
theorem e24 (N M : Nat) (s : List UInt8) (k : KX) : evd (G14 N M) 4 (pc 24 [1, 1, 1, 1]) ⟨slots 49 [(2, .ptr 0 0), (3, .v (.int .i64 0)), (4, tx s)], [zbox]⟩ (fun x st => k x (st.keep [2, 3])) = ((decide ((List.length s) ≤ 100000000)) && (forkV (valF M s Bool.false) (fun c0 r0 p02 => (bif p02 then (bif p02 then (k HX.ret ⟨slots 49 [(2, (HV.ptr 0 0)), (3, (HV.v (Value.int IntKind.i64 184)))], [(Ob.box 43 (HV.st [(HV.v (Value.int IntKind.i64 0)), (HV.v (Value.bool Bool.false)), (HV.st [(HV.v (Value.bool Bool.false)), (HV.v (Value.string (ByteArray.mk (Array.mk [])))), (HV.v (Value.int IntKind.i64 0))]), (HV.v (Value.string (ByteArray.mk (Array.mk [])))), (HV.v (Value.slice Option.none 0 0)), (HV.v (Value.slice Option.none 0 0))])), (Ob.box 43 (HV.d Cd.json c0)), (Ob.box 90 (HV.st [(HV.v (Value.string (ByteArray.mk (Array.mk r0)))), (HV.v (Value.bool Bool.false)), (HV.v (Value.bool p02)), (HV.v (Value.bool Bool.false))])), (Ob.box 88 (HV.ptr 2 0))]⟩) else (k HX.ret ⟨slots 49 [(2, (HV.ptr 0 0)), (3, (HV.v (Value.int IntKind.i64 0)))], [(Ob.box 43 (HV.st [(HV.v (Value.int IntKind.i64 0)), (HV.v (Value.bool Bool.false)), (HV.st [(HV.v (Value.bool Bool.false)), (HV.v (Value.string (ByteArray.mk (Array.mk [])))), (HV.v (Value.int IntKind.i64 0))]), (HV.v (Value.string (ByteArray.mk (Array.mk [])))), (HV.v (Value.slice Option.none 0 0)), (HV.v (Value.slice Option.none 0 0))])), (Ob.box 43 (HV.d Cd.json c0)), (Ob.box 90 (HV.st [(HV.v (Value.string (ByteArray.mk (Array.mk r0)))), (HV.v (Value.bool Bool.false)), (HV.v (Value.bool p02)), (HV.v (Value.bool Bool.false))])), (Ob.box 88 (HV.ptr 2 0))]⟩)) else (k HX.ret ⟨slots 49 [(2, (HV.ptr 0 0)), (3, (HV.v (Value.int IntKind.i64 0)))], [(Ob.box 43 (HV.d Cd.json c0)), (Ob.box 43 (HV.d Cd.json c0)), (Ob.box 90 (HV.st [(HV.v (Value.string (ByteArray.mk (Array.mk r0)))), (HV.v (Value.bool Bool.false)), (HV.v (Value.bool p02)), (HV.v (Value.bool Bool.false))])), (Ob.box 88 (HV.ptr 2 0))]⟩))))) := by kernel_rfl

theorem code24 : Tryz.f24.body = some (.seq (pc 24 [0]) (.seq (pc 24 [1, 0]) (.seq (pc 24 [1, 1, 0]) (.seq (pc 24 [1, 1, 1, 0]) (pc 24 [1, 1, 1, 1]))))) := by kernel_rfl
theorem o24 (j : J) (e : Int) (L : List Ob) (kr : KR) : finK Tryz.prog Tryz.f24 [] kr ⟨slots 49 [(2, .ptr 0 0), (3, .v (.int .i64 e))], .box 43 (.d .json j) :: L⟩ = (kr (HR.ret (HV.tup [(HV.d Cd.json j), (HV.v (Value.int IntKind.i64 e))])) []) := by kernel_rfl

theorem asciiB_map {s : List UInt8} (h : AsciiS s) : asciiB (s.map fun c => ((c.toNat : Nat) : Int)) = true := by
  unfold asciiB
  rw [List.all_eq_true]
  intro x hx
  obtain ⟨c, hc, rfl⟩ := List.mem_map.1 hx
  exact decide_eq_true (h c hc)

theorem gamOK14 {w0 : World} (h0 : H4 w0) (N M : Nat) : GamOK Tryz.prog w0 (G14 N M) := by
  refine addP_ok (addL_ok (gamOK12 h0 M) ?_) ⟨_, Tryz.func41, rfl⟩ ?_
  · intro args L F kr hF hk
    unfold gramE at hF
    split at hF
    · rename_i a
      cases hF
      simp only [Bool.and_eq_true, decide_eq_true_eq] at hk
      obtain ⟨h1, h2⟩ := hk
      cases hg : gramF N 0 a.data.toList [] 0 with
      | none => rw [hg] at h2; cases h2
      | some r =>
        rw [hg] at h2
        exact does_pure (pureAns lasts4 (do42 h1 hg) rfl rfl h0) h2
    · cases hF
  · intro args r h h1
    unfold validP at h
    split at h
    · rename_i xs
      cases h
      refine pureAns lasts4 (do41a (fun x hx => ?_)) rfl rfl h0
      have h1 : asciiB xs = true := h1
      unfold asciiB at h1
      rw [List.all_eq_true] at h1
      exact of_decide_eq_true (h1 x hx)
    · cases h

theorem do24 {N M : Nat} {s s' : List UInt8} {d : Int} {j : J} (ha : AsciiS s) (hl : s.length ≤ 1048576) (hg : gramF N 0 s [] 0 = some (d, true)) (hd : d ≤ 64) (hv : valF M s false = some (j, s', false)) :
    PureDo Tryz.prog H4 24 [.d (.list (.int .u8)) (s.map fun c => ((c.toNat : Nat) : Int))] (.tup [.d .json j, .v (.int .i64 0)]) := by
  intro w0 kr h0 hkr
  have hG := gamOK14 h0 N M
  refine does_wpA Tryz.func24 code24 (n := 49) (by kernel_rfl) ?_
  refine wpA_seq ((evd_ok hG [0, 2, 3] (a24 N M _) (yes_mk ?_)).wpA)
  refine wpA_seq ((evd_ok hG [0, 2, 3] (b24 N M (s.map fun c => ((c.toNat : Nat) : Int))) ?_).wpA)
  have e1 : ltI 1048576 (((s.map fun c => ((c.toNat : Nat) : Int)).length : Nat) : Int) = false := by
    cases h : ltI 1048576 (((s.map fun c => ((c.toNat : Nat) : Int)).length : Nat) : Int) with
    | false => rfl
    | true => rw [ltI_iff, List.length_map] at h; omega
  rw [e1, asciiB_map ha]
  refine yes_mk ?_
  refine wpA_seq ((evd_ok hG [2, 3, 4] (c24 N M (s.map fun c => ((c.toNat : Nat) : Int))) (yes_mk ?_)).wpA)
  rw [bback_blist]
  refine wpA_seq ((evd_ok hG [2, 3, 4] (d24 N M s) ?_).wpA)
  rw [decide_eq_true (show s.length ≤ 100000000 by omega), hg]
  have e2 : ltI 64 d = false := by
    cases h : ltI 64 d with
    | false => rfl
    | true => rw [ltI_iff] at h; omega
  simp only [forkW, e2, Bool.true_and, Bool.not_true, cond_false]
  refine yes_mk ?_
  refine (evd_ok hG [2, 3] (e24 N M s) ?_).wpA
  rw [decide_eq_true (show s.length ≤ 100000000 by omega), hv]
  simp only [forkV, Bool.true_and, cond_false]
  refine yes_mk ?_
  show finK Tryz.prog Tryz.f24 [] kr ⟨slots 49 [(2, .ptr 0 0), (3, .v (.int .i64 0))], .box 43 (.d .json j) :: _⟩ = true
  rw [o24]
  exact hkr
end Go.Proofs.YtiaeljbnhdhfcaaGreatDoor
