/- jsontext: told, Check. -/
import Derived.Test.YtiaeljbnhdhfcaaGreatDoorP4
namespace Go.Mo
open Go Go.Lx
@[reducible] def jD : J := J.mk 0 false (Dec.mk false (ByteArray.mk (Array.mk [])) 0) (ByteArray.mk (Array.mk [])) [] []
def quoteL (l : List UInt8) : List Int := 34 :: (nums l ++ [34])
/-- The first i of a list's values, told. -/
def partsL (f : J → List Int) (l : List J) : Nat → List Int
  | 0 => []
  | i + 1 => partsL f l i ++ ((if i > 0 then [44] else []) ++ f (l.getD i jD))
def partsO (f : J → List Int) (l : List J) (ns : List ByteArray) : Nat → List Int
  | 0 => []
  | i + 1 => partsO f l ns i ++ ((if i > 0 then [44] else []) ++ (quoteL (ns.getD i (ByteArray.mk (Array.mk []))).data.toList ++ (58 :: f (l.getD i jD))))
/-- A value's text. -/
def toldJ : Nat → J → List Int
  | 0, _ => []
  | n + 1, .mk k _ _ t l ns => if k = 0 then [110, 117, 108, 108] else if k = 3 then quoteL t.data.toList else if k = 5 then 123 :: (partsO (toldJ n) l ns l.length ++ [125]) else 91 :: (partsL (toldJ n) l l.length ++ [93])
end Go.Mo
namespace Go.Proofs.YtiaeljbnhdhfcaaGreatDoor
open Go Go.RowKit Go.Lx Go.Mo

def quoteE (args : List HV) (L : List Ob) : Option (KR → Bool) := match args with
  | [.own (.int .u8) id v n, .v (.string s)] => (match L[id]? with
    | some (.row (.int .u8) v' fp xs) => some (fun kr => Nat.beq v v' && Nat.beq fp 0 && Nat.beq n xs.length && plainSB s.data.toList && decide (xs.length + s.data.toList.length + 2 ≤ 100000000000000) &&
        kr (.ret (.own (.int .u8) id (v + 1) (xs ++ quoteL s.data.toList).length)) (L.set id (.row (.int .u8) (v + 1) 0 (xs ++ quoteL s.data.toList))))
    | _ => none)
  | _ => none
def toldE (n : Nat) (args : List HV) (L : List Ob) : Option (KR → Bool) := match args with
  | [.own (.int .u8) id v m, .d .json j] => (match L[id]? with
    | some (.row (.int .u8) v' fp xs) => some (fun kr => Nat.beq v v' && Nat.beq fp 0 && Nat.beq m xs.length && tidy n j && plainJ n j && decide (xs.length + (toldJ n j).length ≤ 100000000000) &&
        kr (.ret (.own (.int .u8) id (v + 1) (xs ++ toldJ n j).length)) (L.set id (.row (.int .u8) (v + 1) 0 (xs ++ toldJ n j))))
    | _ => none)
  | _ => none
noncomputable def G19 : Gam := addL 107 quoteE G8
noncomputable def G20 (n : Nat) : Gam := addL 65 (toldE n) G19

theorem a65n (xs : List Int) (k : KX) : evs G19 1 [pc 65 [0], pc 65 [1, 0]] ⟨argT 0 [.own (.int .u8) 0 0 xs.length, jk 0 [] [] []] ⟨81, .nil⟩, [rowB xs]⟩ (fun x st => k x (st.keep [4])) = ((((decide ((List.length xs) ≤ (List.length xs))) && Bool.true) && (decide ((((List.length xs) + 4) * 1) ≤ 140737488355328))) && (k HX.ret ⟨slots 81 [(4, (HV.own (Cd.int IntKind.u8) 0 1 ((List.length xs) + 4)))], [(Ob.row (Cd.int IntKind.u8) 1 0 ((List.take (List.length xs) xs) ++ [110, 117, 108, 108])), (Ob.box 43 (HV.d Cd.json (J.mk 0 Bool.false (Dec.mk Bool.false (ByteArray.mk (Array.mk [])) 0) (ByteArray.mk (Array.mk [])) [] [])))]⟩)) := by kernel_rfl
theorem a65t (t : List UInt8) (xs : List Int) (k : KX) : evs G19 1 [pc 65 [0], pc 65 [1, 0]] ⟨argT 0 [.own (.int .u8) 0 0 xs.length, jk 3 t [] []] ⟨81, .nil⟩, [rowB xs]⟩ (fun x st => k x (st.keep [4])) = ((((Nat.beq (List.length xs) (List.length xs)) && (plainSB t)) && (decide ((((List.length xs) + (List.length t)) + 2) ≤ 100000000000000))) && (k HX.ret ⟨slots 81 [(4, (HV.own (Cd.int IntKind.u8) 0 1 (List.length (xs ++ (quoteL t)))))], [(Ob.row (Cd.int IntKind.u8) 1 0 (xs ++ (quoteL t))), (Ob.box 43 (HV.d Cd.json (J.mk 3 Bool.false (Dec.mk Bool.false (ByteArray.mk (Array.mk [])) 0) (ByteArray.mk (Array.mk t)) [] [])))]⟩)) := by kernel_rfl
theorem a65l (l : List J) (xs : List Int) (k : KX) : evs G19 1 [pc 65 [0], pc 65 [1, 0], pc 65 [1, 1, 0], pc 65 [1, 1, 1, 0], pc 65 [1, 1, 1, 1, 0]] ⟨argT 0 [.own (.int .u8) 0 0 xs.length, jk 4 [] l []] ⟨81, .nil⟩, [rowB xs]⟩ (fun x st => k x (st.keep [0, 3, 7])) = ((((decide ((List.length xs) ≤ (List.length xs))) && Bool.true) && (decide ((((List.length xs) + 1) * 1) ≤ 140737488355328))) && (k HX.normal ⟨slots 81 [(0, (HV.own (Cd.int IntKind.u8) 0 1 ((List.length xs) + 1))), (3, (HV.ptr 1 0)), (7, (HV.v (Value.string (ByteArray.mk (Array.mk [91, 93])))))], [(Ob.row (Cd.int IntKind.u8) 1 0 ((List.take (List.length xs) xs) ++ [91])), (Ob.box 43 (HV.d Cd.json (J.mk 4 Bool.false (Dec.mk Bool.false (ByteArray.mk (Array.mk [])) 0) (ByteArray.mk (Array.mk [])) l [])))]⟩)) := by kernel_rfl
theorem a65o (l : List J) (ns : List ByteArray) (xs : List Int) (k : KX) : evs G19 1 [pc 65 [0], pc 65 [1, 0], pc 65 [1, 1, 0], pc 65 [1, 1, 1, 0], pc 65 [1, 1, 1, 1, 0]] ⟨argT 0 [.own (.int .u8) 0 0 xs.length, jk 5 [] l ns] ⟨81, .nil⟩, [rowB xs]⟩ (fun x st => k x (st.keep [0, 3, 7])) = ((((decide ((List.length xs) ≤ (List.length xs))) && Bool.true) && (decide ((((List.length xs) + 1) * 1) ≤ 140737488355328))) && (k HX.normal ⟨slots 81 [(0, (HV.own (Cd.int IntKind.u8) 0 1 ((List.length xs) + 1))), (3, (HV.ptr 1 0)), (7, (HV.v (Value.string (ByteArray.mk (Array.mk [123, 125])))))], [(Ob.row (Cd.int IntKind.u8) 1 0 ((List.take (List.length xs) xs) ++ [123])), (Ob.box 43 (HV.d Cd.json (J.mk 5 Bool.false (Dec.mk Bool.false (ByteArray.mk (Array.mk [])) 0) (ByteArray.mk (Array.mk [])) l ns)))]⟩)) := by kernel_rfl
def bx65 (c : Int) (l : List J) (ns : List ByteArray) : Ob := .box 43 (jk c [] l ns)
def st65 (c : Int) (e : List UInt8) (l : List J) (ns : List ByteArray) (i : Nat) (ys : List Int) : St :=
  ⟨slots 81 [(0, .own (.int .u8) 0 1 ys.length), (3, .ptr 1 0), (7, tx e), (48, .d (.list .json) l), (49, .v (.int .i64 (l.length : Int))), (50, .v (.int .i64 (i : Int)))], [row1 ys, bx65 c l ns]⟩
theorem b65 (c : Int) (e : List UInt8) (l : List J) (ns : List ByteArray) (n : Nat) (ys : List Int) (k : KX) : evs G19 1 [(pc 65 [1, 1, 1, 1, 1, 0, 0])] ⟨slots 81 [(0, .own (.int .u8) 0 1 n), (3, .ptr 1 0), (7, tx e)], [row1 ys, bx65 c l ns]⟩ (fun x st => k x (st.keep [0, 3, 7, 48, 49, 50])) = (k HX.normal ⟨slots 81 [(0, (HV.own (Cd.int IntKind.u8) 0 1 n)), (3, (HV.ptr 1 0)), (7, (HV.v (Value.string (ByteArray.mk (Array.mk e))))), (48, (HV.d (Cd.list Cd.json) l)), (49, (HV.v (Value.int IntKind.i64 (((List.length l) : Nat) : Int)))), (50, (HV.v (Value.int IntKind.i64 0)))], [(Ob.row (Cd.int IntKind.u8) 1 0 ys), (Ob.box 43 (HV.d Cd.json (J.mk c Bool.false (Dec.mk Bool.false (ByteArray.mk (Array.mk [])) 0) (ByteArray.mk (Array.mk [])) l ns)))]⟩) := by kernel_rfl
theorem c65 (m : Nat) (e : List UInt8) (l : List J) (ns : List ByteArray) (ys : List Int) (k : KX) : evd (G20 m) 1 (pc 65 [1, 1, 1, 1, 1, 0, 1, 0, 0]) (st65 4 e l ns 0 ys) (fun x st => k x (st.keep [0, 3, 7, 48, 49, 50])) = (bif (ltI 0 (((List.length l) : Nat) : Int)) then ((decide (0 < (((List.length l) : Nat) : Int))) && (((((Nat.beq (List.length ys) (List.length ys)) && (tidy m (List.getD l 0 (J.mk 0 Bool.false (Dec.mk Bool.false (ByteArray.mk (Array.mk [])) 0) (ByteArray.mk (Array.mk [])) [] [])))) && (plainJ m (List.getD l 0 (J.mk 0 Bool.false (Dec.mk Bool.false (ByteArray.mk (Array.mk [])) 0) (ByteArray.mk (Array.mk [])) [] [])))) && (decide (((List.length ys) + (List.length (toldJ m (List.getD l 0 (J.mk 0 Bool.false (Dec.mk Bool.false (ByteArray.mk (Array.mk [])) 0) (ByteArray.mk (Array.mk [])) [] []))))) ≤ 100000000000))) && (k HX.normal ⟨slots 81 [(0, (HV.own (Cd.int IntKind.u8) 0 2 (List.length (ys ++ (toldJ m (List.getD l 0 (J.mk 0 Bool.false (Dec.mk Bool.false (ByteArray.mk (Array.mk [])) 0) (ByteArray.mk (Array.mk [])) [] []))))))), (3, (HV.ptr 1 0)), (7, (HV.v (Value.string (ByteArray.mk (Array.mk e))))), (48, (HV.d (Cd.list Cd.json) l)), (49, (HV.v (Value.int IntKind.i64 (((List.length l) : Nat) : Int)))), (50, (HV.v (Value.int IntKind.i64 1)))], [(Ob.row (Cd.int IntKind.u8) 2 0 (ys ++ (toldJ m (List.getD l 0 (J.mk 0 Bool.false (Dec.mk Bool.false (ByteArray.mk (Array.mk [])) 0) (ByteArray.mk (Array.mk [])) [] []))))), (Ob.box 43 (HV.d Cd.json (J.mk 4 Bool.false (Dec.mk Bool.false (ByteArray.mk (Array.mk [])) 0) (ByteArray.mk (Array.mk [])) l ns))), (Ob.box 43 (HV.d Cd.json (List.getD l 0 (J.mk 0 Bool.false (Dec.mk Bool.false (ByteArray.mk (Array.mk [])) 0) (ByteArray.mk (Array.mk [])) [] []))))]⟩))) else (k (HX.exit 1) ⟨slots 81 [(0, (HV.own (Cd.int IntKind.u8) 0 1 (List.length ys))), (3, (HV.ptr 1 0)), (7, (HV.v (Value.string (ByteArray.mk (Array.mk e))))), (48, (HV.d (Cd.list Cd.json) l)), (49, (HV.v (Value.int IntKind.i64 (((List.length l) : Nat) : Int)))), (50, (HV.v (Value.int IntKind.i64 0)))], [(Ob.row (Cd.int IntKind.u8) 1 0 ys), (Ob.box 43 (HV.d Cd.json (J.mk 4 Bool.false (Dec.mk Bool.false (ByteArray.mk (Array.mk [])) 0) (ByteArray.mk (Array.mk [])) l ns)))]⟩)) := by kernel_rfl
theorem c65s (m : Nat) (e : List UInt8) (l : List J) (ns : List ByteArray) (i : Nat) (ys : List Int) (k : KX) : evd (G20 m) 1 (pc 65 [1, 1, 1, 1, 1, 0, 1, 0, 0]) (st65 4 e l ns (i + 1) ys) (fun x st => k x (st.keep [0, 3, 7, 48, 49, 50])) = (bif (ltI (((i + 1) : Nat) : Int) (((List.length l) : Nat) : Int)) then ((decide ((((i + 1) : Nat) : Int) < (((List.length l) : Nat) : Int))) && ((((decide ((List.length ys) ≤ (List.length ys))) && Bool.true) && (decide ((((List.length ys) + 1) * 1) ≤ 140737488355328))) && (((((Nat.beq ((List.length ys) + 1) (List.length ((List.take (List.length ys) ys) ++ [44]))) && (tidy m (List.getD l (Int.toNat (((i + 1) : Nat) : Int)) (J.mk 0 Bool.false (Dec.mk Bool.false (ByteArray.mk (Array.mk [])) 0) (ByteArray.mk (Array.mk [])) [] [])))) && (plainJ m (List.getD l (Int.toNat (((i + 1) : Nat) : Int)) (J.mk 0 Bool.false (Dec.mk Bool.false (ByteArray.mk (Array.mk [])) 0) (ByteArray.mk (Array.mk [])) [] [])))) && (decide (((List.length ((List.take (List.length ys) ys) ++ [44])) + (List.length (toldJ m (List.getD l (Int.toNat (((i + 1) : Nat) : Int)) (J.mk 0 Bool.false (Dec.mk Bool.false (ByteArray.mk (Array.mk [])) 0) (ByteArray.mk (Array.mk [])) [] []))))) ≤ 100000000000))) && (k HX.normal ⟨slots 81 [(0, (HV.own (Cd.int IntKind.u8) 0 3 (List.length (((List.take (List.length ys) ys) ++ [44]) ++ (toldJ m (List.getD l (Int.toNat (((i + 1) : Nat) : Int)) (J.mk 0 Bool.false (Dec.mk Bool.false (ByteArray.mk (Array.mk [])) 0) (ByteArray.mk (Array.mk [])) [] []))))))), (3, (HV.ptr 1 0)), (7, (HV.v (Value.string (ByteArray.mk (Array.mk e))))), (48, (HV.d (Cd.list Cd.json) l)), (49, (HV.v (Value.int IntKind.i64 (((List.length l) : Nat) : Int)))), (50, (HV.v (Value.int IntKind.i64 (fwrap IntKind.i64 ((((i + 1) : Nat) : Int) + 1)))))], [(Ob.row (Cd.int IntKind.u8) 3 0 (((List.take (List.length ys) ys) ++ [44]) ++ (toldJ m (List.getD l (Int.toNat (((i + 1) : Nat) : Int)) (J.mk 0 Bool.false (Dec.mk Bool.false (ByteArray.mk (Array.mk [])) 0) (ByteArray.mk (Array.mk [])) [] []))))), (Ob.box 43 (HV.d Cd.json (J.mk 4 Bool.false (Dec.mk Bool.false (ByteArray.mk (Array.mk [])) 0) (ByteArray.mk (Array.mk [])) l ns))), (Ob.box 43 (HV.d Cd.json (List.getD l (Int.toNat (((i + 1) : Nat) : Int)) (J.mk 0 Bool.false (Dec.mk Bool.false (ByteArray.mk (Array.mk [])) 0) (ByteArray.mk (Array.mk [])) [] []))))]⟩)))) else (k (HX.exit 1) ⟨slots 81 [(0, (HV.own (Cd.int IntKind.u8) 0 1 (List.length ys))), (3, (HV.ptr 1 0)), (7, (HV.v (Value.string (ByteArray.mk (Array.mk e))))), (48, (HV.d (Cd.list Cd.json) l)), (49, (HV.v (Value.int IntKind.i64 (((List.length l) : Nat) : Int)))), (50, (HV.v (Value.int IntKind.i64 (((i + 1) : Nat) : Int))))], [(Ob.row (Cd.int IntKind.u8) 1 0 ys), (Ob.box 43 (HV.d Cd.json (J.mk 4 Bool.false (Dec.mk Bool.false (ByteArray.mk (Array.mk [])) 0) (ByteArray.mk (Array.mk [])) l ns)))]⟩)) := by kernel_rfl
theorem d65 (m : Nat) (e : List UInt8) (l : List J) (ns : List ByteArray) (ys : List Int) (k : KX) : evd (G20 m) 1 (pc 65 [1, 1, 1, 1, 1, 0, 1, 0, 0]) (st65 5 e l ns 0 ys) (fun x st => k x (st.keep [0, 3, 7, 48, 49, 50])) = (bif (ltI 0 (((List.length l) : Nat) : Int)) then ((decide (0 < (((List.length l) : Nat) : Int))) && ((decide (0 < (((List.length ns) : Nat) : Int))) && ((((Nat.beq (List.length ys) (List.length ys)) && (plainSB (Array.toList (ByteArray.data (List.getD ns 0 (ByteArray.mk (Array.mk []))))))) && (decide ((((List.length ys) + (List.length (Array.toList (ByteArray.data (List.getD ns 0 (ByteArray.mk (Array.mk []))))))) + 2) ≤ 100000000000000))) && (((((decide (0 ≤ (List.length (ys ++ (quoteL (Array.toList (ByteArray.data (List.getD ns 0 (ByteArray.mk (Array.mk [])))))))))) && (decide ((List.length (ys ++ (quoteL (Array.toList (ByteArray.data (List.getD ns 0 (ByteArray.mk (Array.mk [])))))))) ≤ (List.length (ys ++ (quoteL (Array.toList (ByteArray.data (List.getD ns 0 (ByteArray.mk (Array.mk []))))))))))) && Bool.true) && (decide ((((List.length (ys ++ (quoteL (Array.toList (ByteArray.data (List.getD ns 0 (ByteArray.mk (Array.mk [])))))))) + 1) * 1) ≤ 140737488355328))) && (((((Nat.beq ((List.length (ys ++ (quoteL (Array.toList (ByteArray.data (List.getD ns 0 (ByteArray.mk (Array.mk [])))))))) + 1) (List.length ((List.take (List.length (ys ++ (quoteL (Array.toList (ByteArray.data (List.getD ns 0 (ByteArray.mk (Array.mk [])))))))) (ys ++ (quoteL (Array.toList (ByteArray.data (List.getD ns 0 (ByteArray.mk (Array.mk [])))))))) ++ [58]))) && (tidy m (List.getD l 0 (J.mk 0 Bool.false (Dec.mk Bool.false (ByteArray.mk (Array.mk [])) 0) (ByteArray.mk (Array.mk [])) [] [])))) && (plainJ m (List.getD l 0 (J.mk 0 Bool.false (Dec.mk Bool.false (ByteArray.mk (Array.mk [])) 0) (ByteArray.mk (Array.mk [])) [] [])))) && (decide (((List.length ((List.take (List.length (ys ++ (quoteL (Array.toList (ByteArray.data (List.getD ns 0 (ByteArray.mk (Array.mk [])))))))) (ys ++ (quoteL (Array.toList (ByteArray.data (List.getD ns 0 (ByteArray.mk (Array.mk [])))))))) ++ [58])) + (List.length (toldJ m (List.getD l 0 (J.mk 0 Bool.false (Dec.mk Bool.false (ByteArray.mk (Array.mk [])) 0) (ByteArray.mk (Array.mk [])) [] []))))) ≤ 100000000000))) && (k HX.normal ⟨slots 81 [(0, (HV.own (Cd.int IntKind.u8) 0 4 (List.length (((List.take (List.length (ys ++ (quoteL (Array.toList (ByteArray.data (List.getD ns 0 (ByteArray.mk (Array.mk [])))))))) (ys ++ (quoteL (Array.toList (ByteArray.data (List.getD ns 0 (ByteArray.mk (Array.mk [])))))))) ++ [58]) ++ (toldJ m (List.getD l 0 (J.mk 0 Bool.false (Dec.mk Bool.false (ByteArray.mk (Array.mk [])) 0) (ByteArray.mk (Array.mk [])) [] []))))))), (3, (HV.ptr 1 0)), (7, (HV.v (Value.string (ByteArray.mk (Array.mk e))))), (48, (HV.d (Cd.list Cd.json) l)), (49, (HV.v (Value.int IntKind.i64 (((List.length l) : Nat) : Int)))), (50, (HV.v (Value.int IntKind.i64 1)))], [(Ob.row (Cd.int IntKind.u8) 4 0 (((List.take (List.length (ys ++ (quoteL (Array.toList (ByteArray.data (List.getD ns 0 (ByteArray.mk (Array.mk [])))))))) (ys ++ (quoteL (Array.toList (ByteArray.data (List.getD ns 0 (ByteArray.mk (Array.mk [])))))))) ++ [58]) ++ (toldJ m (List.getD l 0 (J.mk 0 Bool.false (Dec.mk Bool.false (ByteArray.mk (Array.mk [])) 0) (ByteArray.mk (Array.mk [])) [] []))))), (Ob.box 43 (HV.d Cd.json (J.mk 5 Bool.false (Dec.mk Bool.false (ByteArray.mk (Array.mk [])) 0) (ByteArray.mk (Array.mk [])) l ns))), (Ob.box 43 (HV.d Cd.json (List.getD l 0 (J.mk 0 Bool.false (Dec.mk Bool.false (ByteArray.mk (Array.mk [])) 0) (ByteArray.mk (Array.mk [])) [] []))))]⟩)))))) else (k (HX.exit 1) ⟨slots 81 [(0, (HV.own (Cd.int IntKind.u8) 0 1 (List.length ys))), (3, (HV.ptr 1 0)), (7, (HV.v (Value.string (ByteArray.mk (Array.mk e))))), (48, (HV.d (Cd.list Cd.json) l)), (49, (HV.v (Value.int IntKind.i64 (((List.length l) : Nat) : Int)))), (50, (HV.v (Value.int IntKind.i64 0)))], [(Ob.row (Cd.int IntKind.u8) 1 0 ys), (Ob.box 43 (HV.d Cd.json (J.mk 5 Bool.false (Dec.mk Bool.false (ByteArray.mk (Array.mk [])) 0) (ByteArray.mk (Array.mk [])) l ns)))]⟩)) := by kernel_rfl
theorem d65s (m : Nat) (e : List UInt8) (l : List J) (ns : List ByteArray) (i : Nat) (ys : List Int) (k : KX) : evd (G20 m) 1 (pc 65 [1, 1, 1, 1, 1, 0, 1, 0, 0]) (st65 5 e l ns (i + 1) ys) (fun x st => k x (st.keep [0, 3, 7, 48, 49, 50])) = (bif (ltI (((i + 1) : Nat) : Int) (((List.length l) : Nat) : Int)) then ((decide ((((i + 1) : Nat) : Int) < (((List.length l) : Nat) : Int))) && ((((decide ((List.length ys) ≤ (List.length ys))) && Bool.true) && (decide ((((List.length ys) + 1) * 1) ≤ 140737488355328))) && ((decide ((((i + 1) : Nat) : Int) < (((List.length ns) : Nat) : Int))) && ((((Nat.beq ((List.length ys) + 1) (List.length ((List.take (List.length ys) ys) ++ [44]))) && (plainSB (Array.toList (ByteArray.data (List.getD ns (Int.toNat (((i + 1) : Nat) : Int)) (ByteArray.mk (Array.mk []))))))) && (decide ((((List.length ((List.take (List.length ys) ys) ++ [44])) + (List.length (Array.toList (ByteArray.data (List.getD ns (Int.toNat (((i + 1) : Nat) : Int)) (ByteArray.mk (Array.mk []))))))) + 2) ≤ 100000000000000))) && (((((decide (0 ≤ (List.length (((List.take (List.length ys) ys) ++ [44]) ++ (quoteL (Array.toList (ByteArray.data (List.getD ns (Int.toNat (((i + 1) : Nat) : Int)) (ByteArray.mk (Array.mk [])))))))))) && (decide ((List.length (((List.take (List.length ys) ys) ++ [44]) ++ (quoteL (Array.toList (ByteArray.data (List.getD ns (Int.toNat (((i + 1) : Nat) : Int)) (ByteArray.mk (Array.mk [])))))))) ≤ (List.length (((List.take (List.length ys) ys) ++ [44]) ++ (quoteL (Array.toList (ByteArray.data (List.getD ns (Int.toNat (((i + 1) : Nat) : Int)) (ByteArray.mk (Array.mk []))))))))))) && Bool.true) && (decide ((((List.length (((List.take (List.length ys) ys) ++ [44]) ++ (quoteL (Array.toList (ByteArray.data (List.getD ns (Int.toNat (((i + 1) : Nat) : Int)) (ByteArray.mk (Array.mk [])))))))) + 1) * 1) ≤ 140737488355328))) && (((((Nat.beq ((List.length (((List.take (List.length ys) ys) ++ [44]) ++ (quoteL (Array.toList (ByteArray.data (List.getD ns (Int.toNat (((i + 1) : Nat) : Int)) (ByteArray.mk (Array.mk [])))))))) + 1) (List.length ((List.take (List.length (((List.take (List.length ys) ys) ++ [44]) ++ (quoteL (Array.toList (ByteArray.data (List.getD ns (Int.toNat (((i + 1) : Nat) : Int)) (ByteArray.mk (Array.mk [])))))))) (((List.take (List.length ys) ys) ++ [44]) ++ (quoteL (Array.toList (ByteArray.data (List.getD ns (Int.toNat (((i + 1) : Nat) : Int)) (ByteArray.mk (Array.mk [])))))))) ++ [58]))) && (tidy m (List.getD l (Int.toNat (((i + 1) : Nat) : Int)) (J.mk 0 Bool.false (Dec.mk Bool.false (ByteArray.mk (Array.mk [])) 0) (ByteArray.mk (Array.mk [])) [] [])))) && (plainJ m (List.getD l (Int.toNat (((i + 1) : Nat) : Int)) (J.mk 0 Bool.false (Dec.mk Bool.false (ByteArray.mk (Array.mk [])) 0) (ByteArray.mk (Array.mk [])) [] [])))) && (decide (((List.length ((List.take (List.length (((List.take (List.length ys) ys) ++ [44]) ++ (quoteL (Array.toList (ByteArray.data (List.getD ns (Int.toNat (((i + 1) : Nat) : Int)) (ByteArray.mk (Array.mk [])))))))) (((List.take (List.length ys) ys) ++ [44]) ++ (quoteL (Array.toList (ByteArray.data (List.getD ns (Int.toNat (((i + 1) : Nat) : Int)) (ByteArray.mk (Array.mk [])))))))) ++ [58])) + (List.length (toldJ m (List.getD l (Int.toNat (((i + 1) : Nat) : Int)) (J.mk 0 Bool.false (Dec.mk Bool.false (ByteArray.mk (Array.mk [])) 0) (ByteArray.mk (Array.mk [])) [] []))))) ≤ 100000000000))) && (k HX.normal ⟨slots 81 [(0, (HV.own (Cd.int IntKind.u8) 0 5 (List.length (((List.take (List.length (((List.take (List.length ys) ys) ++ [44]) ++ (quoteL (Array.toList (ByteArray.data (List.getD ns (Int.toNat (((i + 1) : Nat) : Int)) (ByteArray.mk (Array.mk [])))))))) (((List.take (List.length ys) ys) ++ [44]) ++ (quoteL (Array.toList (ByteArray.data (List.getD ns (Int.toNat (((i + 1) : Nat) : Int)) (ByteArray.mk (Array.mk [])))))))) ++ [58]) ++ (toldJ m (List.getD l (Int.toNat (((i + 1) : Nat) : Int)) (J.mk 0 Bool.false (Dec.mk Bool.false (ByteArray.mk (Array.mk [])) 0) (ByteArray.mk (Array.mk [])) [] []))))))), (3, (HV.ptr 1 0)), (7, (HV.v (Value.string (ByteArray.mk (Array.mk e))))), (48, (HV.d (Cd.list Cd.json) l)), (49, (HV.v (Value.int IntKind.i64 (((List.length l) : Nat) : Int)))), (50, (HV.v (Value.int IntKind.i64 (fwrap IntKind.i64 ((((i + 1) : Nat) : Int) + 1)))))], [(Ob.row (Cd.int IntKind.u8) 5 0 (((List.take (List.length (((List.take (List.length ys) ys) ++ [44]) ++ (quoteL (Array.toList (ByteArray.data (List.getD ns (Int.toNat (((i + 1) : Nat) : Int)) (ByteArray.mk (Array.mk [])))))))) (((List.take (List.length ys) ys) ++ [44]) ++ (quoteL (Array.toList (ByteArray.data (List.getD ns (Int.toNat (((i + 1) : Nat) : Int)) (ByteArray.mk (Array.mk [])))))))) ++ [58]) ++ (toldJ m (List.getD l (Int.toNat (((i + 1) : Nat) : Int)) (J.mk 0 Bool.false (Dec.mk Bool.false (ByteArray.mk (Array.mk [])) 0) (ByteArray.mk (Array.mk [])) [] []))))), (Ob.box 43 (HV.d Cd.json (J.mk 5 Bool.false (Dec.mk Bool.false (ByteArray.mk (Array.mk [])) 0) (ByteArray.mk (Array.mk [])) l ns))), (Ob.box 43 (HV.d Cd.json (List.getD l (Int.toNat (((i + 1) : Nat) : Int)) (J.mk 0 Bool.false (Dec.mk Bool.false (ByteArray.mk (Array.mk [])) 0) (ByteArray.mk (Array.mk [])) [] []))))]⟩))))))) else (k (HX.exit 1) ⟨slots 81 [(0, (HV.own (Cd.int IntKind.u8) 0 1 (List.length ys))), (3, (HV.ptr 1 0)), (7, (HV.v (Value.string (ByteArray.mk (Array.mk e))))), (48, (HV.d (Cd.list Cd.json) l)), (49, (HV.v (Value.int IntKind.i64 (((List.length l) : Nat) : Int)))), (50, (HV.v (Value.int IntKind.i64 (((i + 1) : Nat) : Int))))], [(Ob.row (Cd.int IntKind.u8) 1 0 ys), (Ob.box 43 (HV.d Cd.json (J.mk 5 Bool.false (Dec.mk Bool.false (ByteArray.mk (Array.mk [])) 0) (ByteArray.mk (Array.mk [])) l ns)))]⟩)) := by kernel_rfl
theorem e65 (c : Int) (b e : UInt8) (l : List J) (ns : List ByteArray) (i : Nat) (ys : List Int) (k : KX) : evd G19 1 (pc 65 [1, 1, 1, 1, 1, 1]) (st65 c [b, e] l ns i ys) (fun x st => k x (st.keep [4])) = ((((decide ((List.length ys) ≤ (List.length ys))) && Bool.true) && (decide ((((List.length ys) + 1) * 1) ≤ 140737488355328))) && (k HX.ret ⟨slots 81 [(4, (HV.own (Cd.int IntKind.u8) 0 2 ((List.length ys) + 1)))], [(Ob.row (Cd.int IntKind.u8) 2 0 ((List.take (List.length ys) ys) ++ [(((UInt8.toNat e) : Nat) : Int)])), (Ob.box 43 (HV.d Cd.json (J.mk c Bool.false (Dec.mk Bool.false (ByteArray.mk (Array.mk [])) 0) (ByteArray.mk (Array.mk [])) l ns)))]⟩)) := by kernel_rfl
theorem f65 (n : Nat) (zs xs : List Int) (kr : KR) : finK Tryz.prog Tryz.f65 [rowB xs] kr ⟨slots 81 [(4, .own (.int .u8) 0 1 n)], [row1 zs]⟩ = (kr (HR.ret (HV.own (Cd.int IntKind.u8) 0 1 n)) [(Ob.row (Cd.int IntKind.u8) 1 0 zs)]) := by kernel_rfl
theorem f65n (n : Nat) (zs : List Int) (kr : KR) : finK Tryz.prog Tryz.f65 [] kr ⟨slots 81 [(4, .own (.int .u8) 0 1 n)], [row1 zs]⟩ = (((decide (n ≤ (List.length zs))) && Bool.true) && (kr (HR.ret (HV.d (Cd.list (Cd.int IntKind.u8)) (List.take n zs))) [])) := by kernel_rfl
theorem code65 : Tryz.f65.body = some (seqs [pc 65 [0], pc 65 [1, 0]] (pc 65 [1, 1])) := by kernel_rfl
theorem code65b : seqs [pc 65 [0], pc 65 [1, 0]] (pc 65 [1, 1]) = seqs [pc 65 [0], pc 65 [1, 0], pc 65 [1, 1, 0], pc 65 [1, 1, 1, 0], pc 65 [1, 1, 1, 1, 0]] (.seq (seqs [(pc 65 [1, 1, 1, 1, 1, 0, 0])] (.block 1 (.loop (pc 65 [1, 1, 1, 1, 1, 0, 1, 0, 0])))) (pc 65 [1, 1, 1, 1, 1, 1])) := by kernel_rfl

theorem vw65a (n : Nat) (zs : List Int) (o : Ob) : vw [] 1 ⟨slots 81 [(4, .own (.int .u8) 0 1 n)], [row1 zs, o]⟩ = ⟨slots 81 [(4, .own (.int .u8) 0 1 n)], [row1 zs]⟩ := by kernel_rfl
theorem vw65b (n : Nat) (zs : List Int) (o : Ob) : vw [(0, 2, 1)] 1 ⟨slots 81 [(4, .own (.int .u8) 0 2 n)], [.row (.int .u8) 2 0 zs, o]⟩ = ⟨slots 81 [(4, .own (.int .u8) 0 1 n)], [row1 zs]⟩ := by kernel_rfl
def st65v (v c : Int) (vv : Nat) (e : List UInt8) (l : List J) (ns : List ByteArray) (i : Int) (m : Nat) (ys : List Int) (o : Ob) : St :=
  ⟨slots 81 [(0, .own (.int .u8) 0 vv m), (3, .ptr 1 0), (7, tx e), (48, .d (.list .json) l), (49, .v (.int .i64 (l.length : Int))), (50, .v (.int .i64 i))], [.row (.int .u8) vv 0 ys, bx65 c l ns, o]⟩
def st65w (c : Int) (e : List UInt8) (l : List J) (ns : List ByteArray) (i : Int) (m : Nat) (ys : List Int) : St :=
  ⟨slots 81 [(0, .own (.int .u8) 0 1 m), (3, .ptr 1 0), (7, tx e), (48, .d (.list .json) l), (49, .v (.int .i64 (l.length : Int))), (50, .v (.int .i64 i))], [row1 ys, bx65 c l ns]⟩
theorem vw65c2 (v c : Int) (e : List UInt8) (l : List J) (ns : List ByteArray) (i : Int) (m : Nat) (ys : List Int) (o : Ob) : vw [(0, 2, 1)] 2 (st65v v c 2 e l ns i m ys o) = st65w c e l ns i m ys := by kernel_rfl
theorem vw65c3 (v c : Int) (e : List UInt8) (l : List J) (ns : List ByteArray) (i : Int) (m : Nat) (ys : List Int) (o : Ob) : vw [(0, 3, 1)] 2 (st65v v c 3 e l ns i m ys o) = st65w c e l ns i m ys := by kernel_rfl
theorem vw65c4 (v c : Int) (e : List UInt8) (l : List J) (ns : List ByteArray) (i : Int) (m : Nat) (ys : List Int) (o : Ob) : vw [(0, 4, 1)] 2 (st65v v c 4 e l ns i m ys o) = st65w c e l ns i m ys := by kernel_rfl
theorem vw65c5 (v c : Int) (e : List UInt8) (l : List J) (ns : List ByteArray) (i : Int) (m : Nat) (ys : List Int) (o : Ob) : vw [(0, 5, 1)] 2 (st65v v c 5 e l ns i m ys o) = st65w c e l ns i m ys := by kernel_rfl

/-- Is a call's beginning such that its row may be told anew? -/
def Okl (L0 : List Ob) : Prop := L0 = [] ∨ ∃ xs, L0 = [rowB xs]

theorem okl_vw {L0 : List Ob} (h : Okl L0) (v n : Nat) (T : Tm) (ys : List Int) (Lr : List Ob) (hn : 0 < n) : vwOk L0 [(0, v, 1)] n ⟨T, .row (.int .u8) v 0 ys :: Lr⟩ = true := by
  rcases h with rfl | ⟨xs, rfl⟩
  · simp [vwOk, isRowV]
  · simp [vwOk, isRowV, rowB, Ob.ver]; omega

theorem okl_vw0 {L0 : List Ob} (h : Okl L0) (n : Nat) (st : St) (hn : 0 < n) : vwOk L0 [] n st = true := by
  rcases h with rfl | ⟨xs, rfl⟩
  · simp [vwOk]
  · simp [vwOk]; omega

theorem gamOK19 {w0 : World} (h0 : H4 w0) : GamOK Tryz.prog w0 G19 := by
  refine addL_ok (gamOK8 h0) ?_
  intro args L F kr hF hk
  unfold quoteE at hF
  split at hF
  · rename_i id v n s
    split at hF
    · rename_i v' fp xs hid
      cases hF
      simp only [Bool.and_eq_true, decide_eq_true_eq] at hk
      obtain ⟨⟨⟨⟨⟨h1, h2⟩, h3⟩, h4⟩, h5⟩, h6⟩ := hk
      obtain rfl := Nat.eq_of_beq_eq_true h1
      obtain rfl := Nat.eq_of_beq_eq_true h2
      obtain rfl := Nat.eq_of_beq_eq_true h3
      refine does_frame [id] [v] (by simp [footOk, hid, Ob.isDead, Ob.ver]) ?_
      have p0 : posOf id [id] 0 = some 0 := by simp only [posOf, Nat.beq_refl, cond_true]
      have e1 : rens (subR [id] [v]) [.own (.int .u8) id v xs.length, .v (.string s)] = [.own (.int .u8) 0 0 xs.length, .v (.string s)] := by
        simp only [rens, ren, subR, p0, List.getD_cons_zero, Nat.beq_refl, cond_true]
      have e2 : subL (subR [id] [v]) L [id] = [rowB xs] := by
        simp only [subL, List.getD_eq_getElem?_getD, hid, Option.getD_some, renOb]
        rfl
      rw [e1, e2]
      refine do107 h0 (s := s.data.toList) h4 h5 ?_
      have s1 : supR [id] [v] L.length 0 1 = some (id, v + 1) := rfl
      simp only [renHR, ren, s1, putL, renOb, row1, Ob.ver, List.map_nil, List.append_nil]
      exact h6
    · cases hF
  · cases hF
end Go.Proofs.YtiaeljbnhdhfcaaGreatDoor

namespace Go.Proofs.YtiaeljbnhdhfcaaGreatDoor
open Go Go.RowKit Go.Lx Go.Mo

theorem partsL_mono (f : J → List Int) (l : List J) : ∀ {i k : Nat}, i ≤ k → (partsL f l i).length ≤ (partsL f l k).length := by
  intro i k h
  induction k with
  | zero => have : i = 0 := by omega
            subst this; exact Nat.le_refl _
  | succ k ih =>
    by_cases hk : i = k + 1
    · subst hk; exact Nat.le_refl _
    · have := ih (by omega)
      simp only [partsL, List.length_append]; omega

theorem partsO_mono (f : J → List Int) (l : List J) (ns : List ByteArray) : ∀ {i k : Nat}, i ≤ k → (partsO f l ns i).length ≤ (partsO f l ns k).length := by
  intro i k h
  induction k with
  | zero => have : i = 0 := by omega
            subst this; exact Nat.le_refl _
  | succ k ih =>
    by_cases hk : i = k + 1
    · subst hk; exact Nat.le_refl _
    · have := ih (by omega)
      simp only [partsO, List.length_append]; omega

/-- What is asked of told at a depth. -/
def Told (n : Nat) : Prop := ∀ {w0 : World}, H4 w0 → ∀ j, tidy n j = true → plainJ n j = true → ∀ (xs : List Int), xs.length + (toldJ n j).length ≤ 100000000000 → ∀ kr : KR, kr (.ret (.own (.int .u8) 0 1 (xs ++ toldJ n j).length)) [row1 (xs ++ toldJ n j)] = true →
  Does Tryz.prog w0 65 [.own (.int .u8) 0 0 xs.length, .d .json j] [rowB xs] kr

theorem gamOK20 {w0 : World} (h0 : H4 w0) {n : Nat} (hT : Told n) : GamOK Tryz.prog w0 (G20 n) := by
  refine addL_ok (gamOK19 h0) ?_
  intro args L F kr hF hk
  unfold toldE at hF
  split at hF
  · rename_i id v m j
    split at hF
    · rename_i v' fp xs hid
      cases hF
      simp only [Bool.and_eq_true, decide_eq_true_eq] at hk
      obtain ⟨⟨⟨⟨⟨⟨h1, h2⟩, h3⟩, h4⟩, h5⟩, h6⟩, h7⟩ := hk
      obtain rfl := Nat.eq_of_beq_eq_true h1
      obtain rfl := Nat.eq_of_beq_eq_true h2
      obtain rfl := Nat.eq_of_beq_eq_true h3
      refine does_frame [id] [v] (by simp [footOk, hid, Ob.isDead, Ob.ver]) ?_
      have p0 : posOf id [id] 0 = some 0 := by simp only [posOf, Nat.beq_refl, cond_true]
      have e1 : rens (subR [id] [v]) [.own (.int .u8) id v xs.length, .d .json j] = [.own (.int .u8) 0 0 xs.length, .d .json j] := by
        simp only [rens, ren, subR, p0, List.getD_cons_zero, Nat.beq_refl, cond_true]
      have e2 : subL (subR [id] [v]) L [id] = [rowB xs] := by
        simp only [subL, List.getD_eq_getElem?_getD, hid, Option.getD_some, renOb]
        rfl
      rw [e1, e2]
      refine hT h0 j h4 h5 xs h6 _ ?_
      have s1 : supR [id] [v] L.length 0 1 = some (id, v + 1) := rfl
      simp only [renHR, ren, s1, putL, renOb, row1, Ob.ver, List.map_nil, List.append_nil]
      exact h7
    · cases hF
  · cases hF

section
variable {w0 : World} {n : Nat} {l : List J} {ns : List ByteArray} {xs : List Int} {F : HX → St → Prop} {L0 : List Ob}

theorem ltI_false {a b : Int} (h : ¬ a < b) : ltI a b = false := by
  cases hb : ltI a b with
  | false => rfl
  | true => rw [ltI_iff] at hb; exact absurd hb h
theorem ltI_true {a b : Int} (h : a < b) : ltI a b = true := (ltI_iff _ _).2 h

theorem nx65 (c : Int) (e : List UInt8) (l : List J) (ns : List ByteArray) (i : Nat) (ys : List Int) (m : Nat) (hm : m = ys.length) (j : Int) (hj : j = (i : Int)) : st65w c e l ns j m ys = st65 c e l ns i ys := by subst hm; subst hj; rfl

theorem loop65l (h0 : H4 w0) (hT : Told n) (hO : Okl L0) (ht : l.all (tidy n) = true) (hp : l.all (plainJ n) = true) (hll : l.length ≤ 100000000) (hx : xs.length + (partsL (toldJ n) l l.length).length + 2 ≤ 100000000000)
    (hF : F .ret ⟨slots 81 [(4, .own (.int .u8) 0 1 (xs ++ 91 :: (partsL (toldJ n) l l.length ++ [93])).length)], [row1 (xs ++ 91 :: (partsL (toldJ n) l l.length ++ [93]))]⟩) :
    WpA Tryz.prog w0 L0 (.block 1 (.loop (pc 65 [1, 1, 1, 1, 1, 0, 1, 0, 0]))) (st65 4 [91, 93] l ns 0 (xs ++ [91])) (fun x st' => match x with | .normal => WpA Tryz.prog w0 L0 (pc 65 [1, 1, 1, 1, 1, 1]) st' F | x => F x st') := by
  have hG := gamOK19 h0
  have hG2 := gamOK20 h0 hT
  refine wpA_block (wpA_loop (α := { i : Nat // i ≤ l.length }) (fun i => st65 4 [91, 93] l ns i.1 (xs ++ 91 :: partsL (toldJ n) l i.1)) (fun i => l.length - i.1) (fun i => ?_) ⟨0, Nat.zero_le _⟩)
  obtain ⟨i, hi⟩ := i
  dsimp only
  have hlen : ∀ k, (xs ++ 91 :: partsL (toldJ n) l k).length = xs.length + 1 + (partsL (toldJ n) l k).length := fun k => by simp; omega
  have hm := partsL_mono (toldJ n) l hi
  have hex : i = l.length → WpA Tryz.prog w0 L0 (pc 65 [1, 1, 1, 1, 1, 1]) (st65 4 [91, 93] l ns i (xs ++ 91 :: partsL (toldJ n) l i)) F := by
    intro hil
    refine wpA_post ?_
    refine (evd_ok hG [4] (e65 4 91 93 l ns i (xs ++ 91 :: partsL (toldJ n) l i)) ?_).wpA
    have hb := hlen i
    rw [decide_eq_true (Nat.le_refl _), decide_eq_true (show ((xs ++ 91 :: partsL (toldJ n) l i).length + 1) * 1 ≤ 140737488355328 by omega), List.take_length]
    refine yes_mk ⟨fun _ h => (by cases h), fun _ => ⟨[(0, 2, 1)], 1, okl_vw hO _ _ _ _ _ (by omega), ?_⟩⟩
    rw [vw65b]
    have he : xs ++ 91 :: partsL (toldJ n) l i ++ [93] = xs ++ 91 :: (partsL (toldJ n) l i ++ [93]) := by simp
    have hl2 : (xs ++ 91 :: partsL (toldJ n) l i).length + 1 = (xs ++ 91 :: (partsL (toldJ n) l i ++ [93])).length := by rw [← he]; simp; omega
    show F .ret ⟨slots 81 [(4, .own (.int .u8) 0 1 ((xs ++ 91 :: partsL (toldJ n) l i).length + 1))], [row1 (xs ++ 91 :: partsL (toldJ n) l i ++ [93])]⟩
    rw [he, hl2, hil]
    exact hF
  rcases Nat.lt_or_ge i l.length with hlt | hge
  · have hgd : l.getD i jD = l[i] := by rw [List.getD_eq_getElem?_getD, List.getElem?_eq_getElem hlt]; rfl
    have hti : tidy n l[i] = true := by rw [List.all_eq_true] at ht; exact ht _ (List.getElem_mem hlt)
    have hpi : plainJ n l[i] = true := by rw [List.all_eq_true] at hp; exact hp _ (List.getElem_mem hlt)
    have hm1 := partsL_mono (toldJ n) l hlt
    have hs1 : partsL (toldJ n) l (i + 1) = partsL (toldJ n) l i ++ ((if i > 0 then [44] else []) ++ toldJ n l[i]) := by simp only [partsL, hgd]
    have f3 : fwrap .i64 ((i : Int) + 1) = ((i + 1 : Nat) : Int) := fwrap_i64 (by omega) (by omega)
    cases i with
    | zero =>
      refine (evd_ok hG2 [0, 3, 7, 48, 49, 50] (c65 n [91, 93] l ns (xs ++ 91 :: partsL (toldJ n) l 0)) ?_).wpA
      have hb := hlen 0
      rw [hs1, List.length_append] at hm1
      simp only [Nat.lt_irrefl, gt_iff_lt, if_false, List.nil_append] at hs1 hm1
      rw [ltI_true (show (0 : Int) < (l.length : Int) by omega), cond_true]
      rw [show l.getD 0 (J.mk 0 false (Dec.mk false (ByteArray.mk (Array.mk [])) 0) (ByteArray.mk (Array.mk [])) [] []) = l[0] from hgd]
      rw [hti, hpi, Nat.beq_refl, decide_eq_true (show (0 : Int) < (l.length : Int) by omega), decide_eq_true (show (xs ++ 91 :: partsL (toldJ n) l 0).length + (toldJ n l[0]).length ≤ 100000000000 by omega)]
      refine yes_mk ⟨⟨1, hlt⟩, [(0, 2, 1)], 2, by dsimp only; omega, okl_vw hO _ _ _ _ _ (by omega), ?_⟩
      dsimp only
      refine (vw65c2 0 4 [91, 93] l ns _ _ _ _).trans ?_
      have he : xs ++ 91 :: partsL (toldJ n) l 0 ++ toldJ n l[0] = xs ++ 91 :: partsL (toldJ n) l 1 := by rw [hs1]; simp
      rw [he]
      exact nx65 _ _ _ _ 1 _ _ rfl _ rfl
    | succ i =>
      refine (evd_ok hG2 [0, 3, 7, 48, 49, 50] (c65s n [91, 93] l ns i (xs ++ 91 :: partsL (toldJ n) l (i + 1))) ?_).wpA
      have hb := hlen (i + 1)
      rw [hs1, List.length_append] at hm1
      have hi0 : i + 1 > 0 := by omega
      rw [if_pos hi0] at hs1 hm1
      simp only [List.length_append, List.length_singleton] at hm1
      rw [ltI_true (show ((i + 1 : Nat) : Int) < (l.length : Int) by omega), cond_true]
      have hgd' : l.getD (Int.toNat ((i + 1 : Nat) : Int)) (J.mk 0 false (Dec.mk false (ByteArray.mk (Array.mk [])) 0) (ByteArray.mk (Array.mk [])) [] []) = l[i + 1] := by rw [Int.toNat_natCast]; exact hgd
      have hl3 : (xs ++ 91 :: partsL (toldJ n) l (i + 1) ++ [44]).length = (xs ++ 91 :: partsL (toldJ n) l (i + 1)).length + 1 := by simp; omega
      rw [hgd', hti, hpi, List.take_length, hl3, Nat.beq_refl, decide_eq_true (show ((i + 1 : Nat) : Int) < (l.length : Int) by omega), decide_eq_true (Nat.le_refl (xs ++ 91 :: partsL (toldJ n) l (i + 1)).length), decide_eq_true (show ((xs ++ 91 :: partsL (toldJ n) l (i + 1)).length + 1) * 1 ≤ 140737488355328 by omega), decide_eq_true (show (xs ++ 91 :: partsL (toldJ n) l (i + 1)).length + 1 + (toldJ n l[i + 1]).length ≤ 100000000000 by omega)]
      refine yes_mk ⟨⟨i + 2, hlt⟩, [(0, 3, 1)], 2, by dsimp only; omega, okl_vw hO _ _ _ _ _ (by omega), ?_⟩
      dsimp only
      refine (vw65c3 0 4 [91, 93] l ns _ _ _ _).trans ?_
      have he : xs ++ 91 :: partsL (toldJ n) l (i + 1) ++ [44] ++ toldJ n l[i + 1] = xs ++ 91 :: partsL (toldJ n) l (i + 2) := by rw [hs1]; simp
      rw [he]
      exact nx65 _ _ _ _ (i + 2) _ _ rfl _ f3
  · have hil : i = l.length := by omega
    have hre : ∀ {R : Bool}, R = true → R = true := fun h => h
    cases i with
    | zero =>
      refine (evd_ok hG2 [0, 3, 7, 48, 49, 50] (c65 n [91, 93] l ns (xs ++ 91 :: partsL (toldJ n) l 0)) ?_).wpA
      rw [ltI_false (show ¬ (0 : Int) < (l.length : Int) by omega)]
      exact yes_mk (hex hil)
    | succ i =>
      refine (evd_ok hG2 [0, 3, 7, 48, 49, 50] (c65s n [91, 93] l ns i (xs ++ 91 :: partsL (toldJ n) l (i + 1))) ?_).wpA
      rw [ltI_false (show ¬ ((i + 1 : Nat) : Int) < (l.length : Int) by omega)]
      exact yes_mk (hex hil)
end
end Go.Proofs.YtiaeljbnhdhfcaaGreatDoor

namespace Go.Proofs.YtiaeljbnhdhfcaaGreatDoor
open Go Go.RowKit Go.Lx Go.Mo

theorem quoteL_length (l : List UInt8) : (quoteL l).length = l.length + 2 := by simp [quoteL, nums]

section
variable {w0 : World} {n : Nat} {l : List J} {ns : List ByteArray} {xs : List Int} {F : HX → St → Prop} {L0 : List Ob}

theorem loop65o (h0 : H4 w0) (hT : Told n) (hO : Okl L0) (ht : l.all (tidy n) = true) (hp : l.all (plainJ n) = true) (hpn : plainAll ns = true) (hnl : ns.length = l.length) (hll : l.length ≤ 100000000) (hx : xs.length + (partsO (toldJ n) l ns l.length).length + 2 ≤ 100000000000)
    (hF : F .ret ⟨slots 81 [(4, .own (.int .u8) 0 1 (xs ++ 123 :: (partsO (toldJ n) l ns l.length ++ [125])).length)], [row1 (xs ++ 123 :: (partsO (toldJ n) l ns l.length ++ [125]))]⟩) :
    WpA Tryz.prog w0 L0 (.block 1 (.loop (pc 65 [1, 1, 1, 1, 1, 0, 1, 0, 0]))) (st65 5 [123, 125] l ns 0 (xs ++ [123])) (fun x st' => match x with | .normal => WpA Tryz.prog w0 L0 (pc 65 [1, 1, 1, 1, 1, 1]) st' F | x => F x st') := by
  have hG := gamOK19 h0
  have hG2 := gamOK20 h0 hT
  refine wpA_block (wpA_loop (α := { i : Nat // i ≤ l.length }) (fun i => st65 5 [123, 125] l ns i.1 (xs ++ 123 :: partsO (toldJ n) l ns i.1)) (fun i => l.length - i.1) (fun i => ?_) ⟨0, Nat.zero_le _⟩)
  obtain ⟨i, hi⟩ := i
  dsimp only
  have hlen : ∀ k, (xs ++ 123 :: partsO (toldJ n) l ns k).length = xs.length + 1 + (partsO (toldJ n) l ns k).length := fun k => by simp; omega
  have hm := partsO_mono (toldJ n) l ns hi
  have hex : i = l.length → WpA Tryz.prog w0 L0 (pc 65 [1, 1, 1, 1, 1, 1]) (st65 5 [123, 125] l ns i (xs ++ 123 :: partsO (toldJ n) l ns i)) F := by
    intro hil
    refine wpA_post ?_
    refine (evd_ok hG [4] (e65 5 123 125 l ns i (xs ++ 123 :: partsO (toldJ n) l ns i)) ?_).wpA
    have hb := hlen i
    rw [decide_eq_true (Nat.le_refl _), decide_eq_true (show ((xs ++ 123 :: partsO (toldJ n) l ns i).length + 1) * 1 ≤ 140737488355328 by omega), List.take_length]
    refine yes_mk ⟨fun _ h => (by cases h), fun _ => ⟨[(0, 2, 1)], 1, okl_vw hO _ _ _ _ _ (by omega), ?_⟩⟩
    rw [vw65b]
    have he : xs ++ 123 :: partsO (toldJ n) l ns i ++ [125] = xs ++ 123 :: (partsO (toldJ n) l ns i ++ [125]) := by simp
    have hl2 : (xs ++ 123 :: partsO (toldJ n) l ns i).length + 1 = (xs ++ 123 :: (partsO (toldJ n) l ns i ++ [125])).length := by rw [← he]; simp; omega
    show F .ret ⟨slots 81 [(4, .own (.int .u8) 0 1 ((xs ++ 123 :: partsO (toldJ n) l ns i).length + 1))], [row1 (xs ++ 123 :: partsO (toldJ n) l ns i ++ [125])]⟩
    rw [he, hl2, hil]
    exact hF
  rcases Nat.lt_or_ge i l.length with hlt | hge
  · have hgd : l.getD i jD = l[i] := by rw [List.getD_eq_getElem?_getD, List.getElem?_eq_getElem hlt]; rfl
    have hlt' : i < ns.length := by omega
    have hgn : ns.getD i (ByteArray.mk (Array.mk [])) = ns[i] := by rw [List.getD_eq_getElem?_getD, List.getElem?_eq_getElem hlt']; rfl
    have hti : tidy n l[i] = true := by rw [List.all_eq_true] at ht; exact ht _ (List.getElem_mem hlt)
    have hpi : plainJ n l[i] = true := by rw [List.all_eq_true] at hp; exact hp _ (List.getElem_mem hlt)
    have hni : plainSB ns[i].data.toList = true := by unfold plainAll at hpn; rw [List.all_eq_true] at hpn; exact hpn _ (List.getElem_mem hlt')
    have hm1 := partsO_mono (toldJ n) l ns hlt
    have hs1 : partsO (toldJ n) l ns (i + 1) = partsO (toldJ n) l ns i ++ ((if i > 0 then [44] else []) ++ (quoteL ns[i].data.toList ++ (58 :: toldJ n l[i]))) := by simp only [partsO, hgd, hgn]
    have f3 : fwrap .i64 ((i : Int) + 1) = ((i + 1 : Nat) : Int) := fwrap_i64 (by omega) (by omega)
    generalize hnm : ns[i].data.toList = nm at hni hs1
    generalize hvl : l[i] = vl at hti hpi hs1
    have hql := quoteL_length nm
    have hb := hlen i
    cases i with
    | zero =>
      refine (evd_ok hG2 [0, 3, 7, 48, 49, 50] (d65 n [123, 125] l ns (xs ++ 123 :: partsO (toldJ n) l ns 0)) ?_).wpA
      rw [hs1] at hm1
      simp only [Nat.lt_irrefl, gt_iff_lt, if_false, List.nil_append] at hs1 hm1
      rw [show l.getD 0 (J.mk 0 false (Dec.mk false (ByteArray.mk (Array.mk [])) 0) (ByteArray.mk (Array.mk [])) [] []) = vl from hgd.trans hvl, hgn, hnm]
      simp only [List.length_append, List.length_cons, hql] at hm1
      have he : xs ++ 123 :: partsO (toldJ n) l ns 0 ++ quoteL nm ++ [58] ++ toldJ n vl = xs ++ 123 :: partsO (toldJ n) l ns 1 := by rw [hs1]; simp
      generalize hys : xs ++ 123 :: partsO (toldJ n) l ns 0 = ys at hb he
      have hq : (ys ++ quoteL nm).length = ys.length + nm.length + 2 := by rw [List.length_append, hql]; omega
      have hq1 : (ys ++ quoteL nm ++ [58]).length = ys.length + nm.length + 3 := by rw [List.length_append, hq]; rfl
      simp only [List.take_length]
      simp only [ltI_true (show (0 : Int) < (l.length : Int) by omega), decide_eq_true (show (0 : Int) < (l.length : Int) by omega), decide_eq_true (show (0 : Int) < (ns.length : Int) by omega), hni, hti, hpi, Nat.beq_refl, hq, hq1, decide_eq_true (show ys.length + nm.length + 2 ≤ 100000000000000 by omega), decide_eq_true (show (ys.length + nm.length + 2 + 1) * 1 ≤ 140737488355328 by omega), decide_eq_true (show ys.length + nm.length + 3 + (toldJ n vl).length ≤ 100000000000 by omega), Nat.zero_le, Nat.le_refl, decide_true, Bool.true_and, Bool.and_true, cond_true]
      refine yes_mk ?_
      refine ⟨⟨1, hlt⟩, [(0, 4, 1)], 2, by dsimp only; omega, okl_vw hO _ _ _ _ _ (by omega), ?_⟩
      dsimp only
      refine (vw65c4 0 5 [123, 125] l ns _ _ _ _).trans ?_
      rw [he]
      exact nx65 _ _ _ _ 1 _ _ rfl _ rfl
    | succ i =>
      refine (evd_ok hG2 [0, 3, 7, 48, 49, 50] (d65s n [123, 125] l ns i (xs ++ 123 :: partsO (toldJ n) l ns (i + 1))) ?_).wpA
      rw [hs1] at hm1
      have hi0 : i + 1 > 0 := by omega
      rw [if_pos hi0] at hs1 hm1
      have hgd' : l.getD (Int.toNat ((i + 1 : Nat) : Int)) (J.mk 0 false (Dec.mk false (ByteArray.mk (Array.mk [])) 0) (ByteArray.mk (Array.mk [])) [] []) = vl := by rw [Int.toNat_natCast]; exact hgd.trans hvl
      have hgn' : ns.getD (Int.toNat ((i + 1 : Nat) : Int)) (ByteArray.mk (Array.mk [])) = ns[i + 1] := by rw [Int.toNat_natCast]; exact hgn
      rw [hgd', hgn', hnm]
      simp only [List.length_append, List.length_cons, List.length_nil, hql] at hm1
      have he : xs ++ 123 :: partsO (toldJ n) l ns (i + 1) ++ [44] ++ quoteL nm ++ [58] ++ toldJ n vl = xs ++ 123 :: partsO (toldJ n) l ns (i + 2) := by rw [hs1]; simp
      generalize hys : xs ++ 123 :: partsO (toldJ n) l ns (i + 1) = ys at hb he
      have hc : (ys ++ [44]).length = ys.length + 1 := by simp
      have hq : (ys ++ [44] ++ quoteL nm).length = ys.length + nm.length + 3 := by rw [List.length_append, hql, hc]; omega
      have hq1 : (ys ++ [44] ++ quoteL nm ++ [58]).length = ys.length + nm.length + 4 := by rw [List.length_append, hq]; rfl
      simp only [List.take_length]
      simp only [ltI_true (show ((i + 1 : Nat) : Int) < (l.length : Int) by omega), decide_eq_true (show ((i + 1 : Nat) : Int) < (l.length : Int) by omega), decide_eq_true (show ((i + 1 : Nat) : Int) < (ns.length : Int) by omega), hni, hti, hpi, Nat.beq_refl, hc, hq, hq1, decide_eq_true (show (ys.length + 1) * 1 ≤ 140737488355328 by omega), decide_eq_true (show ys.length + 1 + nm.length + 2 ≤ 100000000000000 by omega), decide_eq_true (show (ys.length + nm.length + 3 + 1) * 1 ≤ 140737488355328 by omega), decide_eq_true (show ys.length + nm.length + 4 + (toldJ n vl).length ≤ 100000000000 by omega), Nat.zero_le, Nat.le_refl, decide_true, Bool.true_and, Bool.and_true, cond_true, f3]
      refine yes_mk ?_
      refine ⟨⟨i + 2, hlt⟩, [(0, 5, 1)], 2, by dsimp only; omega, okl_vw hO _ _ _ _ _ (by omega), ?_⟩
      dsimp only
      refine (vw65c5 0 5 [123, 125] l ns _ _ _ _).trans ?_
      rw [he]
      exact nx65 _ _ _ _ (i + 2) _ _ rfl _ rfl
  · have hil : i = l.length := by omega
    cases i with
    | zero =>
      refine (evd_ok hG2 [0, 3, 7, 48, 49, 50] (d65 n [123, 125] l ns (xs ++ 123 :: partsO (toldJ n) l ns 0)) ?_).wpA
      rw [ltI_false (show ¬ (0 : Int) < (l.length : Int) by omega)]
      exact yes_mk (hex hil)
    | succ i =>
      refine (evd_ok hG2 [0, 3, 7, 48, 49, 50] (d65s n [123, 125] l ns i (xs ++ 123 :: partsO (toldJ n) l ns (i + 1))) ?_).wpA
      rw [ltI_false (show ¬ ((i + 1 : Nat) : Int) < (l.length : Int) by omega)]
      exact yes_mk (hex hil)
end

/-- The body of told, from a row of the call's own on. -/
theorem body65 {n : Nat} (hT : Told n) {w0 : World} (h0 : H4 w0) {L0 : List Ob} (hO : Okl L0) {j : J} (ht : tidy (n + 1) j = true) (hp : plainJ (n + 1) j = true) {xs : List Int} (hx : xs.length + (toldJ (n + 1) j).length ≤ 100000000000) {F : HX → St → Prop}
    (hF : F .ret ⟨slots 81 [(4, .own (.int .u8) 0 1 (xs ++ toldJ (n + 1) j).length)], [row1 (xs ++ toldJ (n + 1) j)]⟩) :
    WpA Tryz.prog w0 L0 (seqs [pc 65 [0], pc 65 [1, 0]] (pc 65 [1, 1])) ⟨argT 0 [.own (.int .u8) 0 0 xs.length, .d .json j] ⟨81, .nil⟩, [rowB xs]⟩ F := by
  have hG := gamOK19 h0
  obtain ⟨k, b, d, t, l, ns⟩ := j
  simp only [tidy, Bool.and_eq_true, Bool.not_eq_true', Bool.or_eq_true, decide_eq_true_eq, decide_eq_false_iff_not] at ht
  obtain ⟨⟨⟨⟨⟨⟨⟨⟨⟨⟨⟨h1, h2⟩, h3⟩, h4⟩, h5⟩, h6⟩, h7⟩, h8⟩, h9⟩, h10⟩, h11⟩, h12⟩ := ht
  simp only [plainJ, Bool.and_eq_true] at hp
  obtain ⟨⟨p1, p2⟩, p3⟩ := hp
  obtain ⟨neg, dg, ex⟩ := d
  dsimp only at h2 h3 h4
  subst h1; subst h2; subst h4
  obtain rfl := empty_is h3
  obtain ⟨⟨t⟩⟩ := t
  have hxl : xs.length ≤ xs.length := Nat.le_refl _
  rcases h9 with ((rfl | rfl) | rfl) | rfl
  · have ht : t = [] := by simpa using h6
    have hl : l = [] := by simpa using h7
    have hns : ns = [] := by simpa using h8
    subst ht; subst hl; subst hns
    simp only [toldJ, if_true] at hx hF
    simp only [List.length_cons, List.length_nil] at hx
    refine wpA_post ?_
    refine evs_ok hG [4] (a65n xs) ?_
    rw [decide_eq_true hxl, decide_eq_true (show (xs.length + 4) * 1 ≤ 140737488355328 by omega), List.take_length]
    refine yes_mk ⟨fun _ h => (by cases h), fun _ => ⟨[], 1, okl_vw0 hO _ _ (by omega), ?_⟩⟩
    rw [show xs.length + 4 = (xs ++ [110, 117, 108, 108]).length by simp]
    show F .ret (vw [] 1 ⟨slots 81 [(4, .own (.int .u8) 0 1 _)], [row1 _, _]⟩)
    rw [vw65a]
    exact hF
  · have hl : l = [] := by simpa using h7
    have hns : ns = [] := by simpa using h8
    subst hl; subst hns
    have he : toldJ (n + 1) (.mk 3 false ⟨false, ⟨⟨[]⟩⟩, 0⟩ ⟨⟨t⟩⟩ [] []) = quoteL t := by simp [toldJ]
    rw [he] at hx hF
    rw [quoteL_length] at hx
    refine wpA_post ?_
    refine evs_ok hG [4] (a65t t xs) ?_
    have p1' : plainSB t = true := p1
    rw [Nat.beq_refl, p1', decide_eq_true (show xs.length + t.length + 2 ≤ 100000000000000 by omega)]
    refine yes_mk ⟨fun _ h => (by cases h), fun _ => ⟨[], 1, okl_vw0 hO _ _ (by omega), ?_⟩⟩
    show F .ret (vw [] 1 ⟨slots 81 [(4, .own (.int .u8) 0 1 _)], [row1 _, _]⟩)
    rw [vw65a]
    exact hF
  · have ht : t = [] := by simpa using h6
    have hns : ns = [] := by simpa using h8
    subst ht; subst hns
    have he : toldJ (n + 1) (.mk 4 false ⟨false, ⟨⟨[]⟩⟩, 0⟩ ⟨⟨[]⟩⟩ l []) = 91 :: (partsL (toldJ n) l l.length ++ [93]) := by simp [toldJ]
    rw [he] at hx hF
    simp only [List.length_cons, List.length_append, List.length_nil] at hx
    rw [code65b]
    refine evs_ok hG [0, 3, 7] (a65l l xs) ?_
    rw [decide_eq_true hxl, decide_eq_true (show (xs.length + 1) * 1 ≤ 140737488355328 by omega), List.take_length, show xs.length + 1 = (xs ++ [91]).length by simp]
    refine yes_mk ?_
    refine wpA_seq (evs_ok hG [0, 3, 7, 48, 49, 50] (b65 4 [91, 93] l [] _ (xs ++ [91])) (yes_mk ?_))
    exact loop65l h0 hT hO h11 p3 h12 (by omega) hF
  · have ht : t = [] := by simpa using h6
    subst ht
    have h10 : (ns.length = l.length ∧ distB ns = true) ∧ asciiAll ns = true := by simpa using h10
    have he : toldJ (n + 1) (.mk 5 false ⟨false, ⟨⟨[]⟩⟩, 0⟩ ⟨⟨[]⟩⟩ l ns) = 123 :: (partsO (toldJ n) l ns l.length ++ [125]) := by simp [toldJ]
    rw [he] at hx hF
    simp only [List.length_cons, List.length_append, List.length_nil] at hx
    rw [code65b]
    refine evs_ok hG [0, 3, 7] (a65o l ns xs) ?_
    rw [decide_eq_true hxl, decide_eq_true (show (xs.length + 1) * 1 ≤ 140737488355328 by omega), List.take_length, show xs.length + 1 = (xs ++ [123]).length by simp]
    refine yes_mk ?_
    refine wpA_seq (evs_ok hG [0, 3, 7, 48, 49, 50] (b65 5 [123, 125] l ns _ (xs ++ [123])) (yes_mk ?_))
    exact loop65o h0 hT hO h11 p3 p2 h10.1.1 h12 (by omega) hF
end Go.Proofs.YtiaeljbnhdhfcaaGreatDoor

namespace Go.Proofs.YtiaeljbnhdhfcaaGreatDoor
open Go Go.RowKit Go.Lx Go.Mo

theorem do65 : ∀ n, Told n
  | 0 => by intro h0 j h; cases h
  | n + 1 => by
    intro h0 j ht hp xs hx kr hk
    refine does_wpA Tryz.func65 code65 (n := 81) (by kernel_rfl) ?_
    refine body65 (do65 n) h0 (.inr ⟨xs, rfl⟩) ht hp hx ?_
    show finK Tryz.prog Tryz.f65 [rowB xs] kr _ = true
    rw [f65]
    exact hk

theorem nil65 (j : J) : (argT 0 [.v (.slice none 0 0), .d .json j] ⟨81, .nil⟩).get 0 = .v (.slice none 0 0) := by kernel_rfl
theorem put65 (j : J) : (⟨(argT 0 [.v (.slice none 0 0), .d .json j] ⟨81, .nil⟩).put 0 (.own (.int .u8) 0 0 0), [] ++ [.row (.int .u8) 0 0 []]⟩ : St) = ⟨argT 0 [.own (.int .u8) 0 0 ([] : List Int).length, .d .json j] ⟨81, .nil⟩, [rowB []]⟩ := by kernel_rfl

theorem do65n {n : Nat} {j : J} (ht : tidy n j = true) (hp : plainJ n j = true) (hx : (toldJ n j).length ≤ 1048576) : PureDo Tryz.prog H4 65 [.v (.slice none 0 0), .d .json j] (.d (.list (.int .u8)) (toldJ n j)) := by
  intro w0 kr h0 hk
  cases n with
  | zero => cases ht
  | succ n =>
  refine does_wpA Tryz.func65 code65 (n := 81) (by kernel_rfl) ?_
  refine wpA_nil (.int .u8) 0 (by omega) (.inl (nil65 j)) ?_
  show WpA Tryz.prog w0 [] _ (⟨(argT 0 [.v (.slice none 0 0), .d .json j] ⟨81, .nil⟩).put 0 (.own (.int .u8) 0 0 0), [] ++ [.row (.int .u8) 0 0 []]⟩ : St) _
  rw [put65]
  refine body65 (do65 n) h0 (.inl rfl) ht hp (xs := []) (by simp; omega) ?_
  show finK Tryz.prog Tryz.f65 [] kr _ = true
  rw [f65n]
  simp only [List.nil_append, Nat.le_refl, decide_true, Bool.true_and, List.take_length]
  exact hk

def toldP (n : Nat) (args : List HV) : Option (Bool × HV) := match args with
  | [.v (.slice none 0 0), .d .json j] => some (tidy n j && plainJ n j && decide ((toldJ n j).length ≤ 1048576), .d (.list (.int .u8)) (toldJ n j))
  | _ => none
noncomputable def G21 (n : Nat) : Gam := addP 65 (toldP n) (G17 n)

theorem gamOK21 {w0 : World} (h0 : H4 w0) {n : Nat} (hn : n ≤ 1000) : GamOK Tryz.prog w0 (G21 n) := by
  refine addP_ok (gamOK17 h0 (do64 n hn)) ⟨_, Tryz.func65, rfl⟩ ?_
  intro args r h h1
  unfold toldP at h
  split at h
  · cases h
    simp only [Bool.and_eq_true, decide_eq_true_eq] at h1
    exact pureAns lasts4 (do65n h1.1.1 h1.1.2 h1.2) rfl rfl h0
  · cases h

theorem run32 (n : Nat) (j : J) (kr : KR) : evG Tryz.prog (G21 n) 9 1 32 [.d .json j] [] kr = ((tidy n j) && (bif (ltI 64 (deepJ n j)) then (kr (HR.ret (HV.v (Value.int IntKind.i64 182))) []) else ((((tidy n j) && (plainJ n j)) && (decide ((List.length (toldJ n j)) ≤ 1048576))) && (bif (ltI 1048576 (((List.length (toldJ n j)) : Nat) : Int)) then (kr (HR.ret (HV.v (Value.int IntKind.i64 3))) []) else (kr (HR.ret (HV.v (Value.int IntKind.i64 0))) []))))) := by kernel_rfl

/-- May a value be? -/
def goodJ (n : Nat) (j : J) : Bool := tidy n j && plainJ n j && decide (deepJ n j ≤ 64) && decide ((toldJ n j).length ≤ 1048576)

theorem do32 {n : Nat} (hn : n ≤ 1000) {j : J} (h : goodJ n j = true) : PureDo Tryz.prog H4 32 [.d .json j] (.v (.int .i64 0)) := by
  intro w0 kr h0 hk
  unfold goodJ at h
  simp only [Bool.and_eq_true, decide_eq_true_eq] at h
  obtain ⟨⟨⟨h1, h2⟩, h3⟩, h4⟩ := h
  refine evG_sound progOK catches (gamOK21 h0 hn) 9 1 32 _ [] kr ?_
  rw [run32]
  simp only [h1, h2, decide_eq_true h4, ltI_false (show ¬ (64 : Int) < deepJ n j by omega), ltI_false (show ¬ (1048576 : Int) < (((toldJ n j).length : Nat) : Int) by omega), Bool.true_and, Bool.not_true, cond_false, Bool.and_true, Bool.not_false, cond_true]
  exact hk

/-! copied -/
theorem k95n (kr : KR) : evG Tryz.prog G8 9 3 95 [jk 0 [] [] [], .v (.bool false)] [] kr = (kr (HR.ret (HV.d Cd.json (J.mk 0 Bool.false (Dec.mk Bool.false (ByteArray.mk (Array.mk [])) 0) (ByteArray.mk (Array.mk [])) [] []))) []) := by kernel_rfl
theorem k95t (t : List UInt8) (kr : KR) : evG Tryz.prog G8 9 3 95 [jk 3 t [] [], .v (.bool false)] [] kr = (kr (HR.ret (HV.d Cd.json (J.mk 3 Bool.false (Dec.mk Bool.false (ByteArray.mk (Array.mk [])) 0) (ByteArray.mk (Array.mk t)) [] []))) []) := by kernel_rfl
theorem a95l (l : List J) (k : KX) : evs G8 1 [pc 95 [0], pc 95 [1, 0], pc 95 [1, 1, 0], pc 95 [1, 1, 1, 0], pc 95 [1, 1, 1, 1, 0]] ⟨argT 0 [jk 4 [] l [], .v (.bool false)] ⟨51, .nil⟩, []⟩ (fun x st => k x (st.keep [1, 2, 4, 5])) = (k HX.normal ⟨slots 51 [(1, (HV.v (Value.bool Bool.false))), (2, (HV.ptr 0 0)), (4, (HV.ptr 1 0)), (5, (HV.ptr 2 0))], [(Ob.box 43 (HV.d Cd.json (J.mk 4 Bool.false (Dec.mk Bool.false (ByteArray.mk (Array.mk [])) 0) (ByteArray.mk (Array.mk [])) l []))), (Ob.box 43 (HV.st [(HV.v (Value.int IntKind.i64 0)), (HV.v (Value.bool Bool.false)), (HV.st [(HV.v (Value.bool Bool.false)), (HV.v (Value.string (ByteArray.mk (Array.mk [])))), (HV.v (Value.int IntKind.i64 0))]), (HV.v (Value.string (ByteArray.mk (Array.mk [])))), (HV.v (Value.slice Option.none 0 0)), (HV.v (Value.slice Option.none 0 0))])), (Ob.box 43 (HV.st [(HV.v (Value.int IntKind.i64 4)), (HV.v (Value.bool Bool.false)), (HV.d Cd.dec (Dec.mk Bool.false (ByteArray.mk (Array.mk [])) 0)), (HV.v (Value.string (ByteArray.mk (Array.mk [])))), (HV.v (Value.slice Option.none 0 0)), (HV.own Cd.str 3 0 0)])), (Ob.row Cd.str 0 0 [])]⟩) := by kernel_rfl
theorem a95o (l : List J) (ns : List ByteArray) (k : KX) : evs G8 1 [pc 95 [0], pc 95 [1, 0], pc 95 [1, 1, 0], pc 95 [1, 1, 1, 0], pc 95 [1, 1, 1, 1, 0]] ⟨argT 0 [jk 5 [] l ns, .v (.bool false)] ⟨51, .nil⟩, []⟩ (fun x st => k x (st.keep [1, 2, 4, 5])) = ((decide (((List.length ns) * 16) ≤ 140737488355328)) && (k HX.normal ⟨slots 51 [(1, (HV.v (Value.bool Bool.false))), (2, (HV.ptr 0 0)), (4, (HV.ptr 1 0)), (5, (HV.ptr 2 0))], [(Ob.box 43 (HV.d Cd.json (J.mk 5 Bool.false (Dec.mk Bool.false (ByteArray.mk (Array.mk [])) 0) (ByteArray.mk (Array.mk [])) l ns))), (Ob.box 43 (HV.st [(HV.v (Value.int IntKind.i64 0)), (HV.v (Value.bool Bool.false)), (HV.st [(HV.v (Value.bool Bool.false)), (HV.v (Value.string (ByteArray.mk (Array.mk [])))), (HV.v (Value.int IntKind.i64 0))]), (HV.v (Value.string (ByteArray.mk (Array.mk [])))), (HV.v (Value.slice Option.none 0 0)), (HV.v (Value.slice Option.none 0 0))])), (Ob.box 43 (HV.st [(HV.v (Value.int IntKind.i64 5)), (HV.v (Value.bool Bool.false)), (HV.d Cd.dec (Dec.mk Bool.false (ByteArray.mk (Array.mk [])) 0)), (HV.v (Value.string (ByteArray.mk (Array.mk [])))), (HV.v (Value.slice Option.none 0 0)), (HV.own Cd.str 3 0 (List.length ns))])), (Ob.row Cd.str 0 0 ns)]⟩)) := by kernel_rfl

def copP (n : Nat) (args : List HV) : Option (Bool × HV) := match args with
  | [.d .json j, .v (.bool false)] => some (tidy n j, .d .json j)
  | _ => none
noncomputable def G22 (n : Nat) : Gam := addP 95 (copP n) G8
def obox (c : Int) (v n m : Nat) : Ob := .box 43 (.st [.v (.int .i64 c), .v (.bool false), .d .dec zd, .v (.string ⟨⟨[]⟩⟩), .own .json 4 v n, .own .str 3 0 m])
def obox0 (c : Int) (m : Nat) : Ob := .box 43 (.st [.v (.int .i64 c), .v (.bool false), .d .dec zd, .v (.string ⟨⟨[]⟩⟩), .v (.slice none 0 0), .own .str 3 0 m])
def st95 (c : Int) (l : List J) (ns : List ByteArray) (i : Nat) (js : List J) : St :=
  ⟨slots 51 [(1, .v (.bool false)), (2, .ptr 0 0), (4, .ptr 1 0), (5, .ptr 2 0), (19, .d (.list .json) l), (20, .v (.int .i64 (l.length : Int))), (21, .v (.int .i64 (i : Int)))], [.box 43 (jk c [] l ns), zbox, obox c 0 js.length ns.length, .row .str 0 0 ns, .row .json 0 0 js]⟩
theorem b95 (c : Int) (l : List J) (ns : List ByteArray) (k : KX) : evs G8 1 [(pc 95 [1, 1, 1, 1, 1, 0, 0])] ⟨slots 51 [(1, .v (.bool false)), (2, .ptr 0 0), (4, .ptr 1 0), (5, .ptr 2 0)], [.box 43 (jk c [] l ns), zbox, obox0 c ns.length, .row .str 0 0 ns]⟩ (fun x st => k x (st.keep [1, 2, 4, 5, 19, 20, 21])) = (k HX.normal ⟨slots 51 [(1, (HV.v (Value.bool Bool.false))), (2, (HV.ptr 0 0)), (4, (HV.ptr 1 0)), (5, (HV.ptr 2 0)), (19, (HV.d (Cd.list Cd.json) l)), (20, (HV.v (Value.int IntKind.i64 (((List.length l) : Nat) : Int)))), (21, (HV.v (Value.int IntKind.i64 0)))], [(Ob.box 43 (HV.d Cd.json (J.mk c Bool.false (Dec.mk Bool.false (ByteArray.mk (Array.mk [])) 0) (ByteArray.mk (Array.mk [])) l ns))), (Ob.box 43 (HV.st [(HV.v (Value.int IntKind.i64 0)), (HV.v (Value.bool Bool.false)), (HV.st [(HV.v (Value.bool Bool.false)), (HV.v (Value.string (ByteArray.mk (Array.mk [])))), (HV.v (Value.int IntKind.i64 0))]), (HV.v (Value.string (ByteArray.mk (Array.mk [])))), (HV.v (Value.slice Option.none 0 0)), (HV.v (Value.slice Option.none 0 0))])), (Ob.box 43 (HV.st [(HV.v (Value.int IntKind.i64 c)), (HV.v (Value.bool Bool.false)), (HV.d Cd.dec (Dec.mk Bool.false (ByteArray.mk (Array.mk [])) 0)), (HV.v (Value.string (ByteArray.mk (Array.mk [])))), (HV.v (Value.slice Option.none 0 0)), (HV.own Cd.str 3 0 (List.length ns))])), (Ob.row Cd.str 0 0 ns)]⟩) := by kernel_rfl
theorem c95l (n : Nat) (l : List J) (ns : List ByteArray) (i : Nat) (js : List J) (k : KX) : evd (G22 n) 1 (pc 95 [1, 1, 1, 1, 1, 0, 1, 0, 0]) (st95 4 l ns i js) (fun x st => k x (st.keep [1, 2, 4, 5, 19, 20, 21])) = (bif (ltI ((i : Nat) : Int) (((List.length l) : Nat) : Int)) then ((decide (((i : Nat) : Int) < (((List.length l) : Nat) : Int))) && ((tidy n (List.getD l (Int.toNat ((i : Nat) : Int)) (J.mk 0 Bool.false (Dec.mk Bool.false (ByteArray.mk (Array.mk [])) 0) (ByteArray.mk (Array.mk [])) [] []))) && (((((decide ((List.length js) ≤ (List.length js))) && Bool.true) && (decide ((((List.length js) + 1) * 112) ≤ 140737488355328))) && ((((!(decide (1 = 0))) || Bool.true) && (((!(decide (1 = 0))) || Bool.true) && Bool.true)) && (((decide (1 = 1)) && (decide (Bool.false = Bool.false))) && (k HX.normal ⟨slots 51 [(1, (HV.v (Value.bool Bool.false))), (2, (HV.ptr 0 0)), (4, (HV.ptr 1 0)), (5, (HV.ptr 2 0)), (19, (HV.d (Cd.list Cd.json) l)), (20, (HV.v (Value.int IntKind.i64 (((List.length l) : Nat) : Int)))), (21, (HV.v (Value.int IntKind.i64 (fwrap IntKind.i64 (((i : Nat) : Int) + 1)))))], [(Ob.box 43 (HV.d Cd.json (J.mk 4 Bool.false (Dec.mk Bool.false (ByteArray.mk (Array.mk [])) 0) (ByteArray.mk (Array.mk [])) l ns))), (Ob.box 43 (HV.st [(HV.v (Value.int IntKind.i64 0)), (HV.v (Value.bool Bool.false)), (HV.st [(HV.v (Value.bool Bool.false)), (HV.v (Value.string (ByteArray.mk (Array.mk [])))), (HV.v (Value.int IntKind.i64 0))]), (HV.v (Value.string (ByteArray.mk (Array.mk [])))), (HV.v (Value.slice Option.none 0 0)), (HV.v (Value.slice Option.none 0 0))])), (Ob.box 43 (HV.st [(HV.v (Value.int IntKind.i64 4)), (HV.v (Value.bool Bool.false)), (HV.d Cd.dec (Dec.mk Bool.false (ByteArray.mk (Array.mk [])) 0)), (HV.v (Value.string (ByteArray.mk (Array.mk [])))), (HV.own Cd.json 4 1 ((List.length js) + 1)), (HV.own Cd.str 3 0 (List.length ns))])), (Ob.row Cd.str 0 0 ns), (Ob.row Cd.json 1 0 ((List.take (List.length js) js) ++ [(List.getD l (Int.toNat ((i : Nat) : Int)) (J.mk 0 Bool.false (Dec.mk Bool.false (ByteArray.mk (Array.mk [])) 0) (ByteArray.mk (Array.mk [])) [] []))])), (Ob.box 43 (HV.d Cd.json (List.getD l (Int.toNat ((i : Nat) : Int)) (J.mk 0 Bool.false (Dec.mk Bool.false (ByteArray.mk (Array.mk [])) 0) (ByteArray.mk (Array.mk [])) [] []))))]⟩)))) && Bool.true))) else (k (HX.exit 0) ⟨slots 51 [(1, (HV.v (Value.bool Bool.false))), (2, (HV.ptr 0 0)), (4, (HV.ptr 1 0)), (5, (HV.ptr 2 0)), (19, (HV.d (Cd.list Cd.json) l)), (20, (HV.v (Value.int IntKind.i64 (((List.length l) : Nat) : Int)))), (21, (HV.v (Value.int IntKind.i64 ((i : Nat) : Int))))], [(Ob.box 43 (HV.d Cd.json (J.mk 4 Bool.false (Dec.mk Bool.false (ByteArray.mk (Array.mk [])) 0) (ByteArray.mk (Array.mk [])) l ns))), (Ob.box 43 (HV.st [(HV.v (Value.int IntKind.i64 0)), (HV.v (Value.bool Bool.false)), (HV.st [(HV.v (Value.bool Bool.false)), (HV.v (Value.string (ByteArray.mk (Array.mk [])))), (HV.v (Value.int IntKind.i64 0))]), (HV.v (Value.string (ByteArray.mk (Array.mk [])))), (HV.v (Value.slice Option.none 0 0)), (HV.v (Value.slice Option.none 0 0))])), (Ob.box 43 (HV.st [(HV.v (Value.int IntKind.i64 4)), (HV.v (Value.bool Bool.false)), (HV.d Cd.dec (Dec.mk Bool.false (ByteArray.mk (Array.mk [])) 0)), (HV.v (Value.string (ByteArray.mk (Array.mk [])))), (HV.own Cd.json 4 0 (List.length js)), (HV.own Cd.str 3 0 (List.length ns))])), (Ob.row Cd.str 0 0 ns), (Ob.row Cd.json 0 0 js)]⟩)) := by kernel_rfl
theorem c95o (n : Nat) (l : List J) (ns : List ByteArray) (i : Nat) (js : List J) (k : KX) : evd (G22 n) 1 (pc 95 [1, 1, 1, 1, 1, 0, 1, 0, 0]) (st95 5 l ns i js) (fun x st => k x (st.keep [1, 2, 4, 5, 19, 20, 21])) = (bif (ltI ((i : Nat) : Int) (((List.length l) : Nat) : Int)) then ((decide (((i : Nat) : Int) < (((List.length l) : Nat) : Int))) && (((decide (((i : Nat) : Int) < (((List.length ns) : Nat) : Int))) && (decide ((List.length ns) ≤ (List.length ns)))) && (((decide ((Int.toNat ((i : Nat) : Int)) < (List.length ns))) && Bool.true) && ((decide ((List.length ns) < 4611686018427387904)) && (((decide (0 ≤ (findGo (List.getD ns (Int.toNat ((i : Nat) : Int)) (ByteArray.mk (Array.mk []))) ns 0))) && (decide ((findGo (List.getD ns (Int.toNat ((i : Nat) : Int)) (ByteArray.mk (Array.mk []))) ns 0) < (((List.length l) : Nat) : Int)))) && ((tidy n (List.getD l (Int.toNat (findGo (List.getD ns (Int.toNat ((i : Nat) : Int)) (ByteArray.mk (Array.mk []))) ns 0)) (J.mk 0 Bool.false (Dec.mk Bool.false (ByteArray.mk (Array.mk [])) 0) (ByteArray.mk (Array.mk [])) [] []))) && (((((decide ((List.length js) ≤ (List.length js))) && Bool.true) && (decide ((((List.length js) + 1) * 112) ≤ 140737488355328))) && ((((!(decide (1 = 0))) || Bool.true) && (((!(decide (1 = 0))) || Bool.true) && Bool.true)) && (((decide (1 = 1)) && (decide (Bool.false = Bool.false))) && (k HX.normal ⟨slots 51 [(1, (HV.v (Value.bool Bool.false))), (2, (HV.ptr 0 0)), (4, (HV.ptr 1 0)), (5, (HV.ptr 2 0)), (19, (HV.d (Cd.list Cd.json) l)), (20, (HV.v (Value.int IntKind.i64 (((List.length l) : Nat) : Int)))), (21, (HV.v (Value.int IntKind.i64 (fwrap IntKind.i64 (((i : Nat) : Int) + 1)))))], [(Ob.box 43 (HV.d Cd.json (J.mk 5 Bool.false (Dec.mk Bool.false (ByteArray.mk (Array.mk [])) 0) (ByteArray.mk (Array.mk [])) l ns))), (Ob.box 43 (HV.st [(HV.v (Value.int IntKind.i64 0)), (HV.v (Value.bool Bool.false)), (HV.st [(HV.v (Value.bool Bool.false)), (HV.v (Value.string (ByteArray.mk (Array.mk [])))), (HV.v (Value.int IntKind.i64 0))]), (HV.v (Value.string (ByteArray.mk (Array.mk [])))), (HV.v (Value.slice Option.none 0 0)), (HV.v (Value.slice Option.none 0 0))])), (Ob.box 43 (HV.st [(HV.v (Value.int IntKind.i64 5)), (HV.v (Value.bool Bool.false)), (HV.d Cd.dec (Dec.mk Bool.false (ByteArray.mk (Array.mk [])) 0)), (HV.v (Value.string (ByteArray.mk (Array.mk [])))), (HV.own Cd.json 4 1 ((List.length js) + 1)), (HV.own Cd.str 3 0 (List.length ns))])), (Ob.row Cd.str 0 0 ns), (Ob.row Cd.json 1 0 ((List.take (List.length js) js) ++ [(List.getD l (Int.toNat (findGo (List.getD ns (Int.toNat ((i : Nat) : Int)) (ByteArray.mk (Array.mk []))) ns 0)) (J.mk 0 Bool.false (Dec.mk Bool.false (ByteArray.mk (Array.mk [])) 0) (ByteArray.mk (Array.mk [])) [] []))])), (Ob.box 43 (HV.d Cd.json (List.getD l (Int.toNat (findGo (List.getD ns (Int.toNat ((i : Nat) : Int)) (ByteArray.mk (Array.mk []))) ns 0)) (J.mk 0 Bool.false (Dec.mk Bool.false (ByteArray.mk (Array.mk [])) 0) (ByteArray.mk (Array.mk [])) [] []))))]⟩)))) && Bool.true))))))) else (k (HX.exit 0) ⟨slots 51 [(1, (HV.v (Value.bool Bool.false))), (2, (HV.ptr 0 0)), (4, (HV.ptr 1 0)), (5, (HV.ptr 2 0)), (19, (HV.d (Cd.list Cd.json) l)), (20, (HV.v (Value.int IntKind.i64 (((List.length l) : Nat) : Int)))), (21, (HV.v (Value.int IntKind.i64 ((i : Nat) : Int))))], [(Ob.box 43 (HV.d Cd.json (J.mk 5 Bool.false (Dec.mk Bool.false (ByteArray.mk (Array.mk [])) 0) (ByteArray.mk (Array.mk [])) l ns))), (Ob.box 43 (HV.st [(HV.v (Value.int IntKind.i64 0)), (HV.v (Value.bool Bool.false)), (HV.st [(HV.v (Value.bool Bool.false)), (HV.v (Value.string (ByteArray.mk (Array.mk [])))), (HV.v (Value.int IntKind.i64 0))]), (HV.v (Value.string (ByteArray.mk (Array.mk [])))), (HV.v (Value.slice Option.none 0 0)), (HV.v (Value.slice Option.none 0 0))])), (Ob.box 43 (HV.st [(HV.v (Value.int IntKind.i64 5)), (HV.v (Value.bool Bool.false)), (HV.d Cd.dec (Dec.mk Bool.false (ByteArray.mk (Array.mk [])) 0)), (HV.v (Value.string (ByteArray.mk (Array.mk [])))), (HV.own Cd.json 4 0 (List.length js)), (HV.own Cd.str 3 0 (List.length ns))])), (Ob.row Cd.str 0 0 ns), (Ob.row Cd.json 0 0 js)]⟩)) := by kernel_rfl
theorem d95 (c : Int) (l : List J) (ns : List ByteArray) (i : Nat) (js : List J) (k : KX) : evd G8 1 (pc 95 [1, 1, 1, 1, 1, 1]) (st95 c l ns i js) (fun x st => k x (st.keep [4])) = (k HX.ret ⟨slots 51 [(4, (HV.ptr 1 0))], [(Ob.box 43 (HV.d Cd.json (J.mk c Bool.false (Dec.mk Bool.false (ByteArray.mk (Array.mk [])) 0) (ByteArray.mk (Array.mk [])) l ns))), (Ob.box 43 (HV.st [(HV.v (Value.int IntKind.i64 c)), (HV.v (Value.bool Bool.false)), (HV.d Cd.dec (Dec.mk Bool.false (ByteArray.mk (Array.mk [])) 0)), (HV.v (Value.string (ByteArray.mk (Array.mk [])))), (HV.own Cd.json 4 0 (List.length js)), (HV.own Cd.str 3 0 (List.length ns))])), (Ob.box 43 (HV.st [(HV.v (Value.int IntKind.i64 c)), (HV.v (Value.bool Bool.false)), (HV.d Cd.dec (Dec.mk Bool.false (ByteArray.mk (Array.mk [])) 0)), (HV.v (Value.string (ByteArray.mk (Array.mk [])))), (HV.own Cd.json 4 0 (List.length js)), (HV.own Cd.str 3 0 (List.length ns))])), (Ob.row Cd.str 0 0 ns), (Ob.row Cd.json 0 0 js)]⟩) := by kernel_rfl
end Go.Proofs.YtiaeljbnhdhfcaaGreatDoor
