/- avro: Check, Make. -/
import Derived.Test.YtiaeljbnhdhfcaaGreatDoorP11
namespace Go.Mo
open Go Go.RowKit Go.Lx Go.Proofs.YtiaeljbnhdhfcaaGreatDoor
noncomputable def ordB (nodes : List Nd) : Bool := yes (∃ items : List Go.Proofs.YtiaeljbnhdhfcaaGreatDoor.Item, nodes = nodesOf items ∧ items ≠ [] ∧ items.length ≤ 256 ∧ nulls items ≤ 255)
noncomputable def defB (nodes : List Nd) : Bool := yes (nodes.length ≤ B42 ∧ ∀ n ∈ nodes, n.fields.length ≤ B42 ∧ ∀ f ∈ n.fields, f.has = false)
def zeroB (j : J) : Bool := goodJ 5 j
noncomputable def shapeB (n : Nd) : Bool := yes (n = ndN ∨ ∃ fs : List Fld, n = ndR fs ∧ fs.length ≤ 256 ∧ (∀ f ∈ fs, f.has = false ∧ f.dflt = zJ) ∧ namesB (fs.map Fld.name) = true)
end Go.Mo
namespace Go.Proofs.YtiaeljbnhdhfcaaGreatDoor
open Go Go.RowKit Go.Lx Go.Mo

noncomputable def orderedP (args : List HV) : Option (Bool × HV) := match args with
  | [.d (.list .nd) nodes, .v (.int .i64 r)] => some (ordB nodes && decide (r = 0), .tup [.d .av (Av.mk nodes 0), .v (.bool true)])
  | _ => none
noncomputable def defaultsP (args : List HV) : Option (Bool × HV) := match args with
  | [.d .av (Av.mk nodes r)] => some (defB nodes && decide (r = 0), .v (.bool true))
  | _ => none
noncomputable def shapeP (args : List HV) : Option (Bool × HV) := match args with
  | [.d .nd n] => some (shapeB n, .v (.bool true))
  | _ => none
def kidsP (args : List HV) : Option (Bool × HV) := match args with
  | [.d (.list (.int .i64)) a, .d (.list (.int .i64)) b] => some (decide (List.length a = 0) && decide (List.length b = 0), .v (.bool true))
  | _ => none
noncomputable def zeroP (args : List HV) : Option (Bool × HV) := match args with
  | [.d .json j] => some (zeroB j, .v (.int .i64 0))
  | _ => none
noncomputable def G34 : Gam := addP 32 zeroP (addP 28 orderedP (addP 29 defaultsP (addP 30 shapeP (addP 31 kidsP G8))))
def avB (nodes : List Nd) : Ob := .box 27 (.d .av (Av.mk nodes 0))
def obA (nodes : List Nd) (M : Es) : List Ob := [avB nodes, avB nodes, mapE M]
def tmA (nodes : List Nd) (i : Nat) : Tm := slots 155 [(1, .ptr 0 0), (2, i64 0), (3, .ptr 1 0), (5, .map 2), (45, .d (.list .nd) nodes), (46, i64 nodes.length), (47, i64 i)]
def tmB (nodes : List Nd) (i : Nat) : Tm := slots 155 [(1, .ptr 0 0), (2, i64 0), (3, .ptr 1 0), (5, .map 2), (6, i64 i), (7, .ptr 3 0), (45, .d (.list .nd) nodes), (46, i64 nodes.length), (47, i64 i)]
def tmC (nodes : List Nd) (i : Nat) (fs : List Fld) (j : Nat) : Tm := slots 155 [(1, .ptr 0 0), (2, i64 0), (3, .ptr 1 0), (5, .map 2), (6, i64 i), (7, .ptr 3 0), (45, .d (.list .nd) nodes), (46, i64 nodes.length), (47, i64 i), (68, .d (.list .fld) fs), (69, i64 fs.length), (70, i64 j)]
def tmD (nodes : List Nd) (i : Nat) (fs : List Fld) (j : Nat) : Tm := slots 155 [(1, .ptr 0 0), (2, i64 0), (3, .ptr 1 0), (5, .map 2), (6, i64 i), (7, .ptr 3 0), (8, i64 j), (9, .ptr 4 0), (45, .d (.list .nd) nodes), (46, i64 nodes.length), (47, i64 i), (68, .d (.list .fld) fs), (69, i64 fs.length), (70, i64 j)]
def bxN (n : Nd) : Ob := .box 37 (.d .nd n)
theorem a11 (nodes : List Nd) (k : KX) : evs G34 6 [pc 11 [0], pc 11 [1, 0], pc 11 [1, 1, 0], pc 11 [1, 1, 1, 0], pc 11 [1, 1, 1, 1, 0]] ⟨argT 0 [.d .av (Av.mk nodes 0)] ⟨155, .nil⟩, []⟩ (fun x st => k x (st.keep [1, 2, 3, 5])) = (((!(decide ((ltI 256 (((List.length nodes) : Nat) : Int)) = Bool.false))) || Bool.true) && (((!(decide ((ltI 256 (((List.length nodes) : Nat) : Int)) = Bool.false))) || (((!(decide ((ltI 256 (((List.length nodes) : Nat) : Int)) = Bool.false))) || (decide ((ltI 256 (((List.length nodes) : Nat) : Int)) = Bool.false))) && Bool.true)) && (((!(decide ((ltI 256 (((List.length nodes) : Nat) : Int)) = Bool.false))) || ((((!(decide ((ltI 256 (((List.length nodes) : Nat) : Int)) = Bool.false))) || (decide ((ltI 256 (((List.length nodes) : Nat) : Int)) = Bool.false))) && Bool.true) && Bool.true)) && (((!(!(ltI 256 (((List.length nodes) : Nat) : Int)))) || (decide ((ltI 256 (((List.length nodes) : Nat) : Int)) = Bool.false))) && (bif ((ltI 256 (((List.length nodes) : Nat) : Int)) && Bool.true) then (k HX.ret ⟨slots 155 [(1, (HV.ptr 0 0)), (2, (HV.v (Value.int IntKind.i64 190))), (3, HV.junk), (5, HV.junk)], [(Ob.box 27 (HV.d Cd.av (Av.mk nodes 0)))]⟩) else (((ordB nodes) && Bool.true) && (bif (!(decide ((((List.length nodes) : Nat) : Int) = (((List.length nodes) : Nat) : Int)))) then (k HX.ret ⟨slots 155 [(1, (HV.ptr 0 0)), (2, (HV.v (Value.int IntKind.i64 190))), (3, (HV.ptr 1 0)), (5, HV.junk)], [(Ob.box 27 (HV.d Cd.av (Av.mk nodes 0))), (Ob.box 27 (HV.d Cd.av (Av.mk nodes 0)))]⟩) else (k HX.normal ⟨slots 155 [(1, (HV.ptr 0 0)), (2, (HV.v (Value.int IntKind.i64 0))), (3, (HV.ptr 1 0)), (5, (HV.map 2))], [(Ob.box 27 (HV.d Cd.av (Av.mk nodes 0))), (Ob.box 27 (HV.d Cd.av (Av.mk nodes 0))), (Ob.map Cd.str (Cd.int IntKind.i64) [])]⟩)))))))) := by kernel_rfl
theorem b11 (nodes : List Nd) (k : KX) : evs G34 6 [pc 11 [1, 1, 1, 1, 1, 0, 0]] ⟨slots 155 [(1, .ptr 0 0), (2, i64 0), (3, .ptr 1 0), (5, .map 2)], obA nodes []⟩ (fun x st => k x (st.keep [1, 2, 3, 5, 45, 46, 47])) = (k HX.normal ⟨slots 155 [(1, (HV.ptr 0 0)), (2, (HV.v (Value.int IntKind.i64 0))), (3, (HV.ptr 1 0)), (5, (HV.map 2)), (45, (HV.d (Cd.list Cd.nd) nodes)), (46, (HV.v (Value.int IntKind.i64 (((List.length nodes) : Nat) : Int)))), (47, (HV.v (Value.int IntKind.i64 0)))], [(Ob.box 27 (HV.d Cd.av (Av.mk nodes 0))), (Ob.box 27 (HV.d Cd.av (Av.mk nodes 0))), (Ob.map Cd.str (Cd.int IntKind.i64) [])]⟩) := by kernel_rfl
theorem c11 (nodes : List Nd) (M : Es) (i : Nat) (k : KX) : evs G34 6 [pc 11 [1, 1, 1, 1, 1, 0, 1, 0, 0, 0], pc 11 [1, 1, 1, 1, 1, 0, 1, 0, 0, 1, 0]] ⟨tmA nodes i, obA nodes M⟩ (fun x st => k x (st.keep [1, 2, 3, 5, 45, 46, 47])) = (bif (ltI ((i : Nat) : Int) (((List.length nodes) : Nat) : Int)) then (k HX.normal ⟨slots 155 [(1, (HV.ptr 0 0)), (2, (HV.v (Value.int IntKind.i64 0))), (3, (HV.ptr 1 0)), (5, (HV.map 2)), (45, (HV.d (Cd.list Cd.nd) nodes)), (46, (HV.v (Value.int IntKind.i64 (((List.length nodes) : Nat) : Int)))), (47, (HV.v (Value.int IntKind.i64 ((i : Nat) : Int))))], [(Ob.box 27 (HV.d Cd.av (Av.mk nodes 0))), (Ob.box 27 (HV.d Cd.av (Av.mk nodes 0))), (Ob.map Cd.str (Cd.int IntKind.i64) M)]⟩) else (k (HX.exit 0) ⟨slots 155 [(1, (HV.ptr 0 0)), (2, (HV.v (Value.int IntKind.i64 0))), (3, (HV.ptr 1 0)), (5, (HV.map 2)), (45, (HV.d (Cd.list Cd.nd) nodes)), (46, (HV.v (Value.int IntKind.i64 (((List.length nodes) : Nat) : Int)))), (47, (HV.v (Value.int IntKind.i64 ((i : Nat) : Int))))], [(Ob.box 27 (HV.d Cd.av (Av.mk nodes 0))), (Ob.box 27 (HV.d Cd.av (Av.mk nodes 0))), (Ob.map Cd.str (Cd.int IntKind.i64) M)]⟩)) := by kernel_rfl
theorem d11 (nodes : List Nd) (M : Es) (i : Nat) (k : KX) : evs G34 6 [pc 11 [1, 1, 1, 1, 1, 0, 1, 0, 0, 1, 1, 0, 0, 0]] ⟨tmA nodes i, obA nodes M⟩ (fun x st => k x (st.keep [1, 2, 3, 5, 6, 7, 45, 46, 47])) = ((decide (((i : Nat) : Int) < (((List.length nodes) : Nat) : Int))) && (k HX.normal ⟨slots 155 [(1, (HV.ptr 0 0)), (2, (HV.v (Value.int IntKind.i64 0))), (3, (HV.ptr 1 0)), (5, (HV.map 2)), (6, (HV.v (Value.int IntKind.i64 ((i : Nat) : Int)))), (7, (HV.ptr 3 0)), (45, (HV.d (Cd.list Cd.nd) nodes)), (46, (HV.v (Value.int IntKind.i64 (((List.length nodes) : Nat) : Int)))), (47, (HV.v (Value.int IntKind.i64 ((i : Nat) : Int))))], [(Ob.box 27 (HV.d Cd.av (Av.mk nodes 0))), (Ob.box 27 (HV.d Cd.av (Av.mk nodes 0))), (Ob.map Cd.str (Cd.int IntKind.i64) M), (Ob.box 37 (HV.d Cd.nd (List.getD nodes (Int.toNat ((i : Nat) : Int)) (Nd.mk 0 (ByteArray.mk (Array.mk [])) [] [] Bool.false (ByteArray.mk (Array.mk [])) 0 []))))]⟩)) := by kernel_rfl
theorem e11 (nodes : List Nd) (M : Es) (i : Nat) (n : Nd) (k : KX) : evs G34 6 [pc 11 [1, 1, 1, 1, 1, 0, 1, 0, 0, 1, 1, 0, 0, 1, 0]] ⟨tmB nodes i, obA nodes M ++ [bxN n]⟩ (fun x st => k x (st.keep [1, 2, 3, 5, 6, 7, 45, 46, 47])) = ((shapeB n) && ((decide (((i : Nat) : Int) < (((List.length nodes) : Nat) : Int))) && (((decide ((List.length (Nd.kids n)) = 0)) && (decide ((List.length (Nd.kids (List.getD nodes (Int.toNat ((i : Nat) : Int)) (Nd.mk 0 (ByteArray.mk (Array.mk [])) [] [] Bool.false (ByteArray.mk (Array.mk [])) 0 [])))) = 0))) && (k HX.normal ⟨slots 155 [(1, (HV.ptr 0 0)), (2, (HV.v (Value.int IntKind.i64 0))), (3, (HV.ptr 1 0)), (5, (HV.map 2)), (6, (HV.v (Value.int IntKind.i64 ((i : Nat) : Int)))), (7, (HV.ptr 3 0)), (45, (HV.d (Cd.list Cd.nd) nodes)), (46, (HV.v (Value.int IntKind.i64 (((List.length nodes) : Nat) : Int)))), (47, (HV.v (Value.int IntKind.i64 ((i : Nat) : Int))))], [(Ob.box 27 (HV.d Cd.av (Av.mk nodes 0))), (Ob.box 27 (HV.d Cd.av (Av.mk nodes 0))), (Ob.map Cd.str (Cd.int IntKind.i64) M), (Ob.box 37 (HV.d Cd.nd n))]⟩)))) := by kernel_rfl
theorem f11 (nodes : List Nd) (M : Es) (i : Nat) (n : Nd) (k : KX) : evs G34 6 [pc 11 [1, 1, 1, 1, 1, 0, 1, 0, 0, 1, 1, 0, 0, 1, 1, 0, 0]] ⟨tmB nodes i, obA nodes M ++ [bxN n]⟩ (fun x st => k x (st.keep [1, 2, 3, 5, 6, 7, 45, 46, 47, 68, 69, 70])) = (k HX.normal ⟨slots 155 [(1, (HV.ptr 0 0)), (2, (HV.v (Value.int IntKind.i64 0))), (3, (HV.ptr 1 0)), (5, (HV.map 2)), (6, (HV.v (Value.int IntKind.i64 ((i : Nat) : Int)))), (7, (HV.ptr 3 0)), (45, (HV.d (Cd.list Cd.nd) nodes)), (46, (HV.v (Value.int IntKind.i64 (((List.length nodes) : Nat) : Int)))), (47, (HV.v (Value.int IntKind.i64 ((i : Nat) : Int)))), (68, (HV.d (Cd.list Cd.fld) (Nd.fields n))), (69, (HV.v (Value.int IntKind.i64 (((List.length (Nd.fields n)) : Nat) : Int)))), (70, (HV.v (Value.int IntKind.i64 0)))], [(Ob.box 27 (HV.d Cd.av (Av.mk nodes 0))), (Ob.box 27 (HV.d Cd.av (Av.mk nodes 0))), (Ob.map Cd.str (Cd.int IntKind.i64) M), (Ob.box 37 (HV.d Cd.nd n))]⟩) := by kernel_rfl
theorem g11 (nodes : List Nd) (M : Es) (i : Nat) (n : Nd) (fs : List Fld) (j : Nat) (k : KX) : evs G34 6 [pc 11 [1, 1, 1, 1, 1, 0, 1, 0, 0, 1, 1, 0, 0, 1, 1, 0, 1, 0, 0, 0], pc 11 [1, 1, 1, 1, 1, 0, 1, 0, 0, 1, 1, 0, 0, 1, 1, 0, 1, 0, 0, 1, 0]] ⟨tmC nodes i fs j, obA nodes M ++ [bxN n]⟩ (fun x st => k x (st.keep [1, 2, 3, 5, 6, 7, 45, 46, 47, 68, 69, 70])) = (bif (ltI ((j : Nat) : Int) (((List.length fs) : Nat) : Int)) then (k HX.normal ⟨slots 155 [(1, (HV.ptr 0 0)), (2, (HV.v (Value.int IntKind.i64 0))), (3, (HV.ptr 1 0)), (5, (HV.map 2)), (6, (HV.v (Value.int IntKind.i64 ((i : Nat) : Int)))), (7, (HV.ptr 3 0)), (45, (HV.d (Cd.list Cd.nd) nodes)), (46, (HV.v (Value.int IntKind.i64 (((List.length nodes) : Nat) : Int)))), (47, (HV.v (Value.int IntKind.i64 ((i : Nat) : Int)))), (68, (HV.d (Cd.list Cd.fld) fs)), (69, (HV.v (Value.int IntKind.i64 (((List.length fs) : Nat) : Int)))), (70, (HV.v (Value.int IntKind.i64 ((j : Nat) : Int))))], [(Ob.box 27 (HV.d Cd.av (Av.mk nodes 0))), (Ob.box 27 (HV.d Cd.av (Av.mk nodes 0))), (Ob.map Cd.str (Cd.int IntKind.i64) M), (Ob.box 37 (HV.d Cd.nd n))]⟩) else (k (HX.exit 2) ⟨slots 155 [(1, (HV.ptr 0 0)), (2, (HV.v (Value.int IntKind.i64 0))), (3, (HV.ptr 1 0)), (5, (HV.map 2)), (6, (HV.v (Value.int IntKind.i64 ((i : Nat) : Int)))), (7, (HV.ptr 3 0)), (45, (HV.d (Cd.list Cd.nd) nodes)), (46, (HV.v (Value.int IntKind.i64 (((List.length nodes) : Nat) : Int)))), (47, (HV.v (Value.int IntKind.i64 ((i : Nat) : Int)))), (68, (HV.d (Cd.list Cd.fld) fs)), (69, (HV.v (Value.int IntKind.i64 (((List.length fs) : Nat) : Int)))), (70, (HV.v (Value.int IntKind.i64 ((j : Nat) : Int))))], [(Ob.box 27 (HV.d Cd.av (Av.mk nodes 0))), (Ob.box 27 (HV.d Cd.av (Av.mk nodes 0))), (Ob.map Cd.str (Cd.int IntKind.i64) M), (Ob.box 37 (HV.d Cd.nd n))]⟩)) := by kernel_rfl
theorem h11 (nodes : List Nd) (M : Es) (i : Nat) (n : Nd) (fs : List Fld) (j : Nat) (k : KX) : evs G34 6 [pc 11 [1, 1, 1, 1, 1, 0, 1, 0, 0, 1, 1, 0, 0, 1, 1, 0, 1, 0, 0, 1, 1, 0, 0, 0]] ⟨tmC nodes i fs j, obA nodes M ++ [bxN n]⟩ (fun x st => k x (st.keep [1, 2, 3, 5, 6, 7, 8, 9, 45, 46, 47, 68, 69, 70])) = ((decide (((j : Nat) : Int) < (((List.length fs) : Nat) : Int))) && (k HX.normal ⟨slots 155 [(1, (HV.ptr 0 0)), (2, (HV.v (Value.int IntKind.i64 0))), (3, (HV.ptr 1 0)), (5, (HV.map 2)), (6, (HV.v (Value.int IntKind.i64 ((i : Nat) : Int)))), (7, (HV.ptr 3 0)), (8, (HV.v (Value.int IntKind.i64 ((j : Nat) : Int)))), (9, (HV.ptr 4 0)), (45, (HV.d (Cd.list Cd.nd) nodes)), (46, (HV.v (Value.int IntKind.i64 (((List.length nodes) : Nat) : Int)))), (47, (HV.v (Value.int IntKind.i64 ((i : Nat) : Int)))), (68, (HV.d (Cd.list Cd.fld) fs)), (69, (HV.v (Value.int IntKind.i64 (((List.length fs) : Nat) : Int)))), (70, (HV.v (Value.int IntKind.i64 ((j : Nat) : Int))))], [(Ob.box 27 (HV.d Cd.av (Av.mk nodes 0))), (Ob.box 27 (HV.d Cd.av (Av.mk nodes 0))), (Ob.map Cd.str (Cd.int IntKind.i64) M), (Ob.box 37 (HV.d Cd.nd n)), (Ob.box 45 (HV.d Cd.fld (List.getD fs (Int.toNat ((j : Nat) : Int)) (Fld.mk (ByteArray.mk (Array.mk [])) 0 Bool.false (J.mk 0 Bool.false (Dec.mk Bool.false (ByteArray.mk (Array.mk [])) 0) (ByteArray.mk (Array.mk [])) [] [])))))]⟩)) := by kernel_rfl
theorem i11 (nodes : List Nd) (M : Es) (i : Nat) (n : Nd) (fs : List Fld) (j : Nat) (nm : ByteArray) (t : Int) (k : KX) : evd G34 6 (pc 11 [1, 1, 1, 1, 1, 0, 1, 0, 0, 1, 1, 0, 0, 1, 1, 0, 1, 0, 0, 1, 1, 0, 0, 1]) ⟨tmD nodes i fs j, obA nodes M ++ [bxN n, bxF nm t]⟩ (fun x st => k x (st.keep [1, 2, 3, 5, 6, 7, 45, 46, 47, 68, 69, 70])) = ((decide (((i : Nat) : Int) < (((List.length nodes) : Nat) : Int))) && ((decide (((j : Nat) : Int) < (((List.length (Nd.fields (List.getD nodes (Int.toNat ((i : Nat) : Int)) (Nd.mk 0 (ByteArray.mk (Array.mk [])) [] [] Bool.false (ByteArray.mk (Array.mk [])) 0 [])))) : Nat) : Int))) && (((!(decide ((!(decide (t = (Fld.type (List.getD (Nd.fields (List.getD nodes (Int.toNat ((i : Nat) : Int)) (Nd.mk 0 (ByteArray.mk (Array.mk [])) [] [] Bool.false (ByteArray.mk (Array.mk [])) 0 []))) (Int.toNat ((j : Nat) : Int)) (Fld.mk (ByteArray.mk (Array.mk [])) 0 Bool.false (J.mk 0 Bool.false (Dec.mk Bool.false (ByteArray.mk (Array.mk [])) 0) (ByteArray.mk (Array.mk [])) [] []))))))) = Bool.false))) || Bool.true) && (((!(decide ((!(decide (t = (Fld.type (List.getD (Nd.fields (List.getD nodes (Int.toNat ((i : Nat) : Int)) (Nd.mk 0 (ByteArray.mk (Array.mk [])) [] [] Bool.false (ByteArray.mk (Array.mk [])) 0 []))) (Int.toNat ((j : Nat) : Int)) (Fld.mk (ByteArray.mk (Array.mk [])) 0 Bool.false (J.mk 0 Bool.false (Dec.mk Bool.false (ByteArray.mk (Array.mk [])) 0) (ByteArray.mk (Array.mk [])) [] []))))))) = Bool.false))) || (((!(decide ((!(decide (t = (Fld.type (List.getD (Nd.fields (List.getD nodes (Int.toNat ((i : Nat) : Int)) (Nd.mk 0 (ByteArray.mk (Array.mk [])) [] [] Bool.false (ByteArray.mk (Array.mk [])) 0 []))) (Int.toNat ((j : Nat) : Int)) (Fld.mk (ByteArray.mk (Array.mk [])) 0 Bool.false (J.mk 0 Bool.false (Dec.mk Bool.false (ByteArray.mk (Array.mk [])) 0) (ByteArray.mk (Array.mk [])) [] []))))))) = Bool.false))) || (decide ((!(decide (t = (Fld.type (List.getD (Nd.fields (List.getD nodes (Int.toNat ((i : Nat) : Int)) (Nd.mk 0 (ByteArray.mk (Array.mk [])) [] [] Bool.false (ByteArray.mk (Array.mk [])) 0 []))) (Int.toNat ((j : Nat) : Int)) (Fld.mk (ByteArray.mk (Array.mk [])) 0 Bool.false (J.mk 0 Bool.false (Dec.mk Bool.false (ByteArray.mk (Array.mk [])) 0) (ByteArray.mk (Array.mk [])) [] []))))))) = Bool.false))) && Bool.true)) && (((!(decide ((!(decide (t = (Fld.type (List.getD (Nd.fields (List.getD nodes (Int.toNat ((i : Nat) : Int)) (Nd.mk 0 (ByteArray.mk (Array.mk [])) [] [] Bool.false (ByteArray.mk (Array.mk [])) 0 []))) (Int.toNat ((j : Nat) : Int)) (Fld.mk (ByteArray.mk (Array.mk [])) 0 Bool.false (J.mk 0 Bool.false (Dec.mk Bool.false (ByteArray.mk (Array.mk [])) 0) (ByteArray.mk (Array.mk [])) [] []))))))) = Bool.false))) || ((!(decide ((!(decide (t = (Fld.type (List.getD (Nd.fields (List.getD nodes (Int.toNat ((i : Nat) : Int)) (Nd.mk 0 (ByteArray.mk (Array.mk [])) [] [] Bool.false (ByteArray.mk (Array.mk [])) 0 []))) (Int.toNat ((j : Nat) : Int)) (Fld.mk (ByteArray.mk (Array.mk [])) 0 Bool.false (J.mk 0 Bool.false (Dec.mk Bool.false (ByteArray.mk (Array.mk [])) 0) (ByteArray.mk (Array.mk [])) [] []))))))) = Bool.false))) || (decide ((!(decide (t = (Fld.type (List.getD (Nd.fields (List.getD nodes (Int.toNat ((i : Nat) : Int)) (Nd.mk 0 (ByteArray.mk (Array.mk [])) [] [] Bool.false (ByteArray.mk (Array.mk [])) 0 []))) (Int.toNat ((j : Nat) : Int)) (Fld.mk (ByteArray.mk (Array.mk [])) 0 Bool.false (J.mk 0 Bool.false (Dec.mk Bool.false (ByteArray.mk (Array.mk [])) 0) (ByteArray.mk (Array.mk [])) [] []))))))) = Bool.false)))) && (((!((decide ((!(decide (t = (Fld.type (List.getD (Nd.fields (List.getD nodes (Int.toNat ((i : Nat) : Int)) (Nd.mk 0 (ByteArray.mk (Array.mk [])) [] [] Bool.false (ByteArray.mk (Array.mk [])) 0 []))) (Int.toNat ((j : Nat) : Int)) (Fld.mk (ByteArray.mk (Array.mk [])) 0 Bool.false (J.mk 0 Bool.false (Dec.mk Bool.false (ByteArray.mk (Array.mk [])) 0) (ByteArray.mk (Array.mk [])) [] []))))))) = Bool.false)) && Bool.false)) || Bool.true) && (((!((decide ((!(decide (t = (Fld.type (List.getD (Nd.fields (List.getD nodes (Int.toNat ((i : Nat) : Int)) (Nd.mk 0 (ByteArray.mk (Array.mk [])) [] [] Bool.false (ByteArray.mk (Array.mk [])) 0 []))) (Int.toNat ((j : Nat) : Int)) (Fld.mk (ByteArray.mk (Array.mk [])) 0 Bool.false (J.mk 0 Bool.false (Dec.mk Bool.false (ByteArray.mk (Array.mk [])) 0) (ByteArray.mk (Array.mk [])) [] []))))))) = Bool.false)) && Bool.false)) || (((!((decide ((!(decide (t = (Fld.type (List.getD (Nd.fields (List.getD nodes (Int.toNat ((i : Nat) : Int)) (Nd.mk 0 (ByteArray.mk (Array.mk [])) [] [] Bool.false (ByteArray.mk (Array.mk [])) 0 []))) (Int.toNat ((j : Nat) : Int)) (Fld.mk (ByteArray.mk (Array.mk [])) 0 Bool.false (J.mk 0 Bool.false (Dec.mk Bool.false (ByteArray.mk (Array.mk [])) 0) (ByteArray.mk (Array.mk [])) [] []))))))) = Bool.false)) && Bool.false)) || ((decide ((!(decide (t = (Fld.type (List.getD (Nd.fields (List.getD nodes (Int.toNat ((i : Nat) : Int)) (Nd.mk 0 (ByteArray.mk (Array.mk [])) [] [] Bool.false (ByteArray.mk (Array.mk [])) 0 []))) (Int.toNat ((j : Nat) : Int)) (Fld.mk (ByteArray.mk (Array.mk [])) 0 Bool.false (J.mk 0 Bool.false (Dec.mk Bool.false (ByteArray.mk (Array.mk [])) 0) (ByteArray.mk (Array.mk [])) [] []))))))) = Bool.false)) && Bool.false)) && Bool.true)) && (((!((decide ((!(decide (t = (Fld.type (List.getD (Nd.fields (List.getD nodes (Int.toNat ((i : Nat) : Int)) (Nd.mk 0 (ByteArray.mk (Array.mk [])) [] [] Bool.false (ByteArray.mk (Array.mk [])) 0 []))) (Int.toNat ((j : Nat) : Int)) (Fld.mk (ByteArray.mk (Array.mk [])) 0 Bool.false (J.mk 0 Bool.false (Dec.mk Bool.false (ByteArray.mk (Array.mk [])) 0) (ByteArray.mk (Array.mk [])) [] []))))))) = Bool.false)) && Bool.false)) || ((((!((decide ((!(decide (t = (Fld.type (List.getD (Nd.fields (List.getD nodes (Int.toNat ((i : Nat) : Int)) (Nd.mk 0 (ByteArray.mk (Array.mk [])) [] [] Bool.false (ByteArray.mk (Array.mk [])) 0 []))) (Int.toNat ((j : Nat) : Int)) (Fld.mk (ByteArray.mk (Array.mk [])) 0 Bool.false (J.mk 0 Bool.false (Dec.mk Bool.false (ByteArray.mk (Array.mk [])) 0) (ByteArray.mk (Array.mk [])) [] []))))))) = Bool.false)) && Bool.false)) || ((decide ((!(decide (t = (Fld.type (List.getD (Nd.fields (List.getD nodes (Int.toNat ((i : Nat) : Int)) (Nd.mk 0 (ByteArray.mk (Array.mk [])) [] [] Bool.false (ByteArray.mk (Array.mk [])) 0 []))) (Int.toNat ((j : Nat) : Int)) (Fld.mk (ByteArray.mk (Array.mk [])) 0 Bool.false (J.mk 0 Bool.false (Dec.mk Bool.false (ByteArray.mk (Array.mk [])) 0) (ByteArray.mk (Array.mk [])) [] []))))))) = Bool.false)) && Bool.false)) && Bool.true) && Bool.true)) && (((!((decide ((!(decide (t = (Fld.type (List.getD (Nd.fields (List.getD nodes (Int.toNat ((i : Nat) : Int)) (Nd.mk 0 (ByteArray.mk (Array.mk [])) [] [] Bool.false (ByteArray.mk (Array.mk [])) 0 []))) (Int.toNat ((j : Nat) : Int)) (Fld.mk (ByteArray.mk (Array.mk [])) 0 Bool.false (J.mk 0 Bool.false (Dec.mk Bool.false (ByteArray.mk (Array.mk [])) 0) (ByteArray.mk (Array.mk [])) [] []))))))) = Bool.false)) && Bool.false)) || ((((!((decide ((!(decide (t = (Fld.type (List.getD (Nd.fields (List.getD nodes (Int.toNat ((i : Nat) : Int)) (Nd.mk 0 (ByteArray.mk (Array.mk [])) [] [] Bool.false (ByteArray.mk (Array.mk [])) 0 []))) (Int.toNat ((j : Nat) : Int)) (Fld.mk (ByteArray.mk (Array.mk [])) 0 Bool.false (J.mk 0 Bool.false (Dec.mk Bool.false (ByteArray.mk (Array.mk [])) 0) (ByteArray.mk (Array.mk [])) [] []))))))) = Bool.false)) && Bool.false)) || ((decide ((!(decide (t = (Fld.type (List.getD (Nd.fields (List.getD nodes (Int.toNat ((i : Nat) : Int)) (Nd.mk 0 (ByteArray.mk (Array.mk [])) [] [] Bool.false (ByteArray.mk (Array.mk [])) 0 []))) (Int.toNat ((j : Nat) : Int)) (Fld.mk (ByteArray.mk (Array.mk [])) 0 Bool.false (J.mk 0 Bool.false (Dec.mk Bool.false (ByteArray.mk (Array.mk [])) 0) (ByteArray.mk (Array.mk [])) [] []))))))) = Bool.false)) && Bool.false)) && Bool.true) && Bool.true)) && (((!(decide ((!(decide (t = (Fld.type (List.getD (Nd.fields (List.getD nodes (Int.toNat ((i : Nat) : Int)) (Nd.mk 0 (ByteArray.mk (Array.mk [])) [] [] Bool.false (ByteArray.mk (Array.mk [])) 0 []))) (Int.toNat ((j : Nat) : Int)) (Fld.mk (ByteArray.mk (Array.mk [])) 0 Bool.false (J.mk 0 Bool.false (Dec.mk Bool.false (ByteArray.mk (Array.mk [])) 0) (ByteArray.mk (Array.mk [])) [] []))))))) = Bool.false))) || ((((!(decide ((!(decide (t = (Fld.type (List.getD (Nd.fields (List.getD nodes (Int.toNat ((i : Nat) : Int)) (Nd.mk 0 (ByteArray.mk (Array.mk [])) [] [] Bool.false (ByteArray.mk (Array.mk [])) 0 []))) (Int.toNat ((j : Nat) : Int)) (Fld.mk (ByteArray.mk (Array.mk [])) 0 Bool.false (J.mk 0 Bool.false (Dec.mk Bool.false (ByteArray.mk (Array.mk [])) 0) (ByteArray.mk (Array.mk [])) [] []))))))) = Bool.false))) || (decide ((!(decide (t = (Fld.type (List.getD (Nd.fields (List.getD nodes (Int.toNat ((i : Nat) : Int)) (Nd.mk 0 (ByteArray.mk (Array.mk [])) [] [] Bool.false (ByteArray.mk (Array.mk [])) 0 []))) (Int.toNat ((j : Nat) : Int)) (Fld.mk (ByteArray.mk (Array.mk [])) 0 Bool.false (J.mk 0 Bool.false (Dec.mk Bool.false (ByteArray.mk (Array.mk [])) 0) (ByteArray.mk (Array.mk [])) [] []))))))) = Bool.false))) && ((!((decide ((!(decide (t = (Fld.type (List.getD (Nd.fields (List.getD nodes (Int.toNat ((i : Nat) : Int)) (Nd.mk 0 (ByteArray.mk (Array.mk [])) [] [] Bool.false (ByteArray.mk (Array.mk [])) 0 []))) (Int.toNat ((j : Nat) : Int)) (Fld.mk (ByteArray.mk (Array.mk [])) 0 Bool.false (J.mk 0 Bool.false (Dec.mk Bool.false (ByteArray.mk (Array.mk [])) 0) (ByteArray.mk (Array.mk [])) [] []))))))) = Bool.false)) && Bool.false)) || ((decide ((!(decide (t = (Fld.type (List.getD (Nd.fields (List.getD nodes (Int.toNat ((i : Nat) : Int)) (Nd.mk 0 (ByteArray.mk (Array.mk [])) [] [] Bool.false (ByteArray.mk (Array.mk [])) 0 []))) (Int.toNat ((j : Nat) : Int)) (Fld.mk (ByteArray.mk (Array.mk [])) 0 Bool.false (J.mk 0 Bool.false (Dec.mk Bool.false (ByteArray.mk (Array.mk [])) 0) (ByteArray.mk (Array.mk [])) [] []))))))) = Bool.false)) && Bool.false))) && Bool.true)) && (((!(!(!(decide (t = (Fld.type (List.getD (Nd.fields (List.getD nodes (Int.toNat ((i : Nat) : Int)) (Nd.mk 0 (ByteArray.mk (Array.mk [])) [] [] Bool.false (ByteArray.mk (Array.mk [])) 0 []))) (Int.toNat ((j : Nat) : Int)) (Fld.mk (ByteArray.mk (Array.mk [])) 0 Bool.false (J.mk 0 Bool.false (Dec.mk Bool.false (ByteArray.mk (Array.mk [])) 0) (ByteArray.mk (Array.mk [])) [] []))))))))) || (decide ((!(decide (t = (Fld.type (List.getD (Nd.fields (List.getD nodes (Int.toNat ((i : Nat) : Int)) (Nd.mk 0 (ByteArray.mk (Array.mk [])) [] [] Bool.false (ByteArray.mk (Array.mk [])) 0 []))) (Int.toNat ((j : Nat) : Int)) (Fld.mk (ByteArray.mk (Array.mk [])) 0 Bool.false (J.mk 0 Bool.false (Dec.mk Bool.false (ByteArray.mk (Array.mk [])) 0) (ByteArray.mk (Array.mk [])) [] []))))))) = Bool.false))) && (bif ((!(decide (t = (Fld.type (List.getD (Nd.fields (List.getD nodes (Int.toNat ((i : Nat) : Int)) (Nd.mk 0 (ByteArray.mk (Array.mk [])) [] [] Bool.false (ByteArray.mk (Array.mk [])) 0 []))) (Int.toNat ((j : Nat) : Int)) (Fld.mk (ByteArray.mk (Array.mk [])) 0 Bool.false (J.mk 0 Bool.false (Dec.mk Bool.false (ByteArray.mk (Array.mk [])) 0) (ByteArray.mk (Array.mk [])) [] []))))))) && Bool.true) then (k HX.ret ⟨slots 155 [(1, (HV.ptr 0 0)), (2, (HV.v (Value.int IntKind.i64 190))), (3, (HV.ptr 1 0)), (5, (HV.map 2)), (6, (HV.v (Value.int IntKind.i64 ((i : Nat) : Int)))), (7, (HV.ptr 3 0)), (45, (HV.d (Cd.list Cd.nd) nodes)), (46, (HV.v (Value.int IntKind.i64 (((List.length nodes) : Nat) : Int)))), (47, (HV.v (Value.int IntKind.i64 ((i : Nat) : Int)))), (68, (HV.d (Cd.list Cd.fld) fs)), (69, (HV.v (Value.int IntKind.i64 (((List.length fs) : Nat) : Int)))), (70, (HV.v (Value.int IntKind.i64 ((j : Nat) : Int))))], [(Ob.box 27 (HV.d Cd.av (Av.mk nodes 0))), (Ob.box 27 (HV.d Cd.av (Av.mk nodes 0))), (Ob.map Cd.str (Cd.int IntKind.i64) M), (Ob.box 37 (HV.d Cd.nd n)), (Ob.box 45 (HV.d Cd.fld (Fld.mk nm t Bool.false (J.mk 0 Bool.false (Dec.mk Bool.false (ByteArray.mk (Array.mk [])) 0) (ByteArray.mk (Array.mk [])) [] []))))]⟩) else (k HX.normal ⟨slots 155 [(1, (HV.ptr 0 0)), (2, (HV.v (Value.int IntKind.i64 0))), (3, (HV.ptr 1 0)), (5, (HV.map 2)), (6, (HV.v (Value.int IntKind.i64 ((i : Nat) : Int)))), (7, (HV.ptr 3 0)), (45, (HV.d (Cd.list Cd.nd) nodes)), (46, (HV.v (Value.int IntKind.i64 (((List.length nodes) : Nat) : Int)))), (47, (HV.v (Value.int IntKind.i64 ((i : Nat) : Int)))), (68, (HV.d (Cd.list Cd.fld) fs)), (69, (HV.v (Value.int IntKind.i64 (((List.length fs) : Nat) : Int)))), (70, (HV.v (Value.int IntKind.i64 ((j : Nat) : Int))))], [(Ob.box 27 (HV.d Cd.av (Av.mk nodes 0))), (Ob.box 27 (HV.d Cd.av (Av.mk nodes 0))), (Ob.map Cd.str (Cd.int IntKind.i64) M), (Ob.box 37 (HV.d Cd.nd n)), (Ob.box 45 (HV.d Cd.fld (Fld.mk nm t Bool.false (J.mk 0 Bool.false (Dec.mk Bool.false (ByteArray.mk (Array.mk [])) 0) (ByteArray.mk (Array.mk [])) [] []))))]⟩))))))))))))) := by kernel_rfl
theorem j11 (nodes : List Nd) (M : Es) (i : Nat) (n : Nd) (fs : List Fld) (j : Nat) (nm : ByteArray) (t : Int) (k : KX) : evd G34 6 (pc 11 [1, 1, 1, 1, 1, 0, 1, 0, 0, 1, 1, 0, 0, 1, 1, 0, 1, 0, 0, 1, 1, 1]) ⟨tmC nodes i fs j, obA nodes M ++ [bxN n, bxF nm t]⟩ (fun x st => k x (st.keep [1, 2, 3, 5, 6, 7, 45, 46, 47, 68, 69, 70])) = (k HX.normal ⟨slots 155 [(1, (HV.ptr 0 0)), (2, (HV.v (Value.int IntKind.i64 0))), (3, (HV.ptr 1 0)), (5, (HV.map 2)), (6, (HV.v (Value.int IntKind.i64 ((i : Nat) : Int)))), (7, (HV.ptr 3 0)), (45, (HV.d (Cd.list Cd.nd) nodes)), (46, (HV.v (Value.int IntKind.i64 (((List.length nodes) : Nat) : Int)))), (47, (HV.v (Value.int IntKind.i64 ((i : Nat) : Int)))), (68, (HV.d (Cd.list Cd.fld) fs)), (69, (HV.v (Value.int IntKind.i64 (((List.length fs) : Nat) : Int)))), (70, (HV.v (Value.int IntKind.i64 (fwrap IntKind.i64 (((j : Nat) : Int) + 1)))))], [(Ob.box 27 (HV.d Cd.av (Av.mk nodes 0))), (Ob.box 27 (HV.d Cd.av (Av.mk nodes 0))), (Ob.map Cd.str (Cd.int IntKind.i64) M), (Ob.box 37 (HV.d Cd.nd n)), (Ob.box 45 (HV.d Cd.fld (Fld.mk nm t Bool.false (J.mk 0 Bool.false (Dec.mk Bool.false (ByteArray.mk (Array.mk [])) 0) (ByteArray.mk (Array.mk [])) [] []))))]⟩) := by kernel_rfl
theorem k11 (nodes : List Nd) (M : Es) (i : Nat) (fs : List Fld) (j : Nat) (k : KX) : evd G34 6 (pc 11 [1, 1, 1, 1, 1, 0, 1, 0, 0, 1, 1, 0, 0, 1, 1, 1]) ⟨tmC nodes i fs j, obA nodes M ++ [bxN ndN]⟩ (fun x st => k x (st.keep [1, 2, 3, 5, 45, 46, 47])) = (k HX.normal ⟨slots 155 [(1, (HV.ptr 0 0)), (2, (HV.v (Value.int IntKind.i64 0))), (3, (HV.ptr 1 0)), (5, (HV.map 2)), (45, (HV.d (Cd.list Cd.nd) nodes)), (46, (HV.v (Value.int IntKind.i64 (((List.length nodes) : Nat) : Int)))), (47, (HV.v (Value.int IntKind.i64 ((i : Nat) : Int))))], [(Ob.box 27 (HV.d Cd.av (Av.mk nodes 0))), (Ob.box 27 (HV.d Cd.av (Av.mk nodes 0))), (Ob.map Cd.str (Cd.int IntKind.i64) M), (Ob.box 37 (HV.d Cd.nd (Nd.mk 0 (ByteArray.mk (Array.mk [])) [] [] Bool.false (ByteArray.mk (Array.mk [])) 0 []))), (Ob.map Cd.str (Cd.int IntKind.i64) [])]⟩) := by kernel_rfl
theorem l11 (nodes : List Nd) (i : Nat) (F : List Fld) (fs : List Fld) (j : Nat) (k : KX) : evd G34 6 (pc 11 [1, 1, 1, 1, 1, 0, 1, 0, 0, 1, 1, 0, 0, 1, 1, 1]) ⟨tmC nodes i fs j, obA nodes [] ++ [bxN (ndR F)]⟩ (fun x st => k x (st.keep [1, 2, 3, 5, 45, 46, 47])) = (k HX.normal ⟨slots 155 [(1, (HV.ptr 0 0)), (2, (HV.v (Value.int IntKind.i64 0))), (3, (HV.ptr 1 0)), (5, (HV.map 2)), (45, (HV.d (Cd.list Cd.nd) nodes)), (46, (HV.v (Value.int IntKind.i64 (((List.length nodes) : Nat) : Int)))), (47, (HV.v (Value.int IntKind.i64 ((i : Nat) : Int))))], [(Ob.box 27 (HV.d Cd.av (Av.mk nodes 0))), (Ob.box 27 (HV.d Cd.av (Av.mk nodes 0))), (Ob.map Cd.str (Cd.int IntKind.i64) [(Prod.mk (ByteArray.mk (Array.mk [82])) 1)]), (Ob.box 37 (HV.d Cd.nd (Nd.mk 8 (ByteArray.mk (Array.mk [82])) F [] Bool.false (ByteArray.mk (Array.mk [])) 0 []))), (Ob.map Cd.str (Cd.int IntKind.i64) [])]⟩) := by kernel_rfl
theorem m11 (nodes : List Nd) (M : Es) (i : Nat) (n : Nd) (o : Ob) (k : KX) : evd G34 6 (pc 11 [1, 1, 1, 1, 1, 0, 1, 0, 0, 1, 1, 1]) ⟨tmA nodes i, obA nodes M ++ [bxN n, o]⟩ (fun x st => k x (st.keep [1, 2, 3, 5, 45, 46, 47])) = (k HX.normal ⟨slots 155 [(1, (HV.ptr 0 0)), (2, (HV.v (Value.int IntKind.i64 0))), (3, (HV.ptr 1 0)), (5, (HV.map 2)), (45, (HV.d (Cd.list Cd.nd) nodes)), (46, (HV.v (Value.int IntKind.i64 (((List.length nodes) : Nat) : Int)))), (47, (HV.v (Value.int IntKind.i64 (fwrap IntKind.i64 (((i : Nat) : Int) + 1)))))], [(Ob.box 27 (HV.d Cd.av (Av.mk nodes 0))), (Ob.box 27 (HV.d Cd.av (Av.mk nodes 0))), (Ob.map Cd.str (Cd.int IntKind.i64) M), (Ob.box 37 (HV.d Cd.nd n)), o]⟩) := by kernel_rfl
theorem n11 (nodes : List Nd) (M : Es) (i : Nat) (k : KX) : evd G34 6 (pc 11 [1, 1, 1, 1, 1, 1]) ⟨tmA nodes i, obA nodes M⟩ (fun x st => k x (st.keep [2])) = (((defB nodes) && Bool.true) && (k HX.ret ⟨slots 155 [(2, (HV.v (Value.int IntKind.i64 0)))], [(Ob.box 27 (HV.d Cd.av (Av.mk nodes 0))), (Ob.box 27 (HV.d Cd.av (Av.mk nodes 0))), (Ob.map Cd.str (Cd.int IntKind.i64) M)]⟩)) := by kernel_rfl
theorem o11 (nodes : List Nd) (M : Es) (kr : KR) : finK Tryz.prog Tryz.f11 [] kr ⟨slots 155 [(2, i64 0)], obA nodes M⟩ = (kr (HR.ret (HV.v (Value.int IntKind.i64 0))) []) := by kernel_rfl
theorem code11 : Tryz.f11.body = some (seqs [pc 11 [0], pc 11 [1, 0], pc 11 [1, 1, 0], pc 11 [1, 1, 1, 0], pc 11 [1, 1, 1, 1, 0]] (.seq (seqs [pc 11 [1, 1, 1, 1, 1, 0, 0]] (.block 0 (.loop (pc 11 [1, 1, 1, 1, 1, 0, 1, 0, 0])))) (pc 11 [1, 1, 1, 1, 1, 1]))) := by kernel_rfl
theorem code11b : pc 11 [1, 1, 1, 1, 1, 0, 1, 0, 0] = seqs [pc 11 [1, 1, 1, 1, 1, 0, 1, 0, 0, 0], pc 11 [1, 1, 1, 1, 1, 0, 1, 0, 0, 1, 0]] (.seq (.block 1 (seqs [pc 11 [1, 1, 1, 1, 1, 0, 1, 0, 0, 1, 1, 0, 0, 0]] (seqs [pc 11 [1, 1, 1, 1, 1, 0, 1, 0, 0, 1, 1, 0, 0, 1, 0]] (.seq (seqs [pc 11 [1, 1, 1, 1, 1, 0, 1, 0, 0, 1, 1, 0, 0, 1, 1, 0, 0]] (.block 2 (.loop (pc 11 [1, 1, 1, 1, 1, 0, 1, 0, 0, 1, 1, 0, 0, 1, 1, 0, 1, 0, 0])))) (pc 11 [1, 1, 1, 1, 1, 0, 1, 0, 0, 1, 1, 0, 0, 1, 1, 1]))))) (pc 11 [1, 1, 1, 1, 1, 0, 1, 0, 0, 1, 1, 1])) := by kernel_rfl
theorem code11c : pc 11 [1, 1, 1, 1, 1, 0, 1, 0, 0, 1, 1, 0, 0, 1, 1, 0, 1, 0, 0] = seqs [pc 11 [1, 1, 1, 1, 1, 0, 1, 0, 0, 1, 1, 0, 0, 1, 1, 0, 1, 0, 0, 0], pc 11 [1, 1, 1, 1, 1, 0, 1, 0, 0, 1, 1, 0, 0, 1, 1, 0, 1, 0, 0, 1, 0]] (.seq (.block 3 (seqs [pc 11 [1, 1, 1, 1, 1, 0, 1, 0, 0, 1, 1, 0, 0, 1, 1, 0, 1, 0, 0, 1, 1, 0, 0, 0]] (pc 11 [1, 1, 1, 1, 1, 0, 1, 0, 0, 1, 1, 0, 0, 1, 1, 0, 1, 0, 0, 1, 1, 0, 0, 1]))) (pc 11 [1, 1, 1, 1, 1, 0, 1, 0, 0, 1, 1, 0, 0, 1, 1, 0, 1, 0, 0, 1, 1, 1])) := by kernel_rfl
theorem a31 (k : KX) : evd G8 6 (pc 31 []) ⟨argT 0 [.d (.list (.int .i64)) [], .d (.list (.int .i64)) []] ⟨26, .nil⟩, []⟩ (fun x st => k x (st.keep [4])) = (k HX.ret ⟨slots 26 [(4, (HV.v (Value.bool Bool.true)))], []⟩) := by kernel_rfl
theorem h31 (b : Bool) (kr : KR) : finK Tryz.prog Tryz.f31 [] kr ⟨slots 26 [(4, .v (.bool b))], []⟩ = (kr (HR.ret (HV.v (Value.bool b))) []) := by kernel_rfl
theorem code31 : Tryz.f31.body = some (pc 31 []) := by kernel_rfl
theorem do31 : PureDo Tryz.prog H4 31 [.d (.list (.int .i64)) [], .d (.list (.int .i64)) []] (.v (.bool true)) := by
  intro w0 kr h0 hkr
  refine does_wpA Tryz.func31 code31 (n := 26) (by kernel_rfl) ?_
  refine (evd_ok (gamOK8 h0) [4] a31 (yes_mk ?_)).wpA
  show finK Tryz.prog Tryz.f31 [] kr ⟨slots 26 [(4, .v (.bool true))], []⟩ = true
  rw [h31]
  exact hkr

theorem vw11a (nodes : List Nd) (M : Es) (i : Nat) (n : Nd) (fs : List Fld) (j : Nat) (o : Ob) : vw [] 4 ⟨tmC nodes i fs j, obA nodes M ++ [bxN n, o]⟩ = ⟨tmC nodes i fs j, obA nodes M ++ [bxN n]⟩ := by kernel_rfl
theorem vw11b (nodes : List Nd) (M : Es) (i : Nat) (a b : Ob) : vw [] 3 ⟨tmA nodes i, obA nodes M ++ [a, b]⟩ = ⟨tmA nodes i, obA nodes M⟩ := by kernel_rfl

theorem gamOK34 {w0 : World} (h0 : H4 w0) : GamOK Tryz.prog w0 G34 := by
  refine addP_ok (addP_ok (addP_ok (addP_ok (addP_ok (gamOK8 h0) ⟨_, Tryz.func31, rfl⟩ ?_) ⟨_, Tryz.func30, rfl⟩ ?_) ⟨_, Tryz.func29, rfl⟩ ?_) ⟨_, Tryz.func28, rfl⟩ ?_) ⟨_, Tryz.func32, rfl⟩ ?_
  · intro args r h h1
    unfold kidsP at h
    split at h
    · cases h
      simp only [Bool.and_eq_true, decide_eq_true_eq] at h1
      obtain ⟨ha, hb⟩ := h1
      obtain rfl := List.eq_nil_of_length_eq_zero ha
      obtain rfl := List.eq_nil_of_length_eq_zero hb
      exact pureAns lasts4 do31 rfl rfl h0
    · cases h
  · intro args r h h1
    unfold shapeP at h
    split at h
    · cases h
      rcases of_yes h1 with rfl | ⟨fs, rfl, ha, hb, hc⟩
      · exact pureAns lasts4 do30n rfl rfl h0
      · exact pureAns lasts4 (do30 ha hb hc) rfl rfl h0
    · cases h
  · intro args r h h1
    unfold defaultsP at h
    split at h
    · cases h
      simp only [Bool.and_eq_true, decide_eq_true_eq] at h1
      obtain ⟨ha, rfl⟩ := h1
      obtain ⟨hb, hc⟩ := of_yes ha
      exact pureAns lasts4 (do29 hb hc) rfl rfl h0
    · cases h
  · intro args r h h1
    unfold orderedP at h
    split at h
    · cases h
      simp only [Bool.and_eq_true, decide_eq_true_eq] at h1
      obtain ⟨ha, rfl⟩ := h1
      obtain ⟨items, rfl, hb, hc, hd⟩ := of_yes ha
      exact pureAns lasts4 (do28 hb hc hd) rfl rfl h0
    · cases h
  · intro args r h h1
    unfold zeroP at h
    split at h
    · cases h
      exact pureAns lasts4 (do32 (n := 5) (by decide) h1) rfl rfl h0
    · cases h

theorem fldsFrom_all : ∀ (l : List Item) (k : Nat), ∀ f ∈ fldsFrom k l, f.has = false ∧ f.dflt = zJ
  | [], _, f, h => by cases h
  | p :: l, k, f, h => by
    unfold fldsFrom at h
    cases hp : p.2 <;> rw [hp] at h <;> rcases List.mem_cons.1 h with rfl | h
    · exact ⟨rfl, rfl⟩
    · exact fldsFrom_all l _ f h
    · exact ⟨rfl, rfl⟩
    · exact fldsFrom_all l _ f h
theorem fldsFrom_names : ∀ (l : List Item) (k : Nat), (fldsFrom k l).map Fld.name = namesOf l
  | [], _ => rfl
  | p :: l, k => by
    unfold fldsFrom
    cases hp : p.2
    · show _ :: (fldsFrom (k + 1) l).map Fld.name = _
      rw [fldsFrom_names l]; rfl
    · show _ :: (fldsFrom k l).map Fld.name = _
      rw [fldsFrom_names l]; rfl
def seenR : Nat → Es
  | 0 => []
  | _ + 1 => [(bR, 1)]

theorem do11 {items : List Item} (hne : items ≠ []) (hlen : items.length ≤ 256) (hnu : nulls items ≤ 255) (hnm : namesB (namesOf items) = true) : PureDo Tryz.prog H4 11 [.d .av ⟨nodesOf items, 0⟩] (.v (.int .i64 0)) := by
  intro w0 kr h0 hkr
  have hG := gamOK34 h0
  have hord : ordB (nodesOf items) = true := yes_mk ⟨items, rfl, hne, hlen, hnu⟩
  have hFl : (fldsFrom 1 items).length ≤ 256 := by rw [fldsFrom_length]; exact hlen
  have hFa := fldsFrom_all items 1
  have hshR : shapeB (ndR (fldsFrom 1 items)) = true := yes_mk (Or.inr ⟨_, rfl, hFl, hFa, by rw [fldsFrom_names]; exact hnm⟩)
  have hshN : shapeB ndN = true := yes_mk (Or.inl rfl)
  have hnl : (nodesOf items).length ≤ 256 := by unfold nodesOf; rw [List.length_cons, List.length_replicate]; omega
  have hdef : defB (nodesOf items) = true := by
    refine yes_mk ⟨by unfold B42; omega, fun n hn => ?_⟩
    unfold nodesOf at hn
    rcases List.mem_cons.1 hn with rfl | hn
    · exact ⟨by show (fldsFrom 1 items).length ≤ B42; unfold B42; omega, fun f hf => (hFa f hf).1⟩
    · obtain rfl := List.eq_of_mem_replicate hn
      exact ⟨Nat.zero_le _, fun f hf => by cases hf⟩
  have hat : ∀ (i : Nat) (n : Nd), (nodesOf items)[i]? = some n → (i = 0 ∧ n = ndR (fldsFrom 1 items)) ∨ ((∃ i', i = i' + 1) ∧ n = ndN) := by
    intro i n h
    unfold nodesOf at h
    cases i with
    | zero => simp only [List.getElem?_cons_zero, Option.some.injEq] at h; exact Or.inl ⟨rfl, h.symm⟩
    | succ i =>
      rw [List.getElem?_cons_succ, List.getElem?_replicate] at h
      split at h
      · cases h; exact Or.inr ⟨⟨i, rfl⟩, rfl⟩
      · cases h
  generalize nodesOf items = nodes at *
  generalize fldsFrom 1 items = F at *
  refine does_wpA Tryz.func11 code11 (n := 155) (by kernel_rfl) ?_
  refine evs_ok hG [1, 2, 3, 5] (a11 nodes) ?_
  simp only [ltI_false (show ¬ (256 : Int) < (nodes.length : Int) by omega), hord, decide_true, decide_false, Bool.not_true, Bool.not_false, Bool.true_and, Bool.and_true, Bool.or_true, Bool.true_or, Bool.false_or, Bool.or_false, Bool.and_self, cond_true, cond_false, reduceCtorEq]
  refine yes_mk ?_
  refine wpA_seq (evs_ok hG [1, 2, 3, 5, 45, 46, 47] (b11 nodes) (yes_mk ?_))
  refine wpA_block (wpA_loop (α := { i : Nat // i ≤ nodes.length }) (fun i => ⟨tmA nodes i.1, obA nodes (seenR i.1)⟩) (fun i => nodes.length - i.1) (fun i => ?_) ⟨0, Nat.zero_le _⟩)
  obtain ⟨i, hi⟩ := i
  dsimp only
  rw [code11b]
  refine evs_ok hG [1, 2, 3, 5, 45, 46, 47] (c11 nodes (seenR i) i) ?_
  rcases Nat.lt_or_ge i nodes.length with hlt | hge
  · rw [ltI_true (show (i : Int) < (nodes.length : Int) by omega)]
    refine yes_mk ?_
    have hg : nodes[i]? = some nodes[i] := List.getElem?_eq_getElem hlt
    have hgd : List.getD nodes i (Nd.mk 0 (ByteArray.mk (Array.mk [])) [] [] false (ByteArray.mk (Array.mk [])) 0 []) = nodes[i] := by rw [List.getD_eq_getElem?_getD, hg]; rfl
    have f3 : fwrap .i64 ((i : Int) + 1) = ((i + 1 : Nat) : Int) := fwrap_i64 (by omega) (by omega)
    have hil : decide ((i : Int) < (nodes.length : Int)) = true := decide_eq_true (by omega)
    have hc := hat i _ hg
    refine wpA_seq (wpA_block (evs_ok hG [1, 2, 3, 5, 6, 7, 45, 46, 47] (d11 nodes (seenR i) i) ?_))
    simp only [Int.toNat_natCast, hgd, hil, Bool.true_and]
    generalize nodes[i] = n at *
    refine yes_mk ?_
    have hsh : shapeB n = true := by rcases hc with ⟨_, rfl⟩ | ⟨_, rfl⟩ <;> assumption
    have hk0 : n.kids = [] := by rcases hc with ⟨_, rfl⟩ | ⟨_, rfl⟩ <;> rfl
    have hfs : n.fields.length ≤ 256 ∧ ∀ f ∈ n.fields, f.has = false ∧ f.dflt = zJ := by
      rcases hc with ⟨_, rfl⟩ | ⟨_, rfl⟩
      · exact ⟨hFl, hFa⟩
      · exact ⟨Nat.zero_le _, fun f hf => by cases hf⟩
    have hnl0 : decide (([] : List Int).length = 0) = true := rfl
    refine evs_ok hG [1, 2, 3, 5, 6, 7, 45, 46, 47] (e11 nodes (seenR i) i n) ?_
    simp only [Int.toNat_natCast, hgd, hil, hsh, hk0, hnl0, Bool.true_and, Bool.and_true, List.length_nil, decide_true]
    refine yes_mk ?_
    refine wpA_seq (evs_ok hG [1, 2, 3, 5, 6, 7, 45, 46, 47, 68, 69, 70] (f11 nodes (seenR i) i n) (yes_mk ?_))
    have hnf : n.fields = n.fields := rfl
    obtain ⟨hfl, hfa⟩ := hfs
    refine wpA_block (wpA_loop (α := { j : Nat // j ≤ n.fields.length }) (fun j => ⟨tmC nodes i n.fields j.1, obA nodes (seenR i) ++ [bxN n]⟩) (fun j => n.fields.length - j.1) (fun j => ?_) ⟨0, Nat.zero_le _⟩)
    obtain ⟨j, hj⟩ := j
    dsimp only
    rw [code11c]
    refine evs_ok hG [1, 2, 3, 5, 6, 7, 45, 46, 47, 68, 69, 70] (g11 nodes (seenR i) i n n.fields j) ?_
    rcases Nat.lt_or_ge j n.fields.length with hjt | hje
    · rw [ltI_true (show (j : Int) < (n.fields.length : Int) by omega)]
      refine yes_mk ?_
      have hgj : List.getD n.fields j (Fld.mk (ByteArray.mk (Array.mk [])) 0 false (J.mk 0 false (Dec.mk false (ByteArray.mk (Array.mk [])) 0) (ByteArray.mk (Array.mk [])) [] [])) = n.fields[j] := by rw [List.getD_eq_getElem?_getD, List.getElem?_eq_getElem hjt]; rfl
      have f4 : fwrap .i64 ((j : Int) + 1) = ((j + 1 : Nat) : Int) := fwrap_i64 (by omega) (by omega)
      have hjl : decide ((j : Int) < (n.fields.length : Int)) = true := decide_eq_true (by omega)
      obtain ⟨h1, h2⟩ := hfa n.fields[j] (List.getElem_mem hjt)
      refine wpA_seq (wpA_block (evs_ok hG [1, 2, 3, 5, 6, 7, 8, 9, 45, 46, 47, 68, 69, 70] (h11 nodes (seenR i) i n n.fields j) ?_))
      simp only [Int.toNat_natCast, hgj, hjl, Bool.true_and]
      generalize n.fields[j] = f at *
      obtain ⟨nm, t, h, d⟩ := f
      dsimp only at h1 h2
      subst h1 h2
      refine yes_mk ?_
      refine (evd_ok hG [1, 2, 3, 5, 6, 7, 45, 46, 47, 68, 69, 70] (i11 nodes (seenR i) i n n.fields j nm t) ?_).wpA
      simp only [Int.toNat_natCast, hgd, hgj, hil, hjl, decide_true, decide_false, Bool.not_true, Bool.not_false, Bool.true_and, Bool.and_true, Bool.or_true, Bool.true_or, Bool.false_or, Bool.or_false, Bool.and_self, Bool.and_false, Bool.false_and, cond_true, cond_false, reduceCtorEq]
      refine yes_mk ?_
      refine (evd_ok hG [1, 2, 3, 5, 6, 7, 45, 46, 47, 68, 69, 70] (j11 nodes (seenR i) i n n.fields j nm t) ?_).wpA
      simp only [f4]
      exact yes_mk ⟨⟨j + 1, hjt⟩, [], 4, by dsimp only; omega, rfl, vw11a nodes (seenR i) i n n.fields (j + 1) _⟩
    · rw [ltI_false (show ¬ (j : Int) < (n.fields.length : Int) by omega)]
      refine yes_mk ?_
      rcases hc with ⟨rfl, rfl⟩ | ⟨⟨i', rfl⟩, rfl⟩
      · refine (evd_ok hG [1, 2, 3, 5, 45, 46, 47] (l11 nodes 0 F F j) (yes_mk ?_)).wpA
        refine (evd_ok hG [1, 2, 3, 5, 45, 46, 47] (m11 nodes [(bR, 1)] 0 (ndR F) (mapE [])) ?_).wpA
        simp only [f3]
        exact yes_mk ⟨⟨0 + 1, hlt⟩, [], 3, by dsimp only; omega, rfl, vw11b nodes [(bR, 1)] (0 + 1) _ _⟩
      · refine (evd_ok hG [1, 2, 3, 5, 45, 46, 47] (k11 nodes [(bR, 1)] (i' + 1) [] j) (yes_mk ?_)).wpA
        refine (evd_ok hG [1, 2, 3, 5, 45, 46, 47] (m11 nodes [(bR, 1)] (i' + 1) ndN (mapE [])) ?_).wpA
        simp only [f3]
        exact yes_mk ⟨⟨i' + 1 + 1, hlt⟩, [], 3, by dsimp only; omega, rfl, vw11b nodes [(bR, 1)] (i' + 1 + 1) _ _⟩
  · rw [ltI_false (show ¬ (i : Int) < (nodes.length : Int) by omega)]
    refine yes_mk ?_
    refine (evd_ok hG [2] (n11 nodes (seenR i) i) ?_).wpA
    simp only [hdef, Bool.true_and, Bool.and_true]
    refine yes_mk ?_
    refine fin_cast (st' := ⟨slots 155 [(2, i64 0)], obA nodes (seenR i)⟩) rfl ?_
    rw [o11]
    exact hkr
end Go.Proofs.YtiaeljbnhdhfcaaGreatDoor

namespace Go.Mo
open Go Go.RowKit Go.Lx Go.Proofs.YtiaeljbnhdhfcaaGreatDoor
noncomputable def schOk (l : List J) (r m : Nat) (args : List HV) (L : List Ob) : Bool := yes (args = [.ptr r 0, .d .json (topV l), tx [], i64 0] ∧ footOk L [r, m] [0, 0] = true ∧ subL (subR [r, m] [0, 0]) L [r, m] = [rbox0, mapE []])
noncomputable def sameB (a b : List Int) : Bool := yes (a = b)
end Go.Mo
namespace Go.Proofs.YtiaeljbnhdhfcaaGreatDoor
open Go Go.RowKit Go.Lx Go.Mo

noncomputable def schE (l : List J) (sm : Bool) (xs : List Nd) (es : Es) (fs : List Fld) (args : List HV) (L : List Ob) : Option (KR → Bool) := match args with
  | .ptr r _ :: _ => (match L[r]? with
    | some (.box _ (.st [_, .map m])) => some fun kr => schOk l r m args L && bif sm then kr (.ret (i64 0)) (putL (supR [r, m] [0, 0] L.length) [r, m] [0, 0] (ob27 l xs es fs) L) else kr (.panic (.iface 85 (.st [i64 190]))) (putL (supR [r, m] [0, 0] L.length) [r, m] [0, 0] (ob27p l) L)
    | _ => none)
  | _ => none
noncomputable def parseP (l : List J) (s : List Int) (args : List HV) : Option (Bool × HV) := match args with
  | [.d (.list (.int .u8)) b] => some (sameB b s, .tup [.d .json (topV l), i64 0])
  | _ => none
noncomputable def G35 (l : List J) (s : List Int) (sm : Bool) (xs : List Nd) (es : Es) (fs : List Fld) : Gam := addL 27 (schE l sm xs es fs) (addP 24 (parseP l s) G34)
theorem run9 (l : List J) (s b : List Int) (xs : List Nd) (es : Es) (fs : List Fld) (kr : KR) : evG Tryz.prog (G35 l s true xs es fs) 9 6 9 [.d (.list (.int .u8)) b, .v (.slice none 0 0)] [] kr = ((sameB b s) && ((schOk l 3 2 [(HV.ptr 3 0), (HV.d Cd.json (J.mk 5 Bool.false (Dec.mk Bool.false (ByteArray.mk (Array.mk [])) 0) (ByteArray.mk (Array.mk [])) [(J.mk 3 Bool.false (Dec.mk Bool.false (ByteArray.mk (Array.mk [])) 0) (ByteArray.mk (Array.mk [114, 101, 99, 111, 114, 100])) [] []), (J.mk 3 Bool.false (Dec.mk Bool.false (ByteArray.mk (Array.mk [])) 0) (ByteArray.mk (Array.mk [82])) [] []), (J.mk 4 Bool.false (Dec.mk Bool.false (ByteArray.mk (Array.mk [])) 0) (ByteArray.mk (Array.mk [])) l [])] [(ByteArray.mk (Array.mk [116, 121, 112, 101])), (ByteArray.mk (Array.mk [110, 97, 109, 101])), (ByteArray.mk (Array.mk [102, 105, 101, 108, 100, 115]))])), (HV.v (Value.string (ByteArray.mk (Array.mk [])))), (HV.v (Value.int IntKind.i64 0))] [(Ob.box 27 (HV.st [(HV.v (Value.slice Option.none 0 0)), (HV.v (Value.int IntKind.i64 0))])), (Ob.box 28 (HV.v (Value.int IntKind.i64 0))), (Ob.map Cd.str (Cd.int IntKind.i64) []), (Ob.box 67 (HV.st [(HV.v (Value.slice Option.none 0 0)), (HV.map 2)])), (Ob.box 43 (HV.d Cd.json (J.mk 5 Bool.false (Dec.mk Bool.false (ByteArray.mk (Array.mk [])) 0) (ByteArray.mk (Array.mk [])) [(J.mk 3 Bool.false (Dec.mk Bool.false (ByteArray.mk (Array.mk [])) 0) (ByteArray.mk (Array.mk [114, 101, 99, 111, 114, 100])) [] []), (J.mk 3 Bool.false (Dec.mk Bool.false (ByteArray.mk (Array.mk [])) 0) (ByteArray.mk (Array.mk [82])) [] []), (J.mk 4 Bool.false (Dec.mk Bool.false (ByteArray.mk (Array.mk [])) 0) (ByteArray.mk (Array.mk [])) l [])] [(ByteArray.mk (Array.mk [116, 121, 112, 101])), (ByteArray.mk (Array.mk [110, 97, 109, 101])), (ByteArray.mk (Array.mk [102, 105, 101, 108, 100, 115]))])))]) && ((((decide ((List.length xs) ≤ (List.length xs))) && Bool.true) && ((ordB (List.take (List.length xs) xs)) && Bool.true)) && (((defB (List.take (List.length xs) xs)) && Bool.true) && (kr (HR.ret (HV.tup [(HV.d Cd.av (Av.mk (List.take (List.length xs) xs) 0)), (HV.v (Value.int IntKind.i64 0))])) []))))) := by kernel_rfl
theorem run9p (l : List J) (s b : List Int) (xs : List Nd) (es : Es) (fs : List Fld) (kr : KR) : evG Tryz.prog (G35 l s false xs es fs) 9 6 9 [.d (.list (.int .u8)) b, .v (.slice none 0 0)] [] kr = ((sameB b s) && ((schOk l 3 2 [(HV.ptr 3 0), (HV.d Cd.json (J.mk 5 Bool.false (Dec.mk Bool.false (ByteArray.mk (Array.mk [])) 0) (ByteArray.mk (Array.mk [])) [(J.mk 3 Bool.false (Dec.mk Bool.false (ByteArray.mk (Array.mk [])) 0) (ByteArray.mk (Array.mk [114, 101, 99, 111, 114, 100])) [] []), (J.mk 3 Bool.false (Dec.mk Bool.false (ByteArray.mk (Array.mk [])) 0) (ByteArray.mk (Array.mk [82])) [] []), (J.mk 4 Bool.false (Dec.mk Bool.false (ByteArray.mk (Array.mk [])) 0) (ByteArray.mk (Array.mk [])) l [])] [(ByteArray.mk (Array.mk [116, 121, 112, 101])), (ByteArray.mk (Array.mk [110, 97, 109, 101])), (ByteArray.mk (Array.mk [102, 105, 101, 108, 100, 115]))])), (HV.v (Value.string (ByteArray.mk (Array.mk [])))), (HV.v (Value.int IntKind.i64 0))] [(Ob.box 27 (HV.st [(HV.v (Value.slice Option.none 0 0)), (HV.v (Value.int IntKind.i64 0))])), (Ob.box 28 (HV.v (Value.int IntKind.i64 0))), (Ob.map Cd.str (Cd.int IntKind.i64) []), (Ob.box 67 (HV.st [(HV.v (Value.slice Option.none 0 0)), (HV.map 2)])), (Ob.box 43 (HV.d Cd.json (J.mk 5 Bool.false (Dec.mk Bool.false (ByteArray.mk (Array.mk [])) 0) (ByteArray.mk (Array.mk [])) [(J.mk 3 Bool.false (Dec.mk Bool.false (ByteArray.mk (Array.mk [])) 0) (ByteArray.mk (Array.mk [114, 101, 99, 111, 114, 100])) [] []), (J.mk 3 Bool.false (Dec.mk Bool.false (ByteArray.mk (Array.mk [])) 0) (ByteArray.mk (Array.mk [82])) [] []), (J.mk 4 Bool.false (Dec.mk Bool.false (ByteArray.mk (Array.mk [])) 0) (ByteArray.mk (Array.mk [])) l [])] [(ByteArray.mk (Array.mk [116, 121, 112, 101])), (ByteArray.mk (Array.mk [110, 97, 109, 101])), (ByteArray.mk (Array.mk [102, 105, 101, 108, 100, 115]))])))]) && (kr (HR.ret (HV.tup [(HV.d Cd.av (Av.mk [] 0)), (HV.v (Value.int IntKind.i64 190))])) []))) := by kernel_rfl
theorem gamOK35 {w0 : World} (h0 : H4 w0) {n : Nat} (hn : n ≤ 1000) {items : List Item} (hi : ItemsOk n items) {s : List Int}
    (hp : PureDo Tryz.prog H4 24 [.d (.list (.int .u8)) s] (.tup [.d .json (topV (items.map itemJ)), i64 0])) :
    GamOK Tryz.prog w0 (G35 (items.map itemJ) s (decide (items.length ≤ 256)) (nodesOf items) (onces (namesOf items)) (fldsFrom 1 items)) := by
  refine addL_ok (addP_ok (gamOK34 h0) ⟨_, Tryz.func24, rfl⟩ ?_) ?_
  · intro args r h h1
    unfold parseP at h
    split at h
    · cases h
      obtain rfl := of_yes h1
      exact pureAns lasts4 hp rfl rfl h0
    · cases h
  · intro args L F kr hF hk
    unfold schE at hF
    split at hF
    · rename_i r a args'
      split at hF
      · rename_i t x m hr
        cases hF
        simp only [Bool.and_eq_true] at hk
        obtain ⟨hk1, hk2⟩ := hk
        obtain ⟨he, hfoot, hsub⟩ := of_yes hk1
        cases he
        refine does_frame [r, m] [0, 0] hfoot ?_
        rw [hsub]
        have he : rens (subR [r, m] [0, 0]) [.ptr r 0, .d .json (topV (items.map itemJ)), tx [], i64 0] = [.ptr 0 0, .d .json (topV (items.map itemJ)), tx [], i64 0] := by
          simp only [rens, ren, subR, posOf, Nat.beq_refl, cond_true]
          rfl
        rw [he]
        refine do27 h0 hn hi (fun hle => ?_) (fun hgt => ?_)
        · rw [decide_eq_true hle, cond_true] at hk2; exact hk2
        · rw [decide_eq_false (by omega), cond_false] at hk2; exact hk2
      · cases hF
    · cases hF

theorem do9 {n : Nat} (hn : n ≤ 1000) {items : List Item} (hi : ItemsOk n items) (hne : items ≠ []) (hlen : items.length ≤ 256) (hnu : nulls items ≤ 255) {s : List Int}
    (hp : PureDo Tryz.prog H4 24 [.d (.list (.int .u8)) s] (.tup [.d .json (topV (items.map itemJ)), i64 0])) :
    PureDo Tryz.prog H4 9 [.d (.list (.int .u8)) s, .v (.slice none 0 0)] (.tup [.d .av ⟨nodesOf items, 0⟩, i64 0]) := by
  intro w0 kr h0 hkr
  have hG := gamOK35 h0 hn hi hp
  rw [decide_eq_true hlen] at hG
  refine evG_sound progOK catches hG 9 6 9 _ [] kr ?_
  rw [run9]
  have hFa := fldsFrom_all items 1
  have hdef : defB (nodesOf items) = true := by
    refine yes_mk ⟨by unfold nodesOf B42; rw [List.length_cons, List.length_replicate]; omega, fun n hn => ?_⟩
    unfold nodesOf at hn
    rcases List.mem_cons.1 hn with rfl | hn
    · exact ⟨by show (fldsFrom 1 items).length ≤ B42; rw [fldsFrom_length]; unfold B42; omega, fun f hf => (hFa f hf).1⟩
    · obtain rfl := List.eq_of_mem_replicate hn
      exact ⟨Nat.zero_le _, fun f hf => by cases hf⟩
  have hord : ordB (nodesOf items) = true := yes_mk ⟨items, rfl, hne, hlen, hnu⟩
  rw [Bool.and_eq_true, Bool.and_eq_true]
  refine ⟨yes_mk rfl, yes_mk ⟨rfl, rfl, rfl⟩, ?_⟩
  simp only [List.take_length, hdef, hord, Nat.le_refl, decide_true, Bool.true_and]
  exact hkr

theorem do9p {n : Nat} (hn : n ≤ 1000) {items : List Item} (hi : ItemsOk n items) (hlen : 256 < items.length) {s : List Int}
    (hp : PureDo Tryz.prog H4 24 [.d (.list (.int .u8)) s] (.tup [.d .json (topV (items.map itemJ)), i64 0])) :
    PureDo Tryz.prog H4 9 [.d (.list (.int .u8)) s, .v (.slice none 0 0)] (.tup [.d .av ⟨[], 0⟩, i64 190]) := by
  intro w0 kr h0 hkr
  have hG := gamOK35 h0 hn hi hp
  rw [decide_eq_false (by omega)] at hG
  refine evG_sound progOK catches hG 9 6 9 _ [] kr ?_
  rw [run9p, Bool.and_eq_true, Bool.and_eq_true]
  exact ⟨yes_mk rfl, yes_mk ⟨rfl, rfl, rfl⟩, hkr⟩
end Go.Proofs.YtiaeljbnhdhfcaaGreatDoor
