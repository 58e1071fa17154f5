/- avro: meet at the record, ordered. -/
import Derived.Test.YtiaeljbnhdhfcaaGreatDoorP9
namespace Go.Mo
open Go Go.RowKit Go.Lx Go.Proofs.YtiaeljbnhdhfcaaGreatDoor
noncomputable def leafOk (nodes ys : List Nd) (b : Bool) (r v : Nat) (args : List HV) (L : List Ob) : Bool := yes (∃ i : Nat, args = [i64 i, tx [], i64 1, .ptr 0 0, .ptr 3 0, .ptr 1 0, .ptr 4 0] ∧ (b = true → i = 0) ∧ (b = false → nodes[i]? = some ndN ∧ ys.length < 256) ∧ footOk L [0, 1, 2, 3, 4, r] [0, 0, 0, 0, 0, v] = true ∧ subL (subR [0, 1, 2, 3, 4, r] [0, 0, 0, 0, 0, v]) L [0, 1, 2, 3, 4, r] = L55 nodes ys [(0, 0)])
end Go.Mo
namespace Go.Proofs.YtiaeljbnhdhfcaaGreatDoor
open Go Go.RowKit Go.Lx Go.Mo

noncomputable def leafE (nodes : List Nd) (b : Bool) (args : List HV) (L : List Ob) : Option (KR → Bool) := match L with
  | _ :: .box _ (.st [.own .nd r v _, _]) :: _ => (match L[r]? with
    | some (.row .nd _ _ ys) => some fun kr => leafOk nodes ys b r v args L && bif b then kr (.ret (.tup [i64 0, .v (.bool true)])) (putL (supR [0, 1, 2, 3, 4, r] [0, 0, 0, 0, 0, v] L.length) [0, 1, 2, 3, 4, r] [0, 0, 0, 0, 0, v] (L55 nodes ys [(0, 0)]) L) else kr (.ret (.tup [i64 ys.length, .v (.bool true)])) (putL (supR [0, 1, 2, 3, 4, r] [0, 0, 0, 0, 0, v] L.length) [0, 1, 2, 3, 4, r] [0, 0, 0, 0, 0, v] (L55r nodes (ys ++ [ndN]) [(0, 0)]) L)
    | _ => none)
  | _ => none
noncomputable def G29 (nodes : List Nd) (b : Bool) : Gam := addL 55 (leafE nodes b) G28

def L55t (nodes : List Nd) : List Ob := [.box 25 (.d (.list .nd) nodes), .box 27 (.st [.v (.slice none 0 0), i64 0]), .map (.int .i64) (.int .i64) [], .box 100 (.map 2), fn55 0 3 1 4]
theorem g55 (f0 : Fld) (fs : List Fld) (ns : List Nd) (k : KX) : evs G28 6 [pc 55 [0], pc 55 [1, 0], pc 55 [1, 1, 0], pc 55 [1, 1, 1, 0], pc 55 [1, 1, 1, 1, 0], pc 55 [1, 1, 1, 1, 1, 0], pc 55 [1, 1, 1, 1, 1, 1, 0], pc 55 [1, 1, 1, 1, 1, 1, 1, 0], pc 55 [1, 1, 1, 1, 1, 1, 1, 1, 0], pc 55 [1, 1, 1, 1, 1, 1, 1, 1, 1, 0], pc 55 [1, 1, 1, 1, 1, 1, 1, 1, 1, 1, 0]] ⟨argT 0 [i64 0, tx [], i64 0, .ptr 0 0, .ptr 3 0, .ptr 1 0, .ptr 4 0] ⟨166, .nil⟩, L55t (ndR (f0 :: fs) :: ns)⟩ (fun x st => k x (st.keep [1, 2, 5, 6, 10, 11, 12, 16, 17])) = ((decide (0 < ((((List.length ns) + 1) : Nat) : Int))) && ((decide ((((List.length fs) + 1) * 144) ≤ 140737488355328)) && (k HX.normal ⟨slots 166 [(1, (HV.v (Value.string (ByteArray.mk (Array.mk []))))), (2, (HV.v (Value.int IntKind.i64 0))), (5, (HV.ptr 1 0)), (6, (HV.ptr 4 0)), (10, (HV.v (Value.int IntKind.i64 0))), (11, (HV.v (Value.bool Bool.false))), (12, (HV.ptr 5 0)), (16, (HV.v (Value.int IntKind.i64 0))), (17, (HV.own Cd.fld 7 0 ((List.length fs) + (OfNat.ofNat 1))))], [(Ob.box 25 (HV.d (Cd.list Cd.nd) ((Nd.mk 8 (ByteArray.mk (Array.mk [82])) (f0 :: fs) [] Bool.false (ByteArray.mk (Array.mk [])) 0 []) :: ns))), (Ob.box 27 (HV.st [(HV.own Cd.nd 6 0 1), (HV.v (Value.int IntKind.i64 0))])), (Ob.map (Cd.int IntKind.i64) (Cd.int IntKind.i64) [(Prod.mk 0 0)]), (Ob.box 100 (HV.map 2)), (Ob.box 101 (HV.fn 55 [] [(HV.ptr 0 0), (HV.ptr 3 0), (HV.ptr 1 0), (HV.ptr 4 0)])), (Ob.box 37 (HV.d Cd.nd (Nd.mk 8 (ByteArray.mk (Array.mk [82])) (f0 :: fs) [] Bool.false (ByteArray.mk (Array.mk [])) 0 []))), (Ob.row Cd.nd 0 0 [(Nd.mk 8 (ByteArray.mk (Array.mk [82])) (f0 :: fs) [] Bool.false (ByteArray.mk (Array.mk [])) 0 [])]), (Ob.row Cd.fld 0 0 (f0 :: fs))]⟩))) := by kernel_rfl
def tm55t (n i : Nat) : Tm := slots 166 [(1, tx []), (2, i64 0), (5, .ptr 1 0), (6, .ptr 4 0), (10, i64 0), (11, .v (.bool false)), (12, .ptr 5 0), (16, i64 0), (17, .own .fld 7 0 n), (93, i64 n), (94, i64 i)]
def L55u (nodes ys : List Nd) (w : Nat) (fs : List Fld) (n0 : Nd) : List Ob := [.box 25 (.d (.list .nd) nodes), boxS 6 w ys.length, .map (.int .i64) (.int .i64) [(0, 0)], .box 100 (.map 2), fn55 0 3 1 4, .box 37 (.d .nd n0), .row .nd w 0 ys, .row .fld 0 0 fs]
def st55 (nodes ys : List Nd) (fs : List Fld) (n0 : Nd) (i : Nat) : St := ⟨tm55t fs.length i, L55u nodes ys 0 fs n0⟩
theorem h55 (nodes ys : List Nd) (fs : List Fld) (n0 : Nd) (k : KX) : evs G28 6 [pc 55 [1, 1, 1, 1, 1, 1, 1, 1, 1, 1, 1, 0, 0]] ⟨slots 166 [(1, tx []), (2, i64 0), (5, .ptr 1 0), (6, .ptr 4 0), (10, i64 0), (11, .v (.bool false)), (12, .ptr 5 0), (16, i64 0), (17, .own .fld 7 0 fs.length)], L55u nodes ys 0 fs n0⟩ (fun x st => k x (st.keep [1, 2, 5, 6, 10, 11, 12, 16, 17, 93, 94])) = (k HX.normal ⟨slots 166 [(1, (HV.v (Value.string (ByteArray.mk (Array.mk []))))), (2, (HV.v (Value.int IntKind.i64 0))), (5, (HV.ptr 1 0)), (6, (HV.ptr 4 0)), (10, (HV.v (Value.int IntKind.i64 0))), (11, (HV.v (Value.bool Bool.false))), (12, (HV.ptr 5 0)), (16, (HV.v (Value.int IntKind.i64 0))), (17, (HV.own Cd.fld 7 0 (List.length fs))), (93, (HV.v (Value.int IntKind.i64 (((List.length fs) : Nat) : Int)))), (94, (HV.v (Value.int IntKind.i64 0)))], [(Ob.box 25 (HV.d (Cd.list Cd.nd) nodes)), (Ob.box 27 (HV.st [(HV.own Cd.nd 6 0 (List.length ys)), (HV.v (Value.int IntKind.i64 0))])), (Ob.map (Cd.int IntKind.i64) (Cd.int IntKind.i64) [(Prod.mk 0 0)]), (Ob.box 100 (HV.map 2)), (Ob.box 101 (HV.fn 55 [] [(HV.ptr 0 0), (HV.ptr 3 0), (HV.ptr 1 0), (HV.ptr 4 0)])), (Ob.box 37 (HV.d Cd.nd n0)), (Ob.row Cd.nd 0 0 ys), (Ob.row Cd.fld 0 0 fs)]⟩) := by kernel_rfl
theorem i55 (nodes ys : List Nd) (fs : List Fld) (n0 : Nd) (i : Nat) (k : KX) : evs G28 6 [pc 55 [1, 1, 1, 1, 1, 1, 1, 1, 1, 1, 1, 0, 1, 0, 0, 0], pc 55 [1, 1, 1, 1, 1, 1, 1, 1, 1, 1, 1, 0, 1, 0, 0, 1, 0]] (st55 nodes ys fs n0 i) (fun x st => k x (st.keep [1, 2, 5, 6, 10, 11, 12, 16, 17, 93, 94])) = (bif (ltI ((i : Nat) : Int) (((List.length fs) : Nat) : Int)) then (k HX.normal ⟨slots 166 [(1, (HV.v (Value.string (ByteArray.mk (Array.mk []))))), (2, (HV.v (Value.int IntKind.i64 0))), (5, (HV.ptr 1 0)), (6, (HV.ptr 4 0)), (10, (HV.v (Value.int IntKind.i64 0))), (11, (HV.v (Value.bool Bool.false))), (12, (HV.ptr 5 0)), (16, (HV.v (Value.int IntKind.i64 0))), (17, (HV.own Cd.fld 7 0 (List.length fs))), (93, (HV.v (Value.int IntKind.i64 (((List.length fs) : Nat) : Int)))), (94, (HV.v (Value.int IntKind.i64 ((i : Nat) : Int))))], [(Ob.box 25 (HV.d (Cd.list Cd.nd) nodes)), (Ob.box 27 (HV.st [(HV.own Cd.nd 6 0 (List.length ys)), (HV.v (Value.int IntKind.i64 0))])), (Ob.map (Cd.int IntKind.i64) (Cd.int IntKind.i64) [(Prod.mk 0 0)]), (Ob.box 100 (HV.map 2)), (Ob.box 101 (HV.fn 55 [] [(HV.ptr 0 0), (HV.ptr 3 0), (HV.ptr 1 0), (HV.ptr 4 0)])), (Ob.box 37 (HV.d Cd.nd n0)), (Ob.row Cd.nd 0 0 ys), (Ob.row Cd.fld 0 0 fs)]⟩) else (k (HX.exit 0) ⟨slots 166 [(1, (HV.v (Value.string (ByteArray.mk (Array.mk []))))), (2, (HV.v (Value.int IntKind.i64 0))), (5, (HV.ptr 1 0)), (6, (HV.ptr 4 0)), (10, (HV.v (Value.int IntKind.i64 0))), (11, (HV.v (Value.bool Bool.false))), (12, (HV.ptr 5 0)), (16, (HV.v (Value.int IntKind.i64 0))), (17, (HV.own Cd.fld 7 0 (List.length fs))), (93, (HV.v (Value.int IntKind.i64 (((List.length fs) : Nat) : Int)))), (94, (HV.v (Value.int IntKind.i64 ((i : Nat) : Int))))], [(Ob.box 25 (HV.d (Cd.list Cd.nd) nodes)), (Ob.box 27 (HV.st [(HV.own Cd.nd 6 0 (List.length ys)), (HV.v (Value.int IntKind.i64 0))])), (Ob.map (Cd.int IntKind.i64) (Cd.int IntKind.i64) [(Prod.mk 0 0)]), (Ob.box 100 (HV.map 2)), (Ob.box 101 (HV.fn 55 [] [(HV.ptr 0 0), (HV.ptr 3 0), (HV.ptr 1 0), (HV.ptr 4 0)])), (Ob.box 37 (HV.d Cd.nd n0)), (Ob.row Cd.nd 0 0 ys), (Ob.row Cd.fld 0 0 fs)]⟩)) := by kernel_rfl
theorem j55 (nodes ys : List Nd) (fs : List Fld) (n0 : Nd) (i : Nat) (b : Bool) (k : KX) : evs (G29 nodes b) 6 [pc 55 [1, 1, 1, 1, 1, 1, 1, 1, 1, 1, 1, 0, 1, 0, 0, 1, 1, 0, 0, 0], pc 55 [1, 1, 1, 1, 1, 1, 1, 1, 1, 1, 1, 0, 1, 0, 0, 1, 1, 0, 0, 1, 0], pc 55 [1, 1, 1, 1, 1, 1, 1, 1, 1, 1, 1, 0, 1, 0, 0, 1, 1, 0, 0, 1, 1, 0]] (st55 nodes ys fs n0 i) (fun x st => k x (st.keep [1, 2, 5, 6, 10, 11, 12, 16, 17, 18, 19, 93, 94])) = (((decide (((i : Nat) : Int) < (((List.length fs) : Nat) : Int))) && (decide ((List.length fs) ≤ (List.length fs)))) && (((decide ((Int.toNat ((i : Nat) : Int)) < (List.length fs))) && Bool.true) && (((leafOk nodes ys b 6 0 [(HV.v (Value.int IntKind.i64 (Fld.type (List.getD fs (Int.toNat ((i : Nat) : Int)) (Fld.mk (ByteArray.mk (Array.mk [])) 0 Bool.false (J.mk 0 Bool.false (Dec.mk Bool.false (ByteArray.mk (Array.mk [])) 0) (ByteArray.mk (Array.mk [])) [] [])))))), (HV.v (Value.string (ByteArray.mk (Array.mk [])))), (HV.v (Value.int IntKind.i64 1)), (HV.ptr 0 0), (HV.ptr 3 0), (HV.ptr 1 0), (HV.ptr 4 0)] [(Ob.box 25 (HV.d (Cd.list Cd.nd) nodes)), (Ob.box 27 (HV.st [(HV.own Cd.nd 6 0 (List.length ys)), (HV.v (Value.int IntKind.i64 0))])), (Ob.map (Cd.int IntKind.i64) (Cd.int IntKind.i64) [(Prod.mk 0 0)]), (Ob.box 100 (HV.map 2)), (Ob.box 101 (HV.fn 55 [] [(HV.ptr 0 0), (HV.ptr 3 0), (HV.ptr 1 0), (HV.ptr 4 0)])), (Ob.box 37 (HV.d Cd.nd n0)), (Ob.row Cd.nd 0 0 ys), (Ob.row Cd.fld 0 0 fs)]) && (bif b then (k HX.normal ⟨slots 166 [(1, (HV.v (Value.string (ByteArray.mk (Array.mk []))))), (2, (HV.v (Value.int IntKind.i64 0))), (5, (HV.ptr 1 0)), (6, (HV.ptr 4 0)), (10, (HV.v (Value.int IntKind.i64 0))), (11, (HV.v (Value.bool Bool.false))), (12, (HV.ptr 5 0)), (16, (HV.v (Value.int IntKind.i64 0))), (17, (HV.own Cd.fld 7 0 (List.length fs))), (18, (HV.v (Value.int IntKind.i64 ((i : Nat) : Int)))), (19, (HV.v (Value.int IntKind.i64 0))), (93, (HV.v (Value.int IntKind.i64 (((List.length fs) : Nat) : Int)))), (94, (HV.v (Value.int IntKind.i64 ((i : Nat) : Int))))], [(Ob.box 25 (HV.d (Cd.list Cd.nd) nodes)), (Ob.box 27 (HV.st [(HV.own Cd.nd 6 0 (List.length ys)), (HV.v (Value.int IntKind.i64 0))])), (Ob.map (Cd.int IntKind.i64) (Cd.int IntKind.i64) [(Prod.mk 0 0)]), (Ob.box 100 (HV.map 2)), (Ob.box 101 (HV.fn 55 [] [(HV.ptr 0 0), (HV.ptr 3 0), (HV.ptr 1 0), (HV.ptr 4 0)])), (Ob.box 37 (HV.d Cd.nd n0)), (Ob.row Cd.nd 0 0 ys), (Ob.row Cd.fld 0 0 fs)]⟩) else (k HX.normal ⟨slots 166 [(1, (HV.v (Value.string (ByteArray.mk (Array.mk []))))), (2, (HV.v (Value.int IntKind.i64 0))), (5, (HV.ptr 1 0)), (6, (HV.ptr 4 0)), (10, (HV.v (Value.int IntKind.i64 0))), (11, (HV.v (Value.bool Bool.false))), (12, (HV.ptr 5 0)), (16, (HV.v (Value.int IntKind.i64 0))), (17, (HV.own Cd.fld 7 0 (List.length fs))), (18, (HV.v (Value.int IntKind.i64 ((i : Nat) : Int)))), (19, (HV.v (Value.int IntKind.i64 (((List.length ys) : Nat) : Int)))), (93, (HV.v (Value.int IntKind.i64 (((List.length fs) : Nat) : Int)))), (94, (HV.v (Value.int IntKind.i64 ((i : Nat) : Int))))], [(Ob.box 25 (HV.d (Cd.list Cd.nd) nodes)), (Ob.box 27 (HV.st [(HV.own Cd.nd 6 1 (List.length (ys ++ [(Nd.mk 0 (ByteArray.mk (Array.mk [])) [] [] Bool.false (ByteArray.mk (Array.mk [])) 0 [])]))), (HV.v (Value.int IntKind.i64 0))])), (Ob.map (Cd.int IntKind.i64) (Cd.int IntKind.i64) [(Prod.mk 0 0)]), (Ob.box 100 (HV.map 2)), (Ob.box 101 (HV.fn 55 [] [(HV.ptr 0 0), (HV.ptr 3 0), (HV.ptr 1 0), (HV.ptr 4 0)])), (Ob.box 37 (HV.d Cd.nd n0)), (Ob.row Cd.nd 1 0 (ys ++ [(Nd.mk 0 (ByteArray.mk (Array.mk [])) [] [] Bool.false (ByteArray.mk (Array.mk [])) 0 [])])), (Ob.row Cd.fld 0 0 fs)]⟩))) && Bool.true))) := by kernel_rfl
theorem k55 (nodes ys : List Nd) (fs : List Fld) (n0 : Nd) (i m w : Nat) (k : KX) : evd G28 6 (pc 55 [1, 1, 1, 1, 1, 1, 1, 1, 1, 1, 1, 0, 1, 0, 0, 1, 1, 0, 0, 1, 1, 1]) ⟨slots 166 [(1, tx []), (2, i64 0), (5, .ptr 1 0), (6, .ptr 4 0), (10, i64 0), (11, .v (.bool false)), (12, .ptr 5 0), (16, i64 0), (17, .own .fld 7 0 fs.length), (18, i64 i), (19, i64 m), (93, i64 fs.length), (94, i64 i)], L55u nodes ys w fs n0⟩ (fun x st => k x (st.keep [1, 2, 5, 6, 10, 11, 12, 16, 17, 93, 94])) = (((decide (((i : Nat) : Int) < (((List.length fs) : Nat) : Int))) && (decide ((List.length fs) ≤ (List.length fs)))) && ((((((decide ((Int.toNat ((i : Nat) : Int)) < (List.length fs))) && Bool.true) && Bool.true) && Bool.true) && Bool.true) && (k HX.normal ⟨slots 166 [(1, (HV.v (Value.string (ByteArray.mk (Array.mk []))))), (2, (HV.v (Value.int IntKind.i64 0))), (5, (HV.ptr 1 0)), (6, (HV.ptr 4 0)), (10, (HV.v (Value.int IntKind.i64 0))), (11, (HV.v (Value.bool Bool.false))), (12, (HV.ptr 5 0)), (16, (HV.v (Value.int IntKind.i64 0))), (17, (HV.own Cd.fld 7 0 (List.length fs))), (93, (HV.v (Value.int IntKind.i64 (((List.length fs) : Nat) : Int)))), (94, (HV.v (Value.int IntKind.i64 ((i : Nat) : Int))))], [(Ob.box 25 (HV.d (Cd.list Cd.nd) nodes)), (Ob.box 27 (HV.st [(HV.own Cd.nd 6 w (List.length ys)), (HV.v (Value.int IntKind.i64 0))])), (Ob.map (Cd.int IntKind.i64) (Cd.int IntKind.i64) [(Prod.mk 0 0)]), (Ob.box 100 (HV.map 2)), (Ob.box 101 (HV.fn 55 [] [(HV.ptr 0 0), (HV.ptr 3 0), (HV.ptr 1 0), (HV.ptr 4 0)])), (Ob.box 37 (HV.d Cd.nd n0)), (Ob.row Cd.nd w 0 ys), (Ob.row Cd.fld 0 0 (List.set fs (Int.toNat ((i : Nat) : Int)) (Fld.mk (Fld.name (List.getD fs (Int.toNat ((i : Nat) : Int)) (Fld.mk (ByteArray.mk (Array.mk [])) 0 Bool.false (J.mk 0 Bool.false (Dec.mk Bool.false (ByteArray.mk (Array.mk [])) 0) (ByteArray.mk (Array.mk [])) [] [])))) ((m : Nat) : Int) (Fld.has (List.getD fs (Int.toNat ((i : Nat) : Int)) (Fld.mk (ByteArray.mk (Array.mk [])) 0 Bool.false (J.mk 0 Bool.false (Dec.mk Bool.false (ByteArray.mk (Array.mk [])) 0) (ByteArray.mk (Array.mk [])) [] [])))) (Fld.dflt (List.getD fs (Int.toNat ((i : Nat) : Int)) (Fld.mk (ByteArray.mk (Array.mk [])) 0 Bool.false (J.mk 0 Bool.false (Dec.mk Bool.false (ByteArray.mk (Array.mk [])) 0) (ByteArray.mk (Array.mk [])) [] [])))))))]⟩))) := by kernel_rfl
theorem l55 (nodes ys : List Nd) (fs : List Fld) (n0 : Nd) (i w : Nat) (k : KX) : evd G28 6 (pc 55 [1, 1, 1, 1, 1, 1, 1, 1, 1, 1, 1, 0, 1, 0, 0, 1, 1, 1]) ⟨tm55t fs.length i, L55u nodes ys w fs n0⟩ (fun x st => k x (st.keep [1, 2, 5, 6, 10, 11, 12, 16, 17, 93, 94])) = (k HX.normal ⟨slots 166 [(1, (HV.v (Value.string (ByteArray.mk (Array.mk []))))), (2, (HV.v (Value.int IntKind.i64 0))), (5, (HV.ptr 1 0)), (6, (HV.ptr 4 0)), (10, (HV.v (Value.int IntKind.i64 0))), (11, (HV.v (Value.bool Bool.false))), (12, (HV.ptr 5 0)), (16, (HV.v (Value.int IntKind.i64 0))), (17, (HV.own Cd.fld 7 0 (List.length fs))), (93, (HV.v (Value.int IntKind.i64 (((List.length fs) : Nat) : Int)))), (94, (HV.v (Value.int IntKind.i64 (fwrap IntKind.i64 (((i : Nat) : Int) + 1)))))], [(Ob.box 25 (HV.d (Cd.list Cd.nd) nodes)), (Ob.box 27 (HV.st [(HV.own Cd.nd 6 w (List.length ys)), (HV.v (Value.int IntKind.i64 0))])), (Ob.map (Cd.int IntKind.i64) (Cd.int IntKind.i64) [(Prod.mk 0 0)]), (Ob.box 100 (HV.map 2)), (Ob.box 101 (HV.fn 55 [] [(HV.ptr 0 0), (HV.ptr 3 0), (HV.ptr 1 0), (HV.ptr 4 0)])), (Ob.box 37 (HV.d Cd.nd n0)), (Ob.row Cd.nd w 0 ys), (Ob.row Cd.fld 0 0 fs)]⟩) := by kernel_rfl
theorem code55t : Tryz.f55.body = some (seqs [pc 55 [0], pc 55 [1, 0], pc 55 [1, 1, 0], pc 55 [1, 1, 1, 0], pc 55 [1, 1, 1, 1, 0], pc 55 [1, 1, 1, 1, 1, 0], pc 55 [1, 1, 1, 1, 1, 1, 0], pc 55 [1, 1, 1, 1, 1, 1, 1, 0], pc 55 [1, 1, 1, 1, 1, 1, 1, 1, 0], pc 55 [1, 1, 1, 1, 1, 1, 1, 1, 1, 0], pc 55 [1, 1, 1, 1, 1, 1, 1, 1, 1, 1, 0]] (.seq (seqs [pc 55 [1, 1, 1, 1, 1, 1, 1, 1, 1, 1, 1, 0, 0]] (.block 0 (.loop (pc 55 [1, 1, 1, 1, 1, 1, 1, 1, 1, 1, 1, 0, 1, 0, 0])))) (seqs [pc 55 [1, 1, 1, 1, 1, 1, 1, 1, 1, 1, 1, 1, 0], pc 55 [1, 1, 1, 1, 1, 1, 1, 1, 1, 1, 1, 1, 1, 0]] (seqs [pc 55 [1, 1, 1, 1, 1, 1, 1, 1, 1, 1, 1, 1, 1, 1, 0]] (seqs [pc 55 [1, 1, 1, 1, 1, 1, 1, 1, 1, 1, 1, 1, 1, 1, 1, 0]] (pc 55 [1, 1, 1, 1, 1, 1, 1, 1, 1, 1, 1, 1, 1, 1, 1, 1])))))) := by kernel_rfl
theorem code55u : pc 55 [1, 1, 1, 1, 1, 1, 1, 1, 1, 1, 1, 0, 1, 0, 0] = seqs [pc 55 [1, 1, 1, 1, 1, 1, 1, 1, 1, 1, 1, 0, 1, 0, 0, 0], pc 55 [1, 1, 1, 1, 1, 1, 1, 1, 1, 1, 1, 0, 1, 0, 0, 1, 0]] (.seq (.block 1 (seqs [pc 55 [1, 1, 1, 1, 1, 1, 1, 1, 1, 1, 1, 0, 1, 0, 0, 1, 1, 0, 0, 0], pc 55 [1, 1, 1, 1, 1, 1, 1, 1, 1, 1, 1, 0, 1, 0, 0, 1, 1, 0, 0, 1, 0], pc 55 [1, 1, 1, 1, 1, 1, 1, 1, 1, 1, 1, 0, 1, 0, 0, 1, 1, 0, 0, 1, 1, 0]] (pc 55 [1, 1, 1, 1, 1, 1, 1, 1, 1, 1, 1, 0, 1, 0, 0, 1, 1, 0, 0, 1, 1, 1]))) (pc 55 [1, 1, 1, 1, 1, 1, 1, 1, 1, 1, 1, 0, 1, 0, 0, 1, 1, 1])) := by kernel_rfl
def L55v (nodes ys : List Nd) (fp : Nat) (fs : List Fld) (n0 : Nd) : List Ob := [.box 25 (.d (.list .nd) nodes), boxS 6 0 ys.length, .map (.int .i64) (.int .i64) [(0, 0)], .box 100 (.map 2), fn55 0 3 1 4, .box 37 (.d .nd n0), .row .nd 0 0 ys, .row .fld 0 fp fs, .row (.int .i64) 0 0 []]
theorem m55 (nodes ys : List Nd) (fs : List Fld) (i : Nat) (k : KX) : evs G28 6 [pc 55 [1, 1, 1, 1, 1, 1, 1, 1, 1, 1, 1, 1, 0], pc 55 [1, 1, 1, 1, 1, 1, 1, 1, 1, 1, 1, 1, 1, 0]] ⟨tm55t fs.length i, L55u nodes ys 0 fs (ndR fs)⟩ (fun x st => k x (st.keep [5, 10, 11, 12, 16, 17, 21])) = (k HX.normal ⟨slots 166 [(5, (HV.ptr 1 0)), (10, (HV.v (Value.int IntKind.i64 0))), (11, (HV.v (Value.bool Bool.false))), (12, (HV.ptr 5 0)), (16, (HV.v (Value.int IntKind.i64 0))), (17, (HV.own Cd.fld 7 0 (List.length fs))), (21, (HV.own (Cd.int IntKind.i64) 8 0 0))], [(Ob.box 25 (HV.d (Cd.list Cd.nd) nodes)), (Ob.box 27 (HV.st [(HV.own Cd.nd 6 0 (List.length ys)), (HV.v (Value.int IntKind.i64 0))])), (Ob.map (Cd.int IntKind.i64) (Cd.int IntKind.i64) [(Prod.mk 0 0)]), (Ob.box 100 (HV.map 2)), (Ob.box 101 (HV.fn 55 [] [(HV.ptr 0 0), (HV.ptr 3 0), (HV.ptr 1 0), (HV.ptr 4 0)])), (Ob.box 37 (HV.d Cd.nd (Nd.mk 8 (ByteArray.mk (Array.mk [82])) fs [] Bool.false (ByteArray.mk (Array.mk [])) 0 []))), (Ob.row Cd.nd 0 0 ys), (Ob.row Cd.fld 0 0 fs), (Ob.row (Cd.int IntKind.i64) 0 0 [])]⟩) := by kernel_rfl
theorem n55 (nodes ns : List Nd) (n1 : Nd) (fs : List Fld) (k : KX) : evs G28 6 [pc 55 [1, 1, 1, 1, 1, 1, 1, 1, 1, 1, 1, 1, 1, 1, 0]] ⟨slots 166 [(5, .ptr 1 0), (10, i64 0), (11, .v (.bool false)), (12, .ptr 5 0), (16, i64 0), (17, .own .fld 7 0 fs.length), (21, .own (.int .i64) 8 0 0)], L55v nodes (n1 :: ns) 0 fs (ndR fs)⟩ (fun x st => k x (st.keep [5, 10, 11, 12, 16])) = (((decide (0 < ((((List.length ns) + 1) : Nat) : Int))) && (decide (((List.length ns) + (OfNat.ofNat 1)) ≤ ((List.length ns) + (OfNat.ofNat 1))))) && (((((((((decide ((List.length fs) ≤ (List.length fs))) && Bool.true) && Bool.true) && Bool.true) && Bool.true) && Bool.true) && Bool.true) && (((Nat.beq ((List.length ns) + 1) ((List.length ns) + 1)) && Bool.true) && (((decide (0 < ((((List.length ns) + 1) : Nat) : Int))) && (decide (((List.length ns) + (OfNat.ofNat 1)) ≤ ((List.length ns) + (OfNat.ofNat 1))))) && (k HX.normal ⟨slots 166 [(5, (HV.ptr 1 0)), (10, (HV.v (Value.int IntKind.i64 0))), (11, (HV.v (Value.bool Bool.false))), (12, (HV.ptr 5 0)), (16, (HV.v (Value.int IntKind.i64 0)))], [(Ob.box 25 (HV.d (Cd.list Cd.nd) nodes)), (Ob.box 27 (HV.st [(HV.own Cd.nd 6 0 ((List.length ns) + (OfNat.ofNat 1))), (HV.v (Value.int IntKind.i64 0))])), (Ob.map (Cd.int IntKind.i64) (Cd.int IntKind.i64) [(Prod.mk 0 0)]), (Ob.box 100 (HV.map 2)), (Ob.box 101 (HV.fn 55 [] [(HV.ptr 0 0), (HV.ptr 3 0), (HV.ptr 1 0), (HV.ptr 4 0)])), (Ob.box 37 (HV.d Cd.nd (Nd.mk 8 (ByteArray.mk (Array.mk [82])) fs [] Bool.false (ByteArray.mk (Array.mk [])) 0 []))), (Ob.row Cd.nd 0 0 ((Nd.mk (Nd.kind n1) (Nd.name n1) (List.take (List.length fs) fs) (Nd.symbols n1) (Nd.has n1) (Nd.dflt n1) (Nd.size n1) []) :: ns)), (Ob.row Cd.fld 0 (Max.max 0 (List.length fs)) fs), (Ob.row (Cd.int IntKind.i64) 0 0 [])]⟩)))) && Bool.true)) := by kernel_rfl
theorem o55 (nodes ns : List Nd) (n1 : Nd) (fp : Nat) (fs : List Fld) (k : KX) : evs G28 6 [pc 55 [1, 1, 1, 1, 1, 1, 1, 1, 1, 1, 1, 1, 1, 1, 1, 0]] ⟨slots 166 [(5, .ptr 1 0), (10, i64 0), (11, .v (.bool false)), (12, .ptr 5 0), (16, i64 0)], L55v nodes (n1 :: ns) fp fs (ndR fs)⟩ (fun x st => k x (st.keep [10, 11, 16])) = ((((Nat.beq ((List.length ns) + 1) ((List.length ns) + 1)) && Bool.true) && (((decide (0 < ((((List.length ns) + 1) : Nat) : Int))) && (decide (((List.length ns) + (OfNat.ofNat 1)) ≤ ((List.length ns) + (OfNat.ofNat 1))))) && (k HX.normal ⟨slots 166 [(10, (HV.v (Value.int IntKind.i64 0))), (11, (HV.v (Value.bool Bool.false))), (16, (HV.v (Value.int IntKind.i64 0)))], [(Ob.box 25 (HV.d (Cd.list Cd.nd) nodes)), (Ob.box 27 (HV.st [(HV.own Cd.nd 6 0 ((List.length ns) + (OfNat.ofNat 1))), (HV.v (Value.int IntKind.i64 0))])), (Ob.map (Cd.int IntKind.i64) (Cd.int IntKind.i64) [(Prod.mk 0 0)]), (Ob.box 100 (HV.map 2)), (Ob.box 101 (HV.fn 55 [] [(HV.ptr 0 0), (HV.ptr 3 0), (HV.ptr 1 0), (HV.ptr 4 0)])), (Ob.box 37 (HV.d Cd.nd (Nd.mk 8 (ByteArray.mk (Array.mk [82])) fs [] Bool.false (ByteArray.mk (Array.mk [])) 0 []))), (Ob.row Cd.nd 0 0 ((Nd.mk (Nd.kind n1) (Nd.name n1) (Nd.fields n1) [] (Nd.has n1) (Nd.dflt n1) (Nd.size n1) (Nd.kids n1)) :: ns)), (Ob.row Cd.fld 0 fp fs), (Ob.row (Cd.int IntKind.i64) 0 0 []), (Ob.row Cd.str 0 0 [])]⟩))) && Bool.true) := by kernel_rfl
theorem p55 (nodes ys : List Nd) (fp : Nat) (fs : List Fld) (k : KX) : evd G28 6 (pc 55 [1, 1, 1, 1, 1, 1, 1, 1, 1, 1, 1, 1, 1, 1, 1, 1]) ⟨slots 166 [(10, i64 0), (11, .v (.bool false)), (16, i64 0)], L55v nodes ys fp fs (ndR fs) ++ [.row .str 0 0 []]⟩ (fun x st => k x (st.keep [10, 11])) = (k HX.ret ⟨slots 166 [(10, (HV.v (Value.int IntKind.i64 0))), (11, (HV.v (Value.bool Bool.true)))], [(Ob.box 25 (HV.d (Cd.list Cd.nd) nodes)), (Ob.box 27 (HV.st [(HV.own Cd.nd 6 0 (List.length ys)), (HV.v (Value.int IntKind.i64 0))])), (Ob.map (Cd.int IntKind.i64) (Cd.int IntKind.i64) [(Prod.mk 0 0)]), (Ob.box 100 (HV.map 2)), (Ob.box 101 (HV.fn 55 [] [(HV.ptr 0 0), (HV.ptr 3 0), (HV.ptr 1 0), (HV.ptr 4 0)])), (Ob.box 37 (HV.d Cd.nd (Nd.mk 8 (ByteArray.mk (Array.mk [82])) fs [] Bool.false (ByteArray.mk (Array.mk [])) 0 []))), (Ob.row Cd.nd 0 0 ys), (Ob.row Cd.fld 0 fp fs), (Ob.row (Cd.int IntKind.i64) 0 0 []), (Ob.row Cd.str 0 0 [])]⟩) := by kernel_rfl
theorem q55 (nodes ys : List Nd) (fp : Nat) (fs : List Fld) (kr : KR) : finK Tryz.prog Tryz.f55 (L55t nodes) kr ⟨slots 166 [(10, i64 0), (11, .v (.bool true))], L55v nodes ys fp fs (ndR fs) ++ [.row .str 0 0 []]⟩ = (kr (HR.ret (HV.tup [(HV.v (Value.int IntKind.i64 0)), (HV.v (Value.bool Bool.true))])) [(Ob.box 25 (HV.d (Cd.list Cd.nd) nodes)), (Ob.box 27 (HV.st [(HV.own Cd.nd 6 0 (List.length ys)), (HV.v (Value.int IntKind.i64 0))])), (Ob.map (Cd.int IntKind.i64) (Cd.int IntKind.i64) [(Prod.mk 0 0)]), (Ob.box 100 (HV.map 2)), (Ob.box 101 (HV.fn 55 [] [(HV.ptr 0 0), (HV.ptr 3 0), (HV.ptr 1 0), (HV.ptr 4 0)])), (Ob.box 37 (HV.d Cd.nd (Nd.mk 8 (ByteArray.mk (Array.mk [82])) fs [] Bool.false (ByteArray.mk (Array.mk [])) 0 []))), (Ob.row Cd.nd 0 0 ys), (Ob.row Cd.fld 0 fp fs), (Ob.row (Cd.int IntKind.i64) 0 0 []), (Ob.row Cd.str 0 0 [])]) := by kernel_rfl
theorem r55 (ns ys : List Nd) (fs : List Fld) (k : KX) : evd G28 6 (pc 55 []) ⟨argT 0 [i64 0, tx [], i64 1, .ptr 0 0, .ptr 3 0, .ptr 1 0, .ptr 4 0] ⟨166, .nil⟩, L55 (ndR fs :: ns) ys [(0, 0)]⟩ (fun x st => k x (st.keep [10, 11])) = ((decide (0 < ((((List.length ns) + 1) : Nat) : Int))) && (k HX.ret ⟨slots 166 [(10, (HV.v (Value.int IntKind.i64 0))), (11, (HV.v (Value.bool Bool.true)))], [(Ob.box 25 (HV.d (Cd.list Cd.nd) ((Nd.mk 8 (ByteArray.mk (Array.mk [82])) fs [] Bool.false (ByteArray.mk (Array.mk [])) 0 []) :: ns))), (Ob.box 27 (HV.st [(HV.own Cd.nd 5 0 (List.length ys)), (HV.v (Value.int IntKind.i64 0))])), (Ob.map (Cd.int IntKind.i64) (Cd.int IntKind.i64) [(Prod.mk 0 0)]), (Ob.box 100 (HV.map 2)), (Ob.box 101 (HV.fn 55 [] [(HV.ptr 0 0), (HV.ptr 3 0), (HV.ptr 1 0), (HV.ptr 4 0)])), (Ob.row Cd.nd 0 0 ys), (Ob.box 37 (HV.d Cd.nd (Nd.mk 8 (ByteArray.mk (Array.mk [82])) fs [] Bool.false (ByteArray.mk (Array.mk [])) 0 [])))]⟩)) := by kernel_rfl
theorem s55 (ns ys : List Nd) (fs : List Fld) (kr : KR) : finK Tryz.prog Tryz.f55 (L55 (ndR fs :: ns) ys [(0, 0)]) kr ⟨slots 166 [(10, i64 0), (11, .v (.bool true))], L55 (ndR fs :: ns) ys [(0, 0)] ++ [.box 37 (.d .nd (ndR fs))]⟩ = (kr (HR.ret (HV.tup [(HV.v (Value.int IntKind.i64 0)), (HV.v (Value.bool Bool.true))])) [(Ob.box 25 (HV.d (Cd.list Cd.nd) ((Nd.mk 8 (ByteArray.mk (Array.mk [82])) fs [] Bool.false (ByteArray.mk (Array.mk [])) 0 []) :: ns))), (Ob.box 27 (HV.st [(HV.own Cd.nd 5 0 (List.length ys)), (HV.v (Value.int IntKind.i64 0))])), (Ob.map (Cd.int IntKind.i64) (Cd.int IntKind.i64) [(Prod.mk 0 0)]), (Ob.box 100 (HV.map 2)), (Ob.box 101 (HV.fn 55 [] [(HV.ptr 0 0), (HV.ptr 3 0), (HV.ptr 1 0), (HV.ptr 4 0)])), (Ob.row Cd.nd 0 0 ys)]) := by kernel_rfl
theorem code55r : Tryz.f55.body = some (pc 55 []) := by kernel_rfl
theorem vw55a (nodes ys : List Nd) (fs : List Fld) (n0 : Nd) (n i : Nat) : vw [] 8 ⟨tm55t n i, L55u nodes ys 0 fs n0⟩ = ⟨tm55t n i, L55u nodes ys 0 fs n0⟩ := by kernel_rfl
theorem vw55b (nodes ys : List Nd) (fs : List Fld) (n0 : Nd) (n i : Nat) : vw [(6, 1, 0)] 8 ⟨tm55t n i, L55u nodes ys 1 fs n0⟩ = ⟨tm55t n i, L55u nodes ys 0 fs n0⟩ := by kernel_rfl

theorem fin_cast {P : Program} {fn : Func} {L : List Ob} {kr : KR} {st st' : St} (e : st = st') (h : finK P fn L kr st' = true) : finK P fn L kr st = true := by rw [e]; exact h

theorem do55r {w0 : World} (h0 : H4 w0) {ns ys : List Nd} {fs : List Fld} {kr : KR} (hk : kr (.ret (.tup [i64 0, .v (.bool true)])) (L55 (ndR fs :: ns) ys [(0, 0)]) = true) :
    Does Tryz.prog w0 55 [i64 0, tx [], i64 1, .ptr 0 0, .ptr 3 0, .ptr 1 0, .ptr 4 0] (L55 (ndR fs :: ns) ys [(0, 0)]) kr := by
  have hG := gamOK28 h0
  refine does_wpA Tryz.func55 code55r (n := 166) (by kernel_rfl) ?_
  refine (evd_ok hG [10, 11] (r55 ns ys fs) ?_).wpA
  simp only [decide_eq_true (show (0 : Int) < ((ns.length + 1 : Nat) : Int) by omega), Bool.true_and]
  refine yes_mk ?_
  refine fin_cast (st' := ⟨slots 166 [(10, i64 0), (11, .v (.bool true))], L55 (ndR fs :: ns) ys [(0, 0)] ++ [.box 37 (.d .nd (ndR fs))]⟩) (by kernel_rfl) ?_
  rw [s55]
  exact hk

theorem gamOK29 {w0 : World} (h0 : H4 w0) {ns : List Nd} {fs : List Fld} {b : Bool} : GamOK Tryz.prog w0 (G29 (ndR fs :: ns) b) := by
  refine addL_ok (gamOK28 h0) ?_
  intro args L F kr hF hk
  unfold leafE at hF
  split at hF
  · rename_i o t r v m z L1
    split at hF
    · rename_i v' fp ys hr
      cases hF
      simp only [Bool.and_eq_true] at hk
      obtain ⟨hk1, hk2⟩ := hk
      obtain ⟨i, rfl, hb1, hb2, hfoot, hsub⟩ := of_yes hk1
      refine does_frame [0, 1, 2, 3, 4, r] [0, 0, 0, 0, 0, v] hfoot ?_
      rw [hsub]
      cases b with
      | true =>
        obtain rfl := hb1 rfl
        exact do55r h0 hk2
      | false => exact do55l h0 (hb2 rfl).1 (hb2 rfl).2 hk2
    · cases hF
  · cases hF

theorem fldsFrom_get : ∀ {l : List Item} {k i : Nat} {nm : List UInt8} {b : Bool}, l[i]? = some (nm, b) → (fldsFrom k l)[i]? = some ⟨⟨⟨nm⟩⟩, bif b then 0 else ((k + nulls (l.take i) : Nat) : Int), false, zJ⟩
  | [], k, i, nm, b, h => by simp at h
  | q :: l, k, 0, nm, b, h => by
    simp only [List.getElem?_cons_zero, Option.some.injEq] at h
    subst h
    cases b <;> simp [fldsFrom, nulls]
  | q :: l, k, i + 1, nm, b, h => by
    rw [List.getElem?_cons_succ] at h
    have hn : nulls (q :: l.take i) = nulls (l.take i) + (bif q.2 then 0 else 1) := by unfold nulls; cases h : q.2 <;> simp [h]
    rw [List.take_succ_cons, hn]
    simp only [fldsFrom]
    cases hq : q.2 with
    | true => simp only [cond_true, List.getElem?_cons_succ]; rw [fldsFrom_get (k := k) h]; rfl
    | false => simp only [cond_false, List.getElem?_cons_succ]; rw [fldsFrom_get (k := k + 1) h, show k + 1 + nulls (l.take i) = k + (nulls (l.take i) + 1) by omega]

theorem nulls_lt : ∀ {l : List Item} {i : Nat} {nm : List UInt8}, l[i]? = some (nm, false) → nulls (l.take i) < nulls l
  | [], i, nm, h => by simp at h
  | q :: l, 0, nm, h => by
    simp only [List.getElem?_cons_zero, Option.some.injEq] at h
    subst h
    simp [nulls]
  | q :: l, i + 1, nm, h => by
    rw [List.getElem?_cons_succ] at h
    have := nulls_lt h
    rw [List.take_succ_cons]
    unfold nulls at *
    cases hq : q.2 <;> simp [hq] <;> omega
theorem nulls_take (l : List Item) (i : Nat) : nulls (l.take i) ≤ nulls l := by
  unfold nulls
  exact List.Sublist.length_le ((List.take_sublist i l).filter _)

theorem setSameF {l : List Fld} {p : Nat} {x : Fld} (h : l[p]? = some x) : l.set p x = l := by
  obtain ⟨hp, rfl⟩ := List.getElem?_eq_some_iff.1 h
  exact List.set_getElem_self hp

theorem do55t {w0 : World} (h0 : H4 w0) {items : List Item} (hne : items ≠ []) (hlen : items.length ≤ 256) (hnu : nulls items ≤ 255) {kr : KR}
    (hk : kr (.ret (.tup [i64 0, .v (.bool true)])) (L55v (nodesOf items) (nodesOf items) items.length (fldsFrom 1 items) (ndR (fldsFrom 1 items)) ++ [.row .str 0 0 []]) = true) :
    Does Tryz.prog w0 55 [i64 0, tx [], i64 0, .ptr 0 0, .ptr 3 0, .ptr 1 0, .ptr 4 0] (L55t (nodesOf items)) kr := by
  have hG := gamOK28 h0
  obtain ⟨f0, fs, hF⟩ : ∃ f0 fs, fldsFrom 1 items = f0 :: fs := by
    cases h : fldsFrom 1 items with
    | nil => exact absurd (by rw [← fldsFrom_length items 1, h]; rfl) (show ¬ items.length = 0 by simpa using hne)
    | cons f0 fs => exact ⟨f0, fs, rfl⟩
  have hnodes : nodesOf items = ndR (f0 :: fs) :: List.replicate (nulls items) ndN := by unfold nodesOf; rw [hF]
  have hFl : (f0 :: fs).length = items.length := by rw [← hF, fldsFrom_length]
  have hFg : ∀ i nm b, items[i]? = some (nm, b) → (f0 :: fs)[i]? = some (⟨⟨⟨nm⟩⟩, bif b then 0 else ((1 + nulls (items.take i) : Nat) : Int), false, zJ⟩ : Fld) := fun i nm b h => hF ▸ fldsFrom_get h
  rw [hF, hnodes] at hk
  rw [hnodes]
  refine does_wpA Tryz.func55 code55t (n := 166) (by kernel_rfl) ?_
  refine evs_ok hG [1, 2, 5, 6, 10, 11, 12, 16, 17] (g55 f0 fs (List.replicate (nulls items) ndN)) ?_
  have hfs : fs.length + 1 = items.length := hFl
  simp only [decide_eq_true (show (0 : Int) < (((List.replicate (nulls items) ndN).length + 1 : Nat) : Int) by omega), decide_eq_true (show (fs.length + 1) * 144 ≤ 140737488355328 by omega), Bool.true_and]
  refine yes_mk ?_
  refine wpA_seq (evs_ok hG [1, 2, 5, 6, 10, 11, 12, 16, 17, 93, 94] (h55 (ndR (f0 :: fs) :: List.replicate (nulls items) ndN) [ndR (f0 :: fs)] (f0 :: fs) (ndR (f0 :: fs))) (yes_mk ?_))
  clear hnodes hfs hF
  generalize f0 :: fs = F at *
  refine wpA_block (wpA_loop (α := { i : Nat // i ≤ items.length }) (fun i => st55 (ndR F :: List.replicate (nulls items) ndN) (ndR F :: List.replicate (nulls (items.take i.1)) ndN) F (ndR F) i.1) (fun i => items.length - i.1) (fun i => ?_) ⟨0, Nat.zero_le _⟩)
  obtain ⟨i, hi⟩ := i
  dsimp only
  rw [code55u]
  refine evs_ok hG [1, 2, 5, 6, 10, 11, 12, 16, 17, 93, 94] (i55 (ndR F :: List.replicate (nulls items) ndN) (ndR F :: List.replicate (nulls (items.take i)) ndN) F (ndR F) i) ?_
  rcases Nat.lt_or_ge i items.length with hlt | hge
  · rw [ltI_true (show (i : Int) < (F.length : Int) by omega)]
    refine yes_mk ?_
    have htk : items.take i ++ [items[i]] = items.take (i + 1) := List.take_append_getElem hlt
    have hgi : items[i]? = some items[i] := List.getElem?_eq_getElem hlt
    have hyl : (ndR F :: List.replicate (nulls (items.take i)) ndN).length = 1 + nulls (items.take i) := by rw [List.length_cons, List.length_replicate]; omega
    have f3 : fwrap .i64 ((i : Int) + 1) = ((i + 1 : Nat) : Int) := fwrap_i64 (by omega) (by omega)
    have hiF : decide ((i : Int) < (F.length : Int)) = true := decide_eq_true (by omega)
    have hiN : decide (i < F.length) = true := decide_eq_true (by omega)
    generalize hI : items[i] = it at *
    obtain ⟨nm, b⟩ := it
    have hg := hFg i nm b hgi
    have hgd : List.getD F i (Fld.mk (ByteArray.mk (Array.mk [])) 0 false (J.mk 0 false (Dec.mk false (ByteArray.mk (Array.mk [])) 0) (ByteArray.mk (Array.mk [])) [] [])) = ⟨⟨⟨nm⟩⟩, bif b then 0 else ((1 + nulls (items.take i) : Nat) : Int), false, zJ⟩ := by rw [List.getD_eq_getElem?_getD, hg]; rfl
    have hnn := nulls_take items i
    refine wpA_seq (wpA_block (evs_ok (gamOK29 h0 (b := b)) [1, 2, 5, 6, 10, 11, 12, 16, 17, 18, 19, 93, 94] (j55 (ndR F :: List.replicate (nulls items) ndN) (ndR F :: List.replicate (nulls (items.take i)) ndN) F (ndR F) i b) ?_))
    simp only [hiF, hiN, Nat.le_refl, decide_true, Int.toNat_natCast, hgd, Bool.true_and, Bool.and_true]
    cases b with
    | true =>
      simp only [cond_true] at hg hgd ⊢
      have hset : F.set i (Fld.mk (ByteArray.mk (Array.mk nm)) ((0 : Nat) : Int) false zJ) = F := setSameF hg
      have hnx : nulls (items.take (i + 1)) = nulls (items.take i) := by rw [← htk, nulls_snoc]; rfl
      rw [Bool.and_eq_true]
      refine ⟨yes_mk ⟨0, rfl, fun _ => rfl, (fun h => by cases h), rfl, rfl⟩, ?_⟩
      refine yes_mk ?_
      refine (evd_ok hG [1, 2, 5, 6, 10, 11, 12, 16, 17, 93, 94] (k55 (ndR F :: List.replicate (nulls items) ndN) (ndR F :: List.replicate (nulls (items.take i)) ndN) F (ndR F) i 0 0) ?_).wpA
      simp only [hiF, hiN, Nat.le_refl, decide_true, Int.toNat_natCast, hgd, hset, Bool.true_and, Bool.and_true]
      refine yes_mk ?_
      refine (evd_ok hG [1, 2, 5, 6, 10, 11, 12, 16, 17, 93, 94] (l55 (ndR F :: List.replicate (nulls items) ndN) (ndR F :: List.replicate (nulls (items.take i)) ndN) F (ndR F) i 0) ?_).wpA
      simp only [f3]
      refine yes_mk ⟨⟨i + 1, hlt⟩, [], 8, by dsimp only; omega, rfl, ?_⟩
      dsimp only
      rw [hnx]
      exact vw55a _ _ _ _ _ _
    | false =>
      simp only [cond_false] at hg hgd ⊢
      have hset : F.set i (Fld.mk (ByteArray.mk (Array.mk nm)) ((1 + nulls (items.take i) : Nat) : Int) false zJ) = F := setSameF hg
      have hnx : List.replicate (nulls (items.take i)) ndN ++ [ndN] = List.replicate (nulls (items.take (i + 1))) ndN := by rw [← htk, nulls_snoc]; exact List.replicate_succ'.symm
      have hlt2 := nulls_lt hgi
      rw [Bool.and_eq_true]
      refine ⟨yes_mk ⟨1 + nulls (items.take i), rfl, (fun h => by cases h), (fun _ => ⟨?_, by omega⟩), rfl, rfl⟩, ?_⟩
      · rw [show 1 + nulls (items.take i) = nulls (items.take i) + 1 by omega, List.getElem?_cons_succ, List.getElem?_replicate, if_pos hlt2]
      · refine yes_mk ?_
        simp only [hyl]
        refine wpA_cast (st' := ⟨slots 166 [(1, tx []), (2, i64 0), (5, .ptr 1 0), (6, .ptr 4 0), (10, i64 0), (11, .v (.bool false)), (12, .ptr 5 0), (16, i64 0), (17, .own .fld 7 0 F.length), (18, i64 i), (19, i64 (1 + nulls (items.take i) : Nat)), (93, i64 F.length), (94, i64 i)], L55u (ndR F :: List.replicate (nulls items) ndN) (ndR F :: List.replicate (nulls (items.take (i + 1))) ndN) 1 F (ndR F)⟩) (by rw [← hnx]; rfl) ?_
        refine (evd_ok hG [1, 2, 5, 6, 10, 11, 12, 16, 17, 93, 94] (k55 (ndR F :: List.replicate (nulls items) ndN) (ndR F :: List.replicate (nulls (items.take (i + 1))) ndN) F (ndR F) i (1 + nulls (items.take i)) 1) ?_).wpA
        simp only [hiF, hiN, Nat.le_refl, decide_true, Int.toNat_natCast, hgd, hset, Bool.true_and, Bool.and_true]
        refine yes_mk ?_
        refine (evd_ok hG [1, 2, 5, 6, 10, 11, 12, 16, 17, 93, 94] (l55 (ndR F :: List.replicate (nulls items) ndN) (ndR F :: List.replicate (nulls (items.take (i + 1))) ndN) F (ndR F) i 1) ?_).wpA
        simp only [f3]
        refine yes_mk ⟨⟨i + 1, hlt⟩, [(6, 1, 0)], 8, by dsimp only; omega, rfl, ?_⟩
        dsimp only
        exact vw55b _ _ _ _ _ _
  · have hil : i = items.length := by omega
    subst hil
    rw [List.take_length]
    rw [ltI_false (show ¬ (items.length : Int) < (F.length : Int) by omega)]
    refine yes_mk ?_
    refine evs_ok hG [5, 10, 11, 12, 16, 17, 21] (m55 (ndR F :: List.replicate (nulls items) ndN) (ndR F :: List.replicate (nulls items) ndN) F items.length) (yes_mk ?_)
    refine evs_ok hG [5, 10, 11, 12, 16] (n55 (ndR F :: List.replicate (nulls items) ndN) (List.replicate (nulls items) ndN) (ndR F) F) ?_
    have e0 : decide ((0 : Int) < (((List.replicate (nulls items) ndN).length + 1 : Nat) : Int)) = true := decide_eq_true (by omega)
    simp only [e0, List.take_length, Nat.le_refl, Nat.beq_refl, decide_true, Bool.true_and, Bool.and_true]
    refine yes_mk ?_
    have emx : max 0 F.length = items.length := by omega
    simp only [emx]
    refine evs_ok hG [10, 11, 16] (o55 (ndR F :: List.replicate (nulls items) ndN) (List.replicate (nulls items) ndN) (ndR F) items.length F) ?_
    simp only [e0, List.take_length, Nat.le_refl, Nat.beq_refl, decide_true, Bool.true_and, Bool.and_true]
    refine yes_mk ?_
    refine (evd_ok hG [10, 11] (p55 (ndR F :: List.replicate (nulls items) ndN) (ndR F :: List.replicate (nulls items) ndN) items.length F) (yes_mk ?_)).wpA
    refine fin_cast (st' := ⟨slots 166 [(10, i64 0), (11, .v (.bool true))], L55v (ndR F :: List.replicate (nulls items) ndN) (ndR F :: List.replicate (nulls items) ndN) items.length F (ndR F) ++ [.row .str 0 0 []]⟩) (by kernel_rfl) ?_
    rw [q55]
    exact hk
end Go.Proofs.YtiaeljbnhdhfcaaGreatDoor

namespace Go.Mo
open Go Go.RowKit Go.Lx Go.Proofs.YtiaeljbnhdhfcaaGreatDoor
noncomputable def topOk (nodes : List Nd) (args : List HV) (L : List Ob) : Bool := yes (args = [i64 0, tx [], i64 0, .ptr 0 0, .ptr 4 0, .ptr 2 0, .ptr 5 0] ∧ footOk L [0, 2, 3, 4, 5] [0, 0, 0, 0, 0] = true ∧ subL (subR [0, 2, 3, 4, 5] [0, 0, 0, 0, 0]) L [0, 2, 3, 4, 5] = L55t nodes)
end Go.Mo
namespace Go.Proofs.YtiaeljbnhdhfcaaGreatDoor
open Go Go.RowKit Go.Lx Go.Mo

noncomputable def topE (nodes : List Nd) (n : Nat) (fs : List Fld) (args : List HV) (L : List Ob) : Option (KR → Bool) :=
  some fun kr => topOk nodes args L && kr (.ret (.tup [i64 0, .v (.bool true)])) (putL (supR [0, 2, 3, 4, 5] [0, 0, 0, 0, 0] L.length) [0, 2, 3, 4, 5] [0, 0, 0, 0, 0] (L55v nodes nodes n fs (ndR fs) ++ [.row .str 0 0 []]) L)
noncomputable def G30 (nodes : List Nd) (n : Nat) (fs : List Fld) : Gam := addL 55 (topE nodes n fs) G28
theorem a28 (nodes : List Nd) (n : Nat) (fs : List Fld) (k : KX) : evd (G30 nodes n fs) 6 (pc 28 []) ⟨argT 0 [.d (.list .nd) nodes, i64 0] ⟨23, .nil⟩, []⟩ (fun x st => k x (st.keep [4, 5])) = ((topOk nodes [(HV.v (Value.int IntKind.i64 0)), (HV.v (Value.string (ByteArray.mk (Array.mk [])))), (HV.v (Value.int IntKind.i64 0)), (HV.ptr 0 0), (HV.ptr 4 0), (HV.ptr 2 0), (HV.ptr 5 0)] [(Ob.box 25 (HV.d (Cd.list Cd.nd) nodes)), (Ob.box 27 (HV.st [(HV.v (Value.slice Option.none 0 0)), (HV.v (Value.int IntKind.i64 0))])), (Ob.box 27 (HV.st [(HV.v (Value.slice Option.none 0 0)), (HV.v (Value.int IntKind.i64 0))])), (Ob.map (Cd.int IntKind.i64) (Cd.int IntKind.i64) []), (Ob.box 100 (HV.map 3)), (Ob.box 101 (HV.fn 55 [] [(HV.ptr 0 0), (HV.ptr 4 0), (HV.ptr 2 0), (HV.ptr 5 0)]))]) && (k HX.ret ⟨slots 23 [(4, (HV.ptr 1 0)), (5, (HV.v (Value.bool Bool.true)))], [(Ob.box 25 (HV.d (Cd.list Cd.nd) nodes)), (Ob.box 27 (HV.st [(HV.own Cd.nd 7 0 (List.length nodes)), (HV.v (Value.int IntKind.i64 0))])), (Ob.box 27 (HV.st [(HV.own Cd.nd 7 0 (List.length nodes)), (HV.v (Value.int IntKind.i64 0))])), (Ob.map (Cd.int IntKind.i64) (Cd.int IntKind.i64) [(Prod.mk 0 0)]), (Ob.box 100 (HV.map 3)), (Ob.box 101 (HV.fn 55 [] [(HV.ptr 0 0), (HV.ptr 4 0), (HV.ptr 2 0), (HV.ptr 5 0)])), (Ob.box 37 (HV.d Cd.nd (Nd.mk 8 (ByteArray.mk (Array.mk [82])) fs [] Bool.false (ByteArray.mk (Array.mk [])) 0 []))), (Ob.row Cd.nd 0 0 nodes), (Ob.row Cd.fld 0 n fs), (Ob.row (Cd.int IntKind.i64) 0 0 []), (Ob.row Cd.str 0 0 [])]⟩)) := by kernel_rfl
theorem code28 : Tryz.f28.body = some (pc 28 []) := by kernel_rfl
theorem b28 (nodes : List Nd) (n : Nat) (fs : List Fld) (kr : KR) : finK Tryz.prog Tryz.f28 [] kr ⟨slots 23 [(4, .ptr 1 0), (5, .v (.bool true))], [.box 25 (.d (.list .nd) nodes), boxS 7 0 nodes.length, boxS 7 0 nodes.length, .map (.int .i64) (.int .i64) [(0, 0)], .box 100 (.map 3), fn55 0 4 2 5, .box 37 (.d .nd (ndR fs)), .row .nd 0 0 nodes, .row .fld 0 n fs, .row (.int .i64) 0 0 [], .row .str 0 0 []]⟩ = ((((decide ((List.length nodes) ≤ (List.length nodes))) && Bool.true) && Bool.true) && (kr (HR.ret (HV.tup [(HV.d Cd.av (Av.mk (List.take (List.length nodes) nodes) 0)), (HV.v (Value.bool Bool.true))])) [])) := by kernel_rfl

theorem do28 {items : List Item} (hne : items ≠ []) (hlen : items.length ≤ 256) (hnu : nulls items ≤ 255) :
    PureDo Tryz.prog H4 28 [.d (.list .nd) (nodesOf items), i64 0] (.tup [.d .av ⟨nodesOf items, 0⟩, .v (.bool true)]) := by
  intro w0 kr h0 hkr
  have hG : GamOK Tryz.prog w0 (G30 (nodesOf items) items.length (fldsFrom 1 items)) := by
    refine addL_ok (gamOK28 h0) ?_
    intro args L F kr hF hk
    cases hF
    simp only [Bool.and_eq_true] at hk
    obtain ⟨hk1, hk2⟩ := hk
    obtain ⟨rfl, hfoot, hsub⟩ := of_yes hk1
    refine does_frame [0, 2, 3, 4, 5] [0, 0, 0, 0, 0] hfoot ?_
    rw [hsub]
    exact do55t h0 hne hlen hnu hk2
  refine does_wpA Tryz.func28 code28 (n := 23) (by kernel_rfl) ?_
  refine (evd_ok hG [4, 5] (a28 (nodesOf items) items.length (fldsFrom 1 items)) ?_).wpA
  rw [Bool.and_eq_true]
  refine ⟨yes_mk ⟨rfl, rfl, rfl⟩, yes_mk ?_⟩
  refine fin_cast (st' := ⟨slots 23 [(4, .ptr 1 0), (5, .v (.bool true))], [.box 25 (.d (.list .nd) (nodesOf items)), boxS 7 0 (nodesOf items).length, boxS 7 0 (nodesOf items).length, .map (.int .i64) (.int .i64) [(0, 0)], .box 100 (.map 3), fn55 0 4 2 5, .box 37 (.d .nd (ndR (fldsFrom 1 items))), .row .nd 0 0 (nodesOf items), .row .fld 0 items.length (fldsFrom 1 items), .row (.int .i64) 0 0 [], .row .str 0 0 []]⟩) (by kernel_rfl) ?_
  rw [b28]
  simp only [List.take_length, Nat.le_refl, decide_true, Bool.true_and, Bool.and_true]
  exact hkr
end Go.Proofs.YtiaeljbnhdhfcaaGreatDoor
