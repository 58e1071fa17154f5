/- avro: defaults, names, shape. -/
import Derived.Test.YtiaeljbnhdhfcaaGreatDoorP10
namespace Go.Proofs.YtiaeljbnhdhfcaaGreatDoor
open Go Go.RowKit Go.Lx Go.Mo

def bxS (nodes : List Nd) : Ob := .box 27 (.d .av (Av.mk nodes 0))
def st29 (nodes : List Nd) (i : Nat) : St := ⟨slots 34 [(1, .ptr 0 0), (2, .v (.bool false)), (8, .d (.list .nd) nodes), (9, i64 nodes.length), (10, i64 i)], [bxS nodes]⟩
def st29b (nodes : List Nd) (i : Nat) (fs : List Fld) (j : Nat) : St := ⟨slots 34 [(1, .ptr 0 0), (2, .v (.bool false)), (8, .d (.list .nd) nodes), (9, i64 nodes.length), (10, i64 i), (15, .d (.list .fld) fs), (16, i64 fs.length), (17, i64 j)], [bxS nodes]⟩
def st29c (nodes : List Nd) (i : Nat) (fs : List Fld) (j : Nat) (nm : ByteArray) (t : Int) (d : J) : St := ⟨slots 34 [(1, .ptr 0 0), (2, .v (.bool false)), (6, .ptr 1 0), (8, .d (.list .nd) nodes), (9, i64 nodes.length), (10, i64 i), (15, .d (.list .fld) fs), (16, i64 fs.length), (17, i64 j)], [bxS nodes, .box 45 (.d .fld (Fld.mk nm t false d))]⟩
theorem a29 (nodes : List Nd) (k : KX) : evs G8 6 [pc 29 [0]] ⟨argT 0 [.d .av (Av.mk nodes 0)] ⟨34, .nil⟩, []⟩ (fun x st => k x (st.keep [1, 2])) = (k HX.normal ⟨slots 34 [(1, (HV.ptr 0 0)), (2, (HV.v (Value.bool Bool.false)))], [(Ob.box 27 (HV.d Cd.av (Av.mk nodes 0)))]⟩) := by kernel_rfl
theorem b29 (nodes : List Nd) (k : KX) : evs G8 6 [pc 29 [1, 0, 0]] ⟨slots 34 [(1, .ptr 0 0), (2, .v (.bool false))], [bxS nodes]⟩ (fun x st => k x (st.keep [1, 2, 8, 9, 10])) = (k HX.normal ⟨slots 34 [(1, (HV.ptr 0 0)), (2, (HV.v (Value.bool Bool.false))), (8, (HV.d (Cd.list Cd.nd) nodes)), (9, (HV.v (Value.int IntKind.i64 (((List.length nodes) : Nat) : Int)))), (10, (HV.v (Value.int IntKind.i64 0)))], [(Ob.box 27 (HV.d Cd.av (Av.mk nodes 0)))]⟩) := by kernel_rfl
theorem c29 (nodes : List Nd) (i : Nat) (k : KX) : evs G8 6 [pc 29 [1, 0, 1, 0, 0, 0], pc 29 [1, 0, 1, 0, 0, 1, 0]] (st29 nodes i) (fun x st => k x (st.keep [1, 2, 8, 9, 10])) = (bif (ltI ((i : Nat) : Int) (((List.length nodes) : Nat) : Int)) then (k HX.normal ⟨slots 34 [(1, (HV.ptr 0 0)), (2, (HV.v (Value.bool Bool.false))), (8, (HV.d (Cd.list Cd.nd) nodes)), (9, (HV.v (Value.int IntKind.i64 (((List.length nodes) : Nat) : Int)))), (10, (HV.v (Value.int IntKind.i64 ((i : Nat) : Int))))], [(Ob.box 27 (HV.d Cd.av (Av.mk nodes 0)))]⟩) else (k (HX.exit 0) ⟨slots 34 [(1, (HV.ptr 0 0)), (2, (HV.v (Value.bool Bool.false))), (8, (HV.d (Cd.list Cd.nd) nodes)), (9, (HV.v (Value.int IntKind.i64 (((List.length nodes) : Nat) : Int)))), (10, (HV.v (Value.int IntKind.i64 ((i : Nat) : Int))))], [(Ob.box 27 (HV.d Cd.av (Av.mk nodes 0)))]⟩)) := by kernel_rfl
theorem d29 (nodes : List Nd) (i : Nat) (k : KX) : evs G8 6 [pc 29 [1, 0, 1, 0, 0, 1, 1, 0, 0, 0], pc 29 [1, 0, 1, 0, 0, 1, 1, 0, 0, 1, 0]] (st29 nodes i) (fun x st => k x (st.keep [1, 2, 8, 9, 10, 15, 16, 17])) = ((decide (((i : Nat) : Int) < (((List.length nodes) : Nat) : Int))) && (k HX.normal ⟨slots 34 [(1, (HV.ptr 0 0)), (2, (HV.v (Value.bool Bool.false))), (8, (HV.d (Cd.list Cd.nd) nodes)), (9, (HV.v (Value.int IntKind.i64 (((List.length nodes) : Nat) : Int)))), (10, (HV.v (Value.int IntKind.i64 ((i : Nat) : Int)))), (15, (HV.d (Cd.list Cd.fld) (Nd.fields (List.getD nodes (Int.toNat ((i : Nat) : Int)) (Nd.mk 0 (ByteArray.mk (Array.mk [])) [] [] Bool.false (ByteArray.mk (Array.mk [])) 0 []))))), (16, (HV.v (Value.int IntKind.i64 (((List.length (Nd.fields (List.getD nodes (Int.toNat ((i : Nat) : Int)) (Nd.mk 0 (ByteArray.mk (Array.mk [])) [] [] Bool.false (ByteArray.mk (Array.mk [])) 0 [])))) : Nat) : Int)))), (17, (HV.v (Value.int IntKind.i64 0)))], [(Ob.box 27 (HV.d Cd.av (Av.mk nodes 0))), (Ob.box 37 (HV.d Cd.nd (List.getD nodes (Int.toNat ((i : Nat) : Int)) (Nd.mk 0 (ByteArray.mk (Array.mk [])) [] [] Bool.false (ByteArray.mk (Array.mk [])) 0 []))))]⟩)) := by kernel_rfl
theorem e29 (nodes : List Nd) (i : Nat) (fs : List Fld) (j : Nat) (k : KX) : evs G8 6 [pc 29 [1, 0, 1, 0, 0, 1, 1, 0, 0, 1, 1, 0, 0, 0], pc 29 [1, 0, 1, 0, 0, 1, 1, 0, 0, 1, 1, 0, 0, 1, 0]] (st29b nodes i fs j) (fun x st => k x (st.keep [1, 2, 8, 9, 10, 15, 16, 17])) = (bif (ltI ((j : Nat) : Int) (((List.length fs) : Nat) : Int)) then (k HX.normal ⟨slots 34 [(1, (HV.ptr 0 0)), (2, (HV.v (Value.bool Bool.false))), (8, (HV.d (Cd.list Cd.nd) nodes)), (9, (HV.v (Value.int IntKind.i64 (((List.length nodes) : Nat) : Int)))), (10, (HV.v (Value.int IntKind.i64 ((i : Nat) : Int)))), (15, (HV.d (Cd.list Cd.fld) fs)), (16, (HV.v (Value.int IntKind.i64 (((List.length fs) : Nat) : Int)))), (17, (HV.v (Value.int IntKind.i64 ((j : Nat) : Int))))], [(Ob.box 27 (HV.d Cd.av (Av.mk nodes 0)))]⟩) else (k (HX.exit 2) ⟨slots 34 [(1, (HV.ptr 0 0)), (2, (HV.v (Value.bool Bool.false))), (8, (HV.d (Cd.list Cd.nd) nodes)), (9, (HV.v (Value.int IntKind.i64 (((List.length nodes) : Nat) : Int)))), (10, (HV.v (Value.int IntKind.i64 ((i : Nat) : Int)))), (15, (HV.d (Cd.list Cd.fld) fs)), (16, (HV.v (Value.int IntKind.i64 (((List.length fs) : Nat) : Int)))), (17, (HV.v (Value.int IntKind.i64 ((j : Nat) : Int))))], [(Ob.box 27 (HV.d Cd.av (Av.mk nodes 0)))]⟩)) := by kernel_rfl
theorem f29 (nodes : List Nd) (i : Nat) (fs : List Fld) (j : Nat) (k : KX) : evs G8 6 [pc 29 [1, 0, 1, 0, 0, 1, 1, 0, 0, 1, 1, 0, 0, 1, 1, 0, 0, 0]] (st29b nodes i fs j) (fun x st => k x (st.keep [1, 2, 6, 8, 9, 10, 15, 16, 17])) = ((decide (((j : Nat) : Int) < (((List.length fs) : Nat) : Int))) && (k HX.normal ⟨slots 34 [(1, (HV.ptr 0 0)), (2, (HV.v (Value.bool Bool.false))), (6, (HV.ptr 1 0)), (8, (HV.d (Cd.list Cd.nd) nodes)), (9, (HV.v (Value.int IntKind.i64 (((List.length nodes) : Nat) : Int)))), (10, (HV.v (Value.int IntKind.i64 ((i : Nat) : Int)))), (15, (HV.d (Cd.list Cd.fld) fs)), (16, (HV.v (Value.int IntKind.i64 (((List.length fs) : Nat) : Int)))), (17, (HV.v (Value.int IntKind.i64 ((j : Nat) : Int))))], [(Ob.box 27 (HV.d Cd.av (Av.mk nodes 0))), (Ob.box 45 (HV.d Cd.fld (List.getD fs (Int.toNat ((j : Nat) : Int)) (Fld.mk (ByteArray.mk (Array.mk [])) 0 Bool.false (J.mk 0 Bool.false (Dec.mk Bool.false (ByteArray.mk (Array.mk [])) 0) (ByteArray.mk (Array.mk [])) [] [])))))]⟩)) := by kernel_rfl
theorem g29 (nodes : List Nd) (i : Nat) (fs : List Fld) (j : Nat) (nm : ByteArray) (t : Int) (d : J) (k : KX) : evd G8 6 (pc 29 [1, 0, 1, 0, 0, 1, 1, 0, 0, 1, 1, 0, 0, 1, 1, 0, 0, 1]) (st29c nodes i fs j nm t d) (fun x st => k x (st.keep [1, 2, 8, 9, 10, 15, 16, 17])) = (k HX.normal ⟨slots 34 [(1, (HV.ptr 0 0)), (2, (HV.v (Value.bool Bool.false))), (8, (HV.d (Cd.list Cd.nd) nodes)), (9, (HV.v (Value.int IntKind.i64 (((List.length nodes) : Nat) : Int)))), (10, (HV.v (Value.int IntKind.i64 ((i : Nat) : Int)))), (15, (HV.d (Cd.list Cd.fld) fs)), (16, (HV.v (Value.int IntKind.i64 (((List.length fs) : Nat) : Int)))), (17, (HV.v (Value.int IntKind.i64 ((j : Nat) : Int))))], [(Ob.box 27 (HV.d Cd.av (Av.mk nodes 0))), (Ob.box 45 (HV.d Cd.fld (Fld.mk nm t Bool.false d)))]⟩) := by kernel_rfl
theorem h29 (nodes : List Nd) (i : Nat) (fs : List Fld) (j : Nat) (nm : ByteArray) (t : Int) (d : J) (k : KX) : evd G8 6 (pc 29 [1, 0, 1, 0, 0, 1, 1, 0, 0, 1, 1, 0, 0, 1, 1, 1]) ⟨(st29b nodes i fs j).tmps, (st29c nodes i fs j nm t d).L⟩ (fun x st => k x (st.keep [1, 2, 8, 9, 10, 15, 16, 17])) = (k HX.normal ⟨slots 34 [(1, (HV.ptr 0 0)), (2, (HV.v (Value.bool Bool.false))), (8, (HV.d (Cd.list Cd.nd) nodes)), (9, (HV.v (Value.int IntKind.i64 (((List.length nodes) : Nat) : Int)))), (10, (HV.v (Value.int IntKind.i64 ((i : Nat) : Int)))), (15, (HV.d (Cd.list Cd.fld) fs)), (16, (HV.v (Value.int IntKind.i64 (((List.length fs) : Nat) : Int)))), (17, (HV.v (Value.int IntKind.i64 (fwrap IntKind.i64 (((j : Nat) : Int) + 1)))))], [(Ob.box 27 (HV.d Cd.av (Av.mk nodes 0))), (Ob.box 45 (HV.d Cd.fld (Fld.mk nm t Bool.false d)))]⟩) := by kernel_rfl
theorem i29 (nodes : List Nd) (i : Nat) (fs : List Fld) (j : Nat) (k : KX) : evd G8 6 (pc 29 [1, 0, 1, 0, 0, 1, 1, 1]) (st29b nodes i fs j) (fun x st => k x (st.keep [1, 2, 8, 9, 10])) = (k HX.normal ⟨slots 34 [(1, (HV.ptr 0 0)), (2, (HV.v (Value.bool Bool.false))), (8, (HV.d (Cd.list Cd.nd) nodes)), (9, (HV.v (Value.int IntKind.i64 (((List.length nodes) : Nat) : Int)))), (10, (HV.v (Value.int IntKind.i64 (fwrap IntKind.i64 (((i : Nat) : Int) + 1)))))], [(Ob.box 27 (HV.d Cd.av (Av.mk nodes 0)))]⟩) := by kernel_rfl
theorem j29 (nodes : List Nd) (i : Nat) (k : KX) : evd G8 6 (pc 29 [1, 1]) (st29 nodes i) (fun x st => k x (st.keep [2])) = (k HX.ret ⟨slots 34 [(2, (HV.v (Value.bool Bool.true)))], [(Ob.box 27 (HV.d Cd.av (Av.mk nodes 0)))]⟩) := by kernel_rfl
theorem k29 (nodes : List Nd) (kr : KR) : finK Tryz.prog Tryz.f29 [] kr ⟨slots 34 [(2, .v (.bool true))], [bxS nodes]⟩ = (kr (HR.ret (HV.v (Value.bool Bool.true))) []) := by kernel_rfl
theorem code29 : Tryz.f29.body = some (seqs [pc 29 [0]] (.seq (seqs [pc 29 [1, 0, 0]] (.block 0 (.loop (pc 29 [1, 0, 1, 0, 0])))) (pc 29 [1, 1]))) := by kernel_rfl
theorem code29b : pc 29 [1, 0, 1, 0, 0] = seqs [pc 29 [1, 0, 1, 0, 0, 0], pc 29 [1, 0, 1, 0, 0, 1, 0]] (.seq (.block 1 (seqs [pc 29 [1, 0, 1, 0, 0, 1, 1, 0, 0, 0], pc 29 [1, 0, 1, 0, 0, 1, 1, 0, 0, 1, 0]] (.block 2 (.loop (pc 29 [1, 0, 1, 0, 0, 1, 1, 0, 0, 1, 1, 0, 0]))))) (pc 29 [1, 0, 1, 0, 0, 1, 1, 1])) := by kernel_rfl
theorem code29c : pc 29 [1, 0, 1, 0, 0, 1, 1, 0, 0, 1, 1, 0, 0] = seqs [pc 29 [1, 0, 1, 0, 0, 1, 1, 0, 0, 1, 1, 0, 0, 0], pc 29 [1, 0, 1, 0, 0, 1, 1, 0, 0, 1, 1, 0, 0, 1, 0]] (.seq (.block 3 (seqs [pc 29 [1, 0, 1, 0, 0, 1, 1, 0, 0, 1, 1, 0, 0, 1, 1, 0, 0, 0]] (pc 29 [1, 0, 1, 0, 0, 1, 1, 0, 0, 1, 1, 0, 0, 1, 1, 0, 0, 1]))) (pc 29 [1, 0, 1, 0, 0, 1, 1, 0, 0, 1, 1, 0, 0, 1, 1, 1])) := by kernel_rfl
theorem vw29a (nodes : List Nd) (i : Nat) (fs : List Fld) (j : Nat) (o : Ob) : vw [] 1 ⟨(st29b nodes i fs j).tmps, [bxS nodes, o]⟩ = st29b nodes i fs j := by kernel_rfl
theorem vw29b (nodes : List Nd) (i : Nat) : vw [] 1 (st29 nodes i) = st29 nodes i := by kernel_rfl

theorem do29 {nodes : List Nd} (hl : nodes.length ≤ B42) (hf : ∀ n ∈ nodes, n.fields.length ≤ B42 ∧ ∀ f ∈ n.fields, f.has = false) : PureDo Tryz.prog H4 29 [.d .av ⟨nodes, 0⟩] (.v (.bool true)) := by
  intro w0 kr h0 hkr
  have hG := gamOK8 h0
  refine does_wpA Tryz.func29 code29 (n := 34) (by kernel_rfl) ?_
  refine evs_ok hG [1, 2] (a29 nodes) (yes_mk ?_)
  refine wpA_seq (evs_ok hG [1, 2, 8, 9, 10] (b29 nodes) (yes_mk ?_))
  refine wpA_block (wpA_loop (α := { i : Nat // i ≤ nodes.length }) (fun i => st29 nodes i.1) (fun i => nodes.length - i.1) (fun i => ?_) ⟨0, Nat.zero_le _⟩)
  obtain ⟨i, hi⟩ := i
  dsimp only
  rw [code29b]
  refine evs_ok hG [1, 2, 8, 9, 10] (c29 nodes i) ?_
  rcases Nat.lt_or_ge i nodes.length with hlt | hge
  · rw [ltI_true (show (i : Int) < (nodes.length : Int) by omega)]
    refine yes_mk ?_
    have hgd : List.getD nodes i (Nd.mk 0 (ByteArray.mk (Array.mk [])) [] [] false (ByteArray.mk (Array.mk [])) 0 []) = nodes[i] := by rw [List.getD_eq_getElem?_getD, List.getElem?_eq_getElem hlt]; rfl
    have f3 : fwrap .i64 ((i : Int) + 1) = ((i + 1 : Nat) : Int) := fwrap_i64 (by omega) (by unfold B42 at hl; omega)
    obtain ⟨hfl, hfh⟩ := hf nodes[i] (List.getElem_mem hlt)
    refine wpA_seq (wpA_block (evs_ok hG [1, 2, 8, 9, 10, 15, 16, 17] (d29 nodes i) ?_))
    simp only [Int.toNat_natCast, hgd, decide_eq_true (show (i : Int) < (nodes.length : Int) by omega), Bool.true_and]
    refine yes_mk ?_
    refine wpA_view [] 1 rfl ?_
    refine wpA_cast (vw29a nodes i nodes[i].fields 0 _) ?_
    generalize nodes[i].fields = fs at *
    refine wpA_block (wpA_loop (α := { j : Nat // j ≤ fs.length }) (fun j => st29b nodes i fs j.1) (fun j => fs.length - j.1) (fun j => ?_) ⟨0, Nat.zero_le _⟩)
    obtain ⟨j, hj⟩ := j
    dsimp only
    rw [code29c]
    refine evs_ok hG [1, 2, 8, 9, 10, 15, 16, 17] (e29 nodes i fs j) ?_
    rcases Nat.lt_or_ge j fs.length with hjt | hje
    · rw [ltI_true (show (j : Int) < (fs.length : Int) by omega)]
      refine yes_mk ?_
      have hgd2 : List.getD fs j (Fld.mk (ByteArray.mk (Array.mk [])) 0 false (J.mk 0 false (Dec.mk false (ByteArray.mk (Array.mk [])) 0) (ByteArray.mk (Array.mk [])) [] [])) = fs[j] := by rw [List.getD_eq_getElem?_getD, List.getElem?_eq_getElem hjt]; rfl
      have f4 : fwrap .i64 ((j : Int) + 1) = ((j + 1 : Nat) : Int) := fwrap_i64 (by omega) (by unfold B42 at hfl; omega)
      have hh := hfh fs[j] (List.getElem_mem hjt)
      refine wpA_seq (wpA_block (evs_ok hG [1, 2, 6, 8, 9, 10, 15, 16, 17] (f29 nodes i fs j) ?_))
      simp only [Int.toNat_natCast, hgd2, decide_eq_true (show (j : Int) < (fs.length : Int) by omega), Bool.true_and]
      generalize fs[j] = f at *
      obtain ⟨nm, t, h, d⟩ := f
      dsimp only at hh
      subst hh
      refine yes_mk ?_
      refine (evd_ok hG [1, 2, 8, 9, 10, 15, 16, 17] (g29 nodes i fs j nm t d) (yes_mk ?_)).wpA
      refine (evd_ok hG [1, 2, 8, 9, 10, 15, 16, 17] (h29 nodes i fs j nm t d) ?_).wpA
      simp only [f4]
      exact yes_mk ⟨⟨j + 1, hjt⟩, [], 1, by dsimp only; omega, rfl, vw29a nodes i fs (j + 1) _⟩
    · have hil : j = fs.length := by omega
      rw [ltI_false (show ¬ (j : Int) < (fs.length : Int) by omega)]
      refine yes_mk ?_
      refine (evd_ok hG [1, 2, 8, 9, 10] (i29 nodes i fs j) ?_).wpA
      simp only [f3]
      exact yes_mk ⟨⟨i + 1, hlt⟩, [], 1, by dsimp only; omega, rfl, vw29b nodes (i + 1)⟩
  · rw [ltI_false (show ¬ (i : Int) < (nodes.length : Int) by omega)]
    refine yes_mk ?_
    refine (evd_ok hG [2] (j29 nodes i) (yes_mk ?_)).wpA
    refine fin_cast (st' := ⟨slots 34 [(2, .v (.bool true))], [bxS nodes]⟩) (by kernel_rfl) ?_
    rw [k29]
    exact hkr
end Go.Proofs.YtiaeljbnhdhfcaaGreatDoor

namespace Go.Mo
open Go Go.RowKit Go.Lx Go.Proofs.YtiaeljbnhdhfcaaGreatDoor
def namesB (l : List ByteArray) : Bool := (l.all fun a => partB a.data.toList && decide (a.size ≤ 128)) && distB l && decide (l.length ≤ 256)
end Go.Mo
namespace Go.Proofs.YtiaeljbnhdhfcaaGreatDoor
open Go Go.RowKit Go.Lx Go.Mo

noncomputable def G32 : Gam := addP 62 partP G8
def st61 (l : List ByteArray) (i : Nat) : St := ⟨slots 31 [(0, .d (.list .str) l), (2, .v (.bool false)), (5, .d (.list .str) l), (6, i64 l.length), (7, i64 i)], []⟩
theorem a61 (l : List ByteArray) (k : KX) : evs G32 6 [pc 61 [0]] ⟨argT 0 [.d (.list .str) l] ⟨31, .nil⟩, []⟩ (fun x st => k x (st.keep [0, 2])) = (k HX.normal ⟨slots 31 [(0, (HV.d (Cd.list Cd.str) l)), (2, (HV.v (Value.bool Bool.false)))], []⟩) := by kernel_rfl
theorem b61 (l : List ByteArray) (k : KX) : evs G32 6 [pc 61 [1, 0, 0]] ⟨slots 31 [(0, .d (.list .str) l), (2, .v (.bool false))], []⟩ (fun x st => k x (st.keep [0, 2, 5, 6, 7])) = (k HX.normal ⟨slots 31 [(0, (HV.d (Cd.list Cd.str) l)), (2, (HV.v (Value.bool Bool.false))), (5, (HV.d (Cd.list Cd.str) l)), (6, (HV.v (Value.int IntKind.i64 (((List.length l) : Nat) : Int)))), (7, (HV.v (Value.int IntKind.i64 0)))], []⟩) := by kernel_rfl
theorem c61 (l : List ByteArray) (i : Nat) (k : KX) : evs G32 6 [pc 61 [1, 0, 1, 0, 0, 0], pc 61 [1, 0, 1, 0, 0, 1, 0]] (st61 l i) (fun x st => k x (st.keep [0, 2, 5, 6, 7])) = (bif (ltI ((i : Nat) : Int) (((List.length l) : Nat) : Int)) then (k HX.normal ⟨slots 31 [(0, (HV.d (Cd.list Cd.str) l)), (2, (HV.v (Value.bool Bool.false))), (5, (HV.d (Cd.list Cd.str) l)), (6, (HV.v (Value.int IntKind.i64 (((List.length l) : Nat) : Int)))), (7, (HV.v (Value.int IntKind.i64 ((i : Nat) : Int))))], []⟩) else (k (HX.exit 0) ⟨slots 31 [(0, (HV.d (Cd.list Cd.str) l)), (2, (HV.v (Value.bool Bool.false))), (5, (HV.d (Cd.list Cd.str) l)), (6, (HV.v (Value.int IntKind.i64 (((List.length l) : Nat) : Int)))), (7, (HV.v (Value.int IntKind.i64 ((i : Nat) : Int))))], []⟩)) := by kernel_rfl
theorem d61 (l : List ByteArray) (i : Nat) (k : KX) : evs G32 6 [pc 61 [1, 0, 1, 0, 0, 1, 1, 0, 0, 0]] (st61 l i) (fun x st => k x (st.keep [0, 2, 3, 4, 5, 6, 7])) = ((decide (((i : Nat) : Int) < (((List.length l) : Nat) : Int))) && (k HX.normal ⟨slots 31 [(0, (HV.d (Cd.list Cd.str) l)), (2, (HV.v (Value.bool Bool.false))), (3, (HV.v (Value.int IntKind.i64 ((i : Nat) : Int)))), (4, (HV.v (Value.string (List.getD l (Int.toNat ((i : Nat) : Int)) (ByteArray.mk (Array.mk [])))))), (5, (HV.d (Cd.list Cd.str) l)), (6, (HV.v (Value.int IntKind.i64 (((List.length l) : Nat) : Int)))), (7, (HV.v (Value.int IntKind.i64 ((i : Nat) : Int))))], []⟩)) := by kernel_rfl
theorem e61 (l : List ByteArray) (i : Nat) (a : List UInt8) (k : KX) : evd G32 6 (pc 61 [1, 0, 1, 0, 0, 1, 1, 0, 0, 1]) ⟨slots 31 [(0, .d (.list .str) l), (2, .v (.bool false)), (3, i64 i), (4, tx a), (5, .d (.list .str) l), (6, i64 l.length), (7, i64 i)], []⟩ (fun x st => k x (st.keep [0, 2, 5, 6, 7])) = ((partB a) && (((!(decide ((ltI 128 (((ByteArray.size (ByteArray.mk (Array.mk a))) : Nat) : Int)) = Bool.false))) || Bool.true) && (((!(decide ((ltI 128 (((ByteArray.size (ByteArray.mk (Array.mk a))) : Nat) : Int)) = Bool.false))) || Bool.true) && (((!(decide ((ltI 128 (((ByteArray.size (ByteArray.mk (Array.mk a))) : Nat) : Int)) = Bool.false))) || (((((!(decide ((ltI 128 (((ByteArray.size (ByteArray.mk (Array.mk a))) : Nat) : Int)) = Bool.false))) || (decide ((ltI 128 (((ByteArray.size (ByteArray.mk (Array.mk a))) : Nat) : Int)) = Bool.false))) && Bool.true) && ((!(decide ((ltI 128 (((ByteArray.size (ByteArray.mk (Array.mk a))) : Nat) : Int)) = Bool.false))) || (decide ((ltI 128 (((ByteArray.size (ByteArray.mk (Array.mk a))) : Nat) : Int)) = Bool.false)))) && (decide (((i : Nat) : Int) ≤ (((List.length l) : Nat) : Int))))) && (((!(decide ((ltI 128 (((ByteArray.size (ByteArray.mk (Array.mk a))) : Nat) : Int)) = Bool.false))) || Bool.true) && (bif (decide ((ltI 128 (((ByteArray.size (ByteArray.mk (Array.mk a))) : Nat) : Int)) = Bool.false)) then (((decide ((ltI 128 (((ByteArray.size (ByteArray.mk (Array.mk a))) : Nat) : Int)) = Bool.false)) && ((decide ((ltI 128 (((ByteArray.size (ByteArray.mk (Array.mk a))) : Nat) : Int)) = Bool.false)) && Bool.true)) && ((decide ((List.length (List.take (Int.toNat ((i : Nat) : Int)) l)) < 4611686018427387904)) && (bif ((ltI 128 (((ByteArray.size (ByteArray.mk (Array.mk a))) : Nat) : Int)) || (!(ltI (findGo (ByteArray.mk (Array.mk a)) (List.take (Int.toNat ((i : Nat) : Int)) l) 0) 0))) then (k HX.ret ⟨slots 31 [(0, (HV.d (Cd.list Cd.str) l)), (2, (HV.v (Value.bool Bool.false))), (5, (HV.d (Cd.list Cd.str) l)), (6, (HV.v (Value.int IntKind.i64 (((List.length l) : Nat) : Int)))), (7, (HV.v (Value.int IntKind.i64 ((i : Nat) : Int))))], []⟩) else (k HX.normal ⟨slots 31 [(0, (HV.d (Cd.list Cd.str) l)), (2, (HV.v (Value.bool Bool.false))), (5, (HV.d (Cd.list Cd.str) l)), (6, (HV.v (Value.int IntKind.i64 (((List.length l) : Nat) : Int)))), (7, (HV.v (Value.int IntKind.i64 ((i : Nat) : Int))))], []⟩)))) else (((!(!(ltI 128 (((ByteArray.size (ByteArray.mk (Array.mk a))) : Nat) : Int)))) && Bool.true) && (k HX.ret ⟨slots 31 [(0, (HV.d (Cd.list Cd.str) l)), (2, (HV.v (Value.bool Bool.false))), (5, (HV.d (Cd.list Cd.str) l)), (6, (HV.v (Value.int IntKind.i64 (((List.length l) : Nat) : Int)))), (7, (HV.v (Value.int IntKind.i64 ((i : Nat) : Int))))], []⟩)))))))) := by kernel_rfl
theorem f61 (l : List ByteArray) (i : Nat) (k : KX) : evd G32 6 (pc 61 [1, 0, 1, 0, 0, 1, 1, 1]) (st61 l i) (fun x st => k x (st.keep [0, 2, 5, 6, 7])) = (k HX.normal ⟨slots 31 [(0, (HV.d (Cd.list Cd.str) l)), (2, (HV.v (Value.bool Bool.false))), (5, (HV.d (Cd.list Cd.str) l)), (6, (HV.v (Value.int IntKind.i64 (((List.length l) : Nat) : Int)))), (7, (HV.v (Value.int IntKind.i64 (fwrap IntKind.i64 (((i : Nat) : Int) + 1)))))], []⟩) := by kernel_rfl
theorem g61 (l : List ByteArray) (i : Nat) (k : KX) : evd G32 6 (pc 61 [1, 1]) (st61 l i) (fun x st => k x (st.keep [2])) = (k HX.ret ⟨slots 31 [(2, (HV.v (Value.bool (!(ltI 256 (((List.length l) : Nat) : Int))))))], []⟩) := by kernel_rfl
theorem h61 (b : Bool) (kr : KR) : finK Tryz.prog Tryz.f61 [] kr ⟨slots 31 [(2, .v (.bool b))], []⟩ = (kr (HR.ret (HV.v (Value.bool b))) []) := by kernel_rfl
theorem code61 : Tryz.f61.body = some (seqs [pc 61 [0]] (.seq (seqs [pc 61 [1, 0, 0]] (.block 0 (.loop (pc 61 [1, 0, 1, 0, 0])))) (pc 61 [1, 1]))) := by kernel_rfl
theorem code61b : pc 61 [1, 0, 1, 0, 0] = seqs [pc 61 [1, 0, 1, 0, 0, 0], pc 61 [1, 0, 1, 0, 0, 1, 0]] (.seq (.block 1 (seqs [pc 61 [1, 0, 1, 0, 0, 1, 1, 0, 0, 0]] (pc 61 [1, 0, 1, 0, 0, 1, 1, 0, 0, 1]))) (pc 61 [1, 0, 1, 0, 0, 1, 1, 1])) := by kernel_rfl
theorem a60 (k : KX) : evd G32 6 (pc 60 []) ⟨argT 0 [tx [82]] ⟨12, .nil⟩, []⟩ (fun x st => k x (st.keep [2])) = (k HX.ret ⟨slots 12 [(2, (HV.v (Value.bool Bool.true)))], []⟩) := by kernel_rfl
theorem gamOK32 {w0 : World} (h0 : H4 w0) : GamOK Tryz.prog w0 G32 := by
  refine addP_ok (gamOK8 h0) ⟨_, Tryz.func62, rfl⟩ ?_
  intro args r h h1
  unfold partP at h
  split at h
  · cases h; exact pureAns lasts4 (do62 h1) rfl rfl h0
  · cases h

theorem findGo_no (a : ByteArray) : ∀ (l : List ByteArray) (k : Nat), (∀ x ∈ l, beqS a x = false) → findGo a l k = -1
  | [], _, _ => rfl
  | x :: l, k, h => by
    unfold findGo
    rw [h x (List.mem_cons_self ..), cond_false]
    exact findGo_no a l (k + 1) (fun y hy => h y (List.mem_cons_of_mem _ hy))
theorem vw61 (l : List ByteArray) (i : Nat) : vw [] 0 (st61 l i) = st61 l i := by kernel_rfl

theorem do61 {l : List ByteArray} (h : namesB l = true) : PureDo Tryz.prog H4 61 [.d (.list .str) l] (.v (.bool true)) := by
  intro w0 kr h0 hkr
  have hG := gamOK32 h0
  unfold namesB at h
  simp only [Bool.and_eq_true, decide_eq_true_eq, List.all_eq_true] at h
  obtain ⟨⟨hp, hd⟩, hl⟩ := h
  refine does_wpA Tryz.func61 code61 (n := 31) (by kernel_rfl) ?_
  refine evs_ok hG [0, 2] (a61 l) (yes_mk ?_)
  refine wpA_seq (evs_ok hG [0, 2, 5, 6, 7] (b61 l) (yes_mk ?_))
  refine wpA_block (wpA_loop (α := { i : Nat // i ≤ l.length }) (fun i => st61 l i.1) (fun i => l.length - i.1) (fun i => ?_) ⟨0, Nat.zero_le _⟩)
  obtain ⟨i, hi⟩ := i
  dsimp only
  rw [code61b]
  refine evs_ok hG [0, 2, 5, 6, 7] (c61 l i) ?_
  rcases Nat.lt_or_ge i l.length with hlt | hge
  · rw [ltI_true (show (i : Int) < (l.length : Int) by omega)]
    refine yes_mk ?_
    have hgd : List.getD l i (ByteArray.mk (Array.mk [])) = l[i] := by rw [List.getD_eq_getElem?_getD, List.getElem?_eq_getElem hlt]; rfl
    have f3 : fwrap .i64 ((i : Int) + 1) = ((i + 1 : Nat) : Int) := fwrap_i64 (by omega) (by omega)
    refine wpA_seq (wpA_block (evs_ok hG [0, 2, 3, 4, 5, 6, 7] (d61 l i) ?_))
    simp only [Int.toNat_natCast, hgd, decide_eq_true (show (i : Int) < (l.length : Int) by omega), Bool.true_and]
    refine yes_mk ?_
    obtain ⟨h1, h2⟩ := hp l[i] (List.getElem_mem hlt)
    have h4 := findGo_no l[i] (l.take i) 0 (distB_get hd i l[i] (List.getElem?_eq_getElem hlt))
    generalize l[i] = a at *
    obtain ⟨⟨a⟩⟩ := a
    have h5 : (l.take i).length < 4611686018427387904 := by rw [List.length_take]; omega
    have h6 : ltI (-1) 0 = true := rfl
    refine (evd_ok hG [0, 2, 5, 6, 7] (e61 l i a) ?_).wpA
    have h1' : partB a = true := h1
    simp only [h1', ltI_false (show ¬ (128 : Int) < ((ByteArray.size ⟨⟨a⟩⟩ : Nat) : Int) by omega), Int.toNat_natCast, h4, h6, decide_eq_true h5, decide_eq_true (show (i : Int) ≤ (l.length : Int) by omega), decide_true, decide_false, Bool.not_true, Bool.not_false, Bool.true_and, Bool.and_true, Bool.or_true, Bool.true_or, Bool.false_or, Bool.or_false, Bool.and_self, cond_true, cond_false, reduceCtorEq]
    refine yes_mk ?_
    refine (evd_ok hG [0, 2, 5, 6, 7] (f61 l i) ?_).wpA
    simp only [f3]
    exact yes_mk ⟨⟨i + 1, hlt⟩, [], 0, by dsimp only; omega, rfl, vw61 l (i + 1)⟩
  · rw [ltI_false (show ¬ (i : Int) < (l.length : Int) by omega)]
    refine yes_mk ?_
    refine (evd_ok hG [2] (g61 l i) ?_).wpA
    simp only [ltI_false (show ¬ (256 : Int) < (l.length : Int) by omega), Bool.not_false]
    refine yes_mk ?_
    show finK Tryz.prog Tryz.f61 [] kr ⟨slots 31 [(2, .v (.bool true))], []⟩ = true
    rw [h61]
    exact hkr

theorem h60 (b : Bool) (kr : KR) : finK Tryz.prog Tryz.f60 [] kr ⟨slots 12 [(2, .v (.bool b))], []⟩ = (kr (HR.ret (HV.v (Value.bool b))) []) := by kernel_rfl
theorem code60 : Tryz.f60.body = some (pc 60 []) := by kernel_rfl
theorem do60 : PureDo Tryz.prog H4 60 [tx [82]] (.v (.bool true)) := by
  intro w0 kr h0 hkr
  refine does_wpA Tryz.func60 code60 (n := 12) (by kernel_rfl) ?_
  refine (evd_ok (gamOK32 h0) [2] a60 (yes_mk ?_)).wpA
  show finK Tryz.prog Tryz.f60 [] kr ⟨slots 12 [(2, .v (.bool true))], []⟩ = true
  rw [h60]
  exact hkr
end Go.Proofs.YtiaeljbnhdhfcaaGreatDoor

namespace Go.Proofs.YtiaeljbnhdhfcaaGreatDoor
open Go Go.RowKit Go.Lx Go.Mo

def namesP (args : List HV) : Option (Bool × HV) := match args with
  | [.d (.list .str) l] => some (namesB l, .v (.bool true))
  | _ => none
def fullP (args : List HV) : Option (Bool × HV) := match args with
  | [.v (.string a)] => some (beqS a bR, .v (.bool true))
  | _ => none
noncomputable def G33 : Gam := addP 60 fullP (addP 61 namesP G8)
theorem n30 (k : KX) : evd G33 6 (pc 30 []) ⟨argT 0 [.d .nd ndN] ⟨190, .nil⟩, []⟩ (fun x st => k x (st.keep [2])) = ((k HX.ret ⟨slots 190 [(2, (HV.v (Value.bool Bool.true)))], [(Ob.box 37 (HV.d Cd.nd (Nd.mk 0 (ByteArray.mk (Array.mk [])) [] [] Bool.false (ByteArray.mk (Array.mk [])) 0 []))), (Ob.map Cd.str (Cd.int IntKind.i64) [(Prod.mk (ByteArray.mk (Array.mk [110, 117, 108, 108])) 0), (Prod.mk (ByteArray.mk (Array.mk [98, 111, 111, 108, 101, 97, 110])) 1), (Prod.mk (ByteArray.mk (Array.mk [105, 110, 116])) 2), (Prod.mk (ByteArray.mk (Array.mk [108, 111, 110, 103])) 3), (Prod.mk (ByteArray.mk (Array.mk [102, 108, 111, 97, 116])) 4), (Prod.mk (ByteArray.mk (Array.mk [100, 111, 117, 98, 108, 101])) 5), (Prod.mk (ByteArray.mk (Array.mk [98, 121, 116, 101, 115])) 6), (Prod.mk (ByteArray.mk (Array.mk [115, 116, 114, 105, 110, 103])) 7)])]⟩) && Bool.true) := by kernel_rfl
theorem a30 (fs : List Fld) (k : KX) : evs G33 6 [pc 30 [0], pc 30 [1, 0], pc 30 [1, 1, 0], pc 30 [1, 1, 1, 0], pc 30 [1, 1, 1, 1, 0], pc 30 [1, 1, 1, 1, 1, 0]] ⟨argT 0 [.d .nd (ndR fs)] ⟨190, .nil⟩, []⟩ (fun x st => k x (st.keep [1, 2, 6, 7])) = ((k HX.normal ⟨slots 190 [(1, (HV.ptr 0 0)), (2, (HV.v (Value.bool Bool.false))), (6, (HV.v (Value.func (Fn.func 61) (Array.mk []) (Array.mk [])))), (7, (HV.v (Value.slice Option.none 0 0)))], [(Ob.box 37 (HV.d Cd.nd (Nd.mk 8 (ByteArray.mk (Array.mk [82])) fs [] Bool.false (ByteArray.mk (Array.mk [])) 0 []))), (Ob.map Cd.str (Cd.int IntKind.i64) [(Prod.mk (ByteArray.mk (Array.mk [110, 117, 108, 108])) 0), (Prod.mk (ByteArray.mk (Array.mk [98, 111, 111, 108, 101, 97, 110])) 1), (Prod.mk (ByteArray.mk (Array.mk [105, 110, 116])) 2), (Prod.mk (ByteArray.mk (Array.mk [108, 111, 110, 103])) 3), (Prod.mk (ByteArray.mk (Array.mk [102, 108, 111, 97, 116])) 4), (Prod.mk (ByteArray.mk (Array.mk [100, 111, 117, 98, 108, 101])) 5), (Prod.mk (ByteArray.mk (Array.mk [98, 121, 116, 101, 115])) 6), (Prod.mk (ByteArray.mk (Array.mk [115, 116, 114, 105, 110, 103])) 7)])]⟩) && Bool.true) := by kernel_rfl
def fn61 : HV := .v (.func (Fn.func 61) (Array.mk []) (Array.mk []))
def tm30 (fs : List Fld) (v m i : Nat) : Tm := slots 190 [(1, .ptr 0 0), (2, .v (.bool false)), (6, fn61), (7, .own .str 1 v m), (125, .d (.list .fld) fs), (126, i64 fs.length), (127, i64 i)]
def tm30b (fs : List Fld) (v m i : Nat) : Tm := slots 190 [(1, .ptr 0 0), (2, .v (.bool false)), (6, fn61), (7, .own .str 1 v m), (9, .ptr 2 0), (125, .d (.list .fld) fs), (126, i64 fs.length), (127, i64 i)]
def ob30 (fs : List Fld) (v fp : Nat) (ns : List ByteArray) : List Ob := [.box 37 (.d .nd (ndR fs)), .row .str v fp ns]
def st30 (fs : List Fld) (ns : List ByteArray) (i : Nat) : St := ⟨tm30 fs 0 ns.length i, ob30 fs 0 0 ns⟩
def bxF (nm : ByteArray) (t : Int) : Ob := .box 45 (.d .fld (Fld.mk nm t false zJ))
theorem b30 (fs : List Fld) (k : KX) : evs G33 6 [pc 30 [1, 1, 1, 1, 1, 1, 0, 0]] ⟨slots 190 [(1, .ptr 0 0), (2, .v (.bool false)), (6, fn61), (7, .own .str 1 0 0)], ob30 fs 0 0 []⟩ (fun x st => k x (st.keep [1, 2, 6, 7, 125, 126, 127])) = (k HX.normal ⟨slots 190 [(1, (HV.ptr 0 0)), (2, (HV.v (Value.bool Bool.false))), (6, (HV.v (Value.func (Fn.func 61) (Array.mk []) (Array.mk [])))), (7, (HV.own Cd.str 1 0 0)), (125, (HV.d (Cd.list Cd.fld) fs)), (126, (HV.v (Value.int IntKind.i64 (((List.length fs) : Nat) : Int)))), (127, (HV.v (Value.int IntKind.i64 0)))], [(Ob.box 37 (HV.d Cd.nd (Nd.mk 8 (ByteArray.mk (Array.mk [82])) fs [] Bool.false (ByteArray.mk (Array.mk [])) 0 []))), (Ob.row Cd.str 0 0 [])]⟩) := by kernel_rfl
theorem c30 (fs : List Fld) (ns : List ByteArray) (i : Nat) (k : KX) : evs G33 6 [pc 30 [1, 1, 1, 1, 1, 1, 0, 1, 0, 0, 0], pc 30 [1, 1, 1, 1, 1, 1, 0, 1, 0, 0, 1, 0]] (st30 fs ns i) (fun x st => k x (st.keep [1, 2, 6, 7, 125, 126, 127])) = (bif (ltI ((i : Nat) : Int) (((List.length fs) : Nat) : Int)) then (k HX.normal ⟨slots 190 [(1, (HV.ptr 0 0)), (2, (HV.v (Value.bool Bool.false))), (6, (HV.v (Value.func (Fn.func 61) (Array.mk []) (Array.mk [])))), (7, (HV.own Cd.str 1 0 (List.length ns))), (125, (HV.d (Cd.list Cd.fld) fs)), (126, (HV.v (Value.int IntKind.i64 (((List.length fs) : Nat) : Int)))), (127, (HV.v (Value.int IntKind.i64 ((i : Nat) : Int))))], [(Ob.box 37 (HV.d Cd.nd (Nd.mk 8 (ByteArray.mk (Array.mk [82])) fs [] Bool.false (ByteArray.mk (Array.mk [])) 0 []))), (Ob.row Cd.str 0 0 ns)]⟩) else (k (HX.exit 1) ⟨slots 190 [(1, (HV.ptr 0 0)), (2, (HV.v (Value.bool Bool.false))), (6, (HV.v (Value.func (Fn.func 61) (Array.mk []) (Array.mk [])))), (7, (HV.own Cd.str 1 0 (List.length ns))), (125, (HV.d (Cd.list Cd.fld) fs)), (126, (HV.v (Value.int IntKind.i64 (((List.length fs) : Nat) : Int)))), (127, (HV.v (Value.int IntKind.i64 ((i : Nat) : Int))))], [(Ob.box 37 (HV.d Cd.nd (Nd.mk 8 (ByteArray.mk (Array.mk [82])) fs [] Bool.false (ByteArray.mk (Array.mk [])) 0 []))), (Ob.row Cd.str 0 0 ns)]⟩)) := by kernel_rfl
theorem d30 (fs : List Fld) (ns : List ByteArray) (i : Nat) (k : KX) : evs G33 6 [pc 30 [1, 1, 1, 1, 1, 1, 0, 1, 0, 0, 1, 1, 0, 0, 0]] (st30 fs ns i) (fun x st => k x (st.keep [1, 2, 6, 7, 9, 125, 126, 127])) = ((decide (((i : Nat) : Int) < (((List.length fs) : Nat) : Int))) && (k HX.normal ⟨slots 190 [(1, (HV.ptr 0 0)), (2, (HV.v (Value.bool Bool.false))), (6, (HV.v (Value.func (Fn.func 61) (Array.mk []) (Array.mk [])))), (7, (HV.own Cd.str 1 0 (List.length ns))), (9, (HV.ptr 2 0)), (125, (HV.d (Cd.list Cd.fld) fs)), (126, (HV.v (Value.int IntKind.i64 (((List.length fs) : Nat) : Int)))), (127, (HV.v (Value.int IntKind.i64 ((i : Nat) : Int))))], [(Ob.box 37 (HV.d Cd.nd (Nd.mk 8 (ByteArray.mk (Array.mk [82])) fs [] Bool.false (ByteArray.mk (Array.mk [])) 0 []))), (Ob.row Cd.str 0 0 ns), (Ob.box 45 (HV.d Cd.fld (List.getD fs (Int.toNat ((i : Nat) : Int)) (Fld.mk (ByteArray.mk (Array.mk [])) 0 Bool.false (J.mk 0 Bool.false (Dec.mk Bool.false (ByteArray.mk (Array.mk [])) 0) (ByteArray.mk (Array.mk [])) [] [])))))]⟩)) := by kernel_rfl
theorem e30 (fs : List Fld) (ns : List ByteArray) (i : Nat) (nm : ByteArray) (t : Int) (k : KX) : evs G33 6 [pc 30 [1, 1, 1, 1, 1, 1, 0, 1, 0, 0, 1, 1, 0, 0, 1, 0]] ⟨tm30b fs 0 ns.length i, ob30 fs 0 0 ns ++ [bxF nm t]⟩ (fun x st => k x (st.keep [1, 2, 6, 7, 9, 125, 126, 127])) = ((((decide ((List.length ns) ≤ (List.length ns))) && Bool.true) && (decide ((((List.length ns) + 1) * 16) ≤ 140737488355328))) && (k HX.normal ⟨slots 190 [(1, (HV.ptr 0 0)), (2, (HV.v (Value.bool Bool.false))), (6, (HV.v (Value.func (Fn.func 61) (Array.mk []) (Array.mk [])))), (7, (HV.own Cd.str 1 1 ((List.length ns) + 1))), (9, (HV.ptr 2 0)), (125, (HV.d (Cd.list Cd.fld) fs)), (126, (HV.v (Value.int IntKind.i64 (((List.length fs) : Nat) : Int)))), (127, (HV.v (Value.int IntKind.i64 ((i : Nat) : Int))))], [(Ob.box 37 (HV.d Cd.nd (Nd.mk 8 (ByteArray.mk (Array.mk [82])) fs [] Bool.false (ByteArray.mk (Array.mk [])) 0 []))), (Ob.row Cd.str 1 0 ((List.take (List.length ns) ns) ++ [nm])), (Ob.box 45 (HV.d Cd.fld (Fld.mk nm t Bool.false (J.mk 0 Bool.false (Dec.mk Bool.false (ByteArray.mk (Array.mk [])) 0) (ByteArray.mk (Array.mk [])) [] []))))]⟩)) := by kernel_rfl
theorem f30 (fs : List Fld) (ns : List ByteArray) (m i : Nat) (nm : ByteArray) (t : Int) (k : KX) : evd G33 6 (pc 30 [1, 1, 1, 1, 1, 1, 0, 1, 0, 0, 1, 1, 0, 0, 1, 1]) ⟨tm30b fs 1 m i, ob30 fs 1 0 ns ++ [bxF nm t]⟩ (fun x st => k x (st.keep [1, 2, 6, 7, 125, 126, 127])) = (k HX.normal ⟨slots 190 [(1, (HV.ptr 0 0)), (2, (HV.v (Value.bool Bool.false))), (6, (HV.v (Value.func (Fn.func 61) (Array.mk []) (Array.mk [])))), (7, (HV.own Cd.str 1 1 m)), (125, (HV.d (Cd.list Cd.fld) fs)), (126, (HV.v (Value.int IntKind.i64 (((List.length fs) : Nat) : Int)))), (127, (HV.v (Value.int IntKind.i64 ((i : Nat) : Int))))], [(Ob.box 37 (HV.d Cd.nd (Nd.mk 8 (ByteArray.mk (Array.mk [82])) fs [] Bool.false (ByteArray.mk (Array.mk [])) 0 []))), (Ob.row Cd.str 1 0 ns), (Ob.box 45 (HV.d Cd.fld (Fld.mk nm t Bool.false (J.mk 0 Bool.false (Dec.mk Bool.false (ByteArray.mk (Array.mk [])) 0) (ByteArray.mk (Array.mk [])) [] []))))]⟩) := by kernel_rfl
theorem g30 (fs : List Fld) (ns : List ByteArray) (m i : Nat) (nm : ByteArray) (t : Int) (k : KX) : evd G33 6 (pc 30 [1, 1, 1, 1, 1, 1, 0, 1, 0, 0, 1, 1, 1]) ⟨tm30 fs 1 m i, ob30 fs 1 0 ns ++ [bxF nm t]⟩ (fun x st => k x (st.keep [1, 2, 6, 7, 125, 126, 127])) = (k HX.normal ⟨slots 190 [(1, (HV.ptr 0 0)), (2, (HV.v (Value.bool Bool.false))), (6, (HV.v (Value.func (Fn.func 61) (Array.mk []) (Array.mk [])))), (7, (HV.own Cd.str 1 1 m)), (125, (HV.d (Cd.list Cd.fld) fs)), (126, (HV.v (Value.int IntKind.i64 (((List.length fs) : Nat) : Int)))), (127, (HV.v (Value.int IntKind.i64 (fwrap IntKind.i64 (((i : Nat) : Int) + 1)))))], [(Ob.box 37 (HV.d Cd.nd (Nd.mk 8 (ByteArray.mk (Array.mk [82])) fs [] Bool.false (ByteArray.mk (Array.mk [])) 0 []))), (Ob.row Cd.str 1 0 ns), (Ob.box 45 (HV.d Cd.fld (Fld.mk nm t Bool.false (J.mk 0 Bool.false (Dec.mk Bool.false (ByteArray.mk (Array.mk [])) 0) (ByteArray.mk (Array.mk [])) [] []))))]⟩) := by kernel_rfl
theorem h30 (fs : List Fld) (ns : List ByteArray) (i : Nat) (k : KX) : evd G33 6 (pc 30 [1, 1, 1, 1, 1, 1, 1]) (st30 fs ns i) (fun x st => k x (st.keep [2])) = ((((decide ((List.length ns) ≤ (List.length ns))) && Bool.true) && (namesB (List.take (List.length ns) ns))) && (k HX.ret ⟨slots 190 [(2, (HV.v (Value.bool Bool.true)))], [(Ob.box 37 (HV.d Cd.nd (Nd.mk 8 (ByteArray.mk (Array.mk [82])) fs [] Bool.false (ByteArray.mk (Array.mk [])) 0 []))), (Ob.row Cd.str 0 (Max.max 0 (List.length ns)) ns)]⟩)) := by kernel_rfl
theorem i30 (n : Nd) (o : Ob) (kr : KR) : finK Tryz.prog Tryz.f30 [] kr ⟨slots 190 [(2, .v (.bool true))], [.box 37 (.d .nd n), o]⟩ = (kr (HR.ret (HV.v (Value.bool Bool.true))) []) := by kernel_rfl
theorem code30n : Tryz.f30.body = some (pc 30 []) := by kernel_rfl
theorem code30 : Tryz.f30.body = some (seqs [pc 30 [0], pc 30 [1, 0], pc 30 [1, 1, 0], pc 30 [1, 1, 1, 0], pc 30 [1, 1, 1, 1, 0], pc 30 [1, 1, 1, 1, 1, 0]] (.seq (seqs [pc 30 [1, 1, 1, 1, 1, 1, 0, 0]] (.block 1 (.loop (pc 30 [1, 1, 1, 1, 1, 1, 0, 1, 0, 0])))) (pc 30 [1, 1, 1, 1, 1, 1, 1]))) := by kernel_rfl
theorem code30b : pc 30 [1, 1, 1, 1, 1, 1, 0, 1, 0, 0] = seqs [pc 30 [1, 1, 1, 1, 1, 1, 0, 1, 0, 0, 0], pc 30 [1, 1, 1, 1, 1, 1, 0, 1, 0, 0, 1, 0]] (.seq (.block 2 (seqs [pc 30 [1, 1, 1, 1, 1, 1, 0, 1, 0, 0, 1, 1, 0, 0, 0]] (seqs [pc 30 [1, 1, 1, 1, 1, 1, 0, 1, 0, 0, 1, 1, 0, 0, 1, 0]] (pc 30 [1, 1, 1, 1, 1, 1, 0, 1, 0, 0, 1, 1, 0, 0, 1, 1])))) (pc 30 [1, 1, 1, 1, 1, 1, 0, 1, 0, 0, 1, 1, 1])) := by kernel_rfl
theorem vw30a (fs : List Fld) : vw [] 1 ⟨slots 190 [(1, .ptr 0 0), (2, .v (.bool false)), (6, fn61), (7, .v (.slice none 0 0))], [.box 37 (.d .nd (ndR fs)), plainM]⟩ = ⟨slots 190 [(1, .ptr 0 0), (2, .v (.bool false)), (6, fn61), (7, .v (.slice none 0 0))], [.box 37 (.d .nd (ndR fs))]⟩ := by kernel_rfl
theorem vw30b (fs : List Fld) (ns : List ByteArray) (m i : Nat) (o : Ob) : vw [(1, 1, 0)] 2 ⟨tm30 fs 1 m i, ob30 fs 1 0 ns ++ [o]⟩ = ⟨tm30 fs 0 m i, ob30 fs 0 0 ns⟩ := by kernel_rfl

theorem gamOK33 {w0 : World} (h0 : H4 w0) : GamOK Tryz.prog w0 G33 := by
  refine addP_ok (addP_ok (gamOK8 h0) ⟨_, Tryz.func61, rfl⟩ ?_) ⟨_, Tryz.func60, rfl⟩ ?_
  · intro args r h h1
    unfold namesP at h
    split at h
    · cases h; exact pureAns lasts4 (do61 h1) rfl rfl h0
    · cases h
  · intro args r h h1
    unfold fullP at h
    split at h
    · cases h
      obtain rfl := beqS_iff.1 h1
      exact pureAns lasts4 do60 rfl rfl h0
    · cases h

theorem do30n : PureDo Tryz.prog H4 30 [.d .nd ndN] (.v (.bool true)) := by
  intro w0 kr h0 hkr
  refine does_wpA Tryz.func30 code30n (n := 190) (by kernel_rfl) ?_
  refine (evd_ok (gamOK33 h0) [2] n30 ?_).wpA
  rw [Bool.and_true]
  refine yes_mk ?_
  refine fin_cast (st' := ⟨slots 190 [(2, .v (.bool true))], [.box 37 (.d .nd ndN), plainM]⟩) (by kernel_rfl) ?_
  rw [i30]
  exact hkr

theorem do30 {fs : List Fld} (hl : fs.length ≤ 256) (hf : ∀ f ∈ fs, f.has = false ∧ f.dflt = zJ) (hn : namesB (fs.map Fld.name) = true) : PureDo Tryz.prog H4 30 [.d .nd (ndR fs)] (.v (.bool true)) := by
  intro w0 kr h0 hkr
  have hG := gamOK33 h0
  refine does_wpA Tryz.func30 code30 (n := 190) (by kernel_rfl) ?_
  refine evs_ok hG [1, 2, 6, 7] (a30 fs) ?_
  rw [Bool.and_true]
  refine yes_mk ?_
  refine wpA_view [] 1 rfl ?_
  refine wpA_cast (vw30a fs) ?_
  refine wpA_nil .str 7 (by decide) (Or.inl rfl) ?_
  refine wpA_seq (evs_ok hG [1, 2, 6, 7, 125, 126, 127] (b30 fs) (yes_mk ?_))
  refine wpA_block (wpA_loop (α := { i : Nat // i ≤ fs.length }) (fun i => st30 fs ((fs.map Fld.name).take i.1) i.1) (fun i => fs.length - i.1) (fun i => ?_) ⟨0, Nat.zero_le _⟩)
  obtain ⟨i, hi⟩ := i
  dsimp only
  have hnl : ((fs.map Fld.name).take i).length = i := by rw [List.length_take, List.length_map]; omega
  rw [code30b]
  refine evs_ok hG [1, 2, 6, 7, 125, 126, 127] (c30 fs ((fs.map Fld.name).take i) i) ?_
  rcases Nat.lt_or_ge i fs.length with hlt | hge
  · rw [ltI_true (show (i : Int) < (fs.length : Int) by omega)]
    refine yes_mk ?_
    have hgd : List.getD fs i (Fld.mk (ByteArray.mk (Array.mk [])) 0 false (J.mk 0 false (Dec.mk false (ByteArray.mk (Array.mk [])) 0) (ByteArray.mk (Array.mk [])) [] [])) = fs[i] := by rw [List.getD_eq_getElem?_getD, List.getElem?_eq_getElem hlt]; rfl
    have f3 : fwrap .i64 ((i : Int) + 1) = ((i + 1 : Nat) : Int) := fwrap_i64 (by omega) (by omega)
    obtain ⟨h1, h2⟩ := hf fs[i] (List.getElem_mem hlt)
    have htk : (fs.map Fld.name).take i ++ [fs[i].name] = (fs.map Fld.name).take (i + 1) := by
      have := List.take_append_getElem (l := fs.map Fld.name) (i := i) (by rw [List.length_map]; exact hlt)
      rw [List.getElem_map] at this; exact this
    refine wpA_seq (wpA_block (evs_ok hG [1, 2, 6, 7, 9, 125, 126, 127] (d30 fs ((fs.map Fld.name).take i) i) ?_))
    simp only [Int.toNat_natCast, hgd, decide_eq_true (show (i : Int) < (fs.length : Int) by omega), Bool.true_and]
    generalize fs[i] = f at *
    obtain ⟨nm, t, h, d⟩ := f
    dsimp only at h1 h2 htk
    subst h1 h2
    refine yes_mk ?_
    refine evs_ok hG [1, 2, 6, 7, 9, 125, 126, 127] (e30 fs ((fs.map Fld.name).take i) i nm t) ?_
    have hnl2 : ((fs.map Fld.name).take (i + 1)).length = i + 1 := by rw [List.length_take, List.length_map]; omega
    simp only [hnl, List.take_length, List.take_take, Nat.min_self, htk, Nat.le_refl, decide_true, decide_eq_true (show (i + 1) * 16 ≤ 140737488355328 by omega), Bool.true_and]
    refine yes_mk ?_
    refine (evd_ok hG [1, 2, 6, 7, 125, 126, 127] (f30 fs ((fs.map Fld.name).take (i + 1)) (i + 1) i nm t) (yes_mk ?_)).wpA
    refine (evd_ok hG [1, 2, 6, 7, 125, 126, 127] (g30 fs ((fs.map Fld.name).take (i + 1)) (i + 1) i nm t) ?_).wpA
    simp only [f3]
    refine yes_mk ⟨⟨i + 1, hlt⟩, [(1, 1, 0)], 2, by dsimp only; omega, rfl, ?_⟩
    refine Eq.trans (vw30b fs ((fs.map Fld.name).take (i + 1)) (i + 1) (i + 1) _) ?_
    unfold st30
    dsimp only
    rw [hnl2]
  · have hil : i = fs.length := by omega
    have htl : (fs.map Fld.name).take i = fs.map Fld.name := List.take_of_length_le (by rw [List.length_map]; omega)
    rw [ltI_false (show ¬ (i : Int) < (fs.length : Int) by omega)]
    refine yes_mk ?_
    rw [htl]
    refine (evd_ok hG [2] (h30 fs (fs.map Fld.name) i) ?_).wpA
    simp only [List.take_length, hn, Nat.le_refl, decide_true, Bool.true_and]
    refine yes_mk ?_
    refine fin_cast (st' := ⟨slots 190 [(2, .v (.bool true))], [.box 37 (.d .nd (ndR fs)), .row .str 0 (max 0 (fs.map Fld.name).length) (fs.map Fld.name)]⟩) (by kernel_rfl) ?_
    rw [i30]
    exact hkr
end Go.Proofs.YtiaeljbnhdhfcaaGreatDoor
