/- avro: record, schema. -/
import Derived.Test.YtiaeljbnhdhfcaaGreatDoorP7
namespace Go.Proofs.YtiaeljbnhdhfcaaGreatDoor
open Go Go.RowKit Go.Lx Go.Mo

/-- A field's name, and whether it is of the record itself (else null). -/
abbrev Item := List UInt8 × Bool
def itemJ (p : Item) : J := fJ p.1 (bif p.2 then [82] else [110, 117, 108, 108])
def nulls (l : List Item) : Nat := (l.filter fun p => !p.2).length
/-- The fields; k: the next node's number. -/
def fldsFrom : Nat → List Item → List Fld
  | _, [] => []
  | k, p :: l => bif p.2 then ⟨⟨⟨p.1⟩⟩, 0, false, zJ⟩ :: fldsFrom k l else ⟨⟨⟨p.1⟩⟩, (k : Int), false, zJ⟩ :: fldsFrom (k + 1) l
def namesOf (l : List Item) : List ByteArray := l.map fun p => ⟨⟨p.1⟩⟩
def bName : ByteArray := ⟨⟨[110, 97, 109, 101]⟩⟩
def bType : ByteArray := ⟨⟨[116, 121, 112, 101]⟩⟩
def bDef : ByteArray := ⟨⟨[100, 101, 102, 97, 117, 108, 116]⟩⟩
def bFields : ByteArray := ⟨⟨[102, 105, 101, 108, 100, 115]⟩⟩
def bSpace : ByteArray := ⟨⟨[110, 97, 109, 101, 115, 112, 97, 99, 101]⟩⟩

/-- May a field be read? -/
def itemOk (n : Nat) (p : Item) : Prop := getOk n (itemJ p) bName = true ∧ getOk n (itemJ p) bType = true ∧ getOk n (itemJ p) bDef = true ∧ partB p.1 = true ∧ p.1.length ≤ 128

theorem fldsFrom_length : ∀ (l : List Item) (k : Nat), (fldsFrom k l).length = l.length
  | [], _ => rfl
  | p :: l, k => by simp only [fldsFrom]; cases p.2 <;> simp [fldsFrom_length l]

theorem nulls_snoc (l : List Item) (p : Item) : nulls (l ++ [p]) = nulls l + (bif p.2 then 0 else 1) := by
  unfold nulls
  rw [List.filter_append, List.length_append]
  cases h : p.2 <;> simp [h]

theorem fldsFrom_snoc : ∀ (l : List Item) (k : Nat) (p : Item), fldsFrom k (l ++ [p]) = fldsFrom k l ++ [⟨⟨⟨p.1⟩⟩, bif p.2 then 0 else ((k + nulls l : Nat) : Int), false, zJ⟩]
  | [], k, p => by simp only [List.nil_append, fldsFrom, nulls]; cases p.2 <;> simp
  | q :: l, k, p => by
    simp only [List.cons_append, fldsFrom]
    have hn : nulls (q :: l) = nulls l + (bif q.2 then 0 else 1) := by unfold nulls; cases h : q.2 <;> simp [h]
    cases h : q.2 with
    | true => rw [h] at hn; simp only [cond_true] at hn ⊢; rw [fldsFrom_snoc l k p, hn]; rfl
    | false =>
      rw [h] at hn; simp only [cond_false] at hn ⊢
      rw [fldsFrom_snoc l (k + 1) p, hn, show k + 1 + nulls l = k + (nulls l + 1) by omega]; rfl

theorem gamOK26 {w0 : World} (h0 : H4 w0) {n : Nat} (hn : n ≤ 1000) : GamOK Tryz.prog w0 (G26 n) := by
  refine addP_ok (addP_ok (addP_ok (gamOK24 h0 hn) ⟨_, Tryz.func97, rfl⟩ ?_) ⟨_, Tryz.func62, rfl⟩ ?_) ⟨_, Tryz.func56, rfl⟩ ?_
  · intro args r h h1
    unfold avTextP at h
    split at h
    · cases h; exact pureAns lasts4 (do97 hn h1) rfl rfl h0
    · cases h
  · intro args r h h1
    unfold partP at h
    split at h
    · cases h; exact pureAns lasts4 (do62 h1) rfl rfl h0
    · cases h
  · intro args r h h1
    unfold spaceP at h
    split at h
    · cases h; exact pureAns lasts4 (do56 _ (of_decide_eq_true h1)) rfl rfl h0
    · cases h

theorem gamOK25 {w0 : World} (h0 : H4 w0) {n : Nat} (hn : n ≤ 1000) : GamOK Tryz.prog w0 (G25 n) := by
  refine addP_ok (gamOK24 h0 hn) ⟨_, Tryz.func97, rfl⟩ ?_
  intro args r h h1
  unfold avTextP at h
  split at h
  · cases h; exact pureAns lasts4 (do97 hn h1) rfl rfl h0
  · cases h

theorem vw51a (l : List J) (i m v m2 v2 fp : Nat) (xs : List Nd) (es : Es) (fs : List Fld) (o1 o2 o3 : Ob) : vw [(7, 1, 0), (10, 1, 0)] 11 ⟨tm51 l i 1 m, [.box 67 (.st [.own .nd 7 1 m2, .map 1]), mapE [(bR, 0)], .box 43 (.d .json (topV l)), .box 43 (.d .json (topV l)), .box 43 (.d .json zJ), plainM, ndB, .row .nd 1 0 xs, .box 43 (jk 4 [] l []), mapE es, .row .fld 1 fp fs, o1, o2, o3]⟩ =
    ⟨tm51 l i 0 m, [.box 67 (.st [.own .nd 7 0 m2, .map 1]), mapE [(bR, 0)], .box 43 (.d .json (topV l)), .box 43 (.d .json (topV l)), .box 43 (.d .json zJ), plainM, ndB, .row .nd 0 0 xs, .box 43 (jk 4 [] l []), mapE es, .row .fld 0 fp fs]⟩ := by kernel_rfl
theorem vw51b (l : List J) (i m v m2 v2 fp : Nat) (xs : List Nd) (es : Es) (fs : List Fld) (o1 o2 o3 : Ob) : vw [(10, 1, 0)] 11 ⟨tm51 l i 1 m, [.box 67 (.st [.own .nd 7 0 m2, .map 1]), mapE [(bR, 0)], .box 43 (.d .json (topV l)), .box 43 (.d .json (topV l)), .box 43 (.d .json zJ), plainM, ndB, .row .nd 0 0 xs, .box 43 (jk 4 [] l []), mapE es, .row .fld 1 fp fs, o1, o2, o3]⟩ =
    ⟨tm51 l i 0 m, [.box 67 (.st [.own .nd 7 0 m2, .map 1]), mapE [(bR, 0)], .box 43 (.d .json (topV l)), .box 43 (.d .json (topV l)), .box 43 (.d .json zJ), plainM, ndB, .row .nd 0 0 xs, .box 43 (jk 4 [] l []), mapE es, .row .fld 0 fp fs]⟩ := by kernel_rfl
theorem vw51c (l : List J) (i : Nat) (xs : List Nd) (es : Es) (fs : List Fld) : vw [] 11 (st51 l i xs es fs) = st51 l i xs es fs := by kernel_rfl

theorem wpA_cast {P : Program} {w0 : World} {L0 : List Ob} {c : Code} {st st' : St} {F : HX → St → Prop} (e : st = st') (h : WpA P w0 L0 c st' F) : WpA P w0 L0 c st F := by rw [e]; exact h
theorem vw51a' (l : List J) (i m m2 fp : Nat) (xs : List Nd) (es : Es) (fs : List Fld) (o1 o2 o3 : Ob) (hm : m2 = xs.length) : vw [(7, 1, 0), (10, 1, 0)] 11 ⟨tm51 l i 1 m, [.box 67 (.st [.own .nd 7 1 m2, .map 1]), mapE [(bR, 0)], .box 43 (.d .json (topV l)), .box 43 (.d .json (topV l)), .box 43 (.d .json zJ), plainM, ndB, .row .nd 1 0 xs, .box 43 (jk 4 [] l []), mapE es, .row .fld 1 fp fs, o1, o2, o3]⟩ =
    ⟨tm51 l i 0 m, ob51 l 0 xs es 0 fp fs⟩ := by subst hm; exact vw51a l i m 0 xs.length 0 fp xs es fs o1 o2 o3
theorem vw51b' (l : List J) (i m m2 fp : Nat) (xs : List Nd) (es : Es) (fs : List Fld) (o1 o2 o3 : Ob) (hm : m2 = xs.length) : vw [(10, 1, 0)] 11 ⟨tm51 l i 1 m, [.box 67 (.st [.own .nd 7 0 m2, .map 1]), mapE [(bR, 0)], .box 43 (.d .json (topV l)), .box 43 (.d .json (topV l)), .box 43 (.d .json zJ), plainM, ndB, .row .nd 0 0 xs, .box 43 (jk 4 [] l []), mapE es, .row .fld 1 fp fs, o1, o2, o3]⟩ =
    ⟨tm51 l i 0 m, ob51 l 0 xs es 0 fp fs⟩ := by subst hm; exact vw51b l i m 0 xs.length 0 fp xs es fs o1 o2 o3

/-- Behind so many fields. -/
def sf51 (items : List Item) (i : Nat) : St := st51 (items.map itemJ) i (ndR (fldsFrom 1 (items.take i)) :: List.replicate (nulls (items.take i)) ndN) (onces (namesOf (items.take i))) (fldsFrom 1 (items.take i))

def ob51p (l : List J) : List Ob := [rbox 0 1, mapE [(bR, 0)], .box 43 (.d .json (topV l)), .box 43 (.d .json (topV l)), .box 43 (.d .json zJ), plainM, ndB, .row .nd 0 0 [ndR []], .box 43 (jk 4 [] l [])]

theorem do51 {w0 : World} (h0 : H4 w0) {n : Nat} (hn : n ≤ 1000) {items : List Item} (ht : getOk n (topV (items.map itemJ)) bName = true ∧ getOk n (topV (items.map itemJ)) bSpace = true ∧ getOk n (topV (items.map itemJ)) bFields = true)
    (hi : ∀ p ∈ items, itemOk n p) (hd : distB (namesOf items) = true) {kr : KR}
    (hk : items.length ≤ 256 → kr (.ret (.v (.int .i64 0))) (ob51 (items.map itemJ) 0 (ndR (fldsFrom 1 items) :: List.replicate (nulls items) ndN) (onces (namesOf items)) 0 items.length (fldsFrom 1 items)) = true)
    (hp : 256 < items.length → kr (.panic (.iface 85 (.st [.v (.int .i64 190)]))) (ob51p (items.map itemJ)) = true) :
    Does Tryz.prog w0 51 [.ptr 0 0, .d .json (topV (items.map itemJ)), tx [], .v (.int .i64 0)] [rbox0, mapE []] kr := by
  have hG := gamOK8 h0
  have hG5 := gamOK25 h0 hn
  have hG6 := gamOK26 h0 hn
  refine does_wpA Tryz.func51 code51 (n := 120) (by kernel_rfl) ?_
  refine evs_ok hG5 [0, 3, 9, 10, 11, 13, 14] (a51 n (items.map itemJ)) ?_
  have ht1 : getOk n (topV (items.map itemJ)) (ByteArray.mk (Array.mk [110, 97, 109, 101])) = true := ht.1
  have ht2 : getOk n (topV (items.map itemJ)) (ByteArray.mk (Array.mk [110, 97, 109, 101, 115, 112, 97, 99, 101])) = true := ht.2.1
  have ht3 : getOk n (topV (items.map itemJ)) (ByteArray.mk (Array.mk [102, 105, 101, 108, 100, 115])) = true := ht.2.2
  rw [ht1, ht2, ht3]
  simp only [Bool.true_and, Bool.and_true, Bool.not_not]
  by_cases hle : items.length ≤ 256
  · rw [ltI_false (show ¬ (256 : Int) < (((items.map itemJ).length : Nat) : Int) by rw [List.length_map]; omega)]
    refine yes_mk ?_
    refine wpA_nil .fld 14 (by decide) (Or.inl rfl) ?_
    refine wpA_seq (evs_ok hG [0, 3, 9, 10, 13, 14, 48, 49, 50] (i51 (items.map itemJ)) (yes_mk ?_))
    refine wpA_block (wpA_loop (α := { i : Nat // i ≤ items.length }) (fun i => sf51 items i.1) (fun i => items.length - i.1) (fun i => ?_) ⟨0, Nat.zero_le _⟩)
    obtain ⟨i, hi'⟩ := i
    dsimp only
    have hfl : (fldsFrom 1 (items.take i)).length = i := by rw [fldsFrom_length, List.length_take]; omega
    have hnu : nulls (items.take i) ≤ i := by unfold nulls; exact Nat.le_trans (List.length_filter_le _ _) (by rw [List.length_take]; omega)
    rw [code51b]
    refine evs_ok hG [0, 3, 9, 10, 13, 14, 48, 49, 50] (b51 (items.map itemJ) i (ndR (fldsFrom 1 (items.take i)) :: List.replicate (nulls (items.take i)) ndN) (onces (namesOf (items.take i))) (fldsFrom 1 (items.take i))) ?_
    rcases Nat.lt_or_ge i items.length with hlt | hge
    · rw [ltI_true (show (i : Int) < (((items.map itemJ).length : Nat) : Int) by rw [List.length_map]; omega)]
      refine yes_mk ?_
      refine wpA_seq (wpA_block (evs_ok hG [0, 3, 9, 10, 13, 14, 16, 48, 49, 50] (c51 (items.map itemJ) i (ndR (fldsFrom 1 (items.take i)) :: List.replicate (nulls (items.take i)) ndN) (onces (namesOf (items.take i))) (fldsFrom 1 (items.take i))) ?_))
      have hgd : (items.map itemJ).getD (Int.toNat ((i : Nat) : Int)) (J.mk 0 false (Dec.mk false (ByteArray.mk (Array.mk [])) 0) (ByteArray.mk (Array.mk [])) [] []) = itemJ items[i] := by
        rw [Int.toNat_natCast, List.getD_eq_getElem?_getD, List.getElem?_map, List.getElem?_eq_getElem hlt]; rfl
      rw [hgd]
      simp only [decide_eq_true (show (i : Int) < (((items.map itemJ).length : Nat) : Int) by rw [List.length_map]; omega), Bool.true_and, Bool.and_true, decide_true]
      refine yes_mk ?_
      have hit := hi items[i] (List.getElem_mem hlt)
      obtain ⟨g1, g2, g3, g4, g5⟩ := hit
      have htk : items.take i ++ [items[i]] = items.take (i + 1) := List.take_append_getElem hlt
      have hnm : (namesOf items)[i]? = some ⟨⟨items[i].1⟩⟩ := by unfold namesOf; rw [List.getElem?_map, List.getElem?_eq_getElem hlt]; rfl
      have htn : (namesOf items).take i = namesOf (items.take i) := by unfold namesOf; rw [List.map_take]
      have hno := distB_get hd i _ hnm
      rw [htn] at hno
      have hns : namesOf (items.take i) ++ [⟨⟨items[i].1⟩⟩] = namesOf (items.take (i + 1)) := by rw [← htk]; unfold namesOf; rw [List.map_append]; rfl
      have m0 : mval (k := .str) (v := .int .i64) (onces (namesOf (items.take i))) ⟨⟨items[i].1⟩⟩ = 0 := mval_onces _ _ hno
      have m1 : mput (k := .str) (v := .int .i64) (onces (namesOf (items.take i))) ⟨⟨items[i].1⟩⟩ 1 = onces (namesOf (items.take (i + 1))) := hns ▸ mput_onces _ _ hno
      have m2 : mval (k := .str) (v := .int .i64) (onces (namesOf (items.take (i + 1)))) ⟨⟨items[i].1⟩⟩ = 1 := hns ▸ mval_new _ _ hno
      have f1 : fwrap .i64 ((0 : Int) + 1) = 1 := rfl
      have f3 : fwrap .i64 ((i : Int) + 1) = ((i + 1 : Nat) : Int) := fwrap_i64 (by omega) (by omega)
      have hsz : ltI 128 ((ByteArray.size ⟨⟨items[i].1⟩⟩ : Nat) : Int) = false := ltI_false (by rw [size_bt]; omega)
      have f4 : fwrap .i64 (((1 + nulls (items.take i) + 1 : Nat) : Int) - 1) = ((1 + nulls (items.take i) : Nat) : Int) := by rw [show ((1 + nulls (items.take i) + 1 : Nat) : Int) - 1 = ((1 + nulls (items.take i) : Nat) : Int) by omega]; exact fwrap_i64 (by omega) (by omega)
      have hd2 : decide ((1 + nulls (items.take i) + 1) * 128 ≤ 140737488355328) = true := decide_eq_true (by omega)
      have hd1 : decide ((i + 1) * 144 ≤ 140737488355328) = true := decide_eq_true (by omega)
      generalize hI : items[i] = it at *
      obtain ⟨nm, isR⟩ := it
      dsimp only at *
      have hxl : (ndR (fldsFrom 1 (items.take i)) :: List.replicate (nulls (items.take i)) ndN).length = 1 + nulls (items.take i) := by rw [List.length_cons, List.length_replicate]; omega
      have ht1' : List.take (1 + nulls (items.take i)) (ndR (fldsFrom 1 (items.take i)) :: List.replicate (nulls (items.take i)) ndN) = ndR (fldsFrom 1 (items.take i)) :: List.replicate (nulls (items.take i)) ndN := by rw [← hxl]; exact List.take_length
      have ht2' : List.take i (fldsFrom 1 (items.take i)) = fldsFrom 1 (items.take i) := List.take_of_length_le (by omega)
      cases isR with
      | false =>
        have hj : itemJ (nm, false) = fJ nm [110, 117, 108, 108] := rfl
        rw [hj] at g1 g2 g3 ⊢
        refine evs_ok hG6 [0, 3, 9, 10, 13, 14, 48, 49, 50] (d51 n (items.map itemJ) i (ndR (fldsFrom 1 (items.take i)) :: List.replicate (nulls (items.take i)) ndN) (onces (namesOf (items.take i))) (fldsFrom 1 (items.take i)) nm) ?_
        unfold fJ bName at g1
        unfold fJ bType at g2
        unfold fJ bDef at g3
        simp only [hsz, g1, g2, g3, g4, m0, m1, m2, f1, hfl, hd1, hd2, hxl, f4, ht1', ht2', List.take_length, decide_true, decide_false, Nat.le_refl, Bool.not_true, Bool.not_false, Bool.true_and, Bool.and_true, Bool.or_true, Bool.true_or, Bool.false_or, Bool.or_false, Bool.and_self, cond_true, cond_false, reduceCtorEq]
        refine yes_mk ?_
        refine wpA_view [(7, 1, 0), (10, 1, 0)] 11 rfl ?_
        refine wpA_cast (vw51a' (items.map itemJ) i (i + 1) (1 + nulls (items.take i) + 1) i (ndR (fldsFrom 1 (items.take i)) :: List.replicate (nulls (items.take i)) ndN ++ [ndN]) (onces (namesOf (items.take (i + 1)))) (fldsFrom 1 (items.take i) ++ [(⟨⟨⟨nm⟩⟩, ((1 + nulls (items.take i) : Nat) : Int), false, zJ⟩ : Fld)]) _ _ _ (by rw [List.length_append, hxl]; rfl)) ?_
        have hq1 : fldsFrom 1 (items.take i) ++ [⟨⟨⟨nm⟩⟩, ((1 + nulls (items.take i) : Nat) : Int), false, zJ⟩] = fldsFrom 1 (items.take (i + 1)) := by rw [← htk, fldsFrom_snoc]; rfl
        have hq2 : List.replicate (nulls (items.take i)) ndN ++ [ndN] = List.replicate (nulls (items.take (i + 1))) ndN := by rw [← htk, nulls_snoc]; exact List.replicate_succ'.symm
        have hq3 : (fldsFrom 1 (items.take (i + 1))).length = i + 1 := by rw [fldsFrom_length, List.length_take]; omega
        rw [hq1, List.cons_append, hq2]
        refine (evd_ok hG [0, 3, 9, 10, 13, 14, 48, 49, 50] (e51 (items.map itemJ) i (i + 1) i (fldsFrom 1 (items.take i)) (fldsFrom 1 (items.take (i + 1))) (List.replicate (nulls (items.take (i + 1))) ndN) (onces (namesOf (items.take (i + 1))))) ?_).wpA
        have e0 : decide ((0 : Int) < (((List.replicate (nulls (items.take (i + 1))) ndN).length + 1 : Nat) : Int)) = true := decide_eq_true (by omega)
        have e3 : max i (i + 1) = i + 1 := by omega
        have e4 : List.take (i + 1) (fldsFrom 1 (items.take (i + 1))) = fldsFrom 1 (items.take (i + 1)) := List.take_of_length_le (by omega)
        simp only [e0, e3, e4, hq3, Nat.le_refl, decide_true, Bool.true_and, Bool.and_true]
        refine yes_mk ?_
        refine (evd_ok hG [0, 3, 9, 10, 13, 14, 48, 49, 50] (f51 (items.map itemJ) i (i + 1) (i + 1) (fldsFrom 1 (items.take (i + 1))) (ndR (fldsFrom 1 (items.take (i + 1))) :: List.replicate (nulls (items.take (i + 1))) ndN) (onces (namesOf (items.take (i + 1))))) ?_).wpA
        simp only [f3]
        refine yes_mk ⟨⟨i + 1, hlt⟩, [], 11, by dsimp only; omega, rfl, ?_⟩
        exact Eq.trans (by unfold st51; rw [hq3]; rfl) (vw51c (items.map itemJ) (i + 1) (ndR (fldsFrom 1 (items.take (i + 1))) :: List.replicate (nulls (items.take (i + 1))) ndN) (onces (namesOf (items.take (i + 1)))) (fldsFrom 1 (items.take (i + 1))))
      | true =>
        have hj : itemJ (nm, true) = fJ nm [82] := rfl
        rw [hj] at g1 g2 g3 ⊢
        refine evs_ok hG6 [0, 3, 9, 10, 13, 14, 48, 49, 50] (d51r n (items.map itemJ) i (ndR (fldsFrom 1 (items.take i)) :: List.replicate (nulls (items.take i)) ndN) (onces (namesOf (items.take i))) (fldsFrom 1 (items.take i)) nm) ?_
        unfold fJ bName at g1
        unfold fJ bType at g2
        unfold fJ bDef at g3
        simp only [hsz, g1, g2, g3, g4, m0, m1, m2, f1, hfl, hd1, hd2, hxl, f4, ht1', ht2', List.take_length, decide_true, decide_false, Nat.le_refl, Bool.not_true, Bool.not_false, Bool.true_and, Bool.and_true, Bool.or_true, Bool.true_or, Bool.false_or, Bool.or_false, Bool.and_self, cond_true, cond_false, reduceCtorEq]
        refine yes_mk ?_
        refine wpA_view [(10, 1, 0)] 11 rfl ?_
        refine wpA_cast (vw51b' (items.map itemJ) i (i + 1) (1 + nulls (items.take i)) i (ndR (fldsFrom 1 (items.take i)) :: List.replicate (nulls (items.take i)) ndN) (onces (namesOf (items.take (i + 1)))) (fldsFrom 1 (items.take i) ++ [(⟨⟨⟨nm⟩⟩, 0, false, zJ⟩ : Fld)]) _ _ _ (by rw [hxl])) ?_
        have hq1 : fldsFrom 1 (items.take i) ++ [⟨⟨⟨nm⟩⟩, 0, false, zJ⟩] = fldsFrom 1 (items.take (i + 1)) := by rw [← htk, fldsFrom_snoc]; rfl
        have hq2 : List.replicate (nulls (items.take i)) ndN = List.replicate (nulls (items.take (i + 1))) ndN := by rw [← htk, nulls_snoc]; rfl
        have hq3 : (fldsFrom 1 (items.take (i + 1))).length = i + 1 := by rw [fldsFrom_length, List.length_take]; omega
        rw [hq1, hq2]
        refine (evd_ok hG [0, 3, 9, 10, 13, 14, 48, 49, 50] (e51 (items.map itemJ) i (i + 1) i (fldsFrom 1 (items.take i)) (fldsFrom 1 (items.take (i + 1))) (List.replicate (nulls (items.take (i + 1))) ndN) (onces (namesOf (items.take (i + 1))))) ?_).wpA
        have e0 : decide ((0 : Int) < (((List.replicate (nulls (items.take (i + 1))) ndN).length + 1 : Nat) : Int)) = true := decide_eq_true (by omega)
        have e3 : max i (i + 1) = i + 1 := by omega
        have e4 : List.take (i + 1) (fldsFrom 1 (items.take (i + 1))) = fldsFrom 1 (items.take (i + 1)) := List.take_of_length_le (by omega)
        simp only [e0, e3, e4, hq3, Nat.le_refl, decide_true, Bool.true_and, Bool.and_true]
        refine yes_mk ?_
        refine (evd_ok hG [0, 3, 9, 10, 13, 14, 48, 49, 50] (f51 (items.map itemJ) i (i + 1) (i + 1) (fldsFrom 1 (items.take (i + 1))) (ndR (fldsFrom 1 (items.take (i + 1))) :: List.replicate (nulls (items.take (i + 1))) ndN) (onces (namesOf (items.take (i + 1))))) ?_).wpA
        simp only [f3]
        refine yes_mk ⟨⟨i + 1, hlt⟩, [], 11, by dsimp only; omega, rfl, ?_⟩
        exact Eq.trans (by unfold st51; rw [hq3]; rfl) (vw51c (items.map itemJ) (i + 1) (ndR (fldsFrom 1 (items.take (i + 1))) :: List.replicate (nulls (items.take (i + 1))) ndN) (onces (namesOf (items.take (i + 1)))) (fldsFrom 1 (items.take (i + 1))))
    · have hil : i = items.length := by omega
      rw [ltI_false (show ¬ (i : Int) < (((items.map itemJ).length : Nat) : Int) by rw [List.length_map]; omega)]
      refine yes_mk ?_
      subst hil
      rw [List.take_length] at *
      refine (evd_ok hG [8] (g51 (items.map itemJ) items.length (fldsFrom 1 items).length (fldsFrom 1 items).length (fldsFrom 1 items) (ndR (fldsFrom 1 items) :: List.replicate (nulls items) ndN) (onces (namesOf items))) (yes_mk ?_)).wpA
      show finK Tryz.prog Tryz.f51 [rbox0, mapE []] kr ⟨slots 120 [(8, .v (.int .i64 0))], ob51 (items.map itemJ) 0 (ndR (fldsFrom 1 items) :: List.replicate (nulls items) ndN) (onces (namesOf items)) 0 (fldsFrom 1 items).length (fldsFrom 1 items)⟩ = true
      rw [h51, hfl]
      exact hk hle
  · rw [ltI_true (show (256 : Int) < (((items.map itemJ).length : Nat) : Int) by rw [List.length_map]; omega)]
    refine yes_mk ?_
    exact hp (by omega)
end Go.Proofs.YtiaeljbnhdhfcaaGreatDoor

namespace Go.Mo
open Go Go.RowKit Go.Lx Go.Proofs.YtiaeljbnhdhfcaaGreatDoor
noncomputable def recOk (l : List J) (args : List HV) (L : List Ob) : Bool := yes (args = [.ptr 0 0, .d .json (topV l), tx [], .v (.int .i64 0)] ∧ footOk L [0, 1] [0, 0] = true ∧ subL (subR [0, 1] [0, 0]) L [0, 1] = [rbox0, mapE []])
end Go.Mo
namespace Go.Proofs.YtiaeljbnhdhfcaaGreatDoor
open Go Go.RowKit Go.Lx Go.Mo

noncomputable def recE (l : List J) (sm : Bool) (xs : List Nd) (es : Es) (fs : List Fld) (args : List HV) (L : List Ob) : Option (KR → Bool) :=
  some fun kr => recOk l args L && bif sm then kr (.ret (.v (.int .i64 0))) (putL (supR [0, 1] [0, 0] L.length) [0, 1] [0, 0] (ob51 l 0 xs es 0 fs.length fs) L) else kr (.panic (.iface 85 (.st [.v (.int .i64 190)]))) (putL (supR [0, 1] [0, 0] L.length) [0, 1] [0, 0] (ob51p l) L)
noncomputable def G27 (n : Nat) (l : List J) (sm : Bool) (xs : List Nd) (es : Es) (fs : List Fld) : Gam := addL 51 (recE l sm xs es fs) (G25 n)

theorem a27 (n : Nat) (l : List J) (sm : Bool) (xs : List Nd) (es : Es) (fs : List Fld) (k : KX) : evd (G27 n l sm xs es fs) 6 (pc 27 []) ⟨argT 0 [.ptr 0 0, .d .json (topV l), tx [], .v (.int .i64 0)] ⟨79, .nil⟩, [rbox0, mapE []]⟩ (fun x st => k x (st.keep [8])) = ((getOk n (J.mk 5 Bool.false (Dec.mk Bool.false (ByteArray.mk (Array.mk [])) 0) (ByteArray.mk (Array.mk [])) [(J.mk 3 Bool.false (Dec.mk Bool.false (ByteArray.mk (Array.mk [])) 0) (ByteArray.mk (Array.mk [114, 101, 99, 111, 114, 100])) [] []), (J.mk 3 Bool.false (Dec.mk Bool.false (ByteArray.mk (Array.mk [])) 0) (ByteArray.mk (Array.mk [82])) [] []), (J.mk 4 Bool.false (Dec.mk Bool.false (ByteArray.mk (Array.mk [])) 0) (ByteArray.mk (Array.mk [])) l [])] [(ByteArray.mk (Array.mk [116, 121, 112, 101])), (ByteArray.mk (Array.mk [110, 97, 109, 101])), (ByteArray.mk (Array.mk [102, 105, 101, 108, 100, 115]))]) (ByteArray.mk (Array.mk [116, 121, 112, 101]))) && ((recOk l [(HV.ptr 0 0), (HV.d Cd.json (J.mk 5 Bool.false (Dec.mk Bool.false (ByteArray.mk (Array.mk [])) 0) (ByteArray.mk (Array.mk [])) [(J.mk 3 Bool.false (Dec.mk Bool.false (ByteArray.mk (Array.mk [])) 0) (ByteArray.mk (Array.mk [114, 101, 99, 111, 114, 100])) [] []), (J.mk 3 Bool.false (Dec.mk Bool.false (ByteArray.mk (Array.mk [])) 0) (ByteArray.mk (Array.mk [82])) [] []), (J.mk 4 Bool.false (Dec.mk Bool.false (ByteArray.mk (Array.mk [])) 0) (ByteArray.mk (Array.mk [])) l [])] [(ByteArray.mk (Array.mk [116, 121, 112, 101])), (ByteArray.mk (Array.mk [110, 97, 109, 101])), (ByteArray.mk (Array.mk [102, 105, 101, 108, 100, 115]))])), (HV.v (Value.string (ByteArray.mk (Array.mk [])))), (HV.v (Value.int IntKind.i64 0))] [(Ob.box 67 (HV.st [(HV.v (Value.slice Option.none 0 0)), (HV.map 1)])), (Ob.map Cd.str (Cd.int IntKind.i64) []), (Ob.box 43 (HV.d Cd.json (J.mk 5 Bool.false (Dec.mk Bool.false (ByteArray.mk (Array.mk [])) 0) (ByteArray.mk (Array.mk [])) [(J.mk 3 Bool.false (Dec.mk Bool.false (ByteArray.mk (Array.mk [])) 0) (ByteArray.mk (Array.mk [114, 101, 99, 111, 114, 100])) [] []), (J.mk 3 Bool.false (Dec.mk Bool.false (ByteArray.mk (Array.mk [])) 0) (ByteArray.mk (Array.mk [82])) [] []), (J.mk 4 Bool.false (Dec.mk Bool.false (ByteArray.mk (Array.mk [])) 0) (ByteArray.mk (Array.mk [])) l [])] [(ByteArray.mk (Array.mk [116, 121, 112, 101])), (ByteArray.mk (Array.mk [110, 97, 109, 101])), (ByteArray.mk (Array.mk [102, 105, 101, 108, 100, 115]))]))), (Ob.box 43 (HV.d Cd.json (J.mk 3 Bool.false (Dec.mk Bool.false (ByteArray.mk (Array.mk [])) 0) (ByteArray.mk (Array.mk [114, 101, 99, 111, 114, 100])) [] []))), (Ob.fmap [(Prod.mk (ByteArray.mk (Array.mk [114, 101, 99, 111, 114, 100])) (HV.fn 51 [(HV.ptr 0 0)] [])), (Prod.mk (ByteArray.mk (Array.mk [101, 110, 117, 109])) (HV.fn 52 [(HV.ptr 0 0)] [])), (Prod.mk (ByteArray.mk (Array.mk [102, 105, 120, 101, 100])) (HV.fn 53 [(HV.ptr 0 0)] [])), (Prod.mk (ByteArray.mk (Array.mk [97, 114, 114, 97, 121])) (HV.fn 54 [(HV.ptr 0 0)] [])), (Prod.mk (ByteArray.mk (Array.mk [109, 97, 112])) (HV.fn 54 [(HV.ptr 0 0)] []))])]) && (bif sm then (k HX.ret ⟨slots 79 [(8, (HV.v (Value.int IntKind.i64 0)))], [(Ob.box 67 (HV.st [(HV.own Cd.nd 10 0 (List.length xs)), (HV.map 1)])), (Ob.map Cd.str (Cd.int IntKind.i64) [(Prod.mk (ByteArray.mk (Array.mk [82])) 0)]), (Ob.box 43 (HV.d Cd.json (J.mk 5 Bool.false (Dec.mk Bool.false (ByteArray.mk (Array.mk [])) 0) (ByteArray.mk (Array.mk [])) [(J.mk 3 Bool.false (Dec.mk Bool.false (ByteArray.mk (Array.mk [])) 0) (ByteArray.mk (Array.mk [114, 101, 99, 111, 114, 100])) [] []), (J.mk 3 Bool.false (Dec.mk Bool.false (ByteArray.mk (Array.mk [])) 0) (ByteArray.mk (Array.mk [82])) [] []), (J.mk 4 Bool.false (Dec.mk Bool.false (ByteArray.mk (Array.mk [])) 0) (ByteArray.mk (Array.mk [])) l [])] [(ByteArray.mk (Array.mk [116, 121, 112, 101])), (ByteArray.mk (Array.mk [110, 97, 109, 101])), (ByteArray.mk (Array.mk [102, 105, 101, 108, 100, 115]))]))), (Ob.box 43 (HV.d Cd.json (J.mk 3 Bool.false (Dec.mk Bool.false (ByteArray.mk (Array.mk [])) 0) (ByteArray.mk (Array.mk [114, 101, 99, 111, 114, 100])) [] []))), (Ob.fmap [(Prod.mk (ByteArray.mk (Array.mk [114, 101, 99, 111, 114, 100])) (HV.fn 51 [(HV.ptr 0 0)] [])), (Prod.mk (ByteArray.mk (Array.mk [101, 110, 117, 109])) (HV.fn 52 [(HV.ptr 0 0)] [])), (Prod.mk (ByteArray.mk (Array.mk [102, 105, 120, 101, 100])) (HV.fn 53 [(HV.ptr 0 0)] [])), (Prod.mk (ByteArray.mk (Array.mk [97, 114, 114, 97, 121])) (HV.fn 54 [(HV.ptr 0 0)] [])), (Prod.mk (ByteArray.mk (Array.mk [109, 97, 112])) (HV.fn 54 [(HV.ptr 0 0)] []))]), (Ob.box 43 (HV.d Cd.json (J.mk 5 Bool.false (Dec.mk Bool.false (ByteArray.mk (Array.mk [])) 0) (ByteArray.mk (Array.mk [])) [(J.mk 3 Bool.false (Dec.mk Bool.false (ByteArray.mk (Array.mk [])) 0) (ByteArray.mk (Array.mk [114, 101, 99, 111, 114, 100])) [] []), (J.mk 3 Bool.false (Dec.mk Bool.false (ByteArray.mk (Array.mk [])) 0) (ByteArray.mk (Array.mk [82])) [] []), (J.mk 4 Bool.false (Dec.mk Bool.false (ByteArray.mk (Array.mk [])) 0) (ByteArray.mk (Array.mk [])) l [])] [(ByteArray.mk (Array.mk [116, 121, 112, 101])), (ByteArray.mk (Array.mk [110, 97, 109, 101])), (ByteArray.mk (Array.mk [102, 105, 101, 108, 100, 115]))]))), (Ob.box 43 (HV.d Cd.json (J.mk 5 Bool.false (Dec.mk Bool.false (ByteArray.mk (Array.mk [])) 0) (ByteArray.mk (Array.mk [])) [(J.mk 3 Bool.false (Dec.mk Bool.false (ByteArray.mk (Array.mk [])) 0) (ByteArray.mk (Array.mk [114, 101, 99, 111, 114, 100])) [] []), (J.mk 3 Bool.false (Dec.mk Bool.false (ByteArray.mk (Array.mk [])) 0) (ByteArray.mk (Array.mk [82])) [] []), (J.mk 4 Bool.false (Dec.mk Bool.false (ByteArray.mk (Array.mk [])) 0) (ByteArray.mk (Array.mk [])) l [])] [(ByteArray.mk (Array.mk [116, 121, 112, 101])), (ByteArray.mk (Array.mk [110, 97, 109, 101])), (ByteArray.mk (Array.mk [102, 105, 101, 108, 100, 115]))]))), (Ob.box 43 (HV.d Cd.json (J.mk 0 Bool.false (Dec.mk Bool.false (ByteArray.mk (Array.mk [])) 0) (ByteArray.mk (Array.mk [])) [] []))), (Ob.map Cd.str (Cd.int IntKind.i64) [(Prod.mk (ByteArray.mk (Array.mk [110, 117, 108, 108])) 0), (Prod.mk (ByteArray.mk (Array.mk [98, 111, 111, 108, 101, 97, 110])) 1), (Prod.mk (ByteArray.mk (Array.mk [105, 110, 116])) 2), (Prod.mk (ByteArray.mk (Array.mk [108, 111, 110, 103])) 3), (Prod.mk (ByteArray.mk (Array.mk [102, 108, 111, 97, 116])) 4), (Prod.mk (ByteArray.mk (Array.mk [100, 111, 117, 98, 108, 101])) 5), (Prod.mk (ByteArray.mk (Array.mk [98, 121, 116, 101, 115])) 6), (Prod.mk (ByteArray.mk (Array.mk [115, 116, 114, 105, 110, 103])) 7)]), (Ob.box 37 (HV.st [(HV.v (Value.int IntKind.i64 8)), (HV.v (Value.string (ByteArray.mk (Array.mk [82])))), (HV.v (Value.slice Option.none 0 0)), (HV.v (Value.slice Option.none 0 0)), (HV.v (Value.bool Bool.false)), (HV.v (Value.string (ByteArray.mk (Array.mk [])))), (HV.v (Value.int IntKind.i64 0)), (HV.v (Value.slice Option.none 0 0))])), (Ob.row Cd.nd 0 0 xs), (Ob.box 43 (HV.d Cd.json (J.mk 4 Bool.false (Dec.mk Bool.false (ByteArray.mk (Array.mk [])) 0) (ByteArray.mk (Array.mk [])) l []))), (Ob.map Cd.str (Cd.int IntKind.i64) es), (Ob.row Cd.fld 0 (List.length fs) fs)]⟩) else (k (HX.panic (HV.iface 85 (HV.st [(HV.v (Value.int IntKind.i64 190))]))) ⟨slots 79 [(8, (HV.v (Value.int IntKind.i64 0)))], [(Ob.box 67 (HV.st [(HV.own Cd.nd 10 0 1), (HV.map 1)])), (Ob.map Cd.str (Cd.int IntKind.i64) [(Prod.mk (ByteArray.mk (Array.mk [82])) 0)]), (Ob.box 43 (HV.d Cd.json (J.mk 5 Bool.false (Dec.mk Bool.false (ByteArray.mk (Array.mk [])) 0) (ByteArray.mk (Array.mk [])) [(J.mk 3 Bool.false (Dec.mk Bool.false (ByteArray.mk (Array.mk [])) 0) (ByteArray.mk (Array.mk [114, 101, 99, 111, 114, 100])) [] []), (J.mk 3 Bool.false (Dec.mk Bool.false (ByteArray.mk (Array.mk [])) 0) (ByteArray.mk (Array.mk [82])) [] []), (J.mk 4 Bool.false (Dec.mk Bool.false (ByteArray.mk (Array.mk [])) 0) (ByteArray.mk (Array.mk [])) l [])] [(ByteArray.mk (Array.mk [116, 121, 112, 101])), (ByteArray.mk (Array.mk [110, 97, 109, 101])), (ByteArray.mk (Array.mk [102, 105, 101, 108, 100, 115]))]))), (Ob.box 43 (HV.d Cd.json (J.mk 3 Bool.false (Dec.mk Bool.false (ByteArray.mk (Array.mk [])) 0) (ByteArray.mk (Array.mk [114, 101, 99, 111, 114, 100])) [] []))), (Ob.fmap [(Prod.mk (ByteArray.mk (Array.mk [114, 101, 99, 111, 114, 100])) (HV.fn 51 [(HV.ptr 0 0)] [])), (Prod.mk (ByteArray.mk (Array.mk [101, 110, 117, 109])) (HV.fn 52 [(HV.ptr 0 0)] [])), (Prod.mk (ByteArray.mk (Array.mk [102, 105, 120, 101, 100])) (HV.fn 53 [(HV.ptr 0 0)] [])), (Prod.mk (ByteArray.mk (Array.mk [97, 114, 114, 97, 121])) (HV.fn 54 [(HV.ptr 0 0)] [])), (Prod.mk (ByteArray.mk (Array.mk [109, 97, 112])) (HV.fn 54 [(HV.ptr 0 0)] []))]), (Ob.box 43 (HV.d Cd.json (J.mk 5 Bool.false (Dec.mk Bool.false (ByteArray.mk (Array.mk [])) 0) (ByteArray.mk (Array.mk [])) [(J.mk 3 Bool.false (Dec.mk Bool.false (ByteArray.mk (Array.mk [])) 0) (ByteArray.mk (Array.mk [114, 101, 99, 111, 114, 100])) [] []), (J.mk 3 Bool.false (Dec.mk Bool.false (ByteArray.mk (Array.mk [])) 0) (ByteArray.mk (Array.mk [82])) [] []), (J.mk 4 Bool.false (Dec.mk Bool.false (ByteArray.mk (Array.mk [])) 0) (ByteArray.mk (Array.mk [])) l [])] [(ByteArray.mk (Array.mk [116, 121, 112, 101])), (ByteArray.mk (Array.mk [110, 97, 109, 101])), (ByteArray.mk (Array.mk [102, 105, 101, 108, 100, 115]))]))), (Ob.box 43 (HV.d Cd.json (J.mk 5 Bool.false (Dec.mk Bool.false (ByteArray.mk (Array.mk [])) 0) (ByteArray.mk (Array.mk [])) [(J.mk 3 Bool.false (Dec.mk Bool.false (ByteArray.mk (Array.mk [])) 0) (ByteArray.mk (Array.mk [114, 101, 99, 111, 114, 100])) [] []), (J.mk 3 Bool.false (Dec.mk Bool.false (ByteArray.mk (Array.mk [])) 0) (ByteArray.mk (Array.mk [82])) [] []), (J.mk 4 Bool.false (Dec.mk Bool.false (ByteArray.mk (Array.mk [])) 0) (ByteArray.mk (Array.mk [])) l [])] [(ByteArray.mk (Array.mk [116, 121, 112, 101])), (ByteArray.mk (Array.mk [110, 97, 109, 101])), (ByteArray.mk (Array.mk [102, 105, 101, 108, 100, 115]))]))), (Ob.box 43 (HV.d Cd.json (J.mk 0 Bool.false (Dec.mk Bool.false (ByteArray.mk (Array.mk [])) 0) (ByteArray.mk (Array.mk [])) [] []))), (Ob.map Cd.str (Cd.int IntKind.i64) [(Prod.mk (ByteArray.mk (Array.mk [110, 117, 108, 108])) 0), (Prod.mk (ByteArray.mk (Array.mk [98, 111, 111, 108, 101, 97, 110])) 1), (Prod.mk (ByteArray.mk (Array.mk [105, 110, 116])) 2), (Prod.mk (ByteArray.mk (Array.mk [108, 111, 110, 103])) 3), (Prod.mk (ByteArray.mk (Array.mk [102, 108, 111, 97, 116])) 4), (Prod.mk (ByteArray.mk (Array.mk [100, 111, 117, 98, 108, 101])) 5), (Prod.mk (ByteArray.mk (Array.mk [98, 121, 116, 101, 115])) 6), (Prod.mk (ByteArray.mk (Array.mk [115, 116, 114, 105, 110, 103])) 7)]), (Ob.box 37 (HV.st [(HV.v (Value.int IntKind.i64 8)), (HV.v (Value.string (ByteArray.mk (Array.mk [82])))), (HV.v (Value.slice Option.none 0 0)), (HV.v (Value.slice Option.none 0 0)), (HV.v (Value.bool Bool.false)), (HV.v (Value.string (ByteArray.mk (Array.mk [])))), (HV.v (Value.int IntKind.i64 0)), (HV.v (Value.slice Option.none 0 0))])), (Ob.row Cd.nd 0 0 [(Nd.mk 8 (ByteArray.mk (Array.mk [82])) [] [] Bool.false (ByteArray.mk (Array.mk [])) 0 [])]), (Ob.box 43 (HV.d Cd.json (J.mk 4 Bool.false (Dec.mk Bool.false (ByteArray.mk (Array.mk [])) 0) (ByteArray.mk (Array.mk [])) l [])))]⟩)))) := by kernel_rfl
theorem code27 : Tryz.f27.body = some (pc 27 []) := by kernel_rfl
def fm27 : Ob := .fmap [(⟨⟨[114, 101, 99, 111, 114, 100]⟩⟩, .fn 51 [.ptr 0 0] []), (⟨⟨[101, 110, 117, 109]⟩⟩, .fn 52 [.ptr 0 0] []), (⟨⟨[102, 105, 120, 101, 100]⟩⟩, .fn 53 [.ptr 0 0] []), (⟨⟨[97, 114, 114, 97, 121]⟩⟩, .fn 54 [.ptr 0 0] []), (⟨⟨[109, 97, 112]⟩⟩, .fn 54 [.ptr 0 0] [])]
def ob27 (l : List J) (xs : List Nd) (es : Es) (fs : List Fld) : List Ob :=
  [.box 67 (.st [.own .nd 10 0 xs.length, .map 1]), mapE [(bR, 0)], .box 43 (.d .json (topV l)), .box 43 (.d .json (jT [114, 101, 99, 111, 114, 100])), fm27, .box 43 (.d .json (topV l)), .box 43 (.d .json (topV l)), .box 43 (.d .json zJ), plainM, ndB, .row .nd 0 0 xs, .box 43 (jk 4 [] l []), mapE es, .row .fld 0 fs.length fs]
def ob27p (l : List J) : List Ob :=
  [.box 67 (.st [.own .nd 10 0 1, .map 1]), mapE [(bR, 0)], .box 43 (.d .json (topV l)), .box 43 (.d .json (jT [114, 101, 99, 111, 114, 100])), fm27, .box 43 (.d .json (topV l)), .box 43 (.d .json (topV l)), .box 43 (.d .json zJ), plainM, ndB, .row .nd 0 0 [ndR []], .box 43 (jk 4 [] l [])]
theorem b27 (l : List J) (xs : List Nd) (es : Es) (fs : List Fld) (kr : KR) : finK Tryz.prog Tryz.f27 [rbox0, mapE []] kr ⟨slots 79 [(8, .v (.int .i64 0))], ob27 l xs es fs⟩ = (kr (HR.ret (HV.v (Value.int IntKind.i64 0))) [(Ob.box 67 (HV.st [(HV.own Cd.nd 10 0 (List.length xs)), (HV.map 1)])), (Ob.map Cd.str (Cd.int IntKind.i64) [(Prod.mk (ByteArray.mk (Array.mk [82])) 0)]), (Ob.box 43 (HV.d Cd.json (J.mk 5 Bool.false (Dec.mk Bool.false (ByteArray.mk (Array.mk [])) 0) (ByteArray.mk (Array.mk [])) [(J.mk 3 Bool.false (Dec.mk Bool.false (ByteArray.mk (Array.mk [])) 0) (ByteArray.mk (Array.mk [114, 101, 99, 111, 114, 100])) [] []), (J.mk 3 Bool.false (Dec.mk Bool.false (ByteArray.mk (Array.mk [])) 0) (ByteArray.mk (Array.mk [82])) [] []), (J.mk 4 Bool.false (Dec.mk Bool.false (ByteArray.mk (Array.mk [])) 0) (ByteArray.mk (Array.mk [])) l [])] [(ByteArray.mk (Array.mk [116, 121, 112, 101])), (ByteArray.mk (Array.mk [110, 97, 109, 101])), (ByteArray.mk (Array.mk [102, 105, 101, 108, 100, 115]))]))), (Ob.box 43 (HV.d Cd.json (J.mk 3 Bool.false (Dec.mk Bool.false (ByteArray.mk (Array.mk [])) 0) (ByteArray.mk (Array.mk [114, 101, 99, 111, 114, 100])) [] []))), (Ob.fmap [(Prod.mk (ByteArray.mk (Array.mk [114, 101, 99, 111, 114, 100])) (HV.fn 51 [(HV.ptr 0 0)] [])), (Prod.mk (ByteArray.mk (Array.mk [101, 110, 117, 109])) (HV.fn 52 [(HV.ptr 0 0)] [])), (Prod.mk (ByteArray.mk (Array.mk [102, 105, 120, 101, 100])) (HV.fn 53 [(HV.ptr 0 0)] [])), (Prod.mk (ByteArray.mk (Array.mk [97, 114, 114, 97, 121])) (HV.fn 54 [(HV.ptr 0 0)] [])), (Prod.mk (ByteArray.mk (Array.mk [109, 97, 112])) (HV.fn 54 [(HV.ptr 0 0)] []))]), (Ob.box 43 (HV.d Cd.json (J.mk 5 Bool.false (Dec.mk Bool.false (ByteArray.mk (Array.mk [])) 0) (ByteArray.mk (Array.mk [])) [(J.mk 3 Bool.false (Dec.mk Bool.false (ByteArray.mk (Array.mk [])) 0) (ByteArray.mk (Array.mk [114, 101, 99, 111, 114, 100])) [] []), (J.mk 3 Bool.false (Dec.mk Bool.false (ByteArray.mk (Array.mk [])) 0) (ByteArray.mk (Array.mk [82])) [] []), (J.mk 4 Bool.false (Dec.mk Bool.false (ByteArray.mk (Array.mk [])) 0) (ByteArray.mk (Array.mk [])) l [])] [(ByteArray.mk (Array.mk [116, 121, 112, 101])), (ByteArray.mk (Array.mk [110, 97, 109, 101])), (ByteArray.mk (Array.mk [102, 105, 101, 108, 100, 115]))]))), (Ob.box 43 (HV.d Cd.json (J.mk 5 Bool.false (Dec.mk Bool.false (ByteArray.mk (Array.mk [])) 0) (ByteArray.mk (Array.mk [])) [(J.mk 3 Bool.false (Dec.mk Bool.false (ByteArray.mk (Array.mk [])) 0) (ByteArray.mk (Array.mk [114, 101, 99, 111, 114, 100])) [] []), (J.mk 3 Bool.false (Dec.mk Bool.false (ByteArray.mk (Array.mk [])) 0) (ByteArray.mk (Array.mk [82])) [] []), (J.mk 4 Bool.false (Dec.mk Bool.false (ByteArray.mk (Array.mk [])) 0) (ByteArray.mk (Array.mk [])) l [])] [(ByteArray.mk (Array.mk [116, 121, 112, 101])), (ByteArray.mk (Array.mk [110, 97, 109, 101])), (ByteArray.mk (Array.mk [102, 105, 101, 108, 100, 115]))]))), (Ob.box 43 (HV.d Cd.json (J.mk 0 Bool.false (Dec.mk Bool.false (ByteArray.mk (Array.mk [])) 0) (ByteArray.mk (Array.mk [])) [] []))), (Ob.map Cd.str (Cd.int IntKind.i64) [(Prod.mk (ByteArray.mk (Array.mk [110, 117, 108, 108])) 0), (Prod.mk (ByteArray.mk (Array.mk [98, 111, 111, 108, 101, 97, 110])) 1), (Prod.mk (ByteArray.mk (Array.mk [105, 110, 116])) 2), (Prod.mk (ByteArray.mk (Array.mk [108, 111, 110, 103])) 3), (Prod.mk (ByteArray.mk (Array.mk [102, 108, 111, 97, 116])) 4), (Prod.mk (ByteArray.mk (Array.mk [100, 111, 117, 98, 108, 101])) 5), (Prod.mk (ByteArray.mk (Array.mk [98, 121, 116, 101, 115])) 6), (Prod.mk (ByteArray.mk (Array.mk [115, 116, 114, 105, 110, 103])) 7)]), (Ob.box 37 (HV.st [(HV.v (Value.int IntKind.i64 8)), (HV.v (Value.string (ByteArray.mk (Array.mk [82])))), (HV.v (Value.slice Option.none 0 0)), (HV.v (Value.slice Option.none 0 0)), (HV.v (Value.bool Bool.false)), (HV.v (Value.string (ByteArray.mk (Array.mk [])))), (HV.v (Value.int IntKind.i64 0)), (HV.v (Value.slice Option.none 0 0))])), (Ob.row Cd.nd 0 0 xs), (Ob.box 43 (HV.d Cd.json (J.mk 4 Bool.false (Dec.mk Bool.false (ByteArray.mk (Array.mk [])) 0) (ByteArray.mk (Array.mk [])) l []))), (Ob.map Cd.str (Cd.int IntKind.i64) es), (Ob.row Cd.fld 0 (List.length fs) fs)]) := by kernel_rfl

/-- The family's items: what is asked of them. -/
structure ItemsOk (n : Nat) (items : List Item) : Prop where
  top : getOk n (topV (items.map itemJ)) bName = true ∧ getOk n (topV (items.map itemJ)) bSpace = true ∧ getOk n (topV (items.map itemJ)) bFields = true
  typ : getOk n (topV (items.map itemJ)) bType = true
  each : ∀ p ∈ items, itemOk n p
  dist : distB (namesOf items) = true
def nodesOf (items : List Item) : List Nd := ndR (fldsFrom 1 items) :: List.replicate (nulls items) ndN

theorem gamOK27 {w0 : World} (h0 : H4 w0) {n : Nat} (hn : n ≤ 1000) {items : List Item} (hi : ItemsOk n items) :
    GamOK Tryz.prog w0 (G27 n (items.map itemJ) (decide (items.length ≤ 256)) (nodesOf items) (onces (namesOf items)) (fldsFrom 1 items)) := by
  refine addL_ok (gamOK25 h0 hn) ?_
  intro args L F kr hF hk
  cases hF
  simp only [Bool.and_eq_true] at hk
  obtain ⟨hk1, hk2⟩ := hk
  obtain ⟨rfl, hfoot, hsub⟩ := of_yes hk1
  refine does_frame [0, 1] [0, 0] hfoot ?_
  rw [hsub]
  refine do51 h0 hn hi.top hi.each hi.dist (fun hle => ?_) (fun hgt => ?_)
  · rw [decide_eq_true hle, cond_true, fldsFrom_length] at hk2; exact hk2
  · rw [decide_eq_false (by omega), cond_false] at hk2; exact hk2

theorem do27 {w0 : World} (h0 : H4 w0) {n : Nat} (hn : n ≤ 1000) {items : List Item} (hi : ItemsOk n items) {kr : KR}
    (hk : items.length ≤ 256 → kr (.ret (.v (.int .i64 0))) (ob27 (items.map itemJ) (nodesOf items) (onces (namesOf items)) (fldsFrom 1 items)) = true)
    (hp : 256 < items.length → kr (.panic (.iface 85 (.st [.v (.int .i64 190)]))) (ob27p (items.map itemJ)) = true) :
    Does Tryz.prog w0 27 [.ptr 0 0, .d .json (topV (items.map itemJ)), tx [], .v (.int .i64 0)] [rbox0, mapE []] kr := by
  have hG := gamOK27 h0 hn hi
  refine does_wpA Tryz.func27 code27 (n := 79) (by kernel_rfl) ?_
  refine (evd_ok hG [8] (a27 n (items.map itemJ) _ _ _ _) ?_).wpA
  have ht1 : getOk n (topV (items.map itemJ)) (ByteArray.mk (Array.mk [116, 121, 112, 101])) = true := hi.typ
  rw [ht1, Bool.true_and]
  refine Bool.and_eq_true _ _ ▸ ⟨yes_mk ⟨rfl, rfl, rfl⟩, ?_⟩
  by_cases hle : items.length ≤ 256
  · rw [decide_eq_true hle, cond_true]
    refine yes_mk ?_
    show finK Tryz.prog Tryz.f27 [rbox0, mapE []] kr ⟨slots 79 [(8, .v (.int .i64 0))], ob27 (items.map itemJ) (nodesOf items) (onces (namesOf items)) (fldsFrom 1 items)⟩ = true
    rw [b27]
    exact hk hle
  · rw [decide_eq_false hle, cond_false]
    refine yes_mk ?_
    exact hp (by omega)
end Go.Proofs.YtiaeljbnhdhfcaaGreatDoor
