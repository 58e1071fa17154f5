/- jsontext: copied, Get; avro: text, part. -/
import Derived.Test.YtiaeljbnhdhfcaaGreatDoorP5
namespace Go.Proofs.YtiaeljbnhdhfcaaGreatDoor
open Go Go.RowKit Go.Lx Go.Mo

theorem findGo_at : ∀ {ns : List ByteArray}, distB ns = true → ∀ (i : Nat) (x : ByteArray) (k : Nat), ns[i]? = some x → findGo x ns k = ((k + i : Nat) : Int)
  | [], _, i, x, k, h => by simp at h
  | n :: ns, hd, 0, x, k, h => by
    simp only [List.getElem?_cons_zero, Option.some.injEq] at h
    subst h
    simp only [findGo, beqS_iff.2 rfl, cond_true, Nat.add_zero]
  | n :: ns, hd, i + 1, x, k, h => by
    have hd0 := hd
    simp only [distB, Bool.and_eq_true, Bool.not_eq_true', List.any_eq_false] at hd
    rw [List.getElem?_cons_succ] at h
    have hne : beqS x n = false := by
      cases hb : beqS x n with
      | false => rfl
      | true => rw [beqS_iff] at hb; subst hb; exact absurd (beqS_iff.2 rfl) (hd.1 x (List.mem_of_getElem? h))
    simp only [findGo, hne, cond_false]
    rw [findGo_at hd.2 i x (k + 1) h]
    congr 1; omega

theorem vw95a (c : Int) (l : List J) (ns : List ByteArray) (i : Int) (n : Nat) (js : List J) (o : Ob) :
    vw [(4, 1, 0)] 5 ⟨slots 51 [(1, .v (.bool false)), (2, .ptr 0 0), (4, .ptr 1 0), (5, .ptr 2 0), (19, .d (.list .json) l), (20, .v (.int .i64 (l.length : Int))), (21, .v (.int .i64 i))], [.box 43 (jk c [] l ns), zbox, obox c 1 n ns.length, .row .str 0 0 ns, .row .json 1 0 js, o]⟩ =
      ⟨slots 51 [(1, .v (.bool false)), (2, .ptr 0 0), (4, .ptr 1 0), (5, .ptr 2 0), (19, .d (.list .json) l), (20, .v (.int .i64 (l.length : Int))), (21, .v (.int .i64 i))], [.box 43 (jk c [] l ns), zbox, obox c 0 n ns.length, .row .str 0 0 ns, .row .json 0 0 js]⟩ := by kernel_rfl
theorem f95 (c : Int) (js : List J) (ns : List ByteArray) (o1 o3 : Ob) (kr : KR) : finK Tryz.prog Tryz.f95 [] kr ⟨slots 51 [(4, .ptr 1 0)], [o1, obox c 0 js.length ns.length, o3, .row .str 0 0 ns, .row .json 0 0 js]⟩ = ((((decide ((List.length js) ≤ (List.length js))) && ((decide ((List.length ns) ≤ (List.length ns))) && Bool.true)) && Bool.true) && (kr (HR.ret (HV.d Cd.json (J.mk c Bool.false (Dec.mk Bool.false (ByteArray.mk (Array.mk [])) 0) (ByteArray.mk (Array.mk [])) (List.take (List.length js) js) (List.take (List.length ns) ns)))) [])) := by kernel_rfl
theorem code95 : Tryz.f95.body = some (seqs [pc 95 [0], pc 95 [1, 0], pc 95 [1, 1, 0], pc 95 [1, 1, 1, 0], pc 95 [1, 1, 1, 1, 0]] (.seq (seqs [(pc 95 [1, 1, 1, 1, 1, 0, 0])] (.block 0 (.loop (pc 95 [1, 1, 1, 1, 1, 0, 1, 0, 0])))) (pc 95 [1, 1, 1, 1, 1, 1]))) := by kernel_rfl

theorem gamOK22 {w0 : World} (h0 : H4 w0) {n : Nat} (h : ∀ j, tidy n j = true → PureDo Tryz.prog H4 95 [.d .json j, .v (.bool false)] (.d .json j)) : GamOK Tryz.prog w0 (G22 n) := by
  refine addP_ok (gamOK8 h0) ⟨_, Tryz.func95, rfl⟩ ?_
  intro args r hr h1
  unfold copP at hr
  split at hr
  · cases hr
    exact pureAns lasts4 (h _ h1) rfl rfl h0
  · cases hr

/-- The loop of copied. -/
theorem loop95 {w0 : World} (h0 : H4 w0) {n : Nat} (ih : ∀ j, tidy n j = true → PureDo Tryz.prog H4 95 [.d .json j, .v (.bool false)] (.d .json j)) {c : Int} {l : List J} {ns : List ByteArray} (hl : l.all (tidy n) = true) (hll : l.length ≤ 100000000) (hc : (c = 4 ∧ ns = []) ∨ (c = 5 ∧ ns.length = l.length ∧ distB ns = true)) {kr : KR}
    (hk : kr (.ret (.d .json (.mk c false zd ⟨⟨[]⟩⟩ l ns))) [] = true) :
    WpA Tryz.prog w0 [] (.seq (seqs [(pc 95 [1, 1, 1, 1, 1, 0, 0])] (.block 0 (.loop (pc 95 [1, 1, 1, 1, 1, 0, 1, 0, 0])))) (pc 95 [1, 1, 1, 1, 1, 1])) ⟨slots 51 [(1, .v (.bool false)), (2, .ptr 0 0), (4, .ptr 1 0), (5, .ptr 2 0)], [.box 43 (jk c [] l ns), zbox, obox0 c ns.length, .row .str 0 0 ns]⟩ (fun x st => match x with
      | .normal => finK Tryz.prog Tryz.f95 [] kr st = true
      | .ret => finK Tryz.prog Tryz.f95 [] kr st = true
      | .panic h => kr (.panic h) (trunc ([] : List Ob).length h st.L) = true
      | _ => False) := by
  have hG := gamOK8 h0
  have hG2 := gamOK22 h0 ih
  refine wpA_seq (evs_ok hG [1, 2, 4, 5, 19, 20, 21] (b95 c l ns) (yes_mk ?_))
  refine wpA_nilBox .json 2 (t := 43) (x := .st [.v (.int .i64 c), .v (.bool false), .d .dec zd, .v (.string ⟨⟨[]⟩⟩), .v (.slice none 0 0), .own .str 3 0 ns.length]) (y := .st [.v (.int .i64 c), .v (.bool false), .d .dec zd, .v (.string ⟨⟨[]⟩⟩), .own .json 4 0 0, .own .str 3 0 ns.length]) rfl
    (nl_st (nl_cons (Nl.same _ _ _) (nl_cons (Nl.same _ _ _) (nl_cons (Nl.same _ _ _) (nl_cons (Nl.same _ _ _) (nl_cons (nl_own _ _) (nl_cons (Nl.same _ _ _) (nl_nil _ _)))))))) ?_
  show WpA Tryz.prog w0 [] _ (st95 c l ns 0 []) _
  have hexit : ∀ i, i = l.length → WpA Tryz.prog w0 [] (pc 95 [1, 1, 1, 1, 1, 1]) (st95 c l ns i (l.take i)) (fun x st => match x with
      | .normal => finK Tryz.prog Tryz.f95 [] kr st = true
      | .ret => finK Tryz.prog Tryz.f95 [] kr st = true
      | .panic h => kr (.panic h) (trunc ([] : List Ob).length h st.L) = true
      | _ => False) := by
    intro i hi
    rw [hi, List.take_length]
    refine (evd_ok hG [4] (d95 c l ns l.length l) (yes_mk ?_)).wpA
    show finK Tryz.prog Tryz.f95 [] kr ⟨slots 51 [(4, .ptr 1 0)], [_, obox c 0 l.length ns.length, _, .row .str 0 0 ns, .row .json 0 0 l]⟩ = true
    rw [f95]
    simp only [Nat.le_refl, decide_true, Bool.true_and, Bool.and_true, List.take_length]
    exact hk
  refine wpA_block (wpA_loop (α := { i : Nat // i ≤ l.length }) (fun i => st95 c l ns i.1 (l.take i.1)) (fun i => l.length - i.1) (fun i => ?_) ⟨0, Nat.zero_le _⟩)
  obtain ⟨i, hi⟩ := i
  dsimp only
  have hjl : (l.take i).length = i := by rw [List.length_take]; omega
  have step : ∀ (hlt : i < l.length), (∃ a' us m, l.length - a'.1 < l.length - i ∧ vwOk [] us m ⟨slots 51 [(1, .v (.bool false)), (2, .ptr 0 0), (4, .ptr 1 0), (5, .ptr 2 0), (19, .d (.list .json) l), (20, .v (.int .i64 (l.length : Int))), (21, .v (.int .i64 ((i + 1 : Nat) : Int)))], [.box 43 (jk c [] l ns), zbox, obox c 1 (i + 1) ns.length, .row .str 0 0 ns, .row .json 1 0 (l.take i ++ [l[i]]), .box 43 (.d .json l[i])]⟩ = true ∧
      vw us m ⟨slots 51 [(1, .v (.bool false)), (2, .ptr 0 0), (4, .ptr 1 0), (5, .ptr 2 0), (19, .d (.list .json) l), (20, .v (.int .i64 (l.length : Int))), (21, .v (.int .i64 ((i + 1 : Nat) : Int)))], [.box 43 (jk c [] l ns), zbox, obox c 1 (i + 1) ns.length, .row .str 0 0 ns, .row .json 1 0 (l.take i ++ [l[i]]), .box 43 (.d .json l[i])]⟩ = st95 c l ns (a' : { i : Nat // i ≤ l.length }).1 (l.take a'.1)) := by
    intro hlt
    refine ⟨⟨i + 1, hlt⟩, [(4, 1, 0)], 5, by dsimp only; omega, rfl, ?_⟩
    rw [vw95a, List.take_append_getElem hlt]
    have : (l.take (i + 1)).length = i + 1 := by rw [List.length_take]; omega
    unfold st95
    rw [this]
  rcases Nat.lt_or_ge i l.length with hlt | hge
  · have f3 : fwrap .i64 ((i : Int) + 1) = ((i + 1 : Nat) : Int) := fwrap_i64 (by omega) (by omega)
    have hgd : l.getD i (J.mk 0 false (Dec.mk false (ByteArray.mk (Array.mk [])) 0) (ByteArray.mk (Array.mk [])) [] []) = l[i] := by rw [List.getD_eq_getElem?_getD, List.getElem?_eq_getElem hlt]; rfl
    have ht : tidy n l[i] = true := by rw [List.all_eq_true] at hl; exact hl _ (List.getElem_mem hlt)
    rcases hc with ⟨rfl, rfl⟩ | ⟨rfl, hnl, hd⟩
    · refine (evd_ok hG2 [1, 2, 4, 5, 19, 20, 21] (c95l n l [] i (l.take i)) ?_).wpA
      simp only [List.take_length]
      simp only [ltI_true (show (i : Int) < (l.length : Int) by omega), decide_eq_true (show (i : Int) < (l.length : Int) by omega), Int.toNat_natCast, hgd, ht, hjl, Nat.le_refl, decide_eq_true (show (i + 1) * 112 ≤ 140737488355328 by omega), decide_true, Bool.true_and, Bool.and_true, Bool.or_true, cond_true, f3]
      exact yes_mk (step hlt)
    · have hgn : ns[i]? = some (ns[i]'(by omega)) := List.getElem?_eq_getElem (by omega)
      have hgn' : ns.getD i (ByteArray.mk (Array.mk [])) = ns[i]'(by omega) := by rw [List.getD_eq_getElem?_getD, hgn]; rfl
      have hfi := findGo_at hd i _ 0 hgn
      rw [Nat.zero_add] at hfi
      refine (evd_ok hG2 [1, 2, 4, 5, 19, 20, 21] (c95o n l ns i (l.take i)) ?_).wpA
      simp only [List.take_length]
      simp only [Int.toNat_natCast, hgn', hfi]
      simp only [ltI_true (show (i : Int) < (l.length : Int) by omega), decide_eq_true (show (i : Int) < (l.length : Int) by omega), decide_eq_true (show (i : Int) < (ns.length : Int) by omega), decide_eq_true (show i < ns.length by omega), decide_eq_true (show ns.length < 4611686018427387904 by omega), decide_eq_true (show (0 : Int) ≤ (i : Int) by omega), Int.toNat_natCast, hgd, ht, hjl, Nat.le_refl, decide_eq_true (show (i + 1) * 112 ≤ 140737488355328 by omega), decide_true, Bool.true_and, Bool.and_true, Bool.or_true, cond_true, f3]
      exact yes_mk (step hlt)
  · have hil : i = l.length := by omega
    rcases hc with ⟨rfl, rfl⟩ | ⟨rfl, hnl, hd⟩
    · refine (evd_ok hG2 [1, 2, 4, 5, 19, 20, 21] (c95l n l [] i (l.take i)) ?_).wpA
      rw [ltI_false (show ¬ (i : Int) < (l.length : Int) by omega)]
      exact yes_mk (hexit i hil)
    · refine (evd_ok hG2 [1, 2, 4, 5, 19, 20, 21] (c95o n l ns i (l.take i)) ?_).wpA
      rw [ltI_false (show ¬ (i : Int) < (l.length : Int) by omega)]
      exact yes_mk (hexit i hil)

theorem do95 : ∀ n, ∀ j, tidy n j = true → PureDo Tryz.prog H4 95 [.d .json j, .v (.bool false)] (.d .json j)
  | 0, _, h => by cases h
  | n + 1, .mk k b d t l ns, h => by
    intro w0 kr h0 hkr
    have hG := gamOK8 h0
    simp only [tidy, Bool.and_eq_true, Bool.not_eq_true', Bool.or_eq_true, decide_eq_true_eq, decide_eq_false_iff_not] at h
    obtain ⟨⟨⟨⟨⟨⟨⟨⟨⟨⟨⟨h1, h2⟩, h3⟩, h4⟩, h5⟩, h6⟩, h7⟩, h8⟩, h9⟩, h10⟩, h11⟩, h12⟩ := h
    obtain ⟨neg, dg, ex⟩ := d
    dsimp only at h2 h3 h4
    subst h1; subst h2; subst h4
    obtain rfl := empty_is h3
    obtain ⟨⟨t⟩⟩ := t
    rcases h9 with ((rfl | rfl) | rfl) | rfl
    · have ht : t = [] := by simpa using h6
      have hl : l = [] := by simpa using h7
      have hns : ns = [] := by simpa using h8
      subst ht; subst hl; subst hns
      refine evG_sound progOK catches hG 9 3 95 _ [] kr ?_
      refine (k95n kr).trans ?_
      exact hkr
    · have hl : l = [] := by simpa using h7
      have hns : ns = [] := by simpa using h8
      subst hl; subst hns
      refine evG_sound progOK catches hG 9 3 95 _ [] kr ?_
      refine (k95t t kr).trans ?_
      exact hkr
    · have ht : t = [] := by simpa using h6
      have hns : ns = [] := by simpa using h8
      subst ht; subst hns
      refine does_wpA Tryz.func95 code95 (n := 51) (by kernel_rfl) ?_
      refine evs_ok hG [1, 2, 4, 5] (a95l l) (yes_mk ?_)
      exact loop95 h0 (do95 n) h11 h12 (.inl ⟨rfl, rfl⟩) hkr
    · have ht : t = [] := by simpa using h6
      subst ht
      have h10 : (ns.length = l.length ∧ distB ns = true) ∧ asciiAll ns = true := by simpa using h10
      refine does_wpA Tryz.func95 code95 (n := 51) (by kernel_rfl) ?_
      refine evs_ok hG [1, 2, 4, 5] (a95o l ns) ?_
      rw [decide_eq_true (show ns.length * 16 ≤ 140737488355328 by omega)]
      refine yes_mk ?_
      exact loop95 h0 (do95 n) h11 h12 (.inr ⟨rfl, h10.1⟩) hkr
end Go.Proofs.YtiaeljbnhdhfcaaGreatDoor

namespace Go.Mo
open Go Go.Lx Go.Proofs.YtiaeljbnhdhfcaaGreatDoor
/-- May a value be (so deep at most)? -/
def goodB (n : Nat) (j : J) : Bool := goodJ n j
def atJ (j : J) (a : ByteArray) : Int := findGo a j.names 0
/-- A member's value; none: nothing. -/
def getJ (j : J) (a : ByteArray) : J := bif ltI (atJ j a) 0 then jD else j.list.getD (Int.toNat (atJ j a)) jD
def hasJ (j : J) (a : ByteArray) : Bool := !ltI (atJ j a) 0
def getOk (n : Nat) (j : J) (a : ByteArray) : Bool := decide (j.names.length < 4611686018427387904) && (!hasJ j a || (goodB n j && decide (atJ j a < (j.list.length : Int)) && tidy n (getJ j a)))
end Go.Mo
namespace Go.Proofs.YtiaeljbnhdhfcaaGreatDoor
open Go Go.RowKit Go.Lx Go.Mo

def checkP (n : Nat) (args : List HV) : Option (Bool × HV) := match args with
  | [.d .json j] => some (goodB n j, .v (.int .i64 0))
  | _ => none
noncomputable def G23 (n : Nat) : Gam := addP 32 (checkP n) (addP 95 (copP n) G8)

theorem run50 (n : Nat) (j : J) (a : ByteArray) (kr : KR) : evG Tryz.prog (G23 n) 9 2 50 [.d .json j, .v (.string a)] [] kr = ((decide ((List.length (J.names j)) < 4611686018427387904)) && (((!(decide ((ltI (findGo a (J.names j) 0) 0) = Bool.false))) || Bool.true) && (((!(decide ((ltI (findGo a (J.names j) 0) 0) = Bool.false))) || ((((!(decide ((ltI (findGo a (J.names j) 0) 0) = Bool.false))) || (decide ((ltI (findGo a (J.names j) 0) 0) = Bool.false))) && Bool.true) && (goodB n j))) && (((!(decide ((ltI (findGo a (J.names j) 0) 0) = Bool.false))) || ((((!(decide ((ltI (findGo a (J.names j) 0) 0) = Bool.false))) || (decide ((ltI (findGo a (J.names j) 0) 0) = Bool.false))) && Bool.true) && Bool.true)) && (((!(!(ltI (findGo a (J.names j) 0) 0))) || (decide ((ltI (findGo a (J.names j) 0) 0) = Bool.false))) && (bif ((ltI (findGo a (J.names j) 0) 0) && Bool.true) then (((decide (8 = 8)) && (decide (Bool.true = Bool.true))) && (kr (HR.ret (HV.tup [(HV.d Cd.json (J.mk 0 Bool.false (Dec.mk Bool.false (ByteArray.mk (Array.mk [])) 0) (ByteArray.mk (Array.mk [])) [] [])), (HV.v (Value.bool Bool.false))])) [])) else (((decide (0 ≤ (findGo a (J.names j) 0))) && (decide ((findGo a (J.names j) 0) < (((List.length (J.list j)) : Nat) : Int)))) && ((tidy n (List.getD (J.list j) (Int.toNat (findGo a (J.names j) 0)) (J.mk 0 Bool.false (Dec.mk Bool.false (ByteArray.mk (Array.mk [])) 0) (ByteArray.mk (Array.mk [])) [] []))) && (((decide (8 = 8)) && (decide (Bool.true = Bool.true))) && (kr (HR.ret (HV.tup [(HV.d Cd.json (List.getD (J.list j) (Int.toNat (findGo a (J.names j) 0)) (J.mk 0 Bool.false (Dec.mk Bool.false (ByteArray.mk (Array.mk [])) 0) (ByteArray.mk (Array.mk [])) [] []))), (HV.v (Value.bool Bool.true))])) [])))))))))) := by kernel_rfl
def getP (n : Nat) (args : List HV) : Option (Bool × HV) := match args with
  | [.d .json j, .v (.string a)] => some (getOk n j a, .tup [.d .json (getJ j a), .v (.bool (hasJ j a))])
  | _ => none
noncomputable def G24 (n : Nat) : Gam := addP 50 (getP n) (G23 n)
theorem run97 (n : Nat) (j : J) (a : ByteArray) (kr : KR) : evG Tryz.prog (G24 n) 9 2 97 [.d .json j, .v (.string a)] [] kr = ((getOk n j a) && (((decide (8 = 8)) && (decide (Bool.true = Bool.true))) && (((!(decide ((hasJ j a) = Bool.true))) || Bool.true) && (((!(decide ((hasJ j a) = Bool.true))) || (((!(decide ((hasJ j a) = Bool.true))) || (decide ((hasJ j a) = Bool.true))) && Bool.true)) && (((!(decide ((hasJ j a) = Bool.true))) || ((((!(decide ((hasJ j a) = Bool.true))) || (decide ((hasJ j a) = Bool.true))) && Bool.true) && Bool.true)) && ((((!(hasJ j a)) || (decide ((hasJ j a) = Bool.true))) && Bool.true) && (kr (HR.ret (HV.tup [(HV.v (Value.string (J.text (getJ j a)))), (HV.v (Value.bool ((hasJ j a) && (decide ((J.kind (getJ j a)) = 3)))))])) []))))))) := by kernel_rfl

def avTextP (n : Nat) (args : List HV) : Option (Bool × HV) := match args with
  | [.d .json j, .v (.string a)] => some (getOk n j a, .tup [.v (.string (J.text (getJ j a))), .v (.bool (hasJ j a && decide (J.kind (getJ j a) = 3)))])
  | _ => none

theorem findGo_ge (a : ByteArray) : ∀ (l : List ByteArray) (k : Nat), findGo a l k = -1 ∨ (k : Int) ≤ findGo a l k
  | [], _ => .inl rfl
  | b :: l, k => by
    simp only [findGo]
    cases beqS a b with
    | true => exact .inr (Int.le_refl _)
    | false => rcases findGo_ge a l (k + 1) with h | h
               · exact .inl h
               · refine .inr ?_
                 simp only [cond_false]; omega

theorem gamOK23 {w0 : World} (h0 : H4 w0) {n : Nat} (hn : n ≤ 1000) : GamOK Tryz.prog w0 (G23 n) := by
  refine addP_ok (gamOK22 h0 (do95 n)) ⟨_, Tryz.func32, rfl⟩ ?_
  intro args r hr h1
  unfold checkP at hr
  split at hr
  · cases hr
    exact pureAns lasts4 (do32 hn h1) rfl rfl h0
  · cases hr

theorem do50 {n : Nat} (hn : n ≤ 1000) {j : J} {a : ByteArray} (h : getOk n j a = true) : PureDo Tryz.prog H4 50 [.d .json j, .v (.string a)] (.tup [.d .json (getJ j a), .v (.bool (hasJ j a))]) := by
  intro w0 kr h0 hk
  refine evG_sound progOK catches (gamOK23 h0 hn) 9 2 50 _ [] kr ?_
  rw [run50]
  unfold getOk at h
  simp only [Bool.and_eq_true, decide_eq_true_eq, Bool.or_eq_true, Bool.not_eq_true'] at h
  obtain ⟨h1, h2⟩ := h
  rw [decide_eq_true h1]
  unfold hasJ getJ atJ at h2 hk
  cases hb : ltI (findGo a j.names 0) 0 with
  | true =>
    rw [hb] at hk
    simp only [hb, decide_false, decide_true, Bool.true_and, Bool.and_true, Bool.not_true, Bool.not_false, Bool.or_true, Bool.true_or, cond_true, Bool.false_or, Bool.or_false, reduceCtorEq, Bool.and_self]
    exact hk
  | false =>
    rw [hb] at hk h2
    simp only [Bool.not_false, Bool.true_eq_false, false_or, cond_false, reduceCtorEq] at h2 hk
    obtain ⟨⟨h2, h3⟩, h4⟩ := h2
    have hge : 0 ≤ findGo a j.names 0 := by
      rcases findGo_ge a j.names 0 with h | h
      · rw [h] at hb; cases hb
      · exact h
    simp only [hb, h2, h4, decide_eq_true h3, decide_eq_true hge, decide_false, decide_true, Bool.true_and, Bool.and_true, Bool.not_true, Bool.not_false, Bool.or_true, Bool.true_or, cond_true, cond_false, Bool.false_or, Bool.or_false, reduceCtorEq, Bool.and_self, Bool.false_and]
    exact hk

theorem gamOK24 {w0 : World} (h0 : H4 w0) {n : Nat} (hn : n ≤ 1000) : GamOK Tryz.prog w0 (G24 n) := by
  refine addP_ok (gamOK23 h0 hn) ⟨_, Tryz.func50, rfl⟩ ?_
  intro args r hr h1
  unfold getP at hr
  split at hr
  · cases hr
    exact pureAns lasts4 (do50 hn h1) rfl rfl h0
  · cases hr

theorem do97 {n : Nat} (hn : n ≤ 1000) {j : J} {a : ByteArray} (h : getOk n j a = true) : PureDo Tryz.prog H4 97 [.d .json j, .v (.string a)] (.tup [.v (.string (J.text (getJ j a))), .v (.bool (hasJ j a && decide (J.kind (getJ j a) = 3)))]) := by
  intro w0 kr h0 hk
  refine evG_sound progOK catches (gamOK24 h0 hn) 9 2 97 _ [] kr ?_
  rw [run97, h]
  cases hb : hasJ j a with
  | true =>
    rw [hb] at hk
    simp only [hb, decide_false, decide_true, Bool.true_and, Bool.and_true, Bool.not_true, Bool.not_false, Bool.or_true, Bool.true_or, Bool.false_or, Bool.or_false, reduceCtorEq, Bool.and_self] at hk ⊢
    exact hk
  | false =>
    rw [hb] at hk
    simp only [hb, decide_false, decide_true, Bool.true_and, Bool.and_true, Bool.not_true, Bool.not_false, Bool.or_true, Bool.true_or, Bool.false_or, Bool.or_false, reduceCtorEq, Bool.and_self, Bool.false_and] at hk ⊢
    exact hk
end Go.Proofs.YtiaeljbnhdhfcaaGreatDoor

namespace Go.Mo
open Go Go.Lx
/-- May a byte stand at a place of a name's part? -/
def okByte (i : Nat) (c : Int) : Bool := (decide (65 ≤ c) && decide (c ≤ 90)) || ((decide (97 ≤ c) && decide (c ≤ 122)) || (decide (c = 95) || (!decide (i = 0) && decide (48 ≤ c) && decide (c ≤ 57))))
def okBytes : Nat → List Int → Bool
  | _, [] => true
  | i, c :: l => okByte i c && okBytes (i + 1) l
def partB (l : List UInt8) : Bool := !l.isEmpty && okBytes 0 (nums l) && decide (l.length ≤ 100000000)
end Go.Mo
namespace Go.Proofs.YtiaeljbnhdhfcaaGreatDoor
open Go Go.RowKit Go.Lx Go.Mo

def st62 (s : ByteArray) (l : List Int) (i : Int) : St := ⟨slots 46 [(0, .v (.string s)), (2, .v (.bool false)), (6, .d (.list (.int .u8)) l), (7, .v (.int .i64 (l.length : Int))), (8, .v (.int .i64 i))], []⟩
theorem a62 (s : ByteArray) (k : KX) : evs G8 1 [(pc 62 [0])] ⟨argT 0 [.v (.string s)] ⟨46, .nil⟩, []⟩ (fun x st => k x (st.keep [0, 2])) = (k HX.normal ⟨slots 46 [(0, (HV.v (Value.string s))), (2, (HV.v (Value.bool Bool.false)))], []⟩) := by kernel_rfl
theorem b62 (s : ByteArray) (k : KX) : evs G8 1 [(pc 62 [1, 0, 0])] ⟨slots 46 [(0, .v (.string s)), (2, .v (.bool false))], []⟩ (fun x st => k x (st.keep [0, 2, 6, 7, 8])) = (k HX.normal ⟨slots 46 [(0, (HV.v (Value.string s))), (2, (HV.v (Value.bool Bool.false))), (6, (HV.d (Cd.list (Cd.int IntKind.u8)) (blist s))), (7, (HV.v (Value.int IntKind.i64 (((List.length (blist s)) : Nat) : Int)))), (8, (HV.v (Value.int IntKind.i64 0)))], []⟩) := by kernel_rfl
theorem c62 (s : ByteArray) (l : List Int) (i : Int) (k : KX) : evs G8 1 [(pc 62 [1, 0, 1, 0, 0, 0]), (pc 62 [1, 0, 1, 0, 0, 1, 0])] (st62 s l i) (fun x st => k x (st.keep [0, 2, 6, 7, 8])) = (bif (ltI i (((List.length l) : Nat) : Int)) then (k HX.normal ⟨slots 46 [(0, (HV.v (Value.string s))), (2, (HV.v (Value.bool Bool.false))), (6, (HV.d (Cd.list (Cd.int IntKind.u8)) l)), (7, (HV.v (Value.int IntKind.i64 (((List.length l) : Nat) : Int)))), (8, (HV.v (Value.int IntKind.i64 i)))], []⟩) else (k (HX.exit 0) ⟨slots 46 [(0, (HV.v (Value.string s))), (2, (HV.v (Value.bool Bool.false))), (6, (HV.d (Cd.list (Cd.int IntKind.u8)) l)), (7, (HV.v (Value.int IntKind.i64 (((List.length l) : Nat) : Int)))), (8, (HV.v (Value.int IntKind.i64 i)))], []⟩)) := by kernel_rfl
theorem d62 (s : ByteArray) (l : List Int) (i : Int) (k : KX) : evs G8 1 [(pc 62 [1, 0, 1, 0, 0, 1, 1, 0, 0, 0])] (st62 s l i) (fun x st => k x (st.keep [0, 2, 3, 4, 6, 7, 8])) = (((decide (0 ≤ i)) && (decide (i < (((List.length l) : Nat) : Int)))) && (k HX.normal ⟨slots 46 [(0, (HV.v (Value.string s))), (2, (HV.v (Value.bool Bool.false))), (3, (HV.v (Value.int IntKind.i64 i))), (4, (HV.v (Value.int IntKind.u8 (List.getD l (Int.toNat i) 0)))), (6, (HV.d (Cd.list (Cd.int IntKind.u8)) l)), (7, (HV.v (Value.int IntKind.i64 (((List.length l) : Nat) : Int)))), (8, (HV.v (Value.int IntKind.i64 i)))], []⟩)) := by kernel_rfl
def st62c (s : ByteArray) (l : List Int) (i c : Int) : St := ⟨slots 46 [(0, .v (.string s)), (2, .v (.bool false)), (3, .v (.int .i64 i)), (4, .v (.int .u8 c)), (6, .d (.list (.int .u8)) l), (7, .v (.int .i64 (l.length : Int))), (8, .v (.int .i64 i))], []⟩
theorem e62 (s : ByteArray) (l : List Int) (i c : Int) (k : KX) : evd G8 1 (pc 62 [1, 0, 1, 0, 0, 1, 1, 0, 0, 1]) (st62c s l i c) (fun x st => k x (st.keep [0, 2, 6, 7, 8])) = (((!(decide ((ltI c 65) = Bool.false))) || Bool.true) && (((!(decide ((ltI c 65) = Bool.false))) || ((((!(decide ((ltI c 65) = Bool.false))) || (decide ((ltI c 65) = Bool.false))) && Bool.true) && Bool.true)) && (((!(!(ltI c 65))) || (decide ((ltI c 65) = Bool.false))) && (((!(decide (((ltI c 65) || (ltI 90 c)) = Bool.true))) || Bool.true) && (((!(decide (((ltI c 65) || (ltI 90 c)) = Bool.true))) || ((((!(decide (((ltI c 65) || (ltI 90 c)) = Bool.true))) || (decide (((ltI c 65) || (ltI 90 c)) = Bool.true))) && Bool.true) && Bool.true)) && (((!(decide (((ltI c 65) || (ltI 90 c)) = Bool.true))) || ((!(decide (((ltI c 65) || (ltI 90 c)) = Bool.true))) || (decide (((ltI c 65) || (ltI 90 c)) = Bool.true)))) && (((!((decide (((ltI c 65) || (ltI 90 c)) = Bool.true)) && (decide ((ltI c 97) = Bool.false)))) || Bool.true) && (((!((decide (((ltI c 65) || (ltI 90 c)) = Bool.true)) && (decide ((ltI c 97) = Bool.false)))) || ((((!((decide (((ltI c 65) || (ltI 90 c)) = Bool.true)) && (decide ((ltI c 97) = Bool.false)))) || ((decide (((ltI c 65) || (ltI 90 c)) = Bool.true)) && (decide ((ltI c 97) = Bool.false)))) && Bool.true) && Bool.true)) && (((!(decide (((ltI c 65) || (ltI 90 c)) = Bool.true))) || ((((!(decide (((ltI c 65) || (ltI 90 c)) = Bool.true))) || (decide (((ltI c 65) || (ltI 90 c)) = Bool.true))) && Bool.true) && ((!((decide (((ltI c 65) || (ltI 90 c)) = Bool.true)) && (!(ltI c 97)))) || ((decide (((ltI c 65) || (ltI 90 c)) = Bool.true)) && (decide ((ltI c 97) = Bool.false)))))) && ((((!((ltI c 65) || (ltI 90 c))) || (decide (((ltI c 65) || (ltI 90 c)) = Bool.true))) && Bool.true) && (((!(decide ((((ltI c 65) || (ltI 90 c)) && ((ltI c 97) || (ltI 122 c))) = Bool.true))) || Bool.true) && (((!(decide ((((ltI c 65) || (ltI 90 c)) && ((ltI c 97) || (ltI 122 c))) = Bool.true))) || ((((!(decide ((((ltI c 65) || (ltI 90 c)) && ((ltI c 97) || (ltI 122 c))) = Bool.true))) || (decide ((((ltI c 65) || (ltI 90 c)) && ((ltI c 97) || (ltI 122 c))) = Bool.true))) && Bool.true) && Bool.true)) && ((((!(((ltI c 65) || (ltI 90 c)) && ((ltI c 97) || (ltI 122 c)))) || (decide ((((ltI c 65) || (ltI 90 c)) && ((ltI c 97) || (ltI 122 c))) = Bool.true))) && Bool.true) && (((!(decide (((((ltI c 65) || (ltI 90 c)) && ((ltI c 97) || (ltI 122 c))) && (!(decide (c = 95)))) = Bool.true))) || Bool.true) && (((!(decide (((((ltI c 65) || (ltI 90 c)) && ((ltI c 97) || (ltI 122 c))) && (!(decide (c = 95)))) = Bool.true))) || ((((!(decide (((((ltI c 65) || (ltI 90 c)) && ((ltI c 97) || (ltI 122 c))) && (!(decide (c = 95)))) = Bool.true))) || (decide (((((ltI c 65) || (ltI 90 c)) && ((ltI c 97) || (ltI 122 c))) && (!(decide (c = 95)))) = Bool.true))) && Bool.true) && Bool.true)) && (((!(decide (((((ltI c 65) || (ltI 90 c)) && ((ltI c 97) || (ltI 122 c))) && (!(decide (c = 95)))) = Bool.true))) || ((!(decide (((((ltI c 65) || (ltI 90 c)) && ((ltI c 97) || (ltI 122 c))) && (!(decide (c = 95)))) = Bool.true))) || (decide (((((ltI c 65) || (ltI 90 c)) && ((ltI c 97) || (ltI 122 c))) && (!(decide (c = 95)))) = Bool.true)))) && (((!((decide (((((ltI c 65) || (ltI 90 c)) && ((ltI c 97) || (ltI 122 c))) && (!(decide (c = 95)))) = Bool.true)) && (decide ((decide (i = 0)) = Bool.false)))) || Bool.true) && (((!((decide (((((ltI c 65) || (ltI 90 c)) && ((ltI c 97) || (ltI 122 c))) && (!(decide (c = 95)))) = Bool.true)) && (decide ((decide (i = 0)) = Bool.false)))) || ((((!((decide (((((ltI c 65) || (ltI 90 c)) && ((ltI c 97) || (ltI 122 c))) && (!(decide (c = 95)))) = Bool.true)) && (decide ((decide (i = 0)) = Bool.false)))) || ((decide (((((ltI c 65) || (ltI 90 c)) && ((ltI c 97) || (ltI 122 c))) && (!(decide (c = 95)))) = Bool.true)) && (decide ((decide (i = 0)) = Bool.false)))) && Bool.true) && Bool.true)) && (((!(decide (((((ltI c 65) || (ltI 90 c)) && ((ltI c 97) || (ltI 122 c))) && (!(decide (c = 95)))) = Bool.true))) || ((((!(decide (((((ltI c 65) || (ltI 90 c)) && ((ltI c 97) || (ltI 122 c))) && (!(decide (c = 95)))) = Bool.true))) || (decide (((((ltI c 65) || (ltI 90 c)) && ((ltI c 97) || (ltI 122 c))) && (!(decide (c = 95)))) = Bool.true))) && Bool.true) && ((!((decide (((((ltI c 65) || (ltI 90 c)) && ((ltI c 97) || (ltI 122 c))) && (!(decide (c = 95)))) = Bool.true)) && (!(decide (i = 0))))) || ((decide (((((ltI c 65) || (ltI 90 c)) && ((ltI c 97) || (ltI 122 c))) && (!(decide (c = 95)))) = Bool.true)) && (decide ((decide (i = 0)) = Bool.false)))))) && (((!(decide (((((ltI c 65) || (ltI 90 c)) && ((ltI c 97) || (ltI 122 c))) && (!(decide (c = 95)))) = Bool.true))) || ((!(decide (((((ltI c 65) || (ltI 90 c)) && ((ltI c 97) || (ltI 122 c))) && (!(decide (c = 95)))) = Bool.true))) || (decide (((((ltI c 65) || (ltI 90 c)) && ((ltI c 97) || (ltI 122 c))) && (!(decide (c = 95)))) = Bool.true)))) && (((!((decide (((((ltI c 65) || (ltI 90 c)) && ((ltI c 97) || (ltI 122 c))) && (!(decide (c = 95)))) = Bool.true)) && (decide (((decide (i = 0)) || (ltI c 48)) = Bool.false)))) || Bool.true) && (((!((decide (((((ltI c 65) || (ltI 90 c)) && ((ltI c 97) || (ltI 122 c))) && (!(decide (c = 95)))) = Bool.true)) && (decide (((decide (i = 0)) || (ltI c 48)) = Bool.false)))) || ((((!((decide (((((ltI c 65) || (ltI 90 c)) && ((ltI c 97) || (ltI 122 c))) && (!(decide (c = 95)))) = Bool.true)) && (decide (((decide (i = 0)) || (ltI c 48)) = Bool.false)))) || ((decide (((((ltI c 65) || (ltI 90 c)) && ((ltI c 97) || (ltI 122 c))) && (!(decide (c = 95)))) = Bool.true)) && (decide (((decide (i = 0)) || (ltI c 48)) = Bool.false)))) && Bool.true) && Bool.true)) && (((!(decide (((((ltI c 65) || (ltI 90 c)) && ((ltI c 97) || (ltI 122 c))) && (!(decide (c = 95)))) = Bool.true))) || ((((!(decide (((((ltI c 65) || (ltI 90 c)) && ((ltI c 97) || (ltI 122 c))) && (!(decide (c = 95)))) = Bool.true))) || (decide (((((ltI c 65) || (ltI 90 c)) && ((ltI c 97) || (ltI 122 c))) && (!(decide (c = 95)))) = Bool.true))) && Bool.true) && ((!((decide (((((ltI c 65) || (ltI 90 c)) && ((ltI c 97) || (ltI 122 c))) && (!(decide (c = 95)))) = Bool.true)) && (!((decide (i = 0)) || (ltI c 48))))) || ((decide (((((ltI c 65) || (ltI 90 c)) && ((ltI c 97) || (ltI 122 c))) && (!(decide (c = 95)))) = Bool.true)) && (decide (((decide (i = 0)) || (ltI c 48)) = Bool.false)))))) && ((((!((((ltI c 65) || (ltI 90 c)) && ((ltI c 97) || (ltI 122 c))) && (!(decide (c = 95))))) || (decide (((((ltI c 65) || (ltI 90 c)) && ((ltI c 97) || (ltI 122 c))) && (!(decide (c = 95)))) = Bool.true))) && Bool.true) && (bif (((((ltI c 65) || (ltI 90 c)) && ((ltI c 97) || (ltI 122 c))) && (!(decide (c = 95)))) && (((decide (i = 0)) || (ltI c 48)) || (ltI 57 c))) then (k HX.ret ⟨slots 46 [(0, (HV.v (Value.string s))), (2, (HV.v (Value.bool Bool.false))), (6, (HV.d (Cd.list (Cd.int IntKind.u8)) l)), (7, (HV.v (Value.int IntKind.i64 (((List.length l) : Nat) : Int)))), (8, (HV.v (Value.int IntKind.i64 i)))], []⟩) else (k HX.normal ⟨slots 46 [(0, (HV.v (Value.string s))), (2, (HV.v (Value.bool Bool.false))), (6, (HV.d (Cd.list (Cd.int IntKind.u8)) l)), (7, (HV.v (Value.int IntKind.i64 (((List.length l) : Nat) : Int)))), (8, (HV.v (Value.int IntKind.i64 i)))], []⟩)))))))))))))))))))))))))) := by kernel_rfl
theorem f62 (s : ByteArray) (l : List Int) (i : Int) (k : KX) : evd G8 1 (pc 62 [1, 0, 1, 0, 0, 1, 1, 1]) (st62 s l i) (fun x st => k x (st.keep [0, 2, 6, 7, 8])) = (k HX.normal ⟨slots 46 [(0, (HV.v (Value.string s))), (2, (HV.v (Value.bool Bool.false))), (6, (HV.d (Cd.list (Cd.int IntKind.u8)) l)), (7, (HV.v (Value.int IntKind.i64 (((List.length l) : Nat) : Int)))), (8, (HV.v (Value.int IntKind.i64 (fwrap IntKind.i64 (i + 1)))))], []⟩) := by kernel_rfl
theorem g62 (s : ByteArray) (l : List Int) (i : Int) (k : KX) : evd G8 1 (pc 62 [1, 1]) (st62 s l i) (fun x st => k x (st.keep [2])) = (k HX.ret ⟨slots 46 [(2, (HV.v (Value.bool (!(beqS s (ByteArray.mk (Array.mk [])))))))], []⟩) := by kernel_rfl
theorem h62 (b : Bool) (kr : KR) : finK Tryz.prog Tryz.f62 [] kr ⟨slots 46 [(2, .v (.bool b))], []⟩ = (kr (HR.ret (HV.v (Value.bool b))) []) := by kernel_rfl
theorem code62 : Tryz.f62.body = some (seqs [(pc 62 [0])] (.seq (seqs [(pc 62 [1, 0, 0])] (.block 0 (.loop (pc 62 [1, 0, 1, 0, 0])))) (pc 62 [1, 1]))) := by kernel_rfl
theorem code62b : (pc 62 [1, 0, 1, 0, 0]) = seqs [(pc 62 [1, 0, 1, 0, 0, 0]), (pc 62 [1, 0, 1, 0, 0, 1, 0])] (.seq (.block 1 (seqs [(pc 62 [1, 0, 1, 0, 0, 1, 1, 0, 0, 0])] (pc 62 [1, 0, 1, 0, 0, 1, 1, 0, 0, 1]))) (pc 62 [1, 0, 1, 0, 0, 1, 1, 1])) := by kernel_rfl

theorem okBytes_get : ∀ {l : List Int} {k : Nat}, okBytes k l = true → ∀ (i : Nat) (c : Int), l[i]? = some c → okByte (k + i) c = true
  | [], k, _, i, c, h => by simp at h
  | x :: l, k, h, 0, c, hc => by
    simp only [okBytes, Bool.and_eq_true] at h
    simp only [List.getElem?_cons_zero, Option.some.injEq] at hc
    subst hc; exact h.1
  | x :: l, k, h, i + 1, c, hc => by
    simp only [okBytes, Bool.and_eq_true] at h
    rw [List.getElem?_cons_succ] at hc
    have := okBytes_get h.2 i c hc
    rw [show k + (i + 1) = k + 1 + i by omega]; exact this

theorem e62ok (s : ByteArray) (l : List Int) (i : Nat) (c : Int) (h : okByte i c = true) {w0 : World} {F : HX → St → Prop} {L0 : List Ob} (h0 : H4 w0) (hF : F .normal (st62 s l i)) : WpA Tryz.prog w0 L0 (pc 62 [1, 0, 1, 0, 0, 1, 1, 0, 0, 1]) (st62c s l i c) F := by
  refine (evd_ok (gamOK8 h0) [0, 2, 6, 7, 8] (e62 s l i c) ?_).wpA
  unfold okByte at h
  simp only [Bool.or_eq_true, Bool.and_eq_true, decide_eq_true_eq, Bool.not_eq_true', decide_eq_false_iff_not] at h
  rcases h with h | h | h | h
  · simp only [ltI_false (show ¬ c < 65 by omega), ltI_false (show ¬ 90 < c by omega), decide_true, decide_false, Bool.true_and, Bool.and_true, Bool.false_and, Bool.and_false, Bool.not_true, Bool.not_false, Bool.true_or, Bool.or_true, Bool.false_or, Bool.or_false, cond_true, cond_false, reduceCtorEq, Bool.and_self, Bool.or_self]
    exact yes_mk hF
  · simp only [ltI_false (show ¬ c < 65 by omega), ltI_true (show 90 < c by omega), ltI_false (show ¬ c < 97 by omega), ltI_false (show ¬ 122 < c by omega), decide_true, decide_false, Bool.true_and, Bool.and_true, Bool.false_and, Bool.and_false, Bool.not_true, Bool.not_false, Bool.true_or, Bool.or_true, Bool.false_or, Bool.or_false, cond_true, cond_false, reduceCtorEq, Bool.and_self, Bool.or_self]
    exact yes_mk hF
  · subst h
    simp only [show ltI 95 65 = false from rfl, show ltI 90 95 = true from rfl, show ltI 95 97 = true from rfl, decide_true, decide_false, Bool.true_and, Bool.and_true, Bool.false_and, Bool.and_false, Bool.not_true, Bool.not_false, Bool.true_or, Bool.or_true, Bool.false_or, Bool.or_false, cond_true, cond_false, reduceCtorEq, Bool.and_self, Bool.or_self]
    exact yes_mk hF
  · simp only [ltI_true (show c < 65 by omega), decide_eq_false (show ¬ c = 95 by omega), decide_eq_false (show ¬ (i : Int) = 0 by omega), ltI_true (show c < 97 by omega), ltI_false (show ¬ c < 48 by omega), ltI_false (show ¬ 57 < c by omega), decide_true, decide_false, Bool.true_and, Bool.and_true, Bool.false_and, Bool.and_false, Bool.not_true, Bool.not_false, Bool.true_or, Bool.or_true, Bool.false_or, Bool.or_false, cond_true, cond_false, reduceCtorEq, Bool.and_self, Bool.or_self]
    exact yes_mk hF

theorem vw62 (s : ByteArray) (l : List Int) (i : Int) : vw [] 0 (st62 s l i) = st62 s l i := by kernel_rfl

theorem do62 {s : List UInt8} (hs : partB s = true) : PureDo Tryz.prog H4 62 [tx s] (.v (.bool true)) := by
  intro w0 kr h0 hk
  have hG := gamOK8 h0
  unfold partB at hs
  simp only [Bool.and_eq_true, Bool.not_eq_true', decide_eq_true_eq] at hs
  obtain ⟨⟨h1, h2⟩, h3⟩ := hs
  refine does_wpA Tryz.func62 code62 (n := 46) (by kernel_rfl) ?_
  refine evs_ok hG [0, 2] (a62 ⟨⟨s⟩⟩) (yes_mk ?_)
  refine wpA_seq (evs_ok hG [0, 2, 6, 7, 8] (b62 ⟨⟨s⟩⟩) (yes_mk ?_))
  have hbl : blist ⟨⟨s⟩⟩ = nums s := rfl
  rw [hbl]
  have hnl : (nums s).length = s.length := by simp [nums]
  refine wpA_block (wpA_loop (α := { i : Nat // i ≤ (nums s).length }) (fun i => st62 ⟨⟨s⟩⟩ (nums s) i.1) (fun i => (nums s).length - i.1) (fun i => ?_) ⟨0, Nat.zero_le _⟩)
  obtain ⟨i, hi⟩ := i
  dsimp only
  rw [code62b]
  refine evs_ok hG [0, 2, 6, 7, 8] (c62 ⟨⟨s⟩⟩ (nums s) i) ?_
  rcases Nat.lt_or_ge i (nums s).length with hlt | hge
  · rw [ltI_true (show (i : Int) < ((nums s).length : Int) by omega)]
    refine yes_mk ?_
    refine wpA_seq (wpA_block ?_)
    refine evs_ok hG [0, 2, 3, 4, 6, 7, 8] (d62 ⟨⟨s⟩⟩ (nums s) i) ?_
    have hg : (nums s)[i]? = some (nums s)[i] := List.getElem?_eq_getElem hlt
    have hgd : (nums s).getD (Int.toNat ((i : Nat) : Int)) 0 = (nums s)[i] := by rw [Int.toNat_natCast, List.getD_eq_getElem?_getD, hg]; rfl
    rw [decide_eq_true (show (0 : Int) ≤ (i : Int) by omega), decide_eq_true (show (i : Int) < ((nums s).length : Int) by omega), hgd]
    refine yes_mk ?_
    have hok := okBytes_get h2 i _ hg
    rw [Nat.zero_add] at hok
    refine e62ok _ _ _ _ hok h0 ?_
    refine (evd_ok hG [0, 2, 6, 7, 8] (f62 ⟨⟨s⟩⟩ (nums s) i) (yes_mk ?_)).wpA
    rw [fwrap_i64 (show -9223372036854775808 ≤ (i : Int) + 1 by omega) (by omega)]
    exact ⟨⟨i + 1, hlt⟩, [], 0, by dsimp only; omega, rfl, vw62 _ _ _⟩
  · rw [ltI_false (show ¬ (i : Int) < ((nums s).length : Int) by omega)]
    refine yes_mk ?_
    refine (evd_ok hG [2] (g62 ⟨⟨s⟩⟩ (nums s) i) (yes_mk ?_)).wpA
    have hne : beqS ⟨⟨s⟩⟩ ⟨⟨[]⟩⟩ = false := by
      cases s with
      | nil => cases h1
      | cons c s => rfl
    show finK Tryz.prog Tryz.f62 [] kr ⟨slots 46 [(2, .v (.bool (!beqS ⟨⟨s⟩⟩ ⟨⟨[]⟩⟩)))], []⟩ = true
    rw [h62, hne]
    exact hk
end Go.Proofs.YtiaeljbnhdhfcaaGreatDoor
