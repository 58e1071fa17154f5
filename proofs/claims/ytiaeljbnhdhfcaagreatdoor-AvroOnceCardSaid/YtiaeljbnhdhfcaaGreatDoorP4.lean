/- jsontext: unlike, may, quote. -/
import Derived.Test.YtiaeljbnhdhfcaaGreatDoorP3
import Derived.Test.YtiaeljbnhdhfcaaGreatDoorM17
namespace Go.Mo
open Go Go.Lx
def asciiSB (l : List UInt8) : Bool := l.all fun x => decide ((x.toNat : Int) < 128)
def asciiAll (l : List ByteArray) : Bool := l.all fun a => asciiSB a.data.toList
/-- No two alike. -/
def distB : List ByteArray → Bool
  | [] => true
  | a :: l => !(l.any (beqS a)) && distB l

/-- A value as Parse makes them, of ASCII, so deep at most: no flag, no number. -/
def tidy : Nat → J → Bool
  | 0, _ => false
  | n + 1, .mk k b d t l ns => !b && !d.neg && d.digits.data.toList.isEmpty && decide (d.exp = 0) && asciiSB t.data.toList && (decide (k = 3) || t.data.toList.isEmpty) && (decide (k = 4) || decide (k = 5) || l.isEmpty) && (decide (k = 5) || ns.isEmpty) &&
      (decide (k = 0) || decide (k = 3) || decide (k = 4) || decide (k = 5)) && (!decide (k = 5) || (decide (ns.length = l.length) && distB ns && asciiAll ns)) && l.all (tidy n) && decide (l.length ≤ 100000000)

def maxI (a b : Int) : Int := if b > a then b else a

/-- How deep. -/
def deepJ : Nat → J → Int
  | 0, _ => 0
  | n + 1, .mk k _ _ _ l _ => if k = 4 ∨ k = 5 then l.foldl (fun d x => maxI d (deepJ n x + 1)) 1 else 0
end Go.Mo
namespace Go.Proofs.YtiaeljbnhdhfcaaGreatDoor
open Go Go.RowKit Go.Lx Go.Mo

noncomputable abbrev evs (G : Gam) (m : Nat) (l : List Code) (st : St) (k : KX) : Bool := evS (fun c st k => evd G m c st k) l st k

theorem evs_ok {w0 : World} {G : Gam} (hG : GamOK Tryz.prog w0 G) {L0 : List Ob} {m : Nat} {l : List Code} {c : Code} {st : St} (ks : List Nat) {R : KX → Bool} {F : HX → St → Prop}
    (hr : ∀ k : KX, evs G m l st (fun x st => k x (st.keep ks)) = R k) (h : R (fun x st' => yes (match x with | .normal => WpA Tryz.prog w0 L0 c st' F | x => F x st')) = true) : WpA Tryz.prog w0 L0 (seqs l c) st F :=
  wpA_evS (gt := fun _ _ _ _ => false) progOK hG (evG_sound progOK catches hG 9 m) (canonD_ok progOK hG (evG_sound progOK catches hG 9 m)) (fun _ _ _ _ h => by cases h) ks l st ((hr _).trans h)

def validSP (args : List HV) : Option (Bool × HV) := match args with
  | [.v (.string a)] => some (asciiSB a.data.toList, .v (.bool true))
  | _ => none
noncomputable def G15 : Gam := addP 102 validSP G8

def mapE (es : Es) : Ob := .map .str (.int .i64) es
def st104 (ns : List ByteArray) (i : Int) (es : Es) : St := ⟨slots 27 [(2, .v (.bool false)), (3, .map 0), (7, .d (.list .str) ns), (8, .v (.int .i64 (ns.length : Int))), (9, .v (.int .i64 i))], [mapE es]⟩
theorem a104 (ns : List ByteArray) (k : KX) : evs G15 1 [(pc 104 [0]), (pc 104 [1, 0])] ⟨argT 0 [.d (.list .str) ns] ⟨27, .nil⟩, []⟩ (fun x st => k x (st.keep [0, 2, 3])) = (k HX.normal ⟨slots 27 [(0, (HV.d (Cd.list Cd.str) ns)), (2, (HV.v (Value.bool Bool.false))), (3, (HV.map 0))], [(Ob.map Cd.str (Cd.int IntKind.i64) [])]⟩) := by kernel_rfl
theorem a104b (ns : List ByteArray) (k : KX) : evs G15 1 [(pc 104 [1, 1, 0, 0])] ⟨slots 27 [(0, .d (.list .str) ns), (2, .v (.bool false)), (3, .map 0)], [mapE []]⟩ (fun x st => k x (st.keep [2, 3, 7, 8, 9])) = (k HX.normal ⟨slots 27 [(2, (HV.v (Value.bool Bool.false))), (3, (HV.map 0)), (7, (HV.d (Cd.list Cd.str) ns)), (8, (HV.v (Value.int IntKind.i64 (((List.length ns) : Nat) : Int)))), (9, (HV.v (Value.int IntKind.i64 0)))], [(Ob.map Cd.str (Cd.int IntKind.i64) [])]⟩) := by kernel_rfl
theorem b104 (ns : List ByteArray) (i : Nat) (es : Es) (k : KX) : evd G15 1 (pc 104 [1, 1, 0, 1, 0, 0]) (st104 ns i es) (fun x st => k x (st.keep [2, 3, 7, 8, 9])) = (bif (ltI ((i : Nat) : Int) (((List.length ns) : Nat) : Int)) then ((decide (((i : Nat) : Int) < (((List.length ns) : Nat) : Int))) && (((!(decide ((ltI 1 (mval (k := Cd.str) (v := (Cd.int IntKind.i64)) (mput (k := Cd.str) (v := (Cd.int IntKind.i64)) es (List.getD ns (Int.toNat ((i : Nat) : Int)) (ByteArray.mk (Array.mk []))) (fwrap IntKind.i64 ((mval (k := Cd.str) (v := (Cd.int IntKind.i64)) es (List.getD ns (Int.toNat ((i : Nat) : Int)) (ByteArray.mk (Array.mk [])))) + 1))) (List.getD ns (Int.toNat ((i : Nat) : Int)) (ByteArray.mk (Array.mk []))))) = Bool.false))) || Bool.true) && (((!(decide ((ltI 1 (mval (k := Cd.str) (v := (Cd.int IntKind.i64)) (mput (k := Cd.str) (v := (Cd.int IntKind.i64)) es (List.getD ns (Int.toNat ((i : Nat) : Int)) (ByteArray.mk (Array.mk []))) (fwrap IntKind.i64 ((mval (k := Cd.str) (v := (Cd.int IntKind.i64)) es (List.getD ns (Int.toNat ((i : Nat) : Int)) (ByteArray.mk (Array.mk [])))) + 1))) (List.getD ns (Int.toNat ((i : Nat) : Int)) (ByteArray.mk (Array.mk []))))) = Bool.false))) || ((((!(decide ((ltI 1 (mval (k := Cd.str) (v := (Cd.int IntKind.i64)) (mput (k := Cd.str) (v := (Cd.int IntKind.i64)) es (List.getD ns (Int.toNat ((i : Nat) : Int)) (ByteArray.mk (Array.mk []))) (fwrap IntKind.i64 ((mval (k := Cd.str) (v := (Cd.int IntKind.i64)) es (List.getD ns (Int.toNat ((i : Nat) : Int)) (ByteArray.mk (Array.mk [])))) + 1))) (List.getD ns (Int.toNat ((i : Nat) : Int)) (ByteArray.mk (Array.mk []))))) = Bool.false))) || (decide ((ltI 1 (mval (k := Cd.str) (v := (Cd.int IntKind.i64)) (mput (k := Cd.str) (v := (Cd.int IntKind.i64)) es (List.getD ns (Int.toNat ((i : Nat) : Int)) (ByteArray.mk (Array.mk []))) (fwrap IntKind.i64 ((mval (k := Cd.str) (v := (Cd.int IntKind.i64)) es (List.getD ns (Int.toNat ((i : Nat) : Int)) (ByteArray.mk (Array.mk [])))) + 1))) (List.getD ns (Int.toNat ((i : Nat) : Int)) (ByteArray.mk (Array.mk []))))) = Bool.false))) && Bool.true) && (asciiSB (Array.toList (ByteArray.data (List.getD ns (Int.toNat ((i : Nat) : Int)) (ByteArray.mk (Array.mk [])))))))) && (((!(decide ((ltI 1 (mval (k := Cd.str) (v := (Cd.int IntKind.i64)) (mput (k := Cd.str) (v := (Cd.int IntKind.i64)) es (List.getD ns (Int.toNat ((i : Nat) : Int)) (ByteArray.mk (Array.mk []))) (fwrap IntKind.i64 ((mval (k := Cd.str) (v := (Cd.int IntKind.i64)) es (List.getD ns (Int.toNat ((i : Nat) : Int)) (ByteArray.mk (Array.mk [])))) + 1))) (List.getD ns (Int.toNat ((i : Nat) : Int)) (ByteArray.mk (Array.mk []))))) = Bool.false))) || ((!(decide ((ltI 1 (mval (k := Cd.str) (v := (Cd.int IntKind.i64)) (mput (k := Cd.str) (v := (Cd.int IntKind.i64)) es (List.getD ns (Int.toNat ((i : Nat) : Int)) (ByteArray.mk (Array.mk []))) (fwrap IntKind.i64 ((mval (k := Cd.str) (v := (Cd.int IntKind.i64)) es (List.getD ns (Int.toNat ((i : Nat) : Int)) (ByteArray.mk (Array.mk [])))) + 1))) (List.getD ns (Int.toNat ((i : Nat) : Int)) (ByteArray.mk (Array.mk []))))) = Bool.false))) || (decide ((ltI 1 (mval (k := Cd.str) (v := (Cd.int IntKind.i64)) (mput (k := Cd.str) (v := (Cd.int IntKind.i64)) es (List.getD ns (Int.toNat ((i : Nat) : Int)) (ByteArray.mk (Array.mk []))) (fwrap IntKind.i64 ((mval (k := Cd.str) (v := (Cd.int IntKind.i64)) es (List.getD ns (Int.toNat ((i : Nat) : Int)) (ByteArray.mk (Array.mk [])))) + 1))) (List.getD ns (Int.toNat ((i : Nat) : Int)) (ByteArray.mk (Array.mk []))))) = Bool.false)))) && (((!(!(ltI 1 (mval (k := Cd.str) (v := (Cd.int IntKind.i64)) (mput (k := Cd.str) (v := (Cd.int IntKind.i64)) es (List.getD ns (Int.toNat ((i : Nat) : Int)) (ByteArray.mk (Array.mk []))) (fwrap IntKind.i64 ((mval (k := Cd.str) (v := (Cd.int IntKind.i64)) es (List.getD ns (Int.toNat ((i : Nat) : Int)) (ByteArray.mk (Array.mk [])))) + 1))) (List.getD ns (Int.toNat ((i : Nat) : Int)) (ByteArray.mk (Array.mk []))))))) || (decide ((ltI 1 (mval (k := Cd.str) (v := (Cd.int IntKind.i64)) (mput (k := Cd.str) (v := (Cd.int IntKind.i64)) es (List.getD ns (Int.toNat ((i : Nat) : Int)) (ByteArray.mk (Array.mk []))) (fwrap IntKind.i64 ((mval (k := Cd.str) (v := (Cd.int IntKind.i64)) es (List.getD ns (Int.toNat ((i : Nat) : Int)) (ByteArray.mk (Array.mk [])))) + 1))) (List.getD ns (Int.toNat ((i : Nat) : Int)) (ByteArray.mk (Array.mk []))))) = Bool.false))) && (bif ((ltI 1 (mval (k := Cd.str) (v := (Cd.int IntKind.i64)) (mput (k := Cd.str) (v := (Cd.int IntKind.i64)) es (List.getD ns (Int.toNat ((i : Nat) : Int)) (ByteArray.mk (Array.mk []))) (fwrap IntKind.i64 ((mval (k := Cd.str) (v := (Cd.int IntKind.i64)) es (List.getD ns (Int.toNat ((i : Nat) : Int)) (ByteArray.mk (Array.mk [])))) + 1))) (List.getD ns (Int.toNat ((i : Nat) : Int)) (ByteArray.mk (Array.mk []))))) && Bool.true) then (k HX.ret ⟨slots 27 [(2, (HV.v (Value.bool Bool.false))), (3, (HV.map 0)), (7, (HV.d (Cd.list Cd.str) ns)), (8, (HV.v (Value.int IntKind.i64 (((List.length ns) : Nat) : Int)))), (9, (HV.v (Value.int IntKind.i64 ((i : Nat) : Int))))], [(Ob.map Cd.str (Cd.int IntKind.i64) (mput (k := Cd.str) (v := (Cd.int IntKind.i64)) es (List.getD ns (Int.toNat ((i : Nat) : Int)) (ByteArray.mk (Array.mk []))) (fwrap IntKind.i64 ((mval (k := Cd.str) (v := (Cd.int IntKind.i64)) es (List.getD ns (Int.toNat ((i : Nat) : Int)) (ByteArray.mk (Array.mk [])))) + 1))))]⟩) else (k HX.normal ⟨slots 27 [(2, (HV.v (Value.bool Bool.false))), (3, (HV.map 0)), (7, (HV.d (Cd.list Cd.str) ns)), (8, (HV.v (Value.int IntKind.i64 (((List.length ns) : Nat) : Int)))), (9, (HV.v (Value.int IntKind.i64 (fwrap IntKind.i64 (((i : Nat) : Int) + 1)))))], [(Ob.map Cd.str (Cd.int IntKind.i64) (mput (k := Cd.str) (v := (Cd.int IntKind.i64)) es (List.getD ns (Int.toNat ((i : Nat) : Int)) (ByteArray.mk (Array.mk []))) (fwrap IntKind.i64 ((mval (k := Cd.str) (v := (Cd.int IntKind.i64)) es (List.getD ns (Int.toNat ((i : Nat) : Int)) (ByteArray.mk (Array.mk [])))) + 1))))]⟩))))))) else (k (HX.exit 0) ⟨slots 27 [(2, (HV.v (Value.bool Bool.false))), (3, (HV.map 0)), (7, (HV.d (Cd.list Cd.str) ns)), (8, (HV.v (Value.int IntKind.i64 (((List.length ns) : Nat) : Int)))), (9, (HV.v (Value.int IntKind.i64 ((i : Nat) : Int))))], [(Ob.map Cd.str (Cd.int IntKind.i64) es)]⟩)) := by kernel_rfl
theorem c104 (ns : List ByteArray) (i : Int) (es : Es) (k : KX) : evd G15 1 (pc 104 [1, 1, 1]) (st104 ns i es) (fun x st => k x (st.keep [2])) = (k HX.ret ⟨slots 27 [(2, (HV.v (Value.bool Bool.true)))], [(Ob.map Cd.str (Cd.int IntKind.i64) es)]⟩) := by kernel_rfl
theorem d104 (b : Bool) (L : List Ob) (kr : KR) : finK Tryz.prog Tryz.f104 [] kr ⟨slots 27 [(2, .v (.bool b))], L⟩ = (kr (HR.ret (HV.v (Value.bool b))) []) := by kernel_rfl
theorem code104 : Tryz.f104.body = some (seqs [(pc 104 [0]), (pc 104 [1, 0])] (.seq (seqs [(pc 104 [1, 1, 0, 0])] (.block 0 (.loop (pc 104 [1, 1, 0, 1, 0, 0])))) (pc 104 [1, 1, 1]))) := by kernel_rfl

theorem asciiSB_ok {l : List UInt8} (h : asciiSB l = true) : AsciiS l := fun x hx => by
  unfold asciiSB at h
  rw [List.all_eq_true] at h
  exact of_decide_eq_true (h x hx)

theorem gamOK15 {w0 : World} (h0 : H4 w0) : GamOK Tryz.prog w0 G15 := by
  refine addP_ok (gamOK8 h0) ⟨_, Tryz.func102, rfl⟩ ?_
  intro args r h h1
  unfold validSP at h
  split at h
  · cases h
    exact pureAns lasts4 (do102a (asciiSB_ok h1)) rfl rfl h0
  · cases h

theorem beqS_iff {a b : ByteArray} : beqS a b = true ↔ a = b := ⟨fun h => beqS_eq h, fun h => by subst h; simp [beqS]⟩

theorem keq_str (a b : ByteArray) : keq .str a b = beqS a b := rfl

/-- Names that were met once each. -/
def onces (l : List ByteArray) : Es := l.map fun a => (a, 1)

theorem mval_onces : ∀ (l : List ByteArray) (x : ByteArray), (∀ a ∈ l, beqS x a = false) → mvalS (onces l) x = 0
  | [], _, _ => rfl
  | a :: l, x, h => by
    have h1 := h a List.mem_cons_self
    have := mval_onces l x (fun b hb => h b (List.mem_cons_of_mem _ hb))
    unfold mvalS onces at this ⊢
    simp only [List.map_cons, mval, keq_str, h1, cond_false]
    exact this

theorem mput_onces : ∀ (l : List ByteArray) (x : ByteArray), (∀ a ∈ l, beqS x a = false) → mputS (onces l) x 1 = onces (l ++ [x])
  | [], _, _ => rfl
  | a :: l, x, h => by
    have h1 := h a List.mem_cons_self
    have := mput_onces l x (fun b hb => h b (List.mem_cons_of_mem _ hb))
    unfold mputS onces at this ⊢
    simp only [List.map_cons, mput, keq_str, h1, cond_false, List.cons_append]
    rw [this]

theorem mval_new : ∀ (l : List ByteArray) (x : ByteArray), (∀ a ∈ l, beqS x a = false) → mvalS (onces (l ++ [x])) x = 1
  | [], x, _ => by
    unfold mvalS onces
    simp only [List.nil_append, List.map_cons, List.map_nil, mval, keq_str, beqS_iff.2 rfl, cond_true]
  | a :: l, x, h => by
    have h1 := h a List.mem_cons_self
    have := mval_new l x (fun b hb => h b (List.mem_cons_of_mem _ hb))
    unfold mvalS onces at this ⊢
    simp only [List.map_cons, mval, keq_str, h1, cond_false, List.cons_append]
    exact this

theorem distB_get : ∀ {ns : List ByteArray}, distB ns = true → ∀ (i : Nat) (x : ByteArray), ns[i]? = some x → ∀ a ∈ ns.take i, beqS x a = false
  | [], _, i, x, h, _, _ => by simp at h
  | n :: ns, hd, 0, x, h, a, ha => by simp at ha
  | n :: ns, hd, i + 1, x, h, a, ha => by
    simp only [distB, Bool.and_eq_true, Bool.not_eq_true', List.any_eq_false] at hd
    rw [List.getElem?_cons_succ] at h
    rw [List.take_succ_cons] at ha
    rcases List.mem_cons.1 ha with rfl | ha
    · have := hd.1 x (List.mem_of_getElem? h)
      cases hb : beqS x a with
      | false => rfl
      | true => rw [beqS_iff] at hb; subst hb; exact absurd (beqS_iff.2 rfl) this
    · exact distB_get hd.2 i x h a ha

theorem vw104 (ns : List ByteArray) (i : Int) (es : Es) : vw [] 1 (st104 ns i es) = st104 ns i es := by kernel_rfl

theorem do104 {ns : List ByteArray} (hl : ns.length ≤ B42) (hd : distB ns = true) (ha : asciiAll ns = true) : PureDo Tryz.prog H4 104 [.d (.list .str) ns] (.v (.bool true)) := by
  intro w0 kr h0 hkr
  have hG := gamOK15 h0
  refine does_wpA Tryz.func104 code104 (n := 27) (by kernel_rfl) ?_
  refine evs_ok hG [0, 2, 3] (a104 ns) (yes_mk ?_)
  refine wpA_seq (evs_ok hG [2, 3, 7, 8, 9] (a104b ns) (yes_mk ?_))
  refine wpA_block (wpA_loop (α := { i : Nat // i ≤ ns.length }) (fun i => st104 ns i.1 (onces (ns.take i.1))) (fun i => ns.length - i.1) (fun i => ?_) ⟨0, Nat.zero_le _⟩)
  obtain ⟨i, hi⟩ := i
  dsimp only
  refine (evd_ok hG [2, 3, 7, 8, 9] (b104 ns i (onces (ns.take i))) ?_).wpA
  rcases Nat.lt_or_ge i ns.length with hlt | hge
  · have e1 : ltI (i : Int) (ns.length : Int) = true := by rw [ltI_iff]; omega
    have hg : ns[i]? = some ns[i] := List.getElem?_eq_getElem hlt
    have hgd : ns.getD (Int.toNat ((i : Nat) : Int)) (ByteArray.mk (Array.mk [])) = ns[i] := by rw [Int.toNat_natCast, List.getD_eq_getElem?_getD, hg]; rfl
    have hno := distB_get hd i ns[i] hg
    have m0 : mval (k := .str) (v := .int .i64) (onces (ns.take i)) ns[i] = 0 := mval_onces _ _ hno
    have m1 : mput (k := .str) (v := .int .i64) (onces (ns.take i)) ns[i] 1 = onces (ns.take i ++ [ns[i]]) := mput_onces _ _ hno
    have m2 : mval (k := .str) (v := .int .i64) (onces (ns.take i ++ [ns[i]])) ns[i] = 1 := mval_new _ _ hno
    have e2 : decide ((i : Int) < (ns.length : Int)) = true := decide_eq_true (by omega)
    have hasc : asciiSB ns[i].data.toList = true := by
      unfold asciiAll at ha
      rw [List.all_eq_true] at ha
      exact ha _ (List.getElem_mem hlt)
    have htk : ns.take i ++ [ns[i]] = ns.take (i + 1) := (List.take_append_getElem hlt)
    rw [e1, cond_true, hgd]
    have f1 : fwrap .i64 ((0 : Int) + 1) = 1 := rfl
    have f2 : ltI 1 1 = false := rfl
    have f3 : fwrap .i64 ((i : Int) + 1) = ((i + 1 : Nat) : Int) := fwrap_i64 (by omega) (by unfold B42 at hl; omega)
    simp only [m0, f1, m1, m2, f2, e2, hasc, f3, decide_true, decide_false, Bool.true_and, Bool.not_true, Bool.not_false, Bool.or_true, Bool.true_or, Bool.false_or, Bool.and_true, cond_true, cond_false, Bool.and_self, reduceCtorEq, Bool.or_false]
    refine yes_mk ⟨⟨i + 1, hlt⟩, [], 1, by dsimp only; omega, rfl, ?_⟩
    dsimp only
    rw [← htk]
    exact vw104 ns ((i + 1 : Nat) : Int) _
  · have e1 : ltI (i : Int) (ns.length : Int) = false := by
      cases h : ltI (i : Int) (ns.length : Int) with
      | false => rfl
      | true => rw [ltI_iff] at h; omega
    rw [e1]
    refine yes_mk ?_
    refine (evd_ok hG [2] (c104 ns i (onces (ns.take i))) (yes_mk ?_)).wpA
    show finK Tryz.prog Tryz.f104 [] kr ⟨slots 27 [(2, .v (.bool true))], [.map .str (.int .i64) (onces (ns.take i))]⟩ = true
    rw [d104]
    exact hkr
end Go.Proofs.YtiaeljbnhdhfcaaGreatDoor

namespace Go.Proofs.YtiaeljbnhdhfcaaGreatDoor
open Go Go.RowKit Go.Lx Go.Mo

def unlikeP (args : List HV) : Option (Bool × HV) := match args with
  | [.d (.list .str) ns] => some (decide ((ns : List ByteArray).length ≤ 100000000) && distB ns && asciiAll ns, .v (.bool true))
  | _ => none
def mayP (n : Nat) (args : List HV) : Option (Bool × HV) := match args with
  | [.d .json j] => some (tidy n j, .tup [.v (.int .i64 (deepJ n j)), .v (.bool true)])
  | _ => none
noncomputable def G16 : Gam := addP 104 unlikeP G15
noncomputable def G17 (n : Nat) : Gam := addP 64 (mayP n) G16

@[reducible] def zd : Dec := ⟨false, ⟨⟨[]⟩⟩, 0⟩
@[reducible] def jk (k : Int) (t : List UInt8) (l : List J) (ns : List ByteArray) : HV := .d .json (.mk k false zd ⟨⟨t⟩⟩ l ns)

theorem k64n (kr : KR) : evG Tryz.prog G16 9 3 64 [jk 0 [] [] []] [] kr = (kr (HR.ret (HV.tup [(HV.v (Value.int IntKind.i64 0)), (HV.v (Value.bool Bool.true))])) []) := by kernel_rfl
theorem k64t (t : List UInt8) (kr : KR) : evG Tryz.prog G16 9 3 64 [jk 3 t [] []] [] kr = ((asciiSB t) && (((decide (1 = 1)) && (decide (Bool.false = Bool.false))) && (((!(decide ((!(beqS (ByteArray.mk (Array.mk t)) (ByteArray.mk (Array.mk t)))) = Bool.false))) || Bool.true) && (((!(decide ((!(beqS (ByteArray.mk (Array.mk t)) (ByteArray.mk (Array.mk t)))) = Bool.false))) || ((((!(decide ((!(beqS (ByteArray.mk (Array.mk t)) (ByteArray.mk (Array.mk t)))) = Bool.false))) || (decide ((!(beqS (ByteArray.mk (Array.mk t)) (ByteArray.mk (Array.mk t)))) = Bool.false))) && Bool.true) && Bool.true)) && (((!(decide ((!(beqS (ByteArray.mk (Array.mk t)) (ByteArray.mk (Array.mk t)))) = Bool.false))) || ((!(decide ((!(beqS (ByteArray.mk (Array.mk t)) (ByteArray.mk (Array.mk t)))) = Bool.false))) || (decide ((!(beqS (ByteArray.mk (Array.mk t)) (ByteArray.mk (Array.mk t)))) = Bool.false)))) && (((!((decide ((!(beqS (ByteArray.mk (Array.mk t)) (ByteArray.mk (Array.mk t)))) = Bool.false)) && Bool.true)) || Bool.true) && (((!((decide ((!(beqS (ByteArray.mk (Array.mk t)) (ByteArray.mk (Array.mk t)))) = Bool.false)) && Bool.true)) || (((!((decide ((!(beqS (ByteArray.mk (Array.mk t)) (ByteArray.mk (Array.mk t)))) = Bool.false)) && Bool.true)) || ((decide ((!(beqS (ByteArray.mk (Array.mk t)) (ByteArray.mk (Array.mk t)))) = Bool.false)) && Bool.true)) && Bool.true)) && (((!((decide ((!(beqS (ByteArray.mk (Array.mk t)) (ByteArray.mk (Array.mk t)))) = Bool.false)) && Bool.true)) || ((!((decide ((!(beqS (ByteArray.mk (Array.mk t)) (ByteArray.mk (Array.mk t)))) = Bool.false)) && Bool.true)) || ((decide ((!(beqS (ByteArray.mk (Array.mk t)) (ByteArray.mk (Array.mk t)))) = Bool.false)) && Bool.true))) && (((!((decide ((!(beqS (ByteArray.mk (Array.mk t)) (ByteArray.mk (Array.mk t)))) = Bool.false)) && Bool.true)) || ((((!((decide ((!(beqS (ByteArray.mk (Array.mk t)) (ByteArray.mk (Array.mk t)))) = Bool.false)) && Bool.true)) || ((decide ((!(beqS (ByteArray.mk (Array.mk t)) (ByteArray.mk (Array.mk t)))) = Bool.false)) && Bool.true)) && Bool.true) && Bool.true)) && (((!(decide ((!(beqS (ByteArray.mk (Array.mk t)) (ByteArray.mk (Array.mk t)))) = Bool.false))) || ((((!(decide ((!(beqS (ByteArray.mk (Array.mk t)) (ByteArray.mk (Array.mk t)))) = Bool.false))) || (decide ((!(beqS (ByteArray.mk (Array.mk t)) (ByteArray.mk (Array.mk t)))) = Bool.false))) && ((!((decide ((!(beqS (ByteArray.mk (Array.mk t)) (ByteArray.mk (Array.mk t)))) = Bool.false)) && Bool.true)) || ((decide ((!(beqS (ByteArray.mk (Array.mk t)) (ByteArray.mk (Array.mk t)))) = Bool.false)) && Bool.true))) && Bool.true)) && (((!(!(!(beqS (ByteArray.mk (Array.mk t)) (ByteArray.mk (Array.mk t)))))) || (decide ((!(beqS (ByteArray.mk (Array.mk t)) (ByteArray.mk (Array.mk t)))) = Bool.false))) && (((!(decide (((!(beqS (ByteArray.mk (Array.mk t)) (ByteArray.mk (Array.mk t)))) && Bool.true) = Bool.false))) || Bool.true) && (((!(decide (((!(beqS (ByteArray.mk (Array.mk t)) (ByteArray.mk (Array.mk t)))) && Bool.true) = Bool.false))) || (((!(decide (((!(beqS (ByteArray.mk (Array.mk t)) (ByteArray.mk (Array.mk t)))) && Bool.true) = Bool.false))) || (decide (((!(beqS (ByteArray.mk (Array.mk t)) (ByteArray.mk (Array.mk t)))) && Bool.true) = Bool.false))) && Bool.true)) && (((!(decide (((!(beqS (ByteArray.mk (Array.mk t)) (ByteArray.mk (Array.mk t)))) && Bool.true) = Bool.false))) || ((((!(decide (((!(beqS (ByteArray.mk (Array.mk t)) (ByteArray.mk (Array.mk t)))) && Bool.true) = Bool.false))) || (decide (((!(beqS (ByteArray.mk (Array.mk t)) (ByteArray.mk (Array.mk t)))) && Bool.true) = Bool.false))) && Bool.true) && Bool.true)) && (((!(decide (((!(beqS (ByteArray.mk (Array.mk t)) (ByteArray.mk (Array.mk t)))) && Bool.true) = Bool.false))) || ((!(decide (((!(beqS (ByteArray.mk (Array.mk t)) (ByteArray.mk (Array.mk t)))) && Bool.true) = Bool.false))) || (decide (((!(beqS (ByteArray.mk (Array.mk t)) (ByteArray.mk (Array.mk t)))) && Bool.true) = Bool.false)))) && (((!((decide (((!(beqS (ByteArray.mk (Array.mk t)) (ByteArray.mk (Array.mk t)))) && Bool.true) = Bool.false)) && Bool.true)) || Bool.true) && (((!((decide (((!(beqS (ByteArray.mk (Array.mk t)) (ByteArray.mk (Array.mk t)))) && Bool.true) = Bool.false)) && Bool.true)) || (((!((decide (((!(beqS (ByteArray.mk (Array.mk t)) (ByteArray.mk (Array.mk t)))) && Bool.true) = Bool.false)) && Bool.true)) || ((decide (((!(beqS (ByteArray.mk (Array.mk t)) (ByteArray.mk (Array.mk t)))) && Bool.true) = Bool.false)) && Bool.true)) && Bool.true)) && (((!((decide (((!(beqS (ByteArray.mk (Array.mk t)) (ByteArray.mk (Array.mk t)))) && Bool.true) = Bool.false)) && Bool.true)) || ((!((decide (((!(beqS (ByteArray.mk (Array.mk t)) (ByteArray.mk (Array.mk t)))) && Bool.true) = Bool.false)) && Bool.true)) || ((decide (((!(beqS (ByteArray.mk (Array.mk t)) (ByteArray.mk (Array.mk t)))) && Bool.true) = Bool.false)) && Bool.true))) && (((!((decide (((!(beqS (ByteArray.mk (Array.mk t)) (ByteArray.mk (Array.mk t)))) && Bool.true) = Bool.false)) && Bool.true)) || ((((!((decide (((!(beqS (ByteArray.mk (Array.mk t)) (ByteArray.mk (Array.mk t)))) && Bool.true) = Bool.false)) && Bool.true)) || ((decide (((!(beqS (ByteArray.mk (Array.mk t)) (ByteArray.mk (Array.mk t)))) && Bool.true) = Bool.false)) && Bool.true)) && Bool.true) && Bool.true)) && (((!(decide (((!(beqS (ByteArray.mk (Array.mk t)) (ByteArray.mk (Array.mk t)))) && Bool.true) = Bool.false))) || ((((!(decide (((!(beqS (ByteArray.mk (Array.mk t)) (ByteArray.mk (Array.mk t)))) && Bool.true) = Bool.false))) || (decide (((!(beqS (ByteArray.mk (Array.mk t)) (ByteArray.mk (Array.mk t)))) && Bool.true) = Bool.false))) && ((!((decide (((!(beqS (ByteArray.mk (Array.mk t)) (ByteArray.mk (Array.mk t)))) && Bool.true) = Bool.false)) && Bool.true)) || ((decide (((!(beqS (ByteArray.mk (Array.mk t)) (ByteArray.mk (Array.mk t)))) && Bool.true) = Bool.false)) && Bool.true))) && Bool.true)) && (((!(!((!(beqS (ByteArray.mk (Array.mk t)) (ByteArray.mk (Array.mk t)))) && Bool.true))) || (decide (((!(beqS (ByteArray.mk (Array.mk t)) (ByteArray.mk (Array.mk t)))) && Bool.true) = Bool.false))) && (bif (((!(beqS (ByteArray.mk (Array.mk t)) (ByteArray.mk (Array.mk t)))) && Bool.true) && Bool.true) then (kr (HR.ret (HV.tup [(HV.v (Value.int IntKind.i64 0)), (HV.v (Value.bool Bool.false))])) []) else (kr (HR.ret (HV.tup [(HV.v (Value.int IntKind.i64 0)), (HV.v (Value.bool Bool.true))])) []))))))))))))))))))))))) := by kernel_rfl
theorem p64l (l : List J) (k : KX) : evs G16 3 [pc 64 [0], pc 64 [1, 0], pc 64 [1, 1, 0], pc 64 [1, 1, 1, 0], pc 64 [1, 1, 1, 1, 0], pc 64 [1, 1, 1, 1, 1, 0], pc 64 [1, 1, 1, 1, 1, 1, 0]] ⟨argT 0 [jk 4 [] l []] ⟨128, .nil⟩, []⟩ (fun x st => k x (st.keep [1, 6, 7])) = (k HX.normal ⟨slots 128 [(1, (HV.ptr 0 0)), (6, (HV.v (Value.int IntKind.i64 1))), (7, (HV.v (Value.bool Bool.true)))], [(Ob.box 43 (HV.d Cd.json (J.mk 4 Bool.false (Dec.mk Bool.false (ByteArray.mk (Array.mk [])) 0) (ByteArray.mk (Array.mk [])) l []))), (Ob.box 43 (HV.st [(HV.v (Value.int IntKind.i64 4)), (HV.v (Value.bool Bool.false)), (HV.d Cd.dec (Dec.mk Bool.false (ByteArray.mk (Array.mk [])) 0)), (HV.v (Value.string (ByteArray.mk (Array.mk [])))), (HV.v (Value.slice Option.none 0 0)), (HV.v (Value.slice Option.none 0 0))])), (Ob.box 43 (HV.st [(HV.v (Value.int IntKind.i64 4)), (HV.v (Value.bool Bool.false)), (HV.st [(HV.v (Value.bool Bool.false)), (HV.v (Value.string (ByteArray.mk (Array.mk [])))), (HV.v (Value.int IntKind.i64 0))]), (HV.v (Value.string (ByteArray.mk (Array.mk [])))), (HV.v (Value.slice Option.none 0 0)), (HV.v (Value.slice Option.none 0 0))]))]⟩) := by kernel_rfl
theorem p64o (l : List J) (ns : List ByteArray) (k : KX) : evs G16 3 [pc 64 [0], pc 64 [1, 0], pc 64 [1, 1, 0], pc 64 [1, 1, 1, 0], pc 64 [1, 1, 1, 1, 0], pc 64 [1, 1, 1, 1, 1, 0], pc 64 [1, 1, 1, 1, 1, 1, 0]] ⟨argT 0 [jk 5 [] l ns] ⟨128, .nil⟩, []⟩ (fun x st => k x (st.keep [1, 6, 7])) = (((!(decide ((decide ((((List.length ns) : Nat) : Int) = (((List.length l) : Nat) : Int))) = Bool.true))) || Bool.true) && (((!(decide ((decide ((((List.length ns) : Nat) : Int) = (((List.length l) : Nat) : Int))) = Bool.true))) || (((!(decide ((decide ((((List.length ns) : Nat) : Int) = (((List.length l) : Nat) : Int))) = Bool.true))) || (decide ((decide ((((List.length ns) : Nat) : Int) = (((List.length l) : Nat) : Int))) = Bool.true))) && Bool.true)) && (((!(decide ((decide ((((List.length ns) : Nat) : Int) = (((List.length l) : Nat) : Int))) = Bool.true))) || ((((!(decide ((decide ((((List.length ns) : Nat) : Int) = (((List.length l) : Nat) : Int))) = Bool.true))) || (decide ((decide ((((List.length ns) : Nat) : Int) = (((List.length l) : Nat) : Int))) = Bool.true))) && Bool.true) && (((decide ((List.length ns) ≤ 100000000)) && (distB ns)) && (asciiAll ns)))) && ((((!(decide ((((List.length ns) : Nat) : Int) = (((List.length l) : Nat) : Int)))) || (decide ((decide ((((List.length ns) : Nat) : Int) = (((List.length l) : Nat) : Int))) = Bool.true))) && Bool.true) && (k HX.normal ⟨slots 128 [(1, (HV.ptr 0 0)), (6, (HV.v (Value.int IntKind.i64 1))), (7, (HV.v (Value.bool ((decide ((((List.length ns) : Nat) : Int) = (((List.length l) : Nat) : Int))) && Bool.true))))], [(Ob.box 43 (HV.d Cd.json (J.mk 5 Bool.false (Dec.mk Bool.false (ByteArray.mk (Array.mk [])) 0) (ByteArray.mk (Array.mk [])) l ns))), (Ob.box 43 (HV.st [(HV.v (Value.int IntKind.i64 5)), (HV.v (Value.bool Bool.false)), (HV.d Cd.dec (Dec.mk Bool.false (ByteArray.mk (Array.mk [])) 0)), (HV.v (Value.string (ByteArray.mk (Array.mk [])))), (HV.v (Value.slice Option.none 0 0)), (HV.v (Value.slice Option.none 0 0))])), (Ob.box 43 (HV.st [(HV.v (Value.int IntKind.i64 5)), (HV.v (Value.bool Bool.false)), (HV.st [(HV.v (Value.bool Bool.false)), (HV.v (Value.string (ByteArray.mk (Array.mk [])))), (HV.v (Value.int IntKind.i64 0))]), (HV.v (Value.string (ByteArray.mk (Array.mk [])))), (HV.v (Value.slice Option.none 0 0)), (HV.v (Value.slice Option.none 0 0))]))]⟩))))) := by kernel_rfl
theorem q64 (c : Int) (t : List UInt8) (l : List J) (ns : List ByteArray) (o1 o2 : Ob) (h : Bool) (d : Int) (k : KX) : evd G16 1 (pc 64 [1, 1, 1, 1, 1, 1, 1, 0, 0]) ⟨slots 128 [(1, .ptr 0 0), (6, .v (.int .i64 d)), (7, .v (.bool h))], [.box 43 (jk c t l ns), o1, o2]⟩ (fun x st => k x (st.keep [6, 7, 106, 107, 108])) = (k HX.normal ⟨slots 128 [(6, (HV.v (Value.int IntKind.i64 d))), (7, (HV.v (Value.bool h))), (106, (HV.d (Cd.list Cd.json) l)), (107, (HV.v (Value.int IntKind.i64 (((List.length l) : Nat) : Int)))), (108, (HV.v (Value.int IntKind.i64 0)))], [(Ob.box 43 (HV.d Cd.json (J.mk c Bool.false (Dec.mk Bool.false (ByteArray.mk (Array.mk [])) 0) (ByteArray.mk (Array.mk t)) l ns))), o1, o2]⟩) := by kernel_rfl
def st64 (l : List J) (d : Int) (i : Nat) : St := ⟨slots 128 [(6, .v (.int .i64 d)), (7, .v (.bool true)), (106, .d (.list .json) l), (107, .v (.int .i64 (l.length : Int))), (108, .v (.int .i64 (i : Int)))], []⟩
theorem b64 (n : Nat) (l : List J) (d : Int) (i : Nat) (k : KX) : evd (G17 n) 1 (pc 64 [1, 1, 1, 1, 1, 1, 1, 0, 1, 0, 0]) (st64 l d i) (fun x st => k x (st.keep [6, 7, 106, 107, 108])) = (bif (ltI ((i : Nat) : Int) (((List.length l) : Nat) : Int)) then ((decide (((i : Nat) : Int) < (((List.length l) : Nat) : Int))) && ((tidy n (List.getD l (Int.toNat ((i : Nat) : Int)) (J.mk 0 Bool.false (Dec.mk Bool.false (ByteArray.mk (Array.mk [])) 0) (ByteArray.mk (Array.mk [])) [] []))) && (k HX.normal ⟨slots 128 [(6, (HV.v (Value.int IntKind.i64 (if ((fwrap IntKind.i64 ((deepJ n (List.getD l (Int.toNat ((i : Nat) : Int)) (J.mk 0 Bool.false (Dec.mk Bool.false (ByteArray.mk (Array.mk [])) 0) (ByteArray.mk (Array.mk [])) [] []))) + 1)) > d) then (fwrap IntKind.i64 ((deepJ n (List.getD l (Int.toNat ((i : Nat) : Int)) (J.mk 0 Bool.false (Dec.mk Bool.false (ByteArray.mk (Array.mk [])) 0) (ByteArray.mk (Array.mk [])) [] []))) + 1)) else d)))), (7, (HV.v (Value.bool Bool.true))), (106, (HV.d (Cd.list Cd.json) l)), (107, (HV.v (Value.int IntKind.i64 (((List.length l) : Nat) : Int)))), (108, (HV.v (Value.int IntKind.i64 (fwrap IntKind.i64 (((i : Nat) : Int) + 1)))))], [(Ob.box 43 (HV.d Cd.json (List.getD l (Int.toNat ((i : Nat) : Int)) (J.mk 0 Bool.false (Dec.mk Bool.false (ByteArray.mk (Array.mk [])) 0) (ByteArray.mk (Array.mk [])) [] []))))]⟩))) else (k (HX.exit 8) ⟨slots 128 [(6, (HV.v (Value.int IntKind.i64 d))), (7, (HV.v (Value.bool Bool.true))), (106, (HV.d (Cd.list Cd.json) l)), (107, (HV.v (Value.int IntKind.i64 (((List.length l) : Nat) : Int)))), (108, (HV.v (Value.int IntKind.i64 ((i : Nat) : Int))))], []⟩)) := by kernel_rfl
theorem r64 (l : List J) (d : Int) (i : Nat) (k : KX) : evd G16 1 (pc 64 [1, 1, 1, 1, 1, 1, 1, 1]) (st64 l d i) (fun x st => k x (st.keep [2, 3])) = (k HX.ret ⟨slots 128 [(2, (HV.v (Value.int IntKind.i64 d))), (3, (HV.v (Value.bool Bool.true)))], []⟩) := by kernel_rfl
theorem o64 (d : Int) (b : Bool) (kr : KR) : finK Tryz.prog Tryz.f64 [] kr ⟨slots 128 [(2, .v (.int .i64 d)), (3, .v (.bool b))], []⟩ = (kr (HR.ret (HV.tup [(HV.v (Value.int IntKind.i64 d)), (HV.v (Value.bool b))])) []) := by kernel_rfl
theorem code64 : Tryz.f64.body = some (seqs [pc 64 [0], pc 64 [1, 0], pc 64 [1, 1, 0], pc 64 [1, 1, 1, 0], pc 64 [1, 1, 1, 1, 0], pc 64 [1, 1, 1, 1, 1, 0], pc 64 [1, 1, 1, 1, 1, 1, 0]] (.seq (.seq (pc 64 [1, 1, 1, 1, 1, 1, 1, 0, 0]) (.block 8 (.loop (pc 64 [1, 1, 1, 1, 1, 1, 1, 0, 1, 0, 0])))) (pc 64 [1, 1, 1, 1, 1, 1, 1, 1]))) := by kernel_rfl

theorem gamOK16 {w0 : World} (h0 : H4 w0) : GamOK Tryz.prog w0 G16 := by
  refine addP_ok (gamOK15 h0) ⟨_, Tryz.func104, rfl⟩ ?_
  intro args r h h1
  unfold unlikeP at h
  split at h
  · cases h
    simp only [Bool.and_eq_true, decide_eq_true_eq] at h1
    exact pureAns lasts4 (do104 h1.1.1 h1.1.2 h1.2) rfl rfl h0
  · cases h

theorem deepJ_le : ∀ (n : Nat) (j : J), 0 ≤ deepJ n j ∧ deepJ n j ≤ n
  | 0, _ => by simp [deepJ]
  | n + 1, .mk k b d t l ns => by
    simp only [deepJ]
    split
    · have key : ∀ (l : List J) (x : Int), 0 ≤ x → x ≤ n + 1 → 0 ≤ l.foldl (fun d x => maxI d (deepJ n x + 1)) x ∧ l.foldl (fun d x => maxI d (deepJ n x + 1)) x ≤ n + 1 := by
        intro l
        induction l with
        | nil => intro x h1 h2; exact ⟨h1, h2⟩
        | cons y l ih =>
          intro x h1 h2
          have := deepJ_le n y
          simp only [List.foldl_cons]
          refine ih _ ?_ ?_ <;> unfold maxI <;> split <;> omega
      have := key l 1 (by omega) (by omega)
      push_cast
      exact this
    · omega

theorem vw64 (l : List J) (d : Int) (i : Nat) (o : Ob) : vw [] 0 ⟨slots 128 [(6, .v (.int .i64 d)), (7, .v (.bool true)), (106, .d (.list .json) l), (107, .v (.int .i64 (l.length : Int))), (108, .v (.int .i64 (i : Int)))], [o]⟩ = st64 l d i := by kernel_rfl
theorem vw64b (l : List J) (d : Int) (o1 o2 o3 : Ob) : vw [] 0 ⟨slots 128 [(6, .v (.int .i64 d)), (7, .v (.bool true)), (106, .d (.list .json) l), (107, .v (.int .i64 (l.length : Int))), (108, .v (.int .i64 0))], [o1, o2, o3]⟩ = st64 l d 0 := by kernel_rfl

theorem gamOK17 {w0 : World} (h0 : H4 w0) {n : Nat} (h : ∀ j, tidy n j = true → PureDo Tryz.prog H4 64 [.d .json j] (.tup [.v (.int .i64 (deepJ n j)), .v (.bool true)])) : GamOK Tryz.prog w0 (G17 n) := by
  refine addP_ok (gamOK16 h0) ⟨_, Tryz.func64, rfl⟩ ?_
  intro args r hr h1
  unfold mayP at hr
  split at hr
  · cases hr
    exact pureAns lasts4 (h _ h1) rfl rfl h0
  · cases hr

/-- The loop over what is in a value. -/
theorem loop64 {w0 : World} (h0 : H4 w0) {n : Nat} (hn : n ≤ 1000) (ih : ∀ j, tidy n j = true → PureDo Tryz.prog H4 64 [.d .json j] (.tup [.v (.int .i64 (deepJ n j)), .v (.bool true)])) {l : List J} (hl : l.all (tidy n) = true) (hll : l.length ≤ 100000000) {kr : KR} (c : Int) (t : List UInt8) (ns : List ByteArray) (o1 o2 : Ob)
    (hk : kr (.ret (.tup [.v (.int .i64 (l.foldl (fun d x => maxI d (deepJ n x + 1)) 1)), .v (.bool true)])) [] = true) :
    WpA Tryz.prog w0 [] (.seq (.seq (pc 64 [1, 1, 1, 1, 1, 1, 1, 0, 0]) (.block 8 (.loop (pc 64 [1, 1, 1, 1, 1, 1, 1, 0, 1, 0, 0])))) (pc 64 [1, 1, 1, 1, 1, 1, 1, 1])) ⟨slots 128 [(1, .ptr 0 0), (6, .v (.int .i64 1)), (7, .v (.bool true))], [.box 43 (jk c t l ns), o1, o2]⟩ (fun x st => match x with
      | .normal => finK Tryz.prog Tryz.f64 [] kr st = true
      | .ret => finK Tryz.prog Tryz.f64 [] kr st = true
      | .panic h => kr (.panic h) (trunc ([] : List Ob).length h st.L) = true
      | _ => False) := by
  have hG := gamOK16 h0
  have hG2 := gamOK17 h0 ih
  refine wpA_seq (wpA_seq ((evd_ok hG [6, 7, 106, 107, 108] (q64 c t l ns o1 o2 true 1) (yes_mk ?_)).wpA))
  refine wpA_view [] 0 rfl ?_
  rw [vw64b]
  refine wpA_block (wpA_loop (α := { p : Nat × Int // p.1 ≤ l.length ∧ 0 ≤ p.2 ∧ p.2 ≤ 2000 ∧ (l.drop p.1).foldl (fun d x => maxI d (deepJ n x + 1)) p.2 = l.foldl (fun d x => maxI d (deepJ n x + 1)) 1 }) (fun p => st64 l p.1.2 p.1.1) (fun p => l.length - p.1.1) (fun p => ?_) ⟨(0, 1), Nat.zero_le _, by decide, by decide, rfl⟩)
  obtain ⟨⟨i, d⟩, hi, hd1, hd2, hf⟩ := p
  dsimp only at hi hd1 hd2 hf ⊢
  refine (evd_ok hG2 [6, 7, 106, 107, 108] (b64 n l d i) ?_).wpA
  rcases Nat.lt_or_ge i l.length with hlt | hge
  · have e1 : ltI (i : Int) (l.length : Int) = true := by rw [ltI_iff]; omega
    have hgd : l.getD (Int.toNat ((i : Nat) : Int)) (J.mk 0 false (Dec.mk false (ByteArray.mk (Array.mk [])) 0) (ByteArray.mk (Array.mk [])) [] []) = l[i] := by rw [Int.toNat_natCast, List.getD_eq_getElem?_getD, List.getElem?_eq_getElem hlt]; rfl
    have ht : tidy n l[i] = true := by rw [List.all_eq_true] at hl; exact hl _ (List.getElem_mem hlt)
    have hdj := deepJ_le n l[i]
    have f1 : fwrap .i64 (deepJ n l[i] + 1) = deepJ n l[i] + 1 := fwrap_i64 (by omega) (by omega)
    have f3 : fwrap .i64 ((i : Int) + 1) = ((i + 1 : Nat) : Int) := fwrap_i64 (by omega) (by omega)
    rw [e1, cond_true, hgd, ht, f1, f3, decide_eq_true (show (i : Int) < (l.length : Int) by omega)]
    have hm : (if deepJ n l[i] + 1 > d then deepJ n l[i] + 1 else d) = maxI d (deepJ n l[i] + 1) := rfl
    rw [hm]
    have hmb : 0 ≤ maxI d (deepJ n l[i] + 1) ∧ maxI d (deepJ n l[i] + 1) ≤ 2000 := by unfold maxI; split <;> omega
    have hdr : l.drop i = l[i] :: l.drop (i + 1) := List.drop_eq_getElem_cons hlt
    rw [hdr, List.foldl_cons] at hf
    exact yes_mk ⟨⟨(i + 1, maxI d (deepJ n l[i] + 1)), hlt, hmb.1, hmb.2, hf⟩, [], 0, by dsimp only; omega, rfl, vw64 l _ (i + 1) _⟩
  · have e1 : ltI (i : Int) (l.length : Int) = false := by
      cases h : ltI (i : Int) (l.length : Int) with
      | false => rfl
      | true => rw [ltI_iff] at h; omega
    rw [e1]
    have hil : i = l.length := by omega
    rw [hil, List.drop_length, List.foldl_nil] at hf
    refine yes_mk ?_
    refine (evd_ok hG [2, 3] (r64 l d i) (yes_mk ?_)).wpA
    show finK Tryz.prog Tryz.f64 [] kr ⟨slots 128 [(2, .v (.int .i64 d)), (3, .v (.bool true))], []⟩ = true
    rw [o64, hf]
    exact hk

theorem do64 : ∀ n, n ≤ 1000 → ∀ j, tidy n j = true → PureDo Tryz.prog H4 64 [.d .json j] (.tup [.v (.int .i64 (deepJ n j)), .v (.bool true)])
  | 0, _, _, h => by cases h
  | n + 1, hn, .mk k b d t l ns, h => by
    intro w0 kr h0 hkr
    have hG := gamOK16 h0
    simp only [tidy, Bool.and_eq_true, Bool.not_eq_true', Bool.or_eq_true, decide_eq_true_eq, decide_eq_false_iff_not] at h
    obtain ⟨⟨⟨⟨⟨⟨⟨⟨⟨⟨⟨h1, h2⟩, h3⟩, h4⟩, h5⟩, h6⟩, h7⟩, h8⟩, h9⟩, h10⟩, h11⟩, h12⟩ := h
    obtain ⟨neg, dg, ex⟩ := d
    dsimp only at h2 h3 h4
    subst h1; subst h2; subst h4
    obtain rfl := empty_is h3
    obtain ⟨⟨t⟩⟩ := t
    rcases h9 with ((rfl | rfl) | rfl) | rfl
    · have ht : t = [] := by simpa using h6
      have hl : l = [] := by simpa using h7
      have hns : ns = [] := by simpa using h8
      subst ht; subst hl; subst hns
      refine evG_sound progOK catches hG 9 3 64 _ [] kr ?_
      refine (k64n kr).trans ?_
      exact hkr
    · have hl : l = [] := by simpa using h7
      have hns : ns = [] := by simpa using h8
      subst hl; subst hns
      refine evG_sound progOK catches hG 9 3 64 _ [] kr ?_
      refine (k64t t kr).trans ?_
      have hb : beqS ⟨⟨t⟩⟩ ⟨⟨t⟩⟩ = true := beqS_iff.2 rfl
      have h5' : asciiSB t = true := h5
      simp only [hb, h5', Bool.not_true, decide_true, decide_false, Bool.true_and, Bool.not_false, Bool.or_true, Bool.true_or, Bool.false_or, Bool.and_true, cond_true, cond_false, Bool.and_self, reduceCtorEq, Bool.or_false, Bool.false_and, Bool.and_false]
      exact hkr
    · have ht : t = [] := by simpa using h6
      have hns : ns = [] := by simpa using h8
      subst ht; subst hns
      refine does_wpA Tryz.func64 code64 (n := 128) (by kernel_rfl) ?_
      refine evs_ok hG [1, 6, 7] (p64l l) (yes_mk ?_)
      exact loop64 h0 (by omega) (do64 n (by omega)) h11 h12 4 [] [] _ _ (by simpa [deepJ] using hkr)
    · have ht : t = [] := by simpa using h6
      subst ht
      have h10 : (ns.length = l.length ∧ distB ns = true) ∧ asciiAll ns = true := by simpa using h10
      refine does_wpA Tryz.func64 code64 (n := 128) (by kernel_rfl) ?_
      refine evs_ok hG [1, 6, 7] (p64o l ns) ?_
      have e1 : decide (((ns.length : Nat) : Int) = ((l.length : Nat) : Int)) = true := decide_eq_true (by omega)
      simp only [e1, h10.1.2, h10.2, decide_eq_true (show ns.length ≤ 100000000 by omega), Bool.not_true, decide_true, decide_false, Bool.true_and, Bool.not_false, Bool.or_true, Bool.true_or, Bool.false_or, Bool.and_true, cond_true, cond_false, Bool.and_self, reduceCtorEq, Bool.or_false, Bool.false_and, Bool.and_false]
      refine yes_mk ?_
      exact loop64 h0 (by omega) (do64 n (by omega)) h11 h12 5 [] ns _ _ (by simpa [deepJ] using hkr)
end Go.Proofs.YtiaeljbnhdhfcaaGreatDoor

namespace Go.Mo
open Go Go.Lx
def plainSB (l : List UInt8) : Bool := l.all fun x => decide (32 ≤ (x.toNat : Int)) && decide ((x.toNat : Int) < 128) && !decide (x = 34) && !decide (x = 92)
def plainAll (l : List ByteArray) : Bool := l.all fun a => plainSB a.data.toList
def plainJ : Nat → J → Bool
  | 0, _ => false
  | n + 1, .mk _ _ _ t l ns => plainSB t.data.toList && plainAll ns && l.all (plainJ n)
/-- A text's bytes, as numbers. -/
def nums (l : List UInt8) : List Int := l.map fun c => ((c.toNat : Nat) : Int)
end Go.Mo
namespace Go.Proofs.YtiaeljbnhdhfcaaGreatDoor
open Go Go.RowKit Go.Lx Go.Mo

noncomputable def G18 : Gam := cutG G8 [188]

def rowB (xs : List Int) : Ob := .row (.int .u8) 0 0 xs
def row1 (xs : List Int) : Ob := .row (.int .u8) 1 0 xs
def st107 (s : ByteArray) (p : Nat) (xs : List Int) : St := ⟨slots 44 [(0, .own (.int .u8) 0 1 xs.length), (12, .it 1)], [row1 xs, .iter s p]⟩
theorem a107 (s : ByteArray) (xs : List Int) (k : KX) : evs G8 1 [(pc 107 [0]), (pc 107 [1, 0])] ⟨argT 0 [.own (.int .u8) 0 0 xs.length, .v (.string s)] ⟨44, .nil⟩, [rowB xs]⟩ (fun x st => k x (st.keep [0, 1])) = ((((decide ((List.length xs) ≤ (List.length xs))) && Bool.true) && (decide ((((List.length xs) + 1) * 1) ≤ 140737488355328))) && (k HX.normal ⟨slots 44 [(0, (HV.own (Cd.int IntKind.u8) 0 1 ((List.length xs) + 1))), (1, (HV.v (Value.string s)))], [(Ob.row (Cd.int IntKind.u8) 1 0 ((List.take (List.length xs) xs) ++ [34]))]⟩)) := by kernel_rfl
theorem b107 (s : ByteArray) (n : Nat) (xs : List Int) (k : KX) : evs G8 1 [(pc 107 [1, 1, 0, 0])] ⟨slots 44 [(0, .own (.int .u8) 0 1 n), (1, .v (.string s))], [row1 xs]⟩ (fun x st => k x (st.keep [0, 12])) = (k HX.normal ⟨slots 44 [(0, (HV.own (Cd.int IntKind.u8) 0 1 n)), (12, (HV.it 1))], [(Ob.row (Cd.int IntKind.u8) 1 0 xs), (Ob.iter s 0)]⟩) := by kernel_rfl
theorem c107 (s : ByteArray) (p : Nat) (xs : List Int) (k : KX) : evs G8 1 [(pc 107 [1, 1, 0, 1, 0, 0, 0])] (st107 s p xs) (fun x st => k x (st.keep [0, 12, 13, 14])) = (bif (decide (p < (ByteArray.size s))) then (k HX.normal ⟨slots 44 [(0, (HV.own (Cd.int IntKind.u8) 0 1 (List.length xs))), (12, (HV.it 1)), (13, (HV.tup [(HV.v (Value.bool Bool.true)), (HV.v (Value.int IntKind.i64 ((p : Nat) : Int))), (HV.v (Value.int IntKind.i32 (((Prod.fst (Utf8.decode s p)) : Nat) : Int)))])), (14, (HV.v (Value.bool Bool.true)))], [(Ob.row (Cd.int IntKind.u8) 1 0 xs), (Ob.iter s (p + (Prod.snd (Utf8.decode s p))))]⟩) else (k HX.normal ⟨slots 44 [(0, (HV.own (Cd.int IntKind.u8) 0 1 (List.length xs))), (12, (HV.it 1)), (13, (HV.tup [(HV.v (Value.bool Bool.false))])), (14, (HV.v (Value.bool Bool.false)))], [(Ob.row (Cd.int IntKind.u8) 1 0 xs), (Ob.iter s p)]⟩)) := by kernel_rfl
def st107b (s : ByteArray) (p : Nat) (q c : Int) (xs : List Int) : St := ⟨slots 44 [(0, .own (.int .u8) 0 1 xs.length), (12, .it 1), (13, .tup [.v (.bool true), .v (.int .i64 q), .v (.int .i32 c)]), (14, .v (.bool true))], [row1 xs, .iter s p]⟩
theorem d107a (s : ByteArray) (p : Nat) (q c : Int) (xs : List Int) (k : KX) : evs G8 1 [(pc 107 [1, 1, 0, 1, 0, 0, 1, 1, 0, 0]), (pc 107 [1, 1, 0, 1, 0, 0, 1, 1, 0, 1, 0])] (st107b s p q c xs) (fun x st => k x (st.keep [0, 6, 7, 12])) = (((decide (0 ≤ c)) && (decide (c < 128))) && (k HX.normal ⟨slots 44 [(0, (HV.own (Cd.int IntKind.u8) 0 1 (List.length xs))), (6, (HV.v (Value.int IntKind.i32 c))), (7, (HV.v (Value.int IntKind.i64 (idxGo (UInt8.ofNat (Int.toNat c)) [34, 92, 8, 12, 10, 13, 9] 0)))), (12, (HV.it 1))], [(Ob.row (Cd.int IntKind.u8) 1 0 xs), (Ob.iter s p)]⟩)) := by kernel_rfl
theorem d107b (s : ByteArray) (p m : Nat) (xs : List Int) (k : KX) : evd G18 2 (pc 107 [1, 1, 0, 1, 0, 0, 1, 1, 0, 1, 1]) ⟨slots 44 [(0, .own (.int .u8) 0 1 xs.length), (6, .v (.int .i32 ((m + 32 : Nat) : Int))), (7, .v (.int .i64 (-1))), (12, .it 1)], [row1 xs, .iter s p]⟩ (fun x st => k x (st.keep [0, 12])) = ((!(ltI 127 (IntKind.wrap IntKind.u32 (((m + 32) : Nat) : Int)))) && ((((decide (1 = 1)) && Bool.true) && Bool.true) && ((((decide ((List.length xs) ≤ (List.length xs))) && Bool.true) && (decide ((((List.length xs) + 1) * 1) ≤ 140737488355328))) && (k HX.normal ⟨slots 44 [(0, (HV.own (Cd.int IntKind.u8) 0 2 ((List.length xs) + 1))), (12, (HV.it 1))], [(Ob.row (Cd.int IntKind.u8) 2 0 ((List.take (List.length xs) xs) ++ [(IntKind.wrap IntKind.u8 (((m + 32) : Nat) : Int))])), (Ob.iter s p)]⟩)))) := by kernel_rfl
theorem e107 (s : ByteArray) (p : Nat) (xs : List Int) (k : KX) : evd G8 1 (pc 107 [1, 1, 1]) (st107 s p xs) (fun x st => k x (st.keep [4])) = ((((decide ((List.length xs) ≤ (List.length xs))) && Bool.true) && (decide ((((List.length xs) + 1) * 1) ≤ 140737488355328))) && (k HX.ret ⟨slots 44 [(4, (HV.own (Cd.int IntKind.u8) 0 2 ((List.length xs) + 1)))], [(Ob.row (Cd.int IntKind.u8) 2 0 ((List.take (List.length xs) xs) ++ [34])), (Ob.iter s p)]⟩)) := by kernel_rfl
theorem f107 (s : ByteArray) (p n : Nat) (xs : List Int) (o : Ob) (kr : KR) : finK Tryz.prog Tryz.f107 [o] kr ⟨slots 44 [(4, .own (.int .u8) 0 1 n)], [row1 xs, .iter s p]⟩ = (kr (HR.ret (HV.own (Cd.int IntKind.u8) 0 1 n)) [(Ob.row (Cd.int IntKind.u8) 1 0 xs)]) := by kernel_rfl
theorem code107 : Tryz.f107.body = some (seqs [(pc 107 [0]), (pc 107 [1, 0])] (.seq (seqs [(pc 107 [1, 1, 0, 0])] (.block 0 (.loop (pc 107 [1, 1, 0, 1, 0, 0])))) (pc 107 [1, 1, 1]))) := by kernel_rfl
theorem code107b : (pc 107 [1, 1, 0, 1, 0, 0]) = seqs [(pc 107 [1, 1, 0, 1, 0, 0, 0])] (.seq (.cond (.tmp 14) .skip (.exit 0)) (.block 1 (seqs [(pc 107 [1, 1, 0, 1, 0, 0, 1, 1, 0, 0]), (pc 107 [1, 1, 0, 1, 0, 0, 1, 1, 0, 1, 0])] (pc 107 [1, 1, 0, 1, 0, 0, 1, 1, 0, 1, 1])))) := by kernel_rfl

theorem vw107 (s : ByteArray) (p n : Nat) (xs : List Int) : vw [(0, 2, 1)] 2 ⟨slots 44 [(0, .own (.int .u8) 0 2 n), (12, .it 1)], [.row (.int .u8) 2 0 xs, .iter s p]⟩ = ⟨slots 44 [(0, .own (.int .u8) 0 1 n), (12, .it 1)], [row1 xs, .iter s p]⟩ := by kernel_rfl
theorem vw107b (s : ByteArray) (p n : Nat) (xs : List Int) : vw [(0, 2, 1)] 2 ⟨slots 44 [(4, .own (.int .u8) 0 2 n)], [.row (.int .u8) 2 0 xs, .iter s p]⟩ = ⟨slots 44 [(4, .own (.int .u8) 0 1 n)], [row1 xs, .iter s p]⟩ := by kernel_rfl
theorem bool107 (s : ByteArray) (p : Nat) (q c : Int) (xs : List Int) : fe true (opnd (st107b s p q c xs).tmps (.tmp 14)) = (true, .v (.bool true)) := by kernel_rfl
def st107n (s : ByteArray) (p : Nat) (xs : List Int) : St := ⟨slots 44 [(0, .own (.int .u8) 0 1 xs.length), (12, .it 1), (13, .tup [.v (.bool false)]), (14, .v (.bool false))], [row1 xs, .iter s p]⟩
theorem bool107n (s : ByteArray) (p : Nat) (xs : List Int) : fe true (opnd (st107n s p xs).tmps (.tmp 14)) = (true, .v (.bool false)) := by kernel_rfl
theorem keep107n (s : ByteArray) (p : Nat) (xs : List Int) : (st107n s p xs).keep [0, 12] = st107 s p xs := by kernel_rfl

theorem decode_plain {l : List UInt8} {p : Nat} {c : UInt8} {r : List UInt8} (h : l.drop p = c :: r) (hc : c.toNat < 128) : Utf8.decode ⟨⟨l⟩⟩ p = (c.toNat, 1) := by
  obtain ⟨hp, -, hg⟩ := drop_cons h
  have e : (ByteArray.get! ⟨⟨l⟩⟩ (p + 0)) = c := by
    have h2 := hg 0
    rw [List.getD_eq_getElem?_getD, List.getElem?_eq_getElem hp] at h2
    simp [ByteArray.get!, getElem!_pos, hp]
    simpa using h2
  unfold Utf8.decode
  simp only [e]
  rw [if_pos hc]

theorem idx7 {c : UInt8} (h1 : 32 ≤ (c.toNat : Int)) (h2 : c ≠ 34) (h3 : c ≠ 92) : idxGo (UInt8.ofNat (Int.toNat ((c.toNat : Nat) : Int))) [34, 92, 8, 12, 10, 13, 9] 0 = -1 := by
  rw [Int.toNat_natCast, UInt8.ofNat_toNat]
  have n : ∀ b : UInt8, (b.toNat : Int) < 32 → (b == c) = false := fun b hb => by
    simp only [beq_eq_false_iff_ne]; intro e; subst e; omega
  have e1 : ((34 : UInt8) == c) = false := by simpa using fun e => h2 e.symm
  have e2 : ((92 : UInt8) == c) = false := by simpa using fun e => h3 e.symm
  simp only [idxGo, e1, e2, n 8 (by decide), n 12 (by decide), n 10 (by decide), n 13 (by decide), n 9 (by decide), cond_false]

theorem wrap_u8 {m : Nat} (h : m < 256) : IntKind.wrap .u8 (m : Int) = m := by
  unfold IntKind.wrap; simp [IntKind.bits, IntKind.signed]; omega
theorem wrap_u32 {m : Nat} (h : m < 256) : IntKind.wrap .u32 (m : Int) = m := by
  unfold IntKind.wrap; simp [IntKind.bits, IntKind.signed]; omega

def BB : Nat := 100000000000000

theorem do107 {w0 : World} (h0 : H4 w0) {s : List UInt8} {xs : List Int} {kr : KR} (hp : plainSB s = true) (hx : xs.length + s.length + 2 ≤ BB)
    (hk : kr (.ret (.own (.int .u8) 0 1 (xs ++ 34 :: (nums s ++ [34])).length)) [row1 (xs ++ 34 :: (nums s ++ [34]))] = true) : Does Tryz.prog w0 107 [.own (.int .u8) 0 0 xs.length, tx s] [rowB xs] kr := by
  have hG := gamOK8 h0
  have hG2 : GamOK Tryz.prog w0 G18 := cutG_ok hG [188]
  unfold BB at hx
  refine does_wpA Tryz.func107 code107 (n := 44) (by kernel_rfl) ?_
  refine evs_ok hG [0, 1] (a107 ⟨⟨s⟩⟩ xs) ?_
  rw [decide_eq_true (show xs.length ≤ xs.length from Nat.le_refl _), decide_eq_true (show (xs.length + 1) * 1 ≤ 140737488355328 by omega), List.take_length]
  refine yes_mk ?_
  have hl1 : (xs ++ [34]).length = xs.length + 1 := by simp
  rw [← hl1]
  refine wpA_seq (evs_ok hG [0, 12] (b107 ⟨⟨s⟩⟩ _ (xs ++ [34])) (yes_mk ?_))
  have hst : ∀ p, p ≤ s.length → (xs ++ 34 :: nums (s.take p)).length = xs.length + 1 + p := by intro p hp; simp [nums]; omega
  refine wpA_block (wpA_loop (α := { p : Nat // p ≤ s.length }) (fun p => st107 ⟨⟨s⟩⟩ p.1 (xs ++ 34 :: nums (s.take p.1))) (fun p => s.length - p.1) (fun p => ?_) ⟨0, Nat.zero_le _⟩)
  obtain ⟨p, hps⟩ := p
  dsimp only
  have hlp := hst p hps
  rw [code107b]
  refine evs_ok hG [0, 12, 13, 14] (c107 ⟨⟨s⟩⟩ p (xs ++ 34 :: nums (s.take p))) ?_
  rcases nil_or_cons (s.drop p) with hd | ⟨c, r, hd⟩
  · have hge : s.length ≤ p := by simpa using hd
    have : p = s.length := by omega
    subst this
    rw [decide_eq_false (show ¬ s.length < ByteArray.size ⟨⟨s⟩⟩ by rw [size_bt]; omega), List.take_length]
    rw [List.take_length] at hlp
    refine yes_mk ?_
    refine wpA_seq (wpA_cond (bool107n _ _ _) (fun h => by cases h) (fun _ => wpA_exit ?_))
    refine wpA_keep [0, 12] (keep107n _ _ _) ?_
    refine wpA_post ?_
    refine (evd_ok hG [4] (e107 ⟨⟨s⟩⟩ s.length (xs ++ 34 :: nums s)) ?_).wpA
    rw [decide_eq_true (Nat.le_refl (xs ++ 34 :: nums s).length), decide_eq_true (show ((xs ++ 34 :: nums s).length + 1) * 1 ≤ 140737488355328 by omega), List.take_length]
    refine yes_mk ⟨fun _ h => (by cases h), fun _ => ⟨[(0, 2, 1)], 2, rfl, ?_⟩⟩
    rw [vw107b]
    show finK Tryz.prog Tryz.f107 [rowB xs] kr _ = true
    rw [f107]
    have he : xs ++ 34 :: nums s ++ [34] = xs ++ 34 :: (nums s ++ [34]) := by simp
    have hl2 : (xs ++ 34 :: nums s).length + 1 = (xs ++ 34 :: (nums s ++ [34])).length := by rw [← he]; simp; omega
    rw [he, hl2]
    exact hk
  · obtain ⟨hlt, hdr, hg⟩ := drop_cons hd
    have hgc : s[p] = c := by have := hg 0; rw [List.getD_eq_getElem?_getD, List.getElem?_eq_getElem hlt] at this; simpa using this
    have hpl : ((32 ≤ (c.toNat : Int) ∧ (c.toNat : Int) < 128) ∧ c ≠ 34) ∧ c ≠ 92 := by
      unfold plainSB at hp
      rw [List.all_eq_true] at hp
      have := hp c (by rw [← hgc]; exact List.getElem_mem hlt)
      simpa using this
    obtain ⟨⟨⟨hc1, hc2⟩, hc3⟩, hc4⟩ := hpl
    have hdec := decode_plain hd (by omega)
    rw [decide_eq_true (show p < ByteArray.size ⟨⟨s⟩⟩ by rw [size_bt]; exact hlt), cond_true, hdec]
    refine yes_mk ?_
    refine wpA_seq (wpA_cond (bool107 _ _ _ _ _) (fun _ => wpA_skip ?_) (fun h => by cases h))
    refine wpA_block ?_
    refine evs_ok hG [0, 6, 7, 12] (d107a ⟨⟨s⟩⟩ (p + 1) p c.toNat (xs ++ 34 :: nums (s.take p))) ?_
    rw [decide_eq_true (show (0 : Int) ≤ (c.toNat : Int) by omega), decide_eq_true hc2, idx7 hc1 hc3 hc4]
    refine yes_mk ?_
    obtain ⟨m, hm⟩ : ∃ m, c.toNat = m + 32 := ⟨c.toNat - 32, by omega⟩
    have hm2 : m + 32 < 128 := by omega
    rw [hm]
    refine (evd_ok hG2 [0, 12] (d107b ⟨⟨s⟩⟩ (p + 1) m (xs ++ 34 :: nums (s.take p))) ?_).wpA
    rw [wrap_u8 (show m + 32 < 256 by omega), wrap_u32 (show m + 32 < 256 by omega)]
    have e1 : ltI 127 ((m + 32 : Nat) : Int) = false := by
      cases h : ltI 127 ((m + 32 : Nat) : Int) with
      | false => rfl
      | true => rw [ltI_iff] at h; omega
    rw [e1, decide_eq_true (Nat.le_refl (xs ++ 34 :: nums (s.take p)).length), decide_eq_true (show ((xs ++ 34 :: nums (s.take p)).length + 1) * 1 ≤ 140737488355328 by omega), List.take_length]
    refine yes_mk ⟨⟨p + 1, hlt⟩, [(0, 2, 1)], 2, by dsimp only; omega, rfl, ?_⟩
    dsimp only
    rw [vw107]
    have he : xs ++ 34 :: nums (s.take p) ++ [((m + 32 : Nat) : Int)] = xs ++ 34 :: nums (s.take (p + 1)) := by
      rw [← List.take_append_getElem hlt, hgc]
      simp [nums, hm]
    have hl3 : (xs ++ 34 :: nums (s.take p)).length + 1 = (xs ++ 34 :: nums (s.take (p + 1))).length := by rw [hlp, hst (p + 1) hlt]; omega
    rw [he, hl3]
    rfl
end Go.Proofs.YtiaeljbnhdhfcaaGreatDoor
