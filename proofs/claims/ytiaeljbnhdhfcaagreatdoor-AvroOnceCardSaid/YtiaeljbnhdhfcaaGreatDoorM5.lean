/- Loads and addresses do what the evaluator has. -/
import Derived.Test.YtiaeljbnhdhfcaaGreatDoorM4
namespace Go.Lx
open Go.RowKit

theorem isU8s_some {P : Program} {t : TypeId} (h : isU8s P t = true) : ∃ e, P.underlying t = some (.slice e) ∧ P.underlying e = some (.int .u8) ∧ sizeT P e = 1 := by
  unfold isU8s at h
  split at h
  · rename_i e hu
    split at h
    · rename_i he; exact ⟨e, hu, he, by simpa using h⟩
    · cases h
  · cases h

theorem isStrT_some {P : Program} {t : TypeId} (h : isStrT P t = true) : P.underlying t = some .string := by
  unfold isStrT at h
  split at h
  · rename_i hu; exact hu
  · cases h

theorem bytes_rel {I : Nat → Nat → Prop} {w : World} (xs : List Int) (vs : List Value) (h : relDCs I w (xs.flatMap (Cd.enc (.int .u8))) vs) : vs = xs.map (Value.int .u8) := by
  induction xs generalizing vs with
  | nil => simpa [relDCs] using h
  | cons x xs ih =>
    simp only [List.flatMap_cons, Cd.enc, List.cons_append, List.nil_append, relDCs, relDC] at h
    obtain ⟨v, r, rfl, rfl, h3⟩ := h
    simp [ih r h3]

theorem rel_bytes {I : Nat → Nat → Prop} {w : World} (xs : List Int) : relDCs I w (xs.flatMap (Cd.enc (.int .u8))) (xs.map (Value.int .u8)) := by
  induction xs with
  | nil => rfl
  | cons x xs ih =>
    simp only [List.flatMap_cons, Cd.enc, List.cons_append, List.nil_append, relDCs, relDC, List.map_cons]
    exact ⟨_, _, rfl, rfl, ih⟩

theorem back_string {P : Program} {w : World} {s d e : TypeId} {b o cap : Nat} {xs : List Int} {vs : List Value} (hs : P.underlying s = some (.slice e)) (he : P.underlying e = some (.int .u8)) (hd : P.underlying d = some .string)
    (hv : vs = xs.map (Value.int .u8)) (hc : cellsAt w b o vs) : (convert s d (.slice (some ⟨b, o, none⟩) xs.length cap)).run P w = .ok (.string (bback xs)) w := by
  refine run_convert_bytes_arg w s e hs he b o xs.length cap xs rfl (fun i hi => ?_) d hd
  have := hc i (.int .u8 (xs.getD i 0)) (by rw [hv]; simp [List.getElem?_eq_getElem hi])
  exact this

theorem convH_ok {P : Program} {w0 : World} {E : Env} {st : St} {ts : List Value} (hs : Sim w0 E st ts) {s d : TypeId} {h r : HV} {y : Value} (hl : convH P E.L s d h = some r) (hr : relHV E h y) :
    ∃ z E', (convert s d y).run P E.w = .ok z E'.w ∧ E'.L = E.L ∧ Sim w0 E' st ts ∧ Mod E E' ∧ relHV E' r z := by
  unfold convH at hl
  split at hl
  · rw [relHV_v] at hr; subst hr
    rw [Option.map_eq_some_iff] at hl
    obtain ⟨z, hz, rfl⟩ := hl
    exact ⟨z, E, pureOf_run hz E.w, rfl, hs, Mod.refl E, rfl⟩
  · rename_i x
    rw [relHV_v] at hr; subst hr
    split at hl
    · rename_i hc
      cases hl
      simp only [Bool.and_eq_true] at hc
      obtain ⟨e, hu, he, _⟩ := isU8s_some hc.2
      let E' : Env := ⟨fun b o => E.I b o ∨ (b = E.w.heap.size ∧ o < x.size), E.β, E.L, Lib.bytesWorld E.w e x⟩
      obtain ⟨h1, h2⟩ := sim_add (E' := E') hs [] (by simp [E']) (fun _ _ _ => rfl) (fun b hb => Lib.bytesWorld_at_old E.w e x b hb) (by simp [E', Lib.bytesWorld_size])
        (fun _ _ h => .inl h) (fun b o h => by rcases h with h | ⟨rfl, _⟩ <;> simp_all) (fun b o h => by
          show b < (Lib.bytesWorld E.w e x).heap.size
          rw [Lib.bytesWorld_size]
          rcases h with h | ⟨rfl, _⟩
          · have := hs.Ilt b o h; omega
          · exact Nat.lt_succ_self _) (by simp) (by simp) rfl rfl rfl
      refine ⟨_, E', Lib.run_convert_string_bytes E.w s d e x (isStrT_some hc.1) hu he, rfl, ?_, h2, ?_⟩
      · have := h1; rw [show E'.L = st.L from hs.L] at this; exact this
      · rw [relHV_list]
        have hlen : (blist x).length = x.size := by simp [blist]
        refine .inr ⟨_, 0, _, (blist x).map (Value.int .u8), by rw [hlen], ?_, by simp [Cd.size], fun k v hk => ?_, fun k hk => .inr ⟨rfl, by simp [Cd.size, hlen] at hk ⊢; exact hk⟩, rel_bytes _⟩
        · rw [hlen]; simp only [grownCap, Question.cut]; omega
        · have hk' : k < x.size := by
            have := (List.getElem?_eq_some_iff.1 hk).1
            simpa [hlen] using this
          rw [Nat.zero_add]
          have := Lib.bytesWorld_cell E.w e x k hk'
          rw [this]
          simp only [blist, List.map_map, List.getElem?_map] at hk
          have hx : x.data.toList[k]? = some (x.data.toList.getD k 0) := by
            rw [List.getElem?_eq_getElem (by rw [size_list]; exact hk')]; simp [List.getD_eq_getElem?_getD, hk']
          rw [hx] at hk
          simpa using hk
    · cases hl
  · rename_i xs
    split at hl
    · rename_i hc
      cases hl
      simp only [Bool.and_eq_true] at hc
      obtain ⟨e, hu, he, _⟩ := isU8s_some hc.1
      have hd := isStrT_some hc.2
      rw [relHV_list] at hr
      simp only [relDC] at hr
      refine ⟨.string (bback xs), E, ?_, rfl, hs, Mod.refl E, rfl⟩
      rcases hr with ⟨h0, _, rfl⟩ | ⟨b, o, cap, vs, rfl, _, _, h4, _, h6⟩
      · have hx : xs = [] := List.eq_nil_of_length_eq_zero h0
        subst hx
        exact run_convert_bytes_nil E.w s e hu he 0 0 d hd
      · exact back_string hu he hd (bytes_rel xs vs h6) h4
    · cases hl
  · rename_i c id ver len
    split at hl
    · rename_i ver' fp xs hid
      split at hl
      · rename_i hc
        cases hl
        simp only [Bool.and_eq_true, decide_eq_true_eq] at hc
        obtain ⟨⟨⟨hv, hlen⟩, hc1⟩, hc2⟩ := hc
        obtain ⟨e, hu, he, _⟩ := isU8s_some hc1
        have hd := isStrT_some hc2
        obtain ⟨q, l, k, o, rfl, h1, h2, h3⟩ := relHV_own.1 hr
        rw [hid] at h1; cases h1
        obtain ⟨_, _, e', hat⟩ := h3 hv
        cases e'
        refine ⟨.string (bback xs), E, ?_, rfl, hs, Mod.refl E, rfl⟩
        have hob := hs.ob id _ hid
        simp only [relOb] at hob
        simp only [ownAt] at hat
        split at hat
        · rename_i hb
          simp only [hb] at hob
          obtain ⟨_, hx⟩ := hob
          subst hx
          obtain ⟨h0, hy⟩ := hat
          rcases hy with e | ⟨_, _, e⟩ <;> cases e
          · exact run_convert_bytes_nil E.w s _ hu he 0 0 d hd
          · exact back_string (xs := []) (vs := []) hu he hd rfl (fun k v h => by simp at h)
        · rename_i b p hb
          simp only [hb] at hob
          obtain ⟨_, C, e', lo, hi, vs, k1, k2, k3, k4, k5, k6⟩ := hob
          obtain ⟨cap', _, n, hy, g1, g2, g3⟩ := hat
          cases hy
          rw [hlen]
          exact back_string hu he hd (bytes_rel xs vs k3) k4
      · cases hl
    · cases hl
  · cases hl

/-! Look-ups -/

def descOf : Cd → Option TypeDesc
  | .int k => some (.int k)
  | .str => some .string
  | .bool => some .bool
  | _ => none

theorem tcode_desc {P : Program} {n : Nat} {t : TypeId} {c : Cd} (h : tcode P n t = some c) (hk : okKey c = true) : ∃ d, descOf c = some d ∧ P.underlying t = some d := by
  cases n with
  | zero => simp [tcode] at h
  | succ n =>
    unfold tcode at h
    split at h <;> first | (cases h; simp [okKey] at hk; done) | skip
    split at h
    · rename_i hu; cases h; exact ⟨_, rfl, hu⟩
    · rename_i hu; cases h; exact ⟨_, rfl, hu⟩
    · rename_i hu; cases h; exact ⟨_, rfl, hu⟩
    · rw [Option.map_eq_some_iff] at h
      obtain ⟨a, _, rfl⟩ := h
      simp [okKey] at hk
    · cases h

theorem sameNow_key {k : Cd} (hk : okKey k = true) {d : TypeDesc} (hd : descOf k = some d) (a b : k.den) : Instr.sameNow d (keyV k a) (keyV k b) = some (keq k a b) := by
  cases k <;> first | (simp [okKey] at hk; done) | skip
  · simp only [descOf, Option.some.injEq] at hd; subst hd; simp [Instr.sameNow, keyV, keq]
  · simp only [descOf, Option.some.injEq] at hd; subst hd; simp [Instr.sameNow, keyV, keq]
  · simp only [descOf, Option.some.injEq] at hd; subst hd; simp [Instr.sameNow, keyV, keq, beq_bytes]

theorem findNow_key {k v : Cd} (hk : okKey k = true) {d : TypeDesc} (hd : descOf k = some d) (x : k.den) : ∀ (es : List (k.den × v.den)) (ents : List MapEntry) (i : Nat),
    ents.map (fun e => (e.key, e.val)) = es.map (fun e => (keyV k e.1, keyV v e.2)) →
    ∃ r, Instr.findNow d (keyV k x) ents i = some r ∧ (mhas es x = true → ∃ j, r = some (i + j, keyV v (mval es x)) ∧ j < ents.length ∧ (∀ e, es[j]? = some e → keq k x e.1 = true) ∧ ∀ j', j' < j → ∀ e, es[j']? = some e → keq k x e.1 = false) ∧
      (mhas es x = false → r = none)
  | [], ents, i, h => by
    simp at h; subst h
    exact ⟨none, rfl, fun h => by simp [mhas] at h, fun _ => rfl⟩
  | e :: es, ents, i, h => by
    cases ents with
    | nil => simp at h
    | cons m ents =>
      simp only [List.map_cons, List.cons.injEq, Prod.mk.injEq] at h
      obtain ⟨⟨h1, h2⟩, h3⟩ := h
      simp only [Instr.findNow, h1, sameNow_key hk hd, mhas, mval]
      cases hq : keq k x e.1 with
      | true =>
        refine ⟨_, rfl, fun _ => ⟨0, by simp [h2], by simp, fun e' he => by simp at he; subst he; exact hq, fun j' hj => by omega⟩, fun h => by simp at h⟩
      | false =>
        obtain ⟨r, hr, ht, hf⟩ := findNow_key hk hd x es ents (i + 1) h3
        refine ⟨r, hr, fun h => ?_, fun h => hf (by simpa using h)⟩
        obtain ⟨j, rfl, hj, hj1, hj2⟩ := ht (by simpa using h)
        refine ⟨j + 1, by simp [Nat.add_assoc, Nat.add_comm 1 j], by simp; omega, fun e' he => hj1 e' (by simpa using he), fun j' hj' e' he => ?_⟩
        cases j' with
        | zero => simp at he; subst he; exact hq
        | succ j' => exact hj2 j' (by omega) e' (by simpa using he)

theorem mval_no {k v : Cd} {x : k.den} : ∀ {es : List (k.den × v.den)}, mhas es x = false → mval es x = v.dflt
  | [], _ => rfl
  | e :: es, h => by
    simp only [mhas, Bool.or_eq_false_iff] at h
    simp only [mval, h.1, cond_false]
    exact mval_no h.2

theorem checkKey_ok {P : Program} {k : Cd} (hk : okKey k = true) {d : TypeDesc} (hd : descOf k = some d) {t : TypeId} (hu : P.underlying t = some d) (b : Bool) (n : Nat) (x : k.den) (w : World) :
    (Instr.checkKey b (n + 1) t (keyV k x)).run P w = .ok () w := by
  cases k <;> first | (simp [okKey] at hk; done) | skip
  all_goals
    simp only [descOf, Option.some.injEq] at hd; subst hd
    simp [Instr.checkKey, run_underlying hu, keyV]

theorem eqV_ok {a b : Value} (h : eqV a b = true) : a = b := by
  unfold eqV at h
  split at h <;> first | (cases h; done) | rfl | skip
  · simp only [Bool.and_eq_true, decide_eq_true_eq, beq_iff_eq] at h; rw [h.1, h.2]
  · rw [beq_iff_eq] at h; rw [h]
  · rw [beqS_eq h]

theorem relHV_key {E : Env} {c : Cd} (hk : okKey c = true) (x : c.den) : relHV E (ofD ⟨c, x⟩) (keyV c x) := by
  cases c <;> first | (simp [okKey] at hk; done) | rfl

theorem key_of {E : Env} {k : Cd} {h : HV} {x : k.den} {y : Value} (hx : scD k h = some x) (hr : relHV E h y) : y = keyV k x ∧ okKey k = true := by
  cases k <;> cases h <;> first | (simp [scD] at hx; done) | skip
  all_goals
    rename_i z
    rw [relHV_v] at hr; subst hr
    cases y <;> first | (simp [scD] at hx; done) | skip
  · rename_i k k' n
    simp only [scD] at hx
    split at hx
    · rename_i e; subst e; simp only [Option.some.injEq] at hx; subst hx; exact ⟨rfl, rfl⟩
    · cases hx
  · simp only [scD, Option.some.injEq] at hx; subst hx; exact ⟨rfl, rfl⟩
  · simp only [scD, Option.some.injEq] at hx; subst hx; exact ⟨rfl, rfl⟩

/-- A look-up in a map of data. -/
theorem lookup_run {P : Program} {w : World} {t kt et : TypeId} {k v : Cd} {d : TypeDesc} {es : List (k.den × v.den)} {ents : Array MapEntry} {clock b : Nat} {x : k.den} {z : Value} (ok : Bool)
    (hu : P.underlying t = some (.map kt et)) (hk : okKey k = true) (hd : descOf k = some d) (hku : P.underlying kt = some d) (hb : w.heap[b]? = some (.map ents clock))
    (he : entsAre (es.map fun e => (keyV k e.1, keyV v e.2)) ents) (hz : (zeroValue et).run P w = .ok z w) (hzv : z = keyV v v.dflt) :
    (Instr.lookup t (.map (some b)) (keyV k x) ok).run P w = .ok (if ok then .tuple #[keyV v (mval es x), .bool (mhas es x)] else keyV v (mval es x)) w := by
  obtain ⟨r, hr, ht, hf⟩ := findNow_key hk hd x es ents.toList 0 he
  have hg : (getObj b).run P w = .ok (.map ents clock) w := by simp [getObj, Sem.run, hb]
  have hc := checkKey_ok (P := P) hk hd hku ents.isEmpty 9999 x w
  cases hm : mhas es x with
  | true =>
    obtain ⟨j, rfl, _⟩ := ht hm
    cases ok <;> simp [Instr.lookup, run_underlying hu, hg, hc, Instr.findKey, run_underlying hku, hr]
  | false =>
    obtain rfl := hf hm
    cases ok <;> simp [Instr.lookup, run_underlying hu, hg, hc, Instr.findKey, run_underlying hku, hr, hz, hzv, mval_no hm]

theorem lookGo_ok {P : Program} {E : Env} {t kt et : TypeId} {k v : Cd} {es : List (k.den × v.den)} {x r : HV} {y : Value} {ok : Bool} {b clock : Nat} {ents : Array MapEntry} (hu : P.underlying t = some (.map kt et))
    (hb : E.w.heap[b]? = some (.map ents clock)) (he : entsAre (es.map fun e => (keyV k e.1, keyV v e.2)) ents) (hx : relHV E x y) (h : lookGo P kt et k v es x ok = some r) :
    ∃ z, (Instr.lookup t (.map (some b)) y ok).run P E.w = .ok z E.w ∧ relHV E r z := by
  unfold lookGo at h
  split at h
  · rename_i key hkey
    split at h
    · rename_i hc
      simp only [Bool.and_eq_true, beq_iff_eq] at hc
      obtain ⟨⟨hck, _⟩, hz⟩ := hc
      unfold zeroKey at hz
      split at hz
      · rename_i i hi
        split at hz
        · rename_i z hzz
          simp only [Bool.and_eq_true] at hz
          obtain ⟨hv, hk⟩ := key_of hkey hx
          subst hv
          obtain ⟨d, hd, hku⟩ := tcode_desc hck hk
          have hzr : (zeroValue et).run P E.w = .ok z E.w := by simp [zeroValue, run_info hi, hzz]
          refine ⟨_, lookup_run ok hu hk hd hku hb he hzr (eqV_ok hz.1), ?_⟩
          simp only [Option.some.injEq] at h
          subst h
          cases ok with
          | true =>
            simp only [if_true]
            exact ⟨[_, _], rfl, _, _, rfl, relHV_key hz.2 _, _, _, rfl, rfl, rfl⟩
          | false => simp only [Bool.false_eq_true, if_false]; exact relHV_key hz.2 _
        · cases hz
      · cases hz
    · cases h
  · cases h

theorem mapTE_some {P : Program} {t : TypeId} {te : TypeId × TypeId} (h : mapTE P t = some te) : P.underlying t = some (.map te.1 te.2) := by
  unfold mapTE at h
  split at h
  · rename_i hu; cases h; exact hu
  · cases h

theorem lookupH_ok {P : Program} {w0 : World} {E : Env} {st : St} {ts : List Value} (hs : Sim w0 E st ts) {t : TypeId} {m x r : HV} {ok : Bool} {u v : Value} (hl : lookupH P t E.L m x ok = some r) (hr : relHV E m u) (hx : relHV E x v) :
    ∃ z, (Instr.lookup t u v ok).run P E.w = .ok z E.w ∧ relHV E r z := by
  unfold lookupH at hl
  split at hl
  · rename_i te hte
    have hu := mapTE_some hte
    split at hl
    · obtain ⟨b, ents, clock, h1, h2, h3, h4⟩ := hr
      simp at h1; subst h1
      exact lookGo_ok hu h2 h4 hx hl
    · rename_i id
      split at hl
      · rename_i k vc es hid
        obtain ⟨o, b, p, h1, h2, h3, h4⟩ := hr
        simp at h4; subst h4
        obtain ⟨b', ents, clock, k1, k2, k3, k4⟩ := hs.ob id _ hid
        rw [h3] at k1; cases k1
        exact lookGo_ok hu k2 k3 hx hl
      · cases hl
    · cases hl
  · cases hl

end Go.Lx

namespace Go.Lx
open Go.RowKit

theorem overw_list (C : Array Value) (a b c vs : List Value) (h : C.toList = a ++ b ++ c) (hl : vs.length = b.length) : (overw C a.length vs).toList = a ++ vs ++ c := by
  have hs : C.size = a.length + b.length + c.length := by rw [← Array.length_toList, h]; simp; omega
  apply List.ext_getElem?
  intro i
  rw [Array.getElem?_toList, overw_get C a.length vs (by omega) i]
  have hC : C[i]? = (a ++ b ++ c)[i]? := by rw [← h, Array.getElem?_toList]
  by_cases h1 : a.length ≤ i ∧ i < a.length + vs.length
  · rw [if_pos h1, List.append_assoc, List.getElem?_append_right h1.1, List.getElem?_append_left (by omega)]
  · rw [if_neg h1, hC]
    by_cases h2 : i < a.length
    · rw [List.append_assoc, List.append_assoc, List.getElem?_append_left h2, List.getElem?_append_left h2]
    · rw [List.getElem?_append_right (by simp; omega), List.getElem?_append_right (by simp; omega)]
      congr 1; simp; omega

theorem foldl_overw (vs : List Value) : ∀ (C : Array Value) (o k : Nat), (vs.zipIdx k).foldl (fun cs p => cs.setIfInBounds (o + p.2) p.1) C = overw C (o + k) vs := by
  induction vs with
  | nil => intro C o k; rfl
  | cons v vs ih => intro C o k; simp only [List.zipIdx_cons, List.foldl_cons, overw]; rw [ih]; rfl

theorem fill_step (C : Array Value) (o : Nat) (v : Array Value) : v.zipIdx.foldl (fun cs (p : Value × Nat) => cs.setIfInBounds (o + p.2) p.1) C = overw C o v.toList := by
  rw [← Array.foldl_toList, Array.toList_zipIdx]
  exact foldl_overw v.toList C o 0

theorem relSt_split {E : Env} : ∀ (fs : List HV) (i : Nat) (f : HV) (vs : List Value), fs[i]? = some f → relSt E fs vs → ∃ a b c, vs = a ++ b ++ c ∧ a.length = widths (fs.take i) ∧ relF E f b ∧
    ∀ g b', relF E g b' → relSt E (fs.set i g) (a ++ b' ++ c)
  | [], i, f, vs, h, _ => by simp at h
  | x :: fs, i, f, vs, h, hr => by
    simp only [relSt] at hr
    obtain ⟨p, q, rfl, hp, hq⟩ := hr
    cases i with
    | zero =>
      simp at h; subst h
      exact ⟨[], p, q, by simp, rfl, hp, fun g b' hg => by simp only [List.set_cons_zero, relSt, List.nil_append]; exact ⟨b', q, rfl, hg, hq⟩⟩
    | succ i =>
      obtain ⟨a, b, c, rfl, h1, h2, h3⟩ := relSt_split fs i f q (by simpa using h) hq
      refine ⟨p ++ a, b, c, by simp, by simp [widths, relF_length x p hp, h1], h2, fun g b' hg => ?_⟩
      simp only [List.set_cons_succ, relSt]
      exact ⟨p, a ++ b' ++ c, by simp, hp, h3 g b' hg⟩

theorem fill_ok {P : Program} {E : Env} (fd : List Field) (places : Nat → Option (Nat × Nat)) (hpl : ∀ i fl, fd[i]? = some fl → places i = some (fl.offset, sizeT P fl.type)) :
    ∀ (ps : List (Nat × HV)) (parts : List (Nat × Value)) (fs fs' : List HV) (C : Array Value), buildF P fd ps fs = some fs' → parts.map (·.1) = ps.map (·.1) → relAll E (ps.map (·.2)) (parts.map (·.2)) → relSt E fs C.toList →
    ∃ C', Instr.fill places C parts = some C' ∧ relSt E fs' C'.toList
  | [], parts, fs, fs', C, hb, hi, _, hr => by
    simp at hi; subst hi
    simp only [buildF, Option.some.injEq] at hb; subst hb
    exact ⟨C, rfl, hr⟩
  | p :: ps, parts, fs, fs', C, hb, hi, ha, hr => by
    cases parts with
    | nil => simp at hi
    | cons q parts =>
      obtain ⟨i, h⟩ := p
      obtain ⟨j, v⟩ := q
      simp only [List.map_cons, List.cons.injEq] at hi
      obtain ⟨rfl, hi⟩ := hi
      simp only [List.map_cons, relAll] at ha
      obtain ⟨v', r, e, hv, ha⟩ := ha
      simp only [List.cons.injEq] at e
      obtain ⟨rfl, rfl⟩ := e
      simp only [buildF] at hb
      split at hb
      · rename_i f fl hf hfl
        split at hb
        · rename_i hc
          obtain ⟨hw, hs, ho, hbx⟩ := hc
          obtain ⟨a, b, c, hC, h1, h2, h3⟩ := relSt_split fs j f C.toList hf hr
          have hvc := relHV_cells hbx hv
          have lv : v.cells.toList.length = h.width := relF_length _ _ hvc
          have lb : b.length = f.width := relF_length _ _ h2
          have hov : (overw C fl.offset v.cells.toList).toList = a ++ v.cells.toList ++ c := by
            rw [ho, ← h1]; exact overw_list C a b c _ hC (by omega)
          have hsz : C.size = a.length + b.length + c.length := by rw [← Array.length_toList, hC]; simp; omega
          obtain ⟨C', k1, k2⟩ := fill_ok fd places hpl ps parts (fs.set j h) fs' (overw C fl.offset v.cells.toList) hb hi ha (by rw [hov]; exact h3 h _ hvc)
          refine ⟨C', ?_, k2⟩
          simp only [Instr.fill, hpl j fl hfl]
          have lv' : v.cells.size = h.width := by rw [← lv]; simp
          rw [if_neg (by simp; omega)]
          rw [fill_step]; exact k1
        · cases hb
      · cases hb

mutual
theorem exactCells_ok {E : Env} : ∀ (h : HV) (l : List Value), exactCells h = some l → relF E h l
  | .v x, l, he => by
    simp only [exactCells] at he
    split at he <;> first | (cases he; done) | skip
    rename_i h1 h2
    simp only [Option.some.injEq] at he; subst he
    simp only [relF]
    cases x <;> first | rfl | (exact absurd rfl (h1 _)) | (exact absurd rfl (h2 _))
  | .st fs, l, he => by simp only [exactCells] at he; simp only [relF]; exact exactsCells_ok fs l he
  | .d .., l, he => by simp [exactCells] at he
  | .tup _, l, he => by simp [exactCells] at he
  | .ptr .., l, he => by simp [exactCells] at he
  | .dp .., l, he => by simp [exactCells] at he
  | .rp .., l, he => by simp [exactCells] at he
  | .own .., l, he => by simp [exactCells] at he
  | .zc, l, he => by simp [exactCells] at he
  | .map _, l, he => by simp [exactCells] at he
  | .it _, l, he => by simp [exactCells] at he
  | .dm .., l, he => by simp [exactCells] at he
  | .fn .., l, he => by simp [exactCells] at he
  | .iface .., l, he => by simp [exactCells] at he
  | .opt .., l, he => by simp [exactCells] at he
  | .junk, l, he => by simp [exactCells] at he
theorem exactsCells_ok {E : Env} : ∀ (fs : List HV) (l : List Value), exactsCells fs = some l → relSt E fs l
  | [], l, he => by simp only [exactsCells, Option.some.injEq] at he; subst he; rfl
  | f :: fs, l, he => by
    simp only [exactsCells] at he
    split at he
    · rename_i a ha
      split at he
      · rename_i b hb
        simp only [Option.some.injEq] at he; subst he
        exact ⟨a, b, rfl, exactCells_ok f a ha, exactsCells_ok fs b hb⟩
      · cases he
    · cases he
end

theorem eqVs_ok : ∀ {a b : List Value}, eqVs a b = true → a = b
  | [], [], _ => rfl
  | [], _ :: _, h => by simp [eqVs] at h
  | _ :: _, [], h => by simp [eqVs] at h
  | a :: as, b :: bs, h => by
    simp only [eqVs, Bool.and_eq_true] at h
    rw [eqV_ok h.1, eqVs_ok h.2]

theorem zeroOk_some {P : Program} {t : TypeId} {h : HV} (hz : zeroOk P t h = true) (E : Env) : ∃ i z, P.info? t = some i ∧ i.zero = some z ∧ relF E h z.cells.toList ∧ z.cells.size = i.size ∧ h.aggr = aggT P t := by
  unfold zeroOk at hz
  split at hz
  · rename_i i hi
    split at hz
    · rename_i z hzz
      split at hz
      · rename_i l hl
        simp only [Bool.and_eq_true, beq_iff_eq] at hz
        have := eqVs_ok hz.1.1
        subst this
        exact ⟨i, z, hi, hzz, exactCells_ok h _ hl, hz.1.2, hz.2⟩
      · cases hz
    · cases hz
  · cases hz

theorem run_places {P : Program} (w : World) : ∀ (fd : List Field), (∀ f ∈ fd, sizeT P f.type ≠ 0) →
    (fd.mapM (fun f => do pure (f.offset, ← sizeOf f.type)) : Sem (List (Nat × Nat))).run P w = .ok (fd.map fun f => (f.offset, sizeT P f.type)) w
  | [], _ => rfl
  | f :: fd, h => by
    have h1 := run_sizeOf' (P := P) (e := f.type) rfl (h f (by simp)) w
    have h2 := run_places w fd (fun g hg => h g (by simp [hg]))
    rw [List.mapM_cons]
    simp only [Sem.run_bind, h1, Result.andThen_ok, Sem.run_pure, h2, List.map_cons]

theorem build_ok {P : Program} {E : Env} {t : TypeId} {fs fs' : List HV} {fd : Array Field} {ps : List (Nat × HV)} {parts : Array (Nat × Value)} (hfd : structT P t = some fd) (hz : zeroOk P t (.st fs) = true)
    (hall : ∀ f ∈ fd.toList, sizeT P f.type ≠ 0) (hb : buildF P fd.toList ps fs = some fs') (hi : parts.toList.map (·.1) = ps.map (·.1)) (ha : relAll E (ps.map (·.2)) (parts.toList.map (·.2))) :
    ∃ y, (Instr.build t parts).run P E.w = .ok y E.w ∧ relHV E (.st fs') y := by
  obtain ⟨i, z, h1, h2, h3, _, _⟩ := zeroOk_some hz E
  have hu : P.underlying t = some (.struct fd) := by
    unfold structT at hfd
    split at hfd
    · rename_i hu; cases hfd; exact hu
    · cases hfd
  have hzr : (zeroValue t).run P E.w = .ok z E.w := by simp [zeroValue, run_info h1, h2]
  have hpl : (fd.mapM (fun f => do pure (f.offset, ← sizeOf f.type)) : Sem (Array (Nat × Nat))).run P E.w = .ok ((fd.toList.map fun f => (f.offset, sizeT P f.type)).toArray) E.w := by
    rw [Array.mapM_eq_mapM_toList]
    simp only [Sem.run_map, run_places E.w fd.toList hall, Result.andThen_ok]
  simp only [relF] at h3
  obtain ⟨C', k1, k2⟩ := fill_ok (P := P) (E := E) fd.toList (fun j => ((fd.toList.map fun f => (f.offset, sizeT P f.type)).toArray)[j]?) (fun j fl hj => by simp [Array.getElem?_toList] at hj ⊢; exact ⟨fl, hj, rfl, rfl⟩)
    ps parts.toList fs fs' z.cells hb hi ha h3
  refine ⟨.agg C', ?_, C'.toList, by simp, k2⟩
  simp only [Instr.build, Sem.run_bind, hzr, Result.andThen_ok, run_underlying hu, hpl, k1, Sem.run_pure]

end Go.Lx

namespace Go.Lx
open Go.RowKit

/-- The function has a body. -/
def hasBody (P : Program) (f : FuncId) : Prop := ∃ fn, P.funcs[f]? = some fn ∧ fn.body.isSome = true

theorem run_callFunc {P : Program} (hP : ProgOK P) {f : FuncId} (hb : hasBody P f) (args : Array Value) (w : World) : (callFunc f args).run P w = .ok (.enter f args) w := by
  obtain ⟨fn, hf, hb⟩ := hb
  have hn := hP.names f fn hf
  obtain ⟨b, hb⟩ := Option.isSome_iff_exists.mp hb
  simp [callFunc, hf, hb, beq_eq_false_iff_ne.mp hn]

/-- What is known of the pure functions holds. -/
def PureOK (P : Program) (w0 : World) (G : Gam) : Prop :=
  ∀ f args r, G.pure f args = some r → hasBody P f ∧ (r.1 = true → ∀ E vs, Sim w0 E ⟨Tm.e, E.L⟩ [] → relAll E args vs →
    Calls P f vs.toArray E.w fun e w' => ∃ E' y, E'.w = w' ∧ E'.L = E.L ∧ Sim w0 E' ⟨Tm.e, E.L⟩ [] ∧ Mod E E' ∧ e = .returned y ∧ relHV E' r.2 y)

theorem sim_bare {w0 : World} {E : Env} {st : St} {t : List Value} (hs : Sim w0 E st t) : Sim w0 E ⟨Tm.e, E.L⟩ [] :=
  { hs with L := rfl, tm := relT_e E }

theorem sim_tmps {w0 : World} {E E' : Env} {tmps : Tm} {L : List Ob} {t : List Value} (hs : Sim w0 E' ⟨Tm.e, L⟩ []) (m : Mod E E') (ht : relT E tmps t) : Sim w0 E' ⟨tmps, L⟩ t :=
  { hs with L := hs.L, tm := relT_mod m ht }

theorem sim_put {w0 : World} {E : Env} {tmps : Tm} {L : List Ob} {t : List Value} (hs : Sim w0 E ⟨tmps, L⟩ t) (dst : Option Tmp) {h : HV} {y : Value} (hr : relHV E h y) :
    ∃ t', Sim w0 E ⟨putT tmps dst h, L⟩ t' ∧ ∀ d, Act.put ⟨t.toArray, d⟩ dst y = ⟨t'.toArray, d⟩ := by
  cases dst with
  | none => exact ⟨t, hs, fun d => rfl⟩
  | some i => exact ⟨t.set i y, { hs with L := hs.L, tm := relT_put hs.tm i hr }, fun d => by simp [Act.put]⟩

theorem Oper.wp_value {P : Program} {o : Oper} {a : Act} {w w' : World} {y : Value} {next : Act → World → Prop} {QQ : Exit → Act → World → Prop}
    (h : (execOp a.eval o).run P w = .ok (.value y) w') (hn : next (a.put o.dst y) w') : o.wp P a w next QQ := by
  unfold Oper.wp; rw [h]; exact hn

theorem Oper.wp_skip' {P : Program} {o : Oper} {a : Act} {w w' : World} {next : Act → World → Prop} {QQ : Exit → Act → World → Prop}
    (h : (execOp a.eval o).run P w = .ok .skip w') (hn : next (a.put o.dst undef) w') : o.wp P a w next QQ := by
  unfold Oper.wp; rw [h]; exact hn

/-- A type that is no struct has an argument that is none. -/
theorem normArg_ok {P : Program} {E : Env} {t : TypeId} {h : HV} {y : Value} (hr : relHV E h y) : relHV E (normArg P t h) y := by
  unfold normArg
  split
  · rename_i fs
    split
    · rename_i c _
      split
      · rename_i x hx
        obtain ⟨vs, rfl, h2⟩ := hr
        have h3 := toD_ok (.st fs) c x vs hx h2
        rw [toD_st] at hx
        split at hx
        · obtain ⟨_, hagg⟩ := Cd.pack_flds hx
          simp only [relHV, top, hagg, if_true]
          exact ⟨vs, rfl, h3⟩
        · cases hx
      · exact hr
    · exact hr
  · exact hr

theorem normArgs_ok {P : Program} {E : Env} : ∀ (ts : List TypeId) (hs : List HV) (vs : List Value), relAll E hs vs → relAll E (normArgs P ts hs) vs
  | [], hs, vs, h => by cases hs <;> exact h
  | t :: ts, [], vs, h => h
  | t :: ts, x :: hs, vs, h => by
    simp only [normArgs, relAll] at h ⊢
    obtain ⟨a, b, rfl, h2, h3⟩ := h
    exact ⟨a, b, rfl, normArg_ok h2, normArgs_ok ts hs b h3⟩

theorem run_callValue {P : Program} (hP : ProgOK P) {f : FuncId} (hb : hasBody P f) {o : Oper} {c : Call} {ρ : Operand → Value} {g : Operand} {fst cap : Array Value} (ho : o.op = .call c) (hc : c.callee = .value g) (hg : ρ g = .func (.func f) fst cap) (w : World) :
    (execOp ρ o).run P w = .ok (.enter f (fst ++ c.args.map ρ ++ cap)) w := by
  simp only [execOp, ho, resolve, hc, hg, Deferred.ofValue, Sem.run_bind, Sem.run_pure, Result.andThen_ok, invoke]
  exact run_callFunc hP hb _ w

theorem relAll_map {E : Env} {tmps : Tm} {t : List Value} {d : List Deferred} (h : relT E tmps t) (xs : Array Operand) :
    relAll E (xs.toList.map (opnd tmps)) ((xs.map (Act.eval ⟨t.toArray, d⟩)).toList) := by
  rw [Array.toList_map]; exact opnds_ok h _

theorem zip_fst {α β : Type} : ∀ (as : List α) (bs : List β), as.length = bs.length → (as.zip bs).map (·.1) = as
  | [], [], _ => rfl
  | a :: as, b :: bs, h => by simp [zip_fst as bs (by simpa using h)]
theorem zip_snd {α β : Type} : ∀ (as : List α) (bs : List β), as.length = bs.length → (as.zip bs).map (·.2) = bs
  | [], [], _ => rfl
  | a :: as, b :: bs, h => by simp [zip_snd as bs (by simpa using h)]

theorem feAll_length (g : Bool) : ∀ hs : List HV, (feAll g hs).2.length = hs.length
  | [] => rfl
  | h :: hs => by simp [feAll, feAll_length g hs]

end Go.Lx

namespace Go.Lx
open Go.RowKit

theorem mod_add {w0 : World} {E E' : Env} {st : St} {t : List Value} (hs : Sim w0 E st t) (new : List Ob) (hL : E'.L = E.L ++ new)
    (hβ : ∀ i v, i < E.L.length → E'.β i v = E.β i v) (hw : ∀ b, b < E.w.heap.size → E'.w.heap[b]? = E.w.heap[b]?) (hsz : E.w.heap.size ≤ E'.w.heap.size)
    (hI : ∀ b o, E.I b o → E'.I b o) (hI' : ∀ b o, E'.I b o → E.I b o ∨ E.w.heap.size ≤ b)
    (hnew : ∀ i o b p, E.L.length ≤ i → E'.L[i]? = some o → E'.β i o.ver = some (b, p) → E.w.heap.size ≤ b)
    (hos : E'.w.os = E.w.os) (htape : E'.w.tape = E.w.tape) (hout : E'.w.output = E.w.output) : Mod E E' := by
  refine ⟨ext_of_blocks hw hI hs.Ilt hsz, fun b hb _ => hw b hb, ?_, fun b o h => ?_, fun i o h => ?_, hos, htape, hout⟩
  · rintro b ⟨i, o, p, h1, h2, h3⟩
    by_cases hi : i < E.L.length
    · rw [hL, List.getElem?_append_left hi] at h1
      exact .inl ⟨i, o, p, h1, h2, by rw [← hβ i _ hi]; exact h3⟩
    · exact .inr (hnew i o b p (by omega) h1 h3)
  · rcases hI' b o h with h | h
    · exact .inl h
    · exact .inr (.inl h)
  · have hi : i < E.L.length := (List.getElem?_eq_some_iff.1 h).1
    exact ⟨o, by rw [hL, List.getElem?_append_left hi]; exact h, SameKind.refl o, fun v _ => hβ i v hi⟩

theorem alloc_old {w : World} {o : Obj} {b : Nat} (h : b < w.heap.size) : (w.alloc o).heap[b]? = w.heap[b]? := by
  unfold World.alloc; simp [Array.getElem?_push, Nat.ne_of_lt h]

theorem alloc_new {w : World} {o : Obj} : (w.alloc o).heap[w.heap.size]? = some o := by
  unfold World.alloc; simp

/-- A new object of the call's own. -/
theorem new_obj {w0 : World} {E : Env} {tmps : Tm} {L : List Ob} {t : List Value} (hs : Sim w0 E ⟨tmps, L⟩ t) (o : Ob) (obj : Obj) (w1 : World) (hh : w1.heap = E.w.heap) (hos : w1.os = E.w.os) (htape : w1.tape = E.w.tape) (hout : w1.output = E.w.output)
    (hob : ∀ E' : Env, Mod E E' → E'.w.heap[E.w.heap.size]? = some obj → (∀ v, E'.β E.L.length v = some (E.w.heap.size, 0)) → (∀ q, ¬ E'.I E.w.heap.size q) → relOb E' E.L.length o) :
    ∃ E' : Env, E'.w = w1.alloc obj ∧ E'.L = L ++ [o] ∧ Sim w0 E' ⟨tmps, L ++ [o]⟩ t ∧ Mod E E' ∧ (∀ v, E'.β L.length v = some (E.w.heap.size, 0)) := by
  have hL : L = E.L := hs.L.symm
  subst hL
  let E' : Env := ⟨E.I, fun i v => if i = E.L.length then some (E.w.heap.size, 0) else E.β i v, E.L ++ [o], w1.alloc obj⟩
  have hβ : ∀ i v, i < E.L.length → E'.β i v = E.β i v := fun i v h => by simp only [E']; rw [if_neg (by omega)]
  have hw : ∀ b, b < E.w.heap.size → E'.w.heap[b]? = E.w.heap[b]? := fun b h => by
    show (w1.alloc obj).heap[b]? = _
    rw [alloc_old (by rw [hh]; exact h), hh]
  have hsz : E.w.heap.size ≤ E'.w.heap.size := by show _ ≤ (w1.alloc obj).heap.size; unfold World.alloc; simp [hh]
  have hb : ∀ v, E'.β E.L.length v = some (E.w.heap.size, 0) := fun v => by simp [E']
  have hnI : ∀ q, ¬ E'.I E.w.heap.size q := fun q h => by have := hs.Ilt _ _ h; omega
  have m : Mod E E' := mod_add hs [o] rfl hβ hw hsz (fun _ _ h => h) (fun _ _ h => .inl h) (fun i o' b p hi h1 h => by
    have h2 := (List.getElem?_eq_some_iff.1 h1).1
    have h3 : i = E.L.length := by simp [E'] at h2; omega
    rw [h3, hb] at h; cases h; exact Nat.le_refl _) hos htape hout
  have hx : E'.w.heap[E.w.heap.size]? = some obj := by show (w1.alloc obj).heap[_]? = _; rw [← hh]; exact alloc_new
  obtain ⟨h1, h2⟩ := sim_add (E' := E') hs [o] rfl hβ hw hsz (fun _ _ h => h) (fun _ _ h => .inl h) (fun b q h => by have := hs.Ilt b q h; omega) (by simp)
    (fun o' ho => by
      cases ho
      refine ⟨hob E' m hx hb hnI, fun b p h => ?_⟩
      rw [hb] at h; cases h; exact Nat.le_refl _) hos htape hout
  exact ⟨E', rfl, rfl, h1, h2, hb⟩

end Go.Lx
