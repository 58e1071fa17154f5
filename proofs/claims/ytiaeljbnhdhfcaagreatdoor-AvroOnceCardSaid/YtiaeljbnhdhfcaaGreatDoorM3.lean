/- Data operations do what the evaluator has. -/
import Derived.Test.YtiaeljbnhdhfcaaGreatDoorM2
namespace Go.Lx
open Go.RowKit

theorem relAll_length {E : Env} : ∀ {hs : List HV} {vs : List Value}, relAll E hs vs → vs.length = hs.length
  | [], vs, h => by simp only [relAll] at h; simp [h]
  | f :: fs, vs, h => by
    simp only [relAll] at h
    obtain ⟨a, b, rfl, _, h3⟩ := h
    simp [relAll_length h3]

theorem relAll_get {E : Env} : ∀ {hs : List HV} {vs : List Value}, relAll E hs vs → ∀ (i : Nat) (h : HV), hs[i]? = some h → ∃ v, vs[i]? = some v ∧ relHV E h v
  | [], vs, _, i, x, hx => by simp at hx
  | f :: fs, vs, h, i, x, hx => by
    simp only [relAll] at h
    obtain ⟨a, b, rfl, h2, h3⟩ := h
    cases i with
    | zero => simp at hx; subst hx; exact ⟨a, by simp, h2⟩
    | succ i => obtain ⟨v, hv, hr⟩ := relAll_get h3 i x (by simpa using hx); exact ⟨v, by simpa using hv, hr⟩

theorem relAll_append {E : Env} : ∀ {as bs : List HV} {vs : List Value}, relAll E (as ++ bs) vs ↔ ∃ x y, vs = x ++ y ∧ relAll E as x ∧ relAll E bs y
  | [], bs, vs => by
    simp only [List.nil_append, relAll]
    exact ⟨fun h => ⟨[], vs, rfl, rfl, h⟩, fun ⟨x, y, h, hx, hy⟩ => by subst hx; simp at h; subst h; exact hy⟩
  | a :: as, bs, vs => by
    simp only [List.cons_append, relAll]
    constructor
    · rintro ⟨v, r, rfl, h2, h3⟩
      obtain ⟨x, y, rfl, hx, hy⟩ := relAll_append.1 h3
      exact ⟨v :: x, y, rfl, ⟨v, x, rfl, h2, hx⟩, hy⟩
    · rintro ⟨x, y, rfl, ⟨v, r, rfl, h2, h3⟩, hy⟩
      exact ⟨v, r ++ y, rfl, h2, relAll_append.2 ⟨r, y, rfl, h3, hy⟩⟩

theorem relHV_v {E : Env} {x y : Value} : relHV E (.v x) y ↔ y = x := Iff.rfl

theorem relHV_junk {E : Env} {y : Value} : relHV E .junk y := trivial

/-- An operand reads as the abstract one. -/
theorem opnd_ok {E : Env} {tmps : Tm} {t : List Value} {d : List Deferred} (h : relT E tmps t) (x : Operand) : relHV E (opnd tmps x) (Act.eval ⟨t.toArray, d⟩ x) := by
  cases x with
  | tmp i =>
    simp only [opnd, Act.eval]
    have := h.get i
    simpa [List.getD_eq_getElem?_getD, Array.getD_eq_getD_getElem?] using this
  | const v => exact rfl
  | global g => exact rfl
  | func f => exact rfl

theorem opnds_ok {E : Env} {tmps : Tm} {t : List Value} {d : List Deferred} (h : relT E tmps t) : ∀ xs : List Operand, relAll E (xs.map (opnd tmps)) (xs.map (Act.eval ⟨t.toArray, d⟩))
  | [] => rfl
  | x :: xs => ⟨_, _, rfl, opnd_ok h x, opnds_ok h xs⟩

theorem fe_ok {E : Env} {g : Bool} {h : HV} {y : Value} (hg : g = true) (hv : (fe g h).1 = true) (hr : relHV E h y) : relHV E (fe g h).2 y := by
  subst hg
  unfold fe at hv ⊢
  split at hv
  · rename_i g' h'
    simp at hv
    exact hr.1 hv
  · exact hr

theorem feAll_ok {E : Env} {g : Bool} (hg : g = true) : ∀ {hs : List HV} {vs : List Value}, (feAll g hs).1 = true → relAll E hs vs → relAll E (feAll g hs).2 vs
  | [], vs, _, h => h
  | f :: fs, vs, hv, h => by
    simp only [feAll, Bool.and_eq_true] at hv ⊢
    simp only [relAll] at h ⊢
    obtain ⟨a, b, rfl, h2, h3⟩ := h
    exact ⟨a, b, rfl, fe_ok hg hv.1 h2, feAll_ok hg hv.2 h3⟩

/-! Data -/

theorem relF_ofD {E : Env} (s : D) (a : List Value) : relF E (ofD s) a ↔ relDCs E.I E.w (s.1.enc s.2) a := by
  obtain ⟨c, x⟩ := s
  cases c <;> simp only [ofD, relF, Cd.enc, scB, scS, relDCs_sc, Value.cells]

theorem relHV_ofD {E : Env} {c : Cd} {x : c.den} (hc : c.isAgg = false) (y : Value) : relHV E (ofD ⟨c, x⟩) y ↔ relDCs E.I E.w (c.enc x) [y] := by
  cases c <;> first | (cases hc; done) | simp [ofD, relHV, top, Cd.enc, scB, scS, relDCs_sc, relF, Cd.isAgg]

theorem relHV_ofD_agg {E : Env} {c : Cd} {x : c.den} (hc : c.isAgg = true) (y : Value) : relHV E (ofD ⟨c, x⟩) y ↔ ∃ vs : List Value, y = .agg vs.toArray ∧ relDCs E.I E.w (c.enc x) vs := by
  cases c <;> first | (cases hc; done) | simp [ofD, relHV, top, relF, Cd.isAgg]

theorem relSt_ofD {E : Env} : ∀ (l : List D) (a : List Value), relSt E (l.map ofD) a ↔ relDCs E.I E.w (l.flatMap fun s => s.1.enc s.2) a
  | [], a => by simp [relSt, relDCs]
  | s :: l, a => by
    simp only [List.map_cons, relSt, List.flatMap_cons, relDCs_append, relF_ofD, relSt_ofD l]

mutual
theorem valD_ok {I : Nat → Nat → Prop} {w : World} : ∀ (n : Nat) (c : Cd) (vs : List Value) (x : c.den) (r : List Value), valD n c vs = some (x, r) → ∃ a, vs = a ++ r ∧ relDCs I w (c.enc x) a
  | 0, c, vs, x, r, h => by simp [valD] at h
  | n + 1, c, vs, x, r, h => by
    unfold valD at h
    split at h
    · split at h
      · rename_i he; subst he; simp only [Option.some.injEq, Prod.mk.injEq] at h; obtain ⟨rfl, rfl⟩ := h
        exact ⟨_, rfl, relDCs_sc.2 rfl⟩
      · cases h
    · simp only [Option.some.injEq, Prod.mk.injEq] at h; obtain ⟨rfl, rfl⟩ := h
      exact ⟨_, rfl, relDCs_sc.2 rfl⟩
    · simp only [Option.some.injEq, Prod.mk.injEq] at h; obtain ⟨rfl, rfl⟩ := h
      exact ⟨_, rfl, relDCs_sc.2 rfl⟩
    · simp only [Option.some.injEq, Prod.mk.injEq] at h; obtain ⟨rfl, rfl⟩ := h
      refine ⟨[_], rfl, ?_⟩
      simp [Cd.enc, relDCs, relDC]
    · split at h
      · rename_i l r' hgo
        split at h
        · rename_i x' hp
          simp only [Option.some.injEq, Prod.mk.injEq] at h; obtain ⟨rfl, rfl⟩ := h
          obtain ⟨a, rfl, ha⟩ := valD_go_ok (I := I) (w := w) n c.fcodes vs l r' hgo
          obtain ⟨hf, hagg⟩ := Cd.pack_flds hp
          exact ⟨a, rfl, by rw [Cd.enc_flds hagg, hf]; exact ha⟩
        · cases h
      · cases h
theorem valD_go_ok {I : Nat → Nat → Prop} {w : World} : ∀ (n : Nat) (cs : List Cd) (vs : List Value) (l : List D) (r : List Value), valD.go n cs vs = some (l, r) →
    ∃ a, vs = a ++ r ∧ relDCs I w (l.flatMap fun s => s.1.enc s.2) a
  | n, [], vs, l, r, h => by
    simp only [valD.go, valGo, Option.some.injEq, Prod.mk.injEq] at h; obtain ⟨rfl, rfl⟩ := h
    exact ⟨[], rfl, rfl⟩
  | n, c :: cs, vs, l, r, h => by
    simp only [valD.go, valGo] at h
    split at h
    · rename_i x r1 h1
      split at h
      · rename_i l' r2 h2
        simp only [Option.some.injEq, Prod.mk.injEq] at h; obtain ⟨rfl, rfl⟩ := h
        obtain ⟨a, rfl, ha⟩ := valD_ok (I := I) (w := w) n c vs x r1 h1
        obtain ⟨b, rfl, hb⟩ := valD_go_ok (I := I) (w := w) n cs r1 l' r2 h2
        refine ⟨a ++ b, by simp, ?_⟩
        simp only [List.flatMap_cons, relDCs_append]
        exact ⟨a, b, rfl, ha, hb⟩
      · cases h
    · cases h
end

theorem toD_d (c c' : Cd) (x : c'.den) : toD c (.d c' x) = if h : c' = c then some (h ▸ x) else none := by cases c <;> rfl
theorem toD_st (c : Cd) (fs : List HV) : toD c (.st fs) = match toDs c.fcodes fs with | some l => c.pack l | none => none := by cases c <;> rfl
theorem toD_agg (c : Cd) (vs : Array Value) : toD c (.v (.agg vs)) = match valD 6 c vs.toList with | some (x, []) => some x | _ => none := by cases c <;> rfl

mutual
/-- What is told as data is that data. -/
theorem toD_ok {E : Env} : ∀ (f : HV) (c : Cd) (x : c.den) (a : List Value), toD c f = some x → relF E f a → relDCs E.I E.w (c.enc x) a
  | .d c' x', c, x, a, h, hr => by
    rw [toD_d] at h
    split at h
    · rename_i hc; subst hc; simp only [Option.some.injEq] at h; subst h; exact hr
    · cases h
  | .st fs, c, x, a, h, hr => by
    rw [toD_st] at h
    split at h
    · rename_i l hl
      obtain ⟨hf, hagg⟩ := Cd.pack_flds h
      rw [Cd.enc_flds hagg, hf]
      exact toDs_ok fs c.fcodes l a hl (by simpa only [relF] using hr)
    · cases h
  | .v y, c, x, a, h, hr => by
    simp only [relF] at hr; subst hr
    cases y with
    | agg vs =>
      rw [toD_agg] at h
      split at h
      · rename_i x' hv
        simp only [Option.some.injEq] at h; subst h
        obtain ⟨a, ha, hr⟩ := valD_ok (I := E.I) (w := E.w) _ _ _ _ _ hv
        simp at ha; subst ha; exact hr
      · cases h
    | int k n =>
      cases c <;> simp only [toD] at h <;> first | (cases h; done) | skip
      split at h
      · rename_i he; subst he; simp only [Option.some.injEq] at h; subst h; exact relDCs_sc.2 rfl
      · cases h
    | bool b => cases c <;> simp only [toD] at h <;> first | (cases h; done) | (simp only [Option.some.injEq] at h; subst h; exact relDCs_sc.2 rfl)
    | string b => cases c <;> simp only [toD] at h <;> first | (cases h; done) | (simp only [Option.some.injEq] at h; subst h; exact relDCs_sc.2 rfl)
    | slice q l k =>
      cases c <;> first | (simp only [toD] at h; cases h; done) | skip
      cases q with
      | some q => cases l <;> cases k <;> simp only [toD] at h <;> cases h
      | none =>
        cases l with
        | succ l => cases k <;> simp only [toD] at h <;> cases h
        | zero =>
          cases k with
          | succ k => simp only [toD] at h; cases h
          | zero =>
            simp only [toD, Option.some.injEq] at h; subst h
            simp [Cd.enc, relDCs, relDC, Value.cells]
    | _ => cases c <;> simp only [toD] at h <;> cases h
  | .tup fs, c, x, a, h, hr => by cases c <;> simp only [toD] at h <;> cases h
  | .ptr .., c, x, a, h, hr => by cases c <;> simp only [toD] at h <;> cases h
  | .dp .., c, x, a, h, hr => by cases c <;> simp only [toD] at h <;> cases h
  | .rp .., c, x, a, h, hr => by cases c <;> simp only [toD] at h <;> cases h
  | .own .., c, x, a, h, hr => by cases c <;> simp only [toD] at h <;> cases h
  | .zc, c, x, a, h, hr => by cases c <;> simp only [toD] at h <;> cases h
  | .map _, c, x, a, h, hr => by cases c <;> simp only [toD] at h <;> cases h
  | .it _, c, x, a, h, hr => by cases c <;> simp only [toD] at h <;> cases h
  | .dm .., c, x, a, h, hr => by cases c <;> simp only [toD] at h <;> cases h
  | .fn .., c, x, a, h, hr => by cases c <;> simp only [toD] at h <;> cases h
  | .iface .., c, x, a, h, hr => by cases c <;> simp only [toD] at h <;> cases h
  | .opt .., c, x, a, h, hr => by cases c <;> simp only [toD] at h <;> cases h
  | .junk, c, x, a, h, hr => by cases c <;> simp only [toD] at h <;> cases h
theorem toDs_ok {E : Env} : ∀ (fs : List HV) (cs : List Cd) (l : List D) (a : List Value), toDs cs fs = some l → relSt E fs a → relDCs E.I E.w (l.flatMap fun s => s.1.enc s.2) a
  | [], cs, l, a, h, hr => by
    cases cs with
    | nil => simp only [toDs, Option.some.injEq] at h; subst h; exact hr
    | cons c cs => simp [toDs] at h
  | f :: fs, cs, l, a, h, hr => by
    cases cs with
    | nil => simp [toDs] at h
    | cons c cs =>
      simp only [toDs] at h
      split at h
      · rename_i x hx
        split at h
        · rename_i l' hl
          simp only [Option.some.injEq] at h; subst h
          simp only [relSt] at hr
          obtain ⟨p, q, rfl, hp, hq⟩ := hr
          simp only [List.flatMap_cons, relDCs_append]
          exact ⟨p, q, rfl, toD_ok f c x p hx hp, toDs_ok fs cs l' q hl hq⟩
        · cases h
      · cases h
end

end Go.Lx

namespace Go.Lx
open Go.RowKit

mutual
theorem relF_length {E : Env} : ∀ (f : HV) (a : List Value), relF E f a → a.length = f.width
  | .v x, a, h => by simp only [relF] at h; subst h; simp [HV.width]
  | .d c x, a, h => by simp only [relF] at h; rw [relDCs_length h, Cd.enc_length]; rfl
  | .st gs, a, h => by simp only [relF] at h; rw [relSt_length gs a h]; rfl
  | .tup gs, a, h => by simp only [relF] at h; rw [relAll_length h]; rfl
  | .ptr .., a, h => by simp only [relF] at h; obtain ⟨_, _, _, _, _, _, rfl⟩ := h; rfl
  | .dp .., a, h => by simp only [relF] at h; obtain ⟨_, _, _, rfl, _⟩ := h; rfl
  | .rp .., a, h => by simp only [relF] at h; obtain ⟨_, _, rfl, _⟩ := h; rfl
  | .own .., a, h => by simp only [relF] at h; obtain ⟨_, _, _, _, rfl, _⟩ := h; rfl
  | .zc, a, h => by simp only [relF] at h; obtain ⟨_, _, rfl⟩ := h; rfl
  | .map _, a, h => by simp only [relF] at h; obtain ⟨_, _, _, _, _, _, rfl⟩ := h; rfl
  | .it _, a, h => by simp only [relF] at h; obtain ⟨_, _, _, _, _, _, rfl⟩ := h; rfl
  | .dm .., a, h => by simp only [relF] at h; obtain ⟨_, _, _, rfl, _⟩ := h; rfl
  | .fn .., a, h => by simp only [relF] at h; obtain ⟨_, _, rfl, _⟩ := h; rfl
  | .iface .., a, h => by simp only [relF] at h; obtain ⟨_, rfl, _⟩ := h; rfl
  | .opt _ g, a, h => by simp only [relF] at h; rw [relF_length g a h]; rfl
  | .junk, a, h => by simp only [relF] at h; obtain ⟨_, rfl⟩ := h; rfl
theorem relSt_length {E : Env} : ∀ (fs : List HV) (a : List Value), relSt E fs a → a.length = widths fs
  | [], a, h => by simp only [relSt] at h; subst h; rfl
  | f :: fs, vs, h => by
    simp only [relSt] at h
    obtain ⟨a, b, rfl, h2, h3⟩ := h
    simp only [List.length_append, widths, relF_length f a h2, relSt_length fs b h3]
end

mutual
theorem getAt_ok {E : Env} : ∀ (n : Nat) (h : HV) (off : Nat) (agg : Bool) (sz : Nat) (g : HV) (a : List Value), getAt n h off agg sz = some g → relF E h a →
    ∃ p b q, a = p ++ b ++ q ∧ p.length = off ∧ b.length = sz ∧ relF E g b ∧ g.aggr = agg
  | 0, h, off, agg, sz, g, a, hg, _ => by simp [getAt] at hg
  | n + 1, h, off, agg, sz, g, a, hg, hr => by
    unfold getAt at hg
    split at hg
    · rename_i hc
      obtain ⟨rfl, hw, ha⟩ := hc
      simp only [Option.some.injEq] at hg; subst hg
      exact ⟨[], a, [], by simp, rfl, by rw [relF_length _ _ hr]; exact hw, hr, ha⟩
    · split at hg
      · exact getAt_go_ok n _ off agg sz g a hg (by simpa only [relF] using hr)
      · rename_i c x
        split at hg
        · rename_i hc
          refine getAt_go_ok n _ off agg sz g a hg ?_
          simp only [relF] at hr
          rw [relSt_ofD, ← Cd.enc_flds hc]; exact hr
        · cases hg
      · cases hg
theorem getAt_go_ok {E : Env} : ∀ (n : Nat) (fs : List HV) (off : Nat) (agg : Bool) (sz : Nat) (g : HV) (a : List Value), getAt.go n fs off agg sz = some g → relSt E fs a →
    ∃ p b q, a = p ++ b ++ q ∧ p.length = off ∧ b.length = sz ∧ relF E g b ∧ g.aggr = agg
  | n, [], off, agg, sz, g, a, hg, _ => by simp [getAt.go, getGo] at hg
  | n, f :: fs, off, agg, sz, g, a, hg, hr => by
    simp only [relSt] at hr
    obtain ⟨x, y, rfl, hx, hy⟩ := hr
    simp only [getAt.go, getGo] at hg
    split at hg
    · obtain ⟨p, b, q, rfl, h1, h2, h3, h4⟩ := getAt_ok n f off agg sz g x hg hx
      exact ⟨p, b, q ++ y, by simp, h1, h2, h3, h4⟩
    · rename_i hlt
      obtain ⟨p, b, q, rfl, h1, h2, h3, h4⟩ := getAt_go_ok n fs (off - f.width) agg sz g y hg hy
      exact ⟨x ++ p, b, q, by simp, by simp [relF_length f x hx, h1]; omega, h2, h3, h4⟩
end

mutual
theorem setAt_ok {E : Env} : ∀ (n : Nat) (h : HV) (off : Nat) (agg : Bool) (sz : Nat) (x h' : HV) (a : List Value), setAt n h off agg sz x = some h' → relF E h a →
    ∃ p b q, a = p ++ b ++ q ∧ p.length = off ∧ b.length = sz ∧
      ∀ (E' : Env) b', (∀ f c, relF E f c → relF E' f c) → relF E' x b' → relF E' h' (p ++ b' ++ q)
  | 0, h, off, agg, sz, x, h', a, hg, _ => by simp [setAt] at hg
  | n + 1, h, off, agg, sz, x, h', a, hg, hr => by
    unfold setAt at hg
    split at hg
    · rename_i hc
      obtain ⟨rfl, hw, ha⟩ := hc
      simp only [Option.some.injEq] at hg; subst hg
      exact ⟨[], a, [], by simp, rfl, by rw [relF_length _ _ hr]; exact hw, fun E' b' _ hb => by simpa using hb⟩
    · split at hg
      · rw [Option.map_eq_some_iff] at hg
        obtain ⟨l, hl, rfl⟩ := hg
        obtain ⟨p, b, q, e, h1, h2, h3⟩ := setAt_go_ok n _ off agg sz x l a hl (by simpa only [relF] using hr)
        exact ⟨p, b, q, e, h1, h2, fun E' b' k hb => by simp only [relF]; exact h3 E' b' k hb⟩
      · rename_i c y
        split at hg
        · rename_i hc
          rw [Option.map_eq_some_iff] at hg
          obtain ⟨l, hl, rfl⟩ := hg
          simp only [relF] at hr
          obtain ⟨p, b, q, e, h1, h2, h3⟩ := setAt_go_ok n _ off agg sz x l a hl (by rw [relSt_ofD, ← Cd.enc_flds hc]; exact hr)
          exact ⟨p, b, q, e, h1, h2, fun E' b' k hb => by simp only [relF]; exact h3 E' b' k hb⟩
        · cases hg
      · cases hg
theorem setAt_go_ok {E : Env} : ∀ (n : Nat) (fs : List HV) (off : Nat) (agg : Bool) (sz : Nat) (x : HV) (l : List HV) (a : List Value), setAt.go n fs off agg sz x = some l → relSt E fs a →
    ∃ p b q, a = p ++ b ++ q ∧ p.length = off ∧ b.length = sz ∧
      ∀ (E' : Env) b', (∀ f c, relF E f c → relF E' f c) → relF E' x b' → relSt E' l (p ++ b' ++ q)
  | n, [], off, agg, sz, x, l, a, hg, _ => by simp [setAt.go, setGo] at hg
  | n, f :: fs, off, agg, sz, x, l, a, hg, hr => by
    simp only [relSt] at hr
    obtain ⟨u, v, rfl, hu, hv⟩ := hr
    simp only [setAt.go, setGo] at hg
    split at hg
    · rw [Option.map_eq_some_iff] at hg
      obtain ⟨f', hf, rfl⟩ := hg
      obtain ⟨p, b, q, rfl, h1, h2, h3⟩ := setAt_ok n f off agg sz x f' u hf hu
      refine ⟨p, b, q ++ v, by simp, h1, h2, fun E' b' k hb => ?_⟩
      simp only [relSt]
      exact ⟨p ++ b' ++ q, v, by simp, h3 E' b' k hb, relSt_of k fs v hv⟩
    · rename_i hlt
      rw [Option.map_eq_some_iff] at hg
      obtain ⟨l', hl, rfl⟩ := hg
      obtain ⟨p, b, q, rfl, h1, h2, h3⟩ := setAt_go_ok n fs (off - f.width) agg sz x l' v hl hv
      refine ⟨u ++ p, b, q, by simp, by simp [relF_length f u hu, h1]; omega, h2, fun E' b' k hb => ?_⟩
      simp only [relSt]
      exact ⟨u, p ++ b' ++ q, by simp, k _ _ hu, h3 E' b' k hb⟩
  where
  relSt_of {E E' : Env} (k : ∀ f c, relF E f c → relF E' f c) : ∀ (fs : List HV) (v : List Value), relSt E fs v → relSt E' fs v
  | [], v, h => h
  | f :: fs, v, h => by
    simp only [relSt] at h ⊢
    obtain ⟨a, b, e, h2, h3⟩ := h
    exact ⟨a, b, e, k _ _ h2, relSt_of k fs b h3⟩
end

/-! One cell each -/

theorem one_relDC {I : Nat → Nat → Prop} {w : World} {c : DC} {y : Value} (hc : ∀ x, c = .sc x → x.oneCell' = true) (h : relDC I w c y) : y.oneCell' = true := by
  cases c with
  | sc x => simp only [relDC] at h; subst h; exact hc _ rfl
  | sl sz n cs =>
    simp only [relDC] at h
    rcases h with ⟨_, _, rfl⟩ | ⟨_, _, _, _, rfl, _⟩ <;> rfl

theorem one_relDCs {I : Nat → Nat → Prop} {w : World} : ∀ {cs : List DC} {vs : List Value}, (∀ c x, c ∈ cs → c = .sc x → x.oneCell' = true) → relDCs I w cs vs → ∀ v ∈ vs, v.oneCell' = true
  | [], vs, _, h, v, hv => by simp only [relDCs] at h; subst h; simp at hv
  | c :: cs, vs, hc, h, v, hv => by
    simp only [relDCs] at h
    obtain ⟨a, r, rfl, h2, h3⟩ := h
    rcases List.mem_cons.1 hv with rfl | hv
    · exact one_relDC (fun x e => hc c x (by simp) e) h2
    · exact one_relDCs (fun c x hm e => hc c x (by simp [hm]) e) h3 v hv

theorem Cd.enc_one (c : Cd) (x : c.den) : ∀ d y, d ∈ c.enc x → d = .sc y → y.oneCell' = true := by
  intro d y hd e
  subst e
  cases c with
  | json => obtain ⟨k, b, d, t, l, n⟩ := x; simp [Cd.enc, encJ, scI, scB, scS, encStrs] at hd; rcases hd with rfl | rfl | rfl | rfl | rfl | rfl <;> rfl
  | fld =>
    obtain ⟨n, t, h, ⟨k, b, d, tx, l, ns⟩⟩ := x
    simp [Cd.enc, encFld, encJ, scI, scB, scS, encStrs] at hd
    rcases hd with rfl | rfl | rfl | rfl | rfl | rfl | rfl | rfl | rfl <;> rfl
  | int k => simp [Cd.enc] at hd; subst hd; rfl
  | bool => simp [Cd.enc, scB] at hd; subst hd; rfl
  | str => simp [Cd.enc, scS] at hd; subst hd; rfl
  | dec => simp [Cd.enc, encDec, scI, scB, scS] at hd; rcases hd with rfl | rfl | rfl <;> rfl
  | nd => simp [Cd.enc, encNd, scI, scB, scS, encStrs, encInts] at hd; rcases hd with rfl | rfl | rfl | rfl | rfl <;> rfl
  | av => simp [Cd.enc, encAv, scI] at hd; subst hd; rfl
  | im => simp [Cd.enc, encIm, scS] at hd; rcases hd with rfl | rfl <;> rfl
  | list c => simp [Cd.enc] at hd

mutual
theorem relF_one {E : Env} : ∀ (f : HV) (a : List Value), boxable f = true → relF E f a → ∀ v ∈ a, v.oneCell' = true
  | .v x, a, hb, h, v, hv => by
    simp only [relF] at h; subst h
    cases x <;> first | (simp [boxable] at hb; done) | (simp [Value.cells] at hv; subst hv; rfl)
  | .d c x, a, hb, h, v, hv => by simp only [relF] at h; exact one_relDCs (Cd.enc_one c x) h v hv
  | .st gs, a, hb, h, v, hv => by simp only [relF] at h; exact relSt_one gs a (by simpa only [boxable] using hb) h v hv
  | .tup gs, a, hb, _, _, _ => by simp [boxable] at hb
  | .ptr .., a, _, h, v, hv => by simp only [relF] at h; obtain ⟨_, _, _, _, _, _, rfl⟩ := h; simp at hv; subst hv; rfl
  | .dp .., a, _, h, v, hv => by simp only [relF] at h; obtain ⟨_, _, _, rfl, _⟩ := h; simp at hv; subst hv; rfl
  | .rp .., a, _, h, v, hv => by simp only [relF] at h; obtain ⟨_, _, rfl, _⟩ := h; simp at hv; subst hv; rfl
  | .own .., a, _, h, v, hv => by simp only [relF] at h; obtain ⟨_, _, _, _, rfl, _⟩ := h; simp at hv; subst hv; rfl
  | .zc, a, _, h, v, hv => by simp only [relF] at h; obtain ⟨_, _, rfl⟩ := h; simp at hv; subst hv; rfl
  | .map _, a, _, h, v, hv => by simp only [relF] at h; obtain ⟨_, _, _, _, _, _, rfl⟩ := h; simp at hv; subst hv; rfl
  | .it _, a, _, h, v, hv => by simp only [relF] at h; obtain ⟨_, _, _, _, _, _, rfl⟩ := h; simp at hv; subst hv; rfl
  | .dm .., a, _, h, v, hv => by simp only [relF] at h; obtain ⟨_, _, _, rfl, _⟩ := h; simp at hv; subst hv; rfl
  | .fn .., a, _, h, v, hv => by simp only [relF] at h; obtain ⟨_, _, rfl, _⟩ := h; simp at hv; subst hv; rfl
  | .iface .., a, _, h, v, hv => by simp only [relF] at h; obtain ⟨_, rfl, _⟩ := h; simp at hv; subst hv; rfl
  | .opt .., _, hb, _, _, _ => by simp [boxable] at hb
  | .junk, _, hb, _, _, _ => by simp [boxable] at hb
theorem relSt_one {E : Env} : ∀ (fs : List HV) (a : List Value), boxables fs = true → relSt E fs a → ∀ v ∈ a, v.oneCell' = true
  | [], a, _, h, v, hv => by simp only [relSt] at h; subst h; simp at hv
  | f :: fs, vs, hb, h, v, hv => by
    simp only [relSt] at h
    obtain ⟨a, b, rfl, h2, h3⟩ := h
    simp only [boxables, Bool.and_eq_true] at hb
    rcases List.mem_append.1 hv with hv | hv
    · exact relF_one f a hb.1 h2 v hv
    · exact relSt_one fs b hb.2 h3 v hv
end

/-- A boxable value is what its cells are. -/
theorem relHV_cells {E : Env} {f : HV} {y : Value} (hb : boxable f = true) (h : relHV E f y) : relF E f y.cells.toList := by
  cases f <;> simp only [relHV, top] at h <;> first | (simp [boxable] at hb; done) | skip
  case v x => subst h; simp [relF]
  case d c x =>
    split at h
    · obtain ⟨vs, rfl, hr⟩ := h; simpa [Value.cells, relF] using hr
    · rename_i hc
      have h1 : y.oneCell' = true := relF_one (E := E) (.d c x) [y] rfl h y (by simp)
      have : y.cells = #[y] := by cases y <;> first | rfl | cases h1
      rw [this]; exact h
  case st fs => obtain ⟨vs, rfl, hr⟩ := h; simpa [Value.cells, relF] using hr
  all_goals
    have h1 : y.oneCell' = true := relF_one (E := E) _ [y] (by first | exact hb | rfl) h y (by simp)
    have : y.cells = #[y] := by cases y <;> first | rfl | cases h1
    rw [this]; exact h

/-- What lies in cells, as a value of a tmp. -/
theorem relHV_of_agg {E : Env} {f : HV} {vs : List Value} (ha : f.aggr = true) (h : relF E f vs) : relHV E f (.agg vs.toArray) := by
  cases f <;> simp only [HV.aggr] at ha <;> first | (cases ha; done) | skip
  case v x =>
    cases x <;> simp at ha
    simp only [relF, Value.cells] at h; subst h; simp [relHV, top]
  case d c x => simp only [relHV, top, ha, if_true]; exact ⟨vs, rfl, h⟩
  case st fs => exact ⟨vs, rfl, h⟩

theorem relHV_of_one {E : Env} {f : HV} {v : Value} (ha : f.aggr = false) (hb : boxable f = true) (h : relF E f [v]) : relHV E f v := by
  cases f <;> first | (simp [boxable] at hb; done) | skip
  case v x =>
    simp only [relF] at h
    cases x <;> first | (simp [HV.aggr] at ha; done) | (simp [boxable] at hb; done) | (simp [Value.cells] at h; simp [relHV, top, h])
  case d c x => simp only [HV.aggr] at ha; simp only [relHV, top, ha]; exact h
  case st fs => simp [HV.aggr] at ha
  all_goals exact h

end Go.Lx

namespace Go.Lx
open Go.RowKit

theorem SameKind.rows {c : Cd} {v v' f f' : Nat} {xs xs' : List c.den} (h : v ≤ v') : SameKind (.row c v f xs) (.row c v' f' xs') :=
  ⟨h, (fun _ _ e => by cases e), (fun _ _ _ _ e => by cases e; exact ⟨_, _, _, rfl⟩), (fun e => by cases e), (fun e => by cases e)⟩
theorem SameKind.boxes {t : TypeId} {x x' : HV} : SameKind (.box t x) (.box t x') :=
  ⟨Nat.le_refl _, (fun _ _ e => by cases e; exact ⟨_, rfl⟩), (fun _ _ _ _ e => by cases e), (fun e => by cases e), (fun e => by cases e)⟩
theorem SameKind.maps {k v : Cd} {es es' : List (k.den × v.den)} : SameKind (.map k v es) (.map k v es') :=
  ⟨Nat.le_refl _, (fun _ _ e => by cases e), (fun _ _ _ _ e => by cases e), (fun _ => rfl), (fun e => by cases e)⟩
theorem SameKind.fmaps {es es' : List (ByteArray × HV)} : SameKind (.fmap es) (.fmap es') :=
  ⟨Nat.le_refl _, (fun _ _ e => by cases e), (fun _ _ _ _ e => by cases e), (fun _ => rfl), (fun e => by cases e)⟩
theorem SameKind.iters {s : ByteArray} {p p' : Nat} : SameKind (.iter s p) (.iter s p') :=
  ⟨Nat.le_refl _, (fun _ _ e => by cases e), (fun _ _ _ _ e => by cases e), (fun e => by cases e), (fun _ => rfl)⟩

theorem cell_of_block {w w' : World} {b : Nat} (h : w'.heap[b]? = w.heap[b]?) (o : Nat) : w'.cell? ⟨b, o, none⟩ = w.cell? ⟨b, o, none⟩ := by
  simp [World.cell?, h]

theorem shape_of_block {w w' : World} {b : Nat} (h : w'.heap[b]? = w.heap[b]?) : w'.shape? b = w.shape? b := by
  simp [World.shape?, h]

theorem cellsAt_of_block {w w' : World} {b o : Nat} {vs : List Value} (h : w'.heap[b]? = w.heap[b]?) (hc : cellsAt w b o vs) : cellsAt w' b o vs :=
  fun k v hk => by rw [cell_of_block h]; exact hc k v hk

/-- An object whose block has not turned. -/
theorem relOb_keep {E E' : Env} (m : Mod E E') {i : Nat} {o : Ob} (hv : E'.β i o.ver = E.β i o.ver) (hw : ∀ b p, E.β i o.ver = some (b, p) → E'.w.heap[b]? = E.w.heap[b]?)
    (hI : ∀ b p q, E.β i o.ver = some (b, p) → E'.I b q → E.I b q) (h : relOb E i o) : relOb E' i o := by
  cases o with
  | box t x =>
    obtain ⟨b, vs, h1, h2, h3, h4⟩ := h
    exact ⟨b, vs, hv.trans h1, (hw b 0 h1).trans h2, relF_mod m _ _ h3, fun q hq => h4 q (hI b 0 q h1 hq)⟩
  | row c ver fp xs =>
    simp only [relOb] at h ⊢
    simp only [Ob.ver] at hv hw hI
    refine ⟨h.1, ?_⟩
    have h2 := h.2
    rw [hv]
    split at h2
    · exact h2
    · rename_i b p hb
      obtain ⟨C, e, lo, hi, vs, k1, k2, k3, k4, k5, k6, k7⟩ := h2
      exact ⟨C, e, lo, hi, vs, (hw b p hb).trans k1, k2, relDCs_ext m.ext _ _ k3, cellsAt_of_block (hw b p hb) k4, k5, fun q hq => k6 q (hI b p q hb hq), k7⟩
  | map k v es =>
    obtain ⟨b, ents, clock, h1, h2, h3, h4⟩ := h
    exact ⟨b, ents, clock, hv.trans h1, (hw b 0 h1).trans h2, h3, fun q hq => h4 q (hI b 0 q h1 hq)⟩
  | fmap es =>
    obtain ⟨b, ents, clock, h1, h2, h3, h4, h5⟩ := h
    exact ⟨b, ents, clock, hv.trans h1, (hw b 0 h1).trans h2, fun q hq => h3 q (hI b 0 q h1 hq), h4, relAll_mod m _ _ h5⟩
  | iter s pos =>
    obtain ⟨b, h1, h2, h3⟩ := h
    exact ⟨b, hv.trans h1, (hw b 0 h1).trans h2, fun q hq => h3 q (hI b 0 q h1 hq)⟩
  | dead v => trivial

/-- One object is as it was, in its old block. -/
def Kept (E E' : Env) (i : Nat) (o : Ob) : Prop :=
  E.L[i]? = some o ∧ E'.β i o.ver = E.β i o.ver ∧ ∀ b p, E.β i o.ver = some (b, p) → E'.w.heap[b]? = E.w.heap[b]? ∧ ∀ q, E'.I b q → E.I b q

theorem sim_step {w0 : World} {E E' : Env} {st : St} {t : List Value} (hs : Sim w0 E st t) (m : Mod E E')
    (hob : ∀ i o, E'.L[i]? = some o → Kept E E' i o ∨ relOb E' i o)
    (hinj : ∀ i j o o' b p p', E'.L[i]? = some o → E'.L[j]? = some o' → o.isDead = false → o'.isDead = false → E'.β i o.ver = some (b, p) → E'.β j o'.ver = some (b, p') → i = j)
    (hI : ∀ b o, E'.I b o → b < E'.w.heap.size) : Sim w0 E' ⟨st.tmps, E'.L⟩ t where
  L := rfl
  tm := relT_mod m hs.tm
  ob := fun i o hi => by
    rcases hob i o hi with ⟨h1, h2, h3⟩ | h
    · exact relOb_keep m h2 (fun b p hb => (h3 b p hb).1) (fun b p q hb hq => (h3 b p hb).2 q hq) (hs.ob i o h1)
    · exact h
  inj := hinj
  old := old_of_mod m hs.below hs.old
  below := below_of_mod m hs.below hs.old
  Ilt := hI

theorem owned_lt {w0 : World} {E : Env} {st : St} {t : List Value} (hs : Sim w0 E st t) {i : Nat} {o : Ob} {b p : Nat} (hi : E.L[i]? = some o) (hd : o.isDead = false)
    (hb : E.β i o.ver = some (b, p)) : b < E.w.heap.size := by
  have h := hs.ob i o hi
  have lt : ∀ x, E.w.heap[b]? = some x → b < E.w.heap.size := fun x hx => (Array.getElem?_eq_some_iff.1 hx).1
  cases o with
  | box t x => obtain ⟨b', vs, h1, h2, _⟩ := h; simp only [Ob.ver] at hb; rw [h1] at hb; cases hb; exact lt _ h2
  | row c ver fp xs =>
    simp only [relOb] at h
    have h2 := h.2
    simp only [Ob.ver] at hb
    rw [hb] at h2
    obtain ⟨C, e, lo, hi, vs, k1, _⟩ := h2
    exact lt _ k1
  | map k v es => obtain ⟨b', ents, clock, h1, h2, _⟩ := h; simp only [Ob.ver] at hb; rw [h1] at hb; cases hb; exact lt _ h2
  | fmap es => obtain ⟨b', ents, clock, h1, h2, _⟩ := h; simp only [Ob.ver] at hb; rw [h1] at hb; cases hb; exact lt _ h2
  | iter s pos => obtain ⟨b', h1, h2, _⟩ := h; simp only [Ob.ver] at hb; rw [h1] at hb; cases hb; exact lt _ h2
  | dead v => simp [Ob.isDead] at hd

theorem ext_of_blocks {E : Env} {I' : Nat → Nat → Prop} {w' : World} (hw : ∀ b, b < E.w.heap.size → w'.heap[b]? = E.w.heap[b]?) (hI : ∀ b o, E.I b o → I' b o)
    (hlt : ∀ b o, E.I b o → b < E.w.heap.size) (hsz : E.w.heap.size ≤ w'.heap.size) : Ext E.I E.w I' w' where
  sub := hI
  cell := fun b o h => cell_of_block (hw b (hlt b o h)) o
  mp := fun b o es k h h2 => (hw b (hlt b o h)).trans h2
  size := hsz
  shape := fun b e n h => by
    have : b < E.w.heap.size := by
      rcases Nat.lt_or_ge b E.w.heap.size with h' | h'
      · exact h'
      · simp [World.shape?, Array.getElem?_eq_none h'] at h
    rw [shape_of_block (hw b this)]; exact h

/-- New memory: the objects stay, one more may come; what is new in I lies in new blocks. -/
theorem sim_add {w0 : World} {E E' : Env} {st : St} {t : List Value} (hs : Sim w0 E st t) (new : List Ob) (hL : E'.L = E.L ++ new)
    (hβ : ∀ i v, i < E.L.length → E'.β i v = E.β i v) (hw : ∀ b, b < E.w.heap.size → E'.w.heap[b]? = E.w.heap[b]?) (hsz : E.w.heap.size ≤ E'.w.heap.size)
    (hI : ∀ b o, E.I b o → E'.I b o) (hI' : ∀ b o, E'.I b o → E.I b o ∨ E.w.heap.size ≤ b) (hlt : ∀ b o, E'.I b o → b < E'.w.heap.size)
    (hone : new.length ≤ 1) (hnew : ∀ o, new = [o] → relOb E' E.L.length o ∧ ∀ b p, E'.β E.L.length o.ver = some (b, p) → E.w.heap.size ≤ b)
    (hos : E'.w.os = E.w.os) (htape : E'.w.tape = E.w.tape) (hout : E'.w.output = E.w.output) : Sim w0 E' ⟨st.tmps, E'.L⟩ t ∧ Mod E E' := by
  have hget : ∀ i o, E'.L[i]? = some o → (i < E.L.length ∧ E.L[i]? = some o) ∨ (i = E.L.length ∧ new = [o]) := by
    intro i o h
    rw [hL, List.getElem?_append] at h
    split at h
    · exact .inl ⟨‹_›, h⟩
    · rename_i hge
      cases new with
      | nil => simp at h
      | cons x xs =>
        cases xs with
        | nil =>
          have : i - E.L.length = 0 := by
            rcases Nat.eq_zero_or_pos (i - E.L.length) with h0 | h0
            · exact h0
            · obtain ⟨k, hk⟩ := Nat.exists_eq_succ_of_ne_zero (Nat.pos_iff_ne_zero.1 h0)
              rw [hk] at h; simp at h
          rw [this] at h; simp at h; subst h
          exact .inr ⟨by omega, rfl⟩
        | cons y ys => simp at hone
  have m : Mod E E' := by
    refine ⟨ext_of_blocks hw hI hs.Ilt hsz, fun b hb _ => hw b hb, ?_, fun b o h => ?_, fun i o h => ?_, hos, htape, hout⟩
    · rintro b ⟨i, o, p, h1, h2, h3⟩
      rcases hget i o h1 with ⟨hi, h⟩ | ⟨rfl, h⟩
      · exact .inl ⟨i, o, p, h, h2, by rw [← hβ i _ hi]; exact h3⟩
      · exact .inr ((hnew o h).2 b p h3)
    · rcases hI' b o h with h | h
      · exact .inl h
      · exact .inr (.inl h)
    · have hi : i < E.L.length := (List.getElem?_eq_some_iff.1 h).1
      exact ⟨o, by rw [hL, List.getElem?_append_left hi]; exact h, SameKind.refl o, fun v _ => hβ i v hi⟩
  refine ⟨sim_step hs m (fun i o h => ?_) (fun i j o o' b p p' h1 h2 d1 d2 b1 b2 => ?_) hlt, m⟩
  · rcases hget i o h with ⟨hi, h⟩ | ⟨rfl, k⟩
    · cases hd : o.isDead with
      | true => cases o <;> first | (simp [Ob.isDead] at hd; done) | exact .inr trivial
      | false =>
        refine .inl ⟨h, hβ i _ hi, fun b p hb => ?_⟩
        have := owned_lt hs h hd hb
        exact ⟨hw b this, fun q hq => (hI' b q hq).resolve_right (by omega)⟩
    · exact .inr (hnew o k).1
  · rcases hget i o h1 with ⟨hi, k1⟩ | ⟨rfl, k1⟩ <;> rcases hget j o' h2 with ⟨hj, k2⟩ | ⟨rfl, k2⟩
    · rw [hβ i _ hi] at b1; rw [hβ j _ hj] at b2
      exact hs.inj i j o o' b p p' k1 k2 d1 d2 b1 b2
    · rw [hβ i _ hi] at b1
      have := owned_lt hs k1 d1 b1
      have := (hnew o' k2).2 b p' b2
      omega
    · rw [hβ j _ hj] at b2
      have := owned_lt hs k2 d2 b2
      have := (hnew o k1).2 b p b1
      omega
    · rfl

/-- One object turns: its own block alone is written, or it moves to a new one. -/
theorem sim_set {w0 : World} {E E' : Env} {st : St} {t : List Value} (hs : Sim w0 E st t) (id : Nat) (o o' : Ob) (hid : E.L[id]? = some o) (hL : E'.L = E.L.set id o')
    (hk : SameKind o o') (hd : o.isDead = false) (hβ : ∀ i v, (i ≠ id ∨ v ≤ o.ver) → E'.β i v = E.β i v)
    (hw : ∀ b, b < E.w.heap.size → (∀ p, E.β id o.ver ≠ some (b, p)) → E'.w.heap[b]? = E.w.heap[b]?) (ext : Ext E.I E.w E'.I E'.w)
    (hI' : ∀ b q, E'.I b q → E.I b q ∨ E.w.heap.size ≤ b ∨ ∃ p, E.β id o.ver = some (b, p)) (hlt : ∀ b o, E'.I b o → b < E'.w.heap.size)
    (hnew : relOb E' id o') (hnb : ∀ b p, E'.β id o'.ver = some (b, p) → (∃ p', E.β id o.ver = some (b, p')) ∨ E.w.heap.size ≤ b)
    (hos : E'.w.os = E.w.os) (htape : E'.w.tape = E.w.tape) (hout : E'.w.output = E.w.output) : Sim w0 E' ⟨st.tmps, E'.L⟩ t ∧ Mod E E' := by
  have hlen : id < E.L.length := (List.getElem?_eq_some_iff.1 hid).1
  have hget : ∀ i x, E'.L[i]? = some x → (i ≠ id ∧ E.L[i]? = some x) ∨ (i = id ∧ x = o') := by
    intro i x h
    rw [hL] at h
    by_cases e : i = id
    · subst e; rw [List.getElem?_set_self hlen] at h; cases h; exact .inr ⟨rfl, rfl⟩
    · rw [List.getElem?_set_ne (Ne.symm e)] at h; exact .inl ⟨e, h⟩
  have m : Mod E E' := by
    refine ⟨ext, fun b hb ho => hw b hb (fun p hp => ho ⟨id, o, p, hid, hd, hp⟩), ?_, fun b q h => ?_, fun i x h => ?_, hos, htape, hout⟩
    · rintro b ⟨i, x, p, h1, h2, h3⟩
      rcases hget i x h1 with ⟨hi, h⟩ | ⟨rfl, rfl⟩
      · exact .inl ⟨i, x, p, h, h2, by rw [← hβ i _ (.inl hi)]; exact h3⟩
      · rcases hnb b p h3 with ⟨p', h⟩ | h
        · exact .inl ⟨i, o, p', hid, hd, h⟩
        · exact .inr h
    · rcases hI' b q h with h | h | ⟨p, h⟩
      · exact .inl h
      · exact .inr (.inl h)
      · exact .inr (.inr ⟨id, o, p, hid, hd, h⟩)
    · by_cases e : i = id
      · subst e
        rw [hid] at h; cases h
        exact ⟨o', by rw [hL, List.getElem?_set_self hlen], hk, fun v hv => hβ i v (.inr hv)⟩
      · exact ⟨x, by rw [hL, List.getElem?_set_ne (Ne.symm e)]; exact h, SameKind.refl x, fun v _ => hβ i v (.inl e)⟩
  have hne : ∀ i x b p p', i ≠ id → E.L[i]? = some x → x.isDead = false → E.β i x.ver = some (b, p) → E.β id o.ver ≠ some (b, p') :=
    fun i x b p p' e h1 h2 h3 h4 => e (hs.inj i id x o b p p' h1 hid h2 hd h3 h4)
  refine ⟨sim_step hs m (fun i x h => ?_) (fun i j x y b p p' h1 h2 d1 d2 b1 b2 => ?_) hlt, m⟩
  · rcases hget i x h with ⟨e, k⟩ | ⟨rfl, rfl⟩
    · cases hdx : x.isDead with
      | true => cases x <;> first | (simp [Ob.isDead] at hdx; done) | exact .inr trivial
      | false =>
        refine .inl ⟨k, hβ i _ (.inl e), fun b p hb => ?_⟩
        have h1 := owned_lt hs k hdx hb
        refine ⟨hw b h1 (fun p' => hne i x b p p' e k hdx hb), fun q hq => ?_⟩
        rcases hI' b q hq with h' | h' | ⟨p', h'⟩
        · exact h'
        · omega
        · exact absurd h' (hne i x b p p' e k hdx hb)
    · exact .inr hnew
  · rcases hget i x h1 with ⟨e, k1⟩ | ⟨rfl, rfl⟩ <;> rcases hget j y h2 with ⟨f, k2⟩ | ⟨rfl, rfl⟩
    · rw [hβ i _ (.inl e)] at b1; rw [hβ j _ (.inl f)] at b2
      exact hs.inj i j x y b p p' k1 k2 d1 d2 b1 b2
    · rw [hβ i _ (.inl e)] at b1
      rcases hnb b p' b2 with ⟨q, h⟩ | h
      · exact absurd h (hne i x b p q e k1 d1 b1)
      · have := owned_lt hs k1 d1 b1; omega
    · rw [hβ j _ (.inl f)] at b2
      rcases hnb b p b1 with ⟨q, h⟩ | h
      · exact absurd h (hne j y b p' q f k2 d2 b2)
      · have := owned_lt hs k2 d2 b2; omega
    · rfl

/-! Cells written one behind the other -/

def putCells (w : World) (b o : Nat) : List Value → World
  | [] => w
  | v :: vs => putCells (w.setCell ⟨b, o, none⟩ v) b (o + 1) vs

def overw (C : Array Value) (o : Nat) : List Value → Array Value
  | [] => C
  | v :: vs => overw (C.setIfInBounds o v) (o + 1) vs

theorem overw_size (C : Array Value) (o : Nat) (vs : List Value) : (overw C o vs).size = C.size := by
  induction vs generalizing C o with
  | nil => rfl
  | cons v vs ih => simp [overw, ih]

theorem overw_get (C : Array Value) (o : Nat) (vs : List Value) (h : o + vs.length ≤ C.size) (i : Nat) :
    (overw C o vs)[i]? = if o ≤ i ∧ i < o + vs.length then vs[i - o]? else C[i]? := by
  induction vs generalizing C o with
  | nil => simp only [overw, List.length_nil]; rw [if_neg (by omega)]
  | cons v vs ih =>
    simp only [List.length_cons] at h ⊢
    simp only [overw]
    rw [ih _ _ (by simp; omega)]
    by_cases h1 : o + 1 ≤ i ∧ i < o + 1 + vs.length
    · rw [if_pos h1, if_pos (by omega)]
      obtain ⟨k, hk⟩ : ∃ k, i - o = k + 1 := ⟨i - o - 1, by omega⟩
      rw [hk, List.getElem?_cons_succ]
      congr 1; omega
    · rw [if_neg h1]
      by_cases h2 : o = i
      · subst h2
        rw [if_pos (by omega), Array.getElem?_setIfInBounds_self_of_lt (by omega)]
        simp
      · rw [if_neg (by omega), Array.getElem?_setIfInBounds_ne h2]

theorem putCells_same (w : World) (b o : Nat) (vs : List Value) {C : Array Value} {t : TypeId} {fr : Nat × Nat} (h : w.heap[b]? = some (.cells C t fr)) :
    (putCells w b o vs).heap[b]? = some (.cells (overw C o vs) t fr) := by
  induction vs generalizing w o C with
  | nil => exact h
  | cons v vs ih =>
    simp only [putCells, overw]
    refine ih _ _ ?_
    simp [World.setCell, Array.getElem?_modify, h]

theorem putCells_other (w : World) (b o : Nat) (vs : List Value) {k : Nat} (h : k ≠ b) : (putCells w b o vs).heap[k]? = w.heap[k]? := by
  induction vs generalizing w o with
  | nil => rfl
  | cons v vs ih => simp only [putCells]; rw [ih]; simp [World.setCell, Array.getElem?_modify, Ne.symm h]

theorem putCells_size (w : World) (b o : Nat) (vs : List Value) : (putCells w b o vs).heap.size = w.heap.size := by
  induction vs generalizing w o with
  | nil => rfl
  | cons v vs ih => simp [putCells, ih]

theorem putCells_os (w : World) (b o : Nat) (vs : List Value) : (putCells w b o vs).os = w.os ∧ (putCells w b o vs).tape = w.tape ∧ (putCells w b o vs).output = w.output := by
  induction vs generalizing w o with
  | nil => exact ⟨rfl, rfl, rfl⟩
  | cons v vs ih => simp only [putCells]; exact ih _ _

theorem add_addr (b o i : Nat) : Addr.add ⟨b, o, none⟩ i = ⟨b, o + i, none⟩ := by
  unfold Addr.add; split
  · rename_i h; subst h; rfl
  · rfl

theorem run_storeCells {P : Program} (w : World) (b o : Nat) (vs : List Value) (i : Nat) {C : Array Value} {t : TypeId} {lo hi : Nat} (h : w.heap[b]? = some (.cells C t (lo, hi)))
    (hr : o + i + vs.length ≤ C.size) (hf : ∀ k, k < C.size → ¬ (lo ≤ k ∧ k < hi)) (h1 : ∀ v ∈ vs, v.oneCell' = true) :
    (storeCells ⟨b, o, none⟩ vs i).run P w = .ok () (putCells w b (o + i) vs) := by
  induction vs generalizing w i C with
  | nil => simp [storeCells, putCells]
  | cons v vs ih =>
    simp only [List.length_cons] at hr
    have hc : w.cell? ⟨b, o + i, none⟩ = some C[o + i] := by simp [World.cell?, h]
    have hz : w.frozen? ⟨b, o + i, none⟩ = false := by
      have := hf (o + i) (by omega)
      simp only [World.frozen?, h]
      simp; omega
    simp only [storeCells, Sem.run_bind, add_addr, run_store P w _ v _ (h1 v (by simp)), hc, hz, Bool.false_eq_true, if_false, Result.andThen_ok, putCells]
    rw [ih (w := w.setCell ⟨b, o + i, none⟩ v) (i := i + 1) (C := C.setIfInBounds (o + i) v) (by simp [World.setCell, Array.getElem?_modify, h]) (by simp; omega) (by simpa using hf) (fun u hu => h1 u (by simp [hu]))]
    rfl

theorem run_loadCells_at {P : Program} (w : World) (b o : Nat) (vs : List Value) (h : cellsAt w b o vs) : (loadCells ⟨b, o, none⟩ vs.length).run P w = .ok vs.toArray w :=
  run_loadCells_list (P := P) (w := w) ⟨b, o, none⟩ vs fun j v hj => by rw [add_addr]; exact h j v hj

end Go.Lx
