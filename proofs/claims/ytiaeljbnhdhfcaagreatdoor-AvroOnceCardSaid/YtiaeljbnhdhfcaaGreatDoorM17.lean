/- States seen anew; a call among few objects is a call among many; several pieces of code. -/
import Derived.Test.YtiaeljbnhdhfcaaGreatDoorM13
namespace Go.Lx
open Go.RowKit

/-- New numbers: object and version; none: what leads there is forgotten. -/
abbrev Ren := Nat → Nat → Option (Nat × Nat)

mutual
def ren (R : Ren) : HV → HV
  | .ptr id off => match R id 0 with | some p => .ptr p.1 off | none => .junk
  | .rp c id ver i off => match R id ver with | some p => .rp c p.1 p.2 i off | none => .junk
  | .own c id ver len => match R id ver with | some p => .own c p.1 p.2 len | none => .junk
  | .map id => match R id 0 with | some p => .map p.1 | none => .junk
  | .it id => match R id 0 with | some p => .it p.1 | none => .junk
  | .st fs => .st (rens R fs)
  | .tup fs => .tup (rens R fs)
  | .fn f a b => .fn f (rens R a) (rens R b)
  | .iface t h => .iface t (ren R h)
  | .opt g h => .opt g (ren R h)
  | .v x => .v x
  | .d c x => .d c x
  | .dp c x => .dp c x
  | .zc => .zc
  | .dm k v es => .dm k v es
  | .junk => .junk
def rens (R : Ren) : List HV → List HV
  | [] => []
  | f :: fs => ren R f :: rens R fs
end

theorem rens_map (R : Ren) : ∀ l, rens R l = l.map (ren R)
  | [] => rfl
  | f :: fs => by simp [rens, rens_map R fs]

def renOb (R : Ren) (u : Nat) : Ob → Ob
  | .box t x => .box t (ren R x)
  | .row c _ fp xs => .row c u fp xs
  | .fmap es => .fmap (es.map fun e => (e.1, ren R e.2))
  | .dead _ => .dead u
  | .map k v es => .map k v es
  | .iter s p => .iter s p

def Tr.ren (R : Ren) : Tr → Tr
  | .nil => .nil
  | .node h l r => .node (Go.Lx.ren R h) (Tr.ren R l) (Tr.ren R r)

def Tm.ren (R : Ren) (M : Tm) : Tm := ⟨M.n, M.T.ren R⟩

theorem Tr.ren_get (R : Ren) : ∀ (t : Tr) (i : Nat), (t.ren R).get i = Go.Lx.ren R (t.get i)
  | .nil, i => by simp [Tr.ren, Tr.get, Go.Lx.ren]
  | .node h l r, i => by
    simp only [Tr.ren, Tr.get]
    cases Nat.beq i 0 with
    | true => rfl
    | false =>
      simp only [cond_false]
      cases Nat.beq (i % 2) 1 with
      | true => exact Tr.ren_get R l _
      | false => exact Tr.ren_get R r _

/-- Objects of one kind. -/
structure Kin (o o' : Ob) : Prop where
  box : ∀ t x, o = .box t x → ∃ x', o' = .box t x'
  row : ∀ c v f xs, o = .row c v f xs → ∃ v' f' xs', o' = .row c v' f' xs'
  map : isMapOb o = true → isMapOb o' = true
  iter : isIterOb o = true → isIterOb o' = true

theorem kin_renOb (R : Ren) (u : Nat) (o : Ob) : Kin o (renOb R u o) := by
  constructor
  · intro t x h; subst h; exact ⟨_, rfl⟩
  · intro c v f xs h; subst h; exact ⟨_, _, _, rfl⟩
  · intro h; cases o <;> first | rfl | cases h
  · intro h; cases o <;> first | rfl | cases h

theorem renOb_dead (R : Ren) (u : Nat) (o : Ob) : (renOb R u o).isDead = o.isDead := by cases o <;> rfl

/-- What references lead to is there under the new numbers. -/
structure Follow (E E' : Env) (R : Ren) : Prop where
  w : E'.w = E.w
  I : E'.I = E.I
  go : ∀ id ver p, R id ver = some p → ∀ o, E.L[id]? = some o → ver ≤ o.ver → ∃ o', E'.L[p.1]? = some o' ∧ Kin o o' ∧ p.2 ≤ o'.ver ∧ (p.2 = o'.ver → ver = o.ver ∧ E'.β p.1 p.2 = E.β id ver)

section
variable {E E' : Env} {R : Ren}

theorem Kin.ver0 {o o' : Ob} (h : Kin o o') (hb : (∃ t x, o = .box t x) ∨ isMapOb o = true ∨ isIterOb o = true) : o'.ver = 0 := by
  rcases hb with ⟨t, x, rfl⟩ | hb | hb
  · obtain ⟨x', rfl⟩ := h.box t x rfl; rfl
  · have := h.map hb; cases o' <;> first | rfl | cases this
  · have := h.iter hb; cases o' <;> first | rfl | cases this

/-- A reference to what has no versions. -/
theorem Follow.plain (h : Follow E E' R) {id : Nat} {p : Nat × Nat} (hp : R id 0 = some p) {o : Ob} (ho : E.L[id]? = some o) (hb : (∃ t x, o = .box t x) ∨ isMapOb o = true ∨ isIterOb o = true) :
    ∃ o', E'.L[p.1]? = some o' ∧ Kin o o' ∧ E'.β p.1 0 = E.β id 0 := by
  obtain ⟨o', h1, h2, h3, h4⟩ := h.go id 0 p hp o ho (Nat.zero_le _)
  have h0 := h2.ver0 hb
  have hp2 : p.2 = 0 := by omega
  refine ⟨o', h1, h2, ?_⟩
  have := (h4 (by omega)).2
  rw [hp2] at this
  exact this

mutual
theorem relF_ren (hf : Follow E E' R) : ∀ (f : HV) (a : List Value), relF E f a → relF E' (ren R f) a
  | .v x, a, h => h
  | .d c x, a, h => by simp only [ren, relF] at h ⊢; rw [hf.I, hf.w]; exact h
  | .st gs, a, h => by simp only [ren, relF] at h ⊢; exact relSt_ren hf gs a h
  | .tup gs, a, h => by simp only [ren, relF] at h ⊢; exact relAll_ren hf gs a h
  | .ptr id off, a, h => by
    simp only [relF] at h
    obtain ⟨t, x, b, o, h1, h2, h3⟩ := h
    simp only [ren]
    cases hR : R id 0 with
    | none => exact ⟨_, h3⟩
    | some p =>
      obtain ⟨o', k1, k2, k3⟩ := hf.plain hR h1 (.inl ⟨t, x, rfl⟩)
      obtain ⟨x', rfl⟩ := k2.box t x rfl
      exact ⟨t, x', b, o, k1, k3.trans h2, h3⟩
  | .dp c x, a, h => by simp only [ren, relF] at h ⊢; rw [hf.I, hf.w]; exact h
  | .rp c id ver i off, a, h => by
    simp only [relF] at h
    obtain ⟨y, o, h1, h2, h3, h4⟩ := h
    simp only [ren]
    cases hR : R id ver with
    | none => exact ⟨_, h1⟩
    | some p =>
      obtain ⟨o', k1, k2, k3, k4⟩ := hf.go id ver p hR o h2 h3
      refine ⟨y, o', h1, k1, k3, fun e => ?_⟩
      obtain ⟨e1, e2⟩ := k4 e
      obtain ⟨fp, xs, ho, b, q, hb, hy⟩ := h4 e1
      obtain ⟨v', f', xs', ho'⟩ := k2.row c ver fp xs ho
      have : v' = p.2 := by rw [ho'] at e; exact e.symm
      subst this
      exact ⟨f', xs', ho', b, q, e2.trans hb, hy⟩
  | .own c id ver len, a, h => by
    simp only [relF] at h
    obtain ⟨q, l, k, o, h1, h2, h3, h4⟩ := h
    simp only [ren]
    cases hR : R id ver with
    | none => exact ⟨_, h1⟩
    | some p =>
      obtain ⟨o', k1, k2, k3, k4⟩ := hf.go id ver p hR o h2 h3
      refine ⟨q, l, k, o', h1, k1, k3, fun e => ?_⟩
      obtain ⟨e1, e2⟩ := k4 e
      obtain ⟨fp, xs, ho, hy⟩ := h4 e1
      obtain ⟨v', f', xs', ho'⟩ := k2.row c ver fp xs ho
      have : v' = p.2 := by rw [ho'] at e; exact e.symm
      subst this
      refine ⟨f', xs', ho', ?_⟩
      unfold ownAt at hy ⊢
      rw [e2, hf.w]
      exact hy
  | .zc, a, h => h
  | .map id, a, h => by
    simp only [relF] at h
    obtain ⟨o, b, q, h1, h2, h3, h4⟩ := h
    simp only [ren]
    cases hR : R id 0 with
    | none => exact ⟨_, h4⟩
    | some p =>
      obtain ⟨o', k1, k2, k3⟩ := hf.plain hR h1 (.inr (.inl h2))
      exact ⟨o', b, q, k1, k2.map h2, k3.trans h3, h4⟩
  | .it id, a, h => by
    simp only [relF] at h
    obtain ⟨o, b, q, h1, h2, h3, h4⟩ := h
    simp only [ren]
    cases hR : R id 0 with
    | none => exact ⟨_, h4⟩
    | some p =>
      obtain ⟨o', k1, k2, k3⟩ := hf.plain hR h1 (.inr (.inr h2))
      exact ⟨o', b, q, k1, k2.iter h2, k3.trans h3, h4⟩
  | .dm k v es, a, h => by simp only [ren, relF] at h ⊢; rw [hf.I, hf.w]; exact h
  | .fn f fst cap, a, h => by
    simp only [ren, relF] at h ⊢
    obtain ⟨fs, cs, h1, h2, h3⟩ := h
    exact ⟨fs, cs, h1, relAll_ren hf fst fs h2, relAll_ren hf cap cs h3⟩
  | .iface t g, a, h => by
    simp only [ren, relF] at h ⊢
    obtain ⟨z, h1, h2⟩ := h
    exact ⟨z, h1, top_ren hf g z h2⟩
  | .opt _ g, a, h => by simp only [ren, relF] at h ⊢; exact relF_ren hf g a h
  | .junk, a, h => h
theorem top_ren (hf : Follow E E' R) : ∀ (f : HV) (y : Value), top f (relF E f) y → top (ren R f) (relF E' (ren R f)) y
  | .v x, y, h => h
  | .d c x, y, h => top_mono (f := .d c x) (fun vs k => by have := relF_ren hf (.d c x) vs k; simpa only [ren] using this) h
  | .st gs, y, h => by
    obtain ⟨vs, e, r⟩ := h
    exact ⟨vs, e, relF_ren hf (.st gs) vs r⟩
  | .tup gs, y, h => by
    obtain ⟨vs, e, r⟩ := h
    exact ⟨vs, e, relF_ren hf (.tup gs) vs r⟩
  | .ptr id off, y, h => by
    have := relF_ren hf (.ptr id off) [y] h
    simp only [ren] at this ⊢
    cases hR : R id 0 with
    | none => trivial
    | some p => rw [hR] at this; exact this
  | .dp c x, y, h => by have := relF_ren hf (.dp c x) [y] h; simp only [ren] at this ⊢; exact this
  | .rp c id ver i off, y, h => by
    have := relF_ren hf (.rp c id ver i off) [y] h
    simp only [ren] at this ⊢
    cases hR : R id ver with
    | none => trivial
    | some p => rw [hR] at this; exact this
  | .own c id ver len, y, h => by
    have := relF_ren hf (.own c id ver len) [y] h
    simp only [ren] at this ⊢
    cases hR : R id ver with
    | none => trivial
    | some p => rw [hR] at this; exact this
  | .zc, y, h => by have := relF_ren hf .zc [y] h; simp only [ren] at this ⊢; exact this
  | .map id, y, h => by
    have := relF_ren hf (.map id) [y] h
    simp only [ren] at this ⊢
    cases hR : R id 0 with
    | none => trivial
    | some p => rw [hR] at this; exact this
  | .it id, y, h => by
    have := relF_ren hf (.it id) [y] h
    simp only [ren] at this ⊢
    cases hR : R id 0 with
    | none => trivial
    | some p => rw [hR] at this; exact this
  | .dm k v es, y, h => by have := relF_ren hf (.dm k v es) [y] h; simp only [ren] at this ⊢; exact this
  | .fn f fst cap, y, h => by
    have := relF_ren hf (.fn f fst cap) [y] h
    simp only [ren] at this ⊢
    exact this
  | .iface t g, y, h => by
    have := relF_ren hf (.iface t g) [y] h
    simp only [ren] at this ⊢
    exact this
  | .opt g f, y, h => by
    simp only [ren, top] at h ⊢
    exact ⟨fun e => top_mono (f := ren R f) (fun vs k => by simpa only [relF] using k) (top_ren hf f y (top_mono (f := f) (fun vs k => by simpa only [relF] using k) (h.1 e))), h.2⟩
  | .junk, y, h => trivial
theorem relSt_ren (hf : Follow E E' R) : ∀ (fs : List HV) (a : List Value), relSt E fs a → relSt E' (rens R fs) a
  | [], a, h => h
  | f :: fs, vs, h => by
    simp only [rens, relSt] at h ⊢
    obtain ⟨a, b, h1, h2, h3⟩ := h
    exact ⟨a, b, h1, relF_ren hf f a h2, relSt_ren hf fs b h3⟩
theorem relAll_ren (hf : Follow E E' R) : ∀ (fs : List HV) (a : List Value), relAll E fs a → relAll E' (rens R fs) a
  | [], a, h => h
  | f :: fs, vs, h => by
    simp only [rens, relAll] at h ⊢
    obtain ⟨a, b, h1, h2, h3⟩ := h
    exact ⟨a, b, h1, top_ren hf f a h2, relAll_ren hf fs b h3⟩
end

theorem relHV_ren (hf : Follow E E' R) {f : HV} {y : Value} (h : relHV E f y) : relHV E' (ren R f) y := top_ren hf f y h

theorem relT_ren (hf : Follow E E' R) {M : Tm} {t : List Value} (h : relT E M t) : relT E' (M.ren R) t :=
  ⟨h.n, fun i => by show relHV E' ((M.T.ren R).get i) _; rw [Tr.ren_get]; exact relHV_ren hf (h.get i)⟩

theorem relOb_ren (hf : Follow E E' R) {i j u : Nat} {o : Ob} (hβ : E'.β j (renOb R u o).ver = E.β i o.ver) (h : relOb E i o) : relOb E' j (renOb R u o) := by
  cases o with
  | box t x =>
    obtain ⟨b, vs, h1, h2, h3, h4⟩ := h
    refine ⟨b, vs, hβ.trans h1, ?_, relF_ren hf x vs h3, ?_⟩
    · rw [hf.w]; exact h2
    · rw [hf.I]; exact h4
  | row c ver fp xs =>
    simp only [renOb, relOb, Ob.ver] at h hβ ⊢
    rw [hβ, hf.w, hf.I]
    exact h
  | map k v es =>
    obtain ⟨b, ents, clock, h1, h2, h3, h4⟩ := h
    refine ⟨b, ents, clock, hβ.trans h1, ?_, h3, ?_⟩
    · rw [hf.w]; exact h2
    · rw [hf.I]; exact h4
  | fmap es =>
    obtain ⟨b, ents, clock, h1, h2, h3, h4, h5⟩ := h
    refine ⟨b, ents, clock, hβ.trans h1, ?_, ?_, ?_, ?_⟩
    · rw [hf.w]; exact h2
    · rw [hf.I]; exact h3
    · rw [h4]; simp [Function.comp_def]
    · have := relAll_ren hf _ _ h5
      rw [rens_map] at this
      simpa [Function.comp_def] using this
  | iter s pos =>
    obtain ⟨b, h1, h2, h3⟩ := h
    refine ⟨b, hβ.trans h1, ?_, ?_⟩
    · rw [hf.w]; exact h2
    · rw [hf.I]; exact h3
  | dead v => trivial

end
end Go.Lx

namespace Go.Lx
open Go.RowKit

/-- Rows that get a new version: object, version, new version. -/
abbrev Vers := List (Nat × Nat × Nat)

def Vers.at (us : Vers) (id : Nat) : Option (Nat × Nat) := match us with
  | [] => none
  | u :: us => bif Nat.beq u.1 id then some u.2 else Vers.at us id

/-- The references behind: rows as told, objects from n on forgotten. -/
def vwR (us : Vers) (n : Nat) : Ren := fun id ver => bif Nat.blt id n then (match us.at id with
  | some q => bif Nat.beq q.1 ver then some (id, q.2) else none
  | none => some (id, ver)) else none

def vwU (us : Vers) (id : Nat) (o : Ob) : Nat := match us.at id with | some q => q.2 | none => o.ver

def vwL (us : Vers) (n : Nat) : Nat → List Ob → List Ob
  | _, [] => []
  | i, o :: L => bif Nat.blt i n then renOb (vwR us n) (vwU us i o) o :: vwL us n (i + 1) L else []

def vw (us : Vers) (n : Nat) (st : St) : St := ⟨st.tmps.ren (vwR us n), vwL us n 0 st.L⟩

def isRowV (v : Nat) : Ob → Bool | .row _ v' _ _ => Nat.beq v v' | _ => false

/-- May the state be seen so? L0: the objects at the call's beginning. -/
def vwOk (L0 : List Ob) (us : Vers) (n : Nat) (st : St) : Bool := Nat.ble L0.length n && us.all fun u => (match st.L[u.1]? with | some o => isRowV u.2.1 o | none => false) && (match L0[u.1]? with | some o => Nat.blt o.ver u.2.2 | none => true)

theorem Vers.at_mem : ∀ {us : Vers} {id : Nat} {q : Nat × Nat}, us.at id = some q → (id, q) ∈ us
  | u :: us, id, q, h => by
    simp only [Vers.at] at h
    cases hb : Nat.beq u.1 id with
    | true =>
      rw [hb] at h
      simp only [cond_true, Option.some.injEq] at h
      have := Nat.eq_of_beq_eq_true hb
      subst this; subst h
      exact List.mem_cons_self
    | false =>
      rw [hb] at h
      exact List.mem_cons_of_mem _ (Vers.at_mem h)

theorem vwL_get (us : Vers) (n : Nat) : ∀ (L : List Ob) (i j : Nat), (vwL us n i L)[j]? = bif Nat.blt (i + j) n then L[j]?.map fun o => renOb (vwR us n) (vwU us (i + j) o) o else none
  | [], i, j => by simp [vwL]
  | o :: L, i, j => by
    simp only [vwL]
    cases h : Nat.blt i n with
    | true =>
      simp only [cond_true]
      cases j with
      | zero => simp [h]
      | succ j =>
        rw [List.getElem?_cons_succ, vwL_get us n L (i + 1) j, show i + 1 + j = i + (j + 1) by omega]
        simp
    | false =>
      have : Nat.blt (i + j) n = false := blt_ff (fun h' => by
        have h2 : Nat.blt i n = true := by rw [Nat.blt_eq]; omega
        rw [h] at h2; cases h2)
      simp [this]

section
variable {P : Program} {w0 : World}

/-- The same memory, seen anew. -/
theorem sim_vw {E0 E : Env} {L0 : List Ob} (h0 : E0.L = L0) (m : Mod E0 E) {st : St} {t : List Value} (hs : Sim w0 E st t) {us : Vers} {n : Nat} (hok : vwOk L0 us n st = true) :
    ∃ E' : Env, E'.w = E.w ∧ Sim w0 E' (vw us n st) t ∧ Mod E0 E' := by
  simp only [vwOk, Bool.and_eq_true, List.all_eq_true] at hok
  obtain ⟨hn, hall⟩ := hok
  have hn : L0.length ≤ n := Nat.le_of_ble_eq_true hn
  have hEL : E.L = st.L := hs.L
  -- what is known of a row told anew
  have hat : ∀ id q, us.at id = some q → ∃ c fp xs, E.L[id]? = some (.row c q.1 fp xs) ∧ ∀ o, L0[id]? = some o → o.ver < q.2 := by
    intro id q h
    have := hall _ (Vers.at_mem h)
    simp only at this
    obtain ⟨h1, h2⟩ := this
    rw [hEL]
    split at h1
    · rename_i o ho
      cases o with
      | row c v fp xs =>
        simp only [isRowV] at h1
        have := Nat.eq_of_beq_eq_true h1
        subst this
        refine ⟨c, fp, xs, ho, fun o ho' => ?_⟩
        rw [ho'] at h2
        exact blt_tt h2
      | _ => cases h1
    · cases h1
  let E' : Env := ⟨E.I, fun i a => match us.at i with | some q => if a = q.2 then E.β i q.1 else E.β i a | none => E.β i a, vwL us n 0 st.L, E.w⟩
  have hget : ∀ j o', E'.L[j]? = some o' → j < n ∧ ∃ o, E.L[j]? = some o ∧ o' = renOb (vwR us n) (vwU us j o) o := by
    intro j o' h
    have h : (vwL us n 0 st.L)[j]? = some o' := h
    rw [vwL_get, Nat.zero_add] at h
    cases hb : Nat.blt j n with
    | false => rw [hb] at h; cases h
    | true =>
      rw [hb] at h
      simp only [cond_true, Option.map_eq_some_iff] at h
      obtain ⟨o, h1, h2⟩ := h
      exact ⟨blt_tt hb, o, by rw [hEL]; exact h1, h2.symm⟩
  have hput : ∀ j o, j < n → E.L[j]? = some o → E'.L[j]? = some (renOb (vwR us n) (vwU us j o) o) := by
    intro j o hj h
    show (vwL us n 0 st.L)[j]? = _
    rw [vwL_get, Nat.zero_add, show Nat.blt j n = true by rw [Nat.blt_eq]; exact hj, ← hEL, h]
    rfl
  -- versions
  have hver : ∀ j o, E.L[j]? = some o → (renOb (vwR us n) (vwU us j o) o).ver = vwU us j o := by
    intro j o ho
    unfold vwU
    split
    · rename_i q hq
      obtain ⟨c, fp, xs, h1, -⟩ := hat j q hq
      rw [ho] at h1; cases h1; rfl
    · cases o <;> rfl
  have hβ : ∀ j o, E.L[j]? = some o → E'.β j (vwU us j o) = E.β j o.ver := by
    intro j o ho
    show (match us.at j with | some q => if vwU us j o = q.2 then E.β j q.1 else E.β j (vwU us j o) | none => E.β j (vwU us j o)) = _
    unfold vwU
    split
    · rename_i q hq
      obtain ⟨c, fp, xs, h1, -⟩ := hat j q hq
      rw [ho] at h1; cases h1
      simp [Ob.ver]
    · rfl
  have hf : Follow E E' (vwR us n) := by
    refine ⟨rfl, rfl, fun id ver p hp o ho hle => ?_⟩
    simp only [vwR] at hp
    cases hb : Nat.blt id n with
    | false => rw [hb] at hp; cases hp
    | true =>
      rw [hb] at hp
      simp only [cond_true] at hp
      have hid := blt_tt hb
      have key : ∀ q, us.at id = some q → q.1 = ver → p = (id, q.2) → ∃ o', E'.L[p.1]? = some o' ∧ Kin o o' ∧ p.2 ≤ o'.ver ∧ (p.2 = o'.ver → ver = o.ver ∧ E'.β p.1 p.2 = E.β id ver) := by
        rintro q hq rfl rfl
        have hu : vwU us id o = q.2 := by simp [vwU, hq]
        refine ⟨_, hput id o hid ho, kin_renOb _ _ _, ?_, fun _ => ?_⟩
        · rw [hver id o ho, hu]; exact Nat.le_refl _
        · obtain ⟨c, fp, xs, h1, -⟩ := hat id q hq
          have hov : o.ver = q.1 := by rw [ho] at h1; cases h1; rfl
          refine ⟨hov.symm, ?_⟩
          have := hβ id o ho
          rw [hu, hov] at this
          exact this
      split at hp
      · rename_i q hq
        cases hc : Nat.beq q.1 ver with
        | false => rw [hc] at hp; cases hp
        | true =>
          rw [hc] at hp
          simp only [cond_true, Option.some.injEq] at hp
          exact key q hq (Nat.eq_of_beq_eq_true hc) hp.symm
      · rename_i hq
        cases hp
        have hu : vwU us id o = o.ver := by simp [vwU, hq]
        refine ⟨_, hput id o hid ho, kin_renOb _ _ _, ?_, fun e => ?_⟩
        · rw [hver id o ho, hu]; exact hle
        · rw [hver id o ho, hu] at e
          refine ⟨e, ?_⟩
          have := hβ id o ho
          rw [hu, ← e] at this
          exact this
  have howns : ∀ b, E'.owns b → E.owns b := by
    rintro b ⟨j, o', p, h1, h2, h3⟩
    obtain ⟨hj, o, ho, rfl⟩ := hget j o' h1
    rw [renOb_dead] at h2
    rw [hver j o ho, hβ j o ho] at h3
    exact ⟨j, o, p, ho, h2, h3⟩
  refine ⟨E', rfl, ⟨rfl, relT_ren hf hs.tm, fun j o' hj => ?_, fun i j o o' b p p' h1 h2 d1 d2 b1 b2 => ?_, fun b hb => hs.old b (howns b hb), hs.below, hs.Ilt⟩, ?_⟩
  · obtain ⟨hjn, o, ho, rfl⟩ := hget j o' hj
    exact relOb_ren hf (by rw [hver j o ho, hβ j o ho]) (hs.ob j o ho)
  · obtain ⟨-, q, hq, rfl⟩ := hget i o h1
    obtain ⟨-, q', hq', rfl⟩ := hget j o' h2
    rw [renOb_dead] at d1 d2
    rw [hver i q hq, hβ i q hq] at b1
    rw [hver j q' hq', hβ j q' hq'] at b2
    exact hs.inj i j q q' b p p' hq hq' d1 d2 b1 b2
  · refine ⟨m.ext, m.m1, fun b hb => m.m2 b (howns b hb), m.m3, fun i o hi => ?_, m.os, m.tape, m.output⟩
    obtain ⟨o1, k1, k2, k3⟩ := m.m4 i o hi
    have hil : i < L0.length := by rw [← h0]; exact (List.getElem?_eq_some_iff.1 hi).1
    refine ⟨_, hput i o1 (by omega) k1, ?_, fun v hv => ?_⟩
    · have hvv : o.ver ≤ vwU us i o1 := by
        unfold vwU
        split
        · rename_i q hq
          obtain ⟨c, fp, xs, h1, h2⟩ := hat i q hq
          exact Nat.le_of_lt (h2 o (by rw [← h0]; exact hi))
        · exact k2.ver
      have kk := kin_renOb (vwR us n) (vwU us i o1) o1
      refine ⟨by rw [hver i o1 k1]; exact hvv, fun t x e => ?_, fun c v f xs e => ?_, fun e => kk.map (k2.map e), fun e => kk.iter (k2.iter e)⟩
      · obtain ⟨x', e'⟩ := k2.box t x e; exact kk.box t x' e'
      · obtain ⟨v', f', xs', e'⟩ := k2.row c v f xs e; exact kk.row c v' f' xs' e'
    · show (match us.at i with | some q => if v = q.2 then E.β i q.1 else E.β i v | none => E.β i v) = _
      split
      · rename_i q hq
        obtain ⟨c, fp, xs, h1, h2⟩ := hat i q hq
        have := h2 o (by rw [← h0]; exact hi)
        rw [if_neg (by omega)]
        exact k3 v hv
      · exact k3 v hv

/-- What code does from a state on, in a call that began among the objects L0. -/
def WpA (P : Program) (w0 : World) (L0 : List Ob) (c : Code) (st : St) (F : HX → St → Prop) : Prop := ∀ (E0 E : Env) (t : List Value) (d : List Deferred) (QQ : Exit → Act → World → Prop), E0.L = L0 → Mod E0 E → Sim w0 E st t →
  (∀ E' st' t' x, F x st' → Sim w0 E' st' t' → Mod E0 E' → Ends QQ E' ⟨t'.toArray, d⟩ x) → c.wp P QQ ⟨t.toArray, d⟩ E.w

variable {L0 : List Ob}

theorem Wp.wpA {c : Code} {st : St} {F : HX → St → Prop} (h : Wp P w0 c st F) : WpA P w0 L0 c st F :=
  fun _ E t d QQ _ m hs hk => h E t d QQ hs (fun E' st' t' x a b n => hk E' st' t' x a b (m.trans n))

theorem WpA.mono {c : Code} {st : St} {F F' : HX → St → Prop} (h : WpA P w0 L0 c st F) (hf : ∀ x st', F x st' → F' x st') : WpA P w0 L0 c st F' :=
  fun E0 E t d QQ h0 m hs hk => h E0 E t d QQ h0 m hs (fun E' st' t' x a b n => hk E' st' t' x (hf x st' a) b n)

/-- The state seen anew ahead of code. -/
theorem wpA_view {c : Code} {st : St} {F : HX → St → Prop} (us : Vers) (n : Nat) (hok : vwOk L0 us n st = true) (h : WpA P w0 L0 c (vw us n st) F) : WpA P w0 L0 c st F :=
  fun E0 E t d QQ h0 m hs hk => by
    obtain ⟨E', hw, hs', m'⟩ := sim_vw h0 m hs hok
    rw [← hw]
    exact h E0 E' t d QQ h0 m' hs' hk

/-- .. and behind; what is panicked with must be data. -/
theorem wpA_post {c : Code} {st : St} {F : HX → St → Prop} (h : WpA P w0 L0 c st (fun x st' => (∀ hh, x = .panic hh → F x st') ∧ ((∀ hh, x ≠ .panic hh) → ∃ us n, vwOk L0 us n st' = true ∧ F x (vw us n st')))) : WpA P w0 L0 c st F :=
  fun E0 E t d QQ h0 m hs hk => h E0 E t d QQ h0 m hs (fun E' st' t' x a b n => by
    cases x with
    | panic hh => exact hk E' st' t' _ (a.1 hh rfl) b n
    | _ =>
      obtain ⟨us, nn, hok, hF⟩ := a.2 (fun _ => by simp)
      obtain ⟨E'', hw, hs', m'⟩ := sim_vw h0 n b hok
      have := hk E'' _ t' _ hF hs' m'
      simp only [Ends, hw] at this ⊢
      exact this)

theorem wpA_seq {a b : Code} {st : St} {F : HX → St → Prop} (h : WpA P w0 L0 a st (fun x st' => match x with | .normal => WpA P w0 L0 b st' F | x => F x st')) : WpA P w0 L0 (.seq a b) st F := by
  intro E0 E t d QQ h0 m hs hk
  refine wp_seq (h E0 E t d _ h0 m hs (fun E' st' t' x hx h1 h2 => ?_))
  cases x with
  | normal => exact hx E0 E' t' d QQ h0 h2 h1 hk
  | _ => exact hk E' st' t' _ hx h1 h2

theorem wpA_block {id : Nat} {c : Code} {st : St} {F : HX → St → Prop} (h : WpA P w0 L0 c st (fun x st' => match x with | .exit j => if j = id then F .normal st' else F (.exit j) st' | x => F x st')) : WpA P w0 L0 (.block id c) st F := by
  intro E0 E t d QQ h0 m hs hk
  refine wp_block (h E0 E t d _ h0 m hs (fun E' st' t' x hx h1 h2 => ?_))
  cases x with
  | exit j =>
    simp only [Ends, Exit.inBlock]
    by_cases hj : j = id
    · subst hj; simp only [if_true] at hx ⊢; exact hk E' st' t' .normal hx h1 h2
    · simp only [hj, if_false] at hx ⊢; exact hk E' st' t' (.exit j) hx h1 h2
  | _ => exact hk E' st' t' _ hx h1 h2

/-- A loop by a measure; behind each round the state may be seen anew. -/
theorem wpA_loop {α : Type} (I : α → St) (μ : α → Nat) {c : Code} {F : HX → St → Prop}
    (h : ∀ a, WpA P w0 L0 c (I a) (fun x st' => match x with | .normal => ∃ a' us n, μ a' < μ a ∧ vwOk L0 us n st' = true ∧ vw us n st' = I a' | x => F x st')) (a : α) : WpA P w0 L0 (.loop c) (I a) F := by
  intro E0 E t d QQ h0 m hs hk
  refine loopAt_wp ?_
  generalize hn : μ a = k
  induction k using Nat.strongRecOn generalizing a E t with
  | _ k ih =>
    refine loopAt_round (h a E0 E t d _ h0 m hs (fun E' st' t' x hx h1 h2 => ?_))
    cases x with
    | normal =>
      obtain ⟨a', us, n, hlt, hok, he⟩ := hx
      obtain ⟨E'', hw, hs', m'⟩ := sim_vw h0 h2 h1 hok
      rw [he] at hs'
      have := ih (μ a') (by omega) a' E'' t' m' hs' rfl
      simp only [Ends]
      rw [← hw]
      exact this
    | _ => exact hk E' st' t' _ hx h1 h2

/-- A scope: α: where a jump leads (label, state), by a measure. -/
theorem wpA_scope {c : Code} {st : St} {F : HX → St → Prop} {α : Type} (I : α → Nat × St) (μ : α → Nat)
    (h0 : WpA P w0 L0 c st (fun x st' => match x with | .goto l => ∃ a us n, vwOk L0 us n st' = true ∧ I a = (l, vw us n st') | x => F x st'))
    (h : ∀ a, ∃ rest, findLabel c (I a).1 = some rest ∧ WpA P w0 L0 rest (I a).2 (fun x st' => match x with | .goto l => ∃ a' us n, μ a' < μ a ∧ vwOk L0 us n st' = true ∧ I a' = (l, vw us n st') | x => F x st')) : WpA P w0 L0 (.scope c) st F := by
  have key : ∀ n a, μ a = n → ∀ (E0 E : Env) (t : List Value) (d : List Deferred) (QQ : Exit → Act → World → Prop), E0.L = L0 → Mod E0 E → Sim w0 E (I a).2 t →
      (∀ E' st' t' x, F x st' → Sim w0 E' st' t' → Mod E0 E' → Ends QQ E' ⟨t'.toArray, d⟩ x) → ∃ rest, findLabel c (I a).1 = some rest ∧ ScopeAt P c rest QQ ⟨t.toArray, d⟩ E.w := by
    intro n
    induction n using Nat.strongRecOn with
    | _ n ih =>
      intro a ha E0 E t d QQ e0 m hs hk
      obtain ⟨rest, hf, hw⟩ := h a
      refine ⟨rest, hf, scopeAt_of_wp (hw E0 E t d _ e0 m hs (fun E' st' t' x hx h1 h2 => ?_))⟩
      cases x with
      | goto l =>
        obtain ⟨a', us, nn, hlt, hok, ea⟩ := hx
        obtain ⟨E'', hww, hs', m'⟩ := sim_vw e0 h2 h1 hok
        have := ih (μ a') (by omega) a' rfl E0 E'' t' d QQ e0 m' (by rw [ea]; exact hs') hk
        rw [ea, hww] at this
        exact this
      | _ => exact hk E' st' t' _ hx h1 h2
  intro E0 E t d QQ e0 m hs hk
  refine wp_scope (h0 E0 E t d _ e0 m hs (fun E' st' t' x hx h1 h2 => ?_))
  cases x with
  | goto l =>
    obtain ⟨a', us, nn, hok, ea⟩ := hx
    obtain ⟨E'', hww, hs', m'⟩ := sim_vw e0 h2 h1 hok
    have := key (μ a') a' rfl E0 E'' t' d QQ e0 m' (by rw [ea]; exact hs') hk
    rw [ea, hww] at this
    exact this
  | _ => exact hk E' st' t' _ hx h1 h2

/-- A function, by its body. -/
theorem does_wpA {f : FuncId} {fn : Func} {c : Code} {args : List HV} {L : List Ob} {kr : KR} {n : Nat} (hf : P.funcs[f]? = some fn) (hb : fn.body = some c) (hn : args.length + (fn.ntmps - args.length) = n)
    (h : WpA P w0 L c ⟨argT 0 args ⟨n, .nil⟩, L⟩ (fun x st => match x with
      | .normal => finK P fn L kr st = true
      | .ret => finK P fn L kr st = true
      | .panic h => kr (.panic h) (trunc L.length h st.L) = true
      | _ => False)) : Does P w0 f args L kr :=
  does_wp hf hb hn (fun E t d QQ hs hk => h E E t d QQ hs.L (Mod.refl E) hs hk)

/-! No slice, seen as a row that holds nothing -/

mutual
def Nl (c : Cd) (n : Nat) : HV → HV → Prop
  | .st fs, g => g = .st fs ∨ ∃ gs, g = .st gs ∧ Nls c n fs gs
  | .v x, g => g = .v x ∨ (x = .slice none 0 0 ∧ g = .own c n 0 0)
  | .zc, g => g = .zc ∨ g = .own c n 0 0
  | f, g => g = f
def Nls (c : Cd) (n : Nat) : List HV → List HV → Prop
  | [], gs => gs = []
  | f :: fs, gs => ∃ g r, gs = g :: r ∧ Nl c n f g ∧ Nls c n fs r
end

theorem Nl.same (c : Cd) (n : Nat) (h : HV) : Nl c n h h := by
  cases h <;> simp [Nl]

inductive NlOb (c : Cd) (n : Nat) : Ob → Ob → Prop where
  | same (o : Ob) : NlOb c n o o
  | box {t : TypeId} {x y : HV} : Nl c n x y → NlOb c n (.box t x) (.box t y)

theorem NlOb.dead {c : Cd} {n : Nat} {o o' : Ob} (h : NlOb c n o o') : o'.isDead = o.isDead ∧ o'.ver = o.ver ∧ SameKind o o' := by
  cases h with
  | same => exact ⟨rfl, rfl, SameKind.refl o⟩
  | box _ => exact ⟨rfl, rfl, SameKind.boxes⟩

mutual
theorem relF_nl {E E' : Env} {c : Cd} {n : Nat} (m : Mod E E') (hL : E'.L[n]? = some (.row c 0 0 [])) (hβ : E'.β n 0 = none) : ∀ (f g : HV), Nl c n f g → ∀ a, relF E f a → relF E' g a
  | .st fs, g, h, a, k => by
    simp only [Nl] at h
    rcases h with rfl | ⟨gs, rfl, h⟩
    · exact relF_mod m _ a k
    · simp only [relF] at k ⊢
      exact relSt_nl m hL hβ fs gs h a k
  | .v x, g, h, a, k => by
    simp only [Nl] at h
    rcases h with rfl | ⟨rfl, rfl⟩
    · exact k
    · have k : a = [.slice none 0 0] := by simpa [relF, Value.cells] using k
      simp only [relF]
      exact ⟨none, 0, 0, _, k, hL, Nat.le_refl _, fun _ => ⟨0, [], rfl, by unfold ownAt; rw [hβ]; exact ⟨rfl, .inl rfl⟩⟩⟩
  | .zc, g, h, a, k => by
    simp only [Nl] at h
    rcases h with rfl | rfl
    · exact k
    · obtain ⟨b, o, k⟩ := k
      simp only [relF]
      exact ⟨_, 0, 0, _, k, hL, Nat.le_refl _, fun _ => ⟨0, [], rfl, by unfold ownAt; rw [hβ]; exact ⟨rfl, .inr ⟨b, o, rfl⟩⟩⟩⟩
  | .d c x, g, h, a, k => by simp only [Nl] at h; subst h; exact relF_mod m _ a k
  | .tup gs, g, h, a, k => by simp only [Nl] at h; subst h; exact relF_mod m _ a k
  | .ptr .., g, h, a, k => by simp only [Nl] at h; subst h; exact relF_mod m _ a k
  | .dp .., g, h, a, k => by simp only [Nl] at h; subst h; exact relF_mod m _ a k
  | .rp .., g, h, a, k => by simp only [Nl] at h; subst h; exact relF_mod m _ a k
  | .own .., g, h, a, k => by simp only [Nl] at h; subst h; exact relF_mod m _ a k
  | .map .., g, h, a, k => by simp only [Nl] at h; subst h; exact relF_mod m _ a k
  | .it .., g, h, a, k => by simp only [Nl] at h; subst h; exact relF_mod m _ a k
  | .dm .., g, h, a, k => by simp only [Nl] at h; subst h; exact relF_mod m _ a k
  | .fn .., g, h, a, k => by simp only [Nl] at h; subst h; exact relF_mod m _ a k
  | .iface .., g, h, a, k => by simp only [Nl] at h; subst h; exact relF_mod m _ a k
  | .opt .., g, h, a, k => by simp only [Nl] at h; subst h; exact relF_mod m _ a k
  | .junk, g, h, a, k => by simp only [Nl] at h; subst h; exact relF_mod m _ a k
theorem relSt_nl {E E' : Env} {c : Cd} {n : Nat} (m : Mod E E') (hL : E'.L[n]? = some (.row c 0 0 [])) (hβ : E'.β n 0 = none) : ∀ (fs gs : List HV), Nls c n fs gs → ∀ a, relSt E fs a → relSt E' gs a
  | [], gs, h, a, k => by simp only [Nls] at h; subst h; exact k
  | f :: fs, gs, h, a, k => by
    simp only [Nls] at h
    obtain ⟨g, r, rfl, h1, h2⟩ := h
    simp only [relSt] at k ⊢
    obtain ⟨x, y, e, k1, k2⟩ := k
    exact ⟨x, y, e, relF_nl m hL hβ f g h1 x k1, relSt_nl m hL hβ fs r h2 y k2⟩
end

theorem relHV_nl {E E' : Env} {c : Cd} {n : Nat} (m : Mod E E') (hL : E'.L[n]? = some (.row c 0 0 [])) (hβ : E'.β n 0 = none) {f g : HV} (h : Nl c n f g) {y : Value} (k : relHV E f y) : relHV E' g y := by
  have go : ∀ f : HV, (g = f) → relHV E f y → relHV E' g y := fun f e k => by subst e; exact relHV_mod m k
  cases f with
  | st fs =>
    obtain ⟨vs, e, r⟩ := k
    have r' := relF_nl m hL hβ _ _ h vs r
    simp only [Nl] at h
    rcases h with rfl | ⟨gs, rfl, h⟩
    · exact ⟨vs, e, r'⟩
    · exact ⟨vs, e, r'⟩
  | v x =>
    simp only [Nl] at h
    rcases h with rfl | ⟨rfl, rfl⟩
    · exact k
    · have k : y = .slice none 0 0 := k
      subst k
      exact relF_nl m hL hβ (.v (.slice none 0 0)) (.own c n 0 0) (by simp [Nl]) [_] (by simp [relF, Value.cells])
  | zc =>
    have h' := h
    simp only [Nl] at h
    rcases h with rfl | rfl
    · exact k
    · exact relF_nl m hL hβ .zc (.own c n 0 0) h' [y] k
  | _ => exact go _ (by simpa only [Nl] using h) k

theorem sim_nil {E : Env} {st : St} {t : List Value} (hs : Sim w0 E st t) (c : Cd) {T' : Tm} {L' : List Ob} (hTn : T'.n = st.tmps.n) (hT : ∀ i, Nl c st.L.length (st.tmps.get i) (T'.get i))
    (hLn : L'.length = st.L.length) (hL : ∀ (i : Nat) (o : Ob), st.L[i]? = some o → ∃ o', L'[i]? = some o' ∧ NlOb c st.L.length o o') : ∃ E' : Env, E'.w = E.w ∧ Sim w0 E' ⟨T', L' ++ [.row c 0 0 []]⟩ t ∧ Mod E E' := by
  have hEL : E.L = st.L := hs.L
  let E' : Env := ⟨E.I, fun i a => if i = st.L.length then none else E.β i a, L' ++ [.row c 0 0 []], E.w⟩
  have hget : ∀ i o', E'.L[i]? = some o' → (i < st.L.length ∧ ∃ o, E.L[i]? = some o ∧ NlOb c st.L.length o o') ∨ (i = st.L.length ∧ o' = .row c 0 0 []) := by
    intro i o' h
    have h : (L' ++ [Ob.row c 0 0 []])[i]? = some o' := h
    rcases Nat.lt_or_ge i st.L.length with hi | hi
    · rw [List.getElem?_append_left (by omega)] at h
      obtain ⟨o2, k1, k2⟩ := hL i st.L[i] (List.getElem?_eq_getElem hi)
      rw [k1] at h; cases h
      exact .inl ⟨hi, _, by rw [hEL]; exact List.getElem?_eq_getElem hi, k2⟩
    · rw [List.getElem?_append_right (by omega), hLn] at h
      have : i - st.L.length = 0 := by
        rcases Nat.eq_zero_or_pos (i - st.L.length) with h0 | h0
        · exact h0
        · rw [List.getElem?_eq_none (by simp; omega)] at h; cases h
      rw [this] at h
      simp at h
      exact .inr ⟨by omega, h.symm⟩
  have hβ : ∀ i a, i < st.L.length → E'.β i a = E.β i a := fun i a hi => by
    show (if i = st.L.length then none else E.β i a) = _
    rw [if_neg (by omega)]
  have hβn : E'.β st.L.length 0 = none := by show (if st.L.length = st.L.length then none else _) = _; rw [if_pos rfl]
  have hrow : E'.L[st.L.length]? = some (.row c 0 0 []) := by
    show (L' ++ [Ob.row c 0 0 []])[st.L.length]? = _
    rw [List.getElem?_append_right (by omega), hLn]; simp
  have m : Mod E E' := by
    refine ⟨Ext.refl _ _, fun _ _ _ => rfl, ?_, fun _ _ h => .inl h, fun i o hi => ?_, rfl, rfl, rfl⟩
    · rintro b ⟨i, o', p, h1, h2, h3⟩
      rcases hget i o' h1 with ⟨hi, o, ho, hn⟩ | ⟨rfl, rfl⟩
      · refine .inl ⟨i, o, p, ho, by rw [← hn.dead.1]; exact h2, ?_⟩
        rw [← hβ i _ hi, ← hn.dead.2.1]; exact h3
      · rw [show (Ob.row c 0 0 []).ver = 0 from rfl, hβn] at h3; cases h3
    · have hil : i < st.L.length := by rw [← hEL]; exact (List.getElem?_eq_some_iff.1 hi).1
      obtain ⟨o2, k1, k2⟩ := hL i o (by rw [← hEL]; exact hi)
      exact ⟨o2, by show (L' ++ _)[i]? = _; rw [List.getElem?_append_left (by omega)]; exact k1, k2.dead.2.2, fun v _ => hβ i v hil⟩
  have hT' : relT E' T' t := ⟨hTn.trans hs.tm.n, fun i => relHV_nl m hrow hβn (hT i) (hs.tm.get i)⟩
  have hs' : Sim w0 E' ⟨st.tmps, E'.L⟩ t := by
    refine sim_step hs m (fun i o' hi => ?_) (fun i j o o' b p p' h1 h2 d1 d2 b1 b2 => ?_) hs.Ilt
    · rcases hget i o' hi with ⟨hil, o, ho, hn⟩ | ⟨rfl, rfl⟩
      · cases hn with
        | same => exact .inl ⟨ho, hβ i _ hil, fun b p _ => ⟨rfl, fun q hq => hq⟩⟩
        | box hx =>
          obtain ⟨b, vs, k1, k2, k3, k4⟩ := hs.ob i _ ho
          exact .inr ⟨b, vs, (hβ i 0 hil).trans k1, k2, relF_nl m hrow hβn _ _ hx vs k3, k4⟩
      · refine .inr ⟨Nat.zero_le _, ?_⟩
        rw [hβn]
    · rcases hget i o h1 with ⟨hi, q, hq, hn⟩ | ⟨rfl, rfl⟩
      · rcases hget j o' h2 with ⟨hj, q', hq', hn'⟩ | ⟨rfl, rfl⟩
        · rw [hβ i _ hi, hn.dead.2.1] at b1
          rw [hβ j _ hj, hn'.dead.2.1] at b2
          exact hs.inj i j q q' b p p' hq hq' (by rw [← hn.dead.1]; exact d1) (by rw [← hn'.dead.1]; exact d2) b1 b2
        · rw [show (Ob.row c 0 0 []).ver = 0 from rfl, hβn] at b2; cases b2
      · rw [show (Ob.row c 0 0 []).ver = 0 from rfl, hβn] at b1; cases b1
  exact ⟨E', rfl, { hs' with L := hs'.L, tm := hT' }, m⟩

/-- A temporary that holds no slice, ahead of code. -/
theorem wpA_nil {c : Code} {st : St} {F : HX → St → Prop} (cd : Cd) (i : Nat) (hi : i < 4000) (h : st.tmps.get i = .v (.slice none 0 0) ∨ st.tmps.get i = .zc) (hw : WpA P w0 L0 c ⟨st.tmps.put i (.own cd st.L.length 0 0), st.L ++ [.row cd 0 0 []]⟩ F) : WpA P w0 L0 c st F :=
  fun E0 E t d QQ h0 m hs hk => by
    obtain ⟨E', hw', hs', m'⟩ := sim_nil hs cd (T' := st.tmps.put i (.own cd st.L.length 0 0)) (L' := st.L) (by rw [Tm.n_put]) (fun j => by
      rw [Tm.get_put hi]
      split
      · rename_i hc
        rw [hc.1]
        rcases h with h | h <;> rw [h]
        · exact .inr ⟨rfl, rfl⟩
        · exact .inr rfl
      · exact Nl.same _ _ _) rfl (fun j o hj => ⟨o, hj, .same o⟩)
    rw [← hw']
    exact hw E0 E' t d QQ h0 (m.trans m') hs' hk

/-- A part of a box that holds no slice, ahead of code. -/
theorem wpA_nilBox {c : Code} {st : St} {F : HX → St → Prop} (cd : Cd) (i : Nat) {t : TypeId} {x y : HV} (h : st.L[i]? = some (.box t x)) (hxy : Nl cd st.L.length x y) (hw : WpA P w0 L0 c ⟨st.tmps, st.L.set i (.box t y) ++ [.row cd 0 0 []]⟩ F) : WpA P w0 L0 c st F :=
  fun E0 E t' d QQ h0 m hs hk => by
    obtain ⟨E', hw', hs', m'⟩ := sim_nil hs cd (T' := st.tmps) (L' := st.L.set i (.box t y)) rfl (fun j => Nl.same _ _ _) (by simp) (fun j o hj => by
      by_cases hji : j = i
      · subst hji
        rw [h] at hj; cases hj
        have := (List.getElem?_eq_some_iff.1 h).1
        exact ⟨_, List.getElem?_set_self this, .box hxy⟩
      · exact ⟨o, by rw [List.getElem?_set_ne (Ne.symm hji)]; exact hj, .same o⟩)
    rw [← hw']
    exact hw E0 E' t' d QQ h0 (m.trans m') hs' hk

end
end Go.Lx

namespace Go.Lx
open Go.RowKit

/-- Where a number stands in a list. -/
def posOf (id : Nat) : List Nat → Nat → Option Nat
  | [], _ => none
  | x :: l, p => bif Nat.beq x id then some p else posOf id l (p + 1)

/-- From many to few: the objects ids, at versions vs, are 0, 1, .. at version 0. -/
def subR (ids vs : List Nat) : Ren := fun id ver => match posOf id ids 0 with
  | some p => bif Nat.beq (vs.getD p 0) ver then some (p, 0) else none
  | none => none

/-- From few to many: what is new comes behind n0 objects. -/
def supR (ids vs : List Nat) (n0 : Nat) : Ren := fun p a => bif Nat.blt p ids.length then some (ids.getD p 0, vs.getD p 0 + a) else some (n0 + (p - ids.length), a)

def subL (R : Ren) (L : List Ob) : List Nat → List Ob
  | [] => []
  | id :: ids => renOb R 0 (L.getD id (.dead 0)) :: subL R L ids

def putL (R : Ren) : List Nat → List Nat → List Ob → List Ob → List Ob
  | id :: ids, v :: vs, o :: L', L => putL R ids vs L' (L.set id (renOb R (v + o.ver) o))
  | [], _, L', L => L ++ L'.map fun o => renOb R o.ver o
  | _, _, _, L => L

def renHR (R : Ren) : HR → HR
  | .ret h => .ret (ren R h)
  | .panic h => .panic (ren R h)

/-- The objects that a call is among: each once, alive, at that version. -/
def footOk (L : List Ob) : List Nat → List Nat → Bool
  | [], [] => true
  | id :: ids, v :: vs => (match L[id]? with | some o => !o.isDead && Nat.beq o.ver v | none => false) && !ids.any (Nat.beq id) && footOk L ids vs
  | _, _ => false

theorem posOf_some : ∀ {l : List Nat} {id p q : Nat}, posOf id l p = some q → p ≤ q ∧ l[q - p]? = some id
  | x :: l, id, p, q, h => by
    simp only [posOf] at h
    cases hb : Nat.beq x id with
    | true =>
      rw [hb] at h; cases h
      have := Nat.eq_of_beq_eq_true hb
      subst this
      exact ⟨Nat.le_refl _, by simp⟩
    | false =>
      rw [hb] at h
      obtain ⟨h1, h2⟩ := posOf_some h
      exact ⟨by omega, by rw [show q - p = (q - (p + 1)) + 1 by omega, List.getElem?_cons_succ]; exact h2⟩

theorem posOf_none : ∀ {l : List Nat} {id p : Nat}, posOf id l p = none → id ∉ l
  | [], _, _, _ => by simp
  | x :: l, id, p, h => by
    simp only [posOf] at h
    cases hb : Nat.beq x id with
    | true => rw [hb] at h; cases h
    | false =>
      rw [hb] at h
      have h1 := posOf_none (l := l) h
      intro hm
      rcases List.mem_cons.1 hm with rfl | hm
      · rw [Nat.beq_refl] at hb; cases hb
      · exact h1 hm

theorem footOk_get {L : List Ob} : ∀ {ids vs : List Nat}, footOk L ids vs = true → vs.length = ids.length ∧ ids.Nodup ∧ ∀ p id, ids[p]? = some id → ∃ o, L[id]? = some o ∧ o.isDead = false ∧ o.ver = vs.getD p 0
  | [], [], _ => ⟨rfl, List.nodup_nil, fun p id h => by simp at h⟩
  | [], _ :: _, h => by cases h
  | _ :: _, [], h => by cases h
  | id :: ids, v :: vs, h => by
    simp only [footOk, Bool.and_eq_true, Bool.not_eq_true', List.any_eq_false] at h
    obtain ⟨⟨h1, h2⟩, h3⟩ := h
    obtain ⟨k1, k2, k3⟩ := footOk_get h3
    refine ⟨by simp [k1], List.nodup_cons.2 ⟨fun hm => h2 id hm (Nat.beq_refl id), k2⟩, fun p i hp => ?_⟩
    cases p with
    | zero =>
      simp only [List.getElem?_cons_zero, Option.some.injEq] at hp
      subst hp
      split at h1
      · rename_i o ho
        simp only [Bool.and_eq_true, Bool.not_eq_true'] at h1
        exact ⟨o, ho, h1.1, by simpa using Nat.eq_of_beq_eq_true h1.2⟩
      · cases h1
    | succ p =>
      obtain ⟨o, g1, g2, g3⟩ := k3 p i (by simpa using hp)
      exact ⟨o, g1, g2, by simpa using g3⟩

theorem subL_get (R : Ren) (L : List Ob) : ∀ (ids : List Nat) (p : Nat), (subL R L ids)[p]? = ids[p]?.map fun id => renOb R 0 (L.getD id (.dead 0))
  | [], p => by simp [subL]
  | id :: ids, 0 => by simp [subL]
  | id :: ids, p + 1 => by simp only [subL, List.getElem?_cons_succ]; exact subL_get R L ids p

theorem putL_get (R : Ren) : ∀ (ids vs : List Nat) (L' L : List Ob), vs.length = ids.length → ids.length ≤ L'.length → ids.Nodup → (∀ id ∈ ids, id < L.length) → ∀ j,
    (∀ p, ids[p]? = some j → (putL R ids vs L' L)[j]? = L'[p]?.map fun o => renOb R (vs.getD p 0 + o.ver) o) ∧
    (j ∉ ids → j < L.length → (putL R ids vs L' L)[j]? = L[j]?) ∧
    (j ∉ ids → L.length ≤ j → (putL R ids vs L' L)[j]? = L'[ids.length + (j - L.length)]?.map fun o => renOb R o.ver o)
  | [], vs, L', L, _, _, _, _, j => by
    have he : putL R [] vs L' L = L ++ L'.map fun o => renOb R o.ver o := by cases vs <;> rfl
    rw [he]
    refine ⟨fun p hp => by simp at hp, fun _ hj => List.getElem?_append_left hj, fun _ hj => ?_⟩
    rw [List.getElem?_append_right hj, List.getElem?_map]
    simp
  | id :: ids, [], L', L, h, _, _, _, _ => by simp at h
  | id :: ids, v :: vs, [], L, _, h, _, _, _ => by simp at h
  | id :: ids, v :: vs, o :: L', L, h1, h2, h3, h4, j => by
    have h1 : vs.length = ids.length := by simpa using h1
    have h2 : ids.length ≤ L'.length := by simpa using h2
    obtain ⟨h3a, h3b⟩ := List.nodup_cons.1 h3
    have hid : id < L.length := h4 id List.mem_cons_self
    have ih := putL_get R ids vs L' (L.set id (renOb R (v + o.ver) o)) h1 h2 h3b (fun x hx => by rw [List.length_set]; exact h4 x (List.mem_cons_of_mem _ hx)) j
    simp only [List.length_set] at ih
    simp only [putL]
    refine ⟨fun p hp => ?_, fun hn hj => ?_, fun hn hj => ?_⟩
    · cases p with
      | zero =>
        simp only [List.getElem?_cons_zero, Option.some.injEq] at hp
        subst hp
        rw [ih.2.1 h3a hid, List.getElem?_set_self hid]
        simp
      | succ p =>
        rw [ih.1 p (by simpa using hp)]
        simp
    · have hn' : j ≠ id ∧ j ∉ ids := by simpa using hn
      rw [ih.2.1 hn'.2 hj, List.getElem?_set_ne (Ne.symm hn'.1)]
    · have hn' : j ≠ id ∧ j ∉ ids := by simpa using hn
      rw [ih.2.2 hn'.2 hj]
      simp only [List.length_cons]
      rw [show ids.length + 1 + (j - L.length) = (ids.length + (j - L.length)) + 1 by omega, List.getElem?_cons_succ]

theorem posOf_mem : ∀ {l : List Nat} {id p : Nat}, id ∈ l → ∃ q, posOf id l p = some q := by
  intro l id p h
  cases hq : posOf id l p with
  | some q => exact ⟨q, rfl⟩
  | none => exact absurd h (posOf_none hq)

theorem nodup_get : ∀ {l : List Nat}, l.Nodup → ∀ {p q x : Nat}, l[p]? = some x → l[q]? = some x → p = q
  | [], _, p, q, x, h, _ => by simp at h
  | y :: l, hn, p, q, x, h1, h2 => by
    obtain ⟨ha, hb⟩ := List.nodup_cons.1 hn
    cases p with
    | zero =>
      cases q with
      | zero => rfl
      | succ q =>
        simp only [List.getElem?_cons_zero, Option.some.injEq] at h1
        rw [List.getElem?_cons_succ] at h2
        subst h1
        exact absurd (List.mem_of_getElem? h2) ha
    | succ p =>
      rw [List.getElem?_cons_succ] at h1
      cases q with
      | zero =>
        simp only [List.getElem?_cons_zero, Option.some.injEq] at h2
        subst h2
        exact absurd (List.mem_of_getElem? h1) ha
      | succ q =>
        rw [List.getElem?_cons_succ] at h2
        rw [nodup_get hb h1 h2]

theorem renOb_ver0 (R : Ren) (o : Ob) (hd : o.isDead = false) : (renOb R 0 o).ver = 0 := by cases o <;> first | rfl | cases hd

theorem renOb_ver (R : Ren) (v : Nat) (o o' : Ob) (h0 : o.isDead = false) (hv : o.ver = v) (hk : SameKind (renOb R 0 o) o') (R' : Ren) : (renOb R' (v + o'.ver) o').ver = v + o'.ver ∧ SameKind o (renOb R' (v + o'.ver) o') := by
  cases o with
  | box t x =>
    obtain ⟨x', rfl⟩ := hk.box t _ rfl
    have : v = 0 := hv.symm
    subst this
    exact ⟨rfl, SameKind.boxes⟩
  | row c ver fp xs =>
    obtain ⟨v', f', xs', rfl⟩ := hk.row c 0 fp xs rfl
    have : ver = v := hv
    subst this
    exact ⟨rfl, SameKind.rows (Nat.le_add_right _ _)⟩
  | map k w es =>
    have : v = 0 := hv.symm
    subst this
    have := hk.map rfl
    cases o' with
    | map k' w' es' => exact ⟨rfl, ⟨Nat.le_refl _, (fun _ _ e => by cases e), (fun _ _ _ _ e => by cases e), (fun _ => rfl), (fun e => by cases e)⟩⟩
    | fmap es' => exact ⟨rfl, ⟨Nat.le_refl _, (fun _ _ e => by cases e), (fun _ _ _ _ e => by cases e), (fun _ => rfl), (fun e => by cases e)⟩⟩
    | _ => cases this
  | fmap es =>
    have : v = 0 := hv.symm
    subst this
    have := hk.map rfl
    cases o' with
    | map k' w' es' => exact ⟨rfl, ⟨Nat.le_refl _, (fun _ _ e => by cases e), (fun _ _ _ _ e => by cases e), (fun _ => rfl), (fun e => by cases e)⟩⟩
    | fmap es' => exact ⟨rfl, ⟨Nat.le_refl _, (fun _ _ e => by cases e), (fun _ _ _ _ e => by cases e), (fun _ => rfl), (fun e => by cases e)⟩⟩
    | _ => cases this
  | iter s p =>
    have : v = 0 := hv.symm
    subst this
    have := hk.iter rfl
    cases o' with
    | iter s' p' => exact ⟨rfl, ⟨Nat.le_refl _, (fun _ _ e => by cases e), (fun _ _ _ _ e => by cases e), (fun e => by cases e), (fun _ => rfl)⟩⟩
    | _ => cases this
  | dead w => cases h0

theorem does_frame {P : Program} {w0 : World} {f : FuncId} {args : List HV} {L : List Ob} {kr : KR} (ids vs : List Nat) (hfoot : footOk L ids vs = true)
    (h : Does P w0 f (rens (subR ids vs) args) (subL (subR ids vs) L ids) (fun r L' => kr (renHR (supR ids vs L.length) r) (putL (supR ids vs L.length) ids vs L' L))) : Does P w0 f args L kr := by
  obtain ⟨hb, hc⟩ := h
  obtain ⟨hlen, hnd, hfo⟩ := footOk_get hfoot
  refine ⟨hb, fun E args' hs ha => ?_⟩
  have hEL : E.L = L := hs.L
  let Es : Env := ⟨E.I, fun p a => match ids[p]? with | some id => if a = 0 then E.β id (vs.getD p 0) else none | none => none, subL (subR ids vs) L ids, E.w⟩
  have hβs : ∀ p id, ids[p]? = some id → Es.β p 0 = E.β id (vs.getD p 0) := fun p id h => by
    show (match ids[p]? with | some id => if 0 = 0 then E.β id (vs.getD p 0) else none | none => none) = _
    rw [h]; simp
  have hLs : ∀ p o, Es.L[p]? = some o → ∃ id q, ids[p]? = some id ∧ L[id]? = some q ∧ q.isDead = false ∧ q.ver = vs.getD p 0 ∧ o = renOb (subR ids vs) 0 q := by
    intro p o hp
    have hp : (subL (subR ids vs) L ids)[p]? = some o := hp
    rw [subL_get, Option.map_eq_some_iff] at hp
    obtain ⟨id, h1, h2⟩ := hp
    obtain ⟨q, k1, k2, k3⟩ := hfo p id h1
    exact ⟨id, q, h1, k1, k2, k3, by rw [← h2, List.getD_eq_getElem?_getD, k1]; rfl⟩
  have hLs' : ∀ (p id : Nat) (q : Ob), ids[p]? = some id → L[id]? = some q → Es.L[p]? = some (renOb (subR ids vs) 0 q) := by
    intro p id q h1 h2
    show (subL (subR ids vs) L ids)[p]? = _
    rw [subL_get, h1, Option.map_some, List.getD_eq_getElem?_getD, h2]; rfl
  have hfs : Follow E Es (subR ids vs) := by
    refine ⟨rfl, rfl, fun id ver p hp o ho hle => ?_⟩
    simp only [subR] at hp
    split at hp
    · rename_i q hq
      obtain ⟨-, hq⟩ := posOf_some hq
      rw [Nat.sub_zero] at hq
      cases hbv : Nat.beq (vs.getD q 0) ver with
      | false => rw [hbv] at hp; cases hp
      | true =>
        rw [hbv] at hp
        simp only [cond_true, Option.some.injEq] at hp
        subst hp
        have hv := Nat.eq_of_beq_eq_true hbv
        have ho' : L[id]? = some o := by rw [← hEL]; exact ho
        obtain ⟨o2, k1, k2, k3⟩ := hfo q id hq
        rw [ho'] at k1; cases k1
        refine ⟨_, hLs' q id o hq ho', kin_renOb _ _ _, Nat.zero_le _, fun _ => ⟨by rw [k3]; exact hv.symm, ?_⟩⟩
        rw [hβs q id hq, hv]
    · cases hp
  have howns : ∀ b, Es.owns b → E.owns b := by
    rintro b ⟨p, o, q, h1, h2, h3⟩
    obtain ⟨id, o2, k1, k2, k3, k4, rfl⟩ := hLs p o h1
    rw [renOb_ver0 _ _ k3, hβs p id k1, ← k4] at h3
    exact ⟨id, o2, q, by rw [hEL]; exact k2, k3, h3⟩
  have hss : Sim w0 Es ⟨Tm.e, subL (subR ids vs) L ids⟩ [] := by
    refine ⟨rfl, relT_e _, fun p o hp => ?_, fun i j o o' b p p' h1 h2 d1 d2 b1 b2 => ?_, fun b hb => hs.old b (howns b hb), hs.below, hs.Ilt⟩
    · obtain ⟨id, q, k1, k2, k3, k4, rfl⟩ := hLs p o hp
      exact relOb_ren hfs (by rw [renOb_ver0 _ _ k3, hβs p id k1, k4]) (hs.ob id q (by rw [hEL]; exact k2))
    · obtain ⟨id, q, k1, k2, k3, k4, rfl⟩ := hLs i o h1
      obtain ⟨id', q', l1, l2, l3, l4, rfl⟩ := hLs j o' h2
      rw [renOb_ver0 _ _ k3, hβs i id k1, ← k4] at b1
      rw [renOb_ver0 _ _ l3, hβs j id' l1, ← l4] at b2
      have := hs.inj id id' q q' b p p' (by rw [hEL]; exact k2) (by rw [hEL]; exact l2) k3 l3 b1 b2
      subst this
      exact nodup_get hnd k1 l1
  refine (hc Es args' hss (relAll_ren hfs args args' ha)).mono ?_
  rintro e w' ⟨E1, L', y, r, rfl, g1, m1, g2, g3⟩
  have hL1 : E1.L = L' := g1.L
  have hk : ids.length ≤ L'.length := by
    rcases Nat.eq_zero_or_pos ids.length with h0 | h0
    · omega
    · have hp : ids.length - 1 < ids.length := by omega
      obtain ⟨q, k1, -⟩ := hfo (ids.length - 1) ids[ids.length - 1] (List.getElem?_eq_getElem hp)
      obtain ⟨o', k2, -⟩ := m1.m4 _ _ (hLs' (ids.length - 1) _ q (List.getElem?_eq_getElem hp) k1)
      rw [hL1] at k2
      have := (List.getElem?_eq_some_iff.1 k2).1
      omega
  have hltL : ∀ id ∈ ids, id < L.length := fun id hid => by
    obtain ⟨p, hp⟩ := List.getElem?_of_mem hid
    obtain ⟨q, k1, -⟩ := hfo p id hp
    exact (List.getElem?_eq_some_iff.1 k1).1
  have hput := putL_get (supR ids vs L.length) ids vs L' L hlen hk hnd hltL
  let E' : Env := ⟨E1.I, fun j a => match posOf j ids 0 with | some p => if a < vs.getD p 0 then E.β j a else E1.β p (a - vs.getD p 0) | none => if j < L.length then E.β j a else E1.β (ids.length + (j - L.length)) a, putL (supR ids vs L.length) ids vs L' L, E1.w⟩
  have hpos : ∀ p id, ids[p]? = some id → posOf id ids 0 = some p := fun p id h => by
    obtain ⟨q, hq⟩ := posOf_mem (p := 0) (List.mem_of_getElem? h)
    obtain ⟨-, hq'⟩ := posOf_some hq
    rw [Nat.sub_zero] at hq'
    rw [hq, nodup_get hnd hq' h]
  have hno : ∀ j, j ∉ ids → posOf j ids 0 = none := fun j h => by
    cases hq : posOf j ids 0 with
    | none => rfl
    | some p =>
      obtain ⟨-, hq'⟩ := posOf_some hq
      exact absurd (List.mem_of_getElem? hq') h
  have hβf : ∀ p id a, ids[p]? = some id → E'.β id a = if a < vs.getD p 0 then E.β id a else E1.β p (a - vs.getD p 0) := fun p id a h => by
    show (match posOf id ids 0 with | some p => if a < vs.getD p 0 then E.β id a else E1.β p (a - vs.getD p 0) | none => _) = _
    rw [hpos p id h]
  have hβo : ∀ j a, j ∉ ids → j < L.length → E'.β j a = E.β j a := fun j a h hj => by
    show (match posOf j ids 0 with | some p => if a < vs.getD p 0 then E.β j a else E1.β p (a - vs.getD p 0) | none => if j < L.length then E.β j a else E1.β (ids.length + (j - L.length)) a) = _
    rw [hno j h]; simp [hj]
  have hβn : ∀ j a, j ∉ ids → L.length ≤ j → E'.β j a = E1.β (ids.length + (j - L.length)) a := fun j a h hj => by
    show (match posOf j ids 0 with | some p => if a < vs.getD p 0 then E.β j a else E1.β p (a - vs.getD p 0) | none => if j < L.length then E.β j a else E1.β (ids.length + (j - L.length)) a) = _
    rw [hno j h]
    have : ¬ j < L.length := by omega
    simp [this]
  have hnew : ∀ j, L.length ≤ j → j ∉ ids := fun j h hm => by have := hltL j hm; omega
  -- each object is one of the call's, or an old one
  have hobj : ∀ j o, E'.L[j]? = some o → (∃ p o1, L'[p]? = some o1 ∧ (p < ids.length → ids[p]? = some j) ∧ (ids.length ≤ p → j = L.length + (p - ids.length)) ∧ o.isDead = o1.isDead ∧ E'.β j o.ver = E1.β p o1.ver ∧
      o = renOb (supR ids vs L.length) ((if p < ids.length then vs.getD p 0 else 0) + o1.ver) o1 ∧ o.ver = (if p < ids.length then vs.getD p 0 else 0) + o1.ver) ∨ (j ∉ ids ∧ j < L.length ∧ L[j]? = some o) := by
    intro j o hj
    have hj : (putL (supR ids vs L.length) ids vs L' L)[j]? = some o := hj
    by_cases hm : j ∈ ids
    · obtain ⟨p, hp⟩ := List.getElem?_of_mem hm
      rw [(hput j).1 p hp, Option.map_eq_some_iff] at hj
      obtain ⟨o1, k1, rfl⟩ := hj
      have hpl := (List.getElem?_eq_some_iff.1 hp).1
      obtain ⟨q, q1, q2, q3⟩ := hfo p j hp
      obtain ⟨o2, r1, r2, r3⟩ := m1.m4 p _ (hLs' p j q hp q1)
      rw [hL1, k1] at r1; cases r1
      have hv := (renOb_ver _ _ _ _ q2 q3 r2 (supR ids vs L.length)).1
      refine .inl ⟨p, o1, k1, fun _ => hp, fun h => absurd hpl (by omega), renOb_dead _ _ _, ?_, by rw [if_pos hpl], by rw [hv, if_pos hpl]⟩
      rw [hv, hβf p j _ hp, if_neg (by omega)]
      congr 1; omega
    · rcases Nat.lt_or_ge j L.length with hl | hl
      · rw [(hput j).2.1 hm hl] at hj
        exact .inr ⟨hm, hl, hj⟩
      · rw [(hput j).2.2 hm hl, Option.map_eq_some_iff] at hj
        obtain ⟨o1, k1, rfl⟩ := hj
        have hv : (renOb (supR ids vs L.length) o1.ver o1).ver = o1.ver := by cases o1 <;> rfl
        have hnp : ¬ ids.length + (j - L.length) < ids.length := by omega
        refine .inl ⟨ids.length + (j - L.length), o1, k1, fun h => by omega, fun _ => by omega, renOb_dead _ _ _, ?_, by rw [if_neg hnp, Nat.zero_add], by rw [hv, if_neg hnp, Nat.zero_add]⟩
        rw [hv, hβn j _ hm hl]
  have hfu : Follow E1 E' (supR ids vs L.length) := by
    refine ⟨rfl, rfl, fun p a q hq o1 ho1 hle => ?_⟩
    rw [hL1] at ho1
    simp only [supR] at hq
    cases hb : Nat.blt p ids.length with
    | true =>
      rw [hb] at hq
      simp only [cond_true, Option.some.injEq] at hq
      subst hq
      have hp := blt_tt hb
      have hid : ids[p]? = some (ids.getD p 0) := by rw [List.getD_eq_getElem?_getD, List.getElem?_eq_getElem hp]; rfl
      have h1 := (hput (ids.getD p 0)).1 p hid
      rw [ho1] at h1
      obtain ⟨q, q1, q2, q3⟩ := hfo p _ hid
      obtain ⟨o2, r1, r2, r3⟩ := m1.m4 p _ (hLs' p _ q hid q1)
      rw [hL1, ho1] at r1; cases r1
      have hv := (renOb_ver _ _ _ _ q2 q3 r2 (supR ids vs L.length)).1
      refine ⟨_, h1, kin_renOb _ _ _, by rw [hv]; show _ + a ≤ _; omega, fun e => ?_⟩
      rw [hv] at e
      have e : vs.getD p 0 + a = vs.getD p 0 + o1.ver := e
      refine ⟨by omega, ?_⟩
      show E'.β (ids.getD p 0) (vs.getD p 0 + a) = _
      rw [hβf p _ _ hid, if_neg (by omega)]
      congr 1; omega
    | false =>
      rw [hb] at hq
      simp only [cond_false, Option.some.injEq] at hq
      subst hq
      have hp : ids.length ≤ p := by
        rcases Nat.lt_or_ge p ids.length with h | h
        · have : Nat.blt p ids.length = true := by rw [Nat.blt_eq]; exact h
          rw [this] at hb; cases hb
        · exact h
      have hge : L.length ≤ L.length + (p - ids.length) := Nat.le_add_right _ _
      have h1 := (hput (L.length + (p - ids.length))).2.2 (hnew _ hge) hge
      rw [show ids.length + (L.length + (p - ids.length) - L.length) = p by omega, ho1] at h1
      have hv : (renOb (supR ids vs L.length) o1.ver o1).ver = o1.ver := by cases o1 <;> rfl
      refine ⟨_, h1, kin_renOb _ _ _, by rw [hv]; exact hle, fun e => ?_⟩
      rw [hv] at e
      refine ⟨e, ?_⟩
      show E'.β (L.length + (p - ids.length)) a = _
      rw [hβn _ _ (hnew _ hge) hge, show ids.length + (L.length + (p - ids.length) - L.length) = p by omega]
  have hmod : Mod E E' := by
    refine ⟨m1.ext, fun b hb ho => m1.m1 b hb (fun h => ho (howns b h)), fun b hb => ?_, fun b o hi => ?_, fun j o hj => ?_, m1.os, m1.tape, m1.output⟩
    · obtain ⟨j, o, q, h1, h2, h3⟩ := hb
      rcases hobj j o h1 with ⟨p, o1, k1, -, -, k2, k3, -, -⟩ | ⟨k1, k2, k3⟩
      · rcases m1.m2 b ⟨p, o1, q, by rw [hL1]; exact k1, by rw [← k2]; exact h2, by rw [← k3]; exact h3⟩ with h | h
        · exact .inl (howns b h)
        · exact .inr h
      · rw [hβo j _ k1 k2] at h3
        exact .inl ⟨j, o, q, by rw [hEL]; exact k3, h2, h3⟩
    · rcases m1.m3 b o hi with h | h | h
      · exact .inl h
      · exact .inr (.inl h)
      · exact .inr (.inr (howns b h))
    · rw [hEL] at hj
      have hjl := (List.getElem?_eq_some_iff.1 hj).1
      by_cases hm : j ∈ ids
      · obtain ⟨p, hp⟩ := List.getElem?_of_mem hm
        obtain ⟨q, q1, q2, q3⟩ := hfo p j hp
        rw [hj] at q1; cases q1
        obtain ⟨o2, r1, r2, r3⟩ := m1.m4 p _ (hLs' p j o hp hj)
        rw [hL1] at r1
        have h1 := (hput j).1 p hp
        rw [r1] at h1
        refine ⟨_, h1, (renOb_ver _ _ _ _ q2 q3 r2 (supR ids vs L.length)).2, fun a ha' => ?_⟩
        rw [hβf p j a hp]
        split
        · rfl
        · have : a = vs.getD p 0 := by omega
          subst this
          rw [Nat.sub_self, r3 0 (Nat.zero_le _), hβs p j hp]
      · exact ⟨o, by show (putL _ ids vs L' L)[j]? = _; rw [(hput j).2.1 hm hjl]; exact hj, SameKind.refl o, fun a _ => hβo j a hm hjl⟩
  refine ⟨E', E'.L, y, ren (supR ids vs L.length) r, rfl, ?_, hmod, relHV_ren hfu g2, ?_⟩
  · have := sim_step (E' := E') hs hmod (fun j o hj => ?_) (fun i j o o' b q q' h1 h2 d1 d2 b1 b2 => ?_) g1.Ilt
    · exact this
    · rcases hobj j o hj with ⟨p, o1, k1, -, -, k2, k3, k4, k5⟩ | ⟨k1, k2, k3⟩
      · refine .inr ?_
        rw [k4]
        exact relOb_ren hfu (by rw [← k4]; exact k3) (g1.ob p o1 (by rw [hL1]; exact k1))
      · cases hd : o.isDead with
        | true => right; cases o <;> simp [Ob.isDead] at hd; trivial
        | false =>
          refine .inl ⟨by rw [hEL]; exact k3, hβo j _ k1 k2, fun b p hbp => ?_⟩
          have hlt := owned_lt hs (by rw [hEL]; exact k3) hd hbp
          have hnb : ¬ Es.owns b := by
            rintro ⟨p2, o2, q2, h1, h2, h3⟩
            obtain ⟨id, o3, l1, l2, l3, l4, rfl⟩ := hLs p2 o2 h1
            rw [renOb_ver0 _ _ l3, hβs p2 id l1, ← l4] at h3
            have := hs.inj j id o o3 b p q2 (by rw [hEL]; exact k3) (by rw [hEL]; exact l2) hd l3 hbp h3
            subst this
            exact k1 (List.mem_of_getElem? l1)
          refine ⟨m1.m1 b hlt hnb, fun q hq => ?_⟩
          rcases m1.m3 b q hq with h | h | h
          · exact h
          · exact absurd h (by show ¬ E.w.heap.size ≤ b; omega)
          · exact absurd h hnb
    · have cross : ∀ j o p o1 b q q', j ∉ ids → L[j]? = some o → o.isDead = false → E.β j o.ver = some (b, q) → L'[p]? = some o1 → o1.isDead = false → E1.β p o1.ver = some (b, q') → False := by
        intro j o p o1 b q q' k1 k3 hd hbj l1 l2 l3
        have hlt := owned_lt hs (by rw [hEL]; exact k3) hd hbj
        rcases m1.m2 b ⟨p, o1, q', by rw [hL1]; exact l1, l2, l3⟩ with ⟨p2, o2, q2, h1, h2, h3⟩ | h
        · obtain ⟨id, o3, n1, n2, n3, n4, rfl⟩ := hLs p2 o2 h1
          rw [renOb_ver0 _ _ n3, hβs p2 id n1, ← n4] at h3
          have := hs.inj j id o o3 b q q2 (by rw [hEL]; exact k3) (by rw [hEL]; exact n2) hd n3 hbj h3
          subst this
          exact k1 (List.mem_of_getElem? n1)
        · exact absurd h (by show ¬ E.w.heap.size ≤ b; omega)
      rcases hobj i o h1 with ⟨p, o1, k1, ka, kb, k2, k3, k4, k5⟩ | ⟨k1, k2, k3⟩ <;> rcases hobj j o' h2 with ⟨p', o1', l1, la, lb, l2, l3, l4, l5⟩ | ⟨l1, l2, l3⟩
      · have := g1.inj p p' o1 o1' b q q' (by rw [hL1]; exact k1) (by rw [hL1]; exact l1) (by rw [← k2]; exact d1) (by rw [← l2]; exact d2) (by rw [← k3]; exact b1) (by rw [← l3]; exact b2)
        subst this
        rcases Nat.lt_or_ge p ids.length with h | h
        · have x := ka h; have z := la h; rw [x] at z; cases z; rfl
        · rw [kb h, lb h]
      · exact (cross j o' p o1 b q' q l1 l3 d2 (by rw [← hβo j _ l1 l2]; exact b2) k1 (by rw [← k2]; exact d1) (by rw [← k3]; exact b1)).elim
      · exact (cross i o p' o1' b q q' k1 k3 d1 (by rw [← hβo i _ k1 k2]; exact b1) l1 (by rw [← l2]; exact d2) (by rw [← l3]; exact b2)).elim
      · rw [hβo i _ k1 k2] at b1
        rw [hβo j _ l1 l2] at b2
        exact hs.inj i j o o' b q q' (by rw [hEL]; exact k3) (by rw [hEL]; exact l3) d1 d2 b1 b2
  · rcases g3 with ⟨rfl, g3⟩ | ⟨rfl, g3⟩
    · exact .inl ⟨rfl, g3⟩
    · exact .inr ⟨rfl, g3⟩

end Go.Lx

namespace Go.Lx
open Go.RowKit

/-- A list told by cases. -/
def fork {α : Type} (l : List α) (a : Bool) (b : α → List α → Bool) : Bool := match l with
  | [] => a
  | c :: r => b c r

/-- What may be a value with more: told by what it is. -/
def forkV {α β γ : Type} (o : Option (α × β × γ)) (K : α → β → γ → Bool) : Bool := match o with
  | some (a, b, c) => K a b c
  | none => false

def forkW {α β : Type} (o : Option (α × β)) (K : α → β → Bool) : Bool := match o with
  | some (a, b) => K a b
  | none => false

def addP (f0 : FuncId) (p : List HV → Option (Bool × HV)) (G : Gam) : Gam := ⟨fun f args => bif Nat.beq f f0 then p args else G.pure f args, G.loud⟩
def addL (f0 : FuncId) (l : List HV → List Ob → Option (KR → Bool)) (G : Gam) : Gam := ⟨G.pure, fun f args L => bif Nat.beq f f0 then l args L else G.loud f args L⟩

section
variable {P : Program} {w0 : World}

theorem addP_ok {G : Gam} (hG : GamOK P w0 G) {f0 : FuncId} {p : List HV → Option (Bool × HV)} (hb : hasBody P f0) (h : ∀ args r, p args = some r → r.1 = true → PureAns P w0 f0 args r.2) : GamOK P w0 (addP f0 p G) := by
  refine ⟨fun f args r hr => ?_, hG.loud⟩
  simp only [addP] at hr
  cases hf : Nat.beq f f0 with
  | true =>
    rw [hf] at hr
    have := Nat.eq_of_beq_eq_true hf
    subst this
    exact ⟨hb, fun h1 => (h args r hr h1).2⟩
  | false => rw [hf] at hr; exact hG.pure f args r hr

theorem addL_ok {G : Gam} (hG : GamOK P w0 G) {f0 : FuncId} {l : List HV → List Ob → Option (KR → Bool)} (h : ∀ args L F kr, l args L = some F → F kr = true → Does P w0 f0 args L kr) : GamOK P w0 (addL f0 l G) := by
  refine ⟨hG.pure, fun f args L F kr hF hk => ?_⟩
  simp only [addL] at hF
  cases hf : Nat.beq f f0 with
  | true =>
    rw [hf] at hF
    have := Nat.eq_of_beq_eq_true hf
    subst this
    exact h args L F kr hF hk
  | false => rw [hf] at hF; exact hG.loud f args L F kr hF hk

/-- A pure call, among any objects. -/
theorem does_pure {f : FuncId} {args : List HV} {h : HV} (hp : PureAns P w0 f args h) {L : List Ob} {kr : KR} (hk : kr (.ret h) L = true) : Does P w0 f args L kr := by
  refine ⟨hp.1, fun E vs hs ha => ?_⟩
  have hL : E.L = L := hs.L
  refine (hp.2 E vs (by rw [hL]; exact hs) ha).mono ?_
  rintro e w' ⟨E', y, rfl, e2, h3, h4, rfl, h6⟩
  rw [hL] at h3
  exact ⟨E', L, y, h, rfl, h3, h4, h6, .inl ⟨rfl, hk⟩⟩

theorem wpA_label {L0 : List Ob} {l : Nat} {st : St} {F : HX → St → Prop} (h : F .normal st) : WpA P w0 L0 (.label l) st F :=
  fun _ E t _ _ _ m hs hk => wp_label (hk E st t .normal h hs m)

theorem wpA_skip {L0 : List Ob} {st : St} {F : HX → St → Prop} (h : F .normal st) : WpA P w0 L0 .skip st F :=
  fun _ E t _ _ _ m hs hk => wp_skip (hk E st t .normal h hs m)

theorem wpA_cond {L0 : List Ob} {o : Operand} {a b : Code} {st : St} {F : HX → St → Prop} {x : Bool} (hv : fe true (opnd st.tmps o) = (true, .v (.bool x))) (ht : x = true → WpA P w0 L0 a st F) (hf : x = false → WpA P w0 L0 b st F) : WpA P w0 L0 (.cond o a b) st F :=
  fun E0 E t d QQ h0 m hs hk => by
    have h := fe_ok (E := E) (g := true) rfl (by rw [hv]) (opnd_ok (d := d) hs.tm o)
    rw [hv, relHV_v] at h
    cases x with
    | true => exact wp_cond_true h (ht rfl E0 E t d QQ h0 m hs hk)
    | false => exact wp_cond_false h (hf rfl E0 E t d QQ h0 m hs hk)

/-- Some temporaries forgotten, ahead of code. -/
theorem wpA_keep {L0 : List Ob} {c : Code} {st st' : St} {F : HX → St → Prop} (ks : List Nat) (he : st.keep ks = st') (h : WpA P w0 L0 c st' F) : WpA P w0 L0 c st F :=
  fun E0 E t d QQ h0 m hs hk => h E0 E t d QQ h0 m (by rw [← he]; exact sim_keep hs ks) hk

theorem wpA_exit {L0 : List Ob} {l : Nat} {st : St} {F : HX → St → Prop} (h : F (.exit l) st) : WpA P w0 L0 (.exit l) st F :=
  fun _ E t _ _ _ m hs hk => wp_exit (hk E st t (.exit l) h hs m)

/-- A call whose one object is a box of plain content. -/
theorem does_box1 {f : FuncId} {id : Nat} {t : TypeId} {x x' : HV} {ys : List HV} {L : List Ob} {kr : KR} {r : HR} (hL : L[id]? = some (.box t x)) (hx : ∀ R, ren R x = x) (hx' : ∀ R, ren R x' = x') (ha : ∀ R, rens R ys = ys) (hr : ∀ R, renHR R r = r)
    (h : ∀ k : KR, k r [.box t x'] = true → Does P w0 f (.ptr 0 0 :: ys) [.box t x] k) (hk : kr r (L.set id (.box t x')) = true) : Does P w0 f (.ptr id 0 :: ys) L kr := by
  refine does_frame [id] [0] (by simp [footOk, hL, Ob.isDead, Ob.ver]) ?_
  have e1 : rens (subR [id] [0]) (.ptr id 0 :: ys) = .ptr 0 0 :: ys := by
    simp only [rens, ha, ren, subR, posOf, Nat.beq_refl, cond_true]
    rfl
  have e2 : subL (subR [id] [0]) L [id] = [.box t x] := by
    simp only [subL, List.getD_eq_getElem?_getD, hL, Option.getD_some, renOb, hx]
  rw [e1, e2]
  refine h _ ?_
  show kr (renHR _ r) (putL _ [id] [0] [.box t x'] L) = true
  rw [hr]
  simp only [putL, renOb, hx', List.map_nil, List.append_nil]
  exact hk

/-- An answer told by cases. -/
theorem fork_does {α : Type} {l : List α} {a : Bool} {b : α → List α → Bool} {D : Prop} (h : fork l a b = true) (h0 : l = [] → a = true → D) (h1 : ∀ c r, l = c :: r → b c r = true → D) : D := by
  cases l with
  | nil => exact h0 rfl h
  | cons c r => exact h1 c r rfl h

end
end Go.Lx

namespace Go.Lx
open Go.RowKit

def seqs : List Code → Code → Code
  | [], c => c
  | a :: l, c => .seq a (seqs l c)

def evS (ev : Code → St → KX → Bool) : List Code → St → KX → Bool
  | [], st, k => k .normal st
  | a :: l, st, k => ev a st fun x st' => match x with
    | .normal => evS ev l st' k
    | x => k x st'

section
variable {P : Program} {w0 : World} {L0 : List Ob}

theorem wpA_evS {G : Gam} {call : CallK} {draw : DrawK} {gt : GotoK} {n : Nat} (hP : ProgOK P) (hG : GamOK P w0 G) (hcall : CallOK P w0 call) (hd : DrawOK P w0 draw) (hgt : GotoOK P w0 gt) (ks : List Nat) {c : Code} {F : HX → St → Prop} : ∀ (l : List Code) (st : St),
    evS (fun c st k => evC P G call draw (fun _ => none) gt n c st k) l st (fun x st' => yes (match x with | .normal => WpA P w0 L0 c (st'.keep ks) F | x => F x (st'.keep ks))) = true → WpA P w0 L0 (seqs l c) st F
  | [], st, h => fun E0 E t d QQ h0 m hs hk => of_yes h E0 E t d QQ h0 m (sim_keep hs ks) hk
  | a :: l, st, h => by
    refine wpA_seq (fun E0 E t d QQ h0 m hs hk => ?_)
    refine evC_sound (lp := fun _ => none) hP hG hcall hd hgt n a (fun id b F _ hlp => by cases hlp) st _ h E t d QQ hs (fun E' st' t' x hx h1 h2 => ?_)
    cases x with
    | normal => exact hk E' st' t' .normal (wpA_evS hP hG hcall hd hgt ks l st' hx) h1 (m.trans h2)
    | _ => exact hk E' _ t' _ (of_yes hx) (sim_keep h1 ks) (m.trans h2)
end
end Go.Lx
