/- Operations on values do what the evaluator has. -/
import Derived.Test.YtiaeljbnhdhfcaaGreatDoorM3
import Derived.Lib.ConvBytes
import Derived.Laws.BytesArg
import Derived.Laws.StructEq
namespace Go.Lx
open Go.RowKit

theorem flat_length (c : Cd) (xs : List c.den) : (xs.flatMap c.enc).length = xs.length * c.size := by
  induction xs with
  | nil => simp
  | cons x xs ih => simp [ih, Cd.enc_length, Nat.add_mul]; omega

theorem cellsAt_left {w : World} {b o : Nat} {x y : List Value} (h : cellsAt w b o (x ++ y)) : cellsAt w b o x :=
  fun k v hk => h k v (by rw [List.getElem?_append_left (List.getElem?_eq_some_iff.1 hk).1]; exact hk)

theorem cellsAt_right {w : World} {b o : Nat} {x y : List Value} (h : cellsAt w b o (x ++ y)) : cellsAt w b (o + x.length) y :=
  fun k v hk => by
    have := h (x.length + k) v (by rw [List.getElem?_append_right (by omega)]; simpa using hk)
    rwa [← Nat.add_assoc] at this

/-- One own row told as data. -/
theorem snap_row {w0 : World} {E : Env} {st : St} {t : List Value} (hs : Sim w0 E st t) {id ver fp len : Nat} {c : Cd} {xs : List c.den} (hid : E.L[id]? = some (.row c ver fp xs)) (hlen : len ≤ xs.length) :
    ∃ E' : Env, E'.w = E.w ∧ E'.β = E.β ∧ E'.L = E.L.set id (.row c ver (max fp len) xs) ∧ Sim w0 E' ⟨st.tmps, E'.L⟩ t ∧ Mod E E' ∧
      ∀ q l k, ownAt E c id ver len (.slice q l k) → relF E' (.d (.list c) (xs.take len)) [.slice q l k] := by
  have hob := hs.ob id _ hid
  simp only [relOb] at hob
  obtain ⟨hfp, hob⟩ := hob
  have hk : SameKind (.row c ver fp xs) (.row c ver (max fp len) xs) :=
    SameKind.rows (Nat.le_refl _)
  cases hb : E.β id ver with
  | none =>
    simp only [hb] at hob
    subst hob
    obtain rfl : len = 0 := by simpa using hlen
    let E' : Env := { E with L := E.L.set id (.row c ver (max fp 0) []) }
    obtain ⟨h1, h2⟩ := sim_set (E' := E') hs id _ _ hid rfl hk rfl (fun _ _ _ => rfl) (fun _ _ _ => rfl) (Ext.refl _ _) (fun _ _ h => .inl h) hs.Ilt
      (by simp only [relOb, E', hb]; exact ⟨by simpa using hfp, trivial⟩) (fun b p h => by simp only [Ob.ver, E'] at h; rw [hb] at h; cases h) rfl rfl rfl
    refine ⟨E', rfl, rfl, rfl, h1, h2, fun q l k ho => ?_⟩
    simp only [ownAt, hb] at ho
    simp only [relF, Cd.enc, List.take_nil, List.flatMap_nil, List.length_nil, relDCs, relDC]
    refine ⟨_, [], rfl, ?_, rfl⟩
    rcases ho.2 with e | ⟨b, o, e⟩
    · rw [e]; exact .inl ⟨trivial, trivial, rfl⟩
    · rw [e]; exact .inr ⟨b, o, 0, [], rfl, Nat.le_refl _, by simp, fun k v h => by simp at h, fun k h => by simp at h, rfl⟩
  | some bp =>
    obtain ⟨b, p⟩ := bp
    simp only [hb] at hob
    obtain ⟨C, e, lo, hi, vs, k1, k2, k3, k4, k5, k6, k7⟩ := hob
    have hsplit : xs.flatMap c.enc = (xs.take len).flatMap c.enc ++ (xs.drop len).flatMap c.enc := by
      rw [← List.flatMap_append, List.take_append_drop]
    rw [hsplit] at k3
    obtain ⟨v1, v2, rfl, r1, r2⟩ := relDCs_append.1 k3
    have l1 : v1.length = len * c.size := by rw [relDCs_length r1, flat_length, List.length_take, Nat.min_eq_left hlen]
    let I' : Nat → Nat → Prop := fun x q => E.I x q ∨ (x = b ∧ p ≤ q ∧ q < p + len * c.size)
    let E' : Env := { E with L := E.L.set id (.row c ver (max fp len) xs), I := I' }
    have hext : Ext E.I E.w E'.I E'.w := ⟨fun _ _ h => .inl h, fun _ _ _ => rfl, fun _ _ _ _ _ h => h, Nat.le_refl _, fun _ _ _ h => h⟩
    have hlt : b < E.w.heap.size := (Array.getElem?_eq_some_iff.1 k1).1
    have hsz : ∀ n m : Nat, n ≤ m → n * c.size ≤ m * c.size := fun n m h => Nat.mul_le_mul_right _ h
    obtain ⟨h1, h2⟩ := sim_set (E' := E') hs id _ _ hid rfl hk rfl (fun _ _ _ => rfl) (fun _ _ _ => rfl) hext
      (fun x q h => by
        rcases h with h | ⟨rfl, _, _⟩
        · exact .inl h
        · exact .inr (.inr ⟨p, hb⟩))
      (fun x q h => by
        rcases h with h | ⟨rfl, _, _⟩
        · exact hs.Ilt x q h
        · exact hlt)
      (by
        simp only [relOb]
        refine ⟨by omega, ?_⟩
        show match E.β id ver with | none => _ | some (b, p) => _
        rw [hb]
        refine ⟨C, e, lo, hi, v1 ++ v2, k1, k2, ?_, k4, k5, fun q h => ?_, k7⟩
        · rw [hsplit]; exact relDCs_append.2 ⟨v1, v2, rfl, relDCs_ext hext _ _ r1, relDCs_ext hext _ _ r2⟩
        · have a1 := hsz fp (max fp len) (by omega)
          have a2 := hsz len (max fp len) (by omega)
          rcases h with h | ⟨_, _, h⟩
          · have := k6 q h; omega
          · omega)
      (fun x q h => .inl ⟨q, h⟩) rfl rfl rfl
    refine ⟨E', rfl, rfl, rfl, h1, h2, fun q l k ho => ?_⟩
    simp only [ownAt, hb] at ho
    obtain ⟨cap, e', n, hy, g1, g2, g3⟩ := ho
    simp only [relF, Cd.enc, relDCs, relDC]
    refine ⟨_, [], rfl, ?_, rfl⟩
    rw [hy, List.length_take, Nat.min_eq_left hlen]
    exact .inr ⟨b, p, cap, v1, rfl, g1, l1, cellsAt_left k4, fun j hj => .inr ⟨rfl, by omega, by omega⟩, relDCs_ext hext _ _ r1⟩

/-- What a telling of own rows as data leaves. -/
structure Snapped (w0 : World) (E : Env) (tmps : Tm) (t : List Value) (L' : List Ob) (E' : Env) : Prop where
  w : E'.w = E.w
  β : E'.β = E.β
  L : E'.L = L'
  sim : Sim w0 E' ⟨tmps, L'⟩ t
  mod : Mod E E'

mutual
theorem snap_ok {w0 : World} {t : List Value} {tmps : Tm} (m : Nat) : ∀ (f : HV) (E : Env) (L : List Ob), (snap m f L).1 = true → Sim w0 E ⟨tmps, L⟩ t →
    ∃ E', Snapped w0 E tmps t (snap m f L).2.2 E' ∧ ∀ a, relF E f a → relF E' (snap m f L).2.1 a
  | .own c id ver len, E, L, hb, hs => by
    have same : ∃ E', Snapped w0 E tmps t L E' ∧ ∀ a, relF E (.own c id ver len) a → relF E' (.own c id ver len) a := ⟨E, ⟨rfl, rfl, hs.L, hs, Mod.refl E⟩, fun a h => h⟩
    unfold snap at hb ⊢
    by_cases hm : id < m
    · simp only [hm, decide_true, cond_true] at hb ⊢; exact same
    · simp only [hm, decide_false, cond_false] at hb ⊢
      split at hb
      · rename_i c' ver' fp xs hid
        split at hb
        · rename_i hv
          subst hv
          simp only [if_true]
          simp at hb
          have hid' : E.L[id]? = some (.row c' ver fp xs) := by rw [hs.L]; exact hid
          obtain ⟨E', e1, e2, e3, e4, e5, e6⟩ := snap_row hs hid' hb
          have e3' : E'.L = L.set id (.row c' ver (max fp len) xs) := by rw [e3, hs.L]
          refine ⟨E', ⟨e1, e2, e3', by rw [e3'] at e4; exact e4, e5⟩, fun a h => ?_⟩
          simp only [relF] at h
          obtain ⟨q, l, k, o, rfl, k1, k2, k3⟩ := h
          rw [hid'] at k1; cases k1
          obtain ⟨fp', xs', ho, hat⟩ := k3 rfl
          cases ho
          exact e6 q l k hat
        · cases hb
      · cases hb
  | .st fs, E, L, hb, hs => by
    simp only [snap] at hb ⊢
    obtain ⟨E', h1, h2⟩ := snaps_ok m fs E L hb hs
    exact ⟨E', h1, fun a h => by simp only [relF] at h ⊢; exact h2.1 a h⟩
  | .tup fs, E, L, hb, hs => by
    simp only [snap] at hb ⊢
    obtain ⟨E', h1, h2⟩ := snaps_ok m fs E L hb hs
    exact ⟨E', h1, fun a h => by simp only [relF] at h ⊢; exact h2.2 a h⟩
  | .v x, E, L, _, hs => ⟨E, ⟨rfl, rfl, hs.L, hs, Mod.refl E⟩, fun _ h => h⟩
  | .d c x, E, L, _, hs => ⟨E, ⟨rfl, rfl, hs.L, hs, Mod.refl E⟩, fun _ h => h⟩
  | .ptr .., E, L, _, hs => ⟨E, ⟨rfl, rfl, hs.L, hs, Mod.refl E⟩, fun _ h => h⟩
  | .dp .., E, L, _, hs => ⟨E, ⟨rfl, rfl, hs.L, hs, Mod.refl E⟩, fun _ h => h⟩
  | .rp .., E, L, _, hs => ⟨E, ⟨rfl, rfl, hs.L, hs, Mod.refl E⟩, fun _ h => h⟩
  | .zc, E, L, _, hs => ⟨E, ⟨rfl, rfl, hs.L, hs, Mod.refl E⟩, fun _ h => h⟩
  | .map _, E, L, _, hs => ⟨E, ⟨rfl, rfl, hs.L, hs, Mod.refl E⟩, fun _ h => h⟩
  | .it _, E, L, _, hs => ⟨E, ⟨rfl, rfl, hs.L, hs, Mod.refl E⟩, fun _ h => h⟩
  | .dm .., E, L, _, hs => ⟨E, ⟨rfl, rfl, hs.L, hs, Mod.refl E⟩, fun _ h => h⟩
  | .fn .., E, L, _, hs => ⟨E, ⟨rfl, rfl, hs.L, hs, Mod.refl E⟩, fun _ h => h⟩
  | .iface .., E, L, _, hs => ⟨E, ⟨rfl, rfl, hs.L, hs, Mod.refl E⟩, fun _ h => h⟩
  | .opt .., E, L, _, hs => ⟨E, ⟨rfl, rfl, hs.L, hs, Mod.refl E⟩, fun _ h => h⟩
  | .junk, E, L, _, hs => ⟨E, ⟨rfl, rfl, hs.L, hs, Mod.refl E⟩, fun _ h => h⟩
theorem snaps_ok {w0 : World} {t : List Value} {tmps : Tm} (m : Nat) : ∀ (fs : List HV) (E : Env) (L : List Ob), (snaps m fs L).1 = true → Sim w0 E ⟨tmps, L⟩ t →
    ∃ E', Snapped w0 E tmps t (snaps m fs L).2.2 E' ∧ (∀ a, relSt E fs a → relSt E' (snaps m fs L).2.1 a) ∧ ∀ a, relAll E fs a → relAll E' (snaps m fs L).2.1 a
  | [], E, L, _, hs => ⟨E, ⟨rfl, rfl, hs.L, hs, Mod.refl E⟩, fun _ h => h, fun _ h => h⟩
  | f :: fs, E, L, hb, hs => by
    simp only [snaps, Bool.and_eq_true] at hb ⊢
    obtain ⟨E1, h1, h2⟩ := snap_ok m f E L hb.1 hs
    obtain ⟨E2, k1, k2, k3⟩ := snaps_ok m fs E1 _ hb.2 h1.sim
    have md := h1.mod.trans k1.mod
    refine ⟨E2, ⟨k1.w.trans h1.w, k1.β.trans h1.β, k1.L, k1.sim, md⟩, fun a h => ?_, fun a h => ?_⟩
    · simp only [relSt] at h ⊢
      obtain ⟨x, y, rfl, hx, hy⟩ := h
      exact ⟨x, y, rfl, relF_mod k1.mod _ _ (h2 x hx), k2 y (relSt_mod h1.mod _ _ hy)⟩
    · simp only [relAll] at h ⊢
      obtain ⟨x, y, rfl, hx, hy⟩ := h
      exact ⟨x, y, rfl, snap_top m f L (fun v h => relF_mod k1.mod _ _ (h2 v h)) hx, k3 y (relAll_mod h1.mod _ _ hy)⟩
theorem snap_top {R R' : List Value → Prop} (m : Nat) : ∀ (f : HV) (L : List Ob) {y : Value}, (∀ v, R v → R' v) → top f R y → top (snap m f L).2.1 R' y
  | .own c id ver len, L, y, hr, h => by
    unfold snap
    cases decide (id < m)
    · simp only [cond_false]
      split
      · split
        · exact hr _ h
        · exact hr _ h
      · exact hr _ h
    · exact hr _ h
  | .st fs, L, y, hr, h => by simp only [snap]; exact top_mono hr (f := .st fs) h
  | .tup fs, L, y, hr, h => by simp only [snap]; exact top_mono hr (f := .tup fs) h
  | .v x, L, y, hr, h => top_mono hr (f := .v x) h
  | .d c x, L, y, hr, h => top_mono hr (f := .d c x) h
  | .ptr a b, L, y, hr, h => top_mono hr (f := .ptr a b) h
  | .dp a b, L, y, hr, h => top_mono hr (f := .dp a b) h
  | .rp a b c d e, L, y, hr, h => top_mono hr (f := .rp a b c d e) h
  | .zc, L, y, hr, h => top_mono hr (f := .zc) h
  | .map a, L, y, hr, h => top_mono hr (f := .map a) h
  | .it a, L, y, hr, h => top_mono hr (f := .it a) h
  | .dm a b c, L, y, hr, h => top_mono hr (f := .dm a b c) h
  | .fn a b c, L, y, hr, h => top_mono hr (f := .fn a b c) h
  | .iface a b, L, y, hr, h => top_mono hr (f := .iface a b) h
  | .opt a b, L, y, hr, h => top_mono hr (f := .opt a b) h
  | .junk, L, y, hr, h => top_mono hr (f := .junk) h
end

theorem snap_hv {w0 : World} {t : List Value} {tmps : Tm} (m : Nat) (f : HV) (E : Env) (L : List Ob) (hb : (snap m f L).1 = true) (hs : Sim w0 E ⟨tmps, L⟩ t) :
    ∃ E', Snapped w0 E tmps t (snap m f L).2.2 E' ∧ ∀ y, relHV E f y → relHV E' (snap m f L).2.1 y := by
  obtain ⟨E', h1, h2⟩ := snap_ok m f E L hb hs
  exact ⟨E', h1, fun y h => snap_top m f L h2 h⟩

end Go.Lx

namespace Go.Lx
open Go.RowKit

theorem pureOf_run {α : Type} {P : Program} {s : Sem α} {a : α} (h : pureOf P s = some a) (w : World) : s.run P w = .ok a w := by
  induction s with
  | pure b => simp only [pureOf, Option.some.injEq] at h; subst h; rfl
  | program k ih => simp only [pureOf] at h; exact ih P h
  | _ => simp [pureOf] at h

theorem run_info {P : Program} {t : TypeId} {i : TypeInfo} (h : P.info? t = some i) (w : World) : (typeInfo t).run P w = .ok i w := by
  simp [typeInfo, h]

theorem run_sizeOf {P : Program} {t : TypeId} {i : TypeInfo} (h : P.info? t = some i) (w : World) : (sizeOf t).run P w = .ok i.size w := by
  simp [sizeOf, run_info h]

theorem info_of_underlying {P : Program} {t : TypeId} {d : TypeDesc} (h : P.underlying t = some d) : ∃ i, P.info? t = some i := by
  unfold Program.underlying at h
  split at h
  · rename_i hi; exact ⟨_, hi⟩
  · rename_i hi; exact ⟨_, hi⟩
  · cases h

theorem sizeT_info {P : Program} {t : TypeId} {i : TypeInfo} (h : P.info? t = some i) : sizeT P t = i.size := by simp [sizeT, h]

theorem offT_some {P : Program} {s : TypeId} {f o : Nat} (h : offT P s f = some o) : ∃ fs fd i, P.underlying s = some (.struct fs) ∧ fs[f]? = some fd ∧ P.info? fd.type = some i ∧ i.size ≠ 0 ∧ fd.offset = o := by
  unfold offT structT at h
  split at h
  · rename_i fs hfs
    split at hfs
    · rename_i fs' hu
      cases hfs
      split at h
      · rename_i fd hfd
        split at h
        · rename_i i hi
          split at h
          · cases h
          · rename_i hz; cases h; exact ⟨fs, fd, i, hu, hfd, hi, hz, rfl⟩
        · cases h
      · cases h
    · cases hfs
  · cases h

theorem run_fieldAt {P : Program} {s : TypeId} {f o : Nat} (h : offT P s f = some o) (b p : Nat) (w : World) :
    (Instr.fieldAt s (.pointer (some ⟨b, p, none⟩)) f).run P w = .ok (.pointer (some ⟨b, p + o, none⟩)) w := by
  obtain ⟨fs, fd, i, h1, h2, h3, h4, rfl⟩ := offT_some h
  simp [Instr.fieldAt, run_underlying h1, h2, Instr.sureAddr, fieldPlace, run_sizeOf h3, h4, add_addr]

theorem relHV_ptr {E : Env} {id off : Nat} {y : Value} : relHV E (.ptr id off) y ↔ ∃ t x b o, E.L[id]? = some (.box t x) ∧ E.β id 0 = some (b, o) ∧ y = .pointer (some ⟨b, o + off, none⟩) := by
  simp [relHV, top, relF]

theorem relHV_dp {E : Env} {c : Cd} {x : c.den} {y : Value} : relHV E (.dp c x) y ↔ ∃ b o vs, y = .pointer (some ⟨b, o, none⟩) ∧ cellsAt E.w b o vs ∧ immut E.I b o vs.length ∧ relDCs E.I E.w (c.enc x) vs := by
  simp [relHV, top, relF]

theorem relHV_rp {E : Env} {c : Cd} {id ver i off : Nat} {y : Value} : relHV E (.rp c id ver i off) y ↔ ∃ q o, y = .pointer q ∧ E.L[id]? = some o ∧ ver ≤ o.ver ∧
    (ver = o.ver → ∃ fp xs, o = .row c ver fp xs ∧ ∃ b p, E.β id ver = some (b, p) ∧ q = some ⟨b, p + (i * c.size + off), none⟩) := by
  simp [relHV, top, relF]

theorem relHV_own {E : Env} {c : Cd} {id ver len : Nat} {y : Value} : relHV E (.own c id ver len) y ↔ ∃ q l k o, y = .slice q l k ∧ E.L[id]? = some o ∧ ver ≤ o.ver ∧
    (ver = o.ver → ∃ fp xs, o = .row c ver fp xs ∧ ownAt E c id ver len (.slice q l k)) := by
  simp [relHV, top, relF]

theorem relHV_list {E : Env} {c : Cd} {x : List c.den} {y : Value} : relHV E (.d (.list c) x) y ↔ relDC E.I E.w (.sl c.size x.length (x.flatMap c.enc)) y := by
  simp [relHV, top, relF, Cd.isAgg, Cd.enc, relDCs]

theorem relDCs_flds {I : Nat → Nat → Prop} {w : World} : ∀ (l : List D) (i : Nat) (s : D) (vs : List Value), l[i]? = some s → relDCs I w (l.flatMap fun s => s.1.enc s.2) vs →
    ∃ a b c, vs = a ++ b ++ c ∧ a.length = ((l.take i).map fun q => q.1.size).sum ∧ relDCs I w (s.1.enc s.2) b
  | [], i, s, vs, hi, _ => by simp at hi
  | q :: l, i, s, vs, hi, h => by
    simp only [List.flatMap_cons] at h
    obtain ⟨x, y, rfl, hx, hy⟩ := relDCs_append.1 h
    cases i with
    | zero => simp at hi; subst hi; exact ⟨[], x, y, by simp, by simp, hx⟩
    | succ i =>
      obtain ⟨a, b, c, rfl, h1, h2⟩ := relDCs_flds l i s y (by simpa using hi) hy
      exact ⟨x ++ a, b, c, by simp, by simp [h1, relDCs_length hx, Cd.enc_length], h2⟩

theorem immut_part {I : Nat → Nat → Prop} {b o : Nat} {x y z : List Value} (h : immut I b o (x ++ y ++ z).length) : immut I b (o + x.length) y.length := fun k hk => by
  rw [Nat.add_assoc]; exact h _ (by simp; omega)

theorem cellsAt_part {w : World} {b o : Nat} {x y z : List Value} (h : cellsAt w b o (x ++ y ++ z)) : cellsAt w b (o + x.length) y := cellsAt_right (cellsAt_left h)

theorem fieldH_ok {P : Program} {E : Env} {s : TypeId} {f : Nat} {h h' : HV} {y : Value} (hf : fieldH P E.L s f h = some h') (hr : relHV E h y) :
    ∃ y', (Instr.fieldAt s y f).run P E.w = .ok y' E.w ∧ relHV E h' y' := by
  unfold fieldH at hf
  split at hf
  · rename_i id off
    rw [Option.map_eq_some_iff] at hf
    obtain ⟨o, ho, rfl⟩ := hf
    obtain ⟨t, x, b, p, h1, h2, rfl⟩ := relHV_ptr.1 hr
    exact ⟨_, run_fieldAt ho b (p + off) E.w, relHV_ptr.2 ⟨t, x, b, p, h1, h2, by rw [Nat.add_assoc]⟩⟩
  · rename_i c id ver i off
    split at hf
    · rename_i hid
      split at hf
      · rename_i hv
        rw [Option.map_eq_some_iff] at hf
        obtain ⟨o, ho, rfl⟩ := hf
        obtain ⟨q, ob, rfl, h1, h2, h3⟩ := relHV_rp.1 hr
        rw [hid] at h1; cases h1
        obtain ⟨fp, xs, e, b, p, hb, rfl⟩ := h3 hv
        refine ⟨_, run_fieldAt ho b _ E.w, relHV_rp.2 ⟨_, _, rfl, hid, h2, fun _ => ⟨fp, xs, e, b, p, hb, ?_⟩⟩⟩
        congr 2
        omega
      · cases hf
    · cases hf
  · rename_i c x
    split at hf
    · rename_i s' hs
      split at hf
      · rename_i hc
        cases hf
        simp only [Bool.and_eq_true, beq_iff_eq] at hc
        obtain ⟨b, o, vs, rfl, h2, h3, h4⟩ := relHV_dp.1 hr
        rw [Cd.enc_flds hc.1] at h4
        obtain ⟨u, v, z, rfl, h5, h6⟩ := relDCs_flds _ _ _ _ hs h4
        refine ⟨_, run_fieldAt hc.2 b o E.w, relHV_dp.2 ⟨b, _, v, rfl, ?_, ?_, h6⟩⟩
        · rw [← h5]; exact cellsAt_part h2
        · rw [← h5]; exact immut_part h3
      · cases hf
    · cases hf
  · cases hf

theorem run_isAgg {P : Program} {t : TypeId} (h : okT P t = true) (w : World) : (isAgg t).run P w = .ok (aggT P t) w := by
  obtain ⟨d, hd⟩ := Option.isSome_iff_exists.1 h
  simp only [isAgg, Sem.run_bind, run_underlying hd, Result.andThen_ok, aggT, hd]
  cases d <;> rfl

theorem okT_info {P : Program} {t : TypeId} (h : okT P t = true) : ∃ i, P.info? t = some i := by
  obtain ⟨d, hd⟩ := Option.isSome_iff_exists.1 h
  exact info_of_underlying hd

theorem loadVar_run {P : Program} {t : TypeId} {w : World} {b o : Nat} {vs : List Value} (hk : okT P t = true) (hl : vs.length = sizeT P t) (hc : cellsAt w b o vs) :
    (aggT P t = true → (loadVar t ⟨b, o, none⟩).run P w = .ok (.agg vs.toArray) w) ∧ (aggT P t = false → ∀ v, vs = [v] → (loadVar t ⟨b, o, none⟩).run P w = .ok v w) := by
  obtain ⟨i, hi⟩ := okT_info hk
  rw [sizeT_info hi] at hl
  refine ⟨fun ha => ?_, fun ha v hv => ?_⟩
  · simp only [loadVar, Sem.run_bind, run_isAgg hk, ha, Result.andThen_ok, if_true, run_sizeOf hi, ← hl, run_loadCells_at w b o vs hc]
    rfl
  · subst hv
    have := hc 0 v (by simp)
    simp only [loadVar, Sem.run_bind, run_isAgg hk, ha, Result.andThen_ok, Bool.false_eq_true, if_false, run_load]
    simp only [Nat.add_zero] at this
    rw [this]

/-- What is loaded off cells of which a part is asked. -/
theorem load_part {P : Program} {E : Env} {t : TypeId} {b o : Nat} {x g : HV} {off n : Nat} {vs : List Value} (hk : okT P t = true) (hg : getAt n x off (aggT P t) (sizeT P t) = some g)
    (hb : (g.aggr || boxable g) = true) (hr : relF E x vs) (hc : cellsAt E.w b o vs) : ∃ y, (loadVar t ⟨b, o + off, none⟩).run P E.w = .ok y E.w ∧ relHV E g y := by
  obtain ⟨p, u, q, rfl, h1, h2, h3, h4⟩ := getAt_ok n x off _ _ g vs hg hr
  have hc' : cellsAt E.w b (o + off) u := by rw [← h1]; exact cellsAt_part hc
  obtain ⟨k1, k2⟩ := loadVar_run (P := P) hk h2 hc'
  cases ha : aggT P t with
  | true => exact ⟨_, k1 ha, relHV_of_agg (by rw [h4, ha]) h3⟩
  | false =>
    rw [ha] at h4
    rw [h4] at hb
    have hw : u.length = 1 := by
      rw [relF_length g u h3]
      cases g <;> first | (simp [boxable] at hb; done) | (simp [HV.aggr] at h4; done) | rfl | skip
      case v x => cases x <;> first | (simp [boxable] at hb; done) | (simp [HV.aggr] at h4; done) | rfl
      case d c x => cases c <;> first | (simp [HV.aggr, Cd.isAgg] at h4; done) | rfl
    obtain ⟨v, rfl⟩ : ∃ v, u = [v] := by
      match u, hw with
      | [v], _ => exact ⟨v, rfl⟩
    exact ⟨v, k2 ha v rfl, relHV_of_one h4 (by simpa using hb) h3⟩

theorem enc_elem {c : Cd} {xs : List c.den} {i : Nat} {E : Env} {vs : List Value} (hi : i < xs.length) (h : relDCs E.I E.w (xs.flatMap c.enc) vs) :
    ∃ a b z, vs = a ++ b ++ z ∧ a.length = i * c.size ∧ b.length = c.size ∧ relDCs E.I E.w (c.enc (xs.getD i default)) b := by
  have : xs[i]? = some (xs.getD i default) := by simp [List.getElem?_eq_getElem hi]
  exact relDCs_flat (fun x => Cd.enc_length c x) h i _ this

theorem loadH_ok {P : Program} {w0 : World} {E : Env} {st : St} {ts : List Value} (hs : Sim w0 E st ts) {t : TypeId} {h : HV} {r : Bool × HV} {y : Value} (hl : loadH P t E.L h = some r) (hr1 : r.1 = true) (hr : relHV E h y) :
    ∃ y', (Instr.loadAt t y).run P E.w = .ok y' E.w ∧ relHV E r.2 y' := by
  unfold loadH at hl
  split at hl
  · cases hl
  rename_i hk
  simp only [Bool.not_eq_true, Bool.not_eq_false'] at hk
  split at hl
  · rename_i id off
    split at hl
    · rename_i tb x hid
      rw [Option.map_eq_some_iff] at hl
      obtain ⟨g, hg, rfl⟩ := hl
      obtain ⟨t', x', b, o, h1, h2, rfl⟩ := relHV_ptr.1 hr
      rw [hid] at h1; cases h1
      obtain ⟨b', vs, k1, k2, k3, k4⟩ := hs.ob id _ hid
      rw [h2] at k1; cases k1
      have hc : cellsAt E.w b 0 vs := fun k v hkv => by simp [World.cell?, k2, hkv]
      obtain ⟨y', e1, e2⟩ := load_part (P := P) hk hg hr1 k3 hc
      exact ⟨y', by simpa [Instr.loadAt, Instr.sureAddr] using e1, e2⟩
    · cases hl
  · rename_i c x
    split at hl
    · rename_i hc
      cases hl
      obtain ⟨b, o, vs, rfl, h2, h3, h4⟩ := relHV_dp.1 hr
      have hlen : vs.length = sizeT P t := by rw [relDCs_length h4, Cd.enc_length, hc.2]
      obtain ⟨k1, k2⟩ := loadVar_run (P := P) hk hlen h2
      cases ha : aggT P t with
      | true => exact ⟨_, by simpa [Instr.loadAt, Instr.sureAddr] using k1 ha, (relHV_ofD_agg (by rw [hc.1, ha]) _).2 ⟨vs, rfl, h4⟩⟩
      | false =>
        rw [ha] at hc
        have h1 : vs.length = 1 := by rw [relDCs_length h4, Cd.enc_length]; cases c <;> first | (simp [Cd.isAgg] at hc; done) | rfl
        obtain ⟨v, rfl⟩ : ∃ v, vs = [v] := by
          match vs, h1 with
          | [v], _ => exact ⟨v, rfl⟩
        exact ⟨v, by simpa [Instr.loadAt, Instr.sureAddr] using k2 ha v rfl, (relHV_ofD hc.1 _).2 h4⟩
    · cases hl
  · rename_i c id ver i off
    split at hl
    · rename_i c' ver' fp xs hid
      split at hl
      · rename_i hv
        rw [Option.map_eq_some_iff] at hl
        obtain ⟨g, hg, rfl⟩ := hl
        simp only [Bool.and_eq_true, decide_eq_true_eq] at hr1
        obtain ⟨q, ob, rfl, h1, h2, h3⟩ := relHV_rp.1 hr
        rw [hid] at h1; cases h1
        obtain ⟨fp', xs', e, b, p, hb, rfl⟩ := h3 hv
        cases e
        have hob := hs.ob id _ hid
        simp only [relOb, hb] at hob
        obtain ⟨_, C, e', lo, hi, vs, k1, k2, k3, k4, k5, k6⟩ := hob
        obtain ⟨u, v, z, rfl, l1, l2, l3⟩ := enc_elem hr1.1 k3
        have hc : cellsAt E.w b (p + i * c.size) v := by rw [← l1]; exact cellsAt_part k4
        obtain ⟨y', e1, e2⟩ := load_part (P := P) hk hg hr1.2 ((relF_ofD (E := E) ⟨_, _⟩ v).2 l3) hc
        exact ⟨y', by rw [Nat.add_assoc] at e1; simpa [Instr.loadAt, Instr.sureAddr] using e1, e2⟩
      · cases hl
    · cases hl
  · cases hl

end Go.Lx

namespace Go.Lx
open Go.RowKit

theorem elemT_some {P : Program} {t e : TypeId} (h : elemT P t = some e) : P.underlying t = some (.slice e) := by
  unfold elemT at h
  split at h
  · rename_i hu; cases h; exact hu
  · cases h

theorem run_sizeOf' {P : Program} {e : TypeId} {n : Nat} (h : sizeT P e = n) (hn : n ≠ 0) (w : World) : (sizeOf e).run P w = .ok n w := by
  unfold sizeT at h
  split at h
  · rename_i i hi; rw [run_sizeOf hi, h]
  · exact absurd h.symm hn

theorem Cd.size_pos (c : Cd) : c.size ≠ 0 := by cases c <;> simp [Cd.size]

theorem run_indexAt {P : Program} {t e : TypeId} {n b o cap len : Nat} {k : IntKind} {i : Int} (h : elemT P t = some e) (hs : sizeT P e = n) (hn : n ≠ 0) (h0 : 0 ≤ i) (h1 : i < len) (w : World) :
    (Instr.indexAt t (.slice (some ⟨b, o, none⟩) len cap) (.int k i)).run P w = .ok (.pointer (some ⟨b, o + i.toNat * n, none⟩)) w := by
  have hu := elemT_some h
  simp only [Instr.indexAt, asIntOf, Sem.run_bind, Sem.run_pure, Result.andThen_ok, run_underlying hu, Bool.and_false]
  rw [if_pos ⟨h0, h1⟩]
  simp [run_sizeOf' hs hn, add_addr]

theorem indexAddrH_ok {P : Program} {E : Env} {t : TypeId} {h i : HV} {r : Bool × HV} {y z : Value} (hl : indexAddrH P t E.L h i = some r) (hr1 : r.1 = true)
    (hr : relHV E h y) (hi : relHV E i z) : ∃ y', (Instr.indexAt t y z).run P E.w = .ok y' E.w ∧ relHV E r.2 y' := by
  unfold indexAddrH at hl
  split at hl
  · rename_i c xs k i
    split at hl
    · rename_i e he
      split at hl
      · rename_i hsz
        cases hl
        simp only [Bool.and_eq_true, decide_eq_true_eq] at hr1
        rw [relHV_v] at hi; subst hi
        rw [relHV_list] at hr
        simp only [relDC] at hr
        have hlt : i.toNat < xs.length := by omega
        rcases hr with ⟨h0, _, _⟩ | ⟨b, o, cap, vs, rfl, h2, h3, h4, h5, h6⟩
        · omega
        · obtain ⟨u, v, q, rfl, l1, l2, l3⟩ := enc_elem hlt h6
          refine ⟨_, run_indexAt he hsz (Cd.size_pos c) hr1.1 hr1.2 E.w, relHV_dp.2 ⟨b, _, v, rfl, ?_, ?_, l3⟩⟩
          · rw [← l1]; exact cellsAt_part h4
          · rw [← l1]; exact immut_part (z := q) (by rw [h3]; exact h5)
      · cases hl
    · cases hl
  · rename_i c id ver len k i
    split at hl
    · rename_i e c' ver' fp xs he hid
      split at hl
      · rename_i hc
        cases hl
        simp only [Bool.and_eq_true, decide_eq_true_eq] at hr1
        rw [relHV_v] at hi; subst hi
        obtain ⟨q, l, cap, o, rfl, h1, h2, h3⟩ := relHV_own.1 hr
        rw [hid] at h1; cases h1
        obtain ⟨fp', xs', e', hat⟩ := h3 hc.1
        cases e'
        simp only [ownAt] at hat
        split at hat
        · omega
        · rename_i b p hb
          obtain ⟨cap', e', n, hy, g1, g2, g3⟩ := hat
          cases hy
          refine ⟨_, run_indexAt he hc.2 (Cd.size_pos _) hr1.1.1 hr1.1.2 E.w, relHV_rp.2 ⟨_, _, rfl, hid, h2, fun _ => ⟨_, _, rfl, b, p, hb, by simp⟩⟩⟩
      · cases hl
    · cases hl
  · cases hl

/-! Texts -/

theorem size_list (s : ByteArray) : s.data.toList.length = s.size := rfl

theorem extract_eq (s : ByteArray) (l h : Nat) : s.extract l h = bsub s l h := by
  apply ByteArray.ext
  apply Array.ext'
  simp only [bsub, ByteArray.data_extract, Array.toList_extract, List.extract_eq_take_drop]
  rw [List.drop_take]

theorem append_eq (a b : ByteArray) : a ++ b = bcat a b := by
  apply ByteArray.ext
  apply Array.ext'
  simp [bcat]

theorem get_eq (s : ByteArray) (i : Nat) (h : i < s.size) : ∃ b, s[i]? = some b ∧ ((b.toNat : Int)) = bget s i := by
  refine ⟨s[i], by simp [h], ?_⟩
  have : s.data.toList[i]? = some s[i] := by
    rw [List.getElem?_eq_getElem (by rw [size_list]; exact h)]
    rfl
  simp [bget, List.getD_eq_getElem?_getD, this]

theorem indexH_ok {P : Program} {E : Env} {t : TypeId} {h i : HV} {r : Bool × HV} {y z : Value} (hl : indexH P t h i = some r) (hr1 : r.1 = true) (hr : relHV E h y) (hi : relHV E i z) :
    ∃ y', (Instr.index t y z).run P E.w = .ok y' E.w ∧ relHV E r.2 y' := by
  unfold indexH at hl
  split at hl
  · rename_i s k i
    split at hl
    · rename_i hu
      cases hl
      simp only [Bool.and_eq_true, decide_eq_true_eq] at hr1
      rw [relHV_v] at hi hr; subst hi; subst hr
      obtain ⟨b, hb, hn⟩ := get_eq s i.toNat (by omega)
      refine ⟨.int .u8 (bget s i.toNat), ?_, rfl⟩
      simp only [Instr.index, asIntOf, Sem.run_bind, Sem.run_pure, Result.andThen_ok, run_underlying hu, hr1.1, if_true]
      rw [hb]
      simp [hn]
    · cases hl
  · cases hl

theorem run_bound {E : Env} {h : Option HV} {v : Option Value} {d n : Int} (hb : boundH h d = some n) (hv : ∀ x y, h = some x → v = some y → relHV E x y) (hs : h.isSome = v.isSome) :
    (v = none ∧ n = d) ∨ ∃ k, v = some (.int k n) := by
  unfold boundH at hb
  split at hb
  · cases hb; cases v <;> simp_all
  · cases v with
    | none => simp at hs
    | some y => cases hb; have := hv _ y rfl rfl; rw [relHV_v] at this; exact .inr ⟨_, by rw [this]⟩
  · cases hb

theorem run_sliceBound' {P : Program} {k : IntKind} {i : Int} {y : Nat} {code : BoundsCode} (h0 : 0 ≤ i) (h1 : i ≤ y) (w : World) : (Instr.sliceBound (.int k i) y code).run P w = .ok i.toNat w := by
  simp [Instr.sliceBound, asIntOf, h0, h1]

theorem run_sliceBounds {P : Program} {isSlice : Bool} {len cap : Nat} {lo hi : Option Value} {l h : Int} (hlo : (lo = none ∧ l = 0) ∨ ∃ k, lo = some (.int k l)) (hhi : (hi = none ∧ h = len) ∨ ∃ k, hi = some (.int k h))
    (h0 : 0 ≤ l) (h1 : l ≤ h) (h2 : h ≤ cap) (w : World) : (Instr.sliceBounds isSlice len cap lo hi none).run P w = .ok (l.toNat, h.toNat, cap) w := by
  rcases hlo with ⟨rfl, rfl⟩ | ⟨k, rfl⟩ <;> rcases hhi with ⟨rfl, rfl⟩ | ⟨k', rfl⟩
  · simp [Instr.sliceBounds]
  · simp [Instr.sliceBounds, run_sliceBound' (P := P) (k := k') (show (0 : Int) ≤ h by omega) h2]
  · simp [Instr.sliceBounds, run_sliceBound' (P := P) (k := k) h0 h1]
  · have h3 : l ≤ ((h.toNat : Nat) : Int) := by omega
    simp [Instr.sliceBounds, run_sliceBound' (P := P) (k := k') (show (0 : Int) ≤ h by omega) h2, run_sliceBound' (P := P) (k := k) h0 h3]

theorem sliceH_ok {P : Program} {E : Env} {t : TypeId} {x : HV} {lo hi : Option HV} {r : Bool × HV} {y : Value} {vlo vhi : Option Value}
    (hl : sliceH P t E.L x lo hi = some r) (hr1 : r.1 = true) (hr : relHV E x y) (hlo : ∀ a b, lo = some a → vlo = some b → relHV E a b) (slo : lo.isSome = vlo.isSome)
    (hhi : ∀ a b, hi = some a → vhi = some b → relHV E a b) (shi : hi.isSome = vhi.isSome) : ∃ y', (Instr.sliceAt t y vlo vhi none).run P E.w = .ok y' E.w ∧ relHV E r.2 y' := by
  have plain : ∀ d, P.underlying t = some d → (∀ n e, d ≠ .array n e) → (Instr.sliceAt t y vlo vhi none).run P E.w = (Instr.slice t y vlo vhi none).run P E.w := by
    intro d hd hne
    simp only [Instr.sliceAt, Sem.run_bind, run_underlying hd, Result.andThen_ok]
    try (split <;> first | rfl | (rename_i e; exact absurd rfl (hne _ _)))
  unfold sliceH at hl
  split at hl
  · rename_i s
    split at hl
    · rename_i h l hu hh hlw
      cases hl
      simp only [Bool.and_eq_true, decide_eq_true_eq] at hr1
      rw [relHV_v] at hr; subst hr
      rw [plain _ hu (fun _ _ e => by cases e)]
      have e : bsubH s l.toNat hi h = bsub s l.toNat h.toNat := by
        cases hi with
        | some _ => rfl
        | none =>
          simp only [boundH, Option.some.injEq] at hh
          subst hh
          simp only [bsubH, bsub]
          rw [List.take_of_length_le (by rw [size_list]; simp)]
      refine ⟨.string (bsubH s l.toNat hi h), ?_, rfl⟩
      rw [e]
      have hb := run_sliceBounds (P := P) (isSlice := false) (len := s.size) (cap := s.size) (run_bound hlw hlo slo) (run_bound hh hhi shi) hr1.1.1 hr1.1.2 hr1.2 E.w
      simp [Instr.slice, run_underlying hu, hb, extract_eq]
    · cases hl
  · rename_i c xs
    split at hl
    · rename_i e h l he hh hlw
      split at hl
      · rename_i hsz
        cases hl
        simp only [Bool.and_eq_true, decide_eq_true_eq] at hr1
        have hu := elemT_some he
        rw [plain _ hu (fun _ _ e => by cases e)]
        rw [relHV_list] at hr
        simp only [relDC] at hr
        have hfl : (xs.take h.toNat).drop l.toNat = (xs.drop l.toNat).take (h.toNat - l.toNat) := by rw [List.drop_take]
        rcases hr with ⟨h0, h1, rfl⟩ | ⟨b, o, cap, vs, rfl, h2, h3, h4, h5, h6⟩
        · have hh0 : h = 0 := by have : xs.length = 0 := h0; omega
          have hl0 : l = 0 := by omega
          subst hh0; subst hl0
          have hb := run_sliceBounds (P := P) (isSlice := true) (len := xs.length) (cap := 0) (run_bound hlw hlo slo) (run_bound hh hhi shi) (by omega) (by omega) (by omega) E.w
          rw [h0] at hb
          refine ⟨.slice none 0 0, ?_, ?_⟩
          · simp [Instr.slice, run_underlying hu, hb, run_sizeOf' hsz (Cd.size_pos c)]
          · rw [relHV_list]; simp [relDC]
        · have hb := run_sliceBounds (P := P) (isSlice := true) (len := xs.length) (cap := cap) (run_bound hlw hlo slo) (run_bound hh hhi shi) (by omega) (by omega) (by omega) E.w
          refine ⟨.slice (some (if cap = l.toNat then ⟨b, o, none⟩ else ⟨b, o + l.toNat * c.size, none⟩)) (h.toNat - l.toNat) (cap - l.toNat), ?_, ?_⟩
          · simp only [Instr.slice, Sem.run_bind, run_underlying hu, Result.andThen_ok, hb, run_sizeOf' hsz (Cd.size_pos c), Sem.run_pure]
            split <;> simp [add_addr]
          · rw [relHV_list]
            simp only [relDC]
            have hx : xs.flatMap c.enc = (xs.take l.toNat).flatMap c.enc ++ ((xs.take h.toNat).drop l.toNat).flatMap c.enc ++ (xs.drop h.toNat).flatMap c.enc := by
              rw [← List.flatMap_append, ← List.flatMap_append]
              congr 1
              rw [show xs.take l.toNat = (xs.take h.toNat).take l.toNat by rw [List.take_take]; congr 1; omega, List.take_append_drop, List.take_append_drop]
            rw [hx] at h6
            obtain ⟨v12, v3, rfl, r12, r3⟩ := relDCs_append.1 h6
            obtain ⟨v1, v2, rfl, r1, r2⟩ := relDCs_append.1 r12
            have e1 : v1.length = l.toNat * c.size := by rw [relDCs_length r1, flat_length, List.length_take, Nat.min_eq_left (by omega)]
            have e2 : ((xs.take h.toNat).drop l.toNat).length = h.toNat - l.toNat := by simp; omega
            rw [e2]
            by_cases hcl : cap = l.toNat
            · have hz : h.toNat - l.toNat = 0 := by omega
              rw [if_pos hcl, hz]
              refine .inr ⟨b, o, cap - l.toNat, [], rfl, by omega, by simp, fun k v h => by simp at h, fun k h => by omega, ?_⟩
              have : (xs.take h.toNat).drop l.toNat = [] := List.eq_nil_of_length_eq_zero (by omega)
              rw [this]; rfl
            · rw [if_neg hcl]
              refine .inr ⟨b, _, cap - l.toNat, v2, rfl, by omega, by rw [relDCs_length r2, flat_length, e2], ?_, ?_, r2⟩
              · rw [← e1]; exact cellsAt_part h4
              · have := immut_part (I := E.I) (b := b) (o := o) (x := v1) (y := v2) (z := v3) (by rw [h3]; exact h5)
                rw [← e1]
                rwa [relDCs_length r2, flat_length, e2] at this
      · cases hl
    · cases hl
  · rename_i c id ver len
    split at hl
    · rename_i e h c' ver' fp xs he hh hid
      split at hl
      · rename_i hvz
        obtain ⟨hv, hsz⟩ := hvz
        cases hl
        simp only [Bool.and_eq_true, decide_eq_true_eq] at hr1
        have hu := elemT_some he
        rw [plain _ hu (fun _ _ e => by cases e)]
        obtain ⟨q, l, cap, o, rfl, h1, h2, h3⟩ := relHV_own.1 hr
        rw [hid] at h1; cases h1
        obtain ⟨fp', xs', e', hat⟩ := h3 hv
        cases e'
        have hz : (sizeOf e).run P E.w = .ok c.size E.w := run_sizeOf' hsz (Cd.size_pos _) E.w
        simp only [ownAt] at hat
        split at hat
        · rename_i hb
          obtain ⟨hl0, hy⟩ := hat
          have hh0 : h = 0 := by omega
          subst hh0
          have hcap : l = 0 ∧ cap = 0 := by
            rcases hy with e | ⟨_, _, e⟩ <;> cases e <;> exact ⟨rfl, rfl⟩
          obtain ⟨rfl, rfl⟩ := hcap
          subst hl0
          have hbd := run_sliceBounds (P := P) (isSlice := true) (len := 0) (cap := 0) (.inl ⟨rfl, rfl⟩) (run_bound hh hhi shi) (by omega) (by omega) (by omega) E.w
          refine ⟨.slice q 0 0, ?_, relHV_own.2 ⟨q, 0, 0, _, rfl, hid, h2, fun _ => ⟨_, _, rfl, ?_⟩⟩⟩
          · have : vlo = none := by cases vlo with | none => rfl | some x => cases slo
            subst this
            simp [Instr.slice, run_underlying hu, hbd, hz]
          · simp only [ownAt, hb]; exact ⟨rfl, hy⟩
        · rename_i b p hb
          obtain ⟨cap', e', n, hy, g1, g2, g3⟩ := hat
          cases hy
          have hbd := run_sliceBounds (P := P) (isSlice := true) (len := len) (cap := cap) (.inl ⟨rfl, rfl⟩) (run_bound hh hhi shi) (by omega) (by omega) (by omega) E.w
          refine ⟨.slice (some ⟨b, p, none⟩) h.toNat cap, ?_, relHV_own.2 ⟨_, _, _, _, rfl, hid, h2, fun _ => ⟨_, _, rfl, ?_⟩⟩⟩
          · have : vlo = none := by cases vlo with | none => rfl | some x => cases slo
            subst this
            simp [Instr.slice, run_underlying hu, hbd, hz, add_addr]
          · simp only [ownAt, hb]
            exact ⟨cap, e', n, rfl, by omega, g2, g3⟩
      · cases hl
    · cases hl
  · cases hl

theorem sliceFullH_ok {P : Program} {E : Env} {t : TypeId} {x h m : HV} {r : Bool × HV} {y vh vm : Value} (hl : sliceFullH P t x h m = some r) (hr1 : r.1 = true) (hr : relHV E x y) (hh : relHV E h vh) (hm : relHV E m vm) :
    ∃ y', (Instr.sliceAt t y none (some vh) (some vm)).run P E.w = .ok y' E.w ∧ relHV E r.2 y' := by
  unfold sliceFullH at hl
  split at hl
  · rename_i c xs k hi k' mx
    split at hl
    · rename_i e he
      split at hl
      · rename_i hsz
        cases hl
        simp only [Bool.and_eq_true, decide_eq_true_eq] at hr1
        obtain ⟨rfl, rfl⟩ := hr1
        rw [relHV_v] at hh hm
        subst hh; subst hm
        have hu := elemT_some he
        have plain : (Instr.sliceAt t y none (some (.int k xs.length)) (some (.int k' xs.length))).run P E.w = (Instr.slice t y none (some (.int k xs.length)) (some (.int k' xs.length))).run P E.w := by
          simp only [Instr.sliceAt, Sem.run_bind, run_underlying hu, Result.andThen_ok]
        rw [plain]
        have hr0 := hr
        rw [relHV_list] at hr
        simp only [relDC] at hr
        rcases hr with ⟨h0, h1, rfl⟩ | ⟨b, o, cap, vs, rfl, h2, h3, h4, h5, h6⟩
        · refine ⟨.slice none 0 0, ?_, hr0⟩
          have hx : xs.length = 0 := h0
          simp [Instr.slice, run_underlying hu, Instr.sliceBounds, run_sliceBound', hx, run_sizeOf' hsz (Cd.size_pos c)]
        · refine ⟨.slice (some ⟨b, o, none⟩) xs.length xs.length, ?_, ?_⟩
          · simp [Instr.slice, run_underlying hu, Instr.sliceBounds, run_sliceBound', h2, run_sizeOf' hsz (Cd.size_pos c), add_addr]
          · rw [relHV_list]
            simp only [relDC]
            exact .inr ⟨b, o, xs.length, vs, rfl, Nat.le_refl _, h3, h4, h5, h6⟩
      · cases hl
    · cases hl
  · cases hl

end Go.Lx

namespace Go.Lx
open Go.RowKit

/-- What is asked of the program's tables beyond what the abstract machine asks by itself. -/
structure ProgOK (P : Program) : Prop where
  mixed : P.follows .mixedOrders = true
  dec : ∃ f0 f1 f2 : Field, P.underlying 40 = some (.struct #[f0, f1, f2]) ∧ (f0.name ≠ "_" ∧ f0.type = 4 ∧ f0.offset = 0) ∧ (f1.name ≠ "_" ∧ f1.type = 9 ∧ f1.offset = 1) ∧ (f2.name ≠ "_" ∧ f2.type = 3 ∧ f2.offset = 2)
  guard40 : P.eqGuardType P.depth 40 = false
  held40 : P.stoodInHeld 40 = false
  u4 : P.underlying 4 = some .bool
  u9 : P.underlying 9 = some .string
  u3 : P.underlying 3 = some (.int .i64)
  names : ∀ (f : Nat) (fn : Func), P.funcs[f]? = some fn → (fn.name == "runtime.NumGoroutine") = false
  zeros : ∀ t i, t < 336 → P.info? t = some i → ∃ z, i.zero = some z ∧ z.cells.size = i.size

theorem beq_bytes (a b : ByteArray) : (a == b) = beqS a b := by
  cases a; cases b
  rename_i x y
  show (x == y) = (x.toList == y.toList)
  rw [Bool.eq_iff_iff]; simp [beq_iff_eq]

theorem beqS_eq {a b : ByteArray} (h : beqS a b = true) : a = b := by
  unfold beqS at h; rw [beq_iff_eq] at h; exact ByteArray.ext (Array.ext' h)

theorem toList_beq (a b : ByteArray) : (a.toList == b.toList) = beqS a b := by rw [ByteArray.toList_eq, ByteArray.toList_eq]; rfl

/-! Tests and sums -/

theorem run_partAt {P : Program} {t : TypeId} {d : TypeDesc} (hu : P.underlying t = some d) (hd : (match d with | .struct _ => true | .array _ _ => true | _ => false) = false) {cs : Array Value} {o : Nat} {v : Value}
    (hv : cs[o]? = some v) (w : World) : (part t cs o).run P w = .ok v w := by
  have h : (isAgg t).run P w = .ok false w := by
    simp only [isAgg, Sem.run_bind, run_underlying hu, Result.andThen_ok]
    cases d <;> first | rfl | cases hd
  simp [part, h, hv]

theorem run_decEq {P : Program} (hP : ProgOK P) (w : World) (d : Nat) (a b : Dec) :
    (Op.equalIn (d + 2) 40 (.agg #[.bool a.neg, .string a.digits, .int .i64 a.exp]) (.agg #[.bool b.neg, .string b.digits, .int .i64 b.exp])).run P w = .ok (decEq a b) w := by
  obtain ⟨f0, f1, f2, hu, ⟨n0, t0, o0⟩, ⟨n1, t1, o1⟩, ⟨n2, t2, o2⟩⟩ := hP.dec
  have hf : P.fieldsOf 40 = #[f0, f1, f2] := by simp [Program.fieldsOf, hu]
  rw [run_equalIn_struct w (d + 1) 40 _ _ (by rw [hf]; exact hu) hP.held40, hf]
  have p0 : ∀ x y z : Value, (part 4 #[x, y, z] 0).run P w = .ok x w := fun x y z => run_partAt (P := P) (v := x) hP.u4 rfl rfl w
  have p1 : ∀ x y z : Value, (part 9 #[x, y, z] 1).run P w = .ok y w := fun x y z => run_partAt (P := P) (v := y) hP.u9 rfl rfl w
  have p2 : ∀ x y z : Value, (part 3 #[x, y, z] 2).run P w = .ok z w := fun x y z => run_partAt (P := P) (v := z) hP.u3 rfl rfl w
  simp only [Op.eqFields, n0, n1, n2, t0, t1, t2, o0, o1, o2, ne_eq, not_false_eq_true, if_true, Sem.run_bind, p0, p1, p2, Result.andThen_ok,
    run_equalIn_bool' w d 4 a.neg b.neg hP.u4, run_equalIn_string w d 9 a.digits b.digits hP.u9, run_equalIn_int w d 3 .i64 .i64 a.exp b.exp hP.u3, toList_beq, Sem.run_ite, Sem.run_pure, decEq]
  cases (a.neg == b.neg) <;> cases beqS a.digits b.digits <;> cases (a.exp == b.exp) <;> rfl

theorem relHV_dec {E : Env} {h : HV} {a : Dec} {y : Value} (ha : toD .dec h = some a) (hr : relHV E h y) : y = .agg #[.bool a.neg, .string a.digits, .int .i64 a.exp] := by
  have fin : ∀ vs : List Value, relF E h vs → vs = [.bool a.neg, .string a.digits, .int .i64 a.exp] := by
    intro vs hv
    have := toD_ok h .dec a vs ha hv
    simpa [Cd.enc, encDec, scB, scS, scI, relDCs, relDC] using this
  cases h <;> first | (simp [toD] at ha; done) | skip
  case v x =>
    rw [relHV_v] at hr; subst hr
    cases y <;> first | (simp [toD] at ha; done) | skip
    rename_i cs
    have := fin cs.toList (by simp [relF, Value.cells])
    rw [show cs = cs.toList.toArray by simp, this]
  case d c x =>
    simp only [toD_d] at ha
    split at ha
    · rename_i hc; subst hc
      simp only [relHV, top, Cd.isAgg, if_true] at hr
      obtain ⟨vs, rfl, h2⟩ := hr
      rw [fin vs h2]
    · cases ha
  case st fs =>
    obtain ⟨vs, rfl, h2⟩ := hr
    rw [fin vs h2]

theorem wrap_small (k : IntKind) (m : Nat) (h : m ≤ 127) : k.wrap (m : Int) = m := by
  cases k <;> simp [IntKind.wrap, IntKind.bits, IntKind.signed]
  all_goals omega

theorem wrap_big (n : Int) (h1 : -9223372036854775808 ≤ n) (h2 : n < 9223372036854775808) : IntKind.wrap .i64 n = n := by
  simp [IntKind.wrap, IntKind.bits, IntKind.signed]
  omega

theorem fwrap_any (n : Int) (c : Bool) (h : c = true → -9223372036854775808 ≤ n ∧ n < 9223372036854775808) : (bif c then n else IntKind.wrap .i64 n) = IntKind.wrap .i64 n := by
  cases c with
  | true => rw [wrap_big n (h rfl).1 (h rfl).2]; exact cond_true _ _
  | false => exact cond_false _ _

theorem blt_tt {a b : Nat} (h : Nat.blt a b = true) : a < b := by rw [Nat.blt_eq] at h; exact h

theorem fwrap_eq (k : IntKind) (n : Int) : fwrap k n = k.wrap n := by
  unfold fwrap
  split
  · rename_i m
    cases hb : Nat.ble m 127 with
    | true => exact (wrap_small k m (Nat.le_of_ble_eq_true hb)).symm
    | false =>
      simp only [cond_false]
      split
      · exact fwrap_any (.ofNat m) _ fun h => by have h1 := blt_tt h; have e : Int.ofNat m = (m : Int) := rfl; rw [e]; omega
      · rfl
  · rename_i m
    split
    · exact fwrap_any (.negSucc m) _ fun h => by have h1 := blt_tt h; rw [Int.negSucc_eq]; omega
    · rfl

theorem ltI_eq (a b : Int) : ltI a b = decide (a < b) := by
  unfold ltI
  split
  · rename_i m n
    cases hc : Nat.blt m n with
    | true =>
      have : m < n := by simpa using hc
      exact (decide_eq_true (by simpa using this)).symm
    | false =>
      have : ¬ m < n := fun h => by
        have h2 : Nat.blt m n = true := by simpa using h
        rw [hc] at h2; cases h2
      exact (decide_eq_false (by simpa using this)).symm
  · rfl

theorem not_ltI (a b : Int) : (!ltI a b) = decide (b ≤ a) := by
  rw [ltI_eq]
  by_cases h : a < b
  · rw [decide_eq_true h, decide_eq_false (by omega)]; rfl
  · rw [decide_eq_false h, decide_eq_true (by omega)]; rfl

theorem intFast_ok {P : Program} {op : BinOp} {t : TypeId} {k : IntKind} {a b : Int} {z : Value} (h : intFast op k a b = some z) (w : World) : (binOp op t (.int k a) (.int k b)).run P w = .ok z w := by
  unfold intFast at h
  split at h <;> first | (cases h; done) | skip
  all_goals
    simp only [Option.some.injEq] at h; subst h
  · simp [binOp, Op.intArith, fwrap_eq]
  · simp [binOp, Op.intArith, fwrap_eq]
  · simp [binOp, Op.intCmp]
  · simp [binOp, Op.intCmp]
  · simp [binOp, Op.intCmp, ltI_eq]
  · rw [not_ltI]; simp [binOp, Op.intCmp]
  · simp [binOp, Op.intCmp, ltI_eq]
  · rw [not_ltI]; simp [binOp, Op.intCmp]
  · simp [binOp, Op.intBits, bandI]

theorem binH_ok {P : Program} (hP : ProgOK P) {E : Env} {op : BinOp} {t : TypeId} {x y : Operand} {h i : HV} {r : Bool × HV} {u v : Value} (hl : binH P op t h i = some r) (hr1 : r.1 = true) (hr : relHV E h u) (hi : relHV E i v) :
    ∃ z, ((do eqGuard op t x y u v; binOp op t u v : Sem Value)).run P E.w = .ok z E.w ∧ relHV E r.2 z := by
  unfold binH at hl
  split at hl
  · rename_i a b
    rw [relHV_v] at hr hi; subst hr; subst hi
    have e : ((do eqGuard op t x y (.string a) (.string b); binOp op t (.string a) (.string b) : Sem Value)).run P E.w = (Op.stringOp op a b).run P E.w := by
      rw [eqGuard_at_string]; simp; cases op <;> rfl
    rw [e]
    cases op <;> simp only [Option.some.injEq] at hl <;> first | (cases hl; done) | skip
    · subst hl
      simp only [decide_eq_true_eq] at hr1
      refine ⟨_, ?_, rfl⟩
      simp only [Op.stringOp]
      rw [if_neg (by simp [IntKind.max_i64]; omega), append_eq]
      rfl
    · subst hl; exact ⟨_, by simp [Op.stringOp, toList_beq], rfl⟩
    · subst hl; exact ⟨_, by simp [Op.stringOp, toList_beq], rfl⟩
  · rename_i k a k' b
    rw [relHV_v] at hr hi; subst hr; subst hi
    split at hl
    · rename_i hk
      subst hk
      split at hl
      · rename_i z hz
        cases hl
        exact ⟨z, by rw [eqGuard_at_int]; simpa using intFast_ok hz E.w, rfl⟩
      · rw [Option.map_eq_some_iff] at hl
        obtain ⟨z, hz, rfl⟩ := hl
        exact ⟨z, by rw [eqGuard_at_int]; simpa using pureOf_run hz E.w, rfl⟩
    · cases hl
  · rename_i a b
    rw [relHV_v] at hr hi; subst hr; subst hi
    rw [Option.map_eq_some_iff] at hl
    obtain ⟨z, hz, rfl⟩ := hl
    exact ⟨z, by rw [eqGuard_at_bool]; simpa using pureOf_run hz E.w, rfl⟩
  · rename_i d z
    rw [relHV_v] at hr hi; subst hr; subst hi
    split at hl
    · cases hl
    · rw [Option.map_eq_some_iff] at hl
      obtain ⟨z, hz, rfl⟩ := hl
      exact ⟨z, by rw [eqGuard_at_iface]; simpa using pureOf_run hz E.w, rfl⟩
  · split at hl
    · rename_i ht
      subst ht
      split at hl
      · rename_i a b ha hb
        have ea := relHV_dec ha hr
        have eb := relHV_dec hb hi
        subst ea; subst eb
        have g : ∀ op, (eqGuard op 40 x y (.agg #[.bool a.neg, .string a.digits, .int .i64 a.exp]) (.agg #[.bool b.neg, .string b.digits, .int .i64 b.exp])).run P E.w = .ok () E.w :=
          fun op => run_eqGuard_agg E.w op 40 x y _ _ hP.guard40
        have q := run_decEq hP E.w 9998 a b
        cases op <;> simp only [Option.some.injEq] at hl <;> first | (cases hl; done) | skip
        · subst hl
          exact ⟨_, by simp only [Sem.run_bind, g, Result.andThen_ok, run_eql_struct, q], rfl⟩
        · subst hl
          exact ⟨_, by simp only [Sem.run_bind, g, Result.andThen_ok, run_neq_struct, q], rfl⟩
      · cases hl
    · cases hl

theorem unaryH_ok {P : Program} {E : Env} {op : UnOp} {h r : HV} {y : Value} (hl : unaryH P op h = some r) (hr : relHV E h y) : ∃ z, (Op.unary op y).run P E.w = .ok z E.w ∧ relHV E r z := by
  unfold unaryH at hl
  split at hl
  · rw [relHV_v] at hr; subst hr
    split at hl
    · cases hl; exact ⟨_, rfl, rfl⟩
    · cases hl
  · rw [relHV_v] at hr; subst hr
    rw [Option.map_eq_some_iff] at hl
    obtain ⟨z, hz, rfl⟩ := hl
    exact ⟨z, pureOf_run hz E.w, rfl⟩
  · cases hl

theorem maxH_ok {P : Program} {E : Env} {h i : HV} {r : Bool × HV} {u v : Value} {ts : Array TypeId} {t : TypeId} (hl : maxH h i = some r) (hr : relHV E h u) (hi : relHV E i v) :
    ∃ z, (Builtin.max_ ts t #[u, v]).run P E.w = .ok z E.w ∧ relHV E r.2 z := by
  unfold maxH at hl
  split at hl
  · rw [relHV_v] at hr hi; subst hr; subst hi
    split at hl
    · cases hl
      exact ⟨_, by simp [Builtin.max_, Builtin.max2], rfl⟩
    · cases hl
  · cases hl

theorem extractH_ok {P : Program} {E : Env} {i : Nat} {h r : HV} {y : Value} (hl : extractH i h = some r) (hr : relHV E h y) : ∃ z, (Instr.extract y i).run P E.w = .ok z E.w ∧ relHV E r z := by
  unfold extractH at hl
  split at hl
  · obtain ⟨vs, rfl, h2⟩ := hr
    simp only [relF] at h2
    obtain ⟨v, hv, hr⟩ := relAll_get h2 i r hl
    exact ⟨v, by simp [Instr.extract, hv], hr⟩
  · cases hl

theorem ifaceH_ok {E : Env} {t : TypeId} {h r : HV} {y : Value} (hl : ifaceH t h = some r) (hr : relHV E h y) : relHV E r (.iface t y) := by
  unfold ifaceH at hl
  split at hl
  · cases hl; rw [relHV_v] at hr ⊢; rw [hr]
  · cases hl; exact ⟨y, rfl, hr⟩

theorem nilH_ok {E : Env} {h r : HV} {y : Value} (hl : nilH E.L h = some r) (hr : relHV E h y) : relHV E r y ∧ ∃ a, y = .pointer (some a) := by
  unfold nilH at hl
  split at hl
  · cases hl; obtain ⟨t, x, b, o, h1, h2, rfl⟩ := relHV_ptr.1 hr; exact ⟨hr, _, rfl⟩
  · cases hl; obtain ⟨b, o, vs, rfl, _⟩ := relHV_dp.1 hr; exact ⟨hr, _, rfl⟩
  · split at hl
    · rename_i hid
      split at hl
      · rename_i hv
        cases hl
        obtain ⟨q, o, rfl, h1, h2, h3⟩ := relHV_rp.1 hr
        rw [hid] at h1; cases h1
        obtain ⟨_, _, _, b, p, _, rfl⟩ := h3 hv
        exact ⟨hr, _, rfl⟩
      · cases hl
    · cases hl
  · cases hl

theorem lenH_ok {P : Program} {w0 : World} {E : Env} {st : St} {ts' : List Value} (hs : Sim w0 E st ts') {t ty : TypeId} {h r : HV} {y : Value} (hl : lenH P t E.L h = some r) (hr : relHV E h y) :
    ∃ z, (Builtin.len_ #[t] ty #[y]).run P E.w = .ok z E.w ∧ relHV E r z := by
  unfold lenH at hl
  split at hl
  · rw [relHV_v] at hr; subst hr
    split at hl
    · rename_i hu; cases hl; exact ⟨_, by simp [Builtin.len_, run_underlying hu, goInt], rfl⟩
    · cases hl
  · rw [relHV_v] at hr; subst hr
    split at hl
    · rename_i hu; cases hl; exact ⟨_, by simp [Builtin.len_, run_underlying hu, goInt], rfl⟩
    · cases hl
  · obtain ⟨b, o, e⟩ := hr
    cases e
    split at hl
    · rename_i hu; cases hl; exact ⟨_, by simp [Builtin.len_, run_underlying hu, goInt], rfl⟩
    · cases hl
  · rename_i c xs
    split at hl
    · rename_i hu; cases hl
      rw [relHV_list] at hr
      simp only [relDC] at hr
      rcases hr with ⟨h0, _, rfl⟩ | ⟨b, o, cap, vs, rfl, _⟩
      · have h0' : (xs : List c.den).length = 0 := h0
        exact ⟨.int .i64 0, by simp [Builtin.len_, run_underlying hu, goInt], by rw [relHV_v]; simp [h0']⟩
      · exact ⟨_, by simp [Builtin.len_, run_underlying hu, goInt], rfl⟩
    · cases hl
  · rename_i c id ver len
    split at hl
    · rename_i hu hid
      split at hl
      · rename_i hv
        cases hl
        obtain ⟨q, l, k, o, rfl, h1, h2, h3⟩ := relHV_own.1 hr
        rw [hid] at h1; cases h1
        obtain ⟨_, _, e, hat⟩ := h3 hv
        refine ⟨.int .i64 l, by simp [Builtin.len_, run_underlying hu, goInt], ?_⟩
        rw [relHV_v]
        simp only [ownAt] at hat
        split at hat
        · obtain ⟨h0, e | ⟨_, _, e⟩⟩ := hat <;> cases e <;> simp [h0]
        · obtain ⟨_, _, _, e, _⟩ := hat; cases e; rfl
      · cases hl
    · cases hl
  · rename_i id
    split at hl
    · rename_i hu hid
      cases hl
      simp only [relHV, top, relF] at hr
      obtain ⟨o, b, p, h1, h2, h3, h4⟩ := hr
      simp at h4; subst h4
      obtain ⟨b', ents, clock, k1, k2, k3, k4⟩ := hs.ob id _ hid
      rw [h3] at k1; cases k1
      refine ⟨.int .i64 ents.size, ?_, ?_⟩
      · simp only [Builtin.len_]
        simp [run_underlying hu, goInt, getObj, Sem.run, k2]
      · rw [relHV_v]
        have := congrArg List.length k3
        simp at this
        rw [this]
    · cases hl
  · cases hl

end Go.Lx
