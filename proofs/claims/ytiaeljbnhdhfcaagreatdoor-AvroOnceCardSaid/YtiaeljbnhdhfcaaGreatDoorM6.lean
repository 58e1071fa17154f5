/- Maps, rows and stores do what the evaluator has. -/
import Derived.Test.YtiaeljbnhdhfcaaGreatDoorM5
import Derived.MapFrom
import Derived.Laws.RangeString
namespace Go.Lx
open Go.RowKit

section
variable (P : Program) (w0 : World) (E : Env) (tmps : Tm) (t : List Value)

def DoneV (s : Sem Value) (k : HV → List Ob → Bool) : Prop :=
  ∃ E' y h L', s.run P E.w = .ok y E'.w ∧ k h L' = true ∧ Sim w0 E' ⟨tmps, L'⟩ t ∧ Mod E E' ∧ relHV E' h y

def DoneU (s : Sem Unit) (k : List Ob → Bool) : Prop :=
  ∃ E' L', s.run P E.w = .ok () E'.w ∧ k L' = true ∧ Sim w0 E' ⟨tmps, L'⟩ t ∧ Mod E E'
end

section
variable {P : Program} {w0 : World} {E : Env} {tmps : Tm} {L : List Ob} {t : List Value}

theorem ptr_new {E : Env} {n : Nat} {L : List Ob} {ty : TypeId} {x : HV} {o : Nat} (hL : E.L = L ++ [.box ty x]) (hn : n = L.length) (hb : ∀ v, E.β L.length v = some (o, 0)) : relHV E (.ptr n 0) (.pointer (some ⟨o, 0, none⟩)) := by
  subst hn
  rw [relHV_ptr]
  exact ⟨ty, x, o, 0, by rw [hL]; simp, hb 0, rfl⟩

theorem newVar_ok (hs : Sim w0 E ⟨tmps, L⟩ t) {ty : TypeId} {z : HV} {v : Value} (hz : ∀ E', Mod E E' → relF E' z v.cells.toList) :
    ∃ E', (newVar ty v).run P E.w = .ok ⟨E.w.heap.size, 0, none⟩ E'.w ∧ Sim w0 E' ⟨tmps, L ++ [.box ty z]⟩ t ∧ Mod E E' ∧ relHV E' (.ptr L.length 0) (.pointer (some ⟨E.w.heap.size, 0, none⟩)) := by
  obtain ⟨E', h1, h2, h3, h4, h5⟩ := new_obj hs (.box ty z) (.cells v.cells ty) E.w rfl rfl rfl rfl (fun E' m hx hb hI => ⟨_, v.cells.toList, hb 0, by simpa using hx, hz E' m, hI⟩)
  exact ⟨E', by simp [newVar, newRow, h1], h3, h4, ptr_new h2 rfl h5⟩

theorem alloc_ok (hs : Sim w0 E ⟨tmps, L⟩ t) {ty : TypeId} {z : HV} {k : HV → List Ob → Bool} (hz : zeroOk P ty z = true) (hk : k (.ptr L.length 0) (L ++ [.box ty z]) = true) :
    DoneV P w0 E tmps t (Instr.alloc ty true (.tuple #[])) k := by
  obtain ⟨i, v, h1, h2, -, -, -⟩ := zeroOk_some hz E
  obtain ⟨E', k1, k2, k3, k4⟩ := newVar_ok (P := P) hs (ty := ty) (z := z) (v := v) (fun E' _ => by
    obtain ⟨i', v', a1, a2, a3, _⟩ := zeroOk_some hz E'
    rw [h1] at a1; cases a1; rw [h2] at a2; cases a2; exact a3)
  exact ⟨E', _, _, _, by simp [Instr.alloc, zeroValue, run_info h1, h2, k1], hk, k2, k3, k4⟩

theorem box_ok (hs : Sim w0 E ⟨tmps, L⟩ t) {ty : TypeId} {x : HV} {v : Value} {k : HV → List Ob → Bool} (hb : boxable x = true) (hr : relHV E x v) (hk : k (.ptr L.length 0) (L ++ [.box ty x]) = true) :
    DoneV P w0 E tmps t (Instr.box ty v) k := by
  obtain ⟨E', k1, k2, k3, k4⟩ := newVar_ok (P := P) hs (ty := ty) (z := x) (v := v) (fun E' m => relF_mod m _ _ (relHV_cells hb hr))
  exact ⟨E', _, _, _, by simp [Instr.box, k1], hk, k2, k3, k4⟩

/-! Cells written -/

theorem ext_put {E : Env} {I' : Nat → Nat → Prop} {b o : Nat} {vs : List Value} {C : Array Value} {e : TypeId} {fr : Nat × Nat} (h : E.w.heap[b]? = some (.cells C e fr)) (hr : o + vs.length ≤ C.size)
    (hI : ∀ q, E.I b q → ¬ (o ≤ q ∧ q < o + vs.length)) (hsub : ∀ b o, E.I b o → I' b o) : Ext E.I E.w I' (putCells E.w b o vs) where
  sub := hsub
  cell := fun x q hq => by
    by_cases hx : x = b
    · subst hx
      simp only [World.cell?, putCells_same _ _ _ _ h, h]
      have := overw_get C o vs hr q
      rw [if_neg (hI q hq)] at this
      simp [this]
    · exact cell_of_block (putCells_other _ _ _ _ hx) q
  mp := fun x q es k hq hm => by
    by_cases hx : x = b
    · subst hx; rw [h] at hm; cases hm
    · rw [putCells_other _ _ _ _ hx]; exact hm
  size := by rw [putCells_size]; exact Nat.le_refl _
  shape := fun x e' n hn => by
    by_cases hx : x = b
    · subst hx
      simp only [World.shape?, putCells_same _ _ _ _ h, h, overw_size] at hn ⊢
      exact hn
    · rw [shape_of_block (putCells_other _ _ _ _ hx)]; exact hn

theorem run_storeVar {P : Program} (w : World) {ty : TypeId} {b o : Nat} {v : Value} {C : Array Value} {e : TypeId} {lo hi : Nat} (h : w.heap[b]? = some (.cells C e (lo, hi))) (hsz : v.cells.size = sizeT P ty) (hok : okT P ty = true)
    (hr : o + v.cells.size ≤ C.size) (hf : lo = hi ∨ C.size ≤ lo) (h1 : ∀ x ∈ v.cells.toList, x.oneCell' = true) : (storeVar ty ⟨b, o, none⟩ v).run P w = .ok () (putCells w b o v.cells.toList) := by
  obtain ⟨i, hi'⟩ := okT_info hok
  have := run_storeCells (P := P) w b o v.cells.toList 0 h (by simpa using hr) (fun k hk hc => by rcases hf with e | e <;> omega) h1
  rw [sizeT_info hi'] at hsz
  simp [storeVar, run_sizeOf hi', hsz, this]

theorem cellsAt_of_cells {w : World} {b o : Nat} {C : Array Value} {e : TypeId} {fr : Nat × Nat} (h : w.heap[b]? = some (.cells C e fr)) {vs : List Value} :
    cellsAt w b o vs ↔ ∀ k v, vs[k]? = some v → C[o + k]? = some v := by
  unfold cellsAt
  simp only [World.cell?, h]
  exact Iff.rfl

theorem store_ptr_ok (hs : Sim w0 E ⟨tmps, L⟩ t) {ty tb : TypeId} {id off : Nat} {bx bx' x : HV} {a v : Value} {k : List Ob → Bool} (hid : L[id]? = some (.box tb bx)) (hset : setAt 6 bx off (aggT P ty) (sizeT P ty) x = some bx')
    (hok : okT P ty = true) (hbx : boxable x = true) (hw : x.width = sizeT P ty) (ha : relHV E (.ptr id off) a) (hr : relHV E x v) (hk : k (L.set id (.box tb bx')) = true) :
    DoneU P w0 E tmps t (Instr.storeAt ty a v) k := by
  have hL : E.L = L := hs.L
  have hid' : E.L[id]? = some (.box tb bx) := by rw [hL]; exact hid
  obtain ⟨_, _, b, p, h1, h2, rfl⟩ := relHV_ptr.1 ha
  obtain ⟨b', vs, k1, k2, k3, k4⟩ := hs.ob id _ hid'
  rw [h2] at k1; cases k1
  obtain ⟨pr, m, q, rfl, l1, l2, hput⟩ := setAt_ok 6 bx off _ _ x bx' vs hset k3
  have hcells := relHV_cells hbx hr
  have hlen : v.cells.toList.length = sizeT P ty := by rw [relF_length _ _ hcells, hw]
  have hlen' : v.cells.size = sizeT P ty := by simpa using hlen
  have hr' : off + v.cells.toList.length ≤ ((pr ++ m ++ q).toArray).size := by simp; omega
  have hrun := run_storeVar (P := P) E.w (ty := ty) (o := off) (v := v) k2 hlen' hok (by simpa using hr') (.inl rfl) (relF_one _ _ hbx hcells)
  let E' : Env := ⟨E.I, E.β, E.L.set id (.box tb bx'), putCells E.w b off v.cells.toList⟩
  have hext : Ext E.I E.w E'.I E'.w := ext_put k2 hr' (fun q hq => absurd hq (k4 q)) (fun _ _ h => h)
  have hblock : E'.w.heap[b]? = some (.cells (pr ++ v.cells.toList ++ q).toArray tb (0, 0)) := by
    show (putCells E.w b off v.cells.toList).heap[b]? = _
    rw [putCells_same _ _ _ _ k2]
    have := overw_list (pr ++ m ++ q).toArray pr m q v.cells.toList (by simp) (by rw [hlen, l2])
    rw [l1] at this
    congr 2
    apply Array.ext'
    simpa using this
  have hother : ∀ x, x ≠ b → E'.w.heap[x]? = E.w.heap[x]? := fun x hx => putCells_other _ _ _ _ hx
  have hmod : Mod E E' := by
    refine ⟨hext, fun x hx ho => ?_, ?_, fun _ _ h => .inl h, fun i o h => ?_, (putCells_os _ _ _ _).1, (putCells_os _ _ _ _).2.1, (putCells_os _ _ _ _).2.2⟩
    · refine hother x (fun e => ho ?_); subst e; exact ⟨id, _, 0, hid', rfl, h2⟩
    · rintro x ⟨i, o, p, g1, g2, g3⟩
      by_cases e : i = id
      · subst e
        have hl := (List.getElem?_eq_some_iff.1 hid').1
        rw [List.getElem?_set_self hl] at g1; cases g1
        exact .inl ⟨i, _, p, hid', rfl, g3⟩
      · rw [List.getElem?_set_ne (Ne.symm e)] at g1
        exact .inl ⟨i, o, p, g1, g2, g3⟩
    · by_cases e : i = id
      · subst e
        have hl := (List.getElem?_eq_some_iff.1 hid').1
        rw [hid'] at h; cases h
        exact ⟨_, List.getElem?_set_self hl, SameKind.boxes, fun _ _ => rfl⟩
      · exact ⟨o, by rw [List.getElem?_set_ne (Ne.symm e)]; exact h, SameKind.refl o, fun _ _ => rfl⟩
  obtain ⟨g1, g2⟩ := sim_set (E' := E') hs id (.box tb bx) (.box tb bx') hid' rfl SameKind.boxes rfl (fun _ _ _ => rfl)
    (fun x _ hx => hother x (fun e => hx 0 (by subst e; exact h2))) hext (fun _ _ h => .inl h) (fun x q h => by show x < (putCells E.w b off _).heap.size; rw [putCells_size]; exact hs.Ilt x q h)
    ⟨b, pr ++ v.cells.toList ++ q, h2, hblock, hput E' _ (fun f c h => relF_mod hmod f c h) (relF_mod hmod _ _ hcells), k4⟩
    (fun x p h => .inl ⟨p, h⟩) (putCells_os _ _ _ _).1 (putCells_os _ _ _ _).2.1 (putCells_os _ _ _ _).2.2
  refine ⟨E', L.set id (.box tb bx'), ?_, hk, by rw [← hL]; exact g1, g2⟩
  have e : (0 : Nat) + off = off := Nat.zero_add _
  simp only [e]
  simp [Instr.storeAt, Instr.sureAddr, hrun, E']

end
end Go.Lx

namespace Go.Lx
open Go.RowKit

theorem mod_set {w0 : World} {E E' : Env} {st : St} {t : List Value} (_hs : Sim w0 E st t) (id : Nat) (o o' : Ob) (hid : E.L[id]? = some o) (hL : E'.L = E.L.set id o')
    (hk : SameKind o o') (hd : o.isDead = false) (hβ : ∀ i v, (i ≠ id ∨ v ≤ o.ver) → E'.β i v = E.β i v)
    (hw : ∀ b, b < E.w.heap.size → (∀ p, E.β id o.ver ≠ some (b, p)) → E'.w.heap[b]? = E.w.heap[b]?) (ext : Ext E.I E.w E'.I E'.w)
    (hI' : ∀ b q, E'.I b q → E.I b q ∨ E.w.heap.size ≤ b ∨ ∃ p, E.β id o.ver = some (b, p))
    (hnb : ∀ b p, E'.β id o'.ver = some (b, p) → (∃ p', E.β id o.ver = some (b, p')) ∨ E.w.heap.size ≤ b)
    (hos : E'.w.os = E.w.os) (htape : E'.w.tape = E.w.tape) (hout : E'.w.output = E.w.output) : Mod E E' := by
  have hlen : id < E.L.length := (List.getElem?_eq_some_iff.1 hid).1
  have hget : ∀ i x, E'.L[i]? = some x → (i ≠ id ∧ E.L[i]? = some x) ∨ (i = id ∧ x = o') := by
    intro i x h
    rw [hL] at h
    by_cases e : i = id
    · subst e; rw [List.getElem?_set_self hlen] at h; cases h; exact .inr ⟨rfl, rfl⟩
    · rw [List.getElem?_set_ne (Ne.symm e)] at h; exact .inl ⟨e, h⟩
  refine ⟨ext, fun b hb ho => hw b hb (fun p hp => ho ⟨id, o, p, hid, hd, hp⟩), ?_, fun b q h => ?_, fun i x h => ?_, hos, htape, hout⟩
  · rintro b ⟨i, x, p, h1, h2, h3⟩
    rcases hget i x h1 with ⟨hi, h⟩ | ⟨rfl, rfl⟩
    · exact .inl ⟨i, x, p, h, h2, by rw [← hβ i _ (.inl hi)]; exact h3⟩
    · rcases hnb b p h3 with ⟨p', h⟩ | h
      · exact .inl ⟨i, o, p', hid, hd, h⟩
      · exact .inr h
  · rcases hI' b q h with h | h | ⟨p, h⟩
    · exact .inl h
    · exact .inr (.inl h)
    · exact .inr (.inr ⟨id, o, p, hid, hd, h⟩)
  · by_cases e : i = id
    · subst e
      rw [hid] at h; cases h
      exact ⟨o', by rw [hL, List.getElem?_set_self hlen], hk, fun v hv => hβ i v (.inr hv)⟩
    · exact ⟨x, by rw [hL, List.getElem?_set_ne (Ne.symm e)]; exact h, SameKind.refl x, fun v _ => hβ i v (.inl e)⟩

/-- One element of a row of data, and another in its place. -/
theorem row_set {I I' : Nat → Nat → Prop} {w w' : World} {c : Cd} (hext : Ext I w I' w') : ∀ (xs : List c.den) (i : Nat) (vs : List Value), i < xs.length → relDCs I w (xs.flatMap c.enc) vs →
    ∃ a b z, vs = a ++ b ++ z ∧ a.length = i * c.size ∧ b.length = c.size ∧ relDCs I w (c.enc (xs.getD i default)) b ∧
      ∀ y b', relDCs I' w' (c.enc y) b' → relDCs I' w' ((xs.set i y).flatMap c.enc) (a ++ b' ++ z)
  | [], i, vs, h, _ => by simp at h
  | x :: xs, 0, vs, _, h => by
    simp only [List.flatMap_cons] at h
    obtain ⟨p, q, rfl, hp, hq⟩ := relDCs_append.1 h
    refine ⟨[], p, q, by simp, by simp, by rw [relDCs_length hp, Cd.enc_length], by simpa using hp, fun y b' hb => ?_⟩
    simp only [List.set_cons_zero, List.flatMap_cons, List.nil_append]
    exact relDCs_append.2 ⟨b', q, rfl, hb, relDCs_ext hext _ _ hq⟩
  | x :: xs, i + 1, vs, hi, h => by
    simp only [List.flatMap_cons] at h
    obtain ⟨p, q, rfl, hp, hq⟩ := relDCs_append.1 h
    obtain ⟨a, b, z, rfl, l1, l2, r, hset⟩ := row_set hext xs i q (by simpa using hi) hq
    refine ⟨p ++ a, b, z, by simp, by simp [relDCs_length hp, Cd.enc_length, l1, Nat.add_mul]; omega, l2, by simpa using r, fun y b' hb => ?_⟩
    simp only [List.set_cons_succ, List.flatMap_cons, List.append_assoc]
    exact relDCs_append.2 ⟨p, a ++ (b' ++ z), rfl, relDCs_ext hext _ _ hp, by rw [← List.append_assoc]; exact hset y b' hb⟩

theorem cells_split {C : Array Value} {b o : Nat} {w : World} {e : TypeId} {fr : Nat × Nat} (h : w.heap[b]? = some (.cells C e fr)) {a m z vs : List Value} (hc : cellsAt w b o (a ++ m ++ z)) (hr : o + (a ++ m ++ z).length ≤ C.size) (hl : vs.length = m.length) :
    cellsAt (putCells w b (o + a.length) vs) b o (a ++ vs ++ z) := by
  rw [cellsAt_of_cells h] at hc
  rw [cellsAt_of_cells (putCells_same _ _ _ _ h)]
  intro k v hk
  simp only [List.length_append] at hr
  rw [overw_get C _ _ (by omega)]
  split
  · rename_i h1
    rw [List.append_assoc, List.getElem?_append_right (by omega), List.getElem?_append_left (by omega)] at hk
    rw [← hk]
    congr 1; omega
  · rename_i h1
    refine hc k v ?_
    rw [← hk]
    by_cases h2 : k < a.length
    · rw [List.append_assoc, List.append_assoc, List.getElem?_append_left h2, List.getElem?_append_left h2]
    · rw [List.append_assoc, List.append_assoc, List.getElem?_append_right (by omega), List.getElem?_append_right (by omega), List.getElem?_append_right (by omega), List.getElem?_append_right (by omega), hl]

section
variable {P : Program} {w0 : World} {E : Env} {tmps : Tm} {L : List Ob} {t : List Value}

theorem store_rp_ok (hs : Sim w0 E ⟨tmps, L⟩ t) {ty : TypeId} {c' c : Cd} {id ver fp i off : Nat} {xs : List c.den} {x y : HV} {z : c.den} {a v : Value} {k : List Ob → Bool} (hid : L[id]? = some (.row c ver fp xs))
    (hset : setAt 6 (ofD ⟨c, xs.getD i default⟩) off (aggT P ty) (sizeT P ty) x = some y) (hz : toD c y = some z) (hi : i < xs.length) (hfp : fp ≤ i)
    (hok : okT P ty = true) (hbx : boxable x = true) (hw : x.width = sizeT P ty) (ha : relHV E (.rp c' id ver i off) a) (hr : relHV E x v) (hk : k (L.set id (.row c ver fp (xs.set i z))) = true) :
    DoneU P w0 E tmps t (Instr.storeAt ty a v) k := by
  have hL : E.L = L := hs.L
  have hid' : E.L[id]? = some (.row c ver fp xs) := by rw [hL]; exact hid
  obtain ⟨q, o, rfl, h1, h2, h3⟩ := relHV_rp.1 ha
  rw [hid'] at h1; cases h1
  obtain ⟨_, _, e, b, p, hb, rfl⟩ := h3 rfl
  have ec : c' = c := by cases e; rfl
  clear e h3
  obtain rfl := ec.symm
  have hob := hs.ob id _ hid'
  simp only [relOb, hb] at hob
  obtain ⟨hfl, C, e, lo, hi', vs, k1, k2, k3, k4, k5, k6, k7⟩ := hob
  have hcells := relHV_cells hbx hr
  have hlen : v.cells.toList.length = sizeT P ty := by rw [relF_length _ _ hcells, hw]
  have hlen' : v.cells.size = sizeT P ty := by simpa using hlen
  obtain ⟨A, B, Z, rfl, l1, l2, r0, -⟩ := row_set (Ext.refl E.I E.w) xs i vs hi k3
  obtain ⟨pr, m, qq, rfl, m1, m2, hput⟩ := setAt_ok 6 _ off _ _ x y B hset ((relF_ofD _ _).2 r0)
  have hsize : (A ++ (pr ++ m ++ qq) ++ Z).length = A.length + (pr.length + m.length + qq.length) + Z.length := by simp; omega
  have hr' : (p + (i * c.size + off)) + v.cells.toList.length ≤ C.size := by rw [hsize] at k5; omega
  have hrun := run_storeVar (P := P) E.w (ty := ty) (o := p + (i * c.size + off)) (v := v) k1 hlen' hok (by simpa using hr') k2 (relF_one _ _ hbx hcells)
  let E' : Env := ⟨E.I, E.β, E.L.set id (.row c ver fp (xs.set i z)), putCells E.w b (p + (i * c.size + off)) v.cells.toList⟩
  have hfi : fp * c.size ≤ i * c.size := Nat.mul_le_mul_right _ hfp
  have hext : Ext E.I E.w E'.I E'.w := ext_put k1 hr' (fun q hq hc => by have := k6 q hq; omega) (fun _ _ h => h)
  have hother : ∀ x, x ≠ b → E'.w.heap[x]? = E.w.heap[x]? := fun x hx => putCells_other _ _ _ _ hx
  have hwb : ∀ x, x < E.w.heap.size → (∀ p, E.β id (Ob.row c ver fp xs).ver ≠ some (x, p)) → E'.w.heap[x]? = E.w.heap[x]? := fun x _ hx => hother x (fun e => hx p (by subst e; exact hb))
  have hkind : SameKind (.row c ver fp xs) (.row c ver fp (xs.set i z)) := SameKind.rows (Nat.le_refl _)
  have hmod : Mod E E' := mod_set hs id _ _ hid' rfl hkind rfl (fun _ _ _ => rfl) hwb hext (fun _ _ h => .inl h) (fun x p h => .inl ⟨p, h⟩) (putCells_os _ _ _ _).1 (putCells_os _ _ _ _).2.1 (putCells_os _ _ _ _).2.2
  obtain ⟨A', B', Z', hsp, l1', l2', _, hrow⟩ := row_set hext xs i _ hi k3
  have hAA : A' = A ∧ B' = pr ++ m ++ qq ∧ Z' = Z := by
    have e1 : A.length = A'.length := by omega
    rw [List.append_assoc, List.append_assoc A'] at hsp
    obtain ⟨q1, q2⟩ := List.append_inj hsp e1
    obtain ⟨q3, q4⟩ := List.append_inj q2 (by omega)
    exact ⟨q1.symm, q3.symm, q4.symm⟩
  obtain ⟨rfl, rfl, rfl⟩ := hAA
  have hnew := hrow z _ (toD_ok (E := E') y c z _ hz (hput E' v.cells.toList (fun f c h => relF_mod hmod f c h) (relF_mod hmod _ _ hcells)))
  have hc1 : cellsAt E'.w b p ((A' ++ pr) ++ v.cells.toList ++ (qq ++ Z')) := by
    have := cells_split (o := p) (a := A' ++ pr) (m := m) (z := qq ++ Z') (vs := v.cells.toList) k1 (by simpa [List.append_assoc] using k4) (by simpa [List.append_assoc] using k5) (by omega)
    have e : p + (A' ++ pr).length = p + (i * c.size + off) := by simp; omega
    rw [e] at this; exact this
  have hblock : E'.w.heap[b]? = some (.cells (overw C (p + (i * c.size + off)) v.cells.toList) e (lo, hi')) := putCells_same _ _ _ _ k1
  obtain ⟨g1, g2⟩ := sim_set (E' := E') hs id _ (.row c ver fp (xs.set i z)) hid' rfl hkind rfl (fun _ _ _ => rfl) hwb hext (fun _ _ h => .inl h)
    (fun x q h => by show x < (putCells E.w b _ _).heap.size; rw [putCells_size]; exact hs.Ilt x q h)
    (by
      simp only [relOb]
      refine ⟨by simpa using hfl, ?_⟩
      show match E.β id ver with | none => _ | some (b, p) => _
      rw [hb]
      refine ⟨_, e, lo, hi', _, hblock, by rw [overw_size]; exact k2, hnew, by simpa [List.append_assoc] using hc1, ?_, k6, k7⟩
      rw [overw_size]
      simp only [List.length_append] at k5 ⊢; omega)
    (fun x p h => .inl ⟨p, h⟩) (putCells_os _ _ _ _).1 (putCells_os _ _ _ _).2.1 (putCells_os _ _ _ _).2.2
  refine ⟨E', L.set id (.row c ver fp (xs.set i z)), ?_, hk, by rw [← hL]; exact g1, g2⟩
  simp [Instr.storeAt, Instr.sureAddr, hrun, E']

theorem storeK_ok (hs : Sim w0 E ⟨tmps, L⟩ t) {ty : TypeId} {ha hx : HV} {a v : Value} {k : List Ob → Bool} (h : storeK P ty L ha hx k = true) (hra : relHV E ha a) (hrx : relHV E hx v) : DoneU P w0 E tmps t (Instr.storeAt ty a v) k := by
  unfold storeK at h
  rw [Bool.and_eq_true] at h
  obtain ⟨hok, h⟩ := h
  split at h
  · split at h
    · rename_i hid
      split at h
      · rename_i hset
        simp only [Bool.and_eq_true, beq_iff_eq] at h
        exact store_ptr_ok hs hid hset hok h.1.1.1 h.1.1.2 hra hrx h.2
      · cases h
    · cases h
  · rename_i c' id ver i off
    dsimp only at h
    split at h
    · rename_i hid
      split at h
      · rename_i hset
        split at h
        · rename_i hz
          simp only [Bool.and_eq_true, beq_iff_eq, decide_eq_true_eq] at h
          obtain ⟨⟨⟨⟨⟨⟨⟨q1, q2⟩, q3⟩, q4⟩, q5⟩, q6⟩, -⟩, hk⟩ := h
          subst q2
          obtain ⟨E1, hsn, hrel⟩ := snap_hv 0 hx E L q1 hs
          obtain ⟨E', L', r1, r2, r3, r4⟩ := store_rp_ok (P := P) hsn.sim hid hset hz q3 q4 hok q5 q6 (relHV_mod hsn.mod hra) (hrel v hrx) hk
          exact ⟨E', L', by rw [← hsn.w]; exact r1, r2, r3, hsn.mod.trans r4⟩
        · cases h
      · cases h
    · cases h
  · cases h

end
end Go.Lx

namespace Go.Lx
open Go.RowKit

theorem keq_eq {k : Cd} {a b : k.den} (hk : okKey k = true) (h : keq k a b = true) : a = b := by
  cases k <;> first | (simp [okKey] at hk; done) | skip
  · simpa [keq] using h
  · simpa [keq] using h
  · exact beqS_eq h

theorem sameBits_key {k : Cd} (hk : okKey k = true) (n : Nat) (a : k.den) : Instr.sameBits n (keyV k a) (keyV k a) = true := by
  cases k <;> first | (simp [okKey] at hk; done) | skip
  case str => cases n <;> simp [Instr.sameBits, keyV, beq_bytes, beqS]
  all_goals cases n <;> simp [Instr.sameBits, keyV]

theorem mput_at {k v : Cd} (x : k.den) (y : v.den) : ∀ (es : List (k.den × v.den)) (j : Nat), j < es.length → (∀ e, es[j]? = some e → keq k x e.1 = true) → (∀ j', j' < j → ∀ e, es[j']? = some e → keq k x e.1 = false) → mput es x y = es.set j (x, y)
  | [], j, h, _, _ => by simp at h
  | e :: es, 0, _, h1, _ => by simp [mput, h1 e (by simp)]
  | e :: es, j + 1, h, h1, h2 => by
    have h0 := h2 0 (by omega) e (by simp)
    simp only [mput, h0, cond_false, List.set_cons_succ]
    rw [mput_at x y es j (by simpa using h) (fun e' he => h1 e' (by simpa using he)) (fun j' hj' e' he => h2 (j' + 1) (by omega) e' (by simpa using he))]

theorem mput_new {k v : Cd} (x : k.den) (y : v.den) : ∀ (es : List (k.den × v.den)), mhas es x = false → mput es x y = es ++ [(x, y)]
  | [], _ => rfl
  | e :: es, h => by
    simp only [mhas, Bool.or_eq_false_iff] at h
    simp only [mput, h.1, cond_false, List.cons_append, mput_new x y es h.2]

theorem run_setObj {P : Program} {w : World} {b : Nat} {o : Obj} {x : Obj} (h : w.heap[b]? = some x) (hnc : ∀ C e f, x ≠ .cells C e f) : (setObj b o).run P w = .ok () { w with heap := w.heap.setIfInBounds b o } := by
  simp only [setObj, Sem.run, h]

theorem set_block {w : World} {b : Nat} {o x : Obj} (h : w.heap[b]? = some x) : ({ w with heap := w.heap.setIfInBounds b o } : World).heap[b]? = some o := by
  have := (Array.getElem?_eq_some_iff.1 h).1
  simp [this]

theorem set_other {w : World} {b c : Nat} {o : Obj} (h : c ≠ b) : ({ w with heap := w.heap.setIfInBounds b o } : World).heap[c]? = w.heap[c]? := by
  simp [Ne.symm h]

/-- An object of one block of no cells turns. -/
theorem set_obj {w0 : World} {E : Env} {tmps : Tm} {L : List Ob} {t : List Value} (hs : Sim w0 E ⟨tmps, L⟩ t) {id b : Nat} {o o' : Ob} {x : Obj} (obj : Obj) (hid : L[id]? = some o) (hk : SameKind o o') (hv : o'.ver = o.ver) (hd : o.isDead = false)
    (hb : E.β id o.ver = some (b, 0)) (hx : E.w.heap[b]? = some x) (hnc : ∀ C e f, x ≠ .cells C e f) (hI : ∀ q, ¬ E.I b q)
    (hob : ∀ E' : Env, Mod E E' → E'.w.heap[b]? = some obj → E'.β id o.ver = some (b, 0) → (∀ q, ¬ E'.I b q) → relOb E' id o') :
    ∃ E' : Env, E'.w = { E.w with heap := E.w.heap.setIfInBounds b obj } ∧ Sim w0 E' ⟨tmps, L.set id o'⟩ t ∧ Mod E E' ∧ E'.L = L.set id o' ∧ E'.β = E.β := by
  have hL : L = E.L := hs.L.symm
  subst hL
  let E' : Env := ⟨E.I, E.β, E.L.set id o', { E.w with heap := E.w.heap.setIfInBounds b obj }⟩
  have hother : ∀ c, c ≠ b → E'.w.heap[c]? = E.w.heap[c]? := fun c h => set_other h
  have hsize : E'.w.heap.size = E.w.heap.size := by simp [E']
  have hext : Ext E.I E.w E'.I E'.w := by
    refine ⟨fun _ _ h => h, fun c q h => cell_of_block (hother c (fun e => hI q (by subst e; exact h))) q, fun c q es k h hm => by rw [hother c (fun e => hI q (by subst e; exact h))]; exact hm, by rw [hsize]; exact Nat.le_refl _, fun c e n hn => ?_⟩
    by_cases hc : c = b
    · subst hc
      simp only [World.shape?, hx] at hn
      cases x <;> first | (exact absurd rfl (hnc _ _ _)) | (simp at hn)
    · rw [shape_of_block (hother c hc)]; exact hn
  have hwb : ∀ c, c < E.w.heap.size → (∀ p, E.β id o.ver ≠ some (c, p)) → E'.w.heap[c]? = E.w.heap[c]? := fun c _ h => hother c (fun e => h 0 (by subst e; exact hb))
  have hm : Mod E E' := mod_set hs id o o' hid rfl hk hd (fun _ _ _ => rfl) hwb hext (fun _ _ h => .inl h) (fun c p h => .inl ⟨p, by rw [← hv]; exact h⟩) rfl rfl rfl
  obtain ⟨h1, h2⟩ := sim_set (E' := E') hs id o o' hid rfl hk hd (fun _ _ _ => rfl) hwb hext (fun _ _ h => .inl h) (fun c q h => by rw [hsize]; exact hs.Ilt c q h) (hob E' hm (set_block hx) hb hI) (fun c p h => .inl ⟨p, by rw [← hv]; exact h⟩) rfl rfl rfl
  exact ⟨E', rfl, h1, h2, rfl, rfl⟩

section
variable {P : Program} {w0 : World} {E : Env} {tmps : Tm} {L : List Ob} {t : List Value}

theorem relHV_map {E : Env} {id : Nat} {y : Value} : relHV E (.map id) y ↔ ∃ o b p, E.L[id]? = some o ∧ isMapOb o = true ∧ E.β id 0 = some (b, p) ∧ y = .map (some b) := by
  simp [relHV, top, relF]

theorem relHV_it {E : Env} {id : Nat} {y : Value} : relHV E (.it id) y ↔ ∃ o b p, E.L[id]? = some o ∧ isIterOb o = true ∧ E.β id 0 = some (b, p) ∧ y = .pointer (some ⟨b, 0, none⟩) := by
  simp [relHV, top, relF]

theorem makeMap_ok (hs : Sim w0 E ⟨tmps, L⟩ t) {ty : TypeId} {o : Ob} {k : HV → List Ob → Bool} (hm : isMapOb o = true) (ho : o = .fmap [] ∨ ∃ kc vc, o = .map kc vc []) (hk : k (.map L.length) (L ++ [o]) = true) :
    DoneV P w0 E tmps t (Instr.makeMap ty none) k := by
  have hv : o.ver = 0 := by rcases ho with rfl | ⟨_, _, rfl⟩ <;> rfl
  obtain ⟨E', h1, h2, h3, h4, h5⟩ := new_obj hs o (.map #[] 0) E.w rfl rfl rfl rfl (fun E' m hx hb hI => by
    rcases ho with rfl | ⟨kc, vc, rfl⟩
    · exact ⟨_, #[], 0, hb 0, hx, hI, rfl, rfl⟩
    · exact ⟨_, #[], 0, hb 0, hx, rfl, hI⟩)
  exact ⟨E', _, _, _, by simp [Instr.makeMap, h1], hk, h3, h4, relHV_map.2 ⟨o, _, 0, by rw [h2]; simp, hm, h5 0, rfl⟩⟩

theorem mapCodes_some {ty : TypeId} {kc vc : Cd} (h : mapCodes P ty = some (kc, vc)) : ∃ kt et, P.underlying ty = some (.map kt et) ∧ tcode P 2 kt = some kc ∧ tcode P 2 et = some vc := by
  unfold mapCodes at h
  split at h
  · rename_i kt et hu
    split at h
    · rename_i h1 h2; cases h; exact ⟨kt, et, hu, h1, h2⟩
    · cases h
  · cases h

theorem modify_entries (ents : Array MapEntry) (j : Nat) (hj : j < ents.size) (kk vv : Value) :
    ((ents.modify j fun e => { e with key := kk, val := vv }).toList.map fun e => (e.key, e.val)) = (ents.toList.map fun e => (e.key, e.val)).set j (kk, vv) := by
  apply List.ext_getElem?
  intro i
  simp only [List.getElem?_map, Array.getElem?_toList, Array.getElem?_modify, List.getElem?_set]
  by_cases h : j = i
  · subst h
    simp [hj]
  · simp [h]

theorem mapPut_data_ok (hs : Sim w0 E ⟨tmps, L⟩ t) {ty : TypeId} {id : Nat} {kc vc : Cd} {es : List (kc.den × vc.den)} {x y : HV} {key : kc.den} {val : vc.den} {m kv vv : Value} {k : List Ob → Bool}
    (hid : L[id]? = some (.map kc vc es)) (hx : scD kc x = some key) (hy : scD vc y = some val) (hc : mapCodes P ty = some (kc, vc)) (hok : okKey kc = true)
    (hm : relHV E (.map id) m) (hkv : relHV E x kv) (hvv : relHV E y vv) (hk : k (L.set id (.map kc vc (mput es key val))) = true) : DoneU P w0 E tmps t (Instr.mapUpdate ty m kv vv) k := by
  obtain ⟨kt, et, hu, hkt, het⟩ := mapCodes_some hc
  obtain ⟨d, hd, hku⟩ := tcode_desc hkt hok
  obtain ⟨rfl, -⟩ := key_of hx hkv
  obtain ⟨rfl, -⟩ := key_of hy hvv
  obtain ⟨o, b, p, h1, -, h3, rfl⟩ := relHV_map.1 hm
  rw [hs.L] at h1; simp only [hid] at h1; cases h1
  obtain ⟨b', ents, clock, k1, k2, k3, k4⟩ := hs.ob id _ (by rw [hs.L]; exact hid)
  rw [h3] at k1; cases k1
  obtain ⟨r, hr, ht, hf⟩ := findNow_key hok hd key es ents.toList 0 k3
  have hg : (getObj b).run P E.w = .ok (.map ents clock) E.w := by simp [getObj, Sem.run, k2]
  have hck := checkKey_ok (P := P) hok hd hku false 9999 key E.w
  cases hmh : mhas es key with
  | true =>
    obtain ⟨j, rfl, hj, j1, j2⟩ := ht hmh
    have hlen : ents.toList.length = es.length := by have := congrArg List.length k3; simpa using this
    have hj' : j < ents.size := by simpa using hj
    have hje : j < es.length := by omega
    have hkj : ∀ e, ents[j]? = some e → e.key = keyV kc key := fun e he => by
      have h0 := congrArg (·[j]?) k3
      simp only [List.getElem?_map, Array.getElem?_toList, he, Option.map_some, List.getElem?_eq_getElem hje, Option.some.injEq, Prod.mk.injEq] at h0
      rw [h0.1, ← keq_eq hok (j1 _ (List.getElem?_eq_getElem hje))]
    obtain ⟨E', e1, e2, e3, e4, -⟩ := set_obj (o' := .map kc vc (mput es key val)) hs (.map (ents.modify j fun e => { e with key := keyV kc key, val := keyV vc val }) clock) hid SameKind.maps rfl rfl h3 k2 (fun _ _ _ h => by cases h) k4
      (fun E' md hx hb hI => ⟨b, _, _, hb, hx, by
        unfold entsAre at k3 ⊢
        rw [modify_entries ents j hj', k3, mput_at key val es j hje j1 j2, List.map_set], hI⟩)
    refine ⟨E', _, ?_, hk, e2, e3⟩
    have hel : ents[j]? = some ents[j] := by simp [hj']
    have hst : Instr.keyThatStays (((ents[j]?).map (·.key)).getD (keyV kc key)) (keyV kc key) = pure (keyV kc key) := by
      rw [hel]
      simp only [Option.map_some, Option.getD_some]
      rw [hkj _ hel]
      simp [Instr.keyThatStays, sameBits_key hok]
    have hso := run_setObj (P := P) (o := .map (ents.modify j fun e => { e with key := keyV kc key, val := keyV vc val }) clock) k2 (fun _ _ _ h => by cases h)
    simp only [Nat.zero_add] at hr
    simp only [Instr.mapUpdate, Sem.run_bind, run_underlying hu, hg, hck, Instr.findKey, run_underlying hku, hr, Result.andThen_ok, Sem.run_pure, hst, e1, hso]
  | false =>
    obtain rfl := hf hmh
    obtain ⟨E', e1, e2, e3, e4, -⟩ := set_obj (o' := .map kc vc (mput es key val)) hs (.map (ents.push { key := keyV kc key, val := keyV vc val, born := clock }) (clock + 1)) hid SameKind.maps rfl rfl h3 k2 (fun _ _ _ h => by cases h) k4
      (fun E' md hx hb hI => ⟨b, _, _, hb, hx, by
        unfold entsAre at k3 ⊢
        simp only [Array.toList_push, List.map_append, k3, mput_new key val es hmh]
        rfl, hI⟩)
    refine ⟨E', _, ?_, hk, e2, e3⟩
    have hso := run_setObj (P := P) (o := .map (ents.push { key := keyV kc key, val := keyV vc val, born := clock }) (clock + 1)) k2 (fun _ _ _ h => by cases h)
    simp only [Instr.mapUpdate, Sem.run_bind, run_underlying hu, hg, hck, Instr.findKey, run_underlying hku, hr, Result.andThen_ok, Sem.run_pure, e1, hso]

end
end Go.Lx

namespace Go.Lx
open Go.RowKit

theorem isFuncMap_some {P : Program} {t : TypeId} (h : isFuncMap P t = true) : ∃ kt et i, P.underlying t = some (.map kt et) ∧ P.underlying kt = some .string ∧ P.info? et = some i ∧ i.zero = some .nilFunc := by
  unfold isFuncMap at h
  split at h
  · rename_i kt et hu
    split at h
    · rename_i i hk hi
      split at h
      · rename_i z hz; exact ⟨kt, et, i, hu, hk, hi, by rw [hz, eqV_ok h]⟩
      · cases h
    · cases h
  · cases h

theorem findNow_fn (s : ByteArray) (k : Option HV → Bool) : ∀ (es : List (ByteArray × HV)) (ents : List MapEntry) (i : Nat), ents.map (·.key) = es.map (fun e => .string e.1) →
    (∃ j e m, es[j]? = some e ∧ ents[j]? = some m ∧ Instr.findNow .string (.string s) ents i = some (some (i + j, m.val)) ∧ fmapK s k es = k (some e.2)) ∨
      (Instr.findNow .string (.string s) ents i = some none ∧ fmapK s k es = k none)
  | [], ents, i, h => by simp at h; subst h; exact .inr ⟨rfl, rfl⟩
  | e :: es, ents, i, h => by
    cases ents with
    | nil => simp at h
    | cons m ents =>
      simp only [List.map_cons, List.cons.injEq] at h
      obtain ⟨h1, h2⟩ := h
      have hs : Instr.sameNow .string (.string s) (.string e.1) = some (beqS s e.1) := sameNow_key (k := .str) rfl rfl s e.1
      simp only [Instr.findNow, h1, hs, fmapK]
      cases hq : beqS s e.1 with
      | true => exact .inl ⟨0, e, m, rfl, rfl, rfl, rfl⟩
      | false =>
        rcases findNow_fn s k es ents (i + 1) h2 with ⟨j, e', m', g1, g2, g3, g4⟩ | ⟨g1, g2⟩
        · refine .inl ⟨j + 1, e', m', by simpa using g1, by simpa using g2, ?_, by simpa using g4⟩
          simp only [g3, Nat.add_assoc, Nat.add_comm 1 j]
        · exact .inr ⟨g1, by simpa using g2⟩

theorem fmapK_none (s : ByteArray) : ∀ (es : List (ByteArray × HV)), es.all (fun e => !beqS s e.1) = true → fmapK s (fun r => r.isSome) es = false
  | [], _ => rfl
  | e :: es, h => by
    simp only [List.all_cons, Bool.and_eq_true, Bool.not_eq_true'] at h
    simp only [fmapK, h.1, cond_false]
    exact fmapK_none s es h.2

section
variable {P : Program} {w0 : World} {E : Env} {tmps : Tm} {L : List Ob} {t : List Value}

theorem checkStr_ok {kt : TypeId} (hu : P.underlying kt = some .string) (b : Bool) (s : ByteArray) (w : World) : (Instr.checkKey b 10000 kt (.string s)).run P w = .ok () w :=
  checkKey_ok (k := .str) rfl rfl hu b 9999 s w

theorem mapPut_fn_ok (hs : Sim w0 E ⟨tmps, L⟩ t) {ty : TypeId} {id : Nat} {es : List (ByteArray × HV)} {s : ByteArray} {y : HV} {m vv : Value} {k : List Ob → Bool}
    (hid : L[id]? = some (.fmap es)) (hc : isFuncMap P ty = true) (hall : es.all (fun e => !beqS s e.1) = true)
    (hm : relHV E (.map id) m) (hvv : relHV E y vv) (hk : k (L.set id (.fmap (es ++ [(s, y)]))) = true) : DoneU P w0 E tmps t (Instr.mapUpdate ty m (.string s) vv) k := by
  obtain ⟨kt, et, i, hu, hku, -, -⟩ := isFuncMap_some hc
  obtain ⟨o, b, p, h1, -, h3, rfl⟩ := relHV_map.1 hm
  rw [hs.L] at h1; simp only [hid] at h1; cases h1
  obtain ⟨b', ents, clock, k1, k2, k3, k4, k5⟩ := hs.ob id _ (by rw [hs.L]; exact hid)
  rw [h3] at k1; cases k1
  have hg : (getObj b).run P E.w = .ok (.map ents clock) E.w := by simp [getObj, Sem.run, k2]
  have hck := checkStr_ok (P := P) hku false s E.w
  have hr : Instr.findNow .string (.string s) ents.toList 0 = some none := by
    rcases findNow_fn s (fun r => r.isSome) es ents.toList 0 k4 with ⟨j, e, m, g1, g2, g3, g4⟩ | ⟨g1, g2⟩
    · rw [fmapK_none s es hall] at g4; cases g4
    · exact g1
  obtain ⟨E', e1, e2, e3, e4, -⟩ := set_obj (o' := .fmap (es ++ [(s, y)])) hs (.map (ents.push { key := .string s, val := vv, born := clock }) (clock + 1)) hid SameKind.fmaps rfl rfl h3 k2 (fun _ _ _ h => by cases h) k3
    (fun E' md hx hb hI => ⟨b, _, _, hb, hx, hI, by simp [k4], by
      simp only [Array.toList_push, List.map_append]
      exact relAll_append.2 ⟨_, _, rfl, relAll_mod md _ _ k5, ⟨_, _, rfl, relHV_mod md hvv, rfl⟩⟩⟩)
  refine ⟨E', _, ?_, hk, e2, e3⟩
  have hso := run_setObj (P := P) (o := .map (ents.push { key := .string s, val := vv, born := clock }) (clock + 1)) k2 (fun _ _ _ h => by cases h)
  simp only [Instr.mapUpdate, Sem.run_bind, run_underlying hu, hg, hck, Instr.findKey, run_underlying hku, hr, Result.andThen_ok, Sem.run_pure, e1, hso]

theorem mapPutK_ok (hs : Sim w0 E ⟨tmps, L⟩ t) {ty : TypeId} {hm hx hy : HV} {m kv vv : Value} {k : List Ob → Bool} (h : mapPutK P ty L hm hx hy k = true)
    (hrm : relHV E hm m) (hrx : relHV E hx kv) (hry : relHV E hy vv) : DoneU P w0 E tmps t (Instr.mapUpdate ty m kv vv) k := by
  unfold mapPutK at h
  split at h
  · split at h
    · rename_i kc vc es hid
      split at h
      · rename_i key val hk hv
        rw [Bool.and_eq_true] at h
        obtain ⟨h1, h2⟩ := h
        split at h1
        · rename_i kc' vc' hc
          simp only [Bool.and_eq_true, beq_iff_eq] at h1
          obtain ⟨⟨⟨rfl, rfl⟩, h3⟩, h4⟩ := h1
          exact mapPut_data_ok hs hid hk hv hc h3 hrm hrx hry h2
        · cases h1
      · cases h
    · rename_i es hid
      split at h
      · rename_i s
        simp only [Bool.and_eq_true] at h
        rw [relHV_v] at hrx; subst hrx
        exact mapPut_fn_ok hs hid h.1.1.1 h.1.1.2 hrm hry h.2
      · cases h
    · cases h
  · cases h

theorem lookup_fn_ok (hs : Sim w0 E ⟨tmps, L⟩ t) {ty : TypeId} {id : Nat} {es : List (ByteArray × HV)} {s : ByteArray} {m : Value} {k : HV → List Ob → Bool}
    (hid : L[id]? = some (.fmap es)) (hc : isFuncMap P ty = true) (hm : relHV E (.map id) m)
    (hk : fmapK s (fun r => k (match r with | some h => .tup [h, .v (.bool true)] | none => .tup [.v .nilFunc, .v (.bool false)]) L) es = true) : DoneV P w0 E tmps t (Instr.lookup ty m (.string s) true) k := by
  obtain ⟨kt, et, i, hu, hku, hi, hz⟩ := isFuncMap_some hc
  obtain ⟨o, b, p, h1, -, h3, rfl⟩ := relHV_map.1 hm
  rw [hs.L] at h1; simp only [hid] at h1; cases h1
  obtain ⟨b', ents, clock, k1, k2, k3, k4, k5⟩ := hs.ob id _ (by rw [hs.L]; exact hid)
  rw [h3] at k1; cases k1
  have hg : (getObj b).run P E.w = .ok (.map ents clock) E.w := by simp [getObj, Sem.run, k2]
  have hck := checkStr_ok (P := P) hku ents.isEmpty s E.w
  rcases findNow_fn s _ es ents.toList 0 k4 with ⟨j, e, mm, g1, g2, g3, g4⟩ | ⟨g1, g2⟩
  · rw [g4] at hk
    refine ⟨E, .tuple #[mm.val, .bool true], _, _, ?_, hk, hs, Mod.refl E, ?_⟩
    · simp [Instr.lookup, run_underlying hu, hg, hck, Instr.findKey, run_underlying hku, g3]
    · obtain ⟨v, hv, hr⟩ := relAll_get k5 j e.2 (by simp [g1])
      simp only [List.getElem?_map, g2, Option.map_some, Option.some.injEq] at hv
      subst hv
      exact ⟨_, rfl, _, _, rfl, hr, _, _, rfl, rfl, rfl⟩
  · rw [g2] at hk
    refine ⟨E, .tuple #[.nilFunc, .bool false], _, _, ?_, hk, hs, Mod.refl E, ?_⟩
    · simp [Instr.lookup, run_underlying hu, hg, hck, Instr.findKey, run_underlying hku, g1, zeroValue, run_info hi, hz]
    · exact ⟨_, rfl, _, _, rfl, rfl, _, _, rfl, rfl, rfl⟩

theorem range_ok (hs : Sim w0 E ⟨tmps, L⟩ t) {ty : TypeId} {s : ByteArray} {k : HV → List Ob → Bool} (hu : isStrT P ty = true) (hk : k (.it L.length) (L ++ [.iter s 0]) = true) :
    DoneV P w0 E tmps t (Instr.range ty (.string s)) k := by
  obtain ⟨E', h1, h2, h3, h4, h5⟩ := new_obj hs (.iter s 0) (.stringIter s 0) E.w rfl rfl rfl rfl (fun E' m hx hb hI => ⟨_, hb 0, hx, hI⟩)
  exact ⟨E', _, _, _, by rw [run_range_string E.w ty s (isStrT_some hu)]; rw [h1]; rfl, hk, h3, h4, relHV_it.2 ⟨_, _, 0, by rw [h2]; simp; rfl, rfl, h5 0, rfl⟩⟩

theorem next_ok (hs : Sim w0 E ⟨tmps, L⟩ t) {ty : TypeId} {id pos : Nat} {s : ByteArray} {it : Value} {k : HV → List Ob → Bool} (hid : L[id]? = some (.iter s pos)) (hi : relHV E (.it id) it)
    (hk : (bif decide (pos < s.size) then k (.tup [.v (.bool true), .v (.int .i64 pos), .v (.int .i32 (Utf8.decode s pos).1)]) (L.set id (.iter s (pos + (Utf8.decode s pos).2))) else k (.tup [.v (.bool false)]) L) = true) :
    DoneV P w0 E tmps t (Instr.next it true ty) k := by
  obtain ⟨o, b, p, h1, -, h3, rfl⟩ := relHV_it.1 hi
  rw [hs.L] at h1; simp only [hid] at h1; cases h1
  obtain ⟨b', k1, k2, k3⟩ := hs.ob id _ (by rw [hs.L]; exact hid)
  rw [h3] at k1; cases k1
  have hg : (getObj b).run P E.w = .ok (.stringIter s pos) E.w := by simp [getObj, Sem.run, k2]
  by_cases hp : pos < s.size
  · simp only [hp, decide_true, cond_true] at hk
    obtain ⟨E', e1, e2, e3, e4, -⟩ := set_obj (o' := .iter s (pos + (Utf8.decode s pos).2)) hs (.stringIter s (pos + (Utf8.decode s pos).2)) hid SameKind.iters rfl rfl h3 k2 (fun _ _ _ h => by cases h) k3
      (fun E' md hx hb hI => ⟨b, hb, hx, hI⟩)
    have hso := run_setObj (P := P) (o := .stringIter s (pos + (Utf8.decode s pos).2)) k2 (fun _ _ _ h => by cases h)
    refine ⟨E', .tuple #[.bool true, .int .i64 pos, .int .i32 (Utf8.decode s pos).1], _, _, ?_, hk, e2, e3, ?_⟩
    · simp only [Instr.next, Sem.run_bind, hg, Result.andThen_ok, hp, if_true, hso, e1, Sem.run_pure, goInt]
    · exact ⟨_, rfl, _, _, rfl, rfl, _, _, rfl, rfl, _, _, rfl, rfl, rfl⟩
  · simp only [hp, decide_false, cond_false] at hk
    refine ⟨E, .tuple #[.bool false], _, _, ?_, hk, hs, Mod.refl E, ⟨_, rfl, _, _, rfl, rfl, rfl⟩⟩
    simp only [Instr.next, Sem.run_bind, hg, Result.andThen_ok, hp, if_false, Sem.run_pure]

end
end Go.Lx
