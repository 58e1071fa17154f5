/- Operations that turn objects do what the evaluator has. -/
import Derived.Test.YtiaeljbnhdhfcaaGreatDoorM6
import Derived.Great.BuildSlice
import Derived.Deep.AppendSrc
namespace Go.Lx
open Go.RowKit

theorem toD_cells {E : Env} {c : Cd} {h : HV} {x : c.den} {y : Value} (hx : toD c h = some x) (hr : relHV E h y) : relDCs E.I E.w (c.enc x) y.cells.toList := by
  cases h with
  | v z => rw [relHV_v] at hr; subst hr; exact toD_ok (.v y) c x _ hx rfl
  | d c' x' => exact toD_ok (.d c' x') c x _ hx (relHV_cells rfl hr)
  | st fs => obtain ⟨vs, rfl, h⟩ := hr; exact toD_ok (.st fs) c x _ hx (by simpa [Value.cells, relF] using h)
  | _ => exact absurd hx (by cases c <;> simp [toD])

/-- A row filled, part by part. -/
theorem fill_parts {E : Env} {c : Cd} : ∀ (ps : List (Nat × HV)) (parts : List (Nat × Value)) (n : Nat) (ys : List c.den) (C : Array Value) (pre rest : List Value), partsD c n ps = some ys → parts.map (·.1) = ps.map (·.1) →
    relAll E (ps.map (·.2)) (parts.map (·.2)) → C.toList = pre ++ rest → pre.length = n * c.size → rest.length = ys.length * c.size →
    ∃ C' vs, Instr.fill (fun i => some (i * c.size, c.size)) C parts = some C' ∧ C'.toList = pre ++ vs ∧ relDCs E.I E.w (ys.flatMap c.enc) vs
  | [], parts, n, ys, C, pre, rest, hp, hi, _, hC, _, hr => by
    simp at hi; subst hi
    simp only [partsD, Option.some.injEq] at hp; subst hp
    exact ⟨C, rest, rfl, hC, by simpa [relDCs] using hr⟩
  | p :: ps, parts, n, ys, C, pre, rest, hp, hi, ha, hC, hl, hr => by
    cases parts with
    | nil => simp at hi
    | cons q parts =>
      simp only [List.map_cons, List.cons.injEq] at hi
      simp only [List.map_cons, relAll] at ha
      obtain ⟨a, b, e, h1, h2⟩ := ha
      simp only [List.cons.injEq] at e
      obtain ⟨rfl, rfl⟩ := e
      simp only [partsD] at hp
      split at hp
      · rename_i hn
        split at hp
        · rename_i x hx
          split at hp
          · rename_i l hl'
            cases hp
            have hcells := toD_cells hx h1
            have hsz : q.2.cells.toList.length = c.size := by rw [relDCs_length hcells, Cd.enc_length]
            have hsz' : q.2.cells.size = c.size := by simpa using hsz
            have hq : q.1 = n := hi.1.trans hn
            simp only [List.length_cons, Nat.add_mul, Nat.one_mul] at hr
            have hsplit : rest = rest.take c.size ++ rest.drop c.size := (List.take_append_drop _ _).symm
            have htl : (rest.take c.size).length = c.size := by rw [List.length_take]; omega
            have hC2 : (overw C pre.length q.2.cells.toList).toList = (pre ++ q.2.cells.toList) ++ rest.drop c.size :=
              overw_list C pre (rest.take c.size) (rest.drop c.size) _ (by rw [hC, List.append_assoc, ← hsplit]) (by omega)
            obtain ⟨C', vs, g1, g2, g3⟩ := fill_parts ps parts (n + 1) l (overw C pre.length q.2.cells.toList) (pre ++ q.2.cells.toList) (rest.drop c.size) hl' hi.2 h2 hC2 (by simp [hl, hsz', Nat.add_mul])
              (by rw [List.length_drop]; omega)
            refine ⟨C', q.2.cells.toList ++ vs, ?_, by rw [g2, List.append_assoc], ?_⟩
            · obtain ⟨qi, qv⟩ := q
              simp only at hq hsz'
              subst hq
              have hCs : C.size = pre.length + rest.length := by rw [← Array.length_toList, hC]; simp
              unfold Instr.fill
              simp only
              rw [if_neg (by simp [hsz']; omega), fill_step, ← hl]
              exact g1
            · simp only [List.flatMap_cons]; exact relDCs_append.2 ⟨_, _, rfl, hcells, g3⟩
          · cases hp
        · cases hp
      · cases hp

section
variable {P : Program} {w0 : World} {E : Env} {tmps : Tm} {L : List Ob} {t : List Value}

theorem buildSlice_run (hP : ProgOK P) {ty e : TypeId} {n : Nat} {c : Cd} {ps : List (Nat × HV)} {parts : Array (Nat × Value)} {ys : List c.den} (he : elemT P ty = some e) (hp : partsD c 0 ps = some ys) (hi : parts.toList.map (·.1) = ps.map (·.1))
    (ha : relAll E (ps.map (·.2)) (parts.toList.map (·.2))) (hn : ys.length = n) (hsz : sizeT P e = c.size) (h336 : e < 336) (hsmall : n * c.size ≤ 1000) (h0 : n ≠ 0) :
    ∃ vs, (Instr.buildSlice ty n parts).run P E.w = .ok (.slice (some ⟨E.w.heap.size, 0, none⟩) n n) (E.w.alloc (.cells vs.toArray e)) ∧ relDCs E.I E.w (ys.flatMap c.enc) vs := by
  have hinfo : ∃ i, P.info? e = some i ∧ i.size = c.size := by
    unfold sizeT at hsz
    split at hsz
    · rename_i i hi; exact ⟨i, hi, hsz⟩
    · exact absurd hsz.symm (Cd.size_pos c)
  obtain ⟨i, hie, his⟩ := hinfo
  obtain ⟨z, hz, hzs⟩ := hP.zeros e i h336 hie
  have hpos : ¬ n * c.size = 0 := Nat.mul_ne_zero h0 (Cd.size_pos c)
  obtain ⟨C', vs, g1, g2, g3⟩ := fill_parts ps parts.toList 0 ys ((Array.range (n * c.size)).map (z.cells[· % z.cells.size]!)) [] _ hp hi ha (List.nil_append _).symm (by simp) (by simp [hn])
  refine ⟨vs, ?_, g3⟩
  have hC : C' = vs.toArray := by apply Array.ext'; simpa using g2
  subst hC
  exact run_buildSlice E.w ty e n parts vs.toArray i z (elemT_some he) hie hz (by rw [his]; omega) (by rw [his]; exact hpos) (by rw [his]; exact g1)

theorem sizeE_some {P : Program} {e : TypeId} {c : Cd} (h : sizeE P e = c.size) : sizeT P e = c.size ∧ e < 336 := by
  unfold sizeE at h
  cases hb : Nat.blt e 336 with
  | true => rw [hb] at h; exact ⟨h, blt_tt hb⟩
  | false => rw [hb] at h; exact absurd h.symm (Cd.size_pos c)

theorem u8e_of {c : Cd} {e : TypeId} (h : u8t c e = true) : u8e c e 0 := by
  rintro rfl
  exact ⟨Nat.eq_of_beq_eq_true h, rfl⟩

theorem buildSlice_own (hP : ProgOK P) (hs : Sim w0 E ⟨tmps, L⟩ t) {ty e : TypeId} {n : Nat} {c : Cd} {ps : List (Nat × HV)} {parts : Array (Nat × Value)} {ys : List c.den} {k : HV → List Ob → Bool} (he : elemT P ty = some e) (hp : partsD c 0 ps = some ys) (hi : parts.toList.map (·.1) = ps.map (·.1))
    (ha : relAll E (ps.map (·.2)) (parts.toList.map (·.2))) (hn : ys.length = n) (hsz : sizeT P e = c.size) (h336 : e < 336) (hsmall : n * c.size ≤ 1000) (h0 : n ≠ 0) (hu8 : u8e c e 0) (hk : k (.own c L.length 0 n) (L ++ [.row c 0 0 ys]) = true) :
    DoneV P w0 E tmps t (Instr.buildSlice ty n parts) k := by
  obtain ⟨vs, g1, g2⟩ := buildSlice_run hP he hp hi ha hn hsz h336 hsmall h0
  have hvl : vs.length = n * c.size := by rw [relDCs_length g2, flat_length, hn]
  obtain ⟨E', h1, h2, h3, h4, h5⟩ := new_obj hs (.row c 0 0 ys) (.cells vs.toArray e) E.w rfl rfl rfl rfl (fun E' m hx hb hI => by
    simp only [relOb, hb 0]
    refine ⟨Nat.zero_le _, _, e, 0, 0, vs, hx, .inl rfl, relDCs_ext m.ext _ _ g2, ?_, by simp, fun o ho => absurd ho (hI o), hu8⟩
    rw [cellsAt_of_cells hx]
    intro k v hk; simpa using hk)
  refine ⟨E', _, _, _, by rw [g1, h1], hk, h3, h4, ?_⟩
  refine relHV_own.2 ⟨_, _, _, .row c 0 0 ys, rfl, by rw [h2]; simp, Nat.le_refl _, fun _ => ⟨0, ys, rfl, ?_⟩⟩
  simp only [ownAt, h5 0]
  refine ⟨n, e, n * c.size, rfl, Nat.le_refl _, ?_, by omega⟩
  rw [h1]
  simp only [World.shape?, alloc_new]
  simp [hvl]

theorem buildSlice_plain (hP : ProgOK P) (hs : Sim w0 E ⟨tmps, L⟩ t) {ty e : TypeId} {n : Nat} {c : Cd} {ps : List (Nat × HV)} {parts : Array (Nat × Value)} {ys : List c.den} (he : elemT P ty = some e) (hp : partsD c 0 ps = some ys) (hi : parts.toList.map (·.1) = ps.map (·.1))
    (ha : relAll E (ps.map (·.2)) (parts.toList.map (·.2))) (hn : ys.length = n) (hsz : sizeT P e = c.size) (h336 : e < 336) (hsmall : n * c.size ≤ 1000) (h0 : n ≠ 0) :
    ∃ E' y, (Instr.buildSlice ty n parts).run P E.w = .ok y E'.w ∧ E'.L = E.L ∧ Sim w0 E' ⟨tmps, L⟩ t ∧ Mod E E' ∧ relHV E' (.d (.list c) ys) y := by
  obtain ⟨vs, g1, g2⟩ := buildSlice_run hP he hp hi ha hn hsz h336 hsmall h0
  have hvl : vs.length = n * c.size := by rw [relDCs_length g2, flat_length, hn]
  let E' : Env := ⟨fun b o => E.I b o ∨ (b = E.w.heap.size ∧ o < vs.length), E.β, E.L, E.w.alloc (.cells vs.toArray e)⟩
  have hx : E'.w.heap[E.w.heap.size]? = some (.cells vs.toArray e) := alloc_new
  obtain ⟨h1, h2⟩ := sim_add (E' := E') hs [] (by simp [E']) (fun _ _ _ => rfl) (fun b hb => alloc_old hb) (by show _ ≤ (E.w.alloc _).heap.size; unfold World.alloc; simp) (fun _ _ h => .inl h)
    (fun b o h => by rcases h with h | ⟨rfl, _⟩ <;> simp_all) (fun b o h => by
      show b < (E.w.alloc _).heap.size
      unfold World.alloc; simp
      rcases h with h | ⟨rfl, _⟩
      · have := hs.Ilt b o h; omega
      · omega) (by simp) (by simp) rfl rfl rfl
  refine ⟨E', _, g1, rfl, by rw [show L = E'.L from hs.L.symm]; exact h1, h2, ?_⟩
  rw [relHV_list]
  simp only [relDC]
  refine .inr ⟨_, 0, n, vs, by rw [hn], by omega, by rw [hvl, hn], ?_, fun k hk => .inr ⟨rfl, by rw [hvl, ← hn]; simpa using hk⟩, relDCs_ext h2.ext _ _ g2⟩
  rw [cellsAt_of_cells hx]
  intro k v hk; simpa using hk

theorem buildSlice_data (hP : ProgOK P) (hs : Sim w0 E ⟨tmps, L⟩ t) {ty e : TypeId} {n : Nat} {c : Cd} {ps : List (Nat × HV)} {parts : Array (Nat × Value)} {ys : List c.den} {k : HV → List Ob → Bool} (he : elemT P ty = some e) (hp : partsD c 0 ps = some ys) (hi : parts.toList.map (·.1) = ps.map (·.1))
    (ha : relAll E (ps.map (·.2)) (parts.toList.map (·.2))) (hn : ys.length = n) (hsz : sizeT P e = c.size) (h336 : e < 336) (hsmall : n * c.size ≤ 1000) (h0 : n ≠ 0) (hk : k (.d (.list c) ys) L = true) :
    DoneV P w0 E tmps t (Instr.buildSlice ty n parts) k := by
  obtain ⟨E', y, g1, g2, g3, g4, g5⟩ := buildSlice_plain hP hs he hp hi ha hn hsz h336 hsmall h0
  exact ⟨E', y, _, L, g1, hk, g3, g4, g5⟩

theorem buildSlice_nil (hs : Sim w0 E ⟨tmps, L⟩ t) {ty e : TypeId} {k : HV → List Ob → Bool} (he : elemT P ty = some e) (hi : ∃ i, P.info? e = some i) (hk : k .zc L = true) :
    DoneV P w0 E tmps t (Instr.buildSlice ty 0 #[]) k := by
  obtain ⟨i, hi⟩ := hi
  let E' : Env := ⟨E.I, E.β, E.L, E.w.alloc (.cells #[] e)⟩
  obtain ⟨h1, h2⟩ := sim_add (E' := E') hs [] (by simp [E']) (fun _ _ _ => rfl) (fun b hb => alloc_old hb) (by show _ ≤ (E.w.alloc _).heap.size; unfold World.alloc; simp) (fun _ _ h => h)
    (fun b o h => .inl h) (fun b o h => by
      show b < (E.w.alloc _).heap.size
      unfold World.alloc; simp
      have := hs.Ilt b o h; omega) (by simp) (by simp) rfl rfl rfl
  refine ⟨E', .slice (some ⟨E.w.heap.size, 0, none⟩) 0 0, _, _, ?_, hk, by rw [show L = E'.L from hs.L.symm]; exact h1, h2, ⟨_, _, rfl⟩⟩
  simp [Instr.buildSlice, run_underlying (elemT_some he), run_sizeOf hi, newRow, Instr.fill, E']
  congr 2
  apply Array.eq_empty_of_size_eq_zero; simp

end
end Go.Lx

namespace Go.Lx
open Go.RowKit

theorem putCells_eq (b : Nat) : ∀ (vs : List Value) (o : Nat) (w : World), w.setCells b o vs = putCells w b o vs
  | [], _, _ => rfl
  | v :: vs, o, w => by simp only [World.setCells, putCells]; exact putCells_eq b vs (o + 1) _

theorem isSlStr_some {P : Program} {t : TypeId} (h : isSlStr P t = true) : (∃ e, P.underlying t = some (.slice e)) ∨ P.underlying t = some .string := by
  unfold isSlStr at h
  split at h
  · rename_i hu; exact .inl ⟨_, hu⟩
  · rename_i hu; exact .inr hu
  · cases h

theorem byteCells_blist (s : ByteArray) : byteCells s = (blist s).map (Value.int .u8) := by
  simp [byteCells, blist, List.map_map]

theorem src_ok {P : Program} {E : Env} {tx : TypeId} {c : Cd} {ys : List c.den} {x : HV} {y : Value} (hx : elems c x = some ys) (hr : relHV E x y) (ht : isSlStr P tx = true) :
    ∃ news, relDCs E.I E.w (ys.flatMap c.enc) news ∧ Src P c.size tx y ys.length news E.w := by
  have kind := isSlStr_some ht
  unfold elems at hx
  split at hx
  · rename_i s
    rw [relHV_v] at hr; subst hr
    split at hx
    · cases hx
      have hl : (blist s).length = s.size := by simp [blist]
      refine ⟨byteCells s, by rw [byteCells_blist]; exact rel_bytes _, ⟨kind, fun _ => by rw [hl]; rfl, by rw [hl]; exact firstCells_string s _, by rw [hl]; exact firstCells_string s _, by rw [byteCells_length, hl]; simp [Cd.size], fun u hu => ?_⟩⟩
      obtain ⟨_, _, rfl⟩ := List.mem_map.1 hu
      rfl
    · cases hx
  · cases hx
  · rename_i hna hns
    cases x with
    | v z =>
      rw [relHV_v] at hr; subst hr
      have hnil : ys = [] ∧ y = .slice none 0 0 := by
        cases y <;> first | (exact absurd rfl (hna _)) | (exact absurd rfl (hns _)) | skip
        all_goals first | (simp [toD] at hx; done) | skip
        rename_i a l k
        cases a with
        | none =>
          cases l with
          | zero =>
            cases k with
            | zero => simp [toD] at hx; exact ⟨hx, rfl⟩
            | succ k => simp [toD] at hx
          | succ l => simp [toD] at hx
        | some a => simp [toD] at hx
      obtain ⟨rfl, rfl⟩ := hnil
      exact ⟨[], rfl, ⟨kind, fun _ => rfl, run_firstCells_none _ _ _ _ _, run_firstCells_none _ _ _ _ _, by simp, fun _ h => by cases h⟩⟩
    | d c' xs =>
      rw [toD_d] at hx
      split at hx
      · rename_i hc; subst hc
        simp only [Option.some.injEq] at hx; subst hx
        rw [relHV_list] at hr
        simp only [relDC] at hr
        rcases hr with ⟨h0, h1, rfl⟩ | ⟨b, o, cap, vs, rfl, h2, h3, h4, h5, h6⟩
        · rw [h0, h1]
          exact ⟨[], rfl, ⟨kind, fun _ => rfl, run_firstCells_none _ _ _ _ _, run_firstCells_none _ _ _ _ _, by simp, fun _ h => by cases h⟩⟩
        · refine ⟨vs, h6, ⟨kind, fun _ => rfl, run_firstCells_some _ _ _ _ _ _ _ h3 (fun j v hj => by rw [add_addr]; exact h4 j v hj), run_firstCells_some _ _ _ _ _ _ _ h3 (fun j v hj => by rw [add_addr]; exact h4 j v hj), h3, fun u hu => ?_⟩⟩
          exact one_relDCs (fun d x hd e => by
            obtain ⟨z, _, hz⟩ := List.mem_flatMap.1 hd
            exact Cd.enc_one c z d x hz e) h6 u hu
      · cases hx
    | st fs => rw [toD_st] at hx; split at hx <;> simp [Cd.pack] at hx
    | _ => exact absurd hx (by cases c <;> simp [toD])

section
variable {P : Program} {w0 : World} {E : Env} {tmps : Tm} {L : List Ob} {t : List Value}

/-- What a new row of an append holds. -/
theorem grown_row {E' : Env} {c : Cd} {e : TypeId} {b : Nat} {zs : List c.den} {vs : List Value} {rest : Array Value} (hx : E'.w.heap[b]? = some (.cells (vs.toArray ++ rest) e)) (hI : ∀ q, ¬ E'.I b q)
    (hr : relDCs E'.I E'.w (zs.flatMap c.enc) vs) (id ver : Nat) (hb : E'.β id ver = some (b, 0)) (fp : Nat) (hfp : fp ≤ zs.length) (hu8 : u8e c e 0) : relOb E' id (.row c ver fp zs) := by
  simp only [relOb, hb]
  refine ⟨hfp, _, e, 0, 0, vs, hx, .inl rfl, hr, ?_, by simp, fun o ho => absurd ho (hI o), hu8⟩
  rw [cellsAt_of_cells hx]
  intro k v hk
  have := (List.getElem?_eq_some_iff.1 hk).1
  rw [Nat.zero_add, Array.getElem?_append_left (by simpa using this)]
  simpa using hk

theorem append_fresh_ok (hP : ProgOK P) (hs : Sim w0 E ⟨tmps, L⟩ t) {ty tx oty e : TypeId} {c : Cd} {ys : List c.den} {base : Option Addr} {x : HV} {v : Value} {k : HV → List Ob → Bool} (he : elemT P ty = some e) (htx : isSlStr P tx = true)
    (hbase : ∀ w : World, (Builtin.firstCells c.size 0 (.slice base 0 0)).run P w = .ok #[] w) (hst : ys.length = 0 → base = none ∨ ∃ b o, base = some ⟨b, o, none⟩)
    (hsz : sizeT P e = c.size) (hb0 : bytesT P e ≠ 0) (hbytes : ys.length * bytesT P e ≤ 140737488355328) (hx : elems c x = some ys) (hr : relHV E x v) (hu8 : u8e c e 0) (h336 : e < 336)
    (hk : k (.own c L.length 0 ys.length) (L ++ [.row c 0 0 ys]) = true) : DoneV P w0 E tmps t (Builtin.append_ #[ty, tx] oty #[.slice base 0 0, v]) k := by
  obtain ⟨news, g1, g2⟩ := src_ok (P := P) hx hr htx
  have hinfo : ∃ i, P.info? e = some i ∧ i.size = c.size ∧ i.bytes = bytesT P e := by
    unfold sizeT at hsz
    unfold bytesT at hb0 ⊢
    split at hsz
    · rename_i i hi; simp only [hi] at hb0 ⊢; exact ⟨i, rfl, hsz, rfl⟩
    · exact absurd hsz.symm (Cd.size_pos c)
  obtain ⟨i, hie, his, hib⟩ := hinfo
  obtain ⟨z, hz, hzs⟩ := hP.zeros e i h336 hie
  rw [← his] at g2
  by_cases h0 : ys.length = 0
  · have hys : ys = [] := List.eq_nil_of_length_eq_zero h0
    subst hys
    let E' : Env := ⟨E.I, fun i v => if i = E.L.length then none else E.β i v, E.L ++ [.row c 0 0 []], E.w⟩
    obtain ⟨h1, h2⟩ := sim_add (E' := E') hs [.row c 0 0 []] rfl (fun i v h => by simp only [E']; rw [if_neg (by omega)]) (fun _ _ => rfl) (Nat.le_refl _) (fun _ _ h => h) (fun _ _ h => .inl h) hs.Ilt (by simp)
      (fun o ho => by
        cases ho
        refine ⟨by simp only [relOb, E']; simp, fun b p h => by simp [E'] at h⟩) rfl rfl rfl
    have hL : L = E.L := hs.L.symm
    subst hL
    refine ⟨E', .slice base 0 0, _, _, ?_, hk, h1, h2, ?_⟩
    · have hc := g2.cells
      have hl := g2.newsLen
      simp at hl
      subst hl
      have hc' : (Builtin.firstCells i.size 0 v).run P E.w = .ok #[] E.w := by simpa using hc
      have hlen : ∀ w' : World, (Builtin.lenOf v).run P w' = .ok 0 w' := fun w' => by simpa using g2.len w'
      rcases g2.kind with ⟨e', hk'⟩ | hk' <;>
        cases base <;> simp [Builtin.append_, run_underlying (elemT_some he), run_underlying hk', run_sizeOf hie, hlen, hc', storeCells, E']
    · refine relHV_own.2 ⟨_, _, _, .row c 0 0 [], rfl, by simp [E'], Nat.le_refl _, fun _ => ⟨0, [], rfl, ?_⟩⟩
      simp only [ownAt, E', if_true]
      refine ⟨rfl, ?_⟩
      rcases hst h0 with rfl | ⟨b, o, rfl⟩
      · exact .inl rfl
      · exact .inr ⟨b, o, rfl⟩
  · have hpos : 0 < ys.length := Nat.pos_of_ne_zero h0
    have hle : ys.length ≤ ys.length * bytesT P e := Nat.le_mul_of_pos_right _ (Nat.pos_of_ne_zero hb0)
    have hrun := run_append_grow_src (P := P) E.w ty tx oty e i z (elemT_some he) hie hz base 0 0 [] (by rw [his]; exact hbase _) v ys.length news g2 (by omega) (by omega)
      (by rw [hib]; exact growslice_fits (by omega) (by rw [Nat.zero_add]; exact hbytes))
    simp only [List.nil_append, Nat.zero_add] at hrun
    have hcap := grownCap_ge E.w ys.length 0 e
    obtain ⟨E', h1, h2, h3, h4, h5⟩ := new_obj hs (.row c 0 0 ys) (.cells (news.toArray ++ Builtin.zeroCells z.cells (grownCap E.w ys.length 0 e - ys.length)) e) E.w.drew rfl rfl rfl rfl
      (fun E' m hx hb hI => grown_row hx hI (relDCs_ext m.ext _ _ g1) _ 0 (hb 0) 0 (Nat.zero_le _) hu8)
    refine ⟨E', _, _, _, by rw [hrun, h1], hk, h3, h4, ?_⟩
    refine relHV_own.2 ⟨_, _, _, .row c 0 0 ys, rfl, by rw [h2]; simp, Nat.le_refl _, fun _ => ⟨0, ys, rfl, ?_⟩⟩
    simp only [ownAt, h5 0]
    refine ⟨_, e, grownCap E.w ys.length 0 e * c.size, rfl, hcap, ?_, by omega⟩
    rw [h1]
    have hnl := g2.newsLen
    have := alloc_new (w := E.w.drew) (o := .cells (news.toArray ++ Builtin.zeroCells z.cells (grownCap E.w ys.length 0 e - ys.length)) e)
    simp only [World.shape?, show E.w.heap.size = E.w.drew.heap.size from rfl, this]
    have harith : news.length + (grownCap E.w ys.length 0 e - ys.length) * z.cells.size = grownCap E.w ys.length 0 e * c.size := by
      rw [hnl, hzs, his, ← Nat.add_mul]; congr 1; omega
    simp [size_zeroCells, harith]

end
end Go.Lx

namespace Go.Lx
open Go.RowKit

section
variable {P : Program} {w0 : World} {E : Env} {tmps : Tm} {L : List Ob} {t : List Value}

theorem elem_info {e : TypeId} {c : Cd} (hsz : sizeT P e = c.size) : ∃ i, P.info? e = some i ∧ i.size = c.size ∧ i.bytes = bytesT P e := by
  unfold sizeT at hsz
  unfold bytesT
  split at hsz
  · rename_i i hi; simp only [hi]; exact ⟨i, rfl, hsz, rfl⟩
  · exact absurd hsz.symm (Cd.size_pos c)

theorem relDCs_take {I : Nat → Nat → Prop} {w : World} {c : Cd} {xs : List c.den} {vs : List Value} (n : Nat) (h : relDCs I w (xs.flatMap c.enc) vs) :
    ∃ a b, vs = a ++ b ∧ a.length = (xs.take n).length * c.size ∧ relDCs I w ((xs.take n).flatMap c.enc) a := by
  have : xs.flatMap c.enc = (xs.take n).flatMap c.enc ++ (xs.drop n).flatMap c.enc := by rw [← List.flatMap_append, List.take_append_drop]
  rw [this] at h
  obtain ⟨a, b, rfl, h1, _⟩ := relDCs_append.1 h
  exact ⟨a, b, rfl, by rw [relDCs_length h1, flat_length], h1⟩

/-- The new version of a row, in a new block. -/
theorem own_grown (hP : ProgOK P) (hs : Sim w0 E ⟨tmps, L⟩ t) {e : TypeId} {c : Cd} {id ver fp need : Nat} {xs zs : List c.den} (hid : L[id]? = some (.row c ver fp xs)) {vs : List Value} (hr : relDCs E.I E.w (zs.flatMap c.enc) vs) (hz : zs.length = need)
    (hfp : fp ≤ need) {i : TypeInfo} {z : Value} (hie : P.info? e = some i) (hiz : i.zero = some z) (his : i.size = c.size) (cap : Nat) (hcap : need ≤ cap) (hu8 : u8e c e 0) (h336 : e < 336) :
    ∃ E' : Env, E'.w = E.w.drew.alloc (.cells (vs.toArray ++ Builtin.zeroCells z.cells (cap - need)) e) ∧ Sim w0 E' ⟨tmps, L.set id (.row c (ver + 1) fp zs)⟩ t ∧ Mod E E' ∧
      relHV E' (.own c id (ver + 1) need) (.slice (some ⟨E.w.heap.size, 0, none⟩) need cap) := by
  obtain ⟨z', hz', hzs⟩ := hP.zeros e i h336 hie
  rw [hiz] at hz'; cases hz'
  have hL : L = E.L := hs.L.symm
  subst hL
  let W := E.w.drew.alloc (.cells (vs.toArray ++ Builtin.zeroCells z.cells (cap - need)) e)
  let E' : Env := ⟨E.I, fun j v => if j = id ∧ v = ver + 1 then some (E.w.heap.size, 0) else E.β j v, E.L.set id (.row c (ver + 1) fp zs), W⟩
  have hw : ∀ b, b < E.w.heap.size → E'.w.heap[b]? = E.w.heap[b]? := fun b h => alloc_old (w := E.w.drew) h
  have hx : E'.w.heap[E.w.heap.size]? = some (.cells (vs.toArray ++ Builtin.zeroCells z.cells (cap - need)) e) := alloc_new (w := E.w.drew)
  have hsz : E.w.heap.size ≤ E'.w.heap.size := by show _ ≤ (E.w.drew.alloc _).heap.size; unfold World.alloc; simp
  have hext : Ext E.I E.w E'.I E'.w := ext_of_blocks hw (fun _ _ h => h) hs.Ilt hsz
  have hβ : ∀ j v, (j ≠ id ∨ v ≤ (Ob.row c ver fp xs).ver) → E'.β j v = E.β j v := fun j v h => by
    simp only [E']; rw [if_neg]; rintro ⟨rfl, rfl⟩; rcases h with h | h
    · exact h rfl
    · simp only [Ob.ver] at h; omega
  have hb : E'.β id (ver + 1) = some (E.w.heap.size, 0) := by simp [E']
  have hnI : ∀ q, ¬ E'.I E.w.heap.size q := fun q h => by have := hs.Ilt _ _ h; omega
  obtain ⟨h1, h2⟩ := sim_set (E' := E') hs id _ (.row c (ver + 1) fp zs) hid rfl (SameKind.rows (Nat.le_succ _)) rfl hβ (fun b hb _ => hw b hb) hext (fun _ _ h => .inl h) (fun b q h => by have := hs.Ilt b q h; omega)
    (grown_row hx hnI (relDCs_ext hext _ _ hr) id (ver + 1) hb fp (by omega) hu8) (fun b p h => by simp only [Ob.ver] at h; rw [hb] at h; cases h; exact .inr (Nat.le_refl _)) rfl rfl rfl
  refine ⟨E', rfl, h1, h2, ?_⟩
  have hlt : id < E.L.length := (List.getElem?_eq_some_iff.1 hid).1
  refine relHV_own.2 ⟨_, _, _, .row c (ver + 1) fp zs, rfl, List.getElem?_set_self hlt, Nat.le_refl _, fun _ => ⟨fp, zs, rfl, ?_⟩⟩
  simp only [ownAt, hb]
  refine ⟨cap, e, cap * c.size, rfl, hcap, ?_, by omega⟩
  simp only [World.shape?, hx]
  have hvl : vs.length = need * c.size := by rw [relDCs_length hr, flat_length, hz]
  have harith : vs.length + (cap - need) * z.cells.size = cap * c.size := by
    rw [hvl, hzs, his, ← Nat.add_mul]; congr 1; omega
  simp [size_zeroCells, harith]

theorem append_own_ok (hP : ProgOK P) (hs : Sim w0 E ⟨tmps, L⟩ t) {ty tx oty e : TypeId} {c c0 : Cd} {id ver fp len : Nat} {xs ys : List c.den} {x : HV} {s v : Value} {k : HV → List Ob → Bool} (he : elemT P ty = some e) (htx : isSlStr P tx = true)
    (hid : L[id]? = some (.row c ver fp xs)) (ha : relHV E (.own c0 id ver len) s)
    (hsz : sizeT P e = c.size) (hfp : fp ≤ len) (hlen : len ≤ xs.length) (hb0 : bytesT P e ≠ 0) (hbytes : (len + ys.length) * bytesT P e ≤ 140737488355328) (hx : elems c x = some ys) (hr : relHV E x v) (hu8 : u8e c e 0) (h336 : e < 336)
    (hk : k (.own c id (ver + 1) (len + ys.length)) (L.set id (.row c (ver + 1) fp (xs.take len ++ ys))) = true) : DoneV P w0 E tmps t (Builtin.append_ #[ty, tx] oty #[s, v]) k := by
  obtain ⟨news, g1, g2⟩ := src_ok (P := P) hx hr htx
  obtain ⟨i, hie, his, hib⟩ := elem_info (P := P) hsz
  obtain ⟨z, hz, hzs⟩ := hP.zeros e i h336 hie
  have hid' : E.L[id]? = some (.row c ver fp xs) := by rw [hs.L]; exact hid
  obtain ⟨q, l, cap, o, rfl, h1, h2, h3⟩ := relHV_own.1 ha
  rw [hid'] at h1; cases h1
  obtain ⟨_, _, ec, hat⟩ := h3 rfl
  have ec' : c0 = c := by cases ec; rfl
  clear ec h3
  obtain rfl := ec'.symm
  have hob := hs.ob id _ hid'
  simp only [relOb] at hob
  obtain ⟨hfl, hob⟩ := hob
  have htl : (xs.take len).length = len := by rw [List.length_take]; omega
  have hzl : (xs.take len ++ ys).length = len + ys.length := by rw [List.length_append, htl]
  have hle : len + ys.length ≤ (len + ys.length) * bytesT P e := Nat.le_mul_of_pos_right _ (Nat.pos_of_ne_zero hb0)
  rw [← his] at g2
  have grow : ∀ olds : List Value, l = len → (∀ w : World, w.heap = E.w.heap → (Builtin.firstCells i.size len (.slice q len cap)).run P w = .ok olds.toArray w) → relDCs E.I E.w ((xs.take len).flatMap c.enc) olds → cap < len + ys.length →
      DoneV P w0 E tmps t (Builtin.append_ #[ty, tx] oty #[.slice q l cap, v]) k := by
    rintro olds rfl ho hro hgrow
    have hrun := run_append_grow_src (P := P) E.w ty tx oty e i z (elemT_some he) hie hz q l cap olds (ho _ rfl) v ys.length news g2 hgrow (by omega)
      (by rw [hib]; exact growslice_fits hgrow hbytes)
    obtain ⟨E', e1, e2, e3, e4⟩ := own_grown hP hs hid (zs := xs.take l ++ ys) (vs := olds ++ news) (by rw [List.flatMap_append]; exact relDCs_append.2 ⟨_, _, rfl, hro, g1⟩) hzl (by omega) hie hz his (grownCap E.w (l + ys.length) cap e) (grownCap_ge _ _ _ _) hu8 h336
    exact ⟨E', _, _, _, by rw [hrun, e1], hk, e2, e3, e4⟩
  cases hb : E.β id ver with
  | none =>
    simp only [hb] at hob
    simp only [ownAt, hb] at hat
    obtain ⟨rfl, hat⟩ := hat
    subst hob
    have hq : l = 0 ∧ cap = 0 ∧ (q = none ∨ ∃ b o, q = some ⟨b, o, none⟩) := by
      rcases hat with e | ⟨b, o, e⟩ <;> cases e
      · exact ⟨rfl, rfl, .inl rfl⟩
      · exact ⟨rfl, rfl, .inr ⟨b, o, rfl⟩⟩
    obtain ⟨rfl, rfl, hq⟩ := hq
    have hfc : ∀ w : World, (Builtin.firstCells i.size 0 (.slice q 0 0)).run P w = .ok #[] w := fun w => by
      rcases hq with rfl | ⟨b, o, rfl⟩
      · exact run_firstCells_none _ _ _ _ _
      · exact run_firstCells_some (P := P) w i.size 0 ⟨b, o, none⟩ 0 0 [] (by simp) (fun j v h => by simp at h)
    by_cases h0 : ys.length = 0
    · have hys : ys = [] := List.eq_nil_of_length_eq_zero h0
      subst hys
      have hn := g2.newsLen
      simp at hn
      subst hn
      have hL : L = E.L := hs.L.symm
      subst hL
      obtain rfl : fp = 0 := by omega
      let E' : Env := ⟨E.I, fun j v => if j = id ∧ v = ver + 1 then none else E.β j v, E.L.set id (.row c (ver + 1) 0 []), E.w⟩
      have hβ : ∀ j v, (j ≠ id ∨ v ≤ (Ob.row c ver 0 ([] : List c.den)).ver) → E'.β j v = E.β j v := fun j v h => by
        simp only [E']; rw [if_neg]; rintro ⟨rfl, rfl⟩; rcases h with h | h
        · exact h rfl
        · simp only [Ob.ver] at h; omega
      have hb' : E'.β id (ver + 1) = none := by simp [E']
      obtain ⟨h1, h2⟩ := sim_set (E' := E') hs id _ (.row c (ver + 1) 0 []) hid rfl (SameKind.rows (Nat.le_succ _)) rfl hβ (fun _ _ _ => rfl) (Ext.refl _ _) (fun _ _ h => .inl h) hs.Ilt
        (by simp only [relOb, hb']; simp) (fun b p h => by simp only [Ob.ver] at h; rw [hb'] at h; cases h) rfl rfl rfl
      have hlt : id < E.L.length := (List.getElem?_eq_some_iff.1 hid).1
      refine ⟨E', .slice q 0 0, _, _, ?_, hk, h1, h2, relHV_own.2 ⟨_, _, _, .row c (ver + 1) 0 [], rfl, List.getElem?_set_self hlt, Nat.le_refl _, fun _ => ⟨0, [], rfl, ?_⟩⟩⟩
      · have hc' : (Builtin.firstCells i.size 0 v).run P E.w = .ok #[] E.w := by simpa using g2.cells
        have hlen' : ∀ w' : World, (Builtin.lenOf v).run P w' = .ok 0 w' := fun w' => by simpa using g2.len w'
        rcases g2.kind with ⟨e', hk'⟩ | hk' <;>
          cases q <;> simp [Builtin.append_, run_underlying (elemT_some he), run_underlying hk', run_sizeOf hie, hlen', hc', storeCells, E']
      · simp only [ownAt, hb']
        exact ⟨by simp, by rcases hq with rfl | ⟨b, o, rfl⟩; exact .inl rfl; exact .inr ⟨b, o, rfl⟩⟩
    · exact grow [] rfl (fun w _ => hfc w) rfl (by omega)
  | some bp =>
    obtain ⟨b, p⟩ := bp
    simp only [hb] at hob
    simp only [ownAt, hb] at hat
    obtain ⟨C, e', lo, hi, vs, k1, k2, k3, k4, k5, k6, k7⟩ := hob
    obtain ⟨cap', e'', N, hy, q1, q2, q3⟩ := hat
    cases hy
    have hN : N = C.size := by simp only [World.shape?, k1, Option.some.injEq, Prod.mk.injEq] at q2; exact q2.2.symm
    subst hN
    obtain ⟨olds, more, rfl, o1, o2⟩ := relDCs_take len k3
    rw [htl] at o1
    have oc : cellsAt E.w b p olds := cellsAt_left k4
    by_cases hroom : len + ys.length ≤ cap
    · have hbound : (len + ys.length) * c.size ≤ cap * c.size := Nat.mul_le_mul_right _ hroom
      rw [Nat.add_mul] at hbound
      have hnl : news.length = ys.length * c.size := by rw [← his]; exact g2.newsLen
      have hr' : p + len * c.size + news.length ≤ C.size := by omega
      have hrun := run_append_room_src (P := P) E.w ty tx oty e i (elemT_some he) hie b p len cap v ys.length news g2 hroom
        (fun j hj => by rw [his]; simp only [World.cell?, k1]; simp; omega)
        (fun j hj => by
          rw [his]
          simp only [World.frozen?, k1]
          rcases k2 with h | h
          · simp; omega
          · simp; omega)
      rw [putCells_eq, his] at hrun
      have hL : L = E.L := hs.L.symm
      subst hL
      let E' : Env := ⟨E.I, fun j v => if j = id ∧ v = ver + 1 then some (b, p) else E.β j v, E.L.set id (.row c (ver + 1) fp (xs.take len ++ ys)), putCells E.w b (p + len * c.size) news⟩
      have hβ : ∀ j v, (j ≠ id ∨ v ≤ (Ob.row c ver fp xs).ver) → E'.β j v = E.β j v := fun j v h => by
        simp only [E']; rw [if_neg]; rintro ⟨rfl, rfl⟩; rcases h with h | h
        · exact h rfl
        · simp only [Ob.ver] at h; omega
      have hb' : E'.β id (ver + 1) = some (b, p) := by simp [E']
      have hother : ∀ x, x ≠ b → E'.w.heap[x]? = E.w.heap[x]? := fun x hx => putCells_other _ _ _ _ hx
      have hfi : fp * c.size ≤ len * c.size := Nat.mul_le_mul_right _ hfp
      have hext : Ext E.I E.w E'.I E'.w := ext_put k1 hr' (fun q hq hc => by have := k6 q hq; omega) (fun _ _ h => h)
      have hblock : E'.w.heap[b]? = some (.cells (overw C (p + len * c.size) news) e' (lo, hi)) := putCells_same _ _ _ _ k1
      obtain ⟨h1, h2⟩ := sim_set (E' := E') hs id _ (.row c (ver + 1) fp (xs.take len ++ ys)) hid rfl (SameKind.rows (Nat.le_succ _)) rfl hβ (fun x _ hx => hother x (fun e => hx p (by subst e; exact hb))) hext (fun _ _ h => .inl h)
        (fun x q h => by show x < (putCells E.w b _ _).heap.size; rw [putCells_size]; exact hs.Ilt x q h)
        (by
          simp only [relOb, hb']
          refine ⟨by omega, _, e', lo, hi, olds ++ news, hblock, by rw [overw_size]; exact k2, by rw [List.flatMap_append]; exact relDCs_append.2 ⟨_, _, rfl, relDCs_ext hext _ _ o2, relDCs_ext hext _ _ g1⟩, ?_, ?_, k6, k7⟩
          · rw [cellsAt_of_cells hblock]
            intro j u hj
            have hjl := (List.getElem?_eq_some_iff.1 hj).1
            simp only [List.length_append] at hjl
            rw [overw_get C _ _ hr']
            by_cases hjo : j < olds.length
            · rw [if_neg (by omega)]
              rw [List.getElem?_append_left hjo] at hj
              rw [cellsAt_of_cells k1] at oc
              exact oc j u hj
            · rw [if_pos ⟨by omega, by omega⟩]
              rw [List.getElem?_append_right (by omega)] at hj
              rw [← hj]; congr 1; omega
          · rw [overw_size]; simp only [List.length_append]; omega)
        (fun x p' h => by simp only [Ob.ver] at h; rw [hb'] at h; cases h; exact .inl ⟨_, hb⟩) (putCells_os _ _ _ _).1 (putCells_os _ _ _ _).2.1 (putCells_os _ _ _ _).2.2
      have hlt : id < E.L.length := (List.getElem?_eq_some_iff.1 hid).1
      refine ⟨E', _, _, _, hrun, hk, h1, h2, relHV_own.2 ⟨_, _, _, .row c (ver + 1) fp (xs.take len ++ ys), rfl, List.getElem?_set_self hlt, Nat.le_refl _, fun _ => ⟨fp, _, rfl, ?_⟩⟩⟩
      simp only [ownAt, hb']
      refine ⟨cap, e', C.size, rfl, hroom, ?_, q3⟩
      simp only [World.shape?, hblock, overw_size]
    · exact grow olds rfl (fun w hw => run_firstCells_some (P := P) w i.size len _ len cap olds (by rw [o1, his]) (fun j u hj => by
        rw [add_addr]
        have := oc j u hj
        simpa [World.cell?, hw] using this)) o2 (by omega)

theorem appendK_ok (hP : ProgOK P) (hs : Sim w0 E ⟨tmps, L⟩ t) {ty tx oty : TypeId} {hh hx : HV} {s v : Value} {k : HV → List Ob → Bool} (h : appendK P ty tx L hh hx k = true) (hrs : relHV E hh s) (hrx : relHV E hx v) :
    DoneV P w0 E tmps t (Builtin.append_ #[ty, tx] oty #[s, v]) k := by
  unfold appendK at h
  split at h
  · rename_i e he
    rw [Bool.and_eq_true] at h
    obtain ⟨htx, h⟩ := h
    split at h
    · split at h
      · rename_i hid
        split at h
        · rename_i ys hys
          simp only [Bool.and_eq_true, beq_iff_eq, decide_eq_true_eq] at h
          obtain ⟨⟨⟨⟨⟨⟨a1, a2, a2u⟩, a3⟩, a4⟩, a5⟩, a6⟩, hk⟩ := h
          subst a1
          exact append_own_ok hP hs he htx hid hrs (sizeE_some a2).1 a3 a4 a5 a6 hys hrx (u8e_of a2u) (sizeE_some a2).2 hk
        · cases h
      · cases h
    · rw [relHV_v] at hrs; subst hrs
      split at h
      · split at h
        · rename_i ys hys
          simp only [Bool.and_eq_true, beq_iff_eq, decide_eq_true_eq] at h
          obtain ⟨⟨⟨⟨a1, a1u⟩, a2⟩, a3⟩, hk⟩ := h
          exact append_fresh_ok hP hs he htx (fun w => run_firstCells_none _ _ _ _ _) (fun _ => .inl rfl) (sizeE_some a1).1 a2 a3 hys hrx (u8e_of a1u) (sizeE_some a1).2 hk
        · cases h
      · cases h
    · obtain ⟨b, o, e1⟩ := hrs
      simp only [List.cons.injEq, and_true] at e1
      subst e1
      split at h
      · split at h
        · rename_i ys hys
          simp only [Bool.and_eq_true, beq_iff_eq, decide_eq_true_eq] at h
          obtain ⟨⟨⟨⟨a1, a1u⟩, a2⟩, a3⟩, hk⟩ := h
          exact append_fresh_ok hP hs he htx (fun w => run_firstCells_some (P := P) w _ 0 ⟨b, o, none⟩ 0 0 [] (by simp) (fun j v h => by simp at h)) (fun _ => .inr ⟨b, o, rfl⟩) (sizeE_some a1).1 a2 a3 hys hrx (u8e_of a1u) (sizeE_some a1).2 hk
        · cases h
      · cases h
    · cases h
  · cases h

end
end Go.Lx
