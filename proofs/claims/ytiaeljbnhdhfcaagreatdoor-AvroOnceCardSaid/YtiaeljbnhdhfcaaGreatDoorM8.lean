/- Calls do what the evaluator has. -/
import Derived.Test.YtiaeljbnhdhfcaaGreatDoorM7
namespace Go.Lx
open Go.RowKit

/-- What a call does: it ends as one of the ways that are asked about. -/
def Does (P : Program) (w0 : World) (f : FuncId) (args : List HV) (L : List Ob) (kr : KR) : Prop :=
  hasBody P f ∧ ∀ (E : Env) (vs : List Value), Sim w0 E ⟨Tm.e, L⟩ [] → relAll E args vs → Calls P f vs.toArray E.w fun e w' =>
    ∃ (E' : Env) (L' : List Ob) (y : Value) (h : HV), E'.w = w' ∧ Sim w0 E' ⟨Tm.e, L'⟩ [] ∧ Mod E E' ∧ relHV E' h y ∧
      ((e = .returned y ∧ kr (.ret h) L' = true) ∨ (e = .panicked [{ v := y, recovered := false }] ∧ kr (.panic h) L' = true))

def CallOK (P : Program) (w0 : World) (call : CallK) : Prop := ∀ f args L kr, call f args L kr = true → Does P w0 f args L kr

structure GamOK (P : Program) (w0 : World) (G : Gam) : Prop where
  pure : PureOK P w0 G
  loud : ∀ f args L F kr, G.loud f args L = some F → F kr = true → Does P w0 f args L kr

theorem doCall_ok {P : Program} {w0 : World} {G : Gam} {call : CallK} (hG : GamOK P w0 G) (hc : CallOK P w0 call) {f : FuncId} {args : List HV} {L : List Ob} {kr : KR} (h : doCall P G call f args L kr = true) : Does P w0 f args L kr := by
  unfold doCall at h
  split at h
  · rename_i F hF
    exact hG.loud f args L F kr hF h
  · dsimp only at h
    split at h
    · rename_i q hq
      simp only [Bool.and_eq_true] at h
      obtain ⟨⟨h1, h2⟩, hk⟩ := h
      obtain ⟨hb, hcall⟩ := hG.pure f _ q hq
      refine ⟨hb, fun E vs hs ha => ?_⟩
      obtain ⟨E1, hsn, -, hrel⟩ := snaps_ok 0 args E L h1 hs
      have hargs := normArgs_ok (P := P) (paramsOf P f) _ _ (hrel vs ha)
      have hL : E1.L = (snaps 0 args L).2.2 := hsn.L
      have := hcall h2 E1 vs (by rw [hL]; exact hsn.sim) hargs
      rw [hsn.w] at this
      refine this.mono ?_
      rintro e w' ⟨E', y, rfl, e2, h3, h4, rfl, h6⟩
      rw [hL] at h3
      exact ⟨E', _, y, q.2, rfl, h3, hsn.mod.trans h4, h6, .inl ⟨rfl, hk⟩⟩
    · exact hc f args L kr h

section
variable {P : Program} {w0 : World} {E : Env} {tmps : Tm} {L : List Ob} {t : List Value}

theorem freeze_own_ok (hs : Sim w0 E ⟨tmps, L⟩ t) {s : TypeId} {c c0 : Cd} {id ver fp len : Nat} {xs : List c.den} {v : Value} {k : HV → List Ob → Bool} (hid : L[id]? = some (.row c ver fp xs)) (hu : isU8s P s = true) (hx : 0 < xs.length)
    (hr : relHV E (.own c0 id ver len) v) (hk : k (.own c0 id ver len) L = true) : DoneV P w0 E tmps t (convert s s v) k := by
  have hL : L = E.L := hs.L.symm
  subst hL
  obtain ⟨e, hus, hue, -⟩ := isU8s_some hu
  have hr0 := hr
  obtain ⟨q, l, cap, o, rfl, h1, h2, h3⟩ := relHV_own.1 hr
  rw [hid] at h1; cases h1
  obtain ⟨_, _, ec, hat⟩ := h3 rfl
  have ec' : c0 = c := by cases ec; rfl
  clear ec h3
  obtain rfl := ec'.symm
  have hob := hs.ob id _ hid
  simp only [relOb] at hob
  obtain ⟨hfl, hob⟩ := hob
  cases hb : E.β id ver with
  | none => simp only [hb] at hob; subst hob; simp at hx
  | some bp =>
    obtain ⟨b, p⟩ := bp
    simp only [hb] at hob
    simp only [ownAt, hb] at hat
    obtain ⟨C, e', lo, hi, vs, k1, k2, k3, k4, k5, k6, k7⟩ := hob
    obtain ⟨cap', e'', N, hy, q1, q2, q3⟩ := hat
    cases hy
    let fr : Nat × Nat := if lo == hi then (C.size, C.size + 1) else (min lo C.size, max hi (C.size + 1))
    let w' : World := E.w.freeze { block := b, off := C.size } 1
    have hblock : w'.heap[b]? = some (.cells C e' fr) := by
      simp only [w', World.freeze, Nat.succ_ne_self, if_false, Array.getElem?_modify, k1]
      simp [fr]
    have hother : ∀ x, x ≠ b → w'.heap[x]? = E.w.heap[x]? := fun x hxb => by
      simp only [w', World.freeze, Nat.succ_ne_self, if_false, Array.getElem?_modify]
      rw [if_neg (Ne.symm hxb)]
    have hsize : w'.heap.size = E.w.heap.size := by simp [w', World.freeze]
    let E' : Env := ⟨E.I, E.β, E.L, w'⟩
    have hcell : ∀ x q, w'.cell? ⟨x, q, none⟩ = E.w.cell? ⟨x, q, none⟩ := fun x q => by
      by_cases hxb : x = b
      · subst hxb; simp [World.cell?, hblock, k1]
      · exact cell_of_block (hother x hxb) q
    have hshape : ∀ x, w'.shape? x = E.w.shape? x := fun x => by
      by_cases hxb : x = b
      · subst hxb; simp [World.shape?, hblock, k1]
      · exact shape_of_block (hother x hxb)
    have hext : Ext E.I E.w E'.I E'.w := ⟨fun _ _ h => h, fun x q _ => hcell x q, fun x q es kk _ hm => by
      by_cases hxb : x = b
      · subst hxb; rw [k1] at hm; cases hm
      · rw [hother x hxb]; exact hm, by rw [hsize]; exact Nat.le_refl _, fun x e n hn => by rw [hshape]; exact hn⟩
    have hset : E.L = E.L.set id (.row c ver fp xs) := by
      apply List.ext_getElem?
      intro i
      rw [List.getElem?_set]
      split
      · rename_i hi'; subst hi'
        rw [if_pos (List.getElem?_eq_some_iff.1 hid).1]; exact hid
      · rfl
    obtain ⟨g1, g2⟩ := sim_set (E' := E') hs id _ (.row c ver fp xs) hid hset (SameKind.refl _) rfl (fun _ _ _ => rfl) (fun x _ hxx => hother x (fun e => hxx p (by subst e; exact hb))) hext (fun _ _ h => .inl h)
      (fun x q h => by rw [hsize]; exact hs.Ilt x q h)
      (by
        simp only [relOb]
        refine ⟨hfl, ?_⟩
        show match E.β id ver with | none => _ | some (b, p) => _
        rw [hb]
        refine ⟨C, e', fr.1, fr.2, vs, hblock, ?_, relDCs_ext hext _ _ k3, fun k v hk => by rw [hcell]; exact k4 k v hk, k5, k6, k7⟩
        simp only [fr]
        by_cases hlh : lo = hi
        · simp [hlh]
        · right
          rcases k2 with h | h
          · exact absurd h hlh
          · simp [hlh]; omega)
      (fun x p h => .inl ⟨p, h⟩) rfl rfl rfl
    refine ⟨E', _, _, _, ?_, hk, g1, g2, relHV_mod g2 hr0⟩
    have hsh : E.w.shape? b = some (e', C.size) := by simp [World.shape?, k1]
    simp [convert, run_underlying hus, run_underlying hue, markStringish, hsh, E', w']

end

theorem evLoud_sound {P : Program} {w0 : World} {G : Gam} {call : CallK} (hP : ProgOK P) (hG : GamOK P w0 G) (hcall : CallOK P w0 call) {nx : List Oper} {st : St} {o : Oper} {k kp : HV → List Ob → Bool} (h : evLoud P G call nx st o k kp = true)
    {E : Env} {t : List Value} {d : List Deferred} (hs : Sim w0 E st t) {next : Act → World → Prop} {QQ : Exit → Act → World → Prop}
    (hn : ∀ E' y h L, k h L = true → Sim w0 E' ⟨st.tmps, L⟩ t → Mod E E' → relHV E' h y → next (Act.put ⟨t.toArray, d⟩ o.dst y) E'.w)
    (hp : ∀ (E' : Env) y h L, kp h L = true → Sim w0 E' ⟨st.tmps, L⟩ t → Mod E E' → relHV E' h y → QQ (.panic [{ v := y, recovered := false }]) ⟨t.toArray, d⟩ E'.w) : o.wp P ⟨t.toArray, d⟩ E.w next QQ := by
  have ev := fun x => opnd_ok (d := d) hs.tm x
  have fev : ∀ x, (fe true (opnd st.tmps x)).1 = true → relHV E (fe true (opnd st.tmps x)).2 (Act.eval ⟨t.toArray, d⟩ x) := fun x hx => fe_ok rfl hx (ev x)
  have doneV : ∀ s : Sem Value, DoneV P w0 E st.tmps t s k → execOp (Act.eval ⟨t.toArray, d⟩) o = (do pure (.value (← s))) → o.wp P ⟨t.toArray, d⟩ E.w next QQ := by
    rintro s ⟨E', y, hh, L', h1, h2, h3, h4, h5⟩ he
    exact Oper.wp_value (by rw [he]; simp [h1]) (hn E' y hh L' h2 h3 h4 h5)
  have doneU : ∀ s : Sem Unit, DoneU P w0 E st.tmps t s (k .junk) → execOp (Act.eval ⟨t.toArray, d⟩) o = (do s; pure .skip) → o.wp P ⟨t.toArray, d⟩ E.w next QQ := by
    rintro s ⟨E', L', h1, h2, h3, h4⟩ he
    exact Oper.wp_skip' (by rw [he]; simp [h1]) (hn E' undef .junk L' h2 h3 h4 relHV_junk)
  unfold evLoud at h
  split at h
  · -- alloc
    rename_i ty hop
    unfold lAlloc at h
    simp only [Bool.and_eq_true] at h
    exact doneV _ (alloc_ok hs h.1 h.2) (by simp [execOp, hop])
  · -- box
    rename_i ty x hop
    unfold lBox at h
    simp only [Bool.and_eq_true] at h
    exact doneV _ (box_ok hs h.1.2 (fev x h.1.1) h.2) (by simp [execOp, hop])
  · -- store
    rename_i ty a x hop
    unfold lStore at h
    simp only [Bool.and_eq_true] at h
    exact doneU _ (storeK_ok hs h.2 (fev a h.1.1) (fev x h.1.2)) (by simp [execOp, hop])
  · -- makeMap
    rename_i ty hop
    unfold lMap at h
    split at h
    · exact doneV _ (makeMap_ok hs (ty := ty) (o := .fmap []) rfl (.inl rfl) h) (by simp [execOp, hop])
    · split at h
      · rename_i kc vc _
        exact doneV _ (makeMap_ok hs (ty := ty) (o := .map kc vc []) rfl (.inr ⟨kc, vc, rfl⟩) h) (by simp [execOp, hop])
      · cases h
  · -- insert
    rename_i ty m x y hop
    unfold lPut at h
    simp only [Bool.and_eq_true] at h
    exact doneU _ (mapPutK_ok hs h.2 (fev m h.1.1.1) (fev x h.1.1.2) (fev y h.1.2)) (by simp [execOp, hop])
  · -- mapUpdate
    rename_i ty m x y hop
    unfold lPut at h
    simp only [Bool.and_eq_true] at h
    exact doneU _ (mapPutK_ok hs h.2 (fev m h.1.1.1) (fev x h.1.1.2) (fev y h.1.2)) (by simp [execOp, hop])
  · -- lookup
    rename_i ty m x hop
    unfold lLook at h
    simp only [Bool.and_eq_true] at h
    obtain ⟨⟨⟨hm, hx⟩, hf⟩, h⟩ := h
    split at h
    · rename_i id s e1 e2
      split at h
      · rename_i es hid
        have r1 := fev m hm
        have r2 := fev x hx
        rw [e1] at r1; rw [e2, relHV_v] at r2
        exact doneV _ (lookup_fn_ok hs hid hf r1 h) (by simp [execOp, hop, r2])
      · cases h
    · cases h
  · -- buildSlice
    rename_i ty n parts hop
    unfold lSlice at h
    split at h
    · rename_i e he
      have hexec : execOp (Act.eval ⟨t.toArray, d⟩) o = (do pure (.value (← Instr.buildSlice ty n (parts.map fun p => (p.1, Act.eval ⟨t.toArray, d⟩ p.2))))) := by simp [execOp, hop]
      split at h
      · rename_i hn0
        subst hn0
        simp only [Bool.and_eq_true, beq_iff_eq] at h
        have hpe : parts = #[] := Array.eq_empty_of_size_eq_zero h.1.1
        subst hpe
        have hi : ∃ i, P.info? e = some i := by
          have := h.1.2
          exact Option.isSome_iff_exists.1 this
        exact doneV _ (buildSlice_nil hs he hi h.2) (by rw [hexec]; simp)
      · rename_i hn0
        split at h
        · rename_i c hc
          split at h
          · rename_i ys hys
            simp only [Bool.and_eq_true, beq_iff_eq, decide_eq_true_eq] at h
            obtain ⟨⟨⟨⟨⟨ha, hr⟩, hl⟩, hsz, hu8⟩, hsm⟩, h⟩ := h
            have hops : relAll E (parts.toList.map fun p => opnd st.tmps p.2) (parts.toList.map fun p => Act.eval ⟨t.toArray, d⟩ p.2) := by
              have := opnds_ok (d := d) hs.tm (parts.toList.map (·.2))
              rw [List.map_map, List.map_map] at this; exact this
            obtain ⟨E1, hsn, -, hrel⟩ := snaps_ok 0 _ E st.L hr hs
            have hargs := hrel _ (feAll_ok rfl ha hops)
            have hlen : (parts.toList.map (·.1)).length = (snaps 0 (feAll true (parts.toList.map fun p => opnd st.tmps p.2)).2 st.L).2.1.length := by
              rw [← relAll_length hargs]; simp
            have fin : ∀ kk, DoneV P w0 E1 st.tmps t (Instr.buildSlice ty n (parts.map fun p => (p.1, Act.eval ⟨t.toArray, d⟩ p.2))) kk → kk = k → o.wp P ⟨t.toArray, d⟩ E.w next QQ := by
              rintro kk ⟨E', y, hh, L', h1, h2, h3, h4, h5⟩ rfl
              refine doneV _ ⟨E', y, hh, L', by rw [← hsn.w]; exact h1, h2, h3, hsn.mod.trans h4, h5⟩ hexec
            split at h
            · rename_i hown
              exact fin k (buildSlice_own hP hsn.sim he hys (by rw [zip_fst _ _ hlen]; simp) (by rw [zip_snd _ _ hlen]; rw [Array.toList_map, List.map_map]; exact hargs) hl (sizeE_some hsz).1 (sizeE_some hsz).2 hsm hn0 (u8e_of (by rw [hown] at hu8; simpa using hu8)) h) rfl
            · exact fin k (buildSlice_data hP hsn.sim he hys (by rw [zip_fst _ _ hlen]; simp) (by rw [zip_snd _ _ hlen]; rw [Array.toList_map, List.map_map]; exact hargs) hl (sizeE_some hsz).1 (sizeE_some hsz).2 hsm hn0 h) rfl
          · cases h
        · cases h
    · cases h
  · -- convert
    rename_i s dd x hop
    unfold lConv at h
    split at h
    · rename_i v c id ver len hx
      split at h
      · rename_i hid
        simp only [Bool.and_eq_true, beq_iff_eq, decide_eq_true_eq] at h
        obtain ⟨⟨⟨⟨⟨hv, rfl⟩, rfl⟩, hpos⟩, hu⟩, hk⟩ := h
        have r1 := fev x (by rw [hx]; exact hv)
        rw [hx] at r1
        exact doneV _ (freeze_own_ok hs hid hu hpos r1 hk) (by simp [execOp, hop])
      · cases h
    · cases h
  · -- range
    rename_i ty x hop
    unfold lRange at h
    split at h
    · rename_i v s hx
      simp only [Bool.and_eq_true] at h
      have r1 := fev x (by rw [hx]; exact h.1.1)
      rw [hx, relHV_v] at r1
      exact doneV _ (range_ok hs h.1.2 h.2) (by simp [execOp, hop, r1])
    · cases h
  · -- next
    rename_i x hop
    unfold lNext at h
    split at h
    · rename_i v id hx
      split at h
      · rename_i s pos hid
        rw [Bool.and_eq_true] at h
        have r1 := fev x (by rw [hx]; exact h.1)
        rw [hx] at r1
        exact doneV _ (next_ok (ty := o.type) hs hid r1 h.2) (by simp [execOp, hop])
      · cases h
    · cases h
  · -- panic
    rename_i x hop
    unfold lPanic at h
    rw [Bool.and_eq_true] at h
    have r1 := fev x h.1
    have fin : ∀ ty y hh, Act.eval ⟨t.toArray, d⟩ x = .iface ty y → relHV E hh (.iface ty y) → kp hh st.L = true → o.wp P ⟨t.toArray, d⟩ E.w next QQ := by
      intro ty y hh e1 e2 e3
      unfold Oper.wp
      have : (execOp (Act.eval ⟨t.toArray, d⟩) o).run P E.w = .halt (.panic (.iface ty y)) E.w := by simp [execOp, hop, e1, Instr.panic]
      rw [this]
      exact hp E _ hh st.L e3 hs (Mod.refl E) e2
    split at h
    · rename_i ty y hx
      rw [hx, relHV_v] at r1
      exact fin ty y (.v (.iface ty y)) r1 rfl h.2
    · rename_i ty hh hx
      rw [hx] at r1
      have r2 := r1
      simp only [relHV, top, relF, List.cons.injEq, and_true] at r1
      obtain ⟨z, e1, e2⟩ := r1
      rw [e1] at r2
      exact fin ty z _ e1 r2 h.2
    · exact absurd h.2 (by simp)
  · -- call
    rename_i c hop
    unfold lCall at h
    split at h
    · rename_i hc
      unfold lAppend at h
      split at h
      · rename_i s x ts tx e1 e2
        simp only [Bool.and_eq_true] at h
        obtain ⟨⟨h1, h2⟩, h3, h4⟩ := h
        obtain ⟨E1, hsn, hrel⟩ := snap_hv 0 _ E st.L h3 hs
        obtain ⟨E', y, hh, L', g1, g2, g3, g4, g5⟩ := appendK_ok (oty := o.type) hP hsn.sim h4 (relHV_mod hsn.mod (fev s h1)) (hrel _ (fev x h2))
        have e1' : c.args = #[s, x] := by rw [← Array.toArray_toList (xs := c.args), e1]
        have e2' : c.argTypes = #[ts, tx] := by rw [← Array.toArray_toList (xs := c.argTypes), e2]
        refine doneV _ ⟨E', y, hh, L', by rw [← hsn.w]; exact g1, g2, g3, hsn.mod.trans g4, g5⟩ ?_
        simp [execOp, hop, resolve, hc, invoke, builtin, e1', e2']
      · cases h
    · rename_i g hc
      unfold lValue at h
      split at h
      · rename_i f fst cap hcal
        simp only [Bool.and_eq_true] at h
        obtain ⟨⟨h1, h2⟩, h3⟩ := h
        obtain ⟨hb, hdo⟩ := doCall_ok hG hcall h3
        have rg := fev g h1
        have hfn : ∃ fs cs : List Value, Act.eval ⟨t.toArray, d⟩ g = .func (.func f) fs.toArray cs.toArray ∧ relAll E fst fs ∧ relAll E cap cs := by
          unfold callee at hcal
          split at hcal
          · rename_i f' a b hf
            simp only [Option.some.injEq, Prod.mk.injEq] at hcal
            obtain ⟨rfl, rfl, rfl⟩ := hcal
            rw [hf] at rg
            simp only [relHV, top, relF, List.cons.injEq, and_true] at rg
            exact rg
          · rename_i f' a b hf
            split at hcal
            · rename_i hsz
              simp only [Option.some.injEq, Prod.mk.injEq] at hcal
              obtain ⟨rfl, rfl, rfl⟩ := hcal
              rw [hf, relHV_v] at rg
              refine ⟨[], [], ?_, rfl, rfl⟩
              rw [rg, Array.eq_empty_of_size_eq_zero hsz.1, Array.eq_empty_of_size_eq_zero hsz.2]
            · cases hcal
          · cases hcal
        obtain ⟨fs, cs, he, ha1, ha2⟩ := hfn
        have hrun := run_callValue hP hb (ρ := Act.eval ⟨t.toArray, d⟩) (fst := fs.toArray) (cap := cs.toArray) hop hc he E.w
        unfold Oper.wp
        rw [hrun, Oper.upon_enter]
        have hargs : relAll E (fst ++ (feAll true (c.args.toList.map (opnd st.tmps))).2 ++ cap) (fs ++ (c.args.map (Act.eval ⟨t.toArray, d⟩)).toList ++ cs) :=
          relAll_append.2 ⟨_, _, rfl, relAll_append.2 ⟨_, _, rfl, ha1, feAll_ok rfl h2 (relAll_map (d := d) hs.tm c.args)⟩, ha2⟩
        have := hdo E _ (by have := sim_bare hs; rw [hs.L] at this; exact this) hargs
        have earr : (fs ++ (c.args.map (Act.eval ⟨t.toArray, d⟩)).toList ++ cs).toArray = fs.toArray ++ c.args.map (Act.eval ⟨t.toArray, d⟩) ++ cs.toArray := by
          apply Array.ext'; simp
        rw [earr] at this
        refine this.mono ?_
        rintro e w' ⟨E', L', y, hh, rfl, g1, g2, g3, ⟨rfl, g4⟩ | ⟨rfl, g4⟩⟩
        · exact hn E' y hh L' g4 (sim_tmps g1 g2 hs.tm) g2 g3
        · exact hp E' y hh L' g4 (sim_tmps g1 g2 hs.tm) g2 g3
      · cases h
    · cases h
  · cases h

end Go.Lx

namespace Go.Lx
open Go.RowKit

theorem evPure_sound {P : Program} {w0 : World} {G : Gam} (hP : ProgOK P) (hG : PureOK P w0 G) {g : Bool} {st : St} {o : Oper} {r : Bool × HV} (h : evPure P G g st o = some r) (hg : g = true) (hr : r.1 = true)
    {E : Env} {t : List Value} {d : List Deferred} (hs : Sim w0 E st t) {next : Act → World → Prop} {QQ : Exit → Act → World → Prop}
    (hn : ∀ E' y, E'.L = E.L → Sim w0 E' st t → Mod E E' → relHV E' r.2 y → next (Act.put ⟨t.toArray, d⟩ o.dst y) E'.w) : o.wp P ⟨t.toArray, d⟩ E.w next QQ := by
  have hL : st.L = E.L := hs.L.symm
  have ev := fun x => opnd_ok (d := d) hs.tm x
  have same : ∀ y, relHV E r.2 y → (execOp (Act.eval ⟨t.toArray, d⟩) o).run P E.w = .ok (.value y) E.w → o.wp P ⟨t.toArray, d⟩ E.w next QQ :=
    fun y h1 h2 => Oper.wp_value h2 (hn E y rfl hs (Mod.refl E) h1)
  have un' : ∀ (x : Operand) (f : HV → Option HV) (k : Value → Sem Value), ((f (fe g (opnd st.tmps x)).2).map fun r => ((fe g (opnd st.tmps x)).1, r)) = some r →
      (∀ z hx hr', f hx = some hr' → relHV E hx z → ∃ y, (k z).run P E.w = .ok y E.w ∧ relHV E hr' y) → execOp (Act.eval ⟨t.toArray, d⟩) o = (do pure (.value (← k (Act.eval ⟨t.toArray, d⟩ x)))) →
      o.wp P ⟨t.toArray, d⟩ E.w next QQ := by
    intro x f k h1 h2 h3
    rw [Option.map_eq_some_iff] at h1
    obtain ⟨hr', hf, rfl⟩ := h1
    obtain ⟨y, hy, hry⟩ := h2 _ _ _ hf (fe_ok hg hr (ev x))
    exact same y hry (by rw [h3]; simp [hy])
  have un : ∀ (x : Operand) (f : HV → Option (Bool × HV)) (k : Value → Sem Value), ((f (fe g (opnd st.tmps x)).2).map fun r => ((fe g (opnd st.tmps x)).1 && r.1, r.2)) = some r →
      (∀ z hx hr', f hx = some hr' → hr'.1 = true → relHV E hx z → ∃ y, (k z).run P E.w = .ok y E.w ∧ relHV E hr'.2 y) → execOp (Act.eval ⟨t.toArray, d⟩) o = (do pure (.value (← k (Act.eval ⟨t.toArray, d⟩ x)))) →
      o.wp P ⟨t.toArray, d⟩ E.w next QQ := by
    intro x f k h1 h2 h3
    rw [Option.map_eq_some_iff] at h1
    obtain ⟨hr', hf, rfl⟩ := h1
    simp only [Bool.and_eq_true] at hr
    obtain ⟨y, hy, hry⟩ := h2 _ _ _ hf hr.2 (fe_ok hg hr.1 (ev x))
    exact same y hry (by rw [h3]; simp [hy])
  have bi : ∀ (x y : Operand) (f : HV → HV → Option (Bool × HV)) (k : Value → Value → Sem Value),
      ((f (fe g (opnd st.tmps x)).2 (fe g (opnd st.tmps y)).2).map fun r => ((fe g (opnd st.tmps x)).1 && (fe g (opnd st.tmps y)).1 && r.1, r.2)) = some r →
      (∀ u v hx hy hr', f hx hy = some hr' → hr'.1 = true → relHV E hx u → relHV E hy v → ∃ z, (k u v).run P E.w = .ok z E.w ∧ relHV E hr'.2 z) →
      execOp (Act.eval ⟨t.toArray, d⟩) o = (do pure (.value (← k (Act.eval ⟨t.toArray, d⟩ x) (Act.eval ⟨t.toArray, d⟩ y)))) → o.wp P ⟨t.toArray, d⟩ E.w next QQ := by
    intro x y f k h1 h2 h3
    rw [Option.map_eq_some_iff] at h1
    obtain ⟨hr', hf, rfl⟩ := h1
    simp only [Bool.and_eq_true] at hr
    obtain ⟨z, hz, hrz⟩ := h2 _ _ _ _ _ hf hr.2 (fe_ok hg hr.1.1 (ev x)) (fe_ok hg hr.1.2 (ev y))
    exact same z hrz (by rw [h3]; simp [hz])
  unfold evPure at h
  simp only [hL] at h
  split at h
  · -- move
    rename_i x hop
    simp only [Option.some.injEq] at h; subst h
    exact same _ (fe_ok hg hr (ev x)) (by simp [execOp, hop])
  · -- assign
    rename_i x hop
    simp only [Option.some.injEq] at h; subst h
    exact same _ (fe_ok hg hr (ev x)) (by simp [execOp, hop])
  · -- pick
    rename_i c a b hop
    unfold pPick at h
    split at h
    · rename_i vc x hc
      have hcv : ∀ hvc : vc = true, Act.eval ⟨t.toArray, d⟩ c = .bool x := fun hvc => by
        have := fe_ok hg (by rw [hc]; exact hvc) (ev c)
        rw [hc] at this; exact this
      have run : ∀ hvc : vc = true, (execOp (Act.eval ⟨t.toArray, d⟩) o).run P E.w = .ok (.value (if x then Act.eval ⟨t.toArray, d⟩ a else Act.eval ⟨t.toArray, d⟩ b)) E.w := fun hvc => by
        simp [execOp, hop, hcv hvc, asBool]
      have va' : ∀ va p, fe (g && x) (opnd st.tmps a) = (va, .v (.bool p)) → va = true → x = true → Act.eval ⟨t.toArray, d⟩ a = .bool p := fun va p e h1 h2 => by
        have := fe_ok (g := g && x) (by simp [hg, h2]) (by rw [e]; exact h1) (ev a)
        rw [e] at this; exact this
      have vb' : ∀ vb q, fe (g && !x) (opnd st.tmps b) = (vb, .v (.bool q)) → vb = true → x = false → Act.eval ⟨t.toArray, d⟩ b = .bool q := fun vb q e h1 h2 => by
        have := fe_ok (g := g && !x) (by simp [hg, h2]) (by rw [e]; exact h1) (ev b)
        rw [e] at this; exact this
      split at h
      · rename_i va p vb q ha hb
        simp only [Option.some.injEq] at h; subst h
        simp only [Bool.and_eq_true] at hr
        refine same _ ?_ (run hr.1.1)
        cases hx : x with
        | true => simp only [if_true, cond_true]; rw [va' va p ha hr.1.2 hx]; rfl
        | false => simp only [Bool.false_eq_true, if_false, cond_false]; rw [vb' vb q hb hr.2 hx]; rfl
      · rename_i vb q hb _
        simp only [Option.some.injEq] at h; subst h
        simp only [Bool.and_eq_true, Bool.not_eq_true', hg, Bool.true_and] at hr
        refine same _ ?_ (run hr.1.1)
        rw [hr.1.2]
        simp only [Bool.false_eq_true, if_false]
        rw [vb' vb q hb hr.2 hr.1.2]; rfl
      · rename_i va p ha _
        simp only [Option.some.injEq] at h; subst h
        simp only [Bool.and_eq_true, Bool.not_eq_true', hg, Bool.true_and, Bool.not_eq_false'] at hr
        refine same _ ?_ (run hr.1.1)
        rw [hr.1.2]
        simp only [if_true]
        rw [va' va p ha hr.2 hr.1.2]; rfl
      · cases h
    · cases h
  · -- binOp
    rename_i op ty x y yt hop
    exact bi x y _ (fun u v => do eqGuard op ty x y u v; binOp op ty u v) h (fun u v hx hy hr' h1 h2 h3 h4 => binH_ok hP h1 h2 h3 h4) (by simp [execOp, hop])
  · -- unOp
    rename_i op ty x hop
    exact un' x _ (fun z => Op.unary op z) h (fun z hx hr' h1 h2 => unaryH_ok h1 h2) (by simp [execOp, hop])
  · -- convert
    rename_i s dd x hop
    unfold pUn' at h
    rw [Option.map_eq_some_iff] at h
    obtain ⟨hr', hf, rfl⟩ := h
    obtain ⟨z, E', h1, h2, h3, h4, h5⟩ := convH_ok hs hf (fe_ok hg hr (ev x))
    exact Oper.wp_value (by simp [execOp, hop, h1]) (hn E' z h2 h3 h4 h5)
  · -- fieldAddr
    rename_i s x f hop
    exact un' x _ (fun z => Instr.fieldAt s z f) h (fun z hx hr' h1 h2 => fieldH_ok h1 h2) (by simp [execOp, hop])
  · -- load
    rename_i ty x hop
    exact un x _ (fun z => Instr.loadAt ty z) h (fun z hx hr' h1 h2 h3 => loadH_ok hs h1 h2 h3) (by simp [execOp, hop])
  · -- indexAddr
    rename_i ty x i hop
    exact bi x i _ (fun u v => Instr.indexAt ty u v) h (fun u v hx hy hr' h1 h2 h3 h4 => indexAddrH_ok h1 h2 h3 h4) (by simp [execOp, hop])
  · -- index
    rename_i ty x i hop
    exact bi x i _ (fun u v => Instr.index ty u v) h (fun u v hx hy hr' h1 h2 h3 h4 => indexH_ok h1 h2 h3 h4) (by simp [execOp, hop])
  · -- slice
    rename_i ty x lo hi hop
    unfold pSlice at h
    rw [Option.map_eq_some_iff] at h
    obtain ⟨r', hf, rfl⟩ := h
    simp only [Bool.and_eq_true] at hr
    have ho : ∀ (y : Option Operand), ((y.map fun x => fe g (opnd st.tmps x)).map (·.1)).getD true = true → ∀ a b, (y.map fun x => fe g (opnd st.tmps x)).map (·.2) = some a → y.map (Act.eval ⟨t.toArray, d⟩) = some b → relHV E a b := by
      intro y hy a b h1 h2
      cases y with
      | none => simp at h1
      | some y => simp at h1 h2 hy; subst h1; subst h2; exact fe_ok hg hy (ev y)
    obtain ⟨y, h1, h2⟩ := sliceH_ok (vlo := lo.map (Act.eval ⟨t.toArray, d⟩)) (vhi := hi.map (Act.eval ⟨t.toArray, d⟩)) hf hr.2 (fe_ok hg hr.1.1.1 (ev x)) (ho lo hr.1.1.2) (by simp) (ho hi hr.1.2) (by simp)
    exact same y h2 (by simp [execOp, hop, h1])
  · -- slice with all bounds
    rename_i ty x hi mx hop
    unfold pFull at h
    rw [Option.map_eq_some_iff] at h
    obtain ⟨r', hf, rfl⟩ := h
    simp only [Bool.and_eq_true] at hr
    obtain ⟨y, h1, h2⟩ := sliceFullH_ok hf hr.2 (fe_ok hg hr.1.1.1 (ev x)) (fe_ok hg hr.1.1.2 (ev hi)) (fe_ok hg hr.1.2 (ev mx))
    exact same y h2 (by simp [execOp, hop, h1])
  · -- lookup
    rename_i ty m x ok hop
    refine bi m x (fun m x => (lookupH P ty E.L m x ok).map fun h => (true, h)) (fun u v => Instr.lookup ty u v ok) h (fun u v hx hy hr' h1 h2 h3 h4 => ?_) (by simp [execOp, hop])
    rw [Option.map_eq_some_iff] at h1
    obtain ⟨r', hf, rfl⟩ := h1
    exact lookupH_ok hs hf h3 h4
  · -- extract
    rename_i x i hop
    exact un' x _ (fun z => Instr.extract z i) h (fun z hx hr' h1 h2 => extractH_ok h1 h2) (by simp [execOp, hop])
  · -- makeInterface
    rename_i ty x hop
    unfold pIface at h
    split at h
    · cases h
    · rename_i dd hne hu
      refine un' x _ (fun z => Instr.makeInterface ty z) h (fun z hx hr' h1 h2 => ⟨_, ?_, ifaceH_ok h1 h2⟩) (by simp [execOp, hop])
      simp only [Instr.makeInterface, Sem.run_bind, run_underlying hu, Result.andThen_ok]
      cases dd <;> first | rfl | exact absurd hu (hne _)
    · cases h
  · -- makeFunc
    rename_i f fst cap hop
    unfold pFunc at h
    simp only [Option.some.injEq] at h; subst h
    simp only [Bool.and_eq_true] at hr
    refine same (.func (.func f) (fst.map (Act.eval ⟨t.toArray, d⟩)) (cap.map (Act.eval ⟨t.toArray, d⟩))) ?_ (by simp [execOp, hop, Instr.makeFunc])
    exact ⟨_, _, by simp only [Array.toArray_toList], feAll_ok hg hr.1 (relAll_map (d := d) hs.tm fst), feAll_ok hg hr.2 (relAll_map (d := d) hs.tm cap)⟩
  · -- nilCheck
    rename_i x hop
    unfold pUn' at h
    rw [Option.map_eq_some_iff] at h
    obtain ⟨r', hf, rfl⟩ := h
    obtain ⟨h1, a, h2⟩ := nilH_ok hf (fe_ok hg hr (ev x))
    refine same _ h1 ?_
    simp [execOp, hop, h2]
  · -- build
    rename_i ty parts hop
    unfold pBuild at h
    split at h
    · rename_i fs fd hz hfd
      split at h
      · rename_i hc
        rw [Option.map_eq_some_iff] at h
        obtain ⟨fs', hb, rfl⟩ := h
        simp only [Bool.and_eq_true, List.all_eq_true, bne_iff_ne, ne_eq] at hc
        have hops : relAll E (parts.toList.map fun p => opnd st.tmps p.2) (parts.toList.map fun p => Act.eval ⟨t.toArray, d⟩ p.2) := by
          have := opnds_ok (d := d) hs.tm (parts.toList.map (·.2))
          rw [List.map_map, List.map_map] at this; exact this
        have hfe := feAll_ok hg hr hops
        have hlen : (parts.toList.map (·.1)).length = (feAll g (parts.toList.map fun p => opnd st.tmps p.2)).2.length := by rw [feAll_length]; simp
        obtain ⟨y, h1, h2⟩ := build_ok (P := P) (E := E) (parts := parts.map fun p => (p.1, Act.eval ⟨t.toArray, d⟩ p.2)) hfd hc.1 hc.2 hb
          (by rw [zip_fst _ _ hlen]; simp) (by rw [zip_snd _ _ hlen]; simp only [Array.toList_map, List.map_map]; exact hfe)
        exact same y h2 (by simp [execOp, hop, h1])
      · cases h
    · cases h
  · -- buildSlice
    rename_i ty n parts hop
    unfold pSliceOf at h
    split at h
    · rename_i hno
      split at h
      · rename_i e he
        split at h
        · rename_i c hc
          split at h
          · rename_i ys hys
            cases h
            simp only [Bool.and_eq_true, bne_iff_ne, ne_eq, beq_iff_eq, decide_eq_true_eq] at hr
            obtain ⟨⟨⟨⟨ha, hn0⟩, hl⟩, hsz⟩, hsm⟩ := hr
            have hops : relAll E (parts.toList.map fun p => opnd st.tmps p.2) (parts.toList.map fun p => Act.eval ⟨t.toArray, d⟩ p.2) := by
              have := opnds_ok (d := d) hs.tm (parts.toList.map (·.2))
              rw [List.map_map, List.map_map] at this; exact this
            have hargs := feAll_ok hg ha hops
            have hlen : (parts.toList.map (·.1)).length = (feAll g (parts.toList.map fun p => opnd st.tmps p.2)).2.length := by
              rw [← relAll_length hargs]; simp
            have hst : st = ⟨st.tmps, E.L⟩ := by rw [← hL]
            have hs' : Sim w0 E ⟨st.tmps, E.L⟩ t := by rw [← hst]; exact hs
            obtain ⟨E', y, g1, g2, g3, g4, g5⟩ := buildSlice_plain (parts := parts.map fun p => (p.1, Act.eval ⟨t.toArray, d⟩ p.2)) hP hs' he hys
              (by rw [zip_fst _ _ hlen]; simp) (by rw [zip_snd _ _ hlen, Array.toList_map, List.map_map]; exact hargs) hl (sizeE_some hsz).1 (sizeE_some hsz).2 hsm hn0
            exact Oper.wp_value (by simp [execOp, hop, g1]) (hn E' y g2 (by rw [hst]; exact g3) g4 g5)
          · cases h
        · cases h
      · cases h
    · cases h
  · -- call
    rename_i c hop
    unfold pCall at h
    split at h
    · rename_i hc
      unfold pLen at h
      split at h
      · rename_i x ty h1 h2
        have e1 : c.args = #[x] := by rw [← Array.toArray_toList (xs := c.args), h1]
        have e2 : c.argTypes = #[ty] := by rw [← Array.toArray_toList (xs := c.argTypes), h2]
        refine un' x _ (fun z => Builtin.len_ #[ty] o.type #[z]) h (fun z hx hr' k1 k2 => lenH_ok hs k1 k2) ?_
        simp [execOp, hop, resolve, hc, invoke, builtin, e1, e2]
      · cases h
    · rename_i hc
      unfold pMax at h
      split at h
      · rename_i x y h1
        have e1 : c.args = #[x, y] := by rw [← Array.toArray_toList (xs := c.args), h1]
        refine bi x y _ (fun u v => Builtin.max_ c.argTypes o.type #[u, v]) h (fun u v hx hy hr' k1 _ k3 k4 => maxH_ok k1 k3 k4) ?_
        simp [execOp, hop, resolve, hc, invoke, builtin, e1]
      · cases h
    · rename_i f hc
      unfold pPure at h
      split at h
      · rw [Option.map_eq_some_iff] at h
        obtain ⟨r', hf, rfl⟩ := h
        simp only [Bool.and_eq_true] at hr
        obtain ⟨hb, hcall⟩ := hG f _ r' hf
        have hrun := run_callValue hP hb (ρ := Act.eval ⟨t.toArray, d⟩) (fst := #[]) (cap := #[]) hop hc rfl E.w
        unfold Oper.wp
        rw [hrun, Oper.upon_enter]
        have hargs := normArgs_ok (P := P) (paramsOf P f) _ _ (feAll_ok hg hr.1 (relAll_map (d := d) hs.tm c.args))
        have := hcall hr.2 E _ (sim_bare hs) hargs
        simp only [Array.toArray_toList, Array.empty_append, Array.append_empty] at this ⊢
        refine this.mono ?_
        rintro e w' ⟨E', y, rfl, e2, h3, h4, rfl, h6⟩
        have hst : st = ⟨st.tmps, E.L⟩ := by rw [← hL]
        refine hn E' y e2 ?_ h4 h6
        rw [hst]; exact sim_tmps h3 h4 hs.tm
      · cases h
    · cases h
  · cases h

end Go.Lx
