/- All that is known of library functions holds. -/
import Derived.Test.YtiaeljbnhdhfcaaGreatDoorM15
import Derived.Test.YtiaeljbnhdhfcaaGreatDoorM14
import Derived.Test.YtiaeljbnhdhfcaaGreatDoorM13
namespace Go.Proofs.YtiaeljbnhdhfcaaGreatDoor
open Go Go.RowKit Go.Lx

theorem relAll_one {E : Env} {h : HV} {vs : List Value} (hr : relAll E [h] vs) : ∃ v, vs = [v] ∧ relHV E h v := by
  obtain ⟨x, r, rfl, h1, h2⟩ := hr
  simp only [relAll] at h2
  exact ⟨x, by rw [h2], h1⟩

theorem width1 {E : Env} {f : HV} {a : List Value} (h : relF E f a) (hw : f.width = 1) : ∃ v, a = [v] := by
  have := relF_length f a h
  rw [hw] at this
  match a, this with
  | [v], _ => exact ⟨v, rfl⟩

/-- A box of two words, in memory. -/
theorem box2 {w0 : World} {E : Env} {st : St} {t : List Value} (hs : Sim w0 E st t) {id : Nat} {a b : HV} (hid : st.L[id]? = some (.box 180 (.st [a, b]))) (ha : a.width = 1) (hb : b.width = 1) :
    ∃ blk x y, E.β id 0 = some (blk, 0) ∧ E.w.heap[blk]? = some (.cells #[x, y] 180 (0, 0)) ∧ relF E a [x] ∧ relF E b [y] ∧ ∀ q, ¬ E.I blk q := by
  obtain ⟨blk, vs, h1, h2, h3, h4⟩ := hs.ob id _ (by rw [hs.L]; exact hid)
  simp only [relF, relSt] at h3
  obtain ⟨p, q, rfl, hp, q1, q2, rfl, hq, rfl⟩ := h3
  obtain ⟨x, rfl⟩ := width1 hp ha
  obtain ⟨y, rfl⟩ := width1 hq hb
  exact ⟨blk, x, y, h1, h2, hp, hq, h4⟩

theorem ptr_at {E : Env} {id blk : Nat} {v : Value} (hv : relHV E (.ptr id 0) v) (hb : E.β id 0 = some (blk, 0)) : v = .pointer (some ⟨blk, 0, none⟩) := by
  obtain ⟨_, _, b, o, _, h2, rfl⟩ := relHV_ptr.1 hv
  rw [hb] at h2; cases h2; rfl

theorem do173_used {w0 : World} {L : List Ob} {id : Nat} {b : HV} {kr : KR} (hid : L[id]? = some (.box 180 (.st [.ptr id 0, b]))) (hk : kr (.ret (.tup [])) L = true) : Does Tryz.prog w0 173 [.ptr id 0] L kr := by
  refine ⟨⟨_, Tryz.func173, rfl⟩, fun E vs hs hvs => ?_⟩
  obtain ⟨v, rfl, hv⟩ := relAll_one hvs
  obtain ⟨blk, vs', h1, h2, h3, h4⟩ := hs.ob id _ (by rw [hs.L]; exact hid)
  have hvv := ptr_at hv h1
  subst hvv
  simp only [relF, relSt] at h3
  obtain ⟨p, q, rfl, ⟨_, _, b', o', _, g2, rfl⟩, _⟩ := h3
  rw [h1] at g2; cases g2
  refine (cc_used blk E.w (by simp [World.cell?, h2])).mono ?_
  rintro e w' ⟨rfl, rfl⟩
  exact ⟨E, L, _, .tup [], rfl, hs, Mod.refl E, ⟨[], rfl, rfl⟩, .inl ⟨rfl, hk⟩⟩

theorem do173_fresh {w0 : World} {L : List Ob} {id : Nat} {b : HV} {kr : KR} (hid : L[id]? = some (.box 180 (.st [.v (.pointer none), b]))) (hb : b.width = 1) (hk : storeK Tryz.prog 178 L (.ptr id 0) (.ptr id 0) (fun L' => kr (.ret (.tup [])) L') = true) : Does Tryz.prog w0 173 [.ptr id 0] L kr := by
  refine ⟨⟨_, Tryz.func173, rfl⟩, fun E vs hs hvs => ?_⟩
  obtain ⟨v, rfl, hv⟩ := relAll_one hvs
  obtain ⟨blk, x, y, h1, h2, h3, h4, h5⟩ := box2 hs hid rfl hb
  have hvv := ptr_at hv h1
  subst hvv
  have hx : x = .pointer none := by simpa [relF, Value.cells] using h3
  subst hx
  obtain ⟨E', L', g1, g2, g3, g4⟩ := storeK_ok hs hk hv hv
  have hw : E'.w = E.w.setCell ⟨blk, 0, none⟩ (.pointer (some ⟨blk, 0, none⟩)) := by
    have hrun := run_storeVar (P := Tryz.prog) E.w (ty := 178) (o := 0) (v := .pointer (some ⟨blk, 0, none⟩)) h2 (by kernel_rfl) (by kernel_rfl) (by simp [Value.cells]) (.inl rfl) (by simp [Value.cells, Value.oneCell'])
    have : (Instr.storeAt 178 (.pointer (some ⟨blk, 0, none⟩)) (.pointer (some ⟨blk, 0, none⟩))).run Tryz.prog E.w = .ok () (E.w.setCell ⟨blk, 0, none⟩ (.pointer (some ⟨blk, 0, none⟩))) := by
      simp [Instr.storeAt, Instr.sureAddr, hrun, Value.cells, putCells]
    rw [this] at g1
    simpa using g1.symm
  refine (cc_fresh blk E.w (by simp [World.cell?, h2]) (by simp [World.shape?, h2]) (by simp [World.frozen?, h2])).mono ?_
  rintro e w' ⟨rfl, rfl⟩
  exact ⟨E', L', _, .tup [], hw, g3, g4, ⟨[], rfl, rfl⟩, .inl ⟨rfl, g2⟩⟩

theorem do139_nil {w0 : World} {L : List Ob} {id : Nat} {a : HV} {kr : KR} (hid : L[id]? = some (.box 180 (.st [a, .v (.slice none 0 0)]))) (ha : a.width = 1) (hk : kr (.ret (.v (.string ByteArray.empty))) L = true) : Does Tryz.prog w0 139 [.ptr id 0] L kr := by
  refine ⟨⟨_, Tryz.func139, rfl⟩, fun E vs hs hvs => ?_⟩
  obtain ⟨v, rfl, hv⟩ := relAll_one hvs
  obtain ⟨blk, x, y, h1, h2, h3, h4, h5⟩ := box2 hs hid ha rfl
  have hvv := ptr_at hv h1
  subst hvv
  have hy : y = .slice none 0 0 := by simpa [relF, Value.cells] using h4
  subst hy
  refine (bs_nil blk x E.w h2).mono ?_
  rintro e w' ⟨rfl, rfl⟩
  exact ⟨{ E with w := E.w.drew }, L, _, .v (.string ByteArray.empty), rfl, sim_drawn hs _, mod_drawn E _, rfl, .inl ⟨rfl, hk⟩⟩


theorem do139_some {w0 : World} {L : List Ob} {id j v n fp : Nat} {a : HV} {xs : List Int} {kr : KR} (hid : L[id]? = some (.box 180 (.st [a, .own (.int .u8) j v n]))) (ha : a.width = 1) (hj : L[j]? = some (.row (.int .u8) v fp xs)) (hn : n = xs.length) (h0 : n ≠ 0)
    (hby : ∀ x ∈ xs, 0 ≤ x ∧ x < 256) (hsz : xs.length ≤ 140737488355328) (hk : kr (.ret (.v (.string (bback xs)))) (L.set j (.row (.int .u8) (v + 1) 0 [])) = true) : Does Tryz.prog w0 139 [.ptr id 0] L kr := by
  refine ⟨⟨_, Tryz.func139, rfl⟩, fun E vs hs hvs => ?_⟩
  obtain ⟨v', rfl, hv⟩ := relAll_one hvs
  obtain ⟨blk, x, y, h1, h2, h3, h4, h5⟩ := box2 hs hid ha rfl
  have hvv := ptr_at hv h1
  subst hvv
  have hjE : E.L[j]? = some (.row (.int .u8) v fp xs) := by rw [hs.L]; exact hj
  have hy := (relHV_own (y := y)).1 h4
  obtain ⟨q, l, k, o, rfl, k1, k2, k3⟩ := hy
  rw [hjE] at k1; cases k1
  obtain ⟨_, _, ec, hat⟩ := k3 rfl
  cases ec
  have hob := hs.ob j _ hjE
  simp only [relOb] at hob
  obtain ⟨hfl, hob⟩ := hob
  cases hb : E.β j v with
  | none => simp only [hb] at hob; subst hob; subst hn; exact absurd rfl h0
  | some bp =>
    obtain ⟨g, p⟩ := bp
    simp only [hb] at hob
    simp only [ownAt, hb] at hat
    obtain ⟨C, e, lo, hi, vs2, r1, r2, r3, r4, r5, r6, r7⟩ := hob
    obtain ⟨cap, e', N, hy, s1, s2, s3⟩ := hat
    cases hy
    obtain ⟨rfl, rfl⟩ := r7 rfl
    have hgb : blk ≠ g := fun h => by
      subst h
      have := hs.inj id j (.box 180 (.st [a, .own (.int .u8) j v n])) _ blk 0 0 (by rw [hs.L]; exact hid) hjE rfl rfl h1 hb
      subst this
      rw [hs.L, hid] at hjE; cases hjE
    have hN : N = C.size := by simp only [World.shape?, r1, Option.some.injEq, Prod.mk.injEq] at s2; exact s2.2.symm
    subst hN
    let l := xs.map fun n => UInt8.ofNat n.toNat
    have hll : l.length = xs.length := by simp [l]
    have hcells : vs2 = xs.map (Value.int .u8) := by
      have : ∀ (ys : List Int) (us : List Value), relDCs E.I E.w (ys.flatMap (Cd.enc (.int .u8))) us → us = ys.map (Value.int .u8) := by
        intro ys
        induction ys with
        | nil => intro us h; simpa [relDCs] using h
        | cons y ys ih =>
          intro us h
          simp only [List.flatMap_cons, Cd.enc, List.singleton_append, relDCs] at h
          obtain ⟨u, r, rfl, hu, hr⟩ := h
          rw [ih r hr, show u = .int .u8 y from hu]; rfl
      exact this xs vs2 r3
    have hlen2 : vs2.length = xs.length := by rw [hcells]; simp
    have hl0 : l ≠ [] := fun h => by rw [h] at hll; simp at hll; omega
    have hsize : xs.length ≤ C.size := by omega
    have hcell : ∀ i x, l[i]? = some x → E.w.cell? ⟨g, i, none⟩ = some (.int .u8 x.toNat) := fun i x hx => by
      have hi : i < xs.length := by have := (List.getElem?_eq_some_iff.1 hx).1; omega
      have h1 : xs[i]? = some xs[i] := List.getElem?_eq_getElem hi
      have h2 : l[i]? = some (UInt8.ofNat (xs[i]).toNat) := by simp [l, h1]
      rw [h2] at hx; cases hx
      have := r4 i (.int .u8 xs[i]) (by rw [hcells]; simp [h1])
      rw [Nat.zero_add] at this
      rw [this]
      have hb := hby _ (List.getElem_mem hi)
      have : ((UInt8.ofNat (xs[i]).toNat).toNat : Int) = xs[i] := by simp only [UInt8.toNat_ofNat']; omega
      rw [this]
    have hbs := bs_some blk g _ l x C (lo, hi) E.w (by rw [hll, ← hn]; exact h2) r1 hl0 (by rw [hll, ← hn]; exact s1) (by rw [hll]; exact hsize) (by rw [hll]; omega) hcell
    refine hbs.mono ?_
    rintro e w' ⟨rfl, hh, hos, htape, hout⟩
    let fr : Nat × Nat := if lo == hi then (0, 0 + l.length) else (min lo 0, max hi (0 + l.length))
    have hln : l.length ≠ 0 := by simpa using hl0
    have hblock : w'.heap[g]? = some (.cells C 5 fr) := by
      rw [hh]
      simp only [World.freeze, hln, if_false, Array.getElem?_modify, r1]
      simp [fr]
    have hother : ∀ x, x ≠ g → w'.heap[x]? = E.w.heap[x]? := fun x hxb => by
      rw [hh]
      simp only [World.freeze, hln, if_false, Array.getElem?_modify]
      rw [if_neg (Ne.symm hxb)]
    have hsz' : w'.heap.size = E.w.heap.size := by rw [hh]; simp [World.freeze, hln]
    let E' : Env := ⟨E.I, fun i u => if i = j ∧ u = v + 1 then none else E.β i u, E.L.set j (.row (.int .u8) (v + 1) 0 []), w'⟩
    have hcellw : ∀ x q, w'.cell? ⟨x, q, none⟩ = E.w.cell? ⟨x, q, none⟩ := fun x q => by
      by_cases hxb : x = g
      · subst hxb; simp [World.cell?, hblock, r1]
      · exact cell_of_block (hother x hxb) q
    have hshape : ∀ x, w'.shape? x = E.w.shape? x := fun x => by
      by_cases hxb : x = g
      · subst hxb; simp [World.shape?, hblock, r1]
      · exact shape_of_block (hother x hxb)
    have hext : Ext E.I E.w E'.I E'.w := ⟨fun _ _ h => h, fun x q _ => hcellw x q, fun x q es kk _ hm => by
      by_cases hxb : x = g
      · subst hxb; rw [r1] at hm; cases hm
      · show w'.heap[x]? = _; rw [hother x hxb]; exact hm, by show _ ≤ w'.heap.size; rw [hsz']; exact Nat.le_refl _, fun x e n hn => by show w'.shape? x = _; rw [hshape]; exact hn⟩
    have hβ' : E'.β j (v + 1) = none := by simp [E']
    obtain ⟨g1, g2⟩ := sim_set (E' := E') hs j _ (.row (.int .u8) (v + 1) 0 []) hjE rfl (SameKind.rows (Nat.le_succ _)) rfl
      (fun i u h => by
        simp only [E']; rw [if_neg]; rintro ⟨rfl, rfl⟩; rcases h with h | h
        · exact h rfl
        · simp only [Ob.ver] at h; omega)
      (fun x _ hxx => hother x (fun e => hxx 0 (by subst e; exact hb))) hext (fun _ _ h => .inl h) (fun x q h => by show x < w'.heap.size; rw [hsz']; exact hs.Ilt x q h)
      (by simp only [relOb, hβ']; simp) (fun x p h => by simp only [Ob.ver] at h; rw [hβ'] at h; cases h) hos htape hout
    have hL : E.L = L := hs.L
    refine ⟨E', _, _, .v (.string (bback xs)), rfl, g1, g2, rfl, .inl ⟨rfl, ?_⟩⟩
    show kr _ (E.L.set j _) = true
    rw [hL]; exact hk

end Go.Proofs.YtiaeljbnhdhfcaaGreatDoor

namespace Go.Proofs.YtiaeljbnhdhfcaaGreatDoor
open Go Go.RowKit Go.Lx

theorem lib_loud {w0 : World} (f : FuncId) (args : List HV) (L : List Ob) (F : KR → Bool) (kr : KR) (h : libLoud Tryz.prog f args L = some F) (hF : F kr = true) : Does Tryz.prog w0 f args L kr := by
  unfold libLoud at h
  cases h1 : Nat.beq f 57 with
  | true =>
    rw [h1, cond_true] at h
    have := Nat.eq_of_beq_eq_true h1; subst this
    split at h
    · rw [Option.some.injEq] at h; rw [← h] at hF; exact do57 _ L kr hF
    · cases h
  | false =>
  rw [h1, cond_false] at h
  cases h2 : Nat.beq f 58 with
  | true =>
    rw [h2, cond_true] at h
    have := Nat.eq_of_beq_eq_true h2; subst this
    split at h
    · rw [Option.some.injEq] at h; rw [← h] at hF; exact do58 _ L kr hF
    · cases h
  | false =>
  rw [h2, cond_false] at h
  cases h3 : Nat.beq f 59 with
  | true =>
    rw [h3, cond_true] at h
    have := Nat.eq_of_beq_eq_true h3; subst this
    split at h
    · rw [Option.some.injEq] at h; rw [← h] at hF; exact do59 _ L kr hF
    · cases h
  | false =>
  rw [h3, cond_false] at h
  cases h4 : Nat.beq f 173 with
  | true =>
    rw [h4, cond_true] at h
    have := Nat.eq_of_beq_eq_true h4; subst this
    split at h
    · rename_i id
      split at h
      · rename_i t b hid
        cases h5 : (Nat.beq t 180 && Nat.beq b.width 1) with
        | true =>
          rw [h5, cond_true, Option.some.injEq] at h
          rw [← h] at hF
          simp only [Bool.and_eq_true] at h5
          have := Nat.eq_of_beq_eq_true h5.1; subst this
          exact do173_fresh hid (Nat.eq_of_beq_eq_true h5.2) hF
        | false => rw [h5, cond_false] at h; cases h
      · rename_i t i b hid
        cases h5 : (Nat.beq t 180 && Nat.beq i id) with
        | true =>
          rw [h5, cond_true, Option.some.injEq] at h
          rw [← h] at hF
          simp only [Bool.and_eq_true] at h5
          have := Nat.eq_of_beq_eq_true h5.1; subst this
          have := Nat.eq_of_beq_eq_true h5.2; subst this
          exact do173_used hid hF
        | false => rw [h5, cond_false] at h; cases h
      · cases h
    · cases h
  | false =>
  rw [h4, cond_false] at h
  cases h5 : Nat.beq f 139 with
  | true =>
    rw [h5, cond_true] at h
    have := Nat.eq_of_beq_eq_true h5; subst this
    split at h
    · rename_i id
      split at h
      · rename_i t a j v n hid
        split at h
        · rename_i v' fp xs hj
          cases h6 : (Nat.beq t 180 && Nat.beq a.width 1 && Nat.beq v v' && Nat.beq n xs.length && !Nat.beq n 0 && xs.all byteR && decide (xs.length ≤ 140737488355328)) with
          | true =>
            rw [h6, cond_true, Option.some.injEq] at h
            rw [← h] at hF
            simp only [Bool.and_eq_true] at h6
            obtain ⟨⟨⟨⟨⟨⟨a1, a2⟩, a3⟩, a4⟩, a5⟩, a6⟩, a7⟩ := h6
            have := Nat.eq_of_beq_eq_true a1; subst this
            have := Nat.eq_of_beq_eq_true a3; subst this
            refine do139_some hid (Nat.eq_of_beq_eq_true a2) hj (Nat.eq_of_beq_eq_true a4) (fun h0 => by subst h0; simp at a5) (fun x hx => byteR_iff (List.all_eq_true.1 a6 x hx)) (of_decide_eq_true a7) hF
          | false => rw [h6, cond_false] at h; cases h
        · cases h
      · rename_i t a hid
        cases h6 : (Nat.beq t 180 && Nat.beq a.width 1) with
        | true =>
          rw [h6, cond_true, Option.some.injEq] at h
          rw [← h] at hF
          simp only [Bool.and_eq_true] at h6
          have := Nat.eq_of_beq_eq_true h6.1; subst this
          exact do139_nil hid (Nat.eq_of_beq_eq_true h6.2) hF
        | false => rw [h6, cond_false] at h; cases h
      · cases h
    · cases h
  | false =>
  rw [h5, cond_false] at h
  cases h

theorem gamOK1 {w0 : World} (h0 : H4 w0) : GamOK Tryz.prog w0 (G1 Tryz.prog) := ⟨lib_pure h0 _ rfl, lib_loud⟩

/-! avro.space. -/
theorem run56 (a : ByteArray) (kr : KR) : evG Tryz.prog (G1 Tryz.prog) 1 1 56 [.v (.string a)] [] kr =
  ((decide (a.size < 4611686018427387904) && byteR 46) && ((decide ((0 : Int) ≤ 0) && decide (0 ≤ maxZ (lastGo 46 a.data.toList 0 (-1))) && decide (maxZ (lastGo 46 a.data.toList 0 (-1)) ≤ (a.size : Int))) && kr (.ret (.v (.string (spaceS a)))) [])) := by kernel_rfl

theorem lastGo_le (c : UInt8) : ∀ (l : List UInt8) (n : Nat) (r : Int), r ≤ n → lastGo c l n r ≤ n + l.length
  | [], n, r, h => by simpa [lastGo] using h
  | b :: l, n, r, h => by
    simp only [lastGo]
    cases (b == c) with
    | true => have := lastGo_le c l (n + 1) n (by omega); simp only [cond_true, List.length_cons]; omega
    | false => have := lastGo_le c l (n + 1) r (by omega); simp only [cond_false, List.length_cons]; omega

theorem do56 (a : ByteArray) (h : a.size < 4611686018427387904) : PureDo Tryz.prog H4 56 [.v (.string a)] (.v (.string (spaceS a))) := by
  intro w0 kr h0 hkr
  refine evG_sound progOK catches (gamOK1 h0) 1 1 56 _ [] kr ?_
  rw [run56]
  have h1 := lastGo_le 46 a.data.toList 0 (-1) (by omega)
  have h2 : a.size = a.data.toList.length := by cases a; simp [ByteArray.size]
  have h3 : 0 ≤ maxZ (lastGo 46 a.data.toList 0 (-1)) ∧ maxZ (lastGo 46 a.data.toList 0 (-1)) ≤ (a.size : Int) := by
    unfold maxZ; split <;> constructor <;> omega
  simp only [h, h3.1, h3.2, hkr, decide_true, Bool.and_true]
  rfl

end Go.Proofs.YtiaeljbnhdhfcaaGreatDoor

namespace Go.Proofs.YtiaeljbnhdhfcaaGreatDoor
open Go Go.RowKit Go.Lx

theorem run41b (kr : KR) : evG Tryz.prog (G1 Tryz.prog) 50 5 41 [.d (.list (.int .u8)) text2] [] kr = kr (.ret (.v (.bool true))) [] := by kernel_rfl
theorem run41a (kr : KR) : evG Tryz.prog (G1 Tryz.prog) 50 5 41 [.d (.list (.int .u8)) text1] [] kr = kr (.ret (.v (.bool true))) [] := by kernel_rfl

theorem do41 {xs : List Int} (h : xs = text1 ∨ xs = text2) : PureDo Tryz.prog H4 41 [.d (.list (.int .u8)) xs] (.v (.bool true)) := by
  intro w0 kr h0 hkr
  refine evG_sound progOK catches (gamOK1 h0) 50 5 41 _ [] kr ?_
  rcases h with h | h
  · rw [h, run41a]; exact hkr
  · rw [h, run41b]; exact hkr

theorem gamOK2 {w0 : World} (h0 : H4 w0) : GamOK Tryz.prog w0 (G2 Tryz.prog) := by
  refine ⟨fun f args r h => ?_, lib_loud⟩
  replace h : pure2 f args = some r := h
  unfold pure2 at h
  cases h1 : Nat.beq f 41 with
  | true =>
    rw [h1, cond_true] at h
    have := Nat.eq_of_beq_eq_true h1; subst this
    split at h
    · rename_i xs
      by_cases hx : (xs : List Int) = text1 ∨ (xs : List Int) = text2
      · rw [if_pos hx] at h; cases h
        have := pureAns lasts4 (do41 hx) rfl rfl h0
        exact clause this.1 fun _ => this
      · rw [if_neg hx] at h; cases h
    · cases h
  | false =>
  rw [h1, cond_false] at h
  cases h2 : Nat.beq f 56 with
  | true =>
    rw [h2, cond_true] at h
    have := Nat.eq_of_beq_eq_true h2; subst this
    split at h
    · rename_i a
      cases h
      exact clause ⟨_, Tryz.func56, rfl⟩ fun hh => pureAns lasts4 (do56 a (of_decide_eq_true hh)) rfl rfl h0
    · cases h
  | false =>
  rw [h2, cond_false] at h
  exact lib_pure h0 (G1 Tryz.prog) rfl f args r h

end Go.Proofs.YtiaeljbnhdhfcaaGreatDoor
