/- Regions whose order is open: each order ends as the evaluator has; pure calls; deferred calls. -/
import Derived.Test.YtiaeljbnhdhfcaaGreatDoorM11
import Derived.Recover
namespace Go.Lx
open Go.RowKit

section
variable {P : Program} {w0 : World} {G : Gam} {call : CallK}

theorem canon_any (hP : ProgOK P) (hG : GamOK P w0 G) (hcall : CallOK P w0 call) {all : List Oper} (hd4 : dstsOk all = true) (hed : edgesOk 0 all = true) {full : Nat} (hfull : full = 2 ^ all.length - 1) {K : St → Bool} {KP : HV → List Ob → Bool} {E0 : Env} {d : List Deferred} {TF : Tm} (hTF : ∀ (j : Nat) (o : Oper) (i : Nat), all[j]? = some o → o.dst = some i → i < TF.n → TF.get i = .junk) {QQ : Exit → Act → World → Prop}
    (hK : ∀ E' st' t', K st' = true → Sim w0 E' st' t' → Mod E0 E' → QQ .normal ⟨t'.toArray, d⟩ E'.w)
    (hKP : ∀ E' L' t' h y, KP h L' = true → Sim w0 E' ⟨TF, L'⟩ t' → Mod E0 E' → relHV E' h y → QQ (.panic [{ v := y, recovered := false }]) ⟨t'.toArray, d⟩ E'.w) :
    ∀ (n f : Nat) (todo : List Ent) (C : Nat) (Tc : Tm) (L : List Ob) (rc : List Rec) (S : Nat → Prop) (Tp : Tm) (listed : Array Bool) (E : Env) (t : List Value),
      canonStep P G call all full K KP (canon P G call all full K KP f) todo C ⟨Tc, L⟩ rc = true → Inv P G all todo C rc Tc L S Tp →
      (∀ i, Done listed i ↔ S i) → listed.size = all.length → listed.count false ≤ n → Sim w0 E ⟨Tp, L⟩ t → relT E TF t → Mod E0 E →
      wpAny P .any all.toArray QQ n listed ⟨t.toArray, d⟩ E.w := by
  intro n
  induction n with
  | zero =>
    intro f todo C Tc L rc S Tp listed E t h hi hl hsz hn hs hF m
    have hr := ready_of_count hsz hn
    exact ⟨hr, canon_fin hed hK h hi hl hsz hs m hr⟩
  | succ n ih =>
    intro f todo C Tc L rc S Tp listed E t h hi hl hsz hn hs hF m
    refine ⟨fun hr => canon_fin hed hK h hi hl hsz hs m hr, fun i hir => ?_⟩
    rw [ready_iff] at hir
    obtain ⟨hil, hf, hdir⟩ := hir
    have hrS : ∀ j, Dir all i j → S j := fun j h => (hl j).1 (hdir j h)
    have hil' : i < listed.size := by omega
    have hnS : ¬ S i := fun hS => by
      have := (hl i).2 hS
      unfold Done at this
      simp [Array.getD_eq_getD_getElem?, hil'] at this hf
      rw [this] at hf; cases hf
    have hl' : ∀ j, Done (listed.setIfInBounds i true) j ↔ (S j ∨ j = i) := fun j => by rw [done_set hil', hl]
    have hn' := count_done hil' hf hn
    have hsz' : (listed.setIfInBounds i true).size = all.length := by simpa using hsz
    cases hC : C.testBit i with
    | true =>
      obtain ⟨q, hq, rfl⟩ := hi.late i hil hC hnS
      obtain ⟨k1, k2, k3, hh, k4, k5⟩ := hi.recs q hq hnS
      have hsame := same_ready hi k1.1 hrS
      have ha := Asked_congr hsame k4
      exact quiet_step hP hG k1.1 ha hs (fun E' t' h1 h2 h3 => ih f todo C Tc L rc _ _ _ E' t' h (inv_late hd4 hi hq hnS hrS k4 k5) hl' hsz' hn' h1 (relT_keep (relT_mod h2 hF) h3 (fun i hi => hTF _ _ i k1.1 hi)) (m.trans h2))
    | false =>
      obtain ⟨e, he, rfl⟩ := hi.cov i hil hC
      have hent := hi.ent e he
      have hlt : ∀ x, e.o.dst = some x → x < 4000 := fun x hx => dsts_lt hd4 hent.1 hx
      have hsame := same_ready hi hent.1 hrS
      have hanc : ∀ j, e.m.testBit j = true → S j := fun j hj => anc_closed hi.cS (e.i + 1) e.i (by omega) hrS hil j (by rw [← hent.2.1]; exact hj)
      have hsub : subM e.m C = true := subM_iff.2 fun j hj => hi.sub j (hanc j hj)
      have hkp : ∀ (E' : Env) L' h y, KP h L' = true → Sim w0 E' ⟨Tm.e, L'⟩ [] → Mod E E' → relHV E' h y → QQ (.panic [{ v := y, recovered := false }]) ⟨t.toArray, d⟩ E'.w :=
        fun E' L' h y a b c dd => hKP E' L' t h y a (sim_tmps b c hF) (m.trans c) dd
      have hFF : ∀ (E' : Env) t', Mod E E' → KeepT t t' e.o.dst → relT E' TF t' := fun E' t' h2 h3 => relT_keep (relT_mod h2 hF) h3 (fun i hi => hTF _ _ i hent.1 hi)
      have loud : e.w = false → guardOn all ⟨Tc, L⟩ e.o = true → evLoud P G call (nxOf all e.o) ⟨Tc, L⟩ e.o (fun h L' => (adds e.o || rc.all (fun q => e.m.testBit q.e.i || again P G all Tc L L' q)) &&
          canon P G call all full K KP f (todo.filter fun x => !Nat.beq x.i e.i) (Nat.lor C (Nat.shiftLeft 1 e.i)) ⟨putT Tc e.o.dst h, L'⟩ (rc.filter fun q => !e.m.testBit q.e.i)) KP = true →
          wpOp P all.toArray QQ e.i (wpAny P .any all.toArray QQ n (listed.setIfInBounds e.i true)) ⟨t.toArray, d⟩ E.w := by
        intro hw hg hlo
        have after : ∀ (E' : Env) (t' : List Value) (h : HV) (L' : List Ob), (∀ q ∈ rc, e.m.testBit q.e.i = true ∨ ∀ r, Asked P G all Tc L q.e.o q.on q.r r → Asked P G all Tc L' q.e.o q.on q.r r) →
            canon P G call all full K KP f (todo.filter fun x => !Nat.beq x.i e.i) (Nat.lor C (Nat.shiftLeft 1 e.i)) ⟨putT Tc e.o.dst h, L'⟩ (rc.filter fun q => !e.m.testBit q.e.i) = true →
            Sim w0 E' ⟨putT Tp e.o.dst h, L'⟩ t' → Mod E E' → KeepT t t' e.o.dst → wpAny P .any all.toArray QQ n (listed.setIfInBounds e.i true) ⟨t'.toArray, d⟩ E'.w := by
          intro E' t' h L' hrc hk h1 h2 h3
          have hinv := inv_loud hd4 hi he hw hrS hrc (h := h)
          cases f with
          | zero => simp [canon] at hk
          | succ f =>
            simp only [canon] at hk
            obtain ⟨todo', C', Tc', rc', k1, k2⟩ := sweep_ok hd4 _ _ _ [] _ hk (by simpa using hinv)
            exact ih f todo' C' Tc' L' rc' _ _ _ E' t' k1 k2 hl' hsz' hn' h1 (hFF E' t' h2 h3) (m.trans h2)
        cases hadd : adds e.o with
        | true =>
          classical
          obtain ⟨hh, N, hk, hk'⟩ := evLoud_adds hadd hlo
          rw [Bool.and_eq_true] at hk
          refine loud_step hP hG hcall (nx := nxOf all e.o) (k := fun h L' => decide (h = hh ∧ L' = L ++ N)) (kp := KP) hent.1 (T := Tp) (L := L) (by rw [guardOn_congr (L' := L) hsame]; exact hg) (by rw [evLoud_congr (same_opnd hsame)]; exact hk' _ (by simp)) hs (fun E' t' h L' hd h1 h2 h3 => ?_) hkp
          simp only [decide_eq_true_eq] at hd
          obtain ⟨rfl, rfl⟩ := hd
          exact after E' t' _ _ (fun q _ => .inr fun r hr => Asked_app hr) hk.2 h1 h2 h3
        | false =>
        simp only [hadd, Bool.false_or] at hlo
        refine loud_step hP hG hcall hent.1 (T := Tp) (L := L) (by rw [guardOn_congr (L' := L) hsame]; exact hg) (by rw [evLoud_congr (same_opnd hsame)]; exact hlo) hs (fun E' t' h L' hk h1 h2 h3 => ?_) hkp
        rw [Bool.and_eq_true] at hk
        refine after E' t' h L' (fun q hq => ?_) hk.2 h1 h2 h3
        have := List.all_eq_true.1 hk.1 q hq
        cases hb : e.m.testBit q.e.i with
        | true => exact .inl rfl
        | false => rw [hb, Bool.false_or] at this; exact .inr fun r hr => Asked_again this hr
      have two : ∀ (y : Ent) (tx ty : TypeId) (ax xx ay xy : HV), (todo.filter fun z => !Nat.beq z.i e.i) = [y] → e.o.dst = none → y.o.dst = none → y.w = false → e.w = false →
          storeOf all ⟨Tc, L⟩ e.o = some (tx, ax, xx) → storeOf all ⟨Tc, L⟩ y.o = some (ty, ay, xy) → subM y.m C = true →
          storeK P tx L ax xx (fun L1 => (rc.all fun q => e.m.testBit q.e.i || again P G all Tc L L1 q) && storeK P ty L1 ay xy fun L2 =>
            (rc.all fun q => (e.m.testBit q.e.i || y.m.testBit q.e.i) || again P G all Tc L L2 q) && K ⟨Tc, L2⟩) = true →
          wpOp P all.toArray QQ e.i (wpAny P .any all.toArray QQ n (listed.setIfInBounds e.i true)) ⟨t.toArray, d⟩ E.w := by
        intro y tx ty ax xx ay xy hfil hde hdy hwy hwe hse hsy hsuby hst
        obtain ⟨-, -, -, hge, -⟩ := store_askQ (P := P) (G := G) hse
        refine loud_step hP hG hcall (nx := nxOf all e.o) (k := fun _ L1 => (rc.all fun q => e.m.testBit q.e.i || again P G all Tc L L1 q) && storeK P ty L1 ay xy fun L2 =>
            (rc.all fun q => (e.m.testBit q.e.i || y.m.testBit q.e.i) || again P G all Tc L L2 q) && K ⟨Tc, L2⟩) (kp := KP) hent.1 (T := Tp) (L := L) (by rw [guardOn_congr (L' := L) hsame]; exact hge) (by rw [evLoud_congr (same_opnd hsame)]; exact store_evLoud hse hst) hs (fun E' t' h L1 hk h1 h2 h3 => ?_) hkp
        rw [Bool.and_eq_true] at hk
        have hinv := inv_loud (L' := L1) hd4 hi he hwe hrS (fun q hq => by
          have := List.all_eq_true.1 hk.1 q hq
          cases hb : e.m.testBit q.e.i with
          | true => exact .inl rfl
          | false => rw [hb, Bool.false_or] at this; exact .inr fun r hr => Asked_again this hr) (h := h)
        rw [hfil] at hinv
        have hTc : putT Tc e.o.dst h = Tc := by rw [hde]; rfl
        rw [hTc] at hinv
        have hsy1 : storeOf all ⟨Tc, L1⟩ y.o = some (ty, ay, xy) := hsy
        obtain ⟨-, -, -, hgy, -, -, -, -, hqy⟩ := store_askQ (P := P) (G := G) hsy1
        refine ih 1 [y] _ Tc L1 _ _ _ _ E' t' ?_ hinv hl' hsz' hn' h1 (hFF E' t' h2 h3) (m.trans h2)
        simp only [canonStep]
        cases hb : (subM y.m (Nat.lor C (Nat.shiftLeft 1 e.i)) && subM full (Nat.lor y.m (Nat.shiftLeft 1 y.i))) with
        | true =>
          simp only [cond_true, hqy, hgy, Bool.true_and]
          refine store_evLoud hsy1 (storeK_mono (fun L2 hk2 => ?_) hk.2)
          rw [Bool.and_eq_true] at hk2
          rw [hdy]; exact hk2.2
        | false =>
          have hs2 : subM y.m (Nat.lor C (Nat.shiftLeft 1 e.i)) = true := subM_iff.2 fun j hj => (bit_set _ _ _).2 (.inl (subM_iff.1 hsuby j hj))
          simp only [cond_false, hs2, hwy, hgy, Bool.true_and, Bool.not_false]
          refine store_evLoud hsy1 (storeK_mono (fun L2 hk2 => ?_) hk.2)
          rw [Bool.and_eq_true] at hk2 ⊢
          refine ⟨Eq.mpr (Bool.or_eq_true _ _) (.inr (List.all_eq_true.2 fun q hq => ?_)), by rw [hdy]; exact hk2.2⟩
          rw [List.mem_filter] at hq
          have := List.all_eq_true.1 hk2.1 q hq.1
          have hne : e.m.testBit q.e.i = false := by simpa using hq.2
          rw [hne, Bool.false_or] at this
          exact this
      unfold canonStep at h
      split at h
      · cases he
      · rename_i e0
        have : e = e0 := by simpa using he
        subst this
        cases hb : (subM e.m C && subM full (Nat.lor e.m (Nat.shiftLeft 1 e.i))) with
        | true =>
          rw [hb] at h
          simp only [cond_true] at h
          rw [Bool.and_eq_true] at hb
          have hall : ∀ j, j < all.length → S j ∨ j = e.i := fun j hj => by
            have := subM_iff.1 hb.2 j (by rw [hfull, Nat.testBit_two_pow_sub_one]; simpa using hj)
            rcases (bit_set _ _ _).1 this with h | h
            · exact .inl (hanc j h)
            · exact .inr h
          have hg : ∀ d, Tp.get d = Tc.get d := fun d => by
            rcases hi.agree d with h | ⟨-, q, h1, h2, -⟩
            · exact h
            · obtain ⟨k1, -, k3, -⟩ := hi.recs q h1 h2
              rcases hall q.e.i (List.getElem?_eq_some_iff.1 k1.1).1 with h | h
              · exact absurd h h2
              · rw [h, hC] at k3; cases k3
          have hr' : Region.ready .any all.toArray (listed.setIfInBounds e.i true) = [] := not_ready hsz' fun j hj => (hl' j).2 (hall j hj)
          have fin : ∀ (E' : Env) t' L' h, K ⟨putT Tc e.o.dst h, L'⟩ = true → Sim w0 E' ⟨putT Tp e.o.dst h, L'⟩ t' → Mod E E' → wpAny P .any all.toArray QQ n (listed.setIfInBounds e.i true) ⟨t'.toArray, d⟩ E'.w :=
            fun E' t' L' h hk h1 h2 => wpAny_done hr' (hK E' _ t' hk (sim_same h1 (by rw [putT_n, putT_n, hi.n]) (put_same hlt hi.n hg)) (m.trans h2)) n
          split at h
          · rename_i q hq
            obtain ⟨v, on, r, hh⟩ := q
            simp only [Bool.and_eq_true] at h
            obtain ⟨rfl, h⟩ := h
            exact quiet_step hP hG hent.1 (Asked_congr hsame (askQ_asked hq)) hs (fun E' t' h1 h2 _ => fin E' t' L hh h h1 h2)
          · rw [Bool.and_eq_true] at h
            exact loud_step hP hG hcall hent.1 (T := Tp) (L := L) (by rw [guardOn_congr (L' := L) hsame]; exact h.1) (by rw [evLoud_congr (same_opnd hsame)]; exact h.2) hs (fun E' t' hh L' hk h1 h2 _ => fin E' t' L' hh hk h1 h2) hkp
        | false =>
          rw [hb] at h
          simp only [cond_false, Bool.and_eq_true, Bool.not_eq_true'] at h
          obtain ⟨⟨⟨h1, h2⟩, h3⟩, h4⟩ := h
          refine loud h2 h3 ?_
          have hnil : ([e].filter fun x => !Nat.beq x.i e.i) = [] := by simp
          rw [hnil]
          exact h4
      · have hef : e ∈ todo.filter (fun e => subM e.m C) := List.mem_filter.2 ⟨he, hsub⟩
        split at h
        · rename_i a b hfil
          cases h1 : Nat.beq todo.length 2 with
          | false =>
            rw [h1] at h
            simp only [cond_false] at h
            have hone := List.all_eq_true.1 h e (by rw [hfil] at hef; exact hef)
            unfold loudOne at hone
            simp only [Bool.and_eq_true, Bool.not_eq_true'] at hone
            exact loud hone.1.1 hone.1.2 hone.2
          | true =>
          rw [h1] at h
          simp only [cond_true, Bool.and_eq_true, Bool.not_eq_true'] at h
          obtain ⟨⟨⟨h2, h3⟩, h4⟩, h5⟩ := h
          have hlen : todo.length = 2 := Nat.eq_of_beq_eq_true h1
          have hall : ∀ x ∈ todo, subM x.m C = true := List.length_filter_eq_length_iff.1 (by rw [hfil, hlen]; rfl)
          have htodo : todo = [a, b] := by rw [← hfil]; exact (List.filter_eq_self.2 hall).symm
          subst htodo
          have hne : a.i ≠ b.i := by have := hi.nd; simp at this; exact this
          have fa : ([a, b].filter fun z => !Nat.beq z.i a.i) = [b] := by simp [beq_ff (Ne.symm hne)]
          have fb : ([a, b].filter fun z => !Nat.beq z.i b.i) = [a] := by simp [beq_ff hne]
          have hda : a.o.dst = none ∧ b.o.dst = none := by
            split at h4
            · exact ⟨‹_›, ‹_›⟩
            · cases h4
          unfold twoK at h5
          split at h5
          · rename_i ta aa xa tb ab xb sa sb
            dsimp only at h5
            have sym : ∀ (x y : Nat) (L2 : List Ob), (rc.all fun q => (Nat.lor x y).testBit q.e.i || again P G all Tc L L2 q) = rc.all fun q => (x.testBit q.e.i || y.testBit q.e.i) || again P G all Tc L L2 q := fun x y L2 => by
              congr 1; funext q; rw [testBit_lor]
            have sym' : ∀ (x y : Nat) (L2 : List Ob), (rc.all fun q => (Nat.lor x y).testBit q.e.i || again P G all Tc L L2 q) = rc.all fun q => (y.testBit q.e.i || x.testBit q.e.i) || again P G all Tc L L2 q := fun x y L2 => by
              congr 1; funext q; rw [testBit_lor, Bool.or_comm (x.testBit _)]
            split at h5
            · simp only [Bool.and_eq_true, Bool.not_eq_true'] at h5
              obtain ⟨⟨g1, g2⟩, g3, g4⟩ := h5
              have hij := Nat.ne_of_beq_eq_false g1
              rcases List.mem_cons.1 he with rfl | he'
              · refine two b ta tb _ xa _ xb fa hda.1 hda.2 h3 h2 sa sb (hall b (by simp)) ?_
                simp only [sym] at g4
                exact g4
              · have : e = b := by simpa using he'
                subst this
                refine two a tb ta _ xb _ xa fb hda.2 hda.1 h2 h3 sb sa (hall a (by simp)) ?_
                have g5 := storeK_swap hij g2 g3 (storeK_mono (fun L1 hk => by rw [Bool.and_eq_true] at hk; exact hk.2) g4)
                simp only [sym'] at g5
                exact g5
            · simp only [Bool.and_eq_true, Bool.not_eq_true'] at h5
              obtain ⟨⟨g1, g2⟩, g3, g4⟩ := h5
              have hij := Nat.ne_of_beq_eq_false g1
              rcases List.mem_cons.1 he with rfl | he'
              · refine two b ta tb _ xa _ xb fa hda.1 hda.2 h3 h2 sa sb (hall b (by simp)) ?_
                have g5 := storeK_swap hij g2 g3 (storeK_mono (fun L1 hk => by rw [Bool.and_eq_true] at hk; exact hk.2) g4)
                simp only [sym'] at g5
                exact g5
              · have : e = b := by simpa using he'
                subst this
                refine two a tb ta _ xb _ xa fb hda.2 hda.1 h2 h3 sb sa (hall a (by simp)) ?_
                simp only [sym] at g4
                exact g4
            · cases h5
          · cases h5
        · have hone := List.all_eq_true.1 h e hef
          unfold loudOne at hone
          simp only [Bool.and_eq_true, Bool.not_eq_true'] at hone
          exact loud hone.1.1 hone.1.2 hone.2

theorem entsGo_lt (all : List Oper) (ms : List Nat) : ∀ (os : List Oper) (r : List Nat) (i : Nat), ∀ e ∈ entsGo all ms i os r, i ≤ e.i
  | [], r, i, e, he => by simp [entsGo] at he
  | o :: os, [], i, e, he => by simp [entsGo] at he
  | o :: os, m :: r, i, e, he => by
    simp only [entsGo, List.mem_cons] at he
    rcases he with rfl | he
    · exact Nat.le_refl _
    · have := entsGo_lt all ms os r (i + 1) e he; omega

theorem entsGo_nd (all : List Oper) (ms : List Nat) : ∀ (os : List Oper) (r : List Nat) (i : Nat), ((entsGo all ms i os r).map (·.i)).Nodup
  | [], r, i => by simp [entsGo]
  | o :: os, [], i => by simp [entsGo]
  | o :: os, m :: r, i => by
    simp only [entsGo, List.map_cons, List.nodup_cons]
    refine ⟨fun h => ?_, entsGo_nd all ms os r (i + 1)⟩
    obtain ⟨e, he, h⟩ := List.mem_map.1 h
    have := entsGo_lt all ms os r (i + 1) e he
    omega

theorem mod_drawn (E : Env) (n : Nat) : Mod E { E with w := { E.w with drawn := n } } :=
  ⟨⟨fun _ _ h => h, fun _ _ _ => rfl, fun _ _ _ _ _ h => h, Nat.le_refl _, fun _ _ _ h => h⟩, fun _ _ _ => rfl, fun _ h => .inl h, fun _ _ h => .inl h, fun _ o h => ⟨o, h, SameKind.refl o, fun _ _ => rfl⟩, rfl, rfl, rfl⟩

theorem sim_drawn {E : Env} {st : St} {t : List Value} (h : Sim w0 E st t) (n : Nat) : Sim w0 { E with w := { E.w with drawn := n } } st t := by
  have m := mod_drawn E n
  refine ⟨h.L, relT_mod m h.tm, fun i o hi => ?_, h.inj, h.old, below_of_mod m h.below h.old, h.Ilt⟩
  have ho := h.ob i o hi
  cases o with
  | box t x =>
    obtain ⟨b, vs, h1, h2, h3, h4⟩ := ho
    exact ⟨b, vs, h1, h2, relF_mod m _ _ h3, h4⟩
  | row c ver fp xs =>
    refine ⟨ho.1, ?_⟩
    have h2 := ho.2
    show match E.β i ver with | none => xs = [] | some (b, p) => _
    cases hb : E.β i ver with
    | none => simp only [hb] at h2 ⊢; exact h2
    | some bp =>
      obtain ⟨b, p⟩ := bp
      simp only [hb] at h2 ⊢
      obtain ⟨C, e, lo, hi', vs, g1, g2, g3, g4, g5, g6, g7⟩ := h2
      exact ⟨C, e, lo, hi', vs, g1, g2, relDCs_ext m.ext _ _ g3, fun k v hk => g4 k v hk, g5, g6, g7⟩
  | map k v es => exact ho
  | fmap es =>
    obtain ⟨b, ents, clock, h1, h2, h3, h4, h5⟩ := ho
    exact ⟨b, ents, clock, h1, h2, h3, h4, relAll_mod m _ _ h5⟩
  | iter s pos => exact ho
  | dead v => trivial

/-- A region that draws its order does what canonD says. -/
theorem canonD_ok (hP : ProgOK P) (hG : GamOK P w0 G) (hcall : CallOK P w0 call) : DrawOK P w0 (canonD P G call) := by
  intro id ops st k kp h E t d QQ hs hK hKP
  unfold canonD at h
  simp only [Bool.and_eq_true] at h
  obtain ⟨⟨hd4, hed⟩, h⟩ := h
  refine wp_region_any hP.mixed ?_
  have hml : (ancs ops.toList []).length = ops.toList.length := by
    obtain ⟨r, k1, k2⟩ := ancs_prefix ops.toList []
    rw [k1]; simp [k2]
  have hinv : Inv P G ops.toList (entsGo ops.toList (ancs ops.toList []) 0 ops.toList (ancs ops.toList [])) 0 [] st.tmps st.L (fun _ => False) st.tmps := by
    refine ⟨fun e he => ?_, entsGo_nd _ _ _ _ _, fun i hi _ => ?_, fun e _ => Nat.zero_testBit _, fun i j h _ => (by simp at h), fun i j h _ => h, fun i h => h.elim, fun i _ h _ => (by simp at h), fun q hq _ => (by cases hq), rfl, fun d => .inl rfl⟩
    · have := entsGo_mem ops.toList (ancs ops.toList []) ops.toList (ancs ops.toList []) 0 (fun k o hk => by simpa using hk) (fun k m hk => by simpa using hk) e he
      exact ⟨this.1, this.2.1, this.2.2.1⟩
    · obtain ⟨e, h1, h2⟩ := entsGo_all ops.toList (ancs ops.toList []) ops.toList (ancs ops.toList []) 0 (by omega) i hi
      exact ⟨e, h1, by omega⟩
  simp only [canon] at h
  obtain ⟨todo', C', Tc', rc', k1, k2⟩ := sweep_ok hd4 _ _ _ [] _ h (by simpa using hinv)
  have hTF : ∀ (j : Nat) (o : Oper) (i : Nat), ops.toList[j]? = some o → o.dst = some i → i < (forgetD ops.toList st.tmps).n → (forgetD ops.toList st.tmps).get i = .junk := fun j o i hj hd hn =>
    forget_junk _ _ i (dsts_lt hd4 hj hd) (by rw [forget_n] at hn; exact hn) (.inr ⟨o, List.mem_of_getElem? hj, hd⟩)
  have := canon_any hP hG hcall hd4 hed rfl (E0 := E) (d := d) hTF hK hKP ops.size ops.toList.length todo' C' Tc' st.L rc' _ st.tmps (Array.replicate ops.size false) { E with w := { E.w with drawn := E.w.drawn + 1 } } t k1 k2
    (fun i => ⟨fun h => ?_, fun h => h.elim⟩) (by simp) ?_ (sim_drawn hs _) (relT_mod (mod_drawn E _) (relT_forget _ _ hs.tm)) (mod_drawn E _)
  · simpa using this
  · unfold Done at h
    simp [Array.getD_eq_getD_getElem?, Array.getElem?_replicate] at h
    split at h <;> simp at h
  · refine Nat.le_trans (Array.count_le_size) (by simp)

end
end Go.Lx

namespace Go.Lx
open Go.RowKit

mutual
theorem relF_any {E E' : Env} (hI : E'.I = E.I) (hw : E'.w = E.w) : ∀ (f : HV) (a : List Value), refsLt 0 f = true → relF E f a → relF E' f a
  | .v x, a, _, h => h
  | .d c x, a, _, h => by simp only [relF] at h ⊢; rw [hI, hw]; exact h
  | .st gs, a, hr, h => by simp only [relF, refsLt] at h hr ⊢; exact relSt_any hI hw gs a hr h
  | .tup gs, a, hr, h => by simp only [relF, refsLt] at h hr ⊢; exact relAll_any hI hw gs a hr h
  | .ptr id off, a, hr, h => by simp [refsLt] at hr
  | .dp c x, a, _, h => by simp only [relF] at h ⊢; rw [hI, hw]; exact h
  | .rp c id ver i off, a, hr, h => by simp [refsLt] at hr
  | .own c id ver len, a, hr, h => by simp [refsLt] at hr
  | .zc, a, _, h => h
  | .map id, a, hr, h => by simp [refsLt] at hr
  | .it id, a, hr, h => by simp [refsLt] at hr
  | .dm k v es, a, _, h => by simp only [relF] at h ⊢; rw [hI, hw]; exact h
  | .fn f fst cap, a, hr, h => by
    simp only [relF, refsLt, Bool.and_eq_true] at h hr ⊢
    obtain ⟨fs, cs, h1, h2, h3⟩ := h
    exact ⟨fs, cs, h1, relAll_any hI hw fst fs hr.1 h2, relAll_any hI hw cap cs hr.2 h3⟩
  | .iface t g, a, hr, h => by
    simp only [relF, refsLt] at h hr ⊢
    obtain ⟨z, h1, h2⟩ := h
    exact ⟨z, h1, top_mono (fun vs => relF_any hI hw g vs hr) h2⟩
  | .opt _ g, a, hr, h => by simp only [relF, refsLt] at h hr ⊢; exact relF_any hI hw g a hr h
  | .junk, a, _, h => h
theorem relSt_any {E E' : Env} (hI : E'.I = E.I) (hw : E'.w = E.w) : ∀ (fs : List HV) (a : List Value), refsLts 0 fs = true → relSt E fs a → relSt E' fs a
  | [], a, _, h => h
  | f :: fs, vs, hr, h => by
    simp only [relSt, refsLts, Bool.and_eq_true] at h hr ⊢
    obtain ⟨a, b, h1, h2, h3⟩ := h
    exact ⟨a, b, h1, relF_any hI hw f a hr.1 h2, relSt_any hI hw fs b hr.2 h3⟩
theorem relAll_any {E E' : Env} (hI : E'.I = E.I) (hw : E'.w = E.w) : ∀ (fs : List HV) (a : List Value), refsLts 0 fs = true → relAll E fs a → relAll E' fs a
  | [], a, _, h => h
  | f :: fs, vs, hr, h => by
    simp only [relAll, refsLts, Bool.and_eq_true] at h hr ⊢
    obtain ⟨a, b, h1, h2, h3⟩ := h
    exact ⟨a, b, h1, top_mono (fun vs => relF_any hI hw f vs hr.1) h2, relAll_any hI hw fs b hr.2 h3⟩
end

theorem relHV_any {E E' : Env} (hI : E'.I = E.I) (hw : E'.w = E.w) {f : HV} {y : Value} (hr : refsLt 0 f = true) (h : relHV E f y) : relHV E' f y := top_mono (fun vs => relF_any hI hw f vs hr) h

/-- A property of worlds that hangs on old memory alone. -/
def Lasts (H : World → Prop) : Prop := ∀ w w', H w → Below w.heap.size w w' → H w'

/-- What it is that a call of f that is handed data answers h, and leaves nothing. -/
def PureDo (P : Program) (H : World → Prop) (f : FuncId) (args : List HV) (h : HV) : Prop := ∀ (w0 : World) (kr : KR), H w0 → kr (.ret h) [] = true → Does P w0 f args [] kr

/-- The clause of `PureOK`. -/
def PureAns (P : Program) (w0 : World) (f : FuncId) (args : List HV) (h : HV) : Prop := hasBody P f ∧ ∀ E vs, Sim w0 E ⟨Tm.e, E.L⟩ [] → relAll E args vs →
    Calls P f vs.toArray E.w fun e w' => ∃ E' y, E'.w = w' ∧ E'.L = E.L ∧ Sim w0 E' ⟨Tm.e, E.L⟩ [] ∧ Mod E E' ∧ e = .returned y ∧ relHV E' h y

theorem pureAns {P : Program} {H : World → Prop} (hH : Lasts H) {f : FuncId} {args : List HV} {h : HV} (hp : PureDo P H f args h) (ha : refsLts 0 args = true) (hh : refsLt 0 h = true) {w0 : World} (h0 : H w0) : PureAns P w0 f args h := by
  classical
  have key : ∀ E : Env, H E.w → Does P E.w f args [] (fun r L' => decide (r = .ret h ∧ L' = [])) := fun E hE => hp E.w _ hE (by simp)
  refine ⟨(hp w0 (fun _ _ => true) h0 rfl).1, fun E vs hs hv => ?_⟩
  have hnone : ∀ b, ¬ Env.owns { E with L := [] } b := fun b ⟨i, o, p, h1, _⟩ => by simp at h1
  have hs0 : Sim E.w { E with L := [] } ⟨Tm.e, []⟩ [] :=
    ⟨rfl, relT_e _, fun i o hi => by simp at hi, fun i j o o' b p p' h1 => by simp at h1, fun b hb => absurd hb (hnone b), ⟨rfl, rfl, rfl, Nat.le_refl _, fun _ _ => rfl⟩, hs.Ilt⟩
  refine ((key E (hH _ _ h0 hs.below)).2 { E with L := [] } vs hs0 (relAll_any (E := E) (E' := { E with L := [] }) rfl rfl args vs ha hv)).mono ?_
  rintro e w' ⟨E1, L', y, h', rfl, g1, m1, g2, g3⟩
  rcases g3 with ⟨rfl, g3⟩ | ⟨_, g3⟩
  · simp only [decide_eq_true_eq, HR.ret.injEq] at g3
    obtain ⟨rfl, rfl⟩ := g3
    have hmod : Mod E { E with I := E1.I, w := E1.w } := by
      refine ⟨m1.ext, fun b hb _ => m1.m1 b hb (hnone b), fun b hb => .inl hb, fun b o hi => ?_, fun i o hi => ⟨o, hi, SameKind.refl o, fun _ _ => rfl⟩, m1.os, m1.tape, m1.output⟩
      rcases m1.m3 b o hi with h | h | h
      · exact .inl h
      · exact .inr (.inl h)
      · exact absurd h (hnone b)
    refine ⟨{ E with I := E1.I, w := E1.w }, y, rfl, rfl, ?_, hmod, rfl, relHV_any (E := E1) (E' := { E with I := E1.I, w := E1.w }) rfl rfl hh g2⟩
    have := sim_step hs hmod (fun i o hi => ?_) (fun i j o o' b p p' h1 h2 d1 d2 b1 b2 => hs.inj i j o o' b p p' h1 h2 d1 d2 b1 b2) g1.Ilt
    · exact this
    · cases hd : o.isDead with
      | true => right; cases o <;> simp [Ob.isDead] at hd; trivial
      | false =>
        refine .inl ⟨hi, rfl, fun b p hb => ?_⟩
        have hlt := owned_lt hs hi hd hb
        refine ⟨m1.m1 b hlt (hnone b), fun q hq => ?_⟩
        rcases m1.m3 b q hq with h | h | h
        · exact h
        · exact absurd h (by show ¬ E.w.heap.size ≤ b; omega)
        · exact absurd h (hnone b)
  · simp at g3

/-- A contract of the kit's that answers a number, a text, a bool and turns nothing. -/
theorem pureAns_of_calls {P : Program} {H : World → Prop} (hH : Lasts H) {f : FuncId} {args : List HV} {h : HV} (hb : hasBody P f) (hc : ∀ (E : Env) vs, H E.w → relAll E args vs → ∃ y, relHV E h y ∧ Calls P f vs.toArray E.w fun e w' => e = .returned y ∧ w' = E.w) {w0 : World} (h0 : H w0) : PureAns P w0 f args h := by
  refine ⟨hb, fun E vs hs hv => ?_⟩
  obtain ⟨y, h1, h2⟩ := hc E vs (hH _ _ h0 hs.below) hv
  exact h2.mono (by rintro e w' ⟨rfl, rfl⟩; exact ⟨E, y, rfl, rfl, hs, Mod.refl E, rfl, h1⟩)

/-- .. that answers a row of data in a new block. -/
theorem pureAns_of_alloc {P : Program} {H : World → Prop} (hH : Lasts H) {f : FuncId} {args : List HV} {c : Cd} {ys : List c.den} {vs0 : List Value} {e0 : TypeId} (hb : hasBody P f) (hy : ∀ (E : Env), relDCs E.I E.w (ys.flatMap c.enc) vs0)
    (hc : ∀ (E : Env) vs, H E.w → relAll E args vs → Calls P f vs.toArray E.w fun e w' => e = .returned (.slice (some ⟨E.w.heap.size, 0, none⟩) ys.length ys.length) ∧ w' = E.w.alloc (.cells vs0.toArray e0)) {w0 : World} (h0 : H w0) : PureAns P w0 f args (.d (.list c) ys) := by
  refine ⟨hb, fun E vs hs hv => ?_⟩
  refine (hc E vs (hH _ _ h0 hs.below) hv).mono ?_
  rintro e w' ⟨rfl, rfl⟩
  have hvl : vs0.length = ys.length * c.size := by rw [relDCs_length (hy E), flat_length]
  let E' : Env := ⟨fun b o => E.I b o ∨ (b = E.w.heap.size ∧ o < vs0.length), E.β, E.L, E.w.alloc (.cells vs0.toArray e0)⟩
  have hx : E'.w.heap[E.w.heap.size]? = some (.cells vs0.toArray e0) := alloc_new
  obtain ⟨h1, h2⟩ := sim_add (E' := E') hs [] (by simp [E']) (fun _ _ _ => rfl) (fun b hb => alloc_old hb) (by show _ ≤ (E.w.alloc _).heap.size; unfold World.alloc; simp) (fun _ _ h => .inl h)
    (fun b o h => by rcases h with h | ⟨rfl, _⟩ <;> simp_all) (fun b o h => by
      show b < (E.w.alloc _).heap.size
      unfold World.alloc; simp
      rcases h with h | ⟨rfl, _⟩
      · have := hs.Ilt b o h; omega
      · omega) (by simp) (by simp) rfl rfl rfl
  refine ⟨E', _, rfl, rfl, h1, h2, rfl, ?_⟩
  rw [relHV_list]
  simp only [relDC]
  refine .inr ⟨_, 0, ys.length, vs0, rfl, Nat.le_refl _, hvl, ?_, fun k hk => .inr ⟨rfl, by rw [hvl]; simpa using hk⟩, hy E'⟩
  rw [cellsAt_of_cells hx]
  intro k v hk; simpa using hk

end Go.Lx

namespace Go.Lx
open Go.RowKit

/-- The results read, at the end of a body. -/
def finK (P : Program) (fn : Func) (L : List Ob) (kr : KR) (st : St) : Bool := match resultH P st fn.results.toList with
  | some r => let q := snaps L.length r.2 st.L
    r.1 && q.1 && kr (.ret (oneOf (normArgs P fn.resultTypes.toList q.2.1))) (trunc L.length (oneOf (normArgs P fn.resultTypes.toList q.2.1)) q.2.2)
  | none => false

/-- The number in a panic of type T. -/
def stopOf (T : TypeId) : HV → Option Int
  | .iface t (.st [.v (.int .i64 n)]) => if t = T then some n else none
  | .v (.iface t (.agg vs)) => match vs.toList with
    | [.int .i64 n] => if t = T then some n else none
    | _ => none
  | _ => none

theorem stopOf_ok {E : Env} {T : TypeId} {h : HV} {n : Int} (hs : stopOf T h = some n) {y : Value} (hr : relHV E h y) : y = .iface T (.agg #[.int .i64 n]) := by
  unfold stopOf at hs
  split at hs
  · rename_i t m
    split at hs
    · rename_i ht
      cases hs
      subst ht
      simp only [relHV, top, relF] at hr
      obtain ⟨z, h1, vs, h2, h3⟩ := hr
      simp only [relSt, relF] at h3
      obtain ⟨a, b, rfl, rfl, rfl⟩ := h3
      simp only [List.cons.injEq, and_true] at h1
      rw [h1, h2]
      simp [Value.cells]
    · cases hs
  · rename_i t vs
    split at hs
    · rename_i m hv
      split at hs
      · rename_i ht
        cases hs
        subst ht
        rw [relHV_v] at hr
        rw [hr]
        have : vs = #[.int .i64 n] := Array.ext' hv
        rw [this]
      · cases hs
    · cases hs
  · cases hs

def boxNum (L : List Ob) (id : Nat) (n : Int) : Option (List Ob) := match L[id]? with
  | some (.box tb (.v (.int .i64 _))) => some (L.set id (.box tb (.v (.int .i64 n))))
  | _ => none

/-- A body with a deferred call that recovers; T: the type of what it takes, ep: the temporary that leads to the variable. -/
def enterD (P : Program) (run : Code → St → KX → Bool) (T : TypeId) (ep : Tmp) (f : FuncId) (args : List HV) (L : List Ob) (kr : KR) : Bool :=
  match P.funcs[f]? with
  | some fn => match fn.body with
    | some (.seq r0 (.seq (.region _ ops _) rest)) =>
      run r0 ⟨argT 0 args ⟨args.length + (fn.ntmps - args.length), .nil⟩, L⟩ fun x st => match x with
        | .normal => match st.tmps.get ep with
          | .ptr id 0 => Nat.blt (ep + 1) st.tmps.n && run rest ⟨forgetD ops.toList st.tmps, st.L⟩ fun x st' => match x with
            | .normal => finK P fn L kr st'
            | .ret => finK P fn L kr st'
            | .panic h => match stopOf T h with
              | some n => match boxNum st'.L id n with
                | some L' => finK P fn L kr ⟨st'.tmps, L'⟩
                | none => false
              | none => false
            | _ => false
          | _ => false
        | _ => false
    | _ => false
  | none => false

/-- What is asked of the deferred call. -/
structure CatchOK (P : Program) (T : TypeId) (ep : Tmp) (dfr : Value → Deferred) (id : Nat) (ops : Array Oper) (b : Bool) : Prop where
  dl : ∀ (QQ : Exit → Act → World → Prop) (t : List Value) (w : World), ep + 1 < t.length → (∀ t', (∀ E M, relT E M t → relT E (forgetD ops.toList M) t') → QQ .normal ⟨t'.toArray, [dfr (t.getD ep undef)]⟩ w) → (Code.region id ops b).wp P QQ ⟨t.toArray, []⟩ w
  idle : ∀ (p : Addr) (w : World) (fn : Func) (tmps : Array Value) (R : Ending → World → Prop), Leaves P fn tmps R [] .returning w → Leaves P fn tmps R [dfr (.pointer (some p))] .returning w
  hit : ∀ (p : Addr) (n : Int) (x : Value) (w : World) (fn : Func) (tmps : Array Value) (R : Ending → World → Prop), (∀ o, (w.alloc o).cell? p = some x) → (∀ o, (w.alloc o).frozen? p = false) →
    (∀ o, Leaves P fn tmps R [] .returning ((w.alloc o).setCell p (.int .i64 n))) → Leaves P fn tmps R [dfr (.pointer (some p))] (.panicking [{ v := .iface T (.agg #[.int .i64 n]), recovered := false }]) w

section
variable {P : Program} {w0 : World}

theorem fin_ok {fn : Func} {L : List Ob} {kr : KR} {E E' : Env} (hEL : E.L = L) {st' : St} {t' : List Value} (hk : finK P fn L kr st' = true) (h1 : Sim w0 E' st' t') (h2 : Mod E E') :
    ∃ v, (results fn t'.toArray).run P E'.w = .ok v E'.w ∧ ∃ (E'' : Env) (L' : List Ob) (y : Value) (h : HV), E''.w = E'.w ∧ Sim w0 E'' ⟨Tm.e, L'⟩ [] ∧ Mod E E'' ∧ relHV E'' h y ∧
          ((Ending.returned v = .returned y ∧ kr (.ret h) L' = true) ∨ (Ending.returned v = .panicked [{ v := y, recovered := false }] ∧ kr (.panic h) L' = true)) := by
  unfold finK at hk
  split at hk
  · rename_i r hr
    dsimp only at hk
    simp only [Bool.and_eq_true] at hk
    obtain ⟨⟨k1, k2⟩, k3⟩ := hk
    obtain ⟨rs, g1, g2⟩ := resultH_ok h1 _ r hr k1
    obtain ⟨E1, hsn, -, hrel⟩ := snaps_ok L.length r.2 E' st'.L k2 h1
    have hone := oneOf_ok (normArgs_ok (P := P) fn.resultTypes.toList _ _ (hrel rs g2))
    obtain ⟨E2, q1, q2, q3, q4⟩ := trunc_ok hEL hsn.sim (h2.trans hsn.mod) hone
    refine ⟨_, ?_, E2, _, _, _, q1.trans hsn.w, q2, q3, q4, .inl ⟨rfl, k3⟩⟩
    have hm : (fn.results.mapM (fun (x : ResultVar) => match x with | .tmp t0 => pure (t'.toArray.getD t0 undef) | .cell a t0 => do loadVar t0 (← asAddr (t'.toArray.getD a undef)) : ResultVar → Sem Value)).run P E'.w = .ok rs.toArray E'.w := by
      rw [Array.mapM_eq_mapM_toList]
      simp only [map_eq_pure_bind, Sem.run_bind]
      exact (congrArg (fun r => Result.andThen r _) g1).trans rfl
    unfold results
    simp only [Sem.run_bind]
    exact (congrArg (fun r => Result.andThen r _) hm).trans rfl
  · cases hk

/-- A new block that nobody knows, and a number in a variable. -/
theorem sim_catch {E : Env} {T : Tm} {L L' : List Ob} {t : List Value} (hs : Sim w0 E ⟨T, L⟩ t) {id : Nat} {n : Int} (hb : boxNum L id n = some L') :
    ∃ b x, E.β id 0 = some (b, 0) ∧ (∀ o, (E.w.alloc o).cell? ⟨b, 0, none⟩ = some x) ∧ (∀ o, (E.w.alloc o).frozen? ⟨b, 0, none⟩ = false) ∧
      ∀ o, ∃ E' : Env, E'.w = (E.w.alloc o).setCell ⟨b, 0, none⟩ (.int .i64 n) ∧ Sim w0 E' ⟨T, L'⟩ t ∧ Mod E E' := by
  unfold boxNum at hb
  split at hb
  · rename_i tb k hid
    cases hb
    have hid' : E.L[id]? = some (.box tb (.v (.int .i64 k))) := by rw [hs.L]; exact hid
    obtain ⟨b, vs, h1, h2, h3, h4⟩ := hs.ob id _ hid'
    have hvs : vs = [.int .i64 k] := by simpa [relF, Value.cells] using h3
    subst hvs
    have hlt : b < E.w.heap.size := (Array.getElem?_eq_some_iff.1 h2).1
    have ha : ∀ o, (E.w.alloc o).heap[b]? = some (.cells #[.int .i64 k] tb (0, 0)) := fun o => by
      simp only [World.alloc, Array.getElem?_push]; rw [if_neg (by omega)]; exact h2
    refine ⟨b, .int .i64 k, h1, fun o => by simp [World.cell?, ha o], fun o => by simp [World.frozen?, ha o], fun o => ?_⟩
    have hother : ∀ j, j ≠ b → ((E.w.alloc o).setCell ⟨b, 0, none⟩ (.int .i64 n)).heap[j]? = (E.w.alloc o).heap[j]? := fun j hj => by
      simp [World.setCell, Array.getElem?_modify, Ne.symm hj]
    have hsame : ((E.w.alloc o).setCell ⟨b, 0, none⟩ (.int .i64 n)).heap[b]? = some (.cells #[.int .i64 n] tb (0, 0)) := by
      simp only [World.setCell, Array.getElem?_modify, ha o]
      simp
    have hold : ∀ j, j < E.w.heap.size → (E.w.alloc o).heap[j]? = E.w.heap[j]? := fun j hj => by
      simp only [World.alloc, Array.getElem?_push]; rw [if_neg (by omega)]
    have hsz : E.w.heap.size ≤ ((E.w.alloc o).setCell ⟨b, 0, none⟩ (.int .i64 n)).heap.size := by
      simp only [World.setCell, World.alloc, Array.size_modify, Array.size_push]; omega
    have hbI : ∀ q, ¬ E.I b q := h4
    have hblk : ∀ j q, E.I j q → ((E.w.alloc o).setCell ⟨b, 0, none⟩ (.int .i64 n)).heap[j]? = E.w.heap[j]? := fun j q hq => by
      have hj : j ≠ b := fun h => by subst h; exact hbI q hq
      rw [hother j hj, hold j (hs.Ilt j q hq)]
    have hshape : ∀ j e m, E.w.shape? j = some (e, m) → ((E.w.alloc o).setCell ⟨b, 0, none⟩ (.int .i64 n)).shape? j = some (e, m) := fun j e m h => by
      have hj : j < E.w.heap.size := by
        rcases Nat.lt_or_ge j E.w.heap.size with h' | h'
        · exact h'
        · simp [World.shape?, Array.getElem?_eq_none h'] at h
      by_cases hjb : j = b
      · subst hjb
        simp only [World.shape?, h2] at h
        simp only [World.shape?, hsame]
        simpa using h
      · rw [shape_of_block ((hother j hjb).trans (hold j hj))]; exact h
    have hext : Ext E.I E.w E.I ((E.w.alloc o).setCell ⟨b, 0, none⟩ (.int .i64 n)) :=
      ⟨fun _ _ h => h, fun j q h => cell_of_block (hblk j q h) q, fun j q es k h h2 => (hblk j q h).trans h2, hsz, hshape⟩
    have := sim_set (E' := { E with L := E.L.set id (.box tb (.v (.int .i64 n))), w := (E.w.alloc o).setCell ⟨b, 0, none⟩ (.int .i64 n) }) hs id _ (.box tb (.v (.int .i64 n))) hid' rfl SameKind.boxes rfl (fun _ _ _ => rfl)
      (fun j hj hne => by
        have hjb : j ≠ b := fun h => by subst h; exact hne 0 h1
        exact (hother j hjb).trans (hold j hj)) hext (fun j q h => .inl h) (fun j q h => by have := hs.Ilt j q h; exact Nat.lt_of_lt_of_le this hsz)
      ⟨b, [.int .i64 n], h1, hsame, rfl, hbI⟩ (fun j p h => .inl ⟨p, h⟩) rfl rfl rfl
    refine ⟨_, rfl, ?_, this.2⟩
    have h5 := this.1
    have hL : E.L = L := hs.L
    simp only [hL] at h5
    rw [hL]
    exact h5
  · cases hb

theorem enterD_sound {run : Code → St → KX → Bool} {T : TypeId} {ep : Tmp} {f : FuncId} {args : List HV} {L : List Ob} {kr : KR} {dfr : Value → Deferred} (h : enterD P run T ep f args L kr = true)
    (hcat : ∀ fn r0 id ops b rest, P.funcs[f]? = some fn → fn.body = some (.seq r0 (.seq (.region id ops b) rest)) → CatchOK P T ep dfr id ops b)
    (hrun : ∀ fn r0 id ops b rest, P.funcs[f]? = some fn → fn.body = some (.seq r0 (.seq (.region id ops b) rest)) → CodeOK P w0 r0 (run r0) ∧ CodeOK P w0 rest (run rest)) : Does P w0 f args L kr := by
  unfold enterD at h
  split at h
  · rename_i fn hf
    split at h
    · rename_i r0 rid ops b rest hb
      refine ⟨⟨fn, hf, by rw [hb]; rfl⟩, fun E vs hs ha => ?_⟩
      have hcat := hcat fn r0 rid ops b rest hf hb
      obtain ⟨hr0, hrest⟩ := hrun fn r0 rid ops b rest hf hb
      refine calls_of_wp_defers hf hb ?_
      have hlen : vs.length = args.length := relAll_length ha
      have hs1 : Sim w0 E ⟨argT 0 args ⟨args.length + (fn.ntmps - args.length), .nil⟩, L⟩ (vs ++ List.replicate (fn.ntmps - args.length) undef) := sim_tmps hs (Mod.refl E) (argT_ok ha _)
      have harr : ({ tmps := vs.toArray ++ Array.replicate (fn.ntmps - vs.toArray.size) undef, defers := [] } : Act) = ⟨(vs ++ List.replicate (fn.ntmps - args.length) undef).toArray, []⟩ := by
        congr 1
        apply Array.ext'
        simp [hlen]
      rw [harr]
      have hEL : E.L = L := hs.L
      refine wp_seq (hr0 _ _ h E _ [] _ hs1 (fun E1 st1 t1 x hx g1 g2 => ?_))
      cases x with
      | normal =>
        dsimp only at hx
        split at hx
        · rename_i id hep
          rw [Bool.and_eq_true] at hx
          obtain ⟨hx1, hx⟩ := hx
          refine wp_seq (hcat.dl _ t1 E1.w (by rw [← g1.tm.n]; exact blt_tt hx1) (fun t2 ht2 => ?_))
          have hp := g1.tm.get ep
          rw [hep] at hp
          simp only [relHV, top, relF] at hp
          obtain ⟨tb, bx, b0, o0, q1, q2, q3⟩ := hp
          have hbo : ∃ vs', E1.w.heap[b0]? = some (.cells (List.toArray vs') tb (0, 0)) ∧ o0 = 0 := by
            obtain ⟨b', vs', k1, k2, -⟩ := g1.ob id _ q1
            rw [q2] at k1; cases k1
            exact ⟨vs', k2, rfl⟩
          obtain ⟨-, -, ho0⟩ := hbo
          subst ho0
          have hdf : t1.getD ep undef = .pointer (some ⟨b0, 0, none⟩) := by simpa using q3
          rw [hdf]
          have hs2 : Sim w0 E1 ⟨forgetD ops.toList st1.tmps, st1.L⟩ t2 := { g1 with L := g1.L, tm := ht2 E1 _ g1.tm }
          have fin : ∀ (E' : Env) (st' : St) (t' : List Value), finK P fn L kr st' = true → Sim w0 E' st' t' → Mod E E' →
              Leaves P fn t'.toArray (fun e w' => ∃ (E'' : Env) (L' : List Ob) (y : Value) (h : HV), E''.w = w' ∧ Sim w0 E'' ⟨Tm.e, L'⟩ [] ∧ Mod E E'' ∧ relHV E'' h y ∧
                ((e = .returned y ∧ kr (.ret h) L' = true) ∨ (e = .panicked [{ v := y, recovered := false }] ∧ kr (.panic h) L' = true))) [] .returning E'.w :=
            fun E' st' t' hk a c => fin_ok hEL hk a c
          refine hrest _ _ hx E1 t2 _ _ hs2 (fun E2 st2 t3 x2 hx2 g3 g4 => ?_)
          cases x2 with
          | normal => exact hcat.idle _ _ _ _ _ (fin E2 st2 t3 hx2 g3 (g2.trans g4))
          | ret => exact hcat.idle _ _ _ _ _ (fin E2 st2 t3 hx2 g3 (g2.trans g4))
          | panic hh =>
            dsimp only at hx2
            split at hx2
            · rename_i n hn
              split at hx2
              · rename_i L2 hbn
                intro y hy
                have hyy := stopOf_ok hn hy
                subst hyy
                obtain ⟨b1, xv, m1, m2, m3, m4⟩ := sim_catch (T := st2.tmps) (L := st2.L) g3 hbn
                have hbb : b1 = b0 := by
                  obtain ⟨o', r1, r2, r3⟩ := g4.m4 id _ q1
                  rw [r3 0 (Nat.zero_le _), q2] at m1; cases m1; rfl
                subst hbb
                refine hcat.hit _ n xv _ _ _ _ m2 m3 (fun o => ?_)
                obtain ⟨E3, n1, n2, n3⟩ := m4 o
                rw [← n1]
                exact fin E3 _ t3 hx2 n2 ((g2.trans g4).trans n3)
              · cases hx2
            · cases hx2
          | exit id => exact absurd hx2 (by simp)
          | goto l => exact absurd hx2 (by simp)
        · cases hx
      | ret => exact absurd hx (by simp)
      | panic hh => exact absurd hx (by simp)
      | exit id => exact absurd hx (by simp)
      | goto l => exact absurd hx (by simp)
    · cases h
  · cases h

end
end Go.Lx
