/- Code does what the evaluator has. -/
import Derived.Test.YtiaeljbnhdhfcaaGreatDoorM8
import Derived.Scope
import Derived.Orders
namespace Go.Lx
open Go.RowKit

/-- The guard, as the machine asks it. -/
theorem guard_ok {E : Env} {all : List Oper} {tmps : Tm} {t : List Value} (h : relT E tmps t) {o : Oper} {r : Bool × Option Bool} (hg : guardOf all tmps o = some r) (hv : r.1 = true) :
    Region.wanted o (yielded all.toArray t.toArray) = r.2.getD true := by
  unfold guardOf at hg
  split at hg
  · rename_i hn
    cases hg
    simp [Region.wanted, hn]
  · rename_i j b hj
    split at hg
    · rename_i oj e1
      split at hg
      · rename_i dd e2
        have hd := h.get dd
        have hy : Region.wanted o (yielded all.toArray t.toArray) = ((match t.getD dd undef with | .bool z => some z | _ => none) == some b) := by
          simp only [Region.wanted, hj, yielded, List.getElem?_toArray, e1, Option.bind_some, e2, List.getD_eq_getElem?_getD]
          cases hdd : t[dd]? with
          | none => rfl
          | some y => simp only [Option.getD_some]; cases y <;> rfl
        rw [hy]
        unfold guardH at hg
        split at hg
        · rename_i x e3
          cases hg
          rw [e3, relHV_v] at hd
          rw [hd]
          cases x <;> cases b <;> rfl
        · rename_i g x e3
          cases hg
          rw [e3] at hd
          cases g with
          | true => have := hd.1 rfl; simp only [top] at this; rw [this]; cases x <;> cases b <;> rfl
          | false => rw [hd.2 rfl]; rfl
        · rename_i g hh _ e3
          cases hg
          rw [e3] at hd
          simp only [Bool.not_eq_true'] at hv
          subst hv
          rw [hd.2 rfl]; rfl
        · rename_i a e3
          cases hg
          rw [e3, relHV_v] at hd
          rw [hd]; rfl
        · cases hg
      · cases hg
    · cases hg

section
variable {P : Program} {w0 : World} {G : Gam} {call : CallK}

theorem evQ_some {g : Bool} {nx : List Oper} {st : St} {o : Oper} {r : Bool × HV} (h : evQ P G g nx st o = some r) : evPure P G g st o = some r := by
  unfold evQ at h
  cases hc : converts o nx with
  | true => rw [hc] at h; cases h
  | false => rw [hc] at h; exact h

theorem evOps_sound (hP : ProgOK P) (hG : GamOK P w0 G) (hcall : CallOK P w0 call) (all : List Oper) {k : St → Bool} {kp : HV → St → Bool} {d : List Deferred} {QQ : Exit → Act → World → Prop} : ∀ (rest : List Oper) (st : St), evOps P G call all rest st k kp = true →
    ∀ (E : Env) (t : List Value), Sim w0 E st t →
      (∀ E' st' t', k st' = true → Sim w0 E' st' t' → Mod E E' → QQ .normal ⟨t'.toArray, d⟩ E'.w) →
      (∀ E' st' t' h y, kp h st' = true → Sim w0 E' st' t' → Mod E E' → relHV E' h y → QQ (.panic [{ v := y, recovered := false }]) ⟨t'.toArray, d⟩ E'.w) →
      wpList P all.toArray QQ rest ⟨t.toArray, d⟩ E.w
  | [], st, h, E, t, hs, hk, _ => hk E st t h hs (Mod.refl E)
  | o :: rest, st, h, E, t, hs, hk, hkp => by
    have next : ∀ (hh : HV) (L : List Ob), evOps P G call all rest ⟨putT st.tmps o.dst hh, L⟩ k kp = true → ∀ E' y, Sim w0 E' ⟨st.tmps, L⟩ t → Mod E E' → relHV E' hh y →
        wpList P all.toArray QQ rest (Act.put ⟨t.toArray, d⟩ o.dst y) E'.w := by
      intro hh L hr E' y h1 h2 h3
      obtain ⟨t', h4, h5⟩ := sim_put h1 o.dst h3
      rw [h5 d]
      exact evOps_sound hP hG hcall all rest _ hr E' t' h4 (fun E'' st' t'' a b c => hk E'' st' t'' a b (h2.trans c)) (fun E'' st' t'' hh' y' a b c e => hkp E'' st' t'' hh' y' a b (h2.trans c) e)
    have kpr : ∀ E' y h L, (fun h L => kp h ⟨st.tmps, L⟩) h L = true → Sim w0 E' ⟨st.tmps, L⟩ t → Mod E E' → relHV E' h y → QQ (.panic [{ v := y, recovered := false }]) ⟨t.toArray, d⟩ E'.w :=
      fun E' y h L a b c e => hkp E' ⟨st.tmps, L⟩ t h y a b c e
    have hst : st = ⟨st.tmps, st.L⟩ := rfl
    simp only [evOps] at h
    unfold wpList
    split at h
    · cases h
    · rename_i vg hgd
      have hw := guard_ok hs.tm hgd (by
        unfold guardOf guardH at hgd
        repeat' split at hgd
        all_goals cases hgd
        rfl)
      simp only [Option.getD_none] at hw
      rw [if_pos hw]
      left
      split at h
      · rename_i r hr
        rw [Bool.and_eq_true] at h
        exact evPure_sound hP hG.pure (evQ_some hr) rfl h.1 hs (fun E' y hL h1 h2 h3 => next r.2 st.L h.2 E' y h1 h2 h3)
      · exact evLoud_sound hP hG hcall h hs (fun E' y hh L a b c e => next hh L a E' y b c e) kpr
    · rename_i vg g hgd
      rw [Bool.and_eq_true] at h
      obtain ⟨hvg, h⟩ := h
      have hw := guard_ok hs.tm hgd hvg
      simp only [Option.getD_some] at hw
      cases g with
      | true =>
        rw [if_pos hw]
        left
        split at h
        · rename_i r hr
          simp only [Bool.not_true, Bool.false_or, Bool.and_eq_true] at h
          exact evPure_sound hP hG.pure (evQ_some hr) rfl h.1 hs (fun E' y hL h1 h2 h3 => next (.opt true r.2) st.L h.2 E' y h1 h2 ⟨fun _ => h3, fun e => by cases e⟩)
        · simp only [cond_true] at h
          exact evLoud_sound hP hG hcall h hs (fun E' y hh L a b c e => next hh L a E' y b c e) kpr
      | false =>
        rw [if_neg (by rw [hw]; simp)]
        split at h
        · rename_i r hr
          simp only [Bool.not_false, Bool.true_or, Bool.true_and] at h
          exact next (.opt false r.2) st.L h E undef hs (Mod.refl E) ⟨fun e => (by cases e), fun _ => rfl⟩
        · simp only [cond_false] at h
          exact next (.v undef) st.L h E undef hs (Mod.refl E) rfl

/-- A region that draws its order, done; TF: the temporaries, its targets forgotten. -/
def DrawOK (P : Program) (w0 : World) (draw : DrawK) : Prop := ∀ (id : Nat) (ops : Array Oper) (st : St) (k : St → Bool) (kp : HV → List Ob → Bool), draw ops.toList st k kp = true →
  ∀ (E : Env) (t : List Value) (d : List Deferred) (QQ : Exit → Act → World → Prop), Sim w0 E st t →
    (∀ E' st' t', k st' = true → Sim w0 E' st' t' → Mod E E' → QQ .normal ⟨t'.toArray, d⟩ E'.w) →
    (∀ E' L' t' h y, kp h L' = true → Sim w0 E' ⟨forgetD ops.toList st.tmps, L'⟩ t' → Mod E E' → relHV E' h y → QQ (.panic [{ v := y, recovered := false }]) ⟨t'.toArray, d⟩ E'.w) →
    (Code.region id ops true).wp P QQ ⟨t.toArray, d⟩ E.w

/-- An ending of code, in the machine. -/
def Ends (QQ : Exit → Act → World → Prop) (E : Env) (a : Act) : HX → Prop
  | .normal => QQ .normal a E.w
  | .ret => QQ .ret a E.w
  | .exit id => QQ (.exit id) a E.w
  | .goto l => QQ (.goto l) a E.w
  | .panic h => ∀ y, relHV E h y → QQ (.panic [{ v := y, recovered := false }]) a E.w

/-- What a piece of code is known to do, by a function of its ways to end. -/
def CodeOK (P : Program) (w0 : World) (c : Code) (F : St → KX → Bool) : Prop := ∀ (st : St) (k : KX), F st k = true → ∀ (E : Env) (t : List Value) (d : List Deferred) (QQ : Exit → Act → World → Prop), Sim w0 E st t →
  (∀ E' st' t' x, k x st' = true → Sim w0 E' st' t' → Mod E E' → Ends QQ E' ⟨t'.toArray, d⟩ x) → c.wp P QQ ⟨t.toArray, d⟩ E.w

/-- The rounds of a loop, from the head of one on. -/
def LoopAt (P : Program) (c : Code) (QQ : Exit → Act → World → Prop) (a : Act) (w : World) : Prop :=
  ∀ (b : Frame) (k : List Item) (cs : List Frame), ∃ e a' w', QQ e a' w' ∧ Arrives P (lone (b.at a (.code c :: .inLoop c :: k)) cs w) b k cs e a' w'

theorem loopAt_wp {c : Code} {QQ : Exit → Act → World → Prop} {a : Act} {w : World} (h : LoopAt P c QQ a w) : (Code.loop c).wp P QQ a w := fun b k cs => by
  obtain ⟨e, a', w', hq, harr⟩ := h b k cs
  exact ⟨e, a', w', hq, .of_steps (.one step_loop) harr⟩

theorem loopAt_round {c : Code} {QQ : Exit → Act → World → Prop} {a : Act} {w : World} (h : c.wp P (Exit.then (LoopAt P c QQ) QQ) a w) : LoopAt P c QQ a w := fun b k cs => by
  obtain ⟨e, a1, w1, hq, harr⟩ := h b (.inLoop c :: k) cs
  cases e with
  | normal =>
    obtain ⟨e2, a2, w2, hq2, harr2⟩ := hq b k cs
    exact ⟨e2, a2, w2, hq2, .of_steps (Steps.trans harr (.one step_inLoop)) harr2⟩
  | exit id => exact ⟨_, a1, w1, hq, .pass (x := .inLoop c) rfl (fun _ _ => .inl (by simp)) harr⟩
  | goto l => exact ⟨_, a1, w1, hq, .pass (x := .inLoop c) rfl (fun _ _ => .inl (by simp)) harr⟩
  | ret => exact ⟨_, a1, w1, hq, .pass (x := .inLoop c) rfl (fun _ _ => .inl (by simp)) harr⟩
  | panic ch => exact ⟨_, a1, w1, hq, .pass (x := .inLoop c) rfl (fun _ _ => .inl (by simp)) harr⟩
  | outgrown => exact ⟨_, a1, w1, hq, .pass (x := .inLoop c) rfl (fun _ _ => .inl (by simp)) harr⟩

theorem loopN_sound {c : Code} {body : St → KX → Bool} (hb : CodeOK P w0 c body) : ∀ n, ∀ (st : St) (k : KX), loopN n body st k = true → ∀ (E : Env) (t : List Value) (d : List Deferred) (QQ : Exit → Act → World → Prop), Sim w0 E st t →
    (∀ E' st' t' x, k x st' = true → Sim w0 E' st' t' → Mod E E' → Ends QQ E' ⟨t'.toArray, d⟩ x) → LoopAt P c QQ ⟨t.toArray, d⟩ E.w
  | 0, st, k, h, _, _, _, _, _, _ => by simp [loopN] at h
  | n + 1, st, k, h, E, t, d, QQ, hs, hk => by
    simp only [loopN] at h
    refine loopAt_round (hb st _ h E t d _ hs (fun E' st' t' x hx h1 h2 => ?_))
    cases x with
    | normal => exact loopN_sound hb n st' k hx E' t' d QQ h1 (fun E'' st'' t'' x a b c => hk E'' st'' t'' x a b (h2.trans c))
    | _ => exact hk E' st' t' _ hx h1 h2

/-- The run of a scope, from a label on. -/
def ScopeAt (P : Program) (c rest : Code) (QQ : Exit → Act → World → Prop) (a : Act) (w : World) : Prop :=
  ∀ (b : Frame) (k : List Item) (cs : List Frame), ∃ e a' w', QQ e a' w' ∧ Arrives P (lone (b.at a (.code rest :: .inScope c :: k)) cs w) b k cs e a' w'

/-- What jumps are known to do. -/
def GotoOK (P : Program) (w0 : World) (gt : GotoK) : Prop := ∀ (c : Code) (l : Nat) (st : St) (k : KX), gt c l st k = true → ∃ rest, findLabel c l = some rest ∧
  ∀ (E : Env) (t : List Value) (d : List Deferred) (QQ : Exit → Act → World → Prop), Sim w0 E st t →
    (∀ E' st' t' x, k x st' = true → Sim w0 E' st' t' → Mod E E' → Ends QQ E' ⟨t'.toArray, d⟩ x) → ScopeAt P c rest QQ ⟨t.toArray, d⟩ E.w

/-- By a jump within the scope: go on there. -/
def Exit.inScope (P : Program) (c : Code) (QQ : Exit → Act → World → Prop) : Exit → Act → World → Prop
  | .goto l, a, w => ∃ rest, findLabel c l = some rest ∧ ScopeAt P c rest QQ a w
  | e, a, w => QQ e a w

theorem scopeAt_of_wp {c rest : Code} {QQ : Exit → Act → World → Prop} {a : Act} {w : World} (h : rest.wp P (Exit.inScope P c QQ) a w) : ScopeAt P c rest QQ a w := fun b k cs => by
  obtain ⟨e, a1, w1, hq, harr⟩ := h b (.inScope c :: k) cs
  cases e with
  | normal => exact ⟨.normal, a1, w1, hq, Steps.trans harr (.one step_inScope)⟩
  | exit id => exact ⟨.exit id, a1, w1, hq, fun k' hk => harr k' (by simp [exitTo, hk])⟩
  | goto l =>
    obtain ⟨r2, hf, hs⟩ := hq
    obtain ⟨e2, a2, w2, hq2, harr2⟩ := hs b k cs
    have hg : gotoIn l (.inScope c :: k) = some (.code r2 :: .inScope c :: k) := by simp [gotoIn, hf]
    exact ⟨e2, a2, w2, hq2, .of_steps (harr _ hg) harr2⟩
  | ret => exact ⟨_, a1, w1, hq, harr⟩
  | panic ch => exact ⟨_, a1, w1, hq, harr⟩
  | outgrown => exact ⟨_, a1, w1, hq, harr⟩

theorem wp_scope {c : Code} {QQ : Exit → Act → World → Prop} {a : Act} {w : World} (h : c.wp P (Exit.inScope P c QQ) a w) : (Code.scope c).wp P QQ a w := fun b k cs => by
  obtain ⟨e, a', w', hq, harr⟩ := scopeAt_of_wp h b k cs
  exact ⟨e, a', w', hq, .of_steps (.one step_scope) harr⟩

/-- A block with its number somewhere in code. -/
def Holds (id : Nat) (b : Code) : Code → Prop
  | .block j c => (j = id ∧ c = b) ∨ Holds id b c
  | .seq x y => Holds id b x ∨ Holds id b y
  | .cond _ x y => Holds id b x ∨ Holds id b y
  | .loop c => Holds id b c
  | .scope c => Holds id b c
  | _ => False

theorem ends_scope {c : Code} {gt : GotoK} (hgt : GotoOK P w0 gt) {k : KX} {d : List Deferred} {QQ : Exit → Act → World → Prop} {E : Env}
    (hk : ∀ E' st' t' x, k x st' = true → Sim w0 E' st' t' → Mod E E' → Ends QQ E' ⟨t'.toArray, d⟩ x) :
    ∀ E' st' t' x, (match x with | .goto l => gt c l st' k | x => k x st') = true → Sim w0 E' st' t' → Mod E E' → Ends (Exit.inScope P c QQ) E' ⟨t'.toArray, d⟩ x := by
  intro E' st' t' x hx h1 h2
  cases x with
  | goto l =>
    obtain ⟨rest, hf, hsc⟩ := hgt c l st' k hx
    exact ⟨rest, hf, hsc E' t' d QQ h1 (fun E'' st'' t'' x a b c => hk E'' st'' t'' x a b (h2.trans c))⟩
  | _ => exact hk E' st' t' _ hx h1 h2

theorem evC_sound (hP : ProgOK P) (hG : GamOK P w0 G) (hcall : CallOK P w0 call) {draw : DrawK} (hd : DrawOK P w0 draw) {lp : LoopK} {gt : GotoK} (hgt : GotoOK P w0 gt) (n : Nat) : ∀ (c : Code), (∀ id b F, Holds id b c → lp id = some F → CodeOK P w0 b F) →
    CodeOK P w0 c (fun st k => evC P G call draw lp gt n c st k)
  | .skip, _, st, k, h, E, t, d, QQ, hs, hk => wp_skip (hk E st t .normal (by simpa [evC] using h) hs (Mod.refl E))
  | .region id ops false, _, st, k, h, E, t, d, QQ, hs, hk => by
    simp only [evC] at h
    have := evOps_sound hP hG hcall ops.toList ops.toList st h E t hs (QQ := QQ) (d := d) (fun E' st' t' a b c => hk E' st' t' .normal a b c) (fun E' st' t' hh y a b c e => hk E' st' t' (.panic hh) a b c y e)
    exact wp_region_list (by simpa using this)
  | .region id ops true, _, st, k, h, E, t, d, QQ, hs, hk => by
    simp only [evC] at h
    exact hd id ops st _ _ h E t d QQ hs (fun E' st' t' a b c => hk E' st' t' .normal a b c) (fun E' L' t' hh y a b c e => hk E' _ t' (.panic hh) a b c y e)
  | .seq x y, hl, st, k, h, E, t, d, QQ, hs, hk => by
    simp only [evC] at h
    refine wp_seq (evC_sound hP hG hcall hd hgt n x (fun id b F q => hl id b F (.inl q)) st _ h E t d _ hs (fun E' st' t' e he h1 h2 => ?_))
    cases e with
    | normal => exact evC_sound hP hG hcall hd hgt n y (fun id b F q => hl id b F (.inr q)) st' k he E' t' d QQ h1 (fun E'' st'' t'' x a b c => hk E'' st'' t'' x a b (h2.trans c))
    | _ => exact hk E' st' t' _ he h1 h2
  | .cond c x y, hl, st, k, h, E, t, d, QQ, hs, hk => by
    simp only [evC] at h
    split at h
    · rename_i v b hc
      rw [Bool.and_eq_true] at h
      have hv := fe_ok (E := E) (g := true) rfl (by rw [hc]; exact h.1) (opnd_ok (d := d) hs.tm c)
      rw [hc, relHV_v] at hv
      cases b with
      | true => exact wp_cond_true hv (evC_sound hP hG hcall hd hgt n x (fun id b F q => hl id b F (.inl q)) st k h.2 E t d QQ hs hk)
      | false => exact wp_cond_false hv (evC_sound hP hG hcall hd hgt n y (fun id b F q => hl id b F (.inr q)) st k h.2 E t d QQ hs hk)
    · cases h
  | .block id c, hl, st, k, h, E, t, d, QQ, hs, hk => by
    simp only [evC] at h
    have ends : ∀ E' st' t' x, (match x with | .exit j => if j = id then k .normal st' else k (.exit j) st' | x => k x st') = true → Sim w0 E' st' t' → Mod E E' → Ends (Exit.inBlock id QQ) E' ⟨t'.toArray, d⟩ x := by
      intro E' st' t' x hx h1 h2
      cases x with
      | exit j =>
        simp only [Ends, Exit.inBlock]
        by_cases hj : j = id
        · subst hj; simp only [if_true] at hx ⊢; exact hk E' st' t' .normal hx h1 h2
        · simp only [hj, if_false] at hx ⊢; exact hk E' st' t' (.exit j) hx h1 h2
      | _ => exact hk E' st' t' _ hx h1 h2
    refine wp_block ?_
    split at h
    · rename_i F hF
      exact hl id c F (.inl ⟨rfl, rfl⟩) hF st _ h E t d _ hs ends
    · exact evC_sound hP hG hcall hd hgt n c (fun id b F q => hl id b F (.inr q)) st _ h E t d _ hs ends
  | .loop c, hl, st, k, h, E, t, d, QQ, hs, hk => by
    simp only [evC] at h
    exact loopAt_wp (loopN_sound (evC_sound hP hG hcall hd hgt n c (fun id b F q => hl id b F q)) n st k h E t d QQ hs hk)
  | .exit id, _, st, k, h, E, t, d, QQ, hs, hk => wp_exit (hk E st t (.exit id) (by simpa [evC] using h) hs (Mod.refl E))
  | .label l, _, st, k, h, E, t, d, QQ, hs, hk => wp_label (hk E st t .normal (by simpa [evC] using h) hs (Mod.refl E))
  | .goto l, _, st, k, h, E, t, d, QQ, hs, hk => wp_goto (hk E st t (.goto l) (by simpa [evC] using h) hs (Mod.refl E))
  | .ret, _, st, k, h, E, t, d, QQ, hs, hk => wp_ret (hk E st t .ret (by simpa [evC] using h) hs (Mod.refl E))
  | .rangeFunc .., _, st, k, h, E, t, d, QQ, hs, hk => by simp [evC] at h
  | .scope c, hl, st, k, h, E, t, d, QQ, hs, hk => by
    simp only [evC] at h
    exact wp_scope (evC_sound hP hG hcall hd hgt n c (fun id b F q => hl id b F q) st _ h E t d _ hs (ends_scope hgt hk))
  | .refuse _, _, st, k, h, E, t, d, QQ, hs, hk => by simp [evC] at h

theorem gotoN_sound (hP : ProgOK P) (hG : GamOK P w0 G) (hcall : CallOK P w0 call) {draw : DrawK} (hd : DrawOK P w0 draw) (n : Nat) : ∀ m, GotoOK P w0 (gotoN P G call draw (fun _ => none) n m)
  | 0 => fun c l st k h => by simp [gotoN] at h
  | m + 1 => fun c l st k h => by
    simp only [gotoN] at h
    split at h
    · rename_i rest hf
      refine ⟨rest, hf, fun E t d QQ hs hk => scopeAt_of_wp ?_⟩
      exact evC_sound hP hG hcall hd (gotoN_sound hP hG hcall hd n m) n rest (fun id b F _ hlp => by simp at hlp) st _ h E t d _ hs (ends_scope (gotoN_sound hP hG hcall hd n m) hk)
    · cases h

end
end Go.Lx

namespace Go.Lx
open Go.RowKit

def Env.cut (E : Env) (n : Nat) : Env := { E with L := E.L.take n }

theorem cut_get {E : Env} {n i : Nat} {o : Ob} (hi : i < n) (h : E.L[i]? = some o) : (E.cut n).L[i]? = some o := by
  simp only [Env.cut]; rw [List.getElem?_take_of_lt hi]; exact h

mutual
theorem relF_cut {E : Env} {n : Nat} : ∀ (f : HV) (a : List Value), refsLt n f = true → relF E f a → relF (E.cut n) f a
  | .v x, a, _, h => h
  | .d c x, a, _, h => h
  | .st gs, a, hr, h => by simp only [relF, refsLt] at h hr ⊢; exact relSt_cut gs a hr h
  | .tup gs, a, hr, h => by simp only [relF, refsLt] at h hr ⊢; exact relAll_cut gs a hr h
  | .ptr id off, a, hr, h => by
    simp only [relF, refsLt, decide_eq_true_eq] at h hr ⊢
    obtain ⟨t, x, b, o, h1, h2, h3⟩ := h
    exact ⟨t, x, b, o, cut_get hr h1, h2, h3⟩
  | .dp c x, a, _, h => h
  | .rp c id ver i off, a, hr, h => by
    simp only [relF, refsLt, decide_eq_true_eq] at h hr ⊢
    obtain ⟨y, o, h1, h2, h3, h4⟩ := h
    exact ⟨y, o, h1, cut_get hr h2, h3, h4⟩
  | .own c id ver len, a, hr, h => by
    simp only [relF, refsLt, decide_eq_true_eq] at h hr ⊢
    obtain ⟨q, l, k, o, h1, h2, h3, h4⟩ := h
    exact ⟨q, l, k, o, h1, cut_get hr h2, h3, h4⟩
  | .zc, a, _, h => h
  | .map id, a, hr, h => by
    simp only [relF, refsLt, decide_eq_true_eq] at h hr ⊢
    obtain ⟨o, b, p, h1, h2, h3, h4⟩ := h
    exact ⟨o, b, p, cut_get hr h1, h2, h3, h4⟩
  | .it id, a, hr, h => by
    simp only [relF, refsLt, decide_eq_true_eq] at h hr ⊢
    obtain ⟨o, b, p, h1, h2, h3, h4⟩ := h
    exact ⟨o, b, p, cut_get hr h1, h2, h3, h4⟩
  | .dm k v es, a, _, h => h
  | .fn f fst cap, a, hr, h => by
    simp only [relF, refsLt, Bool.and_eq_true] at h hr ⊢
    obtain ⟨fs, cs, h1, h2, h3⟩ := h
    exact ⟨fs, cs, h1, relAll_cut fst fs hr.1 h2, relAll_cut cap cs hr.2 h3⟩
  | .iface t g, a, hr, h => by
    simp only [relF, refsLt] at h hr ⊢
    obtain ⟨z, h1, h2⟩ := h
    exact ⟨z, h1, top_mono (fun vs => relF_cut g vs hr) h2⟩
  | .opt _ g, a, hr, h => by simp only [relF, refsLt] at h hr ⊢; exact relF_cut g a hr h
  | .junk, a, _, h => h
theorem relSt_cut {E : Env} {n : Nat} : ∀ (fs : List HV) (a : List Value), refsLts n fs = true → relSt E fs a → relSt (E.cut n) fs a
  | [], a, _, h => h
  | f :: fs, vs, hr, h => by
    simp only [relSt, refsLts, Bool.and_eq_true] at h hr ⊢
    obtain ⟨a, b, h1, h2, h3⟩ := h
    exact ⟨a, b, h1, relF_cut f a hr.1 h2, relSt_cut fs b hr.2 h3⟩
theorem relAll_cut {E : Env} {n : Nat} : ∀ (fs : List HV) (a : List Value), refsLts n fs = true → relAll E fs a → relAll (E.cut n) fs a
  | [], a, _, h => h
  | f :: fs, vs, hr, h => by
    simp only [relAll, refsLts, Bool.and_eq_true] at h hr ⊢
    obtain ⟨a, b, h1, h2, h3⟩ := h
    exact ⟨a, b, h1, top_mono (fun vs => relF_cut f vs hr.1) h2, relAll_cut fs b hr.2 h3⟩
end

theorem relOb_cut {E : Env} {n i : Nat} {o : Ob} (hr : obLt n o = true) (h : relOb E i o) : relOb (E.cut n) i o := by
  cases o with
  | box t x =>
    obtain ⟨b, vs, h1, h2, h3, h4⟩ := h
    exact ⟨b, vs, h1, h2, relF_cut x _ hr h3, h4⟩
  | fmap es =>
    obtain ⟨b, ents, clock, h1, h2, h3, h4, h5⟩ := h
    exact ⟨b, ents, clock, h1, h2, h3, h4, relAll_cut _ _ hr h5⟩
  | row c ver fp xs => exact h
  | map k v es => exact h
  | iter s pos => exact h
  | dead v => trivial

/-- Behind a call. -/
theorem trunc_ok {w0 : World} {E E' : Env} {st : St} {t : List Value} {L : List Ob} (hL : E.L = L) (hs : Sim w0 E' st t) (m : Mod E E') {h : HV} {y : Value} (hr : relHV E' h y) :
    ∃ E'' : Env, E''.w = E'.w ∧ Sim w0 E'' ⟨Tm.e, trunc L.length h st.L⟩ [] ∧ Mod E E'' ∧ relHV E'' h y := by
  unfold trunc
  cases hc : refsLt L.length h && (st.L.take L.length).all (obLt L.length) with
  | false => exact ⟨E', rfl, by have := sim_bare hs; rw [hs.L] at this; exact this, m, hr⟩
  | true =>
    rw [Bool.and_eq_true] at hc
    have hL' : E'.L = st.L := hs.L
    have hget : ∀ i o, (E'.cut L.length).L[i]? = some o → i < L.length ∧ E'.L[i]? = some o := fun i o hi => by
      simp only [Env.cut, List.getElem?_take] at hi
      split at hi
      · exact ⟨‹_›, hi⟩
      · cases hi
    refine ⟨E'.cut L.length, rfl, ?_, ?_, top_mono (fun vs => relF_cut h vs hc.1) hr⟩
    · refine ⟨by simp [Env.cut, hL'], relT_e _, fun i o hi => ?_, fun i j o o' b p p' h1 h2 d1 d2 b1 b2 => hs.inj i j o o' b p p' (hget i o h1).2 (hget j o' h2).2 d1 d2 b1 b2, fun b hb => ?_, hs.below, hs.Ilt⟩
      · obtain ⟨h1, h2⟩ := hget i o hi
        refine relOb_cut (List.all_eq_true.1 hc.2 o ?_) (hs.ob i o h2)
        rw [← hL']
        simp only [Env.cut] at hi
        exact List.mem_of_getElem? hi
      · obtain ⟨i, o, p, h1, h2, h3⟩ := hb
        exact hs.old b ⟨i, o, p, (hget i o h1).2, h2, h3⟩
    · refine ⟨m.ext, m.m1, fun b hb => ?_, m.m3, fun i o hi => ?_, m.os, m.tape, m.output⟩
      · obtain ⟨i, o, p, h1, h2, h3⟩ := hb
        exact m.m2 b ⟨i, o, p, (hget i o h1).2, h2, h3⟩
      · obtain ⟨o', h1, h2, h3⟩ := m.m4 i o hi
        have hil : i < L.length := by rw [← hL]; exact (List.getElem?_eq_some_iff.1 hi).1
        exact ⟨o', cut_get hil h1, h2, h3⟩

/-! Results -/

theorem getD_rel {E : Env} {tmps : Tm} {t : List Value} (h : relT E tmps t) (i : Nat) : relHV E (tmps.get i) (t.toArray.getD i undef) :=
  opnd_ok (d := []) h (.tmp i)

theorem resultH_ok {P : Program} {w0 : World} {E : Env} {st : St} {t : List Value} (hs : Sim w0 E st t) : ∀ (rs : List ResultVar) (r : Bool × List HV), resultH P st rs = some r → r.1 = true →
    ∃ vs : List Value, (rs.mapM (fun (x : ResultVar) => match x with | .tmp t' => pure (t.toArray.getD t' undef) | .cell a t' => do loadVar t' (← asAddr (t.toArray.getD a undef)) : ResultVar → Sem Value)).run P E.w = .ok vs E.w ∧ relAll E r.2 vs
  | [], r, h, _ => by simp only [resultH, Option.some.injEq] at h; subst h; exact ⟨[], rfl, rfl⟩
  | .tmp i :: rs, r, h, hr => by
    simp only [resultH] at h
    split at h
    · rename_i r' hr'
      cases h
      rw [Bool.and_eq_true] at hr
      obtain ⟨vs, h1, h2⟩ := resultH_ok hs rs r' hr' hr.2
      refine ⟨_ :: vs, by simp only [List.mapM_cons, Sem.run_bind, Sem.run_pure, Result.andThen_ok, h1], ⟨_, _, rfl, fe_ok rfl hr.1 (getD_rel hs.tm i), h2⟩⟩
    · cases h
  | .cell a ty :: rs, r, h, hr => by
    simp only [resultH] at h
    split at h
    · rename_i r' hr'
      split at h
      · rename_i id off hp
        split at h
        · rename_i q hq
          cases h
          simp only [Bool.and_eq_true] at hr
          obtain ⟨vs, h1, h2⟩ := resultH_ok hs rs r' hr' hr.2
          have ha := fe_ok rfl hr.1.1 (getD_rel hs.tm a)
          rw [hp] at ha
          obtain ⟨y, h3, h4⟩ := loadH_ok (P := P) hs (by rw [hs.L]; exact hq) hr.1.2 ha
          obtain ⟨_, _, b, o, -, -, he⟩ := relHV_ptr.1 ha
          rw [he] at h3
          refine ⟨y :: vs, ?_, ⟨_, _, rfl, h4, h2⟩⟩
          have h3' : (loadVar ty ⟨b, o + off, none⟩).run P E.w = .ok y E.w := by simpa [Instr.loadAt, Instr.sureAddr] using h3
          have e1 : asAddr (t.toArray.getD a undef) = pure ⟨b, o + off, none⟩ := by rw [he]; rfl
          simp only [List.mapM_cons, Sem.run_bind, e1, Sem.run_pure, Result.andThen_ok, h3', h1]
        · cases h
      · cases h
    · cases h

theorem oneOf_ok {E : Env} {hs : List HV} {vs : List Value} (h : relAll E hs vs) : relHV E (oneOf hs) (if _ : vs.toArray.size = 1 then vs.toArray[0] else .tuple vs.toArray) := by
  have hl := relAll_length h
  unfold oneOf
  split
  · obtain ⟨a, b, rfl, h1, h2⟩ := h
    simp only [relAll] at h2; subst h2
    simpa [relHV] using h1
  · rename_i hne
    rw [dif_neg (by
      intro he
      simp only [List.size_toArray] at he
      match hs, hl with
      | [], hl => simp at hl; simp [hl] at he
      | [x], _ => exact hne x rfl
      | _ :: _ :: _, hl => simp at hl; omega)]
    exact ⟨vs, rfl, h⟩

theorem argT_go {E : Env} : ∀ (hs : List HV) (vs : List Value) (done rest : List Value) (M : Tm), relAll E hs vs → relT E M (done ++ rest) → vs.length ≤ rest.length → relT E (argT done.length hs M) (done ++ vs ++ rest.drop vs.length)
  | [], vs, done, rest, M, ha, hm, hl => by
    simp only [relAll] at ha; subst ha
    simpa [argT] using hm
  | h :: hs, vs, done, rest, M, ha, hm, hl => by
    simp only [relAll] at ha
    obtain ⟨a, b, rfl, h1, h2⟩ := ha
    cases rest with
    | nil => simp at hl
    | cons r rest =>
      simp only [argT]
      have hp := relT_put hm done.length (x := h) (y := a) h1
      have e : (done ++ r :: rest).set done.length a = (done ++ [a]) ++ rest := by simp
      rw [e] at hp
      have := argT_go hs b (done ++ [a]) rest _ h2 hp (by simpa using hl)
      simpa using this

theorem argT_ok {E : Env} {hs : List HV} {vs : List Value} (ha : relAll E hs vs) (n : Nat) : relT E (argT 0 hs ⟨hs.length + n, .nil⟩) (vs ++ List.replicate n undef) := by
  have hl := relAll_length ha
  have h0 : relT E ⟨hs.length + n, .nil⟩ ([] ++ (List.replicate (vs.length + n) undef)) := ⟨by simp [hl], fun _ => trivial⟩
  have := argT_go hs vs [] _ _ ha h0 (by simp)
  simpa using this

section
variable {P : Program} {w0 : World}

theorem enterK_sound {run : Code → St → KX → Bool} {f : FuncId} {args : List HV} {L : List Ob} {kr : KR} (h : enterK P run f args L kr = true) (hrun : ∀ fn c, P.funcs[f]? = some fn → fn.body = some c → CodeOK P w0 c (run c)) : Does P w0 f args L kr := by
  unfold enterK at h
  split at h
  · rename_i fn hf
    split at h
    · rename_i c hb
      refine ⟨⟨fn, hf, by rw [hb]; rfl⟩, fun E vs hs ha => ?_⟩
      dsimp only at h
      refine calls_of_wp hf hb ?_
      have hlen : vs.length = args.length := relAll_length ha
      have hs1 : Sim w0 E ⟨argT 0 args ⟨args.length + (fn.ntmps - args.length), .nil⟩, L⟩ (vs ++ List.replicate (fn.ntmps - args.length) undef) := sim_tmps hs (Mod.refl E) (argT_ok ha _)
      have harr : ({ tmps := vs.toArray ++ Array.replicate (fn.ntmps - vs.toArray.size) undef, defers := [] } : Act) = ⟨(vs ++ List.replicate (fn.ntmps - args.length) undef).toArray, []⟩ := by
        congr 1
        apply Array.ext'
        simp [hlen]
      rw [harr]
      have hEL : E.L = L := hs.L
      have fin : ∀ (E' : Env) (st' : St) (t' : List Value), (match resultH P st' fn.results.toList with
        | some r => let q := snaps L.length r.2 st'.L
          r.1 && q.1 && kr (.ret (oneOf (normArgs P fn.resultTypes.toList q.2.1))) (trunc L.length (oneOf (normArgs P fn.resultTypes.toList q.2.1)) q.2.2)
        | none => false) = true → Sim w0 E' st' t' → Mod E E' → (∃ v, (results fn t'.toArray).run P E'.w = .ok v E'.w ∧ ∃ (E'' : Env) (L' : List Ob) (y : Value) (h : HV), E''.w = E'.w ∧ Sim w0 E'' ⟨Tm.e, L'⟩ [] ∧ Mod E E'' ∧ relHV E'' h y ∧
          ((Ending.returned v = .returned y ∧ kr (.ret h) L' = true) ∨ (Ending.returned v = .panicked [{ v := y, recovered := false }] ∧ kr (.panic h) L' = true))) := by
        intro E' st' t' hk h1 h2
        split at hk
        · rename_i r hr
          dsimp only at hk
          simp only [Bool.and_eq_true] at hk
          obtain ⟨⟨k1, k2⟩, k3⟩ := hk
          obtain ⟨rs, g1, g2⟩ := resultH_ok h1 _ r hr k1
          have hst' : st' = ⟨st'.tmps, st'.L⟩ := rfl
          obtain ⟨E1, hsn, -, hrel⟩ := snaps_ok L.length r.2 E' st'.L k2 h1
          have hone := oneOf_ok (normArgs_ok (P := P) fn.resultTypes.toList _ _ (hrel rs g2))
          obtain ⟨E2, q1, q2, q3, q4⟩ := trunc_ok hEL hsn.sim (h2.trans hsn.mod) hone
          refine ⟨_, ?_, E2, _, _, _, q1.trans hsn.w, q2, q3, q4, .inl ⟨rfl, k3⟩⟩
          have hm : (fn.results.mapM (fun (x : ResultVar) => match x with | .tmp t0 => pure (t'.toArray.getD t0 undef) | .cell a t0 => do loadVar t0 (← asAddr (t'.toArray.getD a undef)) : ResultVar → Sem Value)).run P E'.w = .ok rs.toArray E'.w := by
            rw [Array.mapM_eq_mapM_toList]
            simp only [map_eq_pure_bind, Sem.run_bind]
            rw [g1]
            rfl
          unfold results
          simp only [Sem.run_bind]
          exact (congrArg (fun r => Result.andThen r _) hm).trans rfl
        · cases hk
      refine hrun fn c hf hb _ _ h E _ [] _ hs1 (fun E' st' t' x hk h1 h2 => ?_)
      cases x with
      | normal => obtain ⟨v, hv1, hv2⟩ := fin E' st' t' hk h1 h2; exact ⟨rfl, v, hv1, hv2⟩
      | ret => obtain ⟨v, hv1, hv2⟩ := fin E' st' t' hk h1 h2; exact ⟨rfl, v, hv1, hv2⟩
      | panic hh =>
        intro y hy
        obtain ⟨E2, q1, q2, q3, q4⟩ := trunc_ok hEL h1 h2 hy
        exact ⟨rfl, E2, _, y, hh, q1, q2, q3, q4, .inr ⟨rfl, hk⟩⟩
      | exit id => exact absurd hk (by simp)
      | goto l => exact absurd hk (by simp)
    · cases h
  · cases h

end
end Go.Lx

namespace Go.Lx
open Go.RowKit

theorem map_opnd {T T' : Tm} {xs : List Operand} (h : ∀ x ∈ xs, opnd T x = opnd T' x) : xs.map (opnd T) = xs.map (opnd T') := List.map_congr_left h

theorem parts_opnd {T T' : Tm} {ps : Array (Nat × Operand)} (h : ∀ x ∈ (ps.toList.map (·.2)).toArray, opnd T x = opnd T' x) : (ps.toList.map fun p => opnd T p.2) = ps.toList.map fun p => opnd T' p.2 :=
  List.map_congr_left fun p hp => h p.2 (by simp only [List.mem_toArray, List.mem_map]; exact ⟨p, hp, rfl⟩)

theorem evPure_congr {P : Program} {G : Gam} {g : Bool} {T T' : Tm} {L : List Ob} {o : Oper} (h : ∀ x ∈ o.op.operands, opnd T x = opnd T' x) : evPure P G g ⟨T, L⟩ o = evPure P G g ⟨T', L⟩ o := by
  obtain ⟨dst, op, ty, pos, after, guard⟩ := o
  cases op <;> simp only [evPure] <;> simp only [Op.operands] at h
  case move x => rw [h x (by simp)]
  case assign x => rw [h x (by simp)]
  case pick c a b => simp only [pPick, h c (by simp), h a (by simp), h b (by simp)]
  case binOp op t x y yt => rw [h x (by simp), h y (by simp)]
  case unOp op t x => rw [h x (by simp)]
  case convert s d x => rw [h x (by simp)]
  case fieldAddr s x f => rw [h x (by simp)]
  case load t x => rw [h x (by simp)]
  case indexAddr t x i => rw [h x (by simp), h i (by simp)]
  case index t x i => rw [h x (by simp), h i (by simp)]
  case slice t x lo hi m =>
    cases m with
    | some m =>
      cases lo with
      | some l => rfl
      | none =>
        cases hi with
        | none => rfl
        | some y =>
          show pFull P g T t x y m = pFull P g T' t x y m
          unfold pFull
          rw [h x (by simp), h y (by simp), h m (by simp)]
    | none =>
      have e1 := h x (by simp)
      have e2 : (lo.map fun x => fe g (opnd T x)) = lo.map fun x => fe g (opnd T' x) := by
        cases lo with
        | none => rfl
        | some y => simp only [Option.map_some]; rw [h y (by simp)]
      have e3 : (hi.map fun x => fe g (opnd T x)) = hi.map fun x => fe g (opnd T' x) := by
        cases hi with
        | none => rfl
        | some y => simp only [Option.map_some]; rw [h y (by simp)]
      simp only [pSlice, e1, e2, e3]
  case lookup t m x ok => rw [h x (by simp), h m (by simp)]
  case extract x i => rw [h x (by simp)]
  case makeInterface t x => simp only [pIface, h x (by simp)]
  case makeFunc f fst cap =>
    cases f with
    | func f => simp only [pFunc]; rw [map_opnd (T := T) (T' := T') (xs := fst.toList) (fun x hx => h x (by simp at hx ⊢; exact .inl hx)), map_opnd (T := T) (T' := T') (xs := cap.toList) (fun x hx => h x (by simp at hx ⊢; exact .inr hx))]
    | _ => rfl
  case nilCheck x => rw [h x (by simp)]
  case build t parts => simp only [pBuild]; rw [parts_opnd h]
  case buildSlice t n parts => rw [parts_opnd h]
  case call c =>
    have hargs : c.args.toList.map (opnd T) = c.args.toList.map (opnd T') := map_opnd fun x hx => h x (by simp only [Call.operands, Array.mem_append]; exact .inr (by simpa using hx))
    have hin : ∀ x ∈ c.args.toList, opnd T x = opnd T' x := fun x hx => h x (by simp only [Call.operands, Array.mem_append]; exact .inr (by simpa using hx))
    unfold pCall
    split
    · unfold pLen
      split
      · rename_i e1 _; rw [hin _ (by rw [e1]; simp)]
      · rfl
    · unfold pMax
      split
      · rename_i e1; rw [hin _ (by rw [e1]; simp), hin _ (by rw [e1]; simp)]
      · rfl
    · rw [hargs]
    · rfl

theorem evLoud_congr {P : Program} {G : Gam} {call : CallK} {nx : List Oper} {T T' : Tm} {L : List Ob} {o : Oper} {k kp : HV → List Ob → Bool} (h : ∀ x ∈ o.op.operands, opnd T x = opnd T' x) :
    evLoud P G call nx ⟨T, L⟩ o k kp = evLoud P G call nx ⟨T', L⟩ o k kp := by
  obtain ⟨dst, op, ty, pos, after, guard⟩ := o
  cases op <;> simp only [evLoud] <;> simp only [Op.operands] at h
  case alloc t => rfl
  case box t x => rw [h x (by simp)]; rfl
  case store t a x => rw [h a (by simp), h x (by simp)]; rfl
  case makeMap t r => cases r <;> rfl
  case insert t m x y => rw [h m (by simp), h x (by simp), h y (by simp)]; rfl
  case mapUpdate t m x y => rw [h m (by simp), h x (by simp), h y (by simp)]; rfl
  case lookup t m x ok =>
    cases ok with
    | true => simp only [h m (by simp), h x (by simp)]; rfl
    | false => rfl
  case buildSlice t n parts => rw [parts_opnd h]; rfl
  case convert s d x => rw [h x (by simp)]; rfl
  case range t x => rw [h x (by simp)]; rfl
  case next x b =>
    cases b with
    | true => simp only [h x (by simp)]; rfl
    | false => rfl
  case panic x => rw [h x (by simp)]; rfl
  case call c =>
    have hargs : c.args.toList.map (opnd T) = c.args.toList.map (opnd T') := map_opnd fun x hx => h x (by simp only [Call.operands, Array.mem_append]; exact .inr (by simpa using hx))
    have hin : ∀ x ∈ c.args.toList, opnd T x = opnd T' x := fun x hx => h x (by simp only [Call.operands, Array.mem_append]; exact .inr (by simpa using hx))
    unfold lCall
    split
    · unfold lAppend
      split
      · rename_i s x _ _ e1 _
        simp only [hin s (by rw [e1]; simp), hin x (by rw [e1]; simp)]
      · rfl
    · rename_i g hc
      rw [hargs, h g (by simp [Call.operands, hc])]
      rfl
    · rfl

end Go.Lx
