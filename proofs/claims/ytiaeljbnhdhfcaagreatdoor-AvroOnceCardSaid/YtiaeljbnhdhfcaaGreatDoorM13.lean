/- The evaluator of calls, with what is known of library functions. -/
import Derived.Test.YtiaeljbnhdhfcaaGreatDoorM12
import Derived.Lib.Split
namespace Go.Lx
open Go.RowKit

/-- Calls, so deep; 9 and 43 defer. -/
def evG (P : Program) (G : Gam) (n : Nat) : Nat → CallK
  | 0 => fun _ _ _ _ => false
  | m + 1 => fun f args L kr =>
    bif Nat.beq f 9 then enterD P (evC P G (evG P G n m) (canonD P G (evG P G n m)) (fun _ => none) (gotoN P G (evG P G n m) (canonD P G (evG P G n m)) (fun _ => none) n n) n) 85 5 f args L kr
    else bif Nat.beq f 43 then enterD P (evC P G (evG P G n m) (canonD P G (evG P G n m)) (fun _ => none) (gotoN P G (evG P G n m) (canonD P G (evG P G n m)) (fun _ => none) n n) n) 130 2 f args L kr
    else enterK P (evC P G (evG P G n m) (canonD P G (evG P G n m)) (fun _ => none) (gotoN P G (evG P G n m) (canonD P G (evG P G n m)) (fun _ => none) n n) n) f args L kr

/-- What is asked of the two deferred calls. -/
structure CatchesOK (P : Program) : Prop where
  c9 : ∃ dfr, ∀ fn r0 id ops b rest, P.funcs[9]? = some fn → fn.body = some (.seq r0 (.seq (.region id ops b) rest)) → CatchOK P 85 5 dfr id ops b
  c43 : ∃ dfr, ∀ fn r0 id ops b rest, P.funcs[43]? = some fn → fn.body = some (.seq r0 (.seq (.region id ops b) rest)) → CatchOK P 130 2 dfr id ops b

theorem evG_sound {P : Program} {w0 : World} {G : Gam} (hP : ProgOK P) (hC : CatchesOK P) (hG : GamOK P w0 G) (n : Nat) : ∀ m, CallOK P w0 (evG P G n m)
  | 0 => fun _ _ _ _ h => by simp [evG] at h
  | m + 1 => fun f args L kr h => by
    have ih := evG_sound hP hC hG n m
    have hc : ∀ c, CodeOK P w0 c (fun st k => evC P G (evG P G n m) (canonD P G (evG P G n m)) (fun _ => none) (gotoN P G (evG P G n m) (canonD P G (evG P G n m)) (fun _ => none) n n) n c st k) :=
      fun c => evC_sound hP hG ih (canonD_ok hP hG ih) (gotoN_sound hP hG ih (canonD_ok hP hG ih) n n) n c (fun id b F _ hlp => by simp at hlp)
    simp only [evG] at h
    cases h9 : Nat.beq f 9 with
    | true =>
      rw [h9] at h
      simp only [cond_true] at h
      have : f = 9 := Nat.eq_of_beq_eq_true h9
      subst this
      obtain ⟨dfr, hcat⟩ := hC.c9
      exact enterD_sound h hcat (fun fn r0 id ops b rest _ _ => ⟨hc r0, hc rest⟩)
    | false =>
      rw [h9] at h
      simp only [cond_false] at h
      cases h43 : Nat.beq f 43 with
      | true =>
        rw [h43] at h
        simp only [cond_true] at h
        have : f = 43 := Nat.eq_of_beq_eq_true h43
        subst this
        obtain ⟨dfr, hcat⟩ := hC.c43
        exact enterD_sound h hcat (fun fn r0 id ops b rest _ _ => ⟨hc r0, hc rest⟩)
      | false =>
        rw [h43] at h
        simp only [cond_false] at h
        exact enterK_sound h (fun fn c _ _ => hc c)

end Go.Lx

namespace Go.Lx
open Go.RowKit

/-- Where a byte is first; -1: nowhere. -/
def idxGo (c : UInt8) : List UInt8 → Nat → Int
  | [], _ => -1
  | b :: l, n => bif b == c then (n : Int) else idxGo c l (n + 1)

/-- Where a byte is last; else r. -/
def lastGo (c : UInt8) : List UInt8 → Nat → Int → Int
  | [], _, r => r
  | b :: l, n, r => bif b == c then lastGo c l (n + 1) n else lastGo c l (n + 1) r

/-- A text cut at each place of another. -/
def splitS (a b : ByteArray) : List ByteArray := (Lib.splitK b.data.toList 0 (Lib.countB a b) a.data.toList).map fun l => ⟨l.toArray⟩

/-- Where a text is in a list; -1: nowhere. -/
def findGo (s : ByteArray) : List ByteArray → Nat → Int
  | [], _ => -1
  | b :: l, n => bif beqS s b then (n : Int) else findGo s l (n + 1)

def wor (a b : Int) : Int := IntKind.u64.wrap (BitVec.ofInt 64 a ||| BitVec.ofInt 64 b).toNat
def wsh (a : Int) (n : Nat) : Int := IntKind.u64.wrap (IntKind.u64.wrap a * 2 ^ n)

/-- Eight bytes as one number. -/
def word8 (x0 x1 x2 x3 x4 x5 x6 x7 : Int) : Int :=
  wor (wor (wor (wor (wor (wor (wor (IntKind.u64.wrap x0) (wsh x1 8)) (wsh x2 16)) (wsh x3 24)) (wsh x4 32)) (wsh x5 40)) (wsh x6 48)) (wsh x7 56)

def wordL : List Int → Option Int
  | x0 :: x1 :: x2 :: x3 :: x4 :: x5 :: x6 :: x7 :: _ => some (word8 x0 x1 x2 x3 x4 x5 x6 x7)
  | _ => none

def byteR (x : Int) : Bool := decide (0 ≤ x) && decide (x < 256)

/-- The pure ones. -/
def libPure (f : FuncId) (args : List HV) : Option (Bool × HV) :=
  bif Nat.beq f 134 then (match args with | [.v (.string a), .v (.int .u8 c)] => some (true, .v (.int .i64 (idxGo (UInt8.ofNat c.toNat) a.data.toList 0))) | _ => none)
  else bif Nat.beq f 156 then (match args with | [.v (.string a), .v (.int .i32 c)] => some (decide (0 ≤ c) && decide (c < 128), .v (.int .i64 (idxGo (UInt8.ofNat c.toNat) a.data.toList 0))) | _ => none)
  else bif Nat.beq f 98 then (match args with | [.v (.string a), .v (.int .u8 c)] => some (decide (a.size < 4611686018427387904) && byteR c, .v (.int .i64 (lastGo (UInt8.ofNat c.toNat) a.data.toList 0 (-1)))) | _ => none)
  else bif Nat.beq f 94 then (match args with | [.d (.list .str) xs, .v (.string a)] => some (decide ((xs : List ByteArray).length < 4611686018427387904), .v (.int .i64 (findGo a xs 0))) | _ => none)
  else bif Nat.beq f 93 then (match args with
    | [.v (.string a), .v (.string b)] => (match b.data.toList with | [c] => some (true, .v (.bool (!(idxGo c a.data.toList 0 == -1)))) | _ => none)
    | _ => none)
  else bif Nat.beq f 100 then (match args with
    | [.v (.string a), .v (.string b)] => some (decide (a.size < 4294967281) && decide (1 ≤ b.size), .d (.list .str) (splitS a b))
    | _ => none)
  else bif Nat.beq f 82 then (match args with | [.d (.list (.int .u8)) xs] => (match wordL xs with | some n => some (true, .v (.int .u64 n)) | none => none) | _ => none)
  else bif Nat.beq f 150 then (match args with | [.v (.string a)] => (match wordL (blist a) with | some n => some (true, .v (.int .u64 n)) | none => none) | _ => none)
  else none

def cloneK (P : Program) (e : TypeId) (c : Cd) (xs : List c.den) (L : List Ob) (kr : KR) : Bool :=
  decide (xs.length * bytesT P e ≤ 140737488355328) && kr (.ret (.own c L.length 0 xs.length)) (L ++ [.row c 0 0 xs])

/-- The others. -/
def libLoud (P : Program) (f : FuncId) (args : List HV) (L : List Ob) : Option (KR → Bool) :=
  bif Nat.beq f 57 then (match args with | [.d (.list .fld) xs] => some (cloneK P 45 .fld xs L) | _ => none)
  else bif Nat.beq f 58 then (match args with | [.d (.list (.int .i64)) xs] => some (cloneK P 3 (.int .i64) xs L) | _ => none)
  else bif Nat.beq f 59 then (match args with | [.d (.list .str) xs] => some (cloneK P 9 .str xs L) | _ => none)
  else bif Nat.beq f 173 then (match args with
    | [.ptr id 0] => (match L[id]? with
      | some (.box t (.st [.v (.pointer none), b])) => bif Nat.beq t 180 && Nat.beq b.width 1 then some (fun kr => storeK P 178 L (.ptr id 0) (.ptr id 0) fun L' => kr (.ret (.tup [])) L') else none
      | some (.box t (.st [.ptr i 0, _])) => bif Nat.beq t 180 && Nat.beq i id then some (fun kr => kr (.ret (.tup [])) L) else none
      | _ => none)
    | _ => none)
  else bif Nat.beq f 139 then (match args with
    | [.ptr id 0] => (match L[id]? with
      | some (.box t (.st [a, .own (.int .u8) j v n])) => (match L[j]? with
        | some (.row (.int .u8) v' _ xs) => bif Nat.beq t 180 && Nat.beq a.width 1 && Nat.beq v v' && Nat.beq n xs.length && !Nat.beq n 0 && xs.all byteR && decide (xs.length ≤ 140737488355328) then
            some (fun kr => kr (.ret (.v (.string (bback xs)))) (L.set j (.row (.int .u8) (v + 1) 0 []))) else none
        | _ => none)
      | some (.box t (.st [a, .v (.slice none 0 0)])) => bif Nat.beq t 180 && Nat.beq a.width 1 then some (fun kr => kr (.ret (.v (.string ByteArray.empty))) L) else none
      | _ => none)
    | _ => none)
  else none

def G1 (P : Program) : Gam := ⟨libPure, libLoud P⟩

end Go.Lx

namespace Go.Lx
open Go.RowKit

/-- The part of code at a path: 0 the first, 1 the second. -/
def codeAt : List Nat → Code → Code
  | [], c => c
  | i :: p, .seq a b => bif Nat.beq i 0 then codeAt p a else codeAt p b
  | i :: p, .cond _ a b => bif Nat.beq i 0 then codeAt p a else codeAt p b
  | _ :: p, .block _ c => codeAt p c
  | _ :: p, .loop c => codeAt p c
  | _ :: p, .scope c => codeAt p c
  | _, c => c

def bodyOf (P : Program) (f : FuncId) : Code := match P.funcs[f]? with | some fn => (match fn.body with | some c => c | none => .skip) | none => .skip

/-- The temporaries: so many; those hold that. -/
def slots (n : Nat) : List (Nat × HV) → Tm
  | [] => ⟨n, .nil⟩
  | p :: ps => (slots n ps).put p.1 p.2

def keepT (T : Tm) : List Nat → Tm
  | [] => ⟨T.n, .nil⟩
  | i :: is => (keepT T is).put i (T.get i)

/-- A state in which some temporaries alone are known. -/
def St.keep (st : St) (ks : List Nat) : St := ⟨keepT st.tmps ks, st.L⟩

theorem relT_keepT {E : Env} {T : Tm} {t : List Value} (h : relT E T t) : ∀ ks, relT E (keepT T ks) t
  | [] => ⟨h.n, fun _ => trivial⟩
  | i :: is => by
    simp only [keepT]
    have ih := relT_keepT h is
    by_cases hi : i < 4000
    · refine ⟨by rw [Tm.n_put]; exact ih.n, fun j => ?_⟩
      rw [Tm.get_put hi]
      by_cases hc : j = i ∧ i < (keepT T is).n
      · rw [if_pos hc, hc.1]; exact h.get i
      · rw [if_neg hc]; exact ih.get j
    · unfold Tm.put
      rw [blt_ff hi]
      exact ⟨ih.n, fun _ => trivial⟩

theorem sim_keep {w0 : World} {E : Env} {st : St} {t : List Value} (h : Sim w0 E st t) (ks : List Nat) : Sim w0 E (st.keep ks) t := { h with L := h.L, tm := relT_keepT h.tm ks }

/-- A proposition as a Bool. -/
noncomputable def yes (p : Prop) : Bool := @decide p (Classical.propDecidable p)

theorem yes_mk {p : Prop} (h : p) : yes p = true := @decide_eq_true p (Classical.propDecidable p) h
theorem of_yes {p : Prop} (h : yes p = true) : p := @of_decide_eq_true p (Classical.propDecidable p) h

/-- What code does from a state on. -/
def Wp (P : Program) (w0 : World) (c : Code) (st : St) (F : HX → St → Prop) : Prop := ∀ (E : Env) (t : List Value) (d : List Deferred) (QQ : Exit → Act → World → Prop), Sim w0 E st t →
  (∀ E' st' t' x, F x st' → Sim w0 E' st' t' → Mod E E' → Ends QQ E' ⟨t'.toArray, d⟩ x) → c.wp P QQ ⟨t.toArray, d⟩ E.w

section
variable {P : Program} {w0 : World}

theorem Wp.mono {c : Code} {st : St} {F F' : HX → St → Prop} (h : Wp P w0 c st F) (hf : ∀ x st', F x st' → F' x st') : Wp P w0 c st F' :=
  fun E t d QQ hs hk => h E t d QQ hs (fun E' st' t' x a b m => hk E' st' t' x (hf x st' a) b m)

theorem wp_seq' {a b : Code} {st : St} {F : HX → St → Prop} (h : Wp P w0 a st (fun x st' => match x with | .normal => Wp P w0 b st' F | x => F x st')) : Wp P w0 (.seq a b) st F := by
  intro E t d QQ hs hk
  refine wp_seq (h E t d _ hs (fun E' st' t' x hx h1 h2 => ?_))
  cases x with
  | normal => exact hx E' t' d QQ h1 (fun E'' st'' t'' x a b c => hk E'' st'' t'' x a b (h2.trans c))
  | _ => exact hk E' st' t' _ hx h1 h2

theorem wp_block' {id : Nat} {c : Code} {st : St} {F : HX → St → Prop} (h : Wp P w0 c st (fun x st' => match x with | .exit j => if j = id then F .normal st' else F (.exit j) st' | x => F x st')) : Wp P w0 (.block id c) st F := by
  intro E t d QQ hs hk
  refine wp_block (h E t d _ hs (fun E' st' t' x hx h1 h2 => ?_))
  cases x with
  | exit j =>
    simp only [Ends, Exit.inBlock]
    by_cases hj : j = id
    · subst hj; simp only [if_true] at hx ⊢; exact hk E' st' t' .normal hx h1 h2
    · simp only [hj, if_false] at hx ⊢; exact hk E' st' t' (.exit j) hx h1 h2
  | _ => exact hk E' st' t' _ hx h1 h2

/-- A loop by a measure: I: the states at its head. -/
theorem wp_loop' {α : Type} (I : α → St) (μ : α → Nat) {c : Code} {F : HX → St → Prop} (h : ∀ a, Wp P w0 c (I a) (fun x st' => match x with | .normal => ∃ a', μ a' < μ a ∧ st' = I a' | x => F x st')) (a : α) : Wp P w0 (.loop c) (I a) F := by
  intro E t d QQ hs hk
  refine loopAt_wp ?_
  generalize hn : μ a = n
  induction n using Nat.strongRecOn generalizing a E t with
  | _ n ih =>
    refine loopAt_round (h a E t d _ hs (fun E' st' t' x hx h1 h2 => ?_))
    cases x with
    | normal =>
      obtain ⟨a', hlt, rfl⟩ := hx
      exact ih (μ a') (by omega) a' E' t' h1 (fun E'' st'' t'' x a b c => hk E'' st'' t'' x a b (h2.trans c)) rfl
    | _ => exact hk E' st' t' _ hx h1 h2

/-- Code as the evaluator has it. -/
theorem wp_ev {G : Gam} {call : CallK} {draw : DrawK} {gt : GotoK} {n : Nat} (hP : ProgOK P) (hG : GamOK P w0 G) (hcall : CallOK P w0 call) (hd : DrawOK P w0 draw) (hgt : GotoOK P w0 gt) {c : Code} {st : St} (ks : List Nat) {R : KX → Bool} {F : HX → St → Prop}
    (hr : ∀ k : KX, evC P G call draw (fun _ => none) gt n c st (fun x st' => k x (st'.keep ks)) = R k) (h : R (fun x st' => yes (F x st')) = true) : Wp P w0 c st F := by
  intro E t d QQ hs hk
  have := evC_sound (lp := fun _ => none) hP hG hcall hd hgt n c (fun id b F _ hlp => by cases hlp) st (fun x st' => yes (F x (st'.keep ks))) (by rw [← h]; exact hr (fun x st' => yes (F x st'))) E t d QQ hs
  exact this (fun E' st' t' x hx h1 h2 => hk E' _ t' x (of_yes hx) (sim_keep h1 ks) h2)

/-- A function, by its body. -/
theorem does_wp {f : FuncId} {fn : Func} {c : Code} {args : List HV} {L : List Ob} {kr : KR} {n : Nat} (hf : P.funcs[f]? = some fn) (hb : fn.body = some c) (hn : args.length + (fn.ntmps - args.length) = n)
    (h : Wp P w0 c ⟨argT 0 args ⟨n, .nil⟩, L⟩ (fun x st => match x with
      | .normal => finK P fn L kr st = true
      | .ret => finK P fn L kr st = true
      | .panic h => kr (.panic h) (trunc L.length h st.L) = true
      | _ => False)) : Does P w0 f args L kr := by
  classical
  subst hn
  refine enterK_sound (run := fun c st k => decide (Wp P w0 c st (fun x st' => k x st' = true))) ?_ (fun fn' c' hf' hb' => ?_)
  · unfold enterK
    rw [hf]
    simp only [hb]
    refine decide_eq_true (h.mono fun x st' hx => ?_)
    cases x with
    | normal => exact hx
    | ret => exact hx
    | panic hh => exact hx
    | _ => exact hx.elim
  · intro st k hk E t d QQ hs hends
    exact of_decide_eq_true hk E t d QQ hs hends

/-- A function with one result, which is handed on as it is. -/
theorem does_raw {f : FuncId} {fn : Func} {c : Code} {args : List HV} {L : List Ob} {kr : KR} {n i : Nat} (hf : P.funcs[f]? = some fn) (hb : fn.body = some c) (hn : args.length + (fn.ntmps - args.length) = n) (hres : fn.results = #[.tmp i])
    (h : Wp P w0 c ⟨argT 0 args ⟨n, .nil⟩, L⟩ (fun x st => x = .ret ∧ kr (.ret (st.tmps.get i)) st.L = true)) : Does P w0 f args L kr := by
  refine ⟨⟨fn, hf, by rw [hb]; rfl⟩, fun E vs hs ha => ?_⟩
  refine calls_of_wp hf hb ?_
  have hlen : vs.length = args.length := relAll_length ha
  have hs1 : Sim w0 E ⟨argT 0 args ⟨args.length + (fn.ntmps - args.length), .nil⟩, L⟩ (vs ++ List.replicate (fn.ntmps - args.length) undef) := sim_tmps hs (Mod.refl E) (argT_ok ha _)
  have harr : ({ tmps := vs.toArray ++ Array.replicate (fn.ntmps - vs.toArray.size) undef, defers := [] } : Act) = ⟨(vs ++ List.replicate (fn.ntmps - args.length) undef).toArray, []⟩ := by
    congr 1
    apply Array.ext'
    simp [hlen]
  rw [harr]
  rw [hn] at hs1
  refine h E _ [] _ hs1 (fun E' st' t' x hx h1 h2 => ?_)
  obtain ⟨rfl, hk⟩ := hx
  refine ⟨rfl, t'.toArray.getD i undef, ?_, E', st'.L, _, _, rfl, ?_, h2, getD_rel h1.tm i, .inl ⟨rfl, hk⟩⟩
  · simp [results, hres]
  · have := sim_bare h1
    rw [h1.L] at this
    exact this

end
end Go.Lx

namespace Go.Lx
open Go.RowKit

@[reducible] def bt (l : List UInt8) : ByteArray := ⟨⟨l⟩⟩

def text1 : List Int := [123, 34, 116, 121, 112, 101, 34, 58, 34, 114, 101, 99, 111, 114, 100, 34, 44, 34, 110, 97, 109, 101, 34, 58, 34, 97, 46, 82, 34, 44, 34, 102, 105, 101, 108, 100, 115, 34, 58, 91, 123, 34, 110, 97, 109, 101, 34, 58, 34, 110, 34, 44, 34, 116, 121, 112, 101, 34, 58, 91, 34, 110, 117, 108, 108, 34, 44, 34, 82, 34, 93, 44, 34, 100, 101, 102, 97, 117, 108, 116, 34, 58, 110, 117, 108, 108, 125, 93, 125]
def text2 : List Int := [34, 120, 34]

def maxZ (i : Int) : Int := if i > 0 then i else 0
/-- What avro.space answers. -/
def spaceS (a : ByteArray) : ByteArray := bsub a 0 (maxZ (lastGo 46 a.data.toList 0 (-1))).toNat

def pure2 (f : FuncId) (args : List HV) : Option (Bool × HV) :=
  bif Nat.beq f 41 then (match args with | [.d (.list (.int .u8)) xs] => if (xs : List Int) = text1 ∨ (xs : List Int) = text2 then some (true, .v (.bool true)) else none | _ => none)
  else bif Nat.beq f 56 then (match args with | [.v (.string a)] => some (decide (a.size < 4611686018427387904), .v (.string (spaceS a))) | _ => none)
  else libPure f args

def G2 (P : Program) : Gam := ⟨pure2, libLoud P⟩

end Go.Lx

namespace Go.Lx
open Go.RowKit

def sameS (a b : ByteArray) : Bool := decide (a.data.toList = b.data.toList)
theorem sameS_eq {a b : ByteArray} (h : sameS a b = true) : a = b := by
  have := of_decide_eq_true h
  cases a; cases b; simp only [Array.toList_inj] at this; rw [this]

def sameSs : List ByteArray → List ByteArray → Bool
  | [], [] => true
  | a :: l, b :: m => sameS a b && sameSs l m
  | _, _ => false
theorem sameSs_eq : ∀ {a b : List ByteArray}, sameSs a b = true → a = b
  | [], [], _ => rfl
  | a :: l, b :: m, h => by
    simp only [sameSs, Bool.and_eq_true] at h
    rw [sameS_eq h.1, sameSs_eq h.2]
  | [], _ :: _, h => by cases h
  | _ :: _, [], h => by cases h

mutual
def sameJ : J → J → Bool
  | .mk k b d t l n, .mk k' b' d' t' l' n' => decide (k = k') && decide (b = b') && decide (d.neg = d'.neg) && sameS d.digits d'.digits && decide (d.exp = d'.exp) && sameS t t' && sameSs n n' && sameJs l l'
def sameJs : List J → List J → Bool
  | [], [] => true
  | a :: l, b :: m => sameJ a b && sameJs l m
  | _, _ => false
end

mutual
theorem sameJ_eq : ∀ (a b : J), sameJ a b = true → a = b
  | .mk k b d t l n, .mk k' b' d' t' l' n', h => by
    simp only [sameJ, Bool.and_eq_true, decide_eq_true_eq] at h
    obtain ⟨⟨⟨⟨⟨⟨⟨rfl, rfl⟩, h1⟩, h2⟩, h3⟩, h4⟩, h5⟩, h6⟩ := h
    have e2 := sameS_eq h2
    have e4 := sameS_eq h4
    have e5 := sameSs_eq h5
    have e6 := sameJs_eq l l' h6
    have e : d = d' := by
      cases d; cases d'
      simp only at h1 e2 h3
      rw [h1, e2, h3]
    rw [e, e4, e5, e6]
theorem sameJs_eq : ∀ (a b : List J), sameJs a b = true → a = b
  | [], [], _ => rfl
  | a :: l, b :: m, h => by
    simp only [sameJs, Bool.and_eq_true] at h
    rw [sameJ_eq a b h.1, sameJs_eq l m h.2]
  | [], _ :: _, h => by cases h
  | _ :: _, [], h => by cases h
end

@[reducible] def jd : Dec := Dec.mk false (bt []) 0
@[reducible] def jS (s : List UInt8) : J := .mk 3 false jd (bt s) [] []
@[reducible] def fldJ : J := J.mk 5 false jd (bt []) [jS [110], J.mk 4 false jd (bt []) [jS [110, 117, 108, 108], jS [82]] [], J.mk 0 false jd (bt []) [] []] [bt [110, 97, 109, 101], bt [116, 121, 112, 101], bt [100, 101, 102, 97, 117, 108, 116]]
@[reducible] def topJ : J := J.mk 5 false jd (bt []) [jS [114, 101, 99, 111, 114, 100], jS [97, 46, 82], J.mk 4 false jd (bt []) [fldJ] []] [bt [116, 121, 112, 101], bt [110, 97, 109, 101], bt [102, 105, 101, 108, 100, 115]]

@[reducible] def av1 : Av := Av.mk [(Nd.mk 8 (bt [97, 46, 82]) [(Fld.mk (bt [110]) 1 true (J.mk 0 false jd (bt []) [] []))] [] false (bt []) 0 []), (Nd.mk 13 (bt []) [] [] false (bt []) 0 [2, 0]), (Nd.mk 0 (bt []) [] [] false (bt []) 0 [])] 0

def pure3 (f : FuncId) (args : List HV) : Option (Bool × HV) :=
  bif Nat.beq f 24 then (match args with | [.d (.list (.int .u8)) xs] => if (xs : List Int) = text1 then some (true, .tup [.d .json topJ, .v (.int .i64 0)]) else none | _ => none)
  else bif Nat.beq f 32 then (match args with | [.d .json j] => if sameJ j topJ = true ∨ sameJ j fldJ = true then some (true, .v (.int .i64 0)) else none | _ => none)
  else pure2 f args

def G3 (P : Program) : Gam := ⟨pure3, libLoud P⟩

end Go.Lx
