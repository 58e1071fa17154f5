/- jsontext: blanks, texts in quotes, scalars, the grammar. -/
import Derived.Test.YtiaeljbnhdhfcaaGreatDoorM16
import Derived.Test.YtiaeljbnhdhfcaaGreatDoorM17
namespace Go.Proofs.YtiaeljbnhdhfcaaGreatDoor
open Go Go.RowKit Go.Lx

/-- The evaluator of straight code, calls to a depth among them. -/
noncomputable abbrev evd (G : Gam) (m : Nat) (c : Code) (st : St) (k : KX) : Bool := evC Tryz.prog G (evG Tryz.prog G 9 m) (canonD Tryz.prog G (evG Tryz.prog G 9 m)) (fun _ => none) (fun _ _ _ _ => false) 9 c st k

theorem evd_ok {w0 : World} {G : Gam} (hG : GamOK Tryz.prog w0 G) {m : Nat} {c : Code} {st : St} (ks : List Nat) {R : KX → Bool} {F : HX → St → Prop}
    (hr : ∀ k : KX, evd G m c st (fun x st' => k x (st'.keep ks)) = R k) (h : R (fun x st' => yes (F x st')) = true) : Wp Tryz.prog w0 c st F :=
  wp_ev progOK hG (evG_sound progOK catches hG 9 m) (canonD_ok progOK hG (evG_sound progOK catches hG 9 m)) (fun _ _ _ _ h => by cases h) ks hr h

@[reducible] def tx (l : List UInt8) : HV := .v (.string ⟨⟨l⟩⟩)

def st83 (l : List UInt8) : St := ⟨slots 13 [(0, tx l), (2, tx [])], []⟩

theorem a83 (l : List UInt8) (k : KX) : evd G0 1 (pc 83 [0]) ⟨argT 0 [tx l] ⟨13, .nil⟩, []⟩ (fun x st => k x (st.keep [0, 2])) = k HX.normal ⟨slots 13 [(0, (HV.v (Value.string (ByteArray.mk (Array.mk l))))), (2, (HV.v (Value.string (ByteArray.mk (Array.mk [])))))], []⟩ := by kernel_rfl
theorem b83n (k : KX) : evd G0 1 (pc 83 [1, 0, 0, 0]) (st83 []) (fun x st => k x (st.keep [0, 2])) = k (HX.exit 0) ⟨slots 13 [(0, (HV.v (Value.string (ByteArray.mk (Array.mk []))))), (2, (HV.v (Value.string (ByteArray.mk (Array.mk [])))))], []⟩ := by kernel_rfl
theorem b83c (c : UInt8) (l : List UInt8) (k : KX) : evd G0 1 (pc 83 [1, 0, 0, 0]) (st83 (c :: l)) (fun x st => k x (st.keep [0, 2])) = (decide (0 < (((ByteArray.size (ByteArray.mk (Array.mk (c :: l)))) : Nat) : Int)) && (((!decide (decide ((((UInt8.toNat c) : Nat) : Int) = 32) = Bool.false)) || Bool.true) && (((!decide (decide ((((UInt8.toNat c) : Nat) : Int) = 32) = Bool.false)) || ((((!decide (decide ((((UInt8.toNat c) : Nat) : Int) = 32) = Bool.false)) || decide (decide ((((UInt8.toNat c) : Nat) : Int) = 32) = Bool.false)) && Bool.true) && Bool.true)) && (((!(!decide ((((UInt8.toNat c) : Nat) : Int) = 32))) || decide (decide ((((UInt8.toNat c) : Nat) : Int) = 32) = Bool.false)) && (((!decide ((decide ((((UInt8.toNat c) : Nat) : Int) = 32) || decide ((((UInt8.toNat c) : Nat) : Int) = 9)) = Bool.false)) || Bool.true) && (((!decide ((decide ((((UInt8.toNat c) : Nat) : Int) = 32) || decide ((((UInt8.toNat c) : Nat) : Int) = 9)) = Bool.false)) || ((((!decide ((decide ((((UInt8.toNat c) : Nat) : Int) = 32) || decide ((((UInt8.toNat c) : Nat) : Int) = 9)) = Bool.false)) || decide ((decide ((((UInt8.toNat c) : Nat) : Int) = 32) || decide ((((UInt8.toNat c) : Nat) : Int) = 9)) = Bool.false)) && Bool.true) && Bool.true)) && (((!(!(decide ((((UInt8.toNat c) : Nat) : Int) = 32) || decide ((((UInt8.toNat c) : Nat) : Int) = 9)))) || decide ((decide ((((UInt8.toNat c) : Nat) : Int) = 32) || decide ((((UInt8.toNat c) : Nat) : Int) = 9)) = Bool.false)) && (((!decide (((decide ((((UInt8.toNat c) : Nat) : Int) = 32) || decide ((((UInt8.toNat c) : Nat) : Int) = 9)) || decide ((((UInt8.toNat c) : Nat) : Int) = 10)) = Bool.false)) || Bool.true) && (((!decide (((decide ((((UInt8.toNat c) : Nat) : Int) = 32) || decide ((((UInt8.toNat c) : Nat) : Int) = 9)) || decide ((((UInt8.toNat c) : Nat) : Int) = 10)) = Bool.false)) || ((((!decide (((decide ((((UInt8.toNat c) : Nat) : Int) = 32) || decide ((((UInt8.toNat c) : Nat) : Int) = 9)) || decide ((((UInt8.toNat c) : Nat) : Int) = 10)) = Bool.false)) || decide (((decide ((((UInt8.toNat c) : Nat) : Int) = 32) || decide ((((UInt8.toNat c) : Nat) : Int) = 9)) || decide ((((UInt8.toNat c) : Nat) : Int) = 10)) = Bool.false)) && Bool.true) && Bool.true)) && (((!(!((decide ((((UInt8.toNat c) : Nat) : Int) = 32) || decide ((((UInt8.toNat c) : Nat) : Int) = 9)) || decide ((((UInt8.toNat c) : Nat) : Int) = 10)))) || decide (((decide ((((UInt8.toNat c) : Nat) : Int) = 32) || decide ((((UInt8.toNat c) : Nat) : Int) = 9)) || decide ((((UInt8.toNat c) : Nat) : Int) = 10)) = Bool.false)) && (bif (((decide ((((UInt8.toNat c) : Nat) : Int) = 32) || decide ((((UInt8.toNat c) : Nat) : Int) = 9)) || decide ((((UInt8.toNat c) : Nat) : Int) = 10)) || decide ((((UInt8.toNat c) : Nat) : Int) = 13)) then ((decide (1 ≤ (((ByteArray.size (ByteArray.mk (Array.mk (c :: l)))) : Nat) : Int)) && decide ((((ByteArray.size (ByteArray.mk (Array.mk (c :: l)))) : Nat) : Int) ≤ (((ByteArray.size (ByteArray.mk (Array.mk (c :: l)))) : Nat) : Int))) && k HX.normal ⟨slots 13 [(0, (HV.v (Value.string (ByteArray.mk (Array.mk l))))), (2, (HV.v (Value.string (ByteArray.mk (Array.mk [])))))], []⟩) else k (HX.exit 0) ⟨slots 13 [(0, (HV.v (Value.string (ByteArray.mk (Array.mk (c :: l)))))), (2, (HV.v (Value.string (ByteArray.mk (Array.mk [])))))], []⟩))))))))))) := by kernel_rfl
theorem c83 (l : List UInt8) (k : KX) : evd G0 1 (pc 83 [1, 1]) (st83 l) (fun x st => k x (st.keep [0, 2])) = k HX.ret ⟨slots 13 [(0, (HV.v (Value.string (ByteArray.mk (Array.mk l))))), (2, (HV.v (Value.string (ByteArray.mk (Array.mk l)))))], []⟩ := by kernel_rfl
theorem f83 (l : List UInt8) (kr : KR) : finK Tryz.prog Tryz.f83 [] kr ⟨slots 13 [(0, tx l), (2, tx l)], []⟩ = kr (HR.ret (HV.v (Value.string (ByteArray.mk (Array.mk l))))) [] := by kernel_rfl

/-- A blank. -/
def blankB (c : UInt8) : Bool := decide ((c.toNat : Int) = 32) || decide ((c.toNat : Int) = 9) || decide ((c.toNat : Int) = 10) || decide ((c.toNat : Int) = 13)

/-- Without the blanks ahead. -/
def skipL : List UInt8 → List UInt8
  | [] => []
  | c :: l => bif blankB c then skipL l else c :: l

theorem bsub_tail (c : UInt8) (l : List UInt8) (n : Nat) (h : l.length + 1 ≤ n) : bsub ⟨⟨c :: l⟩⟩ 1 n = ⟨⟨l⟩⟩ := by
  unfold bsub
  rw [List.take_of_length_le (by simpa using h)]
  rfl

theorem size_bt (l : List UInt8) : ByteArray.size ⟨⟨l⟩⟩ = l.length := rfl

theorem b83c' (c : UInt8) (l : List UInt8) (k : KX) : evd G0 1 (pc 83 [1, 0, 0, 0]) (st83 (c :: l)) (fun x st => k x (st.keep [0, 2])) = (bif blankB c then k .normal (st83 l) else k (.exit 0) (st83 (c :: l))) := by
  rw [b83c]
  unfold blankB
  have e1 : (decide (0 < ((ByteArray.size ⟨⟨c :: l⟩⟩ : Nat) : Int))) = true := decide_eq_true (by rw [size_bt, List.length_cons]; omega)
  have e2 : (decide (1 ≤ ((ByteArray.size ⟨⟨c :: l⟩⟩ : Nat) : Int))) = true := decide_eq_true (by rw [size_bt, List.length_cons]; omega)
  have e3 : bsub ⟨⟨c :: l⟩⟩ 1 (Int.toNat ((ByteArray.size ⟨⟨c :: l⟩⟩ : Nat) : Int)) = ⟨⟨l⟩⟩ := bsub_tail c l _ (by rw [size_bt]; simp)
  simp only [e1, e2, e3]
  cases decide ((c.toNat : Int) = 32) <;> cases decide ((c.toNat : Int) = 9) <;> cases decide ((c.toNat : Int) = 10) <;> cases decide ((c.toNat : Int) = 13) <;> simp [st83, tx]

theorem do83 (l : List UInt8) (H : World → Prop) : PureDo Tryz.prog H 83 [tx l] (tx (skipL l)) := by
  intro w0 kr _ hkr
  have hG := gamOK0 w0
  refine does_wp Tryz.func83 (c := .seq (pc 83 [0]) (.seq (.block 0 (.loop (pc 83 [1, 0, 0, 0]))) (pc 83 [1, 1]))) (by kernel_rfl) (n := 13) (by kernel_rfl) ?_
  refine wp_seq' (evd_ok hG [0, 2] (a83 l) (yes_mk ?_))
  refine wp_seq' (wp_block' ?_)
  refine wp_loop' (α := { m : List UInt8 // skipL m = skipL l }) (fun m => st83 m.1) (fun m => m.1.length) (fun m => ?_) ⟨l, rfl⟩
  obtain ⟨m, hm⟩ := m
  cases m with
  | nil =>
    refine evd_ok hG [0, 2] b83n (yes_mk ?_)
    refine evd_ok hG [0, 2] (c83 []) (yes_mk ?_)
    rw [← hm] at hkr
    show finK Tryz.prog Tryz.f83 [] kr ⟨slots 13 [(0, tx []), (2, tx [])], []⟩ = true
    rw [f83]
    exact hkr
  | cons c m =>
    refine evd_ok hG [0, 2] (b83c' c m) ?_
    cases hc : blankB c with
    | true => exact yes_mk ⟨⟨m, by rw [← hm]; simp [skipL, hc]⟩, Nat.lt_succ_self _, rfl⟩
    | false =>
      refine yes_mk ?_
      refine evd_ok hG [0, 2] (c83 (c :: m)) (yes_mk ?_)
      rw [← hm] at hkr
      simp only [skipL, hc, cond_false] at hkr
      show finK Tryz.prog Tryz.f83 [] kr ⟨slots 13 [(0, tx (c :: m)), (2, tx (c :: m))], []⟩ = true
      rw [f83]
      exact hkr

end Go.Proofs.YtiaeljbnhdhfcaaGreatDoor

namespace Go.Proofs.YtiaeljbnhdhfcaaGreatDoor
open Go Go.RowKit Go.Lx

/-- Some functions are not looked into: nothing is shown where they are called. -/
def cutG (G : Gam) (fs : List Nat) : Gam := ⟨G.pure, fun f args L => bif fs.any (Nat.beq f) then some (fun _ => false) else G.loud f args L⟩

theorem cutG_ok {w0 : World} {G : Gam} (h : GamOK Tryz.prog w0 G) (fs : List Nat) : GamOK Tryz.prog w0 (cutG G fs) := by
  refine ⟨h.pure, fun f args L F kr hF hk => ?_⟩
  simp only [cutG] at hF
  cases hc : fs.any (Nat.beq f) with
  | true => rw [hc] at hF; simp only [cond_true, Option.some.injEq] at hF; rw [← hF] at hk; cases hk
  | false => rw [hc] at hF; exact h.loud f args L F kr hF hk

noncomputable def Gq : Gam := cutG G0 [134, 135]

def st85 (s : ByteArray) (i : Int) : St := ⟨slots 59 [(0, .v (.string s)), (2, .v (.int .i64 0)), (3, .v (.int .i64 i))], []⟩

theorem a85 (s : ByteArray) (k : KX) : evd Gq 1 (pc 85 [0]) ⟨argT 0 [.v (.string s)] ⟨59, .nil⟩, []⟩ (fun x st => k x (st.keep [0, 2])) = k HX.normal ⟨slots 59 [(0, (HV.v (Value.string s))), (2, (HV.v (Value.int IntKind.i64 0)))], []⟩ := by kernel_rfl
theorem b85c (c : UInt8) (l : List UInt8) (k : KX) : evd Gq 3 (pc 85 [1, 0]) ⟨slots 59 [(0, tx (c :: l)), (2, .v (.int .i64 0))], []⟩ (fun x st => k x (st.keep [0, 2])) = (decide (1 ≤ (((ByteArray.size (ByteArray.mk (Array.mk (c :: l)))) : Nat) : Int)) && (bif (!(beqS (ByteArray.mk (Array.mk [c])) (ByteArray.mk (Array.mk [34])))) then k HX.ret ⟨slots 59 [(0, (HV.v (Value.string (ByteArray.mk (Array.mk (c :: l)))))), (2, (HV.v (Value.int IntKind.i64 0)))], []⟩ else k HX.normal ⟨slots 59 [(0, (HV.v (Value.string (ByteArray.mk (Array.mk (c :: l)))))), (2, (HV.v (Value.int IntKind.i64 0)))], []⟩)) := by kernel_rfl
theorem c85 (s : ByteArray) (k : KX) : evd Gq 1 (pc 85 [1, 1, 0, 0]) ⟨slots 59 [(0, .v (.string s)), (2, .v (.int .i64 0))], []⟩ (fun x st => k x (st.keep [0, 2, 3])) = k HX.normal ⟨slots 59 [(0, (HV.v (Value.string s))), (2, (HV.v (Value.int IntKind.i64 0))), (3, (HV.v (Value.int IntKind.i64 1)))], []⟩ := by kernel_rfl
theorem d85 (s : ByteArray) (i : Int) (k : KX) : evd Gq 1 (pc 85 [1, 1, 0, 1, 0, 0]) (st85 s i) (fun x st => k x (st.keep [0, 2, 3])) = (bif (ltI i (((ByteArray.size s) : Nat) : Int)) then ((decide (0 ≤ i) && decide (i < (((ByteArray.size s) : Nat) : Int))) && (bif (ltI (((UInt8.toNat (List.getD (Array.toList (ByteArray.data s)) (Int.toNat i) 0)) : Nat) : Int) 32) then k HX.ret ⟨slots 59 [(0, (HV.v (Value.string s))), (2, (HV.v (Value.int IntKind.i64 0))), (3, (HV.v (Value.int IntKind.i64 i)))], []⟩ else (bif decide ((((UInt8.toNat (List.getD (Array.toList (ByteArray.data s)) (Int.toNat i) 0)) : Nat) : Int) = 34) then k HX.ret ⟨slots 59 [(0, (HV.v (Value.string s))), (2, (HV.v (Value.int IntKind.i64 (fwrap IntKind.i64 (i + 1))))), (3, (HV.v (Value.int IntKind.i64 i)))], []⟩ else (bif decide ((((UInt8.toNat (List.getD (Array.toList (ByteArray.data s)) (Int.toNat i) 0)) : Nat) : Int) = 92) then (((!decide (decide ((fwrap IntKind.i64 (i + 1)) = (((ByteArray.size s) : Nat) : Int)) = Bool.false)) || Bool.true) && (((!decide (decide ((fwrap IntKind.i64 (i + 1)) = (((ByteArray.size s) : Nat) : Int)) = Bool.false)) || Bool.true) && (((!decide (decide ((fwrap IntKind.i64 (i + 1)) = (((ByteArray.size s) : Nat) : Int)) = Bool.false)) || ((((!decide (decide ((fwrap IntKind.i64 (i + 1)) = (((ByteArray.size s) : Nat) : Int)) = Bool.false)) || decide (decide ((fwrap IntKind.i64 (i + 1)) = (((ByteArray.size s) : Nat) : Int)) = Bool.false)) && ((!decide (decide ((fwrap IntKind.i64 (i + 1)) = (((ByteArray.size s) : Nat) : Int)) = Bool.false)) || decide (decide ((fwrap IntKind.i64 (i + 1)) = (((ByteArray.size s) : Nat) : Int)) = Bool.false))) && (decide (0 ≤ (fwrap IntKind.i64 (i + 1))) && decide ((fwrap IntKind.i64 (i + 1)) < (((ByteArray.size s) : Nat) : Int))))) && (bif decide (decide ((fwrap IntKind.i64 (i + 1)) = (((ByteArray.size s) : Nat) : Int)) = Bool.false) then ((decide (decide ((fwrap IntKind.i64 (i + 1)) = (((ByteArray.size s) : Nat) : Int)) = Bool.false) && Bool.true) && Bool.false) else (bif decide (decide ((fwrap IntKind.i64 (i + 1)) = (((ByteArray.size s) : Nat) : Int)) = Bool.false) then Bool.false else (((!(!decide ((fwrap IntKind.i64 (i + 1)) = (((ByteArray.size s) : Nat) : Int)))) && Bool.true) && k HX.ret ⟨slots 59 [(0, (HV.v (Value.string s))), (2, (HV.v (Value.int IntKind.i64 0))), (3, (HV.v (Value.int IntKind.i64 (fwrap IntKind.i64 (i + 1)))))], []⟩)))))) else k HX.normal ⟨slots 59 [(0, (HV.v (Value.string s))), (2, (HV.v (Value.int IntKind.i64 0))), (3, (HV.v (Value.int IntKind.i64 (fwrap IntKind.i64 (i + 1)))))], []⟩)))) else k (HX.exit 0) ⟨slots 59 [(0, (HV.v (Value.string s))), (2, (HV.v (Value.int IntKind.i64 0))), (3, (HV.v (Value.int IntKind.i64 i)))], []⟩) := by kernel_rfl
theorem e85 (s : ByteArray) (i : Int) (k : KX) : evd Gq 1 (pc 85 [1, 1, 1]) (st85 s i) (fun x st => k x (st.keep [0, 2, 3])) = k HX.ret ⟨slots 59 [(0, (HV.v (Value.string s))), (2, (HV.v (Value.int IntKind.i64 0))), (3, (HV.v (Value.int IntKind.i64 i)))], []⟩ := by kernel_rfl
theorem f85 (s : ByteArray) (i r : Int) (kr : KR) : finK Tryz.prog Tryz.f85 [] kr ⟨slots 59 [(0, .v (.string s)), (2, .v (.int .i64 r)), (3, .v (.int .i64 i))], []⟩ = kr (HR.ret (HV.v (Value.int IntKind.i64 r))) [] := by kernel_rfl
theorem b85n (k : KX) : evd Gq 3 (pc 85 [1, 0]) ⟨slots 59 [(0, tx []), (2, .v (.int .i64 0))], []⟩ (fun x st => k x (st.keep [0, 2])) = k HX.ret ⟨slots 59 [(0, (HV.v (Value.string (ByteArray.mk (Array.mk []))))), (2, (HV.v (Value.int IntKind.i64 0)))], []⟩ := by kernel_rfl

/-- How long what is quoted is; no backslash in it. -/
def qLen : List UInt8 → Int → Int
  | [], _ => 0
  | c :: l, i => bif ltI (c.toNat : Int) 32 then 0 else bif decide ((c.toNat : Int) = 34) then i + 1 else qLen l (i + 1)
def qOk : List UInt8 → Bool
  | [] => true
  | c :: l => bif ltI (c.toNat : Int) 32 then true else bif decide ((c.toNat : Int) = 34) then true else bif decide ((c.toNat : Int) = 92) then false else qOk l
def isQ (c : UInt8) : Bool := beqS ⟨⟨[c]⟩⟩ ⟨⟨[34]⟩⟩
def quotedLen : List UInt8 → Int
  | [] => 0
  | c :: l => bif isQ c then qLen l 1 else 0
def quotedOk : List UInt8 → Bool
  | [] => true
  | c :: l => bif isQ c then qOk l else true

theorem nil_or_cons {α : Type} (l : List α) : l = [] ∨ ∃ c r, l = c :: r := by cases l <;> simp

theorem drop_cons {α : Type} {l : List α} {i : Nat} {c : α} {r : List α} (h : l.drop i = c :: r) : i < l.length ∧ l.drop (i + 1) = r ∧ ∀ d, l.getD i d = c := by
  have hi : i < l.length := by
    rcases Nat.lt_or_ge i l.length with h' | h'
    · exact h'
    · rw [List.drop_eq_nil_of_le h'] at h; cases h
  rw [List.drop_eq_getElem_cons hi] at h
  injection h with h1 h2
  exact ⟨hi, h2, fun d => by rw [List.getD_eq_getElem?_getD, List.getElem?_eq_getElem hi]; exact h1⟩

theorem do85 (full : List UInt8) (hs : full.length < 4611686018427387904) (hok : quotedOk full = true) (H : World → Prop) : PureDo Tryz.prog H 85 [tx full] (.v (.int .i64 (quotedLen full))) := by
  intro w0 kr _ hkr
  have hG : GamOK Tryz.prog w0 Gq := cutG_ok (G := G0) (gamOK0 w0) [134, 135]
  refine does_wp Tryz.func85 (c := .seq (pc 85 [0]) (.seq (pc 85 [1, 0]) (.seq (.seq (pc 85 [1, 1, 0, 0]) (.block 0 (.loop (pc 85 [1, 1, 0, 1, 0, 0])))) (pc 85 [1, 1, 1])))) (by kernel_rfl) (n := 59) (by kernel_rfl) ?_
  refine wp_seq' (evd_ok hG [0, 2] (a85 ⟨⟨full⟩⟩) (yes_mk ?_))
  cases full with
  | nil =>
    refine wp_seq' (evd_ok hG [0, 2] b85n (yes_mk ?_))
    exact hkr
  | cons c0 l =>
    refine wp_seq' (evd_ok hG [0, 2] (b85c c0 l) ?_)
    have e0 : (decide (1 ≤ ((ByteArray.size ⟨⟨c0 :: l⟩⟩ : Nat) : Int))) = true := decide_eq_true (by rw [size_bt, List.length_cons]; omega)
    rw [e0, Bool.true_and]
    cases hq : isQ c0 with
    | false =>
      rw [show beqS ⟨⟨[c0]⟩⟩ ⟨⟨[34]⟩⟩ = false from hq]
      refine yes_mk ?_
      simp only [quotedLen, hq, cond_false] at hkr
      exact hkr
    | true =>
      rw [show beqS ⟨⟨[c0]⟩⟩ ⟨⟨[34]⟩⟩ = true from hq]
      refine yes_mk ?_
      simp only [quotedLen, hq, cond_true] at hkr
      simp only [quotedOk, hq, cond_true] at hok
      refine wp_seq' (wp_seq' (evd_ok hG [0, 2, 3] (c85 ⟨⟨c0 :: l⟩⟩) (yes_mk (wp_block' ?_))))
      refine wp_loop' (α := { i : Nat // qLen ((c0 :: l).drop i) (i : Int) = qLen l 1 ∧ qOk ((c0 :: l).drop i) = true }) (fun i => st85 ⟨⟨c0 :: l⟩⟩ (i.1 : Int)) (fun i => (c0 :: l).length - i.1) (fun i => ?_) ⟨1, rfl, hok⟩
      obtain ⟨i, hi, ho⟩ := i
      refine evd_ok hG [0, 2, 3] (d85 ⟨⟨c0 :: l⟩⟩ (i : Int)) ?_
      rcases nil_or_cons ((c0 :: l).drop i) with hd | ⟨c, r, hd⟩
      · have hge : (c0 :: l).length ≤ i := by simpa using hd
        have : ltI (i : Int) ((ByteArray.size ⟨⟨c0 :: l⟩⟩ : Nat) : Int) = false := by
          cases h : ltI (i : Int) ((ByteArray.size ⟨⟨c0 :: l⟩⟩ : Nat) : Int) with
          | false => rfl
          | true => rw [ltI_iff, size_bt] at h; omega
        rw [this]
        refine yes_mk ?_
        show Wp Tryz.prog w0 (pc 85 [1, 1, 1]) _ _
        refine evd_ok hG [0, 2, 3] (e85 ⟨⟨c0 :: l⟩⟩ (i : Int)) (yes_mk ?_)
        rw [hd] at hi
        show finK Tryz.prog Tryz.f85 [] kr ⟨slots 59 [(0, .v (.string ⟨⟨c0 :: l⟩⟩)), (2, .v (.int .i64 0)), (3, .v (.int .i64 i))], []⟩ = true
        rw [f85]
        rw [← hi] at hkr
        exact hkr
      · obtain ⟨hlt, hdr, hget⟩ := drop_cons hd
        have e1 : ltI (i : Int) ((ByteArray.size ⟨⟨c0 :: l⟩⟩ : Nat) : Int) = true := by rw [ltI_iff, size_bt]; omega
        have e2 : decide ((0 : Int) ≤ (i : Int)) = true := decide_eq_true (by omega)
        have e3 : decide ((i : Int) < ((ByteArray.size ⟨⟨c0 :: l⟩⟩ : Nat) : Int)) = true := decide_eq_true (by rw [size_bt]; omega)
        have e4 : List.getD (Array.toList (ByteArray.data ⟨⟨c0 :: l⟩⟩)) (Int.toNat (i : Int)) 0 = c := hget 0
        have e5 : fwrap .i64 ((i : Int) + 1) = (i : Int) + 1 := fwrap_i64 (by omega) (by simp only [List.length_cons] at hs hlt; omega)
        simp only [e1, e2, e3, e4, e5, cond_true, Bool.true_and]
        rw [hd] at hi ho
        cases h32 : ltI (c.toNat : Int) 32 with
        | true =>
          simp only [cond_true]
          simp only [qLen, h32, cond_true] at hi
          refine yes_mk ?_
          show finK Tryz.prog Tryz.f85 [] kr ⟨slots 59 [(0, .v (.string ⟨⟨c0 :: l⟩⟩)), (2, .v (.int .i64 0)), (3, .v (.int .i64 i))], []⟩ = true
          rw [f85]
          rw [← hi] at hkr
          exact hkr
        | false =>
          simp only [cond_false]
          simp only [qLen, h32, cond_false] at hi
          simp only [qOk, h32, cond_false] at ho
          cases h34 : decide ((c.toNat : Int) = 34) with
          | true =>
            simp only [cond_true]
            simp only [h34, cond_true] at hi
            refine yes_mk ?_
            show finK Tryz.prog Tryz.f85 [] kr ⟨slots 59 [(0, .v (.string ⟨⟨c0 :: l⟩⟩)), (2, .v (.int .i64 (i + 1))), (3, .v (.int .i64 i))], []⟩ = true
            rw [f85]
            rw [← hi] at hkr
            exact hkr
          | false =>
            simp only [cond_false]
            simp only [h34, cond_false] at hi ho
            cases h92 : decide ((c.toNat : Int) = 92) with
            | true => simp only [h92, cond_true] at ho; cases ho
            | false =>
              simp only [h92, cond_false] at ho
              simp only [cond_false]
              refine yes_mk ⟨⟨i + 1, ?_, ?_⟩, ?_, rfl⟩
              · rw [hdr]; exact hi
              · rw [hdr]; exact ho
              · show (c0 :: l).length - (i + 1) < (c0 :: l).length - i
                omega

end Go.Proofs.YtiaeljbnhdhfcaaGreatDoor

namespace Go.Proofs.YtiaeljbnhdhfcaaGreatDoor
open Go Go.RowKit Go.Lx

theorem run133 (a b : ByteArray) (kr : KR) : evG Tryz.prog G0 1 2 133 [.v (.string a), .v (.string b)] [] kr = (((!decide ((!(ltI (((ByteArray.size a) : Nat) : Int) (((ByteArray.size b) : Nat) : Int))) = Bool.true)) || Bool.true) && (((!decide ((!(ltI (((ByteArray.size a) : Nat) : Int) (((ByteArray.size b) : Nat) : Int))) = Bool.true)) || Bool.true) && (((!decide ((!(ltI (((ByteArray.size a) : Nat) : Int) (((ByteArray.size b) : Nat) : Int))) = Bool.true)) || ((!decide ((!(ltI (((ByteArray.size a) : Nat) : Int) (((ByteArray.size b) : Nat) : Int))) = Bool.true)) || decide ((!(ltI (((ByteArray.size a) : Nat) : Int) (((ByteArray.size b) : Nat) : Int))) = Bool.true))) && (((!decide ((!(ltI (((ByteArray.size a) : Nat) : Int) (((ByteArray.size b) : Nat) : Int))) = Bool.true)) || (((((!decide ((!(ltI (((ByteArray.size a) : Nat) : Int) (((ByteArray.size b) : Nat) : Int))) = Bool.true)) || decide ((!(ltI (((ByteArray.size a) : Nat) : Int) (((ByteArray.size b) : Nat) : Int))) = Bool.true)) && Bool.true) && ((!decide ((!(ltI (((ByteArray.size a) : Nat) : Int) (((ByteArray.size b) : Nat) : Int))) = Bool.true)) || decide ((!(ltI (((ByteArray.size a) : Nat) : Int) (((ByteArray.size b) : Nat) : Int))) = Bool.true))) && decide ((((ByteArray.size b) : Nat) : Int) ≤ (((ByteArray.size a) : Nat) : Int)))) && (((!decide ((!(ltI (((ByteArray.size a) : Nat) : Int) (((ByteArray.size b) : Nat) : Int))) = Bool.true)) || Bool.true) && (((!decide ((!(ltI (((ByteArray.size a) : Nat) : Int) (((ByteArray.size b) : Nat) : Int))) = Bool.true)) || ((((!decide ((!(ltI (((ByteArray.size a) : Nat) : Int) (((ByteArray.size b) : Nat) : Int))) = Bool.true)) || decide ((!(ltI (((ByteArray.size a) : Nat) : Int) (((ByteArray.size b) : Nat) : Int))) = Bool.true)) && ((!decide ((!(ltI (((ByteArray.size a) : Nat) : Int) (((ByteArray.size b) : Nat) : Int))) = Bool.true)) || decide ((!(ltI (((ByteArray.size a) : Nat) : Int) (((ByteArray.size b) : Nat) : Int))) = Bool.true))) && Bool.true)) && ((((!(!(ltI (((ByteArray.size a) : Nat) : Int) (((ByteArray.size b) : Nat) : Int)))) || decide ((!(ltI (((ByteArray.size a) : Nat) : Int) (((ByteArray.size b) : Nat) : Int))) = Bool.true)) && Bool.true) && kr (HR.ret (HV.v (Value.bool ((!(ltI (((ByteArray.size a) : Nat) : Int) (((ByteArray.size b) : Nat) : Int))) && (beqS (bsub a 0 (Int.toNat (((ByteArray.size b) : Nat) : Int))) b))))) []))))))) := by kernel_rfl

/-- Does a text begin with another? -/
def prefL : List UInt8 → List UInt8 → Bool
  | [], _ => true
  | _ :: _, [] => false
  | c :: p, d :: l => c == d && prefL p l

theorem prefL_iff : ∀ (p l : List UInt8), prefL p l = (decide (p.length ≤ l.length) && (l.take p.length == p))
  | [], l => by simp [prefL]
  | c :: p, [] => by simp [prefL]
  | c :: p, d :: l => by
    simp only [prefL, prefL_iff p l, List.length_cons, List.take_succ_cons, List.cons_beq_cons, Nat.add_le_add_iff_right]
    cases h : decide (p.length ≤ l.length) <;> cases h2 : (l.take p.length == p) <;> cases h3 : (c == d) <;> cases h4 : (d == c) <;> simp_all

theorem bsize (a : ByteArray) : a.size = a.data.toList.length := by cases a; simp [ByteArray.size]

theorem do133 (a b : ByteArray) (H : World → Prop) : PureDo Tryz.prog H 133 [.v (.string a), .v (.string b)] (.v (.bool (prefL b.data.toList a.data.toList))) := by
  intro w0 kr _ hkr
  refine evG_sound progOK catches (gamOK0 w0) 1 2 133 _ [] kr ?_
  rw [run133]
  have hp := prefL_iff b.data.toList a.data.toList
  cases h : ltI ((a.size : Nat) : Int) ((b.size : Nat) : Int) with
  | true =>
    have : ¬ b.data.toList.length ≤ a.data.toList.length := by rw [ltI_iff, bsize, bsize] at h; omega
    rw [hp, decide_eq_false this] at hkr
    simpa using hkr
  | false =>
    have h1 : b.data.toList.length ≤ a.data.toList.length := by
      rcases Nat.lt_or_ge a.data.toList.length b.data.toList.length with h2 | h2
      · have : ltI ((a.size : Nat) : Int) ((b.size : Nat) : Int) = true := by rw [ltI_iff, bsize, bsize]; omega
        rw [h] at this; cases this
      · exact h2
    have h3 : decide (((b.size : Nat) : Int) ≤ ((a.size : Nat) : Int)) = true := decide_eq_true (by rw [bsize, bsize]; omega)
    have h4 : beqS (bsub a 0 (Int.toNat ((b.size : Nat) : Int))) b = (a.data.toList.take b.data.toList.length == b.data.toList) := by
      unfold beqS bsub; rw [bsize]; simp
    rw [hp, decide_eq_true h1, Bool.true_and] at hkr
    simp only [h3, h4]
    simpa using hkr

end Go.Proofs.YtiaeljbnhdhfcaaGreatDoor

namespace Go.Proofs.YtiaeljbnhdhfcaaGreatDoor
open Go Go.RowKit Go.Lx

/-- The texts so far: skip, quoted. -/
def pure7 (f : FuncId) (args : List HV) : Option (Bool × HV) :=
  bif Nat.beq f 83 then (match args with | [.v (.string a)] => some (true, .v (.string ⟨⟨skipL a.data.toList⟩⟩)) | _ => none)
  else bif Nat.beq f 85 then (match args with | [.v (.string a)] => some (decide (a.size < 4611686018427387904) && quotedOk a.data.toList, .v (.int .i64 (quotedLen a.data.toList))) | _ => none)
  else bif Nat.beq f 133 then (match args with | [.v (.string a), .v (.string b)] => some (true, .v (.bool (prefL b.data.toList a.data.toList))) | _ => none)
  else libPure f args

noncomputable def G7 : Gam := cutG ⟨pure7, libLoud Tryz.prog⟩ [135, 90]

theorem bt_eta (a : ByteArray) : (⟨⟨a.data.toList⟩⟩ : ByteArray) = a := rfl

theorem gamOK7 {w0 : World} (h0 : H4 w0) : GamOK Tryz.prog w0 G7 := by
  refine cutG_ok ⟨fun f args r h => ?_, lib_loud⟩ [135, 90]
  replace h : pure7 f args = some r := h
  unfold pure7 at h
  cases h1 : Nat.beq f 83 with
  | true =>
    rw [h1, cond_true] at h
    have := Nat.eq_of_beq_eq_true h1; subst this
    split at h
    · rename_i a
      cases h
      have := pureAns lasts4 (do83 a.data.toList H4) rfl rfl h0
      exact clause this.1 fun _ => this
    · cases h
  | false =>
  rw [h1, cond_false] at h
  cases h2 : Nat.beq f 85 with
  | true =>
    rw [h2, cond_true] at h
    have := Nat.eq_of_beq_eq_true h2; subst this
    split at h
    · rename_i a
      cases h
      refine clause ⟨_, Tryz.func85, rfl⟩ fun hh => ?_
      simp only [Bool.and_eq_true, decide_eq_true_eq] at hh
      exact pureAns lasts4 (do85 a.data.toList (by have := hh.1; rw [← bt_eta a, size_bt] at this; exact this) hh.2 H4) rfl rfl h0
    · cases h
  | false =>
  rw [h2, cond_false] at h
  cases h3 : Nat.beq f 133 with
  | true =>
    rw [h3, cond_true] at h
    have := Nat.eq_of_beq_eq_true h3; subst this
    split at h
    · rename_i a b
      cases h
      have := pureAns lasts4 (do133 a b H4) rfl rfl h0
      exact clause this.1 fun _ => this
    · cases h
  | false =>
  rw [h3, cond_false] at h
  exact lib_pure h0 (G1 Tryz.prog) rfl f args r h

theorem run84q (l : List UInt8) (kr : KR) : evG Tryz.prog G7 9 3 84 [tx (34 :: l)] [] kr = (decide (0 < (((ByteArray.size (ByteArray.mk (Array.mk (34 :: l)))) : Nat) : Int)) && ((decide ((ByteArray.size (ByteArray.mk (Array.mk (34 :: l)))) < 4611686018427387904) && (quotedOk (34 :: l))) && kr (HR.ret (HV.v (Value.int IntKind.i64 (quotedLen (34 :: l))))) [])) := by kernel_rfl
end Go.Proofs.YtiaeljbnhdhfcaaGreatDoor

namespace Go.Proofs.YtiaeljbnhdhfcaaGreatDoor
open Go Go.RowKit Go.Lx

def isQuote : List UInt8 → Bool
  | [] => false
  | c :: _ => c == 34

def skipF (args : List HV) (L : List Ob) : Option (KR → Bool) := match args with
  | [.v (.string a)] => some (fun kr => fork (skipL a.data.toList) (kr (.ret (tx [])) L) (fun c r => kr (.ret (tx (c :: r))) L))
  | _ => none
def scalarP (args : List HV) : Option (Bool × HV) := match args with
  | [.v (.string a)] => some (decide (a.size < 4611686018427387904) && isQuote a.data.toList && quotedOk a.data.toList, .v (.int .i64 (quotedLen a.data.toList)))
  | _ => none
def quotedP (args : List HV) : Option (Bool × HV) := match args with
  | [.v (.string a)] => some (decide (a.size < 4611686018427387904) && quotedOk a.data.toList, .v (.int .i64 (quotedLen a.data.toList)))
  | _ => none
def prefP (args : List HV) : Option (Bool × HV) := match args with
  | [.v (.string a), .v (.string b)] => some (true, .v (.bool (prefL b.data.toList a.data.toList)))
  | _ => none

noncomputable def G8 : Gam := addL 83 skipF (addP 84 scalarP (addP 85 quotedP (addP 133 prefP (cutG (G1 Tryz.prog) [135, 90]))))

theorem gamOK8 {w0 : World} (h0 : H4 w0) : GamOK Tryz.prog w0 G8 := by
  refine addL_ok (addP_ok (addP_ok (addP_ok (cutG_ok (G := G1 Tryz.prog) ⟨lib_pure h0 (G1 Tryz.prog) rfl, lib_loud⟩ [135, 90]) ⟨_, Tryz.func133, rfl⟩ ?_) ⟨_, Tryz.func85, rfl⟩ ?_) ⟨_, Tryz.func84, rfl⟩ ?_) ?_
  · intro args r h _
    unfold prefP at h
    split at h
    · cases h; exact pureAns lasts4 (do133 _ _ H4) rfl rfl h0
    · cases h
  · intro args r h h1
    unfold quotedP at h
    split at h
    · rename_i a
      cases h
      simp only [Bool.and_eq_true, decide_eq_true_eq] at h1
      exact pureAns lasts4 (do85 a.data.toList (by have := h1.1; rw [← bt_eta a, size_bt] at this; exact this) h1.2 H4) rfl rfl h0
    · cases h
  · intro args r h h1
    unfold scalarP at h
    split at h
    · rename_i a
      cases h
      simp only [Bool.and_eq_true, decide_eq_true_eq] at h1
      obtain ⟨⟨h1, h2⟩, h3⟩ := h1
      refine pureAns lasts4 (fun w0 kr h0 hkr => ?_) rfl rfl h0
      refine evG_sound progOK catches (gamOK7 h0) 9 3 84 _ [] kr ?_
      obtain ⟨⟨l⟩⟩ := a
      cases l with
      | nil => cases h2
      | cons c l =>
        have : c = 34 := by simpa [isQuote] using h2
        subst this
        refine (run84q l kr).trans ?_
        have e1 : decide (0 < ((ByteArray.size ⟨⟨34 :: l⟩⟩ : Nat) : Int)) = true := decide_eq_true (by rw [size_bt, List.length_cons]; omega)
        have h3' : quotedOk (34 :: l) = true := h3
        rw [e1, decide_eq_true h1, h3']
        simpa using hkr
    · cases h
  · intro args L F kr h hk
    unfold skipF at h
    split at h
    · rename_i a
      cases h
      refine fork_does hk (fun hs ha => ?_) (fun c r hs hb => ?_)
      · have := pureAns lasts4 (do83 a.data.toList H4) rfl rfl h0
        rw [hs] at this
        exact does_pure this ha
      · have := pureAns lasts4 (do83 a.data.toList H4) rfl rfl h0
        rw [hs] at this
        exact does_pure this hb
    · cases h

/-- The state at a label: what is left, the stack, how deep. -/
def st42 (s : List UInt8) (xs : List Int) (n : Nat) (d : Int) : St := ⟨slots 110 [(0, tx s), (2, .v (.int .i64 0)), (3, .v (.bool false)), (4, .own (.int .u8) 0 0 n), (5, .v (.int .i64 d))], [.row (.int .u8) 0 0 xs]⟩

theorem a42 (s : List UInt8) (k : KX) : evd G8 1 (pc 42 [0]) ⟨argT 0 [tx s] ⟨110, .nil⟩, []⟩ (fun x st => k x (st.keep [0, 2, 3])) = k HX.normal ⟨slots 110 [(0, (HV.v (Value.string (ByteArray.mk (Array.mk s))))), (2, (HV.v (Value.int IntKind.i64 0))), (3, (HV.v (Value.bool Bool.false)))], []⟩ := by kernel_rfl
theorem a42b (s : List UInt8) (k : KX) : evd G8 1 (pc 42 [1, 0, 0]) ⟨slots 110 [(0, tx s), (2, .v (.int .i64 0)), (3, .v (.bool false))], []⟩ (fun x st => k x (st.keep [0, 2, 3, 4])) = k HX.normal ⟨slots 110 [(0, (HV.v (Value.string (ByteArray.mk (Array.mk s))))), (2, (HV.v (Value.int IntKind.i64 0))), (3, (HV.v (Value.bool Bool.false))), (4, (HV.v (Value.slice Option.none 0 0)))], []⟩ := by kernel_rfl
theorem a42c (s : List UInt8) (k : KX) : evd G8 1 (pc 42 [1, 0, 1, 0]) ⟨slots 110 [(0, tx s), (2, .v (.int .i64 0)), (3, .v (.bool false)), (4, .v (.slice none 0 0))], []⟩ (fun x st => k x (st.keep [0, 2, 3, 4, 5])) = k HX.normal ⟨slots 110 [(0, (HV.v (Value.string (ByteArray.mk (Array.mk s))))), (2, (HV.v (Value.int IntKind.i64 0))), (3, (HV.v (Value.bool Bool.false))), (4, (HV.v (Value.slice Option.none 0 0))), (5, (HV.v (Value.int IntKind.i64 0)))], []⟩ := by kernel_rfl
theorem a42d (s : List UInt8) (k : KX) : evd G8 1 (pc 42 [1, 0, 1, 1, 0]) ⟨slots 110 [(0, tx s), (2, .v (.int .i64 0)), (3, .v (.bool false)), (4, .v (.slice none 0 0)), (5, .v (.int .i64 0))], []⟩ (fun x st => k x (st.keep [0, 2, 3, 4, 5])) = k HX.normal ⟨slots 110 [(0, (HV.v (Value.string (ByteArray.mk (Array.mk s))))), (2, (HV.v (Value.int IntKind.i64 0))), (3, (HV.v (Value.bool Bool.false))), (4, (HV.v (Value.slice Option.none 0 0))), (5, (HV.v (Value.int IntKind.i64 0)))], []⟩ := by kernel_rfl
theorem v42a (s : List UInt8) (xs : List Int) (n : Nat) (d : Int) (k : KX) : evd G8 1 (pc 42 [1, 0, 1, 1, 1, 1, 0]) (st42 s xs n d) (fun x st => k x (st.keep [0, 2, 3, 4, 5])) = (fork (skipL s) (k HX.normal ⟨slots 110 [(0, (HV.v (Value.string (ByteArray.mk (Array.mk []))))), (2, (HV.v (Value.int IntKind.i64 0))), (3, (HV.v (Value.bool Bool.false))), (4, (HV.own (Cd.int IntKind.u8) 0 0 n)), (5, (HV.v (Value.int IntKind.i64 d)))], [(Ob.row (Cd.int IntKind.u8) 0 0 xs)]⟩) (fun c0 r0 => k HX.normal ⟨slots 110 [(0, (HV.v (Value.string (ByteArray.mk (Array.mk (c0 :: r0)))))), (2, (HV.v (Value.int IntKind.i64 0))), (3, (HV.v (Value.bool Bool.false))), (4, (HV.own (Cd.int IntKind.u8) 0 0 n)), (5, (HV.v (Value.int IntKind.i64 d)))], [(Ob.row (Cd.int IntKind.u8) 0 0 xs)]⟩)) := by kernel_rfl
theorem v42z (xs : List Int) (n : Nat) (d : Int) (k : KX) : evd G8 1 (pc 42 [1, 0, 1, 1, 1, 1, 1, 0]) (st42 [] xs n d) (fun x st => k x (st.keep [0, 2, 3, 4, 5])) = k HX.ret ⟨slots 110 [(0, (HV.v (Value.string (ByteArray.mk (Array.mk []))))), (2, (HV.v (Value.int IntKind.i64 0))), (3, (HV.v (Value.bool Bool.false))), (4, (HV.own (Cd.int IntKind.u8) 0 0 n)), (5, (HV.v (Value.int IntKind.i64 d)))], [(Ob.row (Cd.int IntKind.u8) 0 0 xs)]⟩ := by kernel_rfl
theorem v42c (c : UInt8) (s : List UInt8) (xs : List Int) (n : Nat) (d : Int) (k : KX) : evd G8 1 (pc 42 [1, 0, 1, 1, 1, 1, 1, 0]) (st42 (c :: s) xs n d) (fun x st => k x (st.keep [0, 2, 3, 4, 5])) = k HX.normal ⟨slots 110 [(0, (HV.v (Value.string (ByteArray.mk (Array.mk (c :: s)))))), (2, (HV.v (Value.int IntKind.i64 0))), (3, (HV.v (Value.bool Bool.false))), (4, (HV.own (Cd.int IntKind.u8) 0 0 n)), (5, (HV.v (Value.int IntKind.i64 d)))], [(Ob.row (Cd.int IntKind.u8) 0 0 xs)]⟩ := by kernel_rfl
theorem v42b1 (s : List UInt8) (xs : List Int) (n : Nat) (d : Int) (k : KX) : evd G8 1 (pc 42 [1, 0, 1, 1, 1, 1, 1, 1, 0]) (st42 (91 :: s) xs n d) (fun x st => k x (st.keep [0, 2, 3, 4, 5])) = ((decide (0 < (((ByteArray.size (ByteArray.mk (Array.mk (91 :: s)))) : Nat) : Int))) && ((decide (0 < (((ByteArray.size (ByteArray.mk (Array.mk (91 :: s)))) : Nat) : Int))) && ((((decide (n ≤ (List.length xs))) && Bool.true) && (decide (((n + 1) * 1) ≤ 140737488355328))) && ((decide (0 < (((ByteArray.size (ByteArray.mk (Array.mk (91 :: s)))) : Nat) : Int))) && (((decide (1 ≤ (((ByteArray.size (ByteArray.mk (Array.mk (91 :: s)))) : Nat) : Int))) && (decide ((((ByteArray.size (ByteArray.mk (Array.mk (91 :: s)))) : Nat) : Int) ≤ (((ByteArray.size (ByteArray.mk (Array.mk (91 :: s)))) : Nat) : Int)))) && (fork (skipL s) (k (HX.goto 0) ⟨slots 110 [(0, (HV.v (Value.string (ByteArray.mk (Array.mk []))))), (2, (HV.v (Value.int IntKind.i64 0))), (3, (HV.v (Value.bool Bool.false))), (4, (HV.own (Cd.int IntKind.u8) 0 1 (n + 1))), (5, (HV.v (Value.int IntKind.i64 (if ((((n + 1) : Nat) : Int) > d) then (((n + 1) : Nat) : Int) else d))))], [(Ob.row (Cd.int IntKind.u8) 1 0 ((List.take n xs) ++ [91]))]⟩) (fun c242 r242 => ((decide (0 < (((ByteArray.size (ByteArray.mk (Array.mk (c242 :: r242)))) : Nat) : Int))) && (bif (decide ((((UInt8.toNat c242) : Nat) : Int) = 93)) then k (HX.goto 1) ⟨slots 110 [(0, (HV.v (Value.string (ByteArray.mk (Array.mk (c242 :: r242)))))), (2, (HV.v (Value.int IntKind.i64 0))), (3, (HV.v (Value.bool Bool.false))), (4, (HV.own (Cd.int IntKind.u8) 0 1 (n + 1))), (5, (HV.v (Value.int IntKind.i64 (if ((((n + 1) : Nat) : Int) > d) then (((n + 1) : Nat) : Int) else d))))], [(Ob.row (Cd.int IntKind.u8) 1 0 ((List.take n xs) ++ [91]))]⟩ else k (HX.goto 0) ⟨slots 110 [(0, (HV.v (Value.string (ByteArray.mk (Array.mk (c242 :: r242)))))), (2, (HV.v (Value.int IntKind.i64 0))), (3, (HV.v (Value.bool Bool.false))), (4, (HV.own (Cd.int IntKind.u8) 0 1 (n + 1))), (5, (HV.v (Value.int IntKind.i64 (if ((((n + 1) : Nat) : Int) > d) then (((n + 1) : Nat) : Int) else d))))], [(Ob.row (Cd.int IntKind.u8) 1 0 ((List.take n xs) ++ [91]))]⟩))))))))) := by kernel_rfl
theorem v42b2 (s : List UInt8) (xs : List Int) (n : Nat) (d : Int) (k : KX) : evd G8 1 (pc 42 [1, 0, 1, 1, 1, 1, 1, 1, 0]) (st42 (123 :: s) xs n d) (fun x st => k x (st.keep [0, 2, 3, 4, 5])) = ((decide (0 < (((ByteArray.size (ByteArray.mk (Array.mk (123 :: s)))) : Nat) : Int))) && ((decide (0 < (((ByteArray.size (ByteArray.mk (Array.mk (123 :: s)))) : Nat) : Int))) && ((((decide (n ≤ (List.length xs))) && Bool.true) && (decide (((n + 1) * 1) ≤ 140737488355328))) && ((decide (0 < (((ByteArray.size (ByteArray.mk (Array.mk (123 :: s)))) : Nat) : Int))) && (((decide (1 ≤ (((ByteArray.size (ByteArray.mk (Array.mk (123 :: s)))) : Nat) : Int))) && (decide ((((ByteArray.size (ByteArray.mk (Array.mk (123 :: s)))) : Nat) : Int) ≤ (((ByteArray.size (ByteArray.mk (Array.mk (123 :: s)))) : Nat) : Int)))) && (fork (skipL s) (k (HX.goto 2) ⟨slots 110 [(0, (HV.v (Value.string (ByteArray.mk (Array.mk []))))), (2, (HV.v (Value.int IntKind.i64 0))), (3, (HV.v (Value.bool Bool.false))), (4, (HV.own (Cd.int IntKind.u8) 0 1 (n + 1))), (5, (HV.v (Value.int IntKind.i64 (if ((((n + 1) : Nat) : Int) > d) then (((n + 1) : Nat) : Int) else d))))], [(Ob.row (Cd.int IntKind.u8) 1 0 ((List.take n xs) ++ [123]))]⟩) (fun c242 r242 => ((decide (0 < (((ByteArray.size (ByteArray.mk (Array.mk (c242 :: r242)))) : Nat) : Int))) && (bif (decide ((((UInt8.toNat c242) : Nat) : Int) = 125)) then k (HX.goto 1) ⟨slots 110 [(0, (HV.v (Value.string (ByteArray.mk (Array.mk (c242 :: r242)))))), (2, (HV.v (Value.int IntKind.i64 0))), (3, (HV.v (Value.bool Bool.false))), (4, (HV.own (Cd.int IntKind.u8) 0 1 (n + 1))), (5, (HV.v (Value.int IntKind.i64 (if ((((n + 1) : Nat) : Int) > d) then (((n + 1) : Nat) : Int) else d))))], [(Ob.row (Cd.int IntKind.u8) 1 0 ((List.take n xs) ++ [123]))]⟩ else k (HX.goto 2) ⟨slots 110 [(0, (HV.v (Value.string (ByteArray.mk (Array.mk (c242 :: r242)))))), (2, (HV.v (Value.int IntKind.i64 0))), (3, (HV.v (Value.bool Bool.false))), (4, (HV.own (Cd.int IntKind.u8) 0 1 (n + 1))), (5, (HV.v (Value.int IntKind.i64 (if ((((n + 1) : Nat) : Int) > d) then (((n + 1) : Nat) : Int) else d))))], [(Ob.row (Cd.int IntKind.u8) 1 0 ((List.take n xs) ++ [123]))]⟩))))))))) := by kernel_rfl
theorem v42b3 (s : List UInt8) (xs : List Int) (n : Nat) (d : Int) (k : KX) : evd G8 1 (pc 42 [1, 0, 1, 1, 1, 1, 1, 1, 0]) (st42 (34 :: s) xs n d) (fun x st => k x (st.keep [0, 2, 3, 4, 5])) = ((decide (0 < (((ByteArray.size (ByteArray.mk (Array.mk (34 :: s)))) : Nat) : Int))) && k HX.normal ⟨slots 110 [(0, (HV.v (Value.string (ByteArray.mk (Array.mk (34 :: s)))))), (2, (HV.v (Value.int IntKind.i64 0))), (3, (HV.v (Value.bool Bool.false))), (4, (HV.own (Cd.int IntKind.u8) 0 0 n)), (5, (HV.v (Value.int IntKind.i64 d)))], [(Ob.row (Cd.int IntKind.u8) 0 0 xs)]⟩) := by kernel_rfl
theorem v42s (s : List UInt8) (xs : List Int) (n : Nat) (d : Int) (k : KX) : evd G8 1 (.seq (pc 42 [1, 0, 1, 1, 1, 1, 1, 1, 1, 0, 0]) (pc 42 [1, 0, 1, 1, 1, 1, 1, 1, 1, 0, 1])) (st42 (34 :: s) xs n d) (fun x st => k x (st.keep [0, 2, 3, 4, 5, 6])) = ((((decide ((ByteArray.size (ByteArray.mk (Array.mk (34 :: s)))) < 4611686018427387904)) && Bool.true) && (quotedOk (34 :: s))) && (bif (decide ((quotedLen (34 :: s)) = 0)) then k HX.ret ⟨slots 110 [(0, (HV.v (Value.string (ByteArray.mk (Array.mk (34 :: s)))))), (2, (HV.v (Value.int IntKind.i64 0))), (3, (HV.v (Value.bool Bool.false))), (4, (HV.own (Cd.int IntKind.u8) 0 0 n)), (5, (HV.v (Value.int IntKind.i64 d))), (6, (HV.v (Value.int IntKind.i64 (quotedLen (34 :: s)))))], [(Ob.row (Cd.int IntKind.u8) 0 0 xs)]⟩ else k HX.normal ⟨slots 110 [(0, (HV.v (Value.string (ByteArray.mk (Array.mk (34 :: s)))))), (2, (HV.v (Value.int IntKind.i64 0))), (3, (HV.v (Value.bool Bool.false))), (4, (HV.own (Cd.int IntKind.u8) 0 0 n)), (5, (HV.v (Value.int IntKind.i64 d))), (6, (HV.v (Value.int IntKind.i64 (quotedLen (34 :: s)))))], [(Ob.row (Cd.int IntKind.u8) 0 0 xs)]⟩)) := by kernel_rfl
theorem v42t (s : List UInt8) (xs : List Int) (n : Nat) (d m : Int) (k : KX) : evd G8 1 (pc 42 [1, 0, 1, 1, 1, 1, 1, 1, 1, 1, 0]) ⟨slots 110 [(0, tx s), (2, .v (.int .i64 0)), (3, .v (.bool false)), (4, .own (.int .u8) 0 0 n), (5, .v (.int .i64 d)), (6, .v (.int .i64 m))], [.row (.int .u8) 0 0 xs]⟩ (fun x st => k x (st.keep [0, 2, 3, 4, 5])) = ((((decide (0 ≤ m)) && (decide (m ≤ (((ByteArray.size (ByteArray.mk (Array.mk s))) : Nat) : Int)))) && (decide ((((ByteArray.size (ByteArray.mk (Array.mk s))) : Nat) : Int) ≤ (((ByteArray.size (ByteArray.mk (Array.mk s))) : Nat) : Int)))) && k HX.normal ⟨slots 110 [(0, (HV.v (Value.string (ByteArray.mk (Array.mk (List.drop (Int.toNat m) s)))))), (2, (HV.v (Value.int IntKind.i64 0))), (3, (HV.v (Value.bool Bool.false))), (4, (HV.own (Cd.int IntKind.u8) 0 0 n)), (5, (HV.v (Value.int IntKind.i64 d)))], [(Ob.row (Cd.int IntKind.u8) 0 0 xs)]⟩) := by kernel_rfl
theorem c42 (c : UInt8) (s : List UInt8) (xs : List Int) (n : Nat) (d : Int) (k : KX) : evd G8 1 (pc 42 [1, 0, 1, 1, 1, 1, 1, 1, 1, 1, 1, 1, 1, 1, 1, 1, 1, 1, 1, 1, 1, 1, 1, 1, 1]) (st42 (c :: s) xs (n + 1) d) (fun x st => k x (st.keep [0, 2, 3, 4, 5])) = (((decide (0 ≤ (fwrap IntKind.i64 ((((n + 1) : Nat) : Int) - 1)))) && (decide ((fwrap IntKind.i64 ((((n + 1) : Nat) : Int) - 1)) ≤ (((n + 1) : Nat) : Int)))) && (((decide (1 ≤ (((ByteArray.size (ByteArray.mk (Array.mk (c :: s)))) : Nat) : Int))) && (decide ((((ByteArray.size (ByteArray.mk (Array.mk (c :: s)))) : Nat) : Int) ≤ (((ByteArray.size (ByteArray.mk (Array.mk (c :: s)))) : Nat) : Int)))) && k (HX.goto 3) ⟨slots 110 [(0, (HV.v (Value.string (ByteArray.mk (Array.mk s))))), (2, (HV.v (Value.int IntKind.i64 0))), (3, (HV.v (Value.bool Bool.false))), (4, (HV.own (Cd.int IntKind.u8) 0 0 (Int.toNat (fwrap IntKind.i64 ((((n + 1) : Nat) : Int) - 1))))), (5, (HV.v (Value.int IntKind.i64 d)))], [(Ob.row (Cd.int IntKind.u8) 0 0 xs)]⟩)) := by kernel_rfl
theorem n42 (s : List UInt8) (xs : List Int) (n : Nat) (d : Int) (k : KX) : evd G8 1 (pc 42 [1, 0, 1, 1, 1, 1, 1, 1, 1, 1, 1, 1, 1, 1, 1, 1, 1, 1]) (st42 s xs n d) (fun x st => k x (st.keep [0, 2, 3, 4, 5])) = (fork (skipL s) (k HX.ret ⟨slots 110 [(0, (HV.v (Value.string (ByteArray.mk (Array.mk []))))), (2, (HV.v (Value.int IntKind.i64 0))), (3, (HV.v (Value.bool Bool.false))), (4, (HV.own (Cd.int IntKind.u8) 0 0 n)), (5, (HV.v (Value.int IntKind.i64 d)))], [(Ob.row (Cd.int IntKind.u8) 0 0 xs)]⟩) (fun c0 r0 => (((decide ((ByteArray.size (ByteArray.mk (Array.mk (c0 :: r0)))) < 4611686018427387904)) && (quotedOk (c0 :: r0))) && (bif (decide ((quotedLen (c0 :: r0)) = 0)) then k HX.ret ⟨slots 110 [(0, (HV.v (Value.string (ByteArray.mk (Array.mk (c0 :: r0)))))), (2, (HV.v (Value.int IntKind.i64 0))), (3, (HV.v (Value.bool Bool.false))), (4, (HV.own (Cd.int IntKind.u8) 0 0 n)), (5, (HV.v (Value.int IntKind.i64 d)))], [(Ob.row (Cd.int IntKind.u8) 0 0 xs)]⟩ else ((((decide (0 ≤ (quotedLen (c0 :: r0)))) && (decide ((quotedLen (c0 :: r0)) ≤ (((ByteArray.size (ByteArray.mk (Array.mk (c0 :: r0)))) : Nat) : Int)))) && (decide ((((ByteArray.size (ByteArray.mk (Array.mk (c0 :: r0)))) : Nat) : Int) ≤ (((ByteArray.size (ByteArray.mk (Array.mk (c0 :: r0)))) : Nat) : Int)))) && (fork (skipL (List.drop (Int.toNat (quotedLen (c0 :: r0))) (c0 :: r0))) (k HX.ret ⟨slots 110 [(0, (HV.v (Value.string (ByteArray.mk (Array.mk []))))), (2, (HV.v (Value.int IntKind.i64 0))), (3, (HV.v (Value.bool Bool.false))), (4, (HV.own (Cd.int IntKind.u8) 0 0 n)), (5, (HV.v (Value.int IntKind.i64 d)))], [(Ob.row (Cd.int IntKind.u8) 0 0 xs)]⟩) (fun c9 r9 => ((decide (0 < (((ByteArray.size (ByteArray.mk (Array.mk (c9 :: r9)))) : Nat) : Int))) && (bif (!(decide ((((UInt8.toNat c9) : Nat) : Int) = 58))) then k HX.ret ⟨slots 110 [(0, (HV.v (Value.string (ByteArray.mk (Array.mk (c9 :: r9)))))), (2, (HV.v (Value.int IntKind.i64 0))), (3, (HV.v (Value.bool Bool.false))), (4, (HV.own (Cd.int IntKind.u8) 0 0 n)), (5, (HV.v (Value.int IntKind.i64 d)))], [(Ob.row (Cd.int IntKind.u8) 0 0 xs)]⟩ else (((decide (1 ≤ (((ByteArray.size (ByteArray.mk (Array.mk (c9 :: r9)))) : Nat) : Int))) && (decide ((((ByteArray.size (ByteArray.mk (Array.mk (c9 :: r9)))) : Nat) : Int) ≤ (((ByteArray.size (ByteArray.mk (Array.mk (c9 :: r9)))) : Nat) : Int)))) && k (HX.goto 0) ⟨slots 110 [(0, (HV.v (Value.string (ByteArray.mk (Array.mk r9))))), (2, (HV.v (Value.int IntKind.i64 0))), (3, (HV.v (Value.bool Bool.false))), (4, (HV.own (Cd.int IntKind.u8) 0 0 n)), (5, (HV.v (Value.int IntKind.i64 d)))], [(Ob.row (Cd.int IntKind.u8) 0 0 xs)]⟩)))))))))) := by kernel_rfl
theorem b42z (s : List UInt8) (xs : List Int) (d : Int) (k : KX) : evd G8 1 (pc 42 [1, 0, 1, 1, 1, 1, 1, 1, 1, 1, 1, 1]) (st42 s xs 0 d) (fun x st => k x (st.keep [0, 2, 3, 4, 5])) = (fork (skipL s) (k HX.ret ⟨slots 110 [(0, (HV.v (Value.string (ByteArray.mk (Array.mk []))))), (2, (HV.v (Value.int IntKind.i64 d))), (3, (HV.v (Value.bool Bool.true))), (4, (HV.own (Cd.int IntKind.u8) 0 0 0)), (5, (HV.v (Value.int IntKind.i64 d)))], [(Ob.row (Cd.int IntKind.u8) 0 0 xs)]⟩) (fun c0 r0 => k HX.ret ⟨slots 110 [(0, (HV.v (Value.string (ByteArray.mk (Array.mk (c0 :: r0)))))), (2, (HV.v (Value.int IntKind.i64 d))), (3, (HV.v (Value.bool Bool.false))), (4, (HV.own (Cd.int IntKind.u8) 0 0 0)), (5, (HV.v (Value.int IntKind.i64 d)))], [(Ob.row (Cd.int IntKind.u8) 0 0 xs)]⟩)) := by kernel_rfl
theorem b42a (s : List UInt8) (xs : List Int) (n : Nat) (d : Int) (k : KX) : evd G8 1 (pc 42 [1, 0, 1, 1, 1, 1, 1, 1, 1, 1, 1, 1, 0]) (st42 s xs n d) (fun x st => k x (st.keep [0, 2, 3, 4, 5])) = (fork (skipL s) (k HX.normal ⟨slots 110 [(0, (HV.v (Value.string (ByteArray.mk (Array.mk []))))), (2, (HV.v (Value.int IntKind.i64 0))), (3, (HV.v (Value.bool Bool.false))), (4, (HV.own (Cd.int IntKind.u8) 0 0 n)), (5, (HV.v (Value.int IntKind.i64 d)))], [(Ob.row (Cd.int IntKind.u8) 0 0 xs)]⟩) (fun c0 r0 => k HX.normal ⟨slots 110 [(0, (HV.v (Value.string (ByteArray.mk (Array.mk (c0 :: r0)))))), (2, (HV.v (Value.int IntKind.i64 0))), (3, (HV.v (Value.bool Bool.false))), (4, (HV.own (Cd.int IntKind.u8) 0 0 n)), (5, (HV.v (Value.int IntKind.i64 d)))], [(Ob.row (Cd.int IntKind.u8) 0 0 xs)]⟩)) := by kernel_rfl
theorem b42a2 (s : List UInt8) (xs : List Int) (n : Nat) (d : Int) (k : KX) : evd G8 1 (pc 42 [1, 0, 1, 1, 1, 1, 1, 1, 1, 1, 1, 1, 1, 0]) (st42 s xs (n + 1) d) (fun x st => k x (st.keep [0, 2, 3, 4, 5])) = k HX.normal ⟨slots 110 [(0, (HV.v (Value.string (ByteArray.mk (Array.mk s))))), (2, (HV.v (Value.int IntKind.i64 0))), (3, (HV.v (Value.bool Bool.false))), (4, (HV.own (Cd.int IntKind.u8) 0 0 (n + 1))), (5, (HV.v (Value.int IntKind.i64 d)))], [(Ob.row (Cd.int IntKind.u8) 0 0 xs)]⟩ := by kernel_rfl
theorem b42n (xs : List Int) (n : Nat) (d : Int) (k : KX) : evd G8 1 (pc 42 [1, 0, 1, 1, 1, 1, 1, 1, 1, 1, 1, 1, 1, 1, 0]) (st42 [] xs (n + 1) d) (fun x st => k x (st.keep [0, 2, 3, 4, 5])) = k HX.ret ⟨slots 110 [(0, (HV.v (Value.string (ByteArray.mk (Array.mk []))))), (2, (HV.v (Value.int IntKind.i64 0))), (3, (HV.v (Value.bool Bool.false))), (4, (HV.own (Cd.int IntKind.u8) 0 0 (n + 1))), (5, (HV.v (Value.int IntKind.i64 d)))], [(Ob.row (Cd.int IntKind.u8) 0 0 xs)]⟩ := by kernel_rfl
theorem b42c (c : UInt8) (s : List UInt8) (xs : List Int) (n : Nat) (d : Int) (k : KX) : evd G8 1 (pc 42 [1, 0, 1, 1, 1, 1, 1, 1, 1, 1, 1, 1, 1, 1, 0]) (st42 (c :: s) xs (n + 1) d) (fun x st => k x (st.keep [0, 2, 3, 4, 5])) = ((decide (0 < (((ByteArray.size (ByteArray.mk (Array.mk (c :: s)))) : Nat) : Int))) && ((((decide (0 ≤ (fwrap IntKind.i64 ((((n + 1) : Nat) : Int) - 1)))) && (decide ((fwrap IntKind.i64 ((((n + 1) : Nat) : Int) - 1)) < (((n + 1) : Nat) : Int)))) && (decide ((n + 1) ≤ (List.length xs)))) && (((decide ((Int.toNat (fwrap IntKind.i64 ((((n + 1) : Nat) : Int) - 1))) < (List.length xs))) && Bool.true) && (bif (decide ((((UInt8.toNat c) : Nat) : Int) = (fwrap IntKind.u8 ((List.getD xs (Int.toNat (fwrap IntKind.i64 ((((n + 1) : Nat) : Int) - 1))) 0) + 2)))) then k (HX.goto 1) ⟨slots 110 [(0, (HV.v (Value.string (ByteArray.mk (Array.mk (c :: s)))))), (2, (HV.v (Value.int IntKind.i64 0))), (3, (HV.v (Value.bool Bool.false))), (4, (HV.own (Cd.int IntKind.u8) 0 0 (n + 1))), (5, (HV.v (Value.int IntKind.i64 d)))], [(Ob.row (Cd.int IntKind.u8) 0 0 xs)]⟩ else ((decide (0 < (((ByteArray.size (ByteArray.mk (Array.mk (c :: s)))) : Nat) : Int))) && (bif (!(decide ((((UInt8.toNat c) : Nat) : Int) = 44))) then k HX.ret ⟨slots 110 [(0, (HV.v (Value.string (ByteArray.mk (Array.mk (c :: s)))))), (2, (HV.v (Value.int IntKind.i64 0))), (3, (HV.v (Value.bool Bool.false))), (4, (HV.own (Cd.int IntKind.u8) 0 0 (n + 1))), (5, (HV.v (Value.int IntKind.i64 d)))], [(Ob.row (Cd.int IntKind.u8) 0 0 xs)]⟩ else k HX.normal ⟨slots 110 [(0, (HV.v (Value.string (ByteArray.mk (Array.mk (c :: s)))))), (2, (HV.v (Value.int IntKind.i64 0))), (3, (HV.v (Value.bool Bool.false))), (4, (HV.own (Cd.int IntKind.u8) 0 0 (n + 1))), (5, (HV.v (Value.int IntKind.i64 d)))], [(Ob.row (Cd.int IntKind.u8) 0 0 xs)]⟩)))))) := by kernel_rfl
theorem b42e (c : UInt8) (s : List UInt8) (xs : List Int) (n : Nat) (d : Int) (k : KX) : evd G8 1 (pc 42 [1, 0, 1, 1, 1, 1, 1, 1, 1, 1, 1, 1, 1, 1, 1, 0]) (st42 (c :: s) xs n d) (fun x st => k x (st.keep [0, 2, 3, 4, 5])) = (((decide (1 ≤ (((ByteArray.size (ByteArray.mk (Array.mk (c :: s)))) : Nat) : Int))) && (decide ((((ByteArray.size (ByteArray.mk (Array.mk (c :: s)))) : Nat) : Int) ≤ (((ByteArray.size (ByteArray.mk (Array.mk (c :: s)))) : Nat) : Int)))) && k HX.normal ⟨slots 110 [(0, (HV.v (Value.string (ByteArray.mk (Array.mk s))))), (2, (HV.v (Value.int IntKind.i64 0))), (3, (HV.v (Value.bool Bool.false))), (4, (HV.own (Cd.int IntKind.u8) 0 0 n)), (5, (HV.v (Value.int IntKind.i64 d)))], [(Ob.row (Cd.int IntKind.u8) 0 0 xs)]⟩) := by kernel_rfl
theorem b42f (s : List UInt8) (xs : List Int) (n : Nat) (d : Int) (k : KX) : evd G8 1 (pc 42 [1, 0, 1, 1, 1, 1, 1, 1, 1, 1, 1, 1, 1, 1, 1, 1, 0]) (st42 s xs (n + 1) d) (fun x st => k x (st.keep [0, 2, 3, 4, 5])) = ((((decide (0 ≤ (fwrap IntKind.i64 ((((n + 1) : Nat) : Int) - 1)))) && (decide ((fwrap IntKind.i64 ((((n + 1) : Nat) : Int) - 1)) < (((n + 1) : Nat) : Int)))) && (decide ((n + 1) ≤ (List.length xs)))) && (((decide ((Int.toNat (fwrap IntKind.i64 ((((n + 1) : Nat) : Int) - 1))) < (List.length xs))) && Bool.true) && (bif (decide ((List.getD xs (Int.toNat (fwrap IntKind.i64 ((((n + 1) : Nat) : Int) - 1))) 0) = 91)) then k (HX.goto 0) ⟨slots 110 [(0, (HV.v (Value.string (ByteArray.mk (Array.mk s))))), (2, (HV.v (Value.int IntKind.i64 0))), (3, (HV.v (Value.bool Bool.false))), (4, (HV.own (Cd.int IntKind.u8) 0 0 (n + 1))), (5, (HV.v (Value.int IntKind.i64 d)))], [(Ob.row (Cd.int IntKind.u8) 0 0 xs)]⟩ else k HX.normal ⟨slots 110 [(0, (HV.v (Value.string (ByteArray.mk (Array.mk s))))), (2, (HV.v (Value.int IntKind.i64 0))), (3, (HV.v (Value.bool Bool.false))), (4, (HV.own (Cd.int IntKind.u8) 0 0 (n + 1))), (5, (HV.v (Value.int IntKind.i64 d)))], [(Ob.row (Cd.int IntKind.u8) 0 0 xs)]⟩))) := by kernel_rfl
theorem f42 (kr : KR) (a : Int) (b : Bool) (h0 h4 h5 : HV) (L : List Ob) : finK Tryz.prog Tryz.f42 [] kr ⟨slots 110 [(0, h0), (2, .v (.int .i64 a)), (3, .v (.bool b)), (4, h4), (5, h5)], L⟩ = kr (HR.ret (HV.tup [(HV.v (Value.int IntKind.i64 a)), (HV.v (Value.bool b))])) [] := by kernel_rfl
theorem f42b (kr : KR) (a : Int) (b : Bool) (h0 h4 h5 h6 : HV) (L : List Ob) : finK Tryz.prog Tryz.f42 [] kr ⟨slots 110 [(0, h0), (2, .v (.int .i64 a)), (3, .v (.bool b)), (4, h4), (5, h5), (6, h6)], L⟩ = kr (HR.ret (HV.tup [(HV.v (Value.int IntKind.i64 a)), (HV.v (Value.bool b))])) [] := by kernel_rfl

theorem code42 : Tryz.f42.body = some (.seq (pc 42 [0]) (.scope (pc 42 [1, 0]))) := by kernel_rfl
theorem code42s : pc 42 [1, 0] = .seq (pc 42 [1, 0, 0]) (.seq (pc 42 [1, 0, 1, 0]) (.seq (pc 42 [1, 0, 1, 1, 0]) (.seq (.label 0) (pc 42 [1, 0, 1, 1, 1, 1])))) := by kernel_rfl
theorem code42v : (pc 42 [1, 0, 1, 1, 1, 1]) = .seq (pc 42 [1, 0, 1, 1, 1, 1, 0]) (.seq (pc 42 [1, 0, 1, 1, 1, 1, 1, 0]) (.seq (pc 42 [1, 0, 1, 1, 1, 1, 1, 1, 0]) (.seq (.seq (pc 42 [1, 0, 1, 1, 1, 1, 1, 1, 1, 0, 0]) (pc 42 [1, 0, 1, 1, 1, 1, 1, 1, 1, 0, 1])) (.seq (pc 42 [1, 0, 1, 1, 1, 1, 1, 1, 1, 1, 0]) (.seq (.label 3) (pc 42 [1, 0, 1, 1, 1, 1, 1, 1, 1, 1, 1, 1])))))) := by kernel_rfl
theorem code42b : (pc 42 [1, 0, 1, 1, 1, 1, 1, 1, 1, 1, 1, 1]) = .seq (pc 42 [1, 0, 1, 1, 1, 1, 1, 1, 1, 1, 1, 1, 0]) (.seq (pc 42 [1, 0, 1, 1, 1, 1, 1, 1, 1, 1, 1, 1, 1, 0]) (.seq (pc 42 [1, 0, 1, 1, 1, 1, 1, 1, 1, 1, 1, 1, 1, 1, 0]) (.seq (pc 42 [1, 0, 1, 1, 1, 1, 1, 1, 1, 1, 1, 1, 1, 1, 1, 0]) (.seq (pc 42 [1, 0, 1, 1, 1, 1, 1, 1, 1, 1, 1, 1, 1, 1, 1, 1, 0]) (.seq (.label 2) (pc 42 [1, 0, 1, 1, 1, 1, 1, 1, 1, 1, 1, 1, 1, 1, 1, 1, 1, 1])))))) := by kernel_rfl
theorem lab42a : findLabel (pc 42 [1, 0]) 0 = some (.seq .skip (pc 42 [1, 0, 1, 1, 1, 1])) := by kernel_rfl
theorem lab42b : findLabel (pc 42 [1, 0]) 1 = some (.seq .skip (pc 42 [1, 0, 1, 1, 1, 1, 1, 1, 1, 1, 1, 1, 1, 1, 1, 1, 1, 1, 1, 1, 1, 1, 1, 1, 1])) := by kernel_rfl
theorem lab42c : findLabel (pc 42 [1, 0]) 2 = some (.seq .skip (pc 42 [1, 0, 1, 1, 1, 1, 1, 1, 1, 1, 1, 1, 1, 1, 1, 1, 1, 1])) := by kernel_rfl
theorem lab42d : findLabel (pc 42 [1, 0]) 3 = some (.seq .skip (pc 42 [1, 0, 1, 1, 1, 1, 1, 1, 1, 1, 1, 1])) := by kernel_rfl

/-! What is read, in lists -/
abbrev GoF := Nat → List UInt8 → List Int → Int → Option (Int × Bool)

def topI (o : List Int) : Int := o.getD (o.length - 1) 0

def nameF (go : GoF) (s : List UInt8) (o : List Int) (d : Int) : Option (Int × Bool) := match skipL s with
  | [] => some (0, false)
  | c :: r => if quotedOk (c :: r) then
      if quotedLen (c :: r) = 0 then some (0, false) else
      match skipL ((c :: r).drop (quotedLen (c :: r)).toNat) with
      | [] => some (0, false)
      | e :: q => if (e.toNat : Int) = 58 then go 0 q o d else some (0, false)
    else none

def behindF (go : GoF) (s : List UInt8) (o : List Int) (d : Int) : Option (Int × Bool) :=
  if o.length = 0 then (match skipL s with | [] => some (d, true) | _ => some (d, false)) else
  match skipL s with
  | [] => some (0, false)
  | c :: r => if (c.toNat : Int) = topI o + 2 then go 1 (c :: r) o d else
    if (c.toNat : Int) = 44 then (if topI o = 91 then go 0 r o d else nameF go r o d) else some (0, false)

def pushF (go : GoF) (c : Int) (l : Nat) (s : List UInt8) (o : List Int) (d : Int) : Option (Int × Bool) :=
  match skipL s with
  | [] => go l [] (o ++ [c]) (if ((o.length + 1 : Nat) : Int) > d then ((o.length + 1 : Nat) : Int) else d)
  | e :: q => if (e.toNat : Int) = c + 2 then go 1 (e :: q) (o ++ [c]) (if ((o.length + 1 : Nat) : Int) > d then ((o.length + 1 : Nat) : Int) else d)
    else go l (e :: q) (o ++ [c]) (if ((o.length + 1 : Nat) : Int) > d then ((o.length + 1 : Nat) : Int) else d)

def valueF (go : GoF) (s : List UInt8) (o : List Int) (d : Int) : Option (Int × Bool) := match skipL s with
  | [] => some (0, false)
  | c :: r => if c = 91 then pushF go 91 0 r o d else if c = 123 then pushF go 123 2 r o d
    else if c = 34 then
      if quotedOk (c :: r) then if quotedLen (c :: r) = 0 then some (0, false) else behindF go ((c :: r).drop (quotedLen (c :: r)).toNat) o d else none
    else none

def closeF (go : GoF) (s : List UInt8) (o : List Int) (d : Int) : Option (Int × Bool) := match s, o with
  | _ :: r, _ :: _ => go 3 r (o.take (o.length - 1)) d
  | _, _ => none

/-- jsontext.grammar, from a label on, so many jumps. -/
def gramF : Nat → GoF
  | 0 => fun _ _ _ _ => none
  | n + 1 => fun l s o d => match l with
    | 0 => valueF (gramF n) s o d
    | 1 => closeF (gramF n) s o d
    | 2 => nameF (gramF n) s o d
    | 3 => behindF (gramF n) s o d
    | _ => none

theorem gramF_lab {n l : Nat} {s : List UInt8} {o : List Int} {d : Int} {r : Int × Bool} (h : gramF n l s o d = some r) : l ≤ 3 := by
  cases n with
  | zero => cases h
  | succ n =>
    match l, h with
    | 0, _ => omega
    | 1, _ => omega
    | 2, _ => omega
    | 3, _ => omega
    | l + 4, h => cases h

/-! The code does so -/
def B42 : Nat := 100000000

def Fin42 (r : Int × Bool) (st : St) : Prop := (∃ h0 h4 h5 L, st = ⟨slots 110 [(0, h0), (2, .v (.int .i64 r.1)), (3, .v (.bool r.2)), (4, h4), (5, h5)], L⟩) ∨ ∃ h0 h4 h5 h6 L, st = ⟨slots 110 [(0, h0), (2, .v (.int .i64 r.1)), (3, .v (.bool r.2)), (4, h4), (5, h5), (6, h6)], L⟩

def Q42 (go : GoF) (r : Int × Bool) : HX → St → Prop
  | .goto l, st => ∃ s xs n d us m, vwOk [] us m st = true ∧ vw us m st = st42 s xs n d ∧ n ≤ xs.length ∧ n + s.length ≤ B42 ∧ (∀ x ∈ xs, x = 91 ∨ x = 123) ∧ go l s (xs.take n) d = some r
  | .ret, st => Fin42 r st
  | _, _ => False

theorem vw42 (s : List UInt8) (xs : List Int) (n : Nat) (d : Int) : vw [] 1 (st42 s xs n d) = st42 s xs n d := by kernel_rfl
theorem vw42p (s : List UInt8) (xs : List Int) (n : Nat) (d : Int) : vw [(0, 1, 0)] 1 ⟨slots 110 [(0, tx s), (2, .v (.int .i64 0)), (3, .v (.bool false)), (4, .own (.int .u8) 0 1 n), (5, .v (.int .i64 d))], [.row (.int .u8) 1 0 xs]⟩ = st42 s xs n d := by kernel_rfl

theorem Q42.goto {go : GoF} {r : Int × Bool} {l : Nat} {s : List UInt8} {xs : List Int} {n : Nat} {d : Int} (h : go l s (xs.take n) d = some r) (hn : n ≤ xs.length) (hb : n + s.length ≤ B42) (hx : ∀ x ∈ xs, x = 91 ∨ x = 123) : Q42 go r (.goto l) (st42 s xs n d) :=
  ⟨s, xs, n, d, [], 1, rfl, vw42 s xs n d, hn, hb, hx, h⟩

theorem Q42.push {go : GoF} {r : Int × Bool} {l : Nat} {s : List UInt8} {xs : List Int} {n : Nat} {c d : Int} (h : go l s (xs.take n ++ [c]) d = some r) (hn : n ≤ xs.length) (hb : n + 1 + s.length ≤ B42) (hx : ∀ x ∈ xs, x = 91 ∨ x = 123) (hc : c = 91 ∨ c = 123) :
    Q42 go r (.goto l) ⟨slots 110 [(0, tx s), (2, .v (.int .i64 0)), (3, .v (.bool false)), (4, .own (.int .u8) 0 1 (n + 1)), (5, .v (.int .i64 d))], [.row (.int .u8) 1 0 (xs.take n ++ [c])]⟩ := by
  have hl : (xs.take n ++ [c]).length = n + 1 := by rw [List.length_append, List.length_take, List.length_singleton]; omega
  refine ⟨s, xs.take n ++ [c], n + 1, d, [(0, 1, 0)], 1, rfl, vw42p s _ _ d, by omega, hb, fun x hm => ?_, ?_⟩
  · rcases List.mem_append.1 hm with hm | hm
    · exact hx x (List.mem_of_mem_take hm)
    · rw [List.mem_singleton] at hm; subst hm; exact hc
  · rw [List.take_of_length_le (by omega)]; exact h

theorem skipL_len : ∀ s : List UInt8, (skipL s).length ≤ s.length
  | [] => Nat.le_refl _
  | c :: s => by
    simp only [skipL]
    cases blankB c with
    | true => simp only [cond_true]; have := skipL_len s; simp; omega
    | false => exact Nat.le_refl _

theorem gd1 (c : UInt8) (s : List UInt8) : decide (0 < ((ByteArray.size ⟨⟨c :: s⟩⟩ : Nat) : Int)) = true := decide_eq_true (by rw [size_bt, List.length_cons]; omega)
theorem gd2 (c : UInt8) (s : List UInt8) : decide (1 ≤ ((ByteArray.size ⟨⟨c :: s⟩⟩ : Nat) : Int)) = true := decide_eq_true (by rw [size_bt, List.length_cons]; omega)
theorem gd3 (a : Nat) : decide (((a : Nat) : Int) ≤ (a : Int)) = true := decide_eq_true (Int.le_refl _)
theorem gd4 {s : List UInt8} (h : s.length ≤ B42) : decide (ByteArray.size ⟨⟨s⟩⟩ < 4611686018427387904) = true := decide_eq_true (by rw [size_bt]; unfold B42 at h; omega)
theorem gw1 {n : Nat} (h : n ≤ B42) : fwrap .i64 (((n + 1 : Nat) : Int) - 1) = n := by rw [show (((n + 1 : Nat) : Int) - 1) = n by omega]; exact fwrap_i64 (by omega) (by unfold B42 at h; omega)

theorem qLen_le : ∀ (l : List UInt8) (i : Int), 0 ≤ i → 0 ≤ qLen l i ∧ qLen l i ≤ i + l.length
  | [], i, h => by simp [qLen]; omega
  | c :: l, i, h => by
    simp only [qLen]
    cases ltI (c.toNat : Int) 32 with
    | true => simp only [cond_true]; simp; omega
    | false =>
      cases decide ((c.toNat : Int) = 34) with
      | true => simp only [cond_true, cond_false]; simp; omega
      | false =>
        have := qLen_le l (i + 1) (by omega)
        simp only [cond_false]; simp; omega

theorem quotedLen_le (s : List UInt8) : 0 ≤ quotedLen s ∧ quotedLen s ≤ (s.length : Int) := by
  cases s with
  | nil => simp [quotedLen]
  | cons c l =>
    simp only [quotedLen]
    cases isQ c with
    | true => have := qLen_le l 1 (by omega); simp; omega
    | false => simp; omega

theorem gd5 (s : List UInt8) : decide (0 ≤ quotedLen s) = true := decide_eq_true (quotedLen_le s).1
theorem gd6 (s : List UInt8) : decide (quotedLen s ≤ ((ByteArray.size ⟨⟨s⟩⟩ : Nat) : Int)) = true := decide_eq_true (by rw [size_bt]; exact (quotedLen_le s).2)

section
variable {w0 : World} {go : GoF} {r : Int × Bool} {s : List UInt8} {xs : List Int} {n : Nat} {d : Int}

theorem name42 (hG : GamOK Tryz.prog w0 G8) (hx : ∀ x ∈ xs, x = 91 ∨ x = 123) (hn : n ≤ xs.length) (hb : n + s.length ≤ B42) (h : nameF go s (xs.take n) d = some r) : WpA Tryz.prog w0 [] (pc 42 [1, 0, 1, 1, 1, 1, 1, 1, 1, 1, 1, 1, 1, 1, 1, 1, 1, 1]) (st42 s xs n d) (Q42 go r) := by
  refine (evd_ok hG [0, 2, 3, 4, 5] (n42 s xs n d) ?_).wpA
  unfold nameF at h
  have hl := skipL_len s
  cases hs : skipL s with
  | nil =>
    rw [hs] at h
    simp only [Option.some.injEq] at h; subst h
    exact yes_mk (.inl ⟨_, _, _, _, rfl⟩)
  | cons c q =>
    rw [hs] at h hl
    simp only at h
    split at h
    · rename_i hok
      have hlen : (c :: q).length ≤ B42 := by omega
      simp only [fork, gd4 hlen, hok, gd5, gd6, gd3, Bool.true_and]
      split at h
      · rename_i h0
        simp only [Option.some.injEq] at h; subst h
        simp only [h0, decide_true, cond_true]
        exact yes_mk (.inl ⟨_, _, _, _, rfl⟩)
      · rename_i h0
        simp only [h0, decide_false, cond_false]
        have hl2 := skipL_len ((c :: q).drop (quotedLen (c :: q)).toNat)
        cases hs2 : skipL ((c :: q).drop (quotedLen (c :: q)).toNat) with
        | nil =>
          rw [hs2] at h
          simp only [Option.some.injEq] at h; subst h
          exact yes_mk (.inl ⟨_, _, _, _, rfl⟩)
        | cons e p =>
          rw [hs2] at h hl2
          simp only at h
          simp only [gd1, gd2, gd3, Bool.true_and]
          split at h
          · rename_i he
            simp only [he, decide_true, Bool.not_true, cond_false]
            refine yes_mk (Q42.goto h hn ?_ hx)
            simp only [List.length_drop, List.length_cons] at hl2 hl
            omega
          · rename_i he
            simp only [Option.some.injEq] at h; subst h
            simp only [he, decide_false, Bool.not_false, cond_true]
            exact yes_mk (.inl ⟨_, _, _, _, rfl⟩)
    · cases h

theorem take_get {xs : List Int} {n : Nat} (hn : n + 1 ≤ xs.length) : xs.getD n 0 = topI (xs.take (n + 1)) := by
  have : (xs.take (n + 1)).length = n + 1 := by rw [List.length_take]; omega
  unfold topI
  rw [this, Nat.add_sub_cancel, List.getD_eq_getElem?_getD, List.getD_eq_getElem?_getD, List.getElem?_take_of_lt (Nat.lt_succ_self n)]

theorem topB {xs : List Int} {n : Nat} (h : ∀ x ∈ xs, x = 91 ∨ x = 123) (hn : n + 1 ≤ xs.length) : fwrap .u8 (xs.getD n 0 + 2) = xs.getD n 0 + 2 := by
  have hm : xs.getD n 0 ∈ xs := by
    rw [List.getD_eq_getElem?_getD, List.getElem?_eq_getElem (by omega)]
    exact List.getElem_mem _
  rcases h _ hm with h | h <;> rw [h] <;> rfl

theorem behind42 (hG : GamOK Tryz.prog w0 G8) (hx : ∀ x ∈ xs, x = 91 ∨ x = 123) (hn : n ≤ xs.length) (hb : n + s.length ≤ B42) (h : behindF go s (xs.take n) d = some r) : WpA Tryz.prog w0 [] (pc 42 [1, 0, 1, 1, 1, 1, 1, 1, 1, 1, 1, 1]) (st42 s xs n d) (Q42 go r) := by
  unfold behindF at h
  have hl := skipL_len s
  have ht : (xs.take n).length = n := by rw [List.length_take]; omega
  cases n with
  | zero =>
    refine (evd_ok hG [0, 2, 3, 4, 5] (b42z s xs d) ?_).wpA
    rw [if_pos ht] at h
    cases hs : skipL s with
    | nil => rw [hs] at h; simp only [Option.some.injEq] at h; subst h; exact yes_mk (.inl ⟨_, _, _, _, rfl⟩)
    | cons c q => rw [hs] at h; simp only [Option.some.injEq] at h; subst h; exact yes_mk (.inl ⟨_, _, _, _, rfl⟩)
  | succ n =>
    rw [if_neg (by omega)] at h
    have hB : n ≤ B42 := by omega
    rw [code42b]
    refine wpA_seq ((evd_ok hG [0, 2, 3, 4, 5] (b42a s xs (n + 1) d) ?_).wpA)
    cases hs : skipL s with
    | nil =>
      rw [hs] at h; simp only [Option.some.injEq] at h; subst h
      refine yes_mk ?_
      refine wpA_seq ((evd_ok hG [0, 2, 3, 4, 5] (b42a2 [] xs n d) (yes_mk ?_)).wpA)
      refine wpA_seq ((evd_ok hG [0, 2, 3, 4, 5] (b42n xs n d) (yes_mk ?_)).wpA)
      exact .inl ⟨_, _, _, _, rfl⟩
    | cons c q =>
      rw [hs] at h hl
      simp only at h
      refine yes_mk ?_
      refine wpA_seq ((evd_ok hG [0, 2, 3, 4, 5] (b42a2 (c :: q) xs n d) (yes_mk ?_)).wpA)
      refine wpA_seq ((evd_ok hG [0, 2, 3, 4, 5] (b42c c q xs n d) ?_).wpA)
      have hg := take_get hn
      simp only [gd1, gw1 hB, Int.toNat_natCast, topB hx hn, Bool.true_and, show decide ((0 : Int) ≤ (n : Int)) = true from decide_eq_true (by omega), show decide ((n : Int) < ((n + 1 : Nat) : Int)) = true from decide_eq_true (by omega), show decide (n + 1 ≤ xs.length) = true from decide_eq_true hn, show decide (n < xs.length) = true from decide_eq_true (by omega)]
      rw [hg]
      split at h
      · rename_i hc
        simp only [hc, decide_true, cond_true]
        exact yes_mk (Q42.goto h hn (by omega) hx)
      · rename_i hc
        simp only [hc, decide_false, cond_false]
        split at h
        · rename_i h44
          simp only [h44, decide_true, Bool.not_true, cond_false]
          refine yes_mk ?_
          refine wpA_seq ((evd_ok hG [0, 2, 3, 4, 5] (b42e c q xs (n + 1) d) ?_).wpA)
          simp only [gd2, gd3, Bool.true_and]
          refine yes_mk ?_
          refine wpA_seq ((evd_ok hG [0, 2, 3, 4, 5] (b42f q xs n d) ?_).wpA)
          simp only [gw1 hB, Int.toNat_natCast, Bool.true_and, show decide ((0 : Int) ≤ (n : Int)) = true from decide_eq_true (by omega), show decide ((n : Int) < ((n + 1 : Nat) : Int)) = true from decide_eq_true (by omega), show decide (n + 1 ≤ xs.length) = true from decide_eq_true hn, show decide (n < xs.length) = true from decide_eq_true (by omega)]
          rw [hg]
          simp only [List.length_cons] at hl
          split at h
          · rename_i h91
            simp only [h91, decide_true, cond_true]
            exact yes_mk (Q42.goto h hn (by omega) hx)
          · rename_i h91
            simp only [h91, decide_false, cond_false]
            refine yes_mk ?_
            refine wpA_seq (wpA_label ?_)
            exact name42 hG hx hn (by omega) h
        · rename_i h44
          simp only [Option.some.injEq] at h; subst h
          simp only [h44, decide_false, Bool.not_false, cond_true]
          exact yes_mk (.inl ⟨_, _, _, _, rfl⟩)

theorem close42 (hG : GamOK Tryz.prog w0 G8) (hx : ∀ x ∈ xs, x = 91 ∨ x = 123) (hn : n ≤ xs.length) (hb : n + s.length ≤ B42) (h : closeF go s (xs.take n) d = some r) : WpA Tryz.prog w0 [] (pc 42 [1, 0, 1, 1, 1, 1, 1, 1, 1, 1, 1, 1, 1, 1, 1, 1, 1, 1, 1, 1, 1, 1, 1, 1, 1]) (st42 s xs n d) (Q42 go r) := by
  have ht : (xs.take n).length = n := by rw [List.length_take]; omega
  cases s with
  | nil => cases h
  | cons c q =>
    cases n with
    | zero => cases h
    | succ n =>
      have h : go 3 q ((xs.take (n + 1)).take ((xs.take (n + 1)).length - 1)) d = some r := by
        cases he : xs.take (n + 1) with
        | nil => rw [he] at ht; cases ht
        | cons y ys => rw [he] at h; exact h
      have hB : n ≤ B42 := by omega
      refine (evd_ok hG [0, 2, 3, 4, 5] (c42 c q xs n d) ?_).wpA
      simp only [gd2, gd3, gw1 hB, Int.toNat_natCast, Bool.true_and, show decide ((0 : Int) ≤ (n : Int)) = true from decide_eq_true (by omega), show decide ((n : Int) ≤ ((n + 1 : Nat) : Int)) = true from decide_eq_true (by omega)]
      rw [ht, List.take_take, Nat.add_sub_cancel, Nat.min_eq_left (Nat.le_succ n)] at h
      simp only [List.length_cons] at hb
      exact yes_mk (Q42.goto h (by omega) (by omega) hx)


theorem value42 (hG : GamOK Tryz.prog w0 G8) (hx : ∀ x ∈ xs, x = 91 ∨ x = 123) (hn : n ≤ xs.length) (hb : n + s.length ≤ B42) (h : valueF go s (xs.take n) d = some r) : WpA Tryz.prog w0 [] (pc 42 [1, 0, 1, 1, 1, 1]) (st42 s xs n d) (Q42 go r) := by
  unfold valueF at h
  have hl := skipL_len s
  have ht : (xs.take n).length = n := by rw [List.length_take]; omega
  rw [code42v]
  refine wpA_seq ((evd_ok hG [0, 2, 3, 4, 5] (v42a s xs n d) ?_).wpA)
  cases hs : skipL s with
  | nil =>
    rw [hs] at h; simp only [Option.some.injEq] at h; subst h
    refine yes_mk ?_
    refine wpA_seq ((evd_ok hG [0, 2, 3, 4, 5] (v42z xs n d) (yes_mk ?_)).wpA)
    exact .inl ⟨_, _, _, _, rfl⟩
  | cons c q =>
    rw [hs] at h hl
    simp only at h
    simp only [List.length_cons] at hl
    refine yes_mk ?_
    refine wpA_seq ((evd_ok hG [0, 2, 3, 4, 5] (v42c c q xs n d) (yes_mk ?_)).wpA)
    have hl2 := skipL_len q
    have e1 : decide (n ≤ xs.length) = true := decide_eq_true hn
    have e2 : decide ((n + 1) * 1 ≤ 140737488355328) = true := decide_eq_true (by unfold B42 at hb; omega)
    split at h
    · rename_i h91
      subst h91
      refine wpA_seq ((evd_ok hG [0, 2, 3, 4, 5] (v42b1 q xs n d) ?_).wpA)
      simp only [gd1, gd2, gd3, e1, e2, Bool.true_and]
      unfold pushF at h
      rw [ht] at h
      cases hq : skipL q with
      | nil =>
        rw [hq] at h
        exact yes_mk (Q42.push h hn (by simp; omega) hx (.inl rfl))
      | cons e p =>
        rw [hq] at h hl2
        simp only at h
        simp only [fork, gd1, Bool.true_and]
        split at h
        · rename_i he
          simp only [show (e.toNat : Int) = 93 from he, decide_true, cond_true]
          exact yes_mk (Q42.push h hn (by omega) hx (.inl rfl))
        · rename_i he
          simp only [show ¬ (e.toNat : Int) = 93 from he, decide_false, cond_false]
          exact yes_mk (Q42.push h hn (by omega) hx (.inl rfl))
    · split at h
      · rename_i h123
        subst h123
        refine wpA_seq ((evd_ok hG [0, 2, 3, 4, 5] (v42b2 q xs n d) ?_).wpA)
        simp only [gd1, gd2, gd3, e1, e2, Bool.true_and]
        unfold pushF at h
        rw [ht] at h
        cases hq : skipL q with
        | nil =>
          rw [hq] at h
          exact yes_mk (Q42.push h hn (by simp; omega) hx (.inr rfl))
        | cons e p =>
          rw [hq] at h hl2
          simp only at h
          simp only [fork, gd1, Bool.true_and]
          split at h
          · rename_i he
            simp only [show (e.toNat : Int) = 125 from he, decide_true, cond_true]
            exact yes_mk (Q42.push h hn (by omega) hx (.inr rfl))
          · rename_i he
            simp only [show ¬ (e.toNat : Int) = 125 from he, decide_false, cond_false]
            exact yes_mk (Q42.push h hn (by omega) hx (.inr rfl))
      · split at h
        · rename_i h34
          subst h34
          split at h
          · rename_i hok
            refine wpA_seq ((evd_ok hG [0, 2, 3, 4, 5] (v42b3 q xs n d) ?_).wpA)
            simp only [gd1, Bool.true_and]
            refine yes_mk ?_
            refine wpA_seq ((evd_ok hG [0, 2, 3, 4, 5, 6] (v42s q xs n d) ?_).wpA)
            have hlen : (34 :: q : List UInt8).length ≤ B42 := by simp only [List.length_cons]; omega
            simp only [gd4 hlen, hok, Bool.true_and]
            split at h
            · rename_i h0
              simp only [Option.some.injEq] at h; subst h
              simp only [h0, decide_true, cond_true]
              exact yes_mk (.inr ⟨_, _, _, _, _, rfl⟩)
            · rename_i h0
              simp only [h0, decide_false, cond_false]
              refine yes_mk ?_
              refine wpA_seq ((evd_ok hG [0, 2, 3, 4, 5] (v42t (34 :: q) xs n d (quotedLen (34 :: q))) ?_).wpA)
              simp only [gd3, gd5, gd6, Bool.true_and]
              refine yes_mk ?_
              refine wpA_seq (wpA_label ?_)
              exact behind42 hG hx hn (by simp only [List.length_drop, List.length_cons]; omega) h
          · cases h
        · cases h

end

theorem do42 {m : Nat} {s : List UInt8} {r : Int × Bool} (hs : s.length ≤ B42) (h : gramF m 0 s [] 0 = some r) : PureDo Tryz.prog H4 42 [tx s] (.tup [.v (.int .i64 r.1), .v (.bool r.2)]) := by
  intro w0 kr h0 hkr
  have hG := gamOK8 h0
  refine does_wpA Tryz.func42 code42 (n := 110) (by kernel_rfl) ?_
  refine wpA_seq ((evd_ok hG [0, 2, 3] (a42 s) (yes_mk ?_)).wpA)
  have fin : ∀ st', Fin42 r st' → finK Tryz.prog Tryz.f42 [] kr st' = true := by
    rintro st' (⟨a0, a4, a5, L, rfl⟩ | ⟨a0, a4, a5, a6, L, rfl⟩)
    · rw [f42]; exact hkr
    · rw [f42b]; exact hkr
  have step : ∀ (m l : Nat) (s : List UInt8) (xs : List Int) (n : Nat) (d : Int), l ≤ 3 → n ≤ xs.length → n + s.length ≤ B42 → (∀ x ∈ xs, x = 91 ∨ x = 123) → gramF (m + 1) l s (xs.take n) d = some r →
      ∃ rest, findLabel (pc 42 [1, 0]) l = some rest ∧ WpA Tryz.prog w0 [] rest (st42 s xs n d) (Q42 (gramF m) r) := by
    intro m l s xs n d hl hn hb hx hg
    match l, hl, hg with
    | 0, _, hg => exact ⟨_, lab42a, wpA_seq (wpA_skip (value42 hG hx hn hb hg))⟩
    | 1, _, hg => exact ⟨_, lab42b, wpA_seq (wpA_skip (close42 hG hx hn hb hg))⟩
    | 2, _, hg => exact ⟨_, lab42c, wpA_seq (wpA_skip (name42 hG hx hn hb hg))⟩
    | 3, _, hg => exact ⟨_, lab42d, wpA_seq (wpA_skip (behind42 hG hx hn hb hg))⟩
  cases m with
  | zero => cases h
  | succ m =>
  refine wpA_scope (α := { a : Nat × Nat × List UInt8 × List Int × Nat × Int // a.2.1 ≤ 3 ∧ a.2.2.2.2.1 ≤ a.2.2.2.1.length ∧ a.2.2.2.2.1 + a.2.2.1.length ≤ B42 ∧ (∀ x ∈ a.2.2.2.1, x = 91 ∨ x = 123) ∧ gramF a.1 a.2.1 a.2.2.1 (a.2.2.2.1.take a.2.2.2.2.1) a.2.2.2.2.2 = some r })
    (fun a => (a.1.2.1, st42 a.1.2.2.1 a.1.2.2.2.1 a.1.2.2.2.2.1 a.1.2.2.2.2.2)) (fun a => a.1.1) ?_ ?_
  · rw [code42s]
    refine wpA_seq ((evd_ok hG [0, 2, 3, 4] (a42b s) (yes_mk ?_)).wpA)
    refine wpA_seq ((evd_ok hG [0, 2, 3, 4, 5] (a42c s) (yes_mk ?_)).wpA)
    refine wpA_seq ((evd_ok hG [0, 2, 3, 4, 5] (a42d s) (yes_mk ?_)).wpA)
    refine wpA_seq (wpA_label ?_)
    refine wpA_nil (.int .u8) 4 (by omega) (.inl rfl) ?_
    show WpA Tryz.prog w0 [] _ (st42 s [] 0 0) _
    refine (value42 (go := gramF m) (r := r) (s := s) (xs := []) (n := 0) (d := 0) hG (by simp) (Nat.le_refl _) (by omega) h).mono (fun x st' hq => ?_)
    cases x with
    | goto l =>
      obtain ⟨s', xs', n', d', us, k, h1, h2, h3, h4, h5, h6⟩ := hq
      exact ⟨⟨(m, l, s', xs', n', d'), gramF_lab h6, h3, h4, h5, h6⟩, us, k, h1, by rw [h2]⟩
    | ret => exact fin st' hq
    | _ => exact hq.elim
  · rintro ⟨⟨m', l, s', xs', n', d'⟩, hl, h3, h4, h5, h6⟩
    cases m' with
    | zero => cases h6
    | succ m' =>
      obtain ⟨rest, hf, hw⟩ := step m' l s' xs' n' d' hl h3 h4 h5 h6
      refine ⟨rest, hf, hw.mono (fun x st' hq => ?_)⟩
      cases x with
      | goto l =>
        obtain ⟨s'', xs'', n'', d'', us, k, g1, g2, g3, g4, g5, g6⟩ := hq
        exact ⟨⟨(m', l, s'', xs'', n'', d''), gramF_lab g6, g3, g4, g5, g6⟩, us, k, Nat.lt_succ_self _, g1, by rw [g2]⟩
      | ret => exact fin st' hq
      | _ => exact hq.elim

end Go.Proofs.YtiaeljbnhdhfcaaGreatDoor
