/- AvroOnce: Itoa, many, its own body, the plain law. -/
import Derived.Test.YtiaeljbnhdhfcaaGreatDoorP12
import Derived.Test.YtiaeljbnhdhfcaaGreatDoorS2
import Derived.Lib.ItoaLen
import Derived.Lib.AppendIntMem
namespace Go.Mo
open Go Go.RowKit Go.Lx
def decS (n : Int) : List UInt8 := Lib.decDigits n.toNat
end Go.Mo
namespace Go.Proofs.YtiaeljbnhdhfcaaGreatDoor
open Go Go.RowKit Go.Lx Go.Mo

def H5 (w : World) : Prop := H4 w ∧ Lib.TabIs Tryz.prog w "internal/strconv.uint64pow10" .u64 Lib.pow10Tab
theorem lasts5 : Lasts H5 := fun w w' h hb => ⟨lasts4 w w' h.1 hb, Lib.tabBelow_of_tabIs h.2 w' hb⟩

theorem pureAns_of_grow {P : Program} {H : World → Prop} (hH : Lasts H) {f : FuncId} {args : List HV} {a : Value} (hb : hasBody P f) (hc : ∀ (E : Env) vs, H E.w → relAll E args vs → Calls P f vs.toArray E.w fun e w' => e = .returned a ∧ Below E.w.heap.size E.w w') {w0 : World} (h0 : H w0) : PureAns P w0 f args (.v a) := by
  refine ⟨hb, fun E vs hs hv => ?_⟩
  refine (hc E vs (hH _ _ h0 hs.below) hv).mono ?_
  rintro e w' ⟨rfl, hbl⟩
  obtain ⟨h1, h2⟩ := sim_add (E' := { E with w := w' }) hs [] (by simp) (fun _ _ _ => rfl) (fun b hb => hbl.block b hb) hbl.size (fun _ _ h => h) (fun _ _ h => .inl h)
    (fun b o h => Nat.lt_of_lt_of_le (hs.Ilt b o h) hbl.size) (by simp) (by simp) hbl.os hbl.tape hbl.output
  exact ⟨{ E with w := w' }, _, rfl, rfl, h1, h2, rfl, rfl⟩

theorem ans22 {w0 : World} (h0 : H5 w0) {n : Int} (h1 : 0 ≤ n) (h2 : n < 1000000) : PureAns Tryz.prog w0 22 [.v (.int .i64 n)] (.v (.string ⟨⟨decS n⟩⟩)) := by
  refine pureAns_of_grow lasts5 ⟨_, Tryz.func22, rfl⟩ (fun E vs hE hv => ?_) h0
  rw [relAll_v1 hv]
  refine (Tryz.strconv_Itoa n (by omega) (by omega) E.w hE.2).mono ?_
  rintro e w' ⟨rfl, k, os, rfl⟩
  refine ⟨?_, ?_⟩
  · unfold Lib.itoa decS
    rw [if_neg (by omega)]
  · refine ⟨rfl, rfl, rfl, ?_, fun b hb => ?_⟩
    · show E.w.heap.size ≤ (E.w.heap ++ os).size
      rw [Array.size_append]; omega
    · show (E.w.heap ++ os)[b]? = E.w.heap[b]?
      rw [Array.getElem?_append_left hb]

def itoaP (D : Int → List UInt8) (args : List HV) : Option (Bool × HV) := match args with
  | [.v (.int .i64 n)] => some (decide (0 ≤ n) && decide (n.toNat < 1000000), .v (.string ⟨⟨D n⟩⟩))
  | _ => none
noncomputable def G36 (D : Int → List UInt8) : Gam := addP 22 (itoaP D) G8
theorem gamOK36 {w0 : World} (h0 : H5 w0) : GamOK Tryz.prog w0 (G36 decS) := by
  refine addP_ok (gamOK8 h0.1) ⟨_, Tryz.func22, rfl⟩ ?_
  intro args r h h1
  unfold itoaP at h
  split at h
  · cases h
    simp only [Bool.and_eq_true, decide_eq_true_eq] at h1
    exact ans22 h0 h1.1 (by omega)
  · cases h

def topT : List UInt8 := [123, 34, 116, 121, 112, 101, 34, 58, 34, 114, 101, 99, 111, 114, 100, 34, 44, 34, 110, 97, 109, 101, 34, 58, 34, 82, 34, 44, 34, 102, 105, 101, 108, 100, 115, 34, 58, 91]
def itemT (i : Nat) : List UInt8 := [123, 34, 110, 97, 109, 101, 34, 58, 34, 102] ++ decS (i : Int) ++ [34, 44, 34, 116, 121, 112, 101, 34, 58, 34, 110, 117, 108, 108, 34, 125]
def bodyT : Nat → List UInt8
  | 0 => topT
  | i + 1 => bodyT i ++ (if 0 < i then [44] else []) ++ itemT i
def st8 (n : Int) (s : List UInt8) (i : Nat) : St := ⟨slots 23 [(0, i64 n), (2, .v (.slice none 0 0)), (3, tx s), (4, i64 i)], []⟩
theorem a8 (n : Int) (k : KX) : evs G8 6 [pc 8 [0], pc 8 [1, 0]] ⟨argT 0 [i64 n] ⟨23, .nil⟩, []⟩ (fun x st => k x (st.keep [0, 2, 3])) = (k HX.normal ⟨slots 23 [(0, (HV.v (Value.int IntKind.i64 n))), (2, (HV.v (Value.slice Option.none 0 0))), (3, (HV.v (Value.string (ByteArray.mk (Array.mk [123, 34, 116, 121, 112, 101, 34, 58, 34, 114, 101, 99, 111, 114, 100, 34, 44, 34, 110, 97, 109, 101, 34, 58, 34, 82, 34, 44, 34, 102, 105, 101, 108, 100, 115, 34, 58, 91])))))], []⟩) := by kernel_rfl
theorem b8 (n : Int) (s : List UInt8) (k : KX) : evs G8 6 [pc 8 [1, 1, 0, 0]] ⟨slots 23 [(0, i64 n), (2, .v (.slice none 0 0)), (3, tx s)], []⟩ (fun x st => k x (st.keep [0, 2, 3, 4])) = (k HX.normal ⟨slots 23 [(0, (HV.v (Value.int IntKind.i64 n))), (2, (HV.v (Value.slice Option.none 0 0))), (3, (HV.v (Value.string (ByteArray.mk (Array.mk s))))), (4, (HV.v (Value.int IntKind.i64 0)))], []⟩) := by kernel_rfl
theorem c8 (n : Int) (s : List UInt8) (i : Nat) (k : KX) : evs G8 6 [pc 8 [1, 1, 0, 1, 0, 0, 0]] (st8 n s i) (fun x st => k x (st.keep [0, 2, 3, 4])) = (bif (ltI ((i : Nat) : Int) n) then (k HX.normal ⟨slots 23 [(0, (HV.v (Value.int IntKind.i64 n))), (2, (HV.v (Value.slice Option.none 0 0))), (3, (HV.v (Value.string (ByteArray.mk (Array.mk s))))), (4, (HV.v (Value.int IntKind.i64 ((i : Nat) : Int))))], []⟩) else (k (HX.exit 0) ⟨slots 23 [(0, (HV.v (Value.int IntKind.i64 n))), (2, (HV.v (Value.slice Option.none 0 0))), (3, (HV.v (Value.string (ByteArray.mk (Array.mk s))))), (4, (HV.v (Value.int IntKind.i64 ((i : Nat) : Int))))], []⟩)) := by kernel_rfl
theorem d8 (n : Int) (s : List UInt8) (i : Nat) (k : KX) : evs G8 6 [pc 8 [1, 1, 0, 1, 0, 0, 1, 0, 0, 0]] (st8 n s i) (fun x st => k x (st.keep [0, 2, 3, 4])) = (bif (ltI 0 ((i : Nat) : Int)) then ((decide (((ByteArray.size (ByteArray.mk (Array.mk s))) + 1) ≤ 9223372036854775807)) && (k HX.normal ⟨slots 23 [(0, (HV.v (Value.int IntKind.i64 n))), (2, (HV.v (Value.slice Option.none 0 0))), (3, (HV.v (Value.string (ByteArray.mk (Array.mk (s ++ [44])))))), (4, (HV.v (Value.int IntKind.i64 ((i : Nat) : Int))))], []⟩)) else (k HX.normal ⟨slots 23 [(0, (HV.v (Value.int IntKind.i64 n))), (2, (HV.v (Value.slice Option.none 0 0))), (3, (HV.v (Value.string (ByteArray.mk (Array.mk s))))), (4, (HV.v (Value.int IntKind.i64 ((i : Nat) : Int))))], []⟩)) := by kernel_rfl
theorem g8 (D : Int → List UInt8) (n : Int) (s : List UInt8) (i : Nat) (k : KX) : evd (G36 D) 6 (pc 8 [1, 1, 0, 1, 0, 0, 1, 0, 0, 1]) (st8 n s i) (fun x st => k x (st.keep [0, 2, 3, 4])) = ((decide (((ByteArray.size (ByteArray.mk (Array.mk s))) + 10) ≤ 9223372036854775807)) && ((decide ((Int.toNat ((i : Nat) : Int)) < 1000000)) && ((decide (((ByteArray.size (ByteArray.mk (Array.mk (s ++ [123, 34, 110, 97, 109, 101, 34, 58, 34, 102])))) + (ByteArray.size (ByteArray.mk (Array.mk (D ((i : Nat) : Int)))))) ≤ 9223372036854775807)) && ((decide (((ByteArray.size (ByteArray.mk (Array.mk ((s ++ [123, 34, 110, 97, 109, 101, 34, 58, 34, 102]) ++ (D ((i : Nat) : Int)))))) + 16) ≤ 9223372036854775807)) && (k HX.normal ⟨slots 23 [(0, (HV.v (Value.int IntKind.i64 n))), (2, (HV.v (Value.slice Option.none 0 0))), (3, (HV.v (Value.string (ByteArray.mk (Array.mk (((s ++ [123, 34, 110, 97, 109, 101, 34, 58, 34, 102]) ++ (D ((i : Nat) : Int))) ++ [34, 44, 34, 116, 121, 112, 101, 34, 58, 34, 110, 117, 108, 108, 34, 125])))))), (4, (HV.v (Value.int IntKind.i64 ((i : Nat) : Int))))], []⟩))))) := by kernel_rfl
theorem h8 (l : List Int) (kr : KR) : finK Tryz.prog Tryz.f8 [] kr ⟨slots 23 [(2, .d (.list (.int .u8)) l)], []⟩ = (kr (HR.ret (HV.d (Cd.list (Cd.int IntKind.u8)) l)) []) := by kernel_rfl
theorem code8 : Tryz.f8.body = some (seqs [pc 8 [0], pc 8 [1, 0]] (.seq (seqs [pc 8 [1, 1, 0, 0]] (.block 0 (.loop (pc 8 [1, 1, 0, 1, 0, 0])))) (pc 8 [1, 1, 1]))) := by kernel_rfl
theorem code8b : pc 8 [1, 1, 0, 1, 0, 0] = seqs [pc 8 [1, 1, 0, 1, 0, 0, 0]] (.seq (.block 1 (seqs [pc 8 [1, 1, 0, 1, 0, 0, 1, 0, 0, 0]] (pc 8 [1, 1, 0, 1, 0, 0, 1, 0, 0, 1]))) (pc 8 [1, 1, 0, 1, 0, 0, 1, 1])) := by kernel_rfl
theorem e8 (n : Int) (s : List UInt8) (i : Nat) (k : KX) : evd G8 6 (pc 8 [1, 1, 0, 1, 0, 0, 1, 1]) (st8 n s i) (fun x st => k x (st.keep [0, 2, 3, 4])) = (k HX.normal ⟨slots 23 [(0, (HV.v (Value.int IntKind.i64 n))), (2, (HV.v (Value.slice Option.none 0 0))), (3, (HV.v (Value.string (ByteArray.mk (Array.mk s))))), (4, (HV.v (Value.int IntKind.i64 (fwrap IntKind.i64 (((i : Nat) : Int) + 1)))))], []⟩) := by kernel_rfl
theorem f8 (n : Int) (s : List UInt8) (i : Nat) (k : KX) : evd G8 6 (pc 8 [1, 1, 1]) (st8 n s i) (fun x st => k x (st.keep [2])) = ((decide (((ByteArray.size (ByteArray.mk (Array.mk s))) + 2) ≤ 9223372036854775807)) && (k HX.ret ⟨slots 23 [(2, (HV.d (Cd.list (Cd.int IntKind.u8)) (blist (ByteArray.mk (Array.mk (s ++ [93, 125]))))))], []⟩)) := by kernel_rfl
theorem vw8 (n : Int) (s : List UInt8) (i : Nat) : vw [] 0 (st8 n s i) = st8 n s i := by kernel_rfl
theorem decS_le (i : Nat) (hi : i ≤ 300) : (decS (i : Int)).length ≤ 21 := by
  have := Lib.itoa_length_le (i : Int) (by omega) (by omega)
  unfold Lib.itoa at this
  rw [if_neg (by omega)] at this
  exact this
theorem itemT_le (i : Nat) (hi : i ≤ 300) : (itemT i).length ≤ 47 := by
  have := decS_le i hi
  unfold itemT
  simp only [List.length_append, List.length_cons, List.length_nil]
  omega
theorem bodyT_le : ∀ i, i ≤ 300 → (bodyT i).length ≤ 38 + 48 * i
  | 0, _ => by show topT.length ≤ _; decide
  | i + 1, h => by
    have h1 := bodyT_le i (by omega)
    have h2 := itemT_le i (by omega)
    unfold bodyT
    simp only [List.length_append]
    split <;> simp only [List.length_cons, List.length_nil] <;> omega

theorem do8 {n : Nat} (hn : n ≤ 300) : PureDo Tryz.prog H5 8 [i64 n] (.d (.list (.int .u8)) (blist ⟨⟨bodyT n ++ [93, 125]⟩⟩)) := by
  intro w0 kr h0 hkr
  have hG := gamOK8 h0.1
  have hG6 := gamOK36 h0
  refine does_wpA Tryz.func8 code8 (n := 23) (by kernel_rfl) ?_
  refine evs_ok hG [0, 2, 3] (a8 n) (yes_mk ?_)
  refine wpA_seq (evs_ok hG [0, 2, 3, 4] (b8 n topT) (yes_mk ?_))
  refine wpA_block (wpA_loop (α := { i : Nat // i ≤ n }) (fun i => st8 n (bodyT i.1) i.1) (fun i => n - i.1) (fun i => ?_) ⟨0, Nat.zero_le _⟩)
  obtain ⟨i, hi⟩ := i
  dsimp only
  have hb := bodyT_le i (by omega)
  rw [code8b]
  refine evs_ok hG [0, 2, 3, 4] (c8 n (bodyT i) i) ?_
  rcases Nat.lt_or_ge i n with hlt | hge
  · rw [ltI_true (show (i : Int) < (n : Int) by omega)]
    refine yes_mk ?_
    have hd := decS_le i (by omega)
    have f3 : fwrap .i64 ((i : Int) + 1) = ((i + 1 : Nat) : Int) := fwrap_i64 (by omega) (by omega)
    have rest : ∀ s : List UInt8, s.length ≤ 38 + 48 * i + 1 → s ++ itemT i = bodyT (i + 1) →
        WpA Tryz.prog w0 [] (pc 8 [1, 1, 0, 1, 0, 0, 1, 0, 0, 1]) (st8 n s i) (fun x st' => x = .normal ∧ st' = st8 n (bodyT (i + 1)) i) := by
      intro s hs he
      refine (evd_ok hG6 [0, 2, 3, 4] (g8 decS n s i) ?_).wpA
      have z1 : decide (ByteArray.size (ByteArray.mk (Array.mk s)) + 10 ≤ 9223372036854775807) = true := decide_eq_true (by rw [size_bt]; omega)
      have z2 : decide (Int.toNat ((i : Nat) : Int) < 1000000) = true := decide_eq_true (by rw [Int.toNat_natCast]; omega)
      have z3 : decide (ByteArray.size (ByteArray.mk (Array.mk (s ++ [123, 34, 110, 97, 109, 101, 34, 58, 34, 102]))) + ByteArray.size (ByteArray.mk (Array.mk (decS (i : Int)))) ≤ 9223372036854775807) = true := decide_eq_true (by rw [size_bt, size_bt, List.length_append]; simp only [List.length_cons, List.length_nil]; omega)
      have z4 : decide (ByteArray.size (ByteArray.mk (Array.mk ((s ++ [123, 34, 110, 97, 109, 101, 34, 58, 34, 102]) ++ decS (i : Int)))) + 16 ≤ 9223372036854775807) = true := decide_eq_true (by rw [size_bt, List.length_append, List.length_append]; simp only [List.length_cons, List.length_nil]; omega)
      rw [z1, z2, z3, z4]
      simp only [Bool.true_and]
      refine yes_mk ?_
      have he2 : ((s ++ [123, 34, 110, 97, 109, 101, 34, 58, 34, 102]) ++ decS (i : Int)) ++ [34, 44, 34, 116, 121, 112, 101, 34, 58, 34, 110, 117, 108, 108, 34, 125] = bodyT (i + 1) := by
        rw [← he]; unfold itemT; simp only [List.append_assoc]
      rw [he2]
      first | exact ⟨rfl, rfl⟩ | exact ⟨trivial, rfl⟩
    have step : WpA Tryz.prog w0 [] (pc 8 [1, 1, 0, 1, 0, 0, 1, 1]) (st8 n (bodyT (i + 1)) i) (fun x st' => x = .normal ∧ st' = st8 n (bodyT (i + 1)) (i + 1 : Nat)) := by
      refine (evd_ok hG [0, 2, 3, 4] (e8 n (bodyT (i + 1)) i) ?_).wpA
      simp only [f3]
      first | exact yes_mk ⟨rfl, rfl⟩ | exact yes_mk ⟨trivial, rfl⟩
    refine wpA_seq (wpA_block (evs_ok hG [0, 2, 3, 4] (d8 n (bodyT i) i) ?_))
    by_cases hi0 : 0 < i
    · rw [ltI_true (show (0 : Int) < (i : Int) by omega), cond_true, decide_eq_true (show ByteArray.size (ByteArray.mk (Array.mk (bodyT i))) + 1 ≤ 9223372036854775807 by rw [size_bt]; omega), Bool.true_and]
      refine yes_mk ?_
      refine (rest (bodyT i ++ [44]) (by rw [List.length_append, List.length_cons, List.length_nil]; omega) (by rw [bodyT, if_pos hi0])).mono ?_
      rintro x st' ⟨rfl, rfl⟩
      refine step.mono ?_
      rintro x st' ⟨rfl, rfl⟩
      exact ⟨⟨i + 1, hlt⟩, [], 0, by dsimp only; omega, rfl, vw8 n (bodyT (i + 1)) (i + 1 : Nat)⟩
    · rw [ltI_false (show ¬ (0 : Int) < (i : Int) by omega), cond_false]
      refine yes_mk ?_
      refine (rest (bodyT i) (by omega) (by rw [bodyT, if_neg hi0, List.append_nil])).mono ?_
      rintro x st' ⟨rfl, rfl⟩
      refine step.mono ?_
      rintro x st' ⟨rfl, rfl⟩
      exact ⟨⟨i + 1, hlt⟩, [], 0, by dsimp only; omega, rfl, vw8 n (bodyT (i + 1)) (i + 1 : Nat)⟩
  · have hin : i = n := by omega
    subst hin
    rw [ltI_false (show ¬ (i : Int) < (i : Int) by omega)]
    refine yes_mk ?_
    refine (evd_ok hG [2] (f8 i (bodyT i) i) ?_).wpA
    rw [decide_eq_true (show ByteArray.size (ByteArray.mk (Array.mk (bodyT i))) + 2 ≤ 9223372036854775807 by rw [size_bt]; omega), Bool.true_and]
    refine yes_mk ?_
    show finK Tryz.prog Tryz.f8 [] kr ⟨slots 23 [(2, .d (.list (.int .u8)) (blist ⟨⟨bodyT i ++ [93, 125]⟩⟩))], []⟩ = true
    rw [h8]
    exact hkr
end Go.Proofs.YtiaeljbnhdhfcaaGreatDoor

namespace Go.Proofs.YtiaeljbnhdhfcaaGreatDoor
open Go Go.RowKit Go.Lx Go.Mo

def worksP (args : List HV) : Option (Bool × HV) := match args with
  | [] => some (true, .v (.bool true))
  | _ => none
def manyP (T : Int → List Int) (args : List HV) : Option (Bool × HV) := match args with
  | [.v (.int .i64 n)] => some (decide (0 ≤ n) && decide (n.toNat ≤ 300), .d (.list (.int .u8)) (T n))
  | _ => none
def makeP (M : List Int → Bool) (nodes : List Nd) (e : Int) (args : List HV) : Option (Bool × HV) := match args with
  | [.d (.list (.int .u8)) b, .v (.slice none 0 0)] => some (M b, .tup [.d .av (Av.mk nodes 0), .v (.int .i64 e)])
  | _ => none
def chkP (C : List Nd → Bool) (args : List HV) : Option (Bool × HV) := match args with
  | [.d .av (Av.mk nodes r)] => some (C nodes && decide (r = 0), .v (.int .i64 0))
  | _ => none
noncomputable def G37 (T : Int → List Int) (M : List Int → Bool) (nodes : List Nd) (e : Int) (C : List Nd → Bool) : Gam := addP 7 worksP (addP 8 (manyP T) (addP 9 (makeP M nodes e) (addP 11 (chkP C) G8)))
theorem a3 (T : Int → List Int) (M : List Int → Bool) (nodes : List Nd) (e : Int) (C : List Nd → Bool) (n : Int) (k : KX) : evs (G37 T M nodes e C) 6 [pc 3 [0], pc 3 [1, 0]] ⟨argT 0 [i64 n] ⟨89, .nil⟩, []⟩ (fun x st => k x (st.keep [0, 2])) = (((!(decide ((ltI n 0) = Bool.false))) || Bool.true) && (((!(decide ((ltI n 0) = Bool.false))) || ((((!(decide ((ltI n 0) = Bool.false))) || (decide ((ltI n 0) = Bool.false))) && Bool.true) && Bool.true)) && (((!(!(ltI n 0))) || (decide ((ltI n 0) = Bool.false))) && (bif ((ltI n 0) || (ltI 300 n)) then (k HX.ret ⟨slots 89 [(0, (HV.v (Value.int IntKind.i64 n))), (2, (HV.v (Value.bool Bool.true)))], []⟩) else (k HX.normal ⟨slots 89 [(0, (HV.v (Value.int IntKind.i64 n))), (2, (HV.v (Value.bool Bool.false)))], []⟩))))) := by kernel_rfl
theorem b3 (T : Int → List Int) (M : List Int → Bool) (nodes : List Nd) (e : Int) (C : List Nd → Bool) (n : Nat) (k : KX) : evs (G37 T M nodes e C) 6 [pc 3 [1, 1, 0], pc 3 [1, 1, 1, 0], pc 3 [1, 1, 1, 1, 0], pc 3 [1, 1, 1, 1, 1, 0]] ⟨slots 89 [(0, i64 n), (2, .v (.bool false))], []⟩ (fun x st => k x (st.keep [0, 2, 5, 6])) = ((decide ((Int.toNat ((n : Nat) : Int)) ≤ 300)) && (((decide (0 ≤ (fwrap IntKind.i64 ((((List.length (T ((n : Nat) : Int))) : Nat) : Int) - 2)))) && (decide ((fwrap IntKind.i64 ((((List.length (T ((n : Nat) : Int))) : Nat) : Int) - 2)) ≤ (((List.length (T ((n : Nat) : Int))) : Nat) : Int)))) && (bif (ltI 0 ((n : Nat) : Int)) then ((decide (((ByteArray.size (bback (List.take (Int.toNat (fwrap IntKind.i64 ((((List.length (T ((n : Nat) : Int))) : Nat) : Int) - 2))) (T ((n : Nat) : Int))))) + 1) ≤ 9223372036854775807)) && ((decide (((ByteArray.size (ByteArray.mk (Array.mk ((Array.toList (ByteArray.data (bback (List.take (Int.toNat (fwrap IntKind.i64 ((((List.length (T ((n : Nat) : Int))) : Nat) : Int) - 2))) (T ((n : Nat) : Int)))))) ++ [44])))) + 25) ≤ 9223372036854775807)) && ((M (blist (ByteArray.mk (Array.mk (((Array.toList (ByteArray.data (bback (List.take (Int.toNat (fwrap IntKind.i64 ((((List.length (T ((n : Nat) : Int))) : Nat) : Int) - 2))) (T ((n : Nat) : Int)))))) ++ [44]) ++ [123, 34, 110, 97, 109, 101, 34, 58, 34, 122, 34, 44, 34, 116, 121, 112, 101, 34, 58, 34, 82, 34, 125, 93, 125]))))) && (k HX.normal ⟨slots 89 [(0, (HV.v (Value.int IntKind.i64 ((n : Nat) : Int)))), (2, (HV.v (Value.bool Bool.false))), (5, (HV.ptr 0 0)), (6, (HV.v (Value.int IntKind.i64 e)))], [(Ob.box 27 (HV.d Cd.av (Av.mk nodes 0)))]⟩)))) else ((decide (((ByteArray.size (bback (List.take (Int.toNat (fwrap IntKind.i64 ((((List.length (T ((n : Nat) : Int))) : Nat) : Int) - 2))) (T ((n : Nat) : Int))))) + 25) ≤ 9223372036854775807)) && ((M (blist (ByteArray.mk (Array.mk ((Array.toList (ByteArray.data (bback (List.take (Int.toNat (fwrap IntKind.i64 ((((List.length (T ((n : Nat) : Int))) : Nat) : Int) - 2))) (T ((n : Nat) : Int)))))) ++ [123, 34, 110, 97, 109, 101, 34, 58, 34, 122, 34, 44, 34, 116, 121, 112, 101, 34, 58, 34, 82, 34, 125, 93, 125]))))) && (k HX.normal ⟨slots 89 [(0, (HV.v (Value.int IntKind.i64 ((n : Nat) : Int)))), (2, (HV.v (Value.bool Bool.false))), (5, (HV.ptr 0 0)), (6, (HV.v (Value.int IntKind.i64 e)))], [(Ob.box 27 (HV.d Cd.av (Av.mk nodes 0)))]⟩)))))) := by kernel_rfl
theorem f3 (b : Bool) (o : Ob) (kr : KR) : finK Tryz.prog Tryz.f3 [] kr ⟨slots 89 [(2, .v (.bool b))], [o]⟩ = (kr (HR.ret (HV.v (Value.bool b))) []) := by kernel_rfl
theorem f3b (b : Bool) (o o' : Ob) (kr : KR) : finK Tryz.prog Tryz.f3 [] kr ⟨slots 89 [(2, .v (.bool b))], [o, o']⟩ = (kr (HR.ret (HV.v (Value.bool b))) []) := by kernel_rfl
theorem f3c (n : Int) (b : Bool) (kr : KR) : finK Tryz.prog Tryz.f3 [] kr ⟨slots 89 [(0, i64 n), (2, .v (.bool b))], []⟩ = (kr (HR.ret (HV.v (Value.bool b))) []) := by kernel_rfl
theorem code3 : Tryz.f3.body = some (seqs [pc 3 [0], pc 3 [1, 0]] (seqs [pc 3 [1, 1, 0], pc 3 [1, 1, 1, 0], pc 3 [1, 1, 1, 1, 0], pc 3 [1, 1, 1, 1, 1, 0]] (pc 3 [1, 1, 1, 1, 1, 1]))) := by kernel_rfl
theorem code3b : pc 3 [1, 1, 1, 1, 1, 1] = seqs [pc 3 [1, 1, 1, 1, 1, 1, 0], pc 3 [1, 1, 1, 1, 1, 1, 1, 0], pc 3 [1, 1, 1, 1, 1, 1, 1, 1, 0]] (pc 3 [1, 1, 1, 1, 1, 1, 1, 1, 1]) := by kernel_rfl
theorem c3 (T : Int → List Int) (M : List Int → Bool) (nodes : List Nd) (C : List Nd → Bool) (n : Nat) (k : KX) : evd (G37 T M nodes 190 C) 6 (pc 3 [1, 1, 1, 1, 1, 1]) ⟨slots 89 [(0, i64 n), (2, .v (.bool false)), (5, .ptr 0 0), (6, i64 190)], [.box 27 (.d .av (Av.mk nodes 0))]⟩ (fun x st => k x (st.keep [2])) = (bif (!(ltI ((n : Nat) : Int) 256)) then (k HX.ret ⟨slots 89 [(2, (HV.v (Value.bool Bool.true)))], [(Ob.box 27 (HV.d Cd.av (Av.mk nodes 0)))]⟩) else (k HX.ret ⟨slots 89 [(2, (HV.v (Value.bool Bool.false)))], [(Ob.box 27 (HV.d Cd.av (Av.mk nodes 0)))]⟩)) := by kernel_rfl
theorem d3 (T : Int → List Int) (M : List Int → Bool) (fs : List Fld) (ns : List Nd) (C : List Nd → Bool) (n : Nat) (k : KX) : evs (G37 T M (ndR fs :: ns) 0 C) 6 [pc 3 [1, 1, 1, 1, 1, 1, 0], pc 3 [1, 1, 1, 1, 1, 1, 1, 0], pc 3 [1, 1, 1, 1, 1, 1, 1, 1, 0]] ⟨slots 89 [(0, i64 n), (2, .v (.bool false)), (5, .ptr 0 0), (6, i64 0)], [.box 27 (.d .av (Av.mk (ndR fs :: ns) 0))]⟩ (fun x st => k x (st.keep [0, 2, 5, 6, 7])) = (bif (!(ltI ((n : Nat) : Int) 256)) then (k HX.ret ⟨slots 89 [(0, (HV.v (Value.int IntKind.i64 ((n : Nat) : Int)))), (2, (HV.v (Value.bool Bool.false))), (5, (HV.ptr 0 0)), (6, (HV.v (Value.int IntKind.i64 0))), (7, HV.junk)], [(Ob.box 27 (HV.d Cd.av (Av.mk ((Nd.mk 8 (ByteArray.mk (Array.mk [82])) fs [] Bool.false (ByteArray.mk (Array.mk [])) 0 []) :: ns) 0)))]⟩) else (((!(decide ((!(decide (((((List.length ns) + 1) : Nat) : Int) = (fwrap IntKind.i64 (((n : Nat) : Int) + 1))))) = Bool.false))) || Bool.true) && (((!(decide ((!(decide (((((List.length ns) + 1) : Nat) : Int) = (fwrap IntKind.i64 (((n : Nat) : Int) + 1))))) = Bool.false))) || (((!(decide ((!(decide (((((List.length ns) + 1) : Nat) : Int) = (fwrap IntKind.i64 (((n : Nat) : Int) + 1))))) = Bool.false))) || (decide ((!(decide (((((List.length ns) + 1) : Nat) : Int) = (fwrap IntKind.i64 (((n : Nat) : Int) + 1))))) = Bool.false))) && Bool.true)) && (((!(decide ((!(decide (((((List.length ns) + 1) : Nat) : Int) = (fwrap IntKind.i64 (((n : Nat) : Int) + 1))))) = Bool.false))) || ((((!(decide ((!(decide (((((List.length ns) + 1) : Nat) : Int) = (fwrap IntKind.i64 (((n : Nat) : Int) + 1))))) = Bool.false))) || (decide ((!(decide (((((List.length ns) + 1) : Nat) : Int) = (fwrap IntKind.i64 (((n : Nat) : Int) + 1))))) = Bool.false))) && Bool.true) && (decide (0 < ((((List.length ns) + (OfNat.ofNat 1)) : Nat) : Int))))) && (((!(decide ((!(decide (((((List.length ns) + 1) : Nat) : Int) = (fwrap IntKind.i64 (((n : Nat) : Int) + 1))))) = Bool.false))) || ((!(decide ((!(decide (((((List.length ns) + 1) : Nat) : Int) = (fwrap IntKind.i64 (((n : Nat) : Int) + 1))))) = Bool.false))) || (decide ((!(decide (((((List.length ns) + 1) : Nat) : Int) = (fwrap IntKind.i64 (((n : Nat) : Int) + 1))))) = Bool.false)))) && (((!(decide ((!(decide (((((List.length ns) + 1) : Nat) : Int) = (fwrap IntKind.i64 (((n : Nat) : Int) + 1))))) = Bool.false))) || (((!(decide ((!(decide (((((List.length ns) + 1) : Nat) : Int) = (fwrap IntKind.i64 (((n : Nat) : Int) + 1))))) = Bool.false))) || (decide ((!(decide (((((List.length ns) + 1) : Nat) : Int) = (fwrap IntKind.i64 (((n : Nat) : Int) + 1))))) = Bool.false))) && Bool.true)) && (((!(decide ((!(decide (((((List.length ns) + 1) : Nat) : Int) = (fwrap IntKind.i64 (((n : Nat) : Int) + 1))))) = Bool.false))) || ((!(decide ((!(decide (((((List.length ns) + 1) : Nat) : Int) = (fwrap IntKind.i64 (((n : Nat) : Int) + 1))))) = Bool.false))) || (decide ((!(decide (((((List.length ns) + 1) : Nat) : Int) = (fwrap IntKind.i64 (((n : Nat) : Int) + 1))))) = Bool.false)))) && (((!(decide ((!(decide (((((List.length ns) + 1) : Nat) : Int) = (fwrap IntKind.i64 (((n : Nat) : Int) + 1))))) = Bool.false))) || Bool.true) && (((!(decide ((!(decide (((((List.length ns) + 1) : Nat) : Int) = (fwrap IntKind.i64 (((n : Nat) : Int) + 1))))) = Bool.false))) || ((((!(decide ((!(decide (((((List.length ns) + 1) : Nat) : Int) = (fwrap IntKind.i64 (((n : Nat) : Int) + 1))))) = Bool.false))) || (decide ((!(decide (((((List.length ns) + 1) : Nat) : Int) = (fwrap IntKind.i64 (((n : Nat) : Int) + 1))))) = Bool.false))) && Bool.true) && Bool.true)) && (((!(decide ((!(decide (((((List.length ns) + 1) : Nat) : Int) = (fwrap IntKind.i64 (((n : Nat) : Int) + 1))))) = Bool.false))) || ((((!(decide ((!(decide (((((List.length ns) + 1) : Nat) : Int) = (fwrap IntKind.i64 (((n : Nat) : Int) + 1))))) = Bool.false))) || (decide ((!(decide (((((List.length ns) + 1) : Nat) : Int) = (fwrap IntKind.i64 (((n : Nat) : Int) + 1))))) = Bool.false))) && ((!(decide ((!(decide (((((List.length ns) + 1) : Nat) : Int) = (fwrap IntKind.i64 (((n : Nat) : Int) + 1))))) = Bool.false))) || (decide ((!(decide (((((List.length ns) + 1) : Nat) : Int) = (fwrap IntKind.i64 (((n : Nat) : Int) + 1))))) = Bool.false)))) && Bool.true)) && (((!(!(!(decide (((((List.length ns) + 1) : Nat) : Int) = (fwrap IntKind.i64 (((n : Nat) : Int) + 1))))))) || (decide ((!(decide (((((List.length ns) + 1) : Nat) : Int) = (fwrap IntKind.i64 (((n : Nat) : Int) + 1))))) = Bool.false))) && (bif ((!(decide (((((List.length ns) + 1) : Nat) : Int) = (fwrap IntKind.i64 (((n : Nat) : Int) + 1))))) || (!(decide ((((List.length fs) : Nat) : Int) = (fwrap IntKind.i64 (((n : Nat) : Int) + 1)))))) then (k HX.ret ⟨slots 89 [(0, (HV.v (Value.int IntKind.i64 ((n : Nat) : Int)))), (2, (HV.v (Value.bool Bool.false))), (5, (HV.ptr 0 0)), (6, (HV.v (Value.int IntKind.i64 0))), (7, HV.junk)], [(Ob.box 27 (HV.d Cd.av (Av.mk ((Nd.mk 8 (ByteArray.mk (Array.mk [82])) fs [] Bool.false (ByteArray.mk (Array.mk [])) 0 []) :: ns) 0)))]⟩) else ((decide (0 < ((((List.length ns) + 1) : Nat) : Int))) && ((decide (((n : Nat) : Int) < (((List.length fs) : Nat) : Int))) && (k HX.normal ⟨slots 89 [(0, (HV.v (Value.int IntKind.i64 ((n : Nat) : Int)))), (2, (HV.v (Value.bool Bool.false))), (5, (HV.ptr 0 0)), (6, (HV.v (Value.int IntKind.i64 0))), (7, (HV.ptr 1 0))], [(Ob.box 27 (HV.d Cd.av (Av.mk ((Nd.mk 8 (ByteArray.mk (Array.mk [82])) fs [] Bool.false (ByteArray.mk (Array.mk [])) 0 []) :: ns) 0))), (Ob.box 45 (HV.d Cd.fld (List.getD fs (Int.toNat ((n : Nat) : Int)) (Fld.mk (ByteArray.mk (Array.mk [])) 0 Bool.false (J.mk 0 Bool.false (Dec.mk Bool.false (ByteArray.mk (Array.mk [])) 0) (ByteArray.mk (Array.mk [])) [] [])))))]⟩))))))))))))))) := by kernel_rfl
theorem e3 (T : Int → List Int) (M : List Int → Bool) (fs : List Fld) (ns : List Nd) (C : List Nd → Bool) (n : Nat) (k : KX) : evd (G37 T M (ndR fs :: ns) 0 C) 6 (pc 3 [1, 1, 1, 1, 1, 1, 1, 1, 1]) ⟨slots 89 [(0, i64 n), (2, .v (.bool false)), (5, .ptr 0 0), (6, i64 0), (7, .ptr 1 0)], [.box 27 (.d .av (Av.mk (ndR fs :: ns) 0)), .box 45 (.d .fld (Fld.mk ⟨⟨[122]⟩⟩ 0 false zJ))]⟩ (fun x st => k x (st.keep [2])) = (((C ((Nd.mk 8 (ByteArray.mk (Array.mk [82])) fs [] Bool.false (ByteArray.mk (Array.mk [])) 0 []) :: ns)) && Bool.true) && (k HX.ret ⟨slots 89 [(2, (HV.v (Value.bool Bool.true)))], [(Ob.box 27 (HV.d Cd.av (Av.mk ((Nd.mk 8 (ByteArray.mk (Array.mk [82])) fs [] Bool.false (ByteArray.mk (Array.mk [])) 0 []) :: ns) 0))), (Ob.box 45 (HV.d Cd.fld (Fld.mk (ByteArray.mk (Array.mk [122])) 0 Bool.false (J.mk 0 Bool.false (Dec.mk Bool.false (ByteArray.mk (Array.mk [])) 0) (ByteArray.mk (Array.mk [])) [] []))))]⟩)) := by kernel_rfl
def itemsN (n : Nat) : List Item := (List.range n).map (fun (i : Nat) => ((102 :: decS (i : Int) : List UInt8), false)) ++ [(([122] : List UInt8), true)]
def zT : List UInt8 := [123, 34, 110, 97, 109, 101, 34, 58, 34, 122, 34, 44, 34, 116, 121, 112, 101, 34, 58, 34, 82, 34, 125, 93, 125]
def textN (n : Nat) : List UInt8 := bodyT n ++ (if 0 < n then [44] else []) ++ zT
theorem itemsN_length (n : Nat) : (itemsN n).length = n + 1 := by simp [itemsN]
theorem itemsN_nulls (n : Nat) : nulls (itemsN n) = n := by
  unfold itemsN
  rw [nulls_snoc]
  have : nulls ((List.range n).map (fun (i : Nat) => ((102 :: decS (i : Int) : List UInt8), false))) = n := by
    unfold nulls
    rw [List.filter_eq_self.2 (by intro a ha; obtain ⟨i, _, rfl⟩ := List.mem_map.1 ha; rfl)]
    simp
  rw [this]; rfl
theorem itemsN_ne (n : Nat) : itemsN n ≠ [] := by simp [itemsN]

/-- What is left for the plain law. -/
structure Plain (n : Nat) : Prop where
  parse : PureDo Tryz.prog H4 24 [.d (.list (.int .u8)) (blist ⟨⟨textN n⟩⟩)] (.tup [.d .json (topV ((itemsN n).map itemJ)), i64 0])
  items : ∃ m, m ≤ 1000 ∧ ItemsOk m (itemsN n)
  names : namesB (namesOf (itemsN n)) = true ∨ 256 ≤ n
  works : PureDo Tryz.prog H4 7 [] (.v (.bool true))

noncomputable def T37 (n : Int) : List Int := blist ⟨⟨bodyT n.toNat ++ [93, 125]⟩⟩
noncomputable def M37 (n : Nat) (b : List Int) : Bool := yes (b = blist ⟨⟨textN n⟩⟩)
noncomputable def C37 (n : Nat) (b : List Nd) : Bool := yes (b = nodesOf (itemsN n) ∧ n < 256)
def nodes37 (n : Nat) : List Nd := if n < 256 then nodesOf (itemsN n) else []
def err37 (n : Nat) : Int := if n < 256 then 0 else 190

theorem gamOK37 {w0 : World} (h0 : H5 w0) {n : Nat} (hn : n ≤ 300) (hp : Plain n) : GamOK Tryz.prog w0 (G37 T37 (M37 n) (nodes37 n) (err37 n) (C37 n)) := by
  obtain ⟨m, hm, hi⟩ := hp.items
  have hlen := itemsN_length n
  have hnu := itemsN_nulls n
  refine addP_ok (addP_ok (addP_ok (addP_ok (gamOK8 h0.1) ⟨_, Tryz.func11, rfl⟩ ?_) ⟨_, Tryz.func9, rfl⟩ ?_) ⟨_, Tryz.func8, rfl⟩ ?_) ⟨_, Tryz.func7, rfl⟩ ?_
  · intro args r h h1
    unfold chkP at h
    split at h
    · cases h
      simp only [Bool.and_eq_true, decide_eq_true_eq] at h1
      obtain ⟨h2, rfl⟩ := h1
      obtain ⟨rfl, hlt⟩ := of_yes h2
      have hnm : namesB (namesOf (itemsN n)) = true := hp.names.resolve_right (by omega)
      exact pureAns lasts4 (do11 (itemsN_ne n) (by omega) (by omega) hnm) rfl rfl h0.1
    · cases h
  · intro args r h h1
    unfold makeP at h
    split at h
    · rename_i b
      cases h
      obtain rfl := of_yes h1
      by_cases hlt : n < 256
      · have e1 : nodes37 n = nodesOf (itemsN n) := if_pos hlt
        have e2 : err37 n = 0 := if_pos hlt
        rw [e1, e2]
        exact pureAns lasts4 (do9 hm hi (itemsN_ne n) (by omega) (by omega) hp.parse) rfl rfl h0.1
      · have e1 : nodes37 n = [] := if_neg hlt
        have e2 : err37 n = 190 := if_neg hlt
        rw [e1, e2]
        exact pureAns lasts4 (do9p hm hi (by omega) hp.parse) rfl rfl h0.1
    · cases h
  · intro args r h h1
    unfold manyP at h
    split at h
    · rename_i k
      cases h
      simp only [Bool.and_eq_true, decide_eq_true_eq] at h1
      obtain ⟨h2, h3⟩ := h1
      obtain ⟨k, rfl⟩ := Int.eq_ofNat_of_zero_le h2
      exact pureAns lasts5 (do8 (n := k) (by simpa using h3)) rfl rfl h0
    · cases h
  · intro args r h h1
    unfold worksP at h
    split at h
    · cases h
      exact pureAns lasts4 hp.works rfl rfl h0.1
    · cases h
theorem itemsN_last (n : Nat) : (itemsN n)[n]? = some ([122], true) := by
  unfold itemsN
  rw [List.getElem?_append_right (by simp)]
  simp

theorem do3 {n : Nat} (hn : n ≤ 300) (hp : Plain n) : PureDo Tryz.prog H5 3 [i64 n] (.v (.bool true)) := by
  intro w0 kr h0 hkr
  have hG := gamOK37 h0 hn hp
  refine does_wpA Tryz.func3 code3 (n := 89) (by kernel_rfl) ?_
  refine evs_ok hG [0, 2] (a3 _ _ _ _ _ n) ?_
  simp only [ltI_false (show ¬ (n : Int) < 0 by omega), ltI_false (show ¬ (300 : Int) < (n : Int) by omega), decide_true, decide_false, Bool.not_true, Bool.not_false, Bool.true_and, Bool.and_true, Bool.or_true, Bool.true_or, Bool.false_or, Bool.or_false, Bool.and_self, Bool.and_false, Bool.false_and, cond_true, cond_false, reduceCtorEq]
  refine yes_mk ?_
  refine evs_ok hG [0, 2, 5, 6] (b3 _ _ _ _ _ n) ?_
  have hb := bodyT_le n hn
  have hT : T37 (n : Int) = blist ⟨⟨bodyT n ++ [93, 125]⟩⟩ := rfl
  have hTl : (T37 (n : Int)).length = (bodyT n).length + 2 := by rw [hT]; simp [blist]
  have hfw : fwrap .i64 ((((T37 (n : Int)).length : Nat) : Int) - 2) = (((bodyT n).length : Nat) : Int) := by
    rw [hTl, show (((bodyT n).length + 2 : Nat) : Int) - 2 = (((bodyT n).length : Nat) : Int) by omega]
    exact fwrap_i64 (by omega) (by omega)
  have htk : bback (List.take (bodyT n).length (T37 (n : Int))) = ⟨⟨bodyT n⟩⟩ := by
    rw [hT]
    unfold blist
    rw [← List.map_take]
    have : List.take (bodyT n).length (ByteArray.mk (Array.mk (bodyT n ++ [93, 125]))).data.toList = bodyT n := by
      show List.take (bodyT n).length (bodyT n ++ [93, 125]) = bodyT n
      rw [List.take_append_of_le_length (Nat.le_refl _), List.take_length]
    rw [this]
    exact bback_blist (bodyT n)
  simp only [hfw, Int.toNat_natCast, htk, decide_eq_true hn, decide_eq_true (show (0 : Int) ≤ (((bodyT n).length : Nat) : Int) by omega), decide_eq_true (show (((bodyT n).length : Nat) : Int) ≤ (((T37 (n : Int)).length : Nat) : Int) by omega), decide_true, decide_false, Bool.not_true, Bool.not_false, Bool.true_and, Bool.and_true, Bool.or_true, Bool.true_or, Bool.false_or, Bool.or_false, Bool.and_self, Bool.and_false, Bool.false_and, cond_true, cond_false, reduceCtorEq]
  have z1 : ByteArray.size ⟨⟨bodyT n⟩⟩ + 1 ≤ 9223372036854775807 := by rw [size_bt]; omega
  have z2 : ByteArray.size ⟨⟨bodyT n ++ [44]⟩⟩ + 25 ≤ 9223372036854775807 := by rw [size_bt, List.length_append, List.length_cons, List.length_nil]; omega
  have z3 : ByteArray.size ⟨⟨bodyT n⟩⟩ + 25 ≤ 9223372036854775807 := by rw [size_bt]; omega
  have rest : WpA Tryz.prog w0 [] (pc 3 [1, 1, 1, 1, 1, 1]) ⟨slots 89 [(0, i64 n), (2, .v (.bool false)), (5, .ptr 0 0), (6, i64 (err37 n))], [.box 27 (.d .av (Av.mk (nodes37 n) 0))]⟩ (fun x st => match x with
      | .normal => finK Tryz.prog Tryz.f3 [] kr st = true
      | .ret => finK Tryz.prog Tryz.f3 [] kr st = true
      | .panic h => kr (.panic h) (trunc ([] : List Ob).length h st.L) = true
      | _ => False) := by
    by_cases hlt : n < 256
    · have e1 : nodes37 n = nodesOf (itemsN n) := if_pos hlt
      have e2 : err37 n = 0 := if_pos hlt
      rw [e1, e2] at hG ⊢
      have hC : C37 n (nodesOf (itemsN n)) = true := yes_mk ⟨rfl, hlt⟩
      unfold nodesOf at hG hC ⊢
      rw [code3b]
      refine evs_ok hG [0, 2, 5, 6, 7] (d3 _ _ (fldsFrom 1 (itemsN n)) (List.replicate (nulls (itemsN n)) ndN) _ n) ?_
      have f3 : fwrap .i64 ((n : Int) + 1) = ((n + 1 : Nat) : Int) := fwrap_i64 (by omega) (by omega)
      have l1 : (List.replicate (nulls (itemsN n)) ndN).length = n := by rw [List.length_replicate, itemsN_nulls]
      have l2 : (fldsFrom 1 (itemsN n)).length = n + 1 := by rw [fldsFrom_length, itemsN_length]
      have hg : List.getD (fldsFrom 1 (itemsN n)) n (Fld.mk (ByteArray.mk (Array.mk [])) 0 false (J.mk 0 false (Dec.mk false (ByteArray.mk (Array.mk [])) 0) (ByteArray.mk (Array.mk [])) [] [])) = Fld.mk ⟨⟨[122]⟩⟩ 0 false zJ := by
        rw [List.getD_eq_getElem?_getD, fldsFrom_get (itemsN_last n)]; rfl
      simp only [ltI_true (show (n : Int) < 256 by omega), l1, l2, f3, hg, Int.toNat_natCast, decide_eq_true (show (0 : Int) < ((n + 1 : Nat) : Int) by omega), decide_eq_true (show (n : Int) < ((n + 1 : Nat) : Int) by omega), decide_true, decide_false, Bool.not_true, Bool.not_false, Bool.true_and, Bool.and_true, Bool.or_true, Bool.true_or, Bool.false_or, Bool.or_false, Bool.and_self, Bool.and_false, Bool.false_and, cond_true, cond_false, reduceCtorEq]
      refine yes_mk ?_
      refine (evd_ok hG [2] (e3 _ _ (fldsFrom 1 (itemsN n)) (List.replicate (nulls (itemsN n)) ndN) _ n) ?_).wpA
      simp only [hC, Bool.true_and, Bool.and_true]
      refine yes_mk ?_
      refine fin_cast (st' := ⟨slots 89 [(2, .v (.bool true))], [.box 27 (.d .av (Av.mk (ndR (fldsFrom 1 (itemsN n)) :: List.replicate (nulls (itemsN n)) ndN) 0)), .box 45 (.d .fld (Fld.mk ⟨⟨[122]⟩⟩ 0 false zJ))]⟩) rfl ?_
      rw [f3b]
      exact hkr
    · have e1 : nodes37 n = [] := if_neg hlt
      have e2 : err37 n = 190 := if_neg hlt
      rw [e1, e2] at hG ⊢
      refine (evd_ok hG [2] (c3 _ _ _ _ n) ?_).wpA
      rw [ltI_false (show ¬ (n : Int) < 256 by omega)]
      refine yes_mk ?_
      show finK Tryz.prog Tryz.f3 [] kr ⟨slots 89 [(2, .v (.bool true))], [.box 27 (.d .av (Av.mk [] 0))]⟩ = true
      rw [f3]
      exact hkr
  by_cases hn0 : 0 < n
  · have hm : M37 n (blist ⟨⟨(bodyT n ++ [44]) ++ zT⟩⟩) = true := yes_mk (by unfold textN; rw [if_pos hn0])
    unfold zT at hm
    simp only [ltI_true (show (0 : Int) < (n : Int) by omega), decide_eq_true z1, decide_eq_true z2, hm, decide_true, decide_false, Bool.not_true, Bool.not_false, Bool.true_and, Bool.and_true, Bool.or_true, Bool.true_or, Bool.false_or, Bool.or_false, Bool.and_self, Bool.and_false, Bool.false_and, cond_true, cond_false, reduceCtorEq]
    exact yes_mk rest
  · have hm : M37 n (blist ⟨⟨bodyT n ++ zT⟩⟩) = true := yes_mk (by unfold textN; rw [if_neg hn0, List.append_nil])
    unfold zT at hm
    simp only [ltI_false (show ¬ (0 : Int) < (n : Int) by omega), decide_eq_true z3, hm, decide_true, decide_false, Bool.not_true, Bool.not_false, Bool.true_and, Bool.and_true, Bool.or_true, Bool.true_or, Bool.false_or, Bool.or_false, Bool.and_self, Bool.and_false, Bool.false_and, cond_true, cond_false, reduceCtorEq]
    exact yes_mk rest
theorem do3n {n : Int} (hn : n < 0 ∨ 300 < n) (hw : PureDo Tryz.prog H4 7 [] (.v (.bool true))) : PureDo Tryz.prog H5 3 [i64 n] (.v (.bool true)) := by
  intro w0 kr h0 hkr
  have hG : GamOK Tryz.prog w0 (G37 T37 (fun _ => false) [] 0 (fun _ => false)) := by
    refine addP_ok (addP_ok (addP_ok (addP_ok (gamOK8 h0.1) ⟨_, Tryz.func11, rfl⟩ ?_) ⟨_, Tryz.func9, rfl⟩ ?_) ⟨_, Tryz.func8, rfl⟩ ?_) ⟨_, Tryz.func7, rfl⟩ ?_
    · intro args r h h1
      unfold chkP at h
      split at h
      · cases h; cases h1
      · cases h
    · intro args r h h1
      unfold makeP at h
      split at h
      · cases h; cases h1
      · cases h
    · intro args r h h1
      unfold manyP at h
      split at h
      · rename_i k
        cases h
        simp only [Bool.and_eq_true, decide_eq_true_eq] at h1
        obtain ⟨h2, h3⟩ := h1
        obtain ⟨k, rfl⟩ := Int.eq_ofNat_of_zero_le h2
        exact pureAns lasts5 (do8 (n := k) (by simpa using h3)) rfl rfl h0
      · cases h
    · intro args r h h1
      unfold worksP at h
      split at h
      · cases h
        exact pureAns lasts4 hw rfl rfl h0.1
      · cases h
  refine does_wpA Tryz.func3 code3 (n := 89) (by kernel_rfl) ?_
  refine evs_ok hG [0, 2] (a3 _ _ _ _ _ n) ?_
  have hfin : finK Tryz.prog Tryz.f3 [] kr ⟨slots 89 [(0, i64 n), (2, .v (.bool true))], []⟩ = true := by rw [f3c]; exact hkr
  by_cases h1 : n < 0
  · simp only [ltI_true h1, decide_true, decide_false, Bool.not_true, Bool.not_false, Bool.true_and, Bool.and_true, Bool.or_true, Bool.true_or, Bool.false_or, Bool.or_false, Bool.and_self, Bool.and_false, Bool.false_and, cond_true, cond_false, reduceCtorEq]
    exact yes_mk hfin
  · simp only [ltI_false h1, ltI_true (show (300 : Int) < n by omega), decide_true, decide_false, Bool.not_true, Bool.not_false, Bool.true_and, Bool.and_true, Bool.or_true, Bool.true_or, Bool.false_or, Bool.or_false, Bool.and_self, Bool.and_false, Bool.false_and, cond_true, cond_false, reduceCtorEq]
    exact yes_mk hfin
end Go.Proofs.YtiaeljbnhdhfcaaGreatDoor

namespace Go.Proofs.YtiaeljbnhdhfcaaGreatDoor
open Go Go.RowKit Go.Lx Go.Mo

def valD (l : List UInt8) : Nat := l.foldl (fun a c => 10 * a + (c.toNat - 48)) 0
theorem u8 {k : Nat} (h : k < 10) : (UInt8.ofNat (48 + k)).toNat = 48 + k := by
  rw [UInt8.toNat_ofNat']; omega
theorem decDigits_law (u : Nat) : valD (Lib.decDigits u) = u ∧ ∀ c ∈ Lib.decDigits u, 48 ≤ c.toNat ∧ c.toNat ≤ 57 := by
  induction u using Nat.strongRecOn with
  | _ u ih =>
    rw [Lib.decDigits]
    split
    · rename_i h
      refine ⟨?_, fun c hc => ?_⟩
      · show 10 * 0 + ((UInt8.ofNat (48 + u)).toNat - 48) = u
        rw [u8 h]; omega
      · rw [List.mem_singleton] at hc
        rw [hc, u8 h]; omega
    · rename_i h
      obtain ⟨h1, h2⟩ := ih (u / 10) (by omega)
      have h3 : u % 10 < 10 := Nat.mod_lt _ (by decide)
      refine ⟨?_, fun c hc => ?_⟩
      · unfold valD at *
        rw [List.foldl_append, h1]
        show 10 * (u / 10) + ((UInt8.ofNat (48 + u % 10)).toNat - 48) = u
        rw [u8 h3]; omega
      · rcases List.mem_append.1 hc with hc | hc
        · exact h2 c hc
        · rw [List.mem_singleton] at hc
          rw [hc, u8 h3]; omega
theorem decS_inj {i j : Nat} (h : decS (i : Int) = decS (j : Int)) : i = j := by
  have h1 := (decDigits_law i).1
  have h2 := (decDigits_law j).1
  unfold decS at h
  rw [Int.toNat_natCast, Int.toNat_natCast] at h
  rw [← h1, ← h2, h]
theorem decS_digit (i : Nat) : ∀ c ∈ decS (i : Int), 48 ≤ c.toNat ∧ c.toNat ≤ 57 := by
  unfold decS; rw [Int.toNat_natCast]; exact (decDigits_law i).2
theorem distB_of : ∀ {l : List ByteArray}, l.Pairwise (fun a b => a ≠ b) → distB l = true
  | [], _ => rfl
  | a :: l, h => by
    rw [List.pairwise_cons] at h
    unfold distB
    rw [distB_of h.2, Bool.and_true, Bool.not_eq_true', List.any_eq_false]
    intro x hx hb
    exact h.1 x hx (beqS_iff.1 hb)
theorem namesN (n : Nat) : namesOf (itemsN n) = (List.range n).map (fun (i : Nat) => (⟨⟨102 :: decS (i : Int)⟩⟩ : ByteArray)) ++ [⟨⟨[122]⟩⟩] := by
  unfold namesOf itemsN
  rw [List.map_append, List.map_map]
  rfl
theorem distN (n : Nat) : distB (namesOf (itemsN n)) = true := by
  rw [namesN]
  refine distB_of ?_
  rw [List.pairwise_append]
  refine ⟨?_, List.pairwise_singleton _ _, ?_⟩
  · rw [List.pairwise_map]
    refine List.Pairwise.imp ?_ List.pairwise_lt_range
    intro a b hab he
    have h1 : (102 :: decS (a : Int) : List UInt8) = 102 :: decS (b : Int) := congrArg (fun x : ByteArray => x.data.toList) he
    have := decS_inj (List.cons.inj h1).2
    omega
  · intro a ha b hb
    obtain ⟨i, _, rfl⟩ := List.mem_map.1 ha
    rw [List.mem_singleton] at hb
    subst hb
    intro he
    have h1 : (102 :: decS (i : Int) : List UInt8) = [122] := congrArg (fun x : ByteArray => x.data.toList) he
    have := (List.cons.inj h1).1
    exact absurd this (by decide)
theorem okBytes_digits : ∀ (l : List UInt8) (k : Nat), 0 < k → (∀ c ∈ l, 48 ≤ c.toNat ∧ c.toNat ≤ 57) → okBytes k (nums l) = true
  | [], _, _, _ => rfl
  | c :: l, k, hk, h => by
    have h1 := h c (List.mem_cons_self ..)
    show (okByte k (((c.toNat : Nat) : Int)) && okBytes (k + 1) (nums l)) = true
    rw [okBytes_digits l (k + 1) (by omega) (fun x hx => h x (List.mem_cons_of_mem _ hx)), Bool.and_true]
    unfold okByte
    rw [decide_eq_false (show ¬ k = 0 by omega), decide_eq_true (show (48 : Int) ≤ ((c.toNat : Nat) : Int) by omega), decide_eq_true (show ((c.toNat : Nat) : Int) ≤ 57 by omega)]
    simp
theorem partF (i : Nat) (hi : i ≤ 300) : partB (102 :: decS (i : Int)) = true := by
  have hl := decS_le i hi
  unfold partB
  have h1 : okBytes 0 (nums (102 :: decS (i : Int))) = true := by
    show (okByte 0 102 && okBytes 1 (nums (decS (i : Int)))) = true
    rw [okBytes_digits _ 1 (by omega) (decS_digit i)]
    rfl
  rw [h1, decide_eq_true (show (102 :: decS (i : Int)).length ≤ 100000000 by rw [List.length_cons]; omega)]
  rfl
theorem partZ : partB [122] = true := by kernel_rfl
theorem namesN_ok {n : Nat} (hn : n ≤ 255) : namesB (namesOf (itemsN n)) = true := by
  unfold namesB
  rw [distN, Bool.and_true, Bool.and_eq_true]
  refine ⟨?_, decide_eq_true (by unfold namesOf; rw [List.length_map, itemsN_length]; omega)⟩
  rw [List.all_eq_true, namesN]
  intro a ha
  rcases List.mem_append.1 ha with ha | ha
  · obtain ⟨i, hi, rfl⟩ := List.mem_map.1 ha
    rw [List.mem_range] at hi
    have hl := decS_le i (by omega)
    rw [Bool.and_eq_true]
    exact ⟨partF i (by omega), decide_eq_true (by rw [size_bt, List.length_cons]; omega)⟩
  · rw [List.mem_singleton] at ha
    subst ha
    kernel_rfl
theorem ascii_of {l : List UInt8} (h : plainSB l = true) : asciiSB l = true := by
  unfold plainSB at h
  unfold asciiSB
  rw [List.all_eq_true] at *
  intro x hx
  have := h x hx
  simp only [Bool.and_eq_true] at this
  exact this.1.1.2
theorem plainF (i : Nat) : plainSB (102 :: decS (i : Int)) = true := by
  unfold plainSB
  rw [List.all_cons, List.all_eq_true.2, Bool.and_true]
  · rfl
  · intro c hc
    obtain ⟨h1, h2⟩ := decS_digit i c hc
    have h3 : ¬ c = 34 := fun e => by subst e; exact absurd h1 (by decide)
    have h4 : ¬ c = 92 := fun e => by subst e; exact absurd h2 (by decide)
    rw [decide_eq_true (show (32 : Int) ≤ ((c.toNat : Nat) : Int) by omega), decide_eq_true (show ((c.toNat : Nat) : Int) < 128 by omega), decide_eq_false h3, decide_eq_false h4]
    rfl
theorem tidyT (n : Nat) {t : List UInt8} (h : plainSB t = true) : tidy (n + 1) (jT t) = true := by
  have := ascii_of h
  simp [tidy, this]
theorem tidyF (n : Nat) {a b : List UInt8} (ha : plainSB a = true) (hb : plainSB b = true) : tidy (n + 2) (fJ a b) = true := by
  have h1 := tidyT n ha
  have h2 := tidyT n hb
  have h3 : distB [(⟨⟨[110, 97, 109, 101]⟩⟩ : ByteArray), ⟨⟨[116, 121, 112, 101]⟩⟩] = true := by kernel_rfl
  have h4 : asciiAll [(⟨⟨[110, 97, 109, 101]⟩⟩ : ByteArray), ⟨⟨[116, 121, 112, 101]⟩⟩] = true := by kernel_rfl
  have h5 : asciiSB [] = true := rfl
  unfold fJ
  rw [tidy]
  simp [h1, h2, h3, h4, h5]
theorem plainT (n : Nat) {t : List UInt8} (h : plainSB t = true) : plainJ (n + 1) (jT t) = true := by
  have : plainAll [] = true := rfl
  simp [plainJ, h, this]
theorem plainFJ (n : Nat) {a b : List UInt8} (ha : plainSB a = true) (hb : plainSB b = true) : plainJ (n + 2) (fJ a b) = true := by
  have h1 := plainT n ha
  have h2 := plainT n hb
  have h4 : plainAll [(⟨⟨[110, 97, 109, 101]⟩⟩ : ByteArray), ⟨⟨[116, 121, 112, 101]⟩⟩] = true := by kernel_rfl
  have h5 : plainSB [] = true := rfl
  unfold fJ
  rw [plainJ]
  simp [h1, h2, h4, h5]
/-- A list of fields. -/
theorem tidyL (n : Nat) {l : List J} (hl : l.length ≤ 1000) (h : ∀ j ∈ l, tidy n j = true) : tidy (n + 1) (J.mk 4 false zd ⟨⟨[]⟩⟩ l []) = true := by
  have h5 : asciiSB [] = true := rfl
  rw [tidy]
  simp [h5, List.all_eq_true.2 h]
  omega
theorem tidyV (n : Nat) {l : List J} (hl : l.length ≤ 1000) (h : ∀ j ∈ l, tidy n j = true) : tidy (n + 2) (topV l) = true := by
  have h1 := tidyL n hl h
  have h2 : tidy (n + 1) (jT [114, 101, 99, 111, 114, 100]) = true := tidyT n (by kernel_rfl)
  have h6 : tidy (n + 1) (jT [82]) = true := tidyT n (by kernel_rfl)
  have h3 : distB [(⟨⟨[116, 121, 112, 101]⟩⟩ : ByteArray), ⟨⟨[110, 97, 109, 101]⟩⟩, ⟨⟨[102, 105, 101, 108, 100, 115]⟩⟩] = true := by kernel_rfl
  have h4 : asciiAll [(⟨⟨[116, 121, 112, 101]⟩⟩ : ByteArray), ⟨⟨[110, 97, 109, 101]⟩⟩, ⟨⟨[102, 105, 101, 108, 100, 115]⟩⟩] = true := by kernel_rfl
  have h5 : asciiSB [] = true := rfl
  unfold topV
  rw [tidy]
  simp [h1, h2, h3, h4, h5, h6]
theorem plainV (n : Nat) {l : List J} (h : ∀ j ∈ l, plainJ n j = true) : plainJ (n + 2) (topV l) = true := by
  have h1 : plainJ (n + 1) (J.mk 4 false zd ⟨⟨[]⟩⟩ l []) = true := by
    have h5 : plainSB [] = true := rfl
    have h6 : plainAll [] = true := rfl
    rw [plainJ]
    simp [h5, h6, List.all_eq_true.2 h]
  have h2 : plainJ (n + 1) (jT [114, 101, 99, 111, 114, 100]) = true := plainT n (by kernel_rfl)
  have h6 : plainJ (n + 1) (jT [82]) = true := plainT n (by kernel_rfl)
  have h4 : plainAll [(⟨⟨[116, 121, 112, 101]⟩⟩ : ByteArray), ⟨⟨[110, 97, 109, 101]⟩⟩, ⟨⟨[102, 105, 101, 108, 100, 115]⟩⟩] = true := by kernel_rfl
  have h5 : plainSB [] = true := rfl
  unfold topV
  rw [plainJ]
  simp [h1, h2, h4, h5, h6]
theorem partsL_le {f : J → List Int} {l : List J} {B : Nat} (h : ∀ j ∈ l, (f j).length ≤ B) : ∀ i, i ≤ l.length → (partsL f l i).length ≤ i * (B + 1)
  | 0, _ => Nat.zero_le _
  | i + 1, hi => by
    have h1 := partsL_le h i (by omega)
    have hg : l.getD i jD = l[i]'(by omega) := by rw [List.getD_eq_getElem?_getD, List.getElem?_eq_getElem (by omega)]; rfl
    have h2 := h (l[i]'(by omega)) (List.getElem_mem _)
    rw [partsL, hg, List.length_append, List.length_append, Nat.add_mul, Nat.one_mul]
    split <;> simp only [List.length_cons, List.length_nil] <;> omega
theorem toldF (n : Nat) (a b : List UInt8) : (toldJ (n + 2) (fJ a b)).length = a.length + b.length + 21 := by
  simp [toldJ, fJ, partsO, quoteL, nums]
  omega
theorem toldV {n : Nat} {l : List J} {B : Nat} (h : ∀ j ∈ l, (toldJ n j).length ≤ B) : (toldJ (n + 2) (topV l)).length ≤ l.length * (B + 1) + 60 := by
  have h1 := partsL_le h l.length (Nat.le_refl _)
  simp [toldJ, partsO, quoteL, nums]
  omega
/-- A list of an item's: its name and its type's name are plain. -/
theorem itemN {n : Nat} {p : Item} (hp : p ∈ itemsN n) (hn : n ≤ 300) : plainSB p.1 = true ∧ partB p.1 = true ∧ p.1.length ≤ 22 := by
  unfold itemsN at hp
  rcases List.mem_append.1 hp with hp | hp
  · obtain ⟨i, hi, rfl⟩ := List.mem_map.1 hp
    rw [List.mem_range] at hi
    have := decS_le i (by omega)
    exact ⟨plainF i, partF i (by omega), by show (102 :: decS (i : Int)).length ≤ 22; rw [List.length_cons]; omega⟩
  · rw [List.mem_singleton] at hp
    subst hp
    exact ⟨by kernel_rfl, partZ, by decide⟩
theorem goodF {n : Nat} {p : Item} (hp : p ∈ itemsN n) (hn : n ≤ 300) : tidy 3 (itemJ p) = true ∧ plainJ 3 (itemJ p) = true ∧ (toldJ 3 (itemJ p)).length ≤ 50 := by
  obtain ⟨h1, -, h3⟩ := itemN hp hn
  have hty : plainSB (bif p.2 then [82] else [110, 117, 108, 108]) = true ∧ (bif p.2 then [82] else [110, 117, 108, 108] : List UInt8).length ≤ 4 := by cases p.2 <;> exact ⟨by kernel_rfl, by decide⟩
  unfold itemJ
  refine ⟨tidyF 1 h1 hty.1, plainFJ 1 h1 hty.1, ?_⟩
  rw [toldF 1]
  omega
theorem goodN {n : Nat} (hn : n ≤ 300) : goodJ 5 (topV ((itemsN n).map itemJ)) = true := by
  have hl : ((itemsN n).map itemJ).length = n + 1 := by rw [List.length_map, itemsN_length]
  have ha : ∀ j ∈ (itemsN n).map itemJ, tidy 3 j = true ∧ plainJ 3 j = true ∧ (toldJ 3 j).length ≤ 50 := by
    intro j hj
    obtain ⟨p, hp, rfl⟩ := List.mem_map.1 hj
    exact goodF hp hn
  have h1 : (toldJ 5 (topV ((itemsN n).map itemJ))).length ≤ _ := toldV (n := 3) (fun j hj => (ha j hj).2.2)
  have h2 := (deepJ_le 5 (topV ((itemsN n).map itemJ))).2
  unfold goodJ
  rw [tidyV 3 (by omega) (fun j hj => (ha j hj).1), plainV 3 (fun j hj => (ha j hj).2.1), decide_eq_true (show deepJ 5 (topV ((itemsN n).map itemJ)) ≤ 64 by omega)]
  refine decide_eq_true ?_
  rw [hl] at h1
  have h3 : (n + 1) * (50 + 1) ≤ 301 * 51 := Nat.mul_le_mul_right _ (by omega)
  omega
theorem getOk_has {n : Nat} {j x : J} {a : ByteArray} {i : Int} (h0 : decide (j.names.length < 4611686018427387904) = true) (h1 : hasJ j a = true) (h2 : atJ j a = i) (h3 : decide (i < (j.list.length : Int)) = true) (h4 : getJ j a = x) (h5 : goodJ n j = true) (h6 : tidy n x = true) : getOk n j a = true := by
  unfold getOk goodB
  rw [h0, h1, h2, h4, h5, h6, h3]
  rfl
theorem getOk_not {n : Nat} {j : J} {a : ByteArray} (h0 : decide (j.names.length < 4611686018427387904) = true) (h1 : hasJ j a = false) : getOk n j a = true := by
  unfold getOk
  rw [h0, h1]
  rfl
theorem goodFJ {n : Nat} {p : Item} (hp : p ∈ itemsN n) (hn : n ≤ 300) : goodJ 5 (itemJ p) = true := by
  obtain ⟨h1, -, h3⟩ := itemN hp hn
  have hty : plainSB (bif p.2 then [82] else [110, 117, 108, 108]) = true ∧ (bif p.2 then [82] else [110, 117, 108, 108] : List UInt8).length ≤ 4 := by cases p.2 <;> exact ⟨by kernel_rfl, by decide⟩
  have h2 := (deepJ_le 5 (itemJ p)).2
  have h4 : (toldJ 5 (itemJ p)).length = _ := toldF 3 p.1 _
  have h5 : tidy 5 (itemJ p) = true := tidyF 3 h1 hty.1
  have h6 : plainJ 5 (itemJ p) = true := plainFJ 3 h1 hty.1
  unfold goodJ
  rw [h5, h6, decide_eq_true (show deepJ 5 (itemJ p) ≤ 64 by omega)]
  refine decide_eq_true ?_
  rw [h4]
  omega
theorem okV {l : List J} (hl : l.length ≤ 1000) (ha : ∀ j ∈ l, tidy 4 j = true) (hg : goodJ 5 (topV l) = true) : getOk 5 (topV l) bName = true ∧ getOk 5 (topV l) bSpace = true ∧ getOk 5 (topV l) bFields = true ∧ getOk 5 (topV l) bType = true := by
  refine ⟨getOk_has (i := 1) (x := jT [82]) rfl ?_ ?_ ?_ ?_ hg (tidyT 4 ?_), getOk_not rfl ?_, getOk_has (i := 2) (x := J.mk 4 false zd ⟨⟨[]⟩⟩ l []) rfl ?_ ?_ ?_ ?_ hg (tidyL 4 hl ha), getOk_has (i := 0) (x := jT [114, 101, 99, 111, 114, 100]) rfl ?_ ?_ ?_ ?_ hg (tidyT 4 ?_)⟩ <;> kernel_rfl
theorem itemsOkN {n : Nat} (hn : n ≤ 300) : ItemsOk 5 (itemsN n) := by
  have hg := goodN hn
  have ha : ∀ j ∈ (itemsN n).map itemJ, tidy 4 j = true := by
    intro j hj
    obtain ⟨p, hp, rfl⟩ := List.mem_map.1 hj
    obtain ⟨h1, -, -⟩ := itemN hp hn
    have hty : plainSB (bif p.2 then [82] else [110, 117, 108, 108]) = true := by cases p.2 <;> kernel_rfl
    exact tidyF 2 h1 hty
  have hl : ((itemsN n).map itemJ).length ≤ 1000 := by rw [List.length_map, itemsN_length]; omega
  have hd := distN n
  have he : ∀ p ∈ itemsN n, itemOk 5 p := by
    intro p hp
    obtain ⟨h1, h2, h3⟩ := itemN hp hn
    have h5 := goodFJ hp hn
    have hty : plainSB (bif p.2 then [82] else [110, 117, 108, 108]) = true := by cases p.2 <;> kernel_rfl
    refine ⟨getOk_has (i := 0) (x := jT p.1) rfl ?_ ?_ ?_ ?_ h5 (tidyT 4 h1), getOk_has (i := 1) (x := jT (bif p.2 then [82] else [110, 117, 108, 108])) rfl ?_ ?_ ?_ ?_ h5 (tidyT 4 hty), getOk_not rfl ?_, h2, by omega⟩ <;> kernel_rfl
  obtain ⟨a, b, c, d⟩ := okV hl ha hg
  exact ⟨⟨a, b, c⟩, d, he, hd⟩
theorem textN_le {n : Nat} (hn : n ≤ 300) : (textN n).length ≤ 1048576 := by
  have h := bodyT_le n hn
  have hz : zT.length = 25 := by kernel_rfl
  unfold textN
  rw [List.length_append, List.length_append, hz]
  split <;> simp only [List.length_cons, List.length_nil] <;> omega
end Go.Proofs.YtiaeljbnhdhfcaaGreatDoor

namespace Go.Proofs.YtiaeljbnhdhfcaaGreatDoor
open Go Go.RowKit Go.Lx Go.Mo

/-- A text in quotes. -/
def qt (m r : List UInt8) : List UInt8 := 34 :: (m ++ 34 :: r)
theorem plainS_cons {c : UInt8} {m : List UInt8} (h : plainSB (c :: m) = true) : plainSB m = true ∧ ltI (c.toNat : Int) 32 = false ∧ decide ((c.toNat : Int) = 34) = false ∧ decide ((c.toNat : Int) = 92) = false := by
  unfold plainSB at h
  rw [List.all_cons, Bool.and_eq_true] at h
  obtain ⟨h1, h2⟩ := h
  simp only [Bool.and_eq_true, decide_eq_true_eq, Bool.not_eq_true', decide_eq_false_iff_not] at h1
  obtain ⟨⟨⟨h3, h4⟩, h5⟩, h6⟩ := h1
  refine ⟨h2, ltI_false (by omega), decide_eq_false fun e => h5 ?_, decide_eq_false fun e => h6 ?_⟩
  · exact UInt8.toNat_inj.1 (by rw [show (34 : UInt8).toNat = 34 from rfl]; omega)
  · exact UInt8.toNat_inj.1 (by rw [show (92 : UInt8).toNat = 92 from rfl]; omega)
theorem qLen_plain : ∀ (m r : List UInt8) (i : Int), plainSB m = true → qLen (m ++ 34 :: r) i = i + (m.length : Int) + 1
  | [], r, i, _ => by
    show qLen (34 :: r) i = i + 0 + 1
    rw [qLen, show ltI ((34 : UInt8).toNat : Int) 32 = false from rfl, cond_false, show decide (((34 : UInt8).toNat : Int) = 34) = true from rfl, cond_true]; omega
  | c :: m, r, i, h => by
    obtain ⟨h1, h2, h3, -⟩ := plainS_cons h
    rw [List.cons_append, qLen, h2, cond_false, h3, cond_false, qLen_plain m r (i + 1) h1, List.length_cons]; omega
theorem qOk_plain : ∀ (m r : List UInt8), plainSB m = true → qOk (m ++ 34 :: r) = true
  | [], r, _ => by
    show qOk (34 :: r) = true
    rw [qOk, show ltI ((34 : UInt8).toNat : Int) 32 = false from rfl, cond_false, show decide (((34 : UInt8).toNat : Int) = 34) = true from rfl, cond_true]
  | c :: m, r, h => by
    obtain ⟨h1, h2, h3, h4⟩ := plainS_cons h
    rw [List.cons_append, qOk, h2, cond_false, h3, cond_false, h4, cond_false, qOk_plain m r h1]
theorem isQ34 : isQ 34 = true := by kernel_rfl
theorem qtLen {m : List UInt8} (r : List UInt8) (h : plainSB m = true) : quotedLen (qt m r) = ((m.length + 2 : Nat) : Int) := by
  unfold qt
  rw [quotedLen, isQ34, cond_true, qLen_plain m r 1 h]; omega
theorem qtOk {m : List UInt8} (r : List UInt8) (h : plainSB m = true) : quotedOk (qt m r) = true := by
  unfold qt
  rw [quotedOk, isQ34, cond_true, qOk_plain m r h]
theorem qtText {m : List UInt8} (r : List UInt8) (h : plainSB m = true) : textOf (qt m r) = m := by
  unfold textOf
  rw [qtLen r h, Int.toNat_natCast]
  show List.take (m.length + 2 - 2) (m ++ 34 :: r) = m
  rw [Nat.add_sub_cancel, List.take_left]
theorem qtBehind {m : List UInt8} (r : List UInt8) (h : plainSB m = true) : behind (qt m r) = r := by
  unfold behind
  rw [qtLen r h, Int.toNat_natCast]
  show List.drop (m.length + 1) (m ++ 34 :: r) = r
  rw [show m ++ 34 :: r = (m ++ [34]) ++ r by simp, List.drop_append_of_le_length (by simp), List.drop_eq_nil_of_le (by simp)]
  rfl
theorem qtDrop {m : List UInt8} (r : List UInt8) (h : plainSB m = true) : (qt m r).drop (quotedLen (qt m r)).toNat = r := qtBehind r h
theorem qt_cons (m r : List UInt8) : qt m r = 34 :: (m ++ 34 :: r) := rfl
theorem qtSkip (m r : List UInt8) : skipL (qt m r) = 34 :: (m ++ 34 :: r) := rfl

/-! The grammar -/
theorem gramF0 (N : Nat) (s : List UInt8) (o : List Int) (d : Int) : gramF (N + 1) 0 s o d = valueF (gramF N) s o d := by kernel_rfl
theorem gramF2 (N : Nat) (s : List UInt8) (o : List Int) (d : Int) : gramF (N + 1) 2 s o d = nameF (gramF N) s o d := by kernel_rfl
theorem gramF3 (N : Nat) (s : List UInt8) (o : List Int) (d : Int) : gramF (N + 1) 3 s o d = behindF (gramF N) s o d := by kernel_rfl
def Gr (l : Nat) (s : List UInt8) (o : List Int) (d : Int) : Prop := ∃ N, gramF N l s o d = some (3, true)
theorem nameF_q {go : GoF} {m : List UInt8} (r : List UInt8) (o : List Int) (d : Int) (h : plainSB m = true) : nameF go (qt m (58 :: r)) o d = go 0 r o d := by
  have h1 := qtOk (58 :: r) h
  have h2 := qtLen (58 :: r) h
  have h3 := qtDrop (58 :: r) h
  rw [qt_cons] at h1 h2 h3
  unfold nameF
  rw [qtSkip]
  simp only [h1, if_true]
  rw [if_neg (by rw [h2]; omega), h3]
  rfl
theorem valueF_q {go : GoF} {m : List UInt8} (r : List UInt8) (o : List Int) (d : Int) (h : plainSB m = true) : valueF go (qt m r) o d = behindF go r o d := by
  have h1 := qtOk r h
  have h2 := qtLen r h
  have h3 := qtDrop r h
  rw [qt_cons] at h1 h2 h3
  unfold valueF
  rw [qtSkip]
  simp only [h1, if_true]
  rw [if_neg (by decide), if_neg (by decide), if_neg (by rw [h2]; omega), h3]
theorem behindF_name {go : GoF} {m : List UInt8} (r : List UInt8) {o : List Int} (d : Int) (h : plainSB m = true) (ho : o.length ≠ 0) (ht : topI o = 123) : behindF go (44 :: qt m (58 :: r)) o d = go 0 r o d := by
  unfold behindF
  rw [if_neg ho, show skipL (44 :: qt m (58 :: r)) = 44 :: qt m (58 :: r) from rfl, ht]
  simp only []
  rw [if_neg (by decide), if_pos (by decide), if_neg (by decide), nameF_q r o d h]
theorem behindF_end {go : GoF} (c : UInt8) (r : List UInt8) {o : List Int} (d : Int) (hc : blankB c = false) (ho : o.length ≠ 0) (ht : (c.toNat : Int) = topI o + 2) : behindF go (c :: r) o d = go 1 (c :: r) o d := by
  unfold behindF
  rw [if_neg ho, show skipL (c :: r) = c :: r by rw [skipL, hc, cond_false]]
  simp only []
  rw [if_pos ht]
theorem gr_name {m r : List UInt8} {o : List Int} {d : Int} (h : plainSB m = true) (hg : Gr 0 r o d) : Gr 2 (qt m (58 :: r)) o d := by
  obtain ⟨N, hN⟩ := hg
  exact ⟨N + 1, by rw [gramF2, nameF_q r o d h, hN]⟩
theorem gr_textName {m q r : List UInt8} {o : List Int} {d : Int} (h : plainSB m = true) (hq : plainSB q = true) (ho : o.length ≠ 0) (ht : topI o = 123) (hg : Gr 0 r o d) : Gr 0 (qt m (44 :: qt q (58 :: r))) o d := by
  obtain ⟨N, hN⟩ := hg
  exact ⟨N + 1, by rw [gramF0, valueF_q _ o d h, behindF_name r d hq ho ht, hN]⟩
theorem gr_textEnd {m r : List UInt8} {o : List Int} {d : Int} (h : plainSB m = true) (ho : o.length ≠ 0) (ht : topI o = 123) (hg : Gr 1 (125 :: r) o d) : Gr 0 (qt m (125 :: r)) o d := by
  obtain ⟨N, hN⟩ := hg
  exact ⟨N + 1, by rw [gramF0, valueF_q _ o d h, behindF_end 125 r d rfl ho (by rw [ht]; rfl), hN]⟩
theorem gr_open {m r : List UInt8} {o : List Int} {d d' : Int} (hd : d' = if ((o.length + 1 : Nat) : Int) > d then ((o.length + 1 : Nat) : Int) else d) (hg : Gr 2 (qt m r) (o ++ [123]) d') : Gr 0 (123 :: qt m r) o d := by
  obtain ⟨N, hN⟩ := hg
  subst hd
  exact ⟨N + 1, hN⟩
theorem gr_list {r : List UInt8} {o : List Int} {d d' : Int} (hd : d' = if ((o.length + 1 : Nat) : Int) > d then ((o.length + 1 : Nat) : Int) else d) (hg : Gr 0 (123 :: r) (o ++ [91]) d') : Gr 0 (91 :: 123 :: r) o d := by
  obtain ⟨N, hN⟩ := hg
  subst hd
  exact ⟨N + 1, hN⟩
theorem gr_close {c : UInt8} {r : List UInt8} {o : List Int} {d : Int} (ho : o ≠ []) (hg : Gr 3 r (o.take (o.length - 1)) d) : Gr 1 (c :: r) o d := by
  obtain ⟨N, hN⟩ := hg
  cases o with
  | nil => exact absurd rfl ho
  | cons a o => exact ⟨N + 1, hN⟩
theorem gr_end {c : UInt8} {r : List UInt8} {o : List Int} {d : Int} (hc : blankB c = false) (ho : o.length ≠ 0) (ht : (c.toNat : Int) = topI o + 2) (hg : Gr 1 (c :: r) o d) : Gr 3 (c :: r) o d := by
  obtain ⟨N, hN⟩ := hg
  exact ⟨N + 1, by rw [gramF3, behindF_end c r d hc ho ht, hN]⟩
theorem gr_next {r : List UInt8} {d : Int} (hg : Gr 0 r [123, 91] d) : Gr 3 (44 :: r) [123, 91] d := by
  obtain ⟨N, hN⟩ := hg
  exact ⟨N + 1, hN⟩
theorem gr_fin : Gr 3 [] [] 3 := ⟨1, rfl⟩

def tyT (p : Item) : List UInt8 := bif p.2 then [82] else [110, 117, 108, 108]
def nameT : List UInt8 := [110, 97, 109, 101]
def typeT : List UInt8 := [116, 121, 112, 101]
def fieldsT : List UInt8 := [102, 105, 101, 108, 100, 115]
def recordT : List UInt8 := [114, 101, 99, 111, 114, 100]
theorem pName : plainSB nameT = true := by kernel_rfl
theorem pType : plainSB typeT = true := by kernel_rfl
theorem pFields : plainSB fieldsT = true := by kernel_rfl
theorem pRecord : plainSB recordT = true := by kernel_rfl
theorem pR : plainSB [82] = true := by kernel_rfl
theorem pTy (p : Item) : plainSB (tyT p) = true := by unfold tyT; cases p.2 <;> kernel_rfl
def itemX (p : Item) (r : List UInt8) : List UInt8 := 123 :: qt nameT (58 :: qt p.1 (44 :: qt typeT (58 :: qt (tyT p) (125 :: r))))
def listX : List Item → List UInt8 → List UInt8
  | [], r => 93 :: r
  | p :: l, r => 44 :: itemX p (listX l r)
def topX (p : Item) (l : List Item) : List UInt8 := 123 :: qt typeT (58 :: qt recordT (44 :: qt nameT (58 :: qt [82] (44 :: qt fieldsT (58 :: 91 :: itemX p (listX l [125]))))))
theorem gr_item {p : Item} {r : List UInt8} {d : Int} (hp : plainSB p.1 = true) (hd : d = 2 ∨ d = 3) (hg : Gr 3 r [123, 91] 3) : Gr 0 (itemX p r) [123, 91] d := by
  refine gr_open (d' := 3) (by rcases hd with rfl | rfl <;> rfl) ?_
  refine gr_name pName ?_
  refine gr_textName hp pType (by decide) rfl ?_
  refine gr_textEnd (pTy p) (by decide) rfl ?_
  exact gr_close (by decide) hg
theorem gr_items : ∀ {l : List Item}, (∀ p ∈ l, plainSB p.1 = true) → Gr 3 (listX l [125]) [123, 91] 3
  | [], _ => gr_end rfl (by decide) rfl (gr_close (by decide) (gr_end rfl (by decide) rfl (gr_close (by decide) gr_fin)))
  | p :: l, h => gr_next (gr_item (h p (List.mem_cons_self ..)) (.inr rfl) (gr_items fun q hq => h q (List.mem_cons_of_mem _ hq)))
theorem gr_top {p : Item} {l : List Item} (h : ∀ q ∈ p :: l, plainSB q.1 = true) : Gr 0 (topX p l) [] 0 := by
  refine gr_open (d' := 1) rfl ?_
  refine gr_name pType ?_
  refine gr_textName pRecord pName (by decide) rfl ?_
  refine gr_textName pR pFields (by decide) rfl ?_
  refine gr_list (d' := 2) rfl ?_
  exact gr_item (h p (List.mem_cons_self ..)) (.inl rfl) (gr_items fun q hq => h q (List.mem_cons_of_mem _ hq))

/-! The value -/
theorem valS_q {V : ValG} {m : List UInt8} (r : List UInt8) (w : Bool) (h : plainSB m = true) : valS V (qt m r) w = some (jT m, r, w) := by
  have h1 := qtOk r h
  have h2 := qtLen r h
  have h3 := qtText r h
  have h4 := qtBehind r h
  rw [qt_cons] at h1 h2 h3 h4
  unfold valS
  rw [qtSkip]
  simp only []
  rw [if_neg (by decide), if_neg (by decide), if_pos trivial, if_pos ⟨h1, by rw [h2]; omega⟩, h3, h4]
  rfl
theorem skip_nb {x : UInt8} (y : List UInt8) (h : blankB x = false) : skipL (x :: y) = x :: y := by rw [skipL, h, cond_false]
theorem inL_first {V : ValG} {n : Nat} {m r y : List UInt8} {x : UInt8} {w w2 : Bool} {es : Es} {js : List J} {ns : List ByteArray} {j : J} (h : plainSB m = true) (hV : V r (w || ltI 0 (mvalS es (bt' m))) = some (j, x :: y, w2)) (hx : blankB x = false) :
    inL V true (n + 1) (qt m (58 :: r)) w es js ns = inL V true n (x :: y) w2 (mputS es (bt' m) (fwrap .i64 (mvalS es (bt' m) + 1))) (js ++ [j]) (ns ++ [bt' m]) := by
  have h1 := qtOk (58 :: r) h
  have h2 := qtLen (58 :: r) h
  have h3 := qtText (58 :: r) h
  have h4 := qtBehind (58 :: r) h
  rw [qt_cons] at h1 h2 h3 h4
  rw [inL, qtSkip]
  simp only [if_true]
  rw [if_neg (by decide), if_neg (by decide), skip_nb _ (show blankB 34 = false from rfl)]
  simp only []
  rw [if_pos ⟨h1, by rw [h2]; omega⟩, h3, h4, skip_nb _ (show blankB 58 = false from rfl)]
  simp only []
  rw [if_pos (by decide), hV]
  simp only []
  rw [skip_nb _ hx]
theorem inL_more {V : ValG} {n : Nat} {m r y : List UInt8} {x : UInt8} {w w2 : Bool} {es : Es} {js : List J} {ns : List ByteArray} {j : J} (h : plainSB m = true) (hV : V r (w || ltI 0 (mvalS es (bt' m))) = some (j, x :: y, w2)) (hx : blankB x = false) :
    inL V true (n + 1) (44 :: qt m (58 :: r)) w es js ns = inL V true n (x :: y) w2 (mputS es (bt' m) (fwrap .i64 (mvalS es (bt' m) + 1))) (js ++ [j]) (ns ++ [bt' m]) := by
  have h1 := qtOk (58 :: r) h
  have h2 := qtLen (58 :: r) h
  have h3 := qtText (58 :: r) h
  have h4 := qtBehind (58 :: r) h
  rw [qt_cons] at h1 h2 h3 h4
  rw [inL, skip_nb _ (show blankB 44 = false from rfl)]
  simp only [if_true]
  rw [if_neg (by decide), if_pos (by decide), qtSkip]
  simp only []
  rw [if_pos ⟨h1, by rw [h2]; omega⟩, h3, h4, skip_nb _ (show blankB 58 = false from rfl)]
  simp only []
  rw [if_pos (by decide), hV]
  simp only []
  rw [skip_nb _ hx]
theorem inL_end {V : ValG} {n : Nat} {r : List UInt8} {w : Bool} {es : Es} {js : List J} {ns : List ByteArray} : inL V true (n + 1) (125 :: r) w es js ns = some ((js, ns, es), r, w) := rfl
theorem inL_lend {V : ValG} {n : Nat} {r : List UInt8} {w : Bool} {es : Es} {js : List J} {ns : List ByteArray} : inL V false (n + 1) (93 :: r) w es js ns = some ((js, ns, es), r, w) := rfl
theorem inL_lfirst {V : ValG} {n : Nat} {r y : List UInt8} {x : UInt8} {w w2 : Bool} {es : Es} {js : List J} {ns : List ByteArray} {j : J} (hV : V (123 :: r) w = some (j, x :: y, w2)) (hx : blankB x = false) :
    inL V false (n + 1) (123 :: r) w es js ns = inL V false n (x :: y) w2 es (js ++ [j]) ns := by
  rw [inL, skip_nb _ (show blankB 123 = false from rfl)]
  simp only [Bool.false_eq_true, if_false]
  rw [if_neg (by decide), if_neg (by decide), hV]
  simp only []
  rw [skip_nb _ hx]
theorem inL_lmore {V : ValG} {n : Nat} {r y : List UInt8} {x : UInt8} {w w2 : Bool} {es : Es} {js : List J} {ns : List ByteArray} {j : J} (hV : V (123 :: r) w = some (j, x :: y, w2)) (hx : blankB x = false) :
    inL V false (n + 1) (44 :: 123 :: r) w es js ns = inL V false n (x :: y) w2 es (js ++ [j]) ns := by
  rw [inL, skip_nb _ (show blankB 44 = false from rfl)]
  simp only [Bool.false_eq_true, if_false]
  rw [if_neg (by decide), if_pos (by decide), hV]
  simp only []
  rw [skip_nb _ hx]
theorem valS_obj {V : ValG} {r s' : List UInt8} {w w' : Bool} {js : List J} {ns : List ByteArray} {es : Es} (h : inL V true (r.length + 1) r w [] [] [] = some ((js, ns, es), s', w')) : valS V (123 :: r) w = some (.mk 5 false dz ⟨⟨[]⟩⟩ js ns, s', w') := by
  unfold valS
  rw [skip_nb _ (show blankB 123 = false from rfl)]
  simp only []
  rw [if_neg (by decide), if_pos trivial, h]
theorem valS_list {V : ValG} {r s' : List UInt8} {w w' : Bool} {js : List J} {ns : List ByteArray} {es : Es} (h : inL V false (r.length + 1) r w [] [] [] = some ((js, ns, es), s', w')) : valS V (91 :: r) w = some (.mk 4 false dz ⟨⟨[]⟩⟩ js ns, s', w') := by
  unfold valS
  rw [skip_nb _ (show blankB 91 = false from rfl)]
  simp only []
  rw [if_pos trivial, h]
theorem val_item (n : Nat) {p : Item} (r : List UInt8) (hp : plainSB p.1 = true) : valF (n + 2) (itemX p r) false = some (itemJ p, r, false) := by
  show valS (valF (n + 1)) (itemX p r) false = _
  unfold itemX
  have hl : ∃ k, (qt nameT (58 :: qt p.1 (44 :: qt typeT (58 :: qt (tyT p) (125 :: r))))).length + 1 = k + 3 := by
    refine ⟨(qt nameT (58 :: qt p.1 (44 :: qt typeT (58 :: qt (tyT p) (125 :: r))))).length - 2, ?_⟩
    simp only [qt, List.length_cons, List.length_append]
    omega
  obtain ⟨k, hk⟩ := hl
  have e1 : ltI 0 (mvalS [] (bt' nameT)) = false := by kernel_rfl
  have e2 : ltI 0 (mvalS (mputS [] (bt' nameT) (fwrap .i64 (mvalS [] (bt' nameT) + 1))) (bt' typeT)) = false := by kernel_rfl
  refine (valS_obj (js := [jT p.1, jT (tyT p)]) (ns := [bt' nameT, bt' typeT]) (s' := r) (w' := false) (es := mputS (mputS [] (bt' nameT) (fwrap .i64 (mvalS [] (bt' nameT) + 1))) (bt' typeT) (fwrap .i64 (mvalS (mputS [] (bt' nameT) (fwrap .i64 (mvalS [] (bt' nameT) + 1))) (bt' typeT) + 1))) ?_).trans rfl
  rw [hk, inL_first pName (by rw [e1]; exact valS_q _ false hp) rfl, inL_more pType (by rw [e2]; exact valS_q _ false (pTy p)) rfl, inL_end]
  rfl
theorem val_items (n : Nat) : ∀ (l : List Item) (k : Nat) (js : List J) (es : Es), (∀ p ∈ l, plainSB p.1 = true) → inL (valF (n + 2)) false (l.length + 1 + k) (listX l [125]) false es js [] = some ((js ++ l.map itemJ, [], es), [125], false)
  | [], k, js, es, _ => by
    rw [show [].length + 1 + k = k + 1 by simp; omega, listX, inL_lend, List.map_nil, List.append_nil]
  | p :: l, k, js, es, h => by
    have h1 := val_item n (listX l [125]) (h p (List.mem_cons_self ..))
    have h2 : ∃ x y, listX l [125] = x :: y ∧ blankB x = false := by
      cases l with
      | nil => exact ⟨93, [125], rfl, rfl⟩
      | cons q l => exact ⟨44, itemX q (listX l [125]), rfl, rfl⟩
    obtain ⟨x, y, hxy, hb⟩ := h2
    rw [hxy] at h1
    rw [show (p :: l).length + 1 + k = (l.length + 1 + k) + 1 by rw [List.length_cons]; omega, listX, hxy]
    refine (inL_lmore h1 hb).trans ?_
    rw [← hxy, val_items n l k _ es (fun q hq => h q (List.mem_cons_of_mem _ hq)), List.map_cons, List.append_assoc]
    rfl
theorem itemX_len (p : Item) (r : List UInt8) : r.length + 10 ≤ (itemX p r).length := by
  simp only [itemX, qt, List.length_cons, List.length_append]
  omega
theorem listX_len : ∀ (l : List Item), l.length + 1 ≤ (listX l [125]).length
  | [] => by decide
  | p :: l => by
    have h1 := listX_len l
    have h2 := itemX_len p (listX l [125])
    rw [listX, List.length_cons, List.length_cons]
    omega
theorem val_list (n : Nat) {p : Item} {l : List Item} (h : ∀ q ∈ p :: l, plainSB q.1 = true) : valF (n + 3) (91 :: itemX p (listX l [125])) false = some (.mk 4 false dz ⟨⟨[]⟩⟩ ((p :: l).map itemJ) [], [125], false) := by
  show valS (valF (n + 2)) _ false = _
  refine valS_list (es := []) ?_
  have h1 := itemX_len p (listX l [125])
  have h2 := listX_len l
  have h3 := val_item n (listX l [125]) (h p (List.mem_cons_self ..))
  have h4 : ∃ x y, listX l [125] = x :: y ∧ blankB x = false := by
    cases l with
    | nil => exact ⟨93, [125], rfl, rfl⟩
    | cons q l => exact ⟨44, itemX q (listX l [125]), rfl, rfl⟩
  obtain ⟨x, y, hxy, hb⟩ := h4
  obtain ⟨k, hk⟩ : ∃ k, (itemX p (listX l [125])).length = l.length + 1 + k := ⟨(itemX p (listX l [125])).length - (l.length + 1), by omega⟩
  rw [hk]
  rw [hxy] at h3 ⊢
  refine (inL_lfirst h3 hb).trans ?_
  rw [← hxy, val_items n l k _ [] (fun q hq => h q (List.mem_cons_of_mem _ hq))]
  rfl
theorem val_top (n : Nat) {p : Item} {l : List Item} (h : ∀ q ∈ p :: l, plainSB q.1 = true) : valF (n + 4) (topX p l) false = some (topV ((p :: l).map itemJ), [], false) := by
  show valS (valF (n + 3)) (topX p l) false = _
  unfold topX
  have hl : ∃ k, (qt typeT (58 :: qt recordT (44 :: qt nameT (58 :: qt [82] (44 :: qt fieldsT (58 :: 91 :: itemX p (listX l [125]))))))).length + 1 = k + 4 := by
    refine ⟨(qt typeT (58 :: qt recordT (44 :: qt nameT (58 :: qt [82] (44 :: qt fieldsT (58 :: 91 :: itemX p (listX l [125]))))))).length - 3, ?_⟩
    simp only [qt, List.length_cons, List.length_append]
    omega
  obtain ⟨k, hk⟩ := hl
  have e1 : ltI 0 (mvalS [] (bt' typeT)) = false := by kernel_rfl
  have e2 : ltI 0 (mvalS (mputS [] (bt' typeT) (fwrap .i64 (mvalS [] (bt' typeT) + 1))) (bt' nameT)) = false := by kernel_rfl
  have e3 : ltI 0 (mvalS (mputS (mputS [] (bt' typeT) (fwrap .i64 (mvalS [] (bt' typeT) + 1))) (bt' nameT) (fwrap .i64 (mvalS (mputS [] (bt' typeT) (fwrap .i64 (mvalS [] (bt' typeT) + 1))) (bt' nameT) + 1))) (bt' fieldsT)) = false := by kernel_rfl
  have key : ∃ es, inL (valF (n + 3)) true (k + 4) (qt typeT (58 :: qt recordT (44 :: qt nameT (58 :: qt [82] (44 :: qt fieldsT (58 :: 91 :: itemX p (listX l [125]))))))) false [] [] [] = some (([jT recordT, jT [82], .mk 4 false dz ⟨⟨[]⟩⟩ ((p :: l).map itemJ) []], [bt' typeT, bt' nameT, bt' fieldsT], es), [], false) := by
    refine ⟨mputS (mputS (mputS [] (bt' typeT) (fwrap .i64 (mvalS [] (bt' typeT) + 1))) (bt' nameT) (fwrap .i64 (mvalS (mputS [] (bt' typeT) (fwrap .i64 (mvalS [] (bt' typeT) + 1))) (bt' nameT) + 1))) (bt' fieldsT) (fwrap .i64 (mvalS (mputS (mputS [] (bt' typeT) (fwrap .i64 (mvalS [] (bt' typeT) + 1))) (bt' nameT) (fwrap .i64 (mvalS (mputS [] (bt' typeT) (fwrap .i64 (mvalS [] (bt' typeT) + 1))) (bt' nameT) + 1))) (bt' fieldsT) + 1)), ?_⟩
    rw [inL_first pType (by rw [e1]; exact valS_q _ false pRecord) rfl, inL_more pName (by rw [e2]; exact valS_q _ false pR) rfl, inL_more pFields (by rw [e3]; exact val_list n h) rfl, inL_end]
    rfl
  obtain ⟨es, hes⟩ := key
  exact (valS_obj (by rw [hk]; exact hes)).trans rfl

/-! The family's text -/
def catX : List Item → List UInt8
  | [] => []
  | p :: l => itemX p (44 :: catX l)
theorem itemX_app (p : Item) (r : List UInt8) : itemX p r = itemX p [] ++ r := by
  simp [itemX, qt]
theorem catX_snoc : ∀ (l : List Item) (p : Item), catX (l ++ [p]) = catX l ++ (itemX p [] ++ [44])
  | [], p => by show itemX p (44 :: []) = [] ++ (itemX p [] ++ [44]); rw [itemX_app p [44]]; rfl
  | q :: l, p => by
    show itemX q (44 :: catX (l ++ [p])) = itemX q (44 :: catX l) ++ _
    rw [catX_snoc l p, itemX_app q (44 :: catX l), itemX_app q]
    simp
theorem itemT_X (i : Nat) : itemT i = itemX (102 :: decS (i : Int), false) [] := by
  simp [itemT, itemX, qt, tyT, nameT, typeT]
theorem bodyT_X : ∀ n : Nat, bodyT n ++ (if 0 < n then [44] else []) = topT ++ catX ((List.range n).map (fun (i : Nat) => ((102 :: decS (i : Int) : List UInt8), false)))
  | 0 => rfl
  | n + 1 => by
    rw [if_pos (by omega), List.range_succ, List.map_append, List.map_singleton, catX_snoc, ← List.append_assoc, ← bodyT_X n, bodyT, itemT_X]
    simp
theorem catX_last (z : Item) : ∀ (p : Item) (l : List Item), catX (p :: l) ++ itemX z [93, 125] = itemX p (listX (l ++ [z]) [125])
  | p, [] => by
    show itemX p [44] ++ itemX z [93, 125] = itemX p (44 :: itemX z [93, 125])
    rw [itemX_app p [44], itemX_app p (44 :: itemX z [93, 125])]
    simp
  | p, q :: l => by
    have h := catX_last z q l
    show itemX p (44 :: catX (q :: l)) ++ itemX z [93, 125] = itemX p (44 :: itemX q (listX (l ++ [z]) [125]))
    rw [← h, itemX_app p (44 :: catX (q :: l)), itemX_app p (44 :: (catX (q :: l) ++ itemX z [93, 125]))]
    simp
theorem topX_app (p : Item) (l : List Item) : topX p l = topT ++ itemX p (listX l [125]) := by
  simp [topX, topT, qt, typeT, nameT, recordT, fieldsT]
theorem zT_X : zT = itemX ([122], true) [93, 125] := rfl
theorem textN_X (n : Nat) : ∃ p l, itemsN n = p :: l ∧ textN n = topX p l := by
  unfold textN itemsN
  rw [bodyT_X, zT_X]
  cases hm : (List.range n).map (fun (i : Nat) => ((102 :: decS (i : Int) : List UInt8), false)) with
  | nil => exact ⟨_, [], rfl, by rw [topX_app]; rfl⟩
  | cons p l => exact ⟨p, l ++ [([122], true)], rfl, by rw [topX_app, List.append_assoc, catX_last]⟩
theorem ascii_app {a b : List UInt8} (ha : AsciiS a) (hb : AsciiS b) : AsciiS (a ++ b) := fun x hx => (List.mem_append.1 hx).elim (ha x) (hb x)
theorem ascii_cons {a : UInt8} {b : List UInt8} (ha : (a.toNat : Int) < 128) (hb : AsciiS b) : AsciiS (a :: b) := fun x hx => (List.mem_cons.1 hx).elim (fun e => e ▸ ha) (hb x)
theorem ascii_qt {m r : List UInt8} (hm : plainSB m = true) (hr : AsciiS r) : AsciiS (qt m r) := ascii_cons (by decide) (ascii_app (asciiSB_ok (ascii_of hm)) (ascii_cons (by decide) hr))
theorem ascii_item {p : Item} {r : List UInt8} (hp : plainSB p.1 = true) (hr : AsciiS r) : AsciiS (itemX p r) :=
  ascii_cons (by decide) (ascii_qt pName (ascii_cons (by decide) (ascii_qt hp (ascii_cons (by decide) (ascii_qt pType (ascii_cons (by decide) (ascii_qt (pTy p) (ascii_cons (by decide) hr))))))))
theorem ascii_nil : AsciiS [] := fun _ h => nomatch h
theorem ascii_list : ∀ {l : List Item}, (∀ p ∈ l, plainSB p.1 = true) → AsciiS (listX l [125])
  | [], _ => ascii_cons (by decide) (ascii_cons (by decide) ascii_nil)
  | p :: l, h => ascii_cons (by decide) (ascii_item (h p (List.mem_cons_self ..)) (ascii_list fun q hq => h q (List.mem_cons_of_mem _ hq)))
theorem ascii_top {p : Item} {l : List Item} (h : ∀ q ∈ p :: l, plainSB q.1 = true) : AsciiS (topX p l) :=
  ascii_cons (by decide) (ascii_qt pType (ascii_cons (by decide) (ascii_qt pRecord (ascii_cons (by decide) (ascii_qt pName (ascii_cons (by decide) (ascii_qt pR (ascii_cons (by decide) (ascii_qt pFields (ascii_cons (by decide) (ascii_cons (by decide) (ascii_item (h p (List.mem_cons_self ..)) (ascii_list fun q hq => h q (List.mem_cons_of_mem _ hq))))))))))))))
theorem parseN {n : Nat} (hn : n ≤ 300) : PureDo Tryz.prog H4 24 [.d (.list (.int .u8)) (blist ⟨⟨textN n⟩⟩)] (.tup [.d .json (topV ((itemsN n).map itemJ)), i64 0]) := by
  obtain ⟨p, l, hi, ht⟩ := textN_X n
  have hp : ∀ q ∈ p :: l, plainSB q.1 = true := fun q hq => (itemN (hi ▸ hq) hn).1
  have hle := textN_le hn
  rw [hi]
  rw [ht] at hle ⊢
  obtain ⟨N, hN⟩ := gr_top hp
  exact do24 (ascii_top hp) hle hN (by decide) (val_top 0 hp)
theorem plainN {n : Nat} (hn : n ≤ 300) (hw : PureDo Tryz.prog H4 7 [] (.v (.bool true))) : Plain n :=
  ⟨parseN hn, ⟨5, by decide, itemsOkN hn⟩, by
    rcases Nat.lt_or_ge n 256 with h | h
    · exact .inl (namesN_ok (by omega))
    · exact .inr h, hw⟩
end Go.Proofs.YtiaeljbnhdhfcaaGreatDoor
