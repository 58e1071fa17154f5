/- What library functions answer. -/
import Derived.Test.YtiaeljbnhdhfcaaGreatDoorM14
import Derived.Test.YtiaeljbnhdhfcaaGreatDoorM13
import Derived.Lib.SplitLaws
namespace Go.Proofs.YtiaeljbnhdhfcaaGreatDoor
open Go Go.RowKit Go.Lx

/-- Pieces of a function's code. -/
noncomputable def pc (f : FuncId) (p : List Nat) : Code := codeAt p (bodyOf Tryz.prog f)

theorem gamOK0 (w0 : World) : GamOK Tryz.prog w0 G0 := ⟨fun f args r h => (by cases h), fun f args L F kr h => (by cases h)⟩

theorem code94 : Tryz.f94.body = some (.seq (pc 94 [0]) (.seq (.seq (pc 94 [1, 0, 0]) (.block 0 (.loop (pc 94 [1, 0, 1, 0, 0])))) (pc 94 [1, 1]))) := by kernel_rfl

/-- The evaluator of straight code. -/
noncomputable abbrev ev0 (G : Gam) (c : Code) (st : St) (k : KX) : Bool := evC Tryz.prog G (fun _ _ _ _ => false) (canonD Tryz.prog G (fun _ _ _ _ => false)) (fun _ => none) (fun _ _ _ _ => false) 0 c st k

theorem ev0_ok {w0 : World} {G : Gam} (hG : GamOK Tryz.prog w0 G) {c : Code} {st : St} (ks : List Nat) {R : KX → Bool} {F : HX → St → Prop}
    (hr : ∀ k : KX, ev0 G c st (fun x st' => k x (st'.keep ks)) = R k) (h : R (fun x st' => yes (F x st')) = true) : Wp Tryz.prog w0 c st F :=
  wp_ev progOK hG (fun _ _ _ _ h => by cases h) (canonD_ok progOK hG (fun _ _ _ _ h => by cases h)) (fun _ _ _ _ h => by cases h) ks hr h

section
variable (xs : List ByteArray) (a : ByteArray)
def st94 (r i : Int) : St := ⟨slots 19 [(0, .d (.list .str) xs), (1, .v (.string a)), (4, .v (.int .i64 r)), (7, .v (.int .i64 (xs.length : Int))), (8, .v (.int .i64 i))], []⟩

theorem pre94a (k : KX) : ev0 G0 (pc 94 [0]) ⟨argT 0 [.d (.list .str) xs, .v (.string a)] ⟨19, .nil⟩, []⟩ (fun x st => k x (st.keep [0, 1, 4])) = k .normal ⟨slots 19 [(0, .d (.list .str) xs), (1, .v (.string a)), (4, .v (.int .i64 0))], []⟩ := by kernel_rfl
theorem pre94b (k : KX) : ev0 G0 (pc 94 [1, 0, 0]) ⟨slots 19 [(0, .d (.list .str) xs), (1, .v (.string a)), (4, .v (.int .i64 0))], []⟩ (fun x st => k x (st.keep [0, 1, 4, 7, 8])) = k .normal (st94 xs a 0 0) := by kernel_rfl

theorem loop94 (i : Nat) (k : KX) : ev0 G0 (pc 94 [1, 0, 1, 0, 0]) (st94 xs a 0 (i : Int)) (fun x st => k x (st.keep [0, 1, 4, 7, 8])) =
    (bif ltI (i : Int) (xs.length : Int) then (inB xs.length (i : Int) && bif beqS a (xs.getD i ByteArray.empty) then k .ret (st94 xs a (i : Int) (i : Int)) else k .normal (st94 xs a 0 (fwrap .i64 ((i : Int) + 1))))
      else k (.exit 0) (st94 xs a 0 (i : Int))) := by kernel_rfl

theorem post94 (i : Int) (k : KX) : ev0 G0 (pc 94 [1, 1]) (st94 xs a 0 i) (fun x st => k x (st.keep [0, 1, 4, 7, 8])) = k .ret (st94 xs a (-1) i) := by kernel_rfl

theorem fin94 (r i : Int) (kr : KR) : finK Tryz.prog Tryz.f94 [] kr (st94 xs a r i) = kr (.ret (.v (.int .i64 r))) [] := by kernel_rfl
end

theorem ltI_iff (a b : Int) : ltI a b = true ↔ a < b := by
  unfold ltI
  split
  · simp
  · simp

theorem fwrap_i64 {n : Int} (h0 : -9223372036854775808 ≤ n) (h1 : n < 9223372036854775808) : fwrap .i64 n = n := by
  cases n with
  | ofNat m =>
    have hm : m < 9223372036854775808 := by simp at h1; omega
    simp only [fwrap]
    cases Nat.ble m 127 with
    | true => rfl
    | false => simp only [cond_false]; rw [show Nat.blt m 9223372036854775808 = true from by simpa using hm]; rfl
  | negSucc m =>
    have hm : m < 9223372036854775808 := by omega
    simp only [fwrap]
    rw [show Nat.blt m 9223372036854775808 = true from by simpa using hm]; rfl

theorem findGo_skip (a : ByteArray) : ∀ (xs : List ByteArray) (i n : Nat), (∀ j, j < i → ∀ b, xs[j]? = some b → beqS a b = false) → findGo a xs n = findGo a (xs.drop i) (n + i)
  | xs, 0, n, _ => by simp
  | [], i + 1, n, _ => by simp [findGo]
  | b :: xs, i + 1, n, h => by
    have h0 := h 0 (by omega) b rfl
    simp only [findGo, h0, cond_false, List.drop_succ_cons]
    rw [findGo_skip a xs i (n + 1) (fun j hj b hb => h (j + 1) (by omega) b (by simpa using hb))]
    congr 1; omega

theorem do94 (xs : List ByteArray) (a : ByteArray) (hx : xs.length < 4611686018427387904) (H : World → Prop) : PureDo Tryz.prog H 94 [.d (.list .str) xs, .v (.string a)] (.v (.int .i64 (findGo a xs 0))) := by
  intro w0 kr _ hkr
  have hG := gamOK0 w0
  refine does_wp Tryz.func94 code94 (n := 19) (by kernel_rfl) ?_
  refine wp_seq' (ev0_ok hG [0, 1, 4] (pre94a xs a) (yes_mk ?_))
  refine wp_seq' (wp_seq' (ev0_ok hG [0, 1, 4, 7, 8] (pre94b xs a) (yes_mk (wp_block' ?_))))
  refine wp_loop' (α := { i : Nat // i ≤ xs.length ∧ ∀ j, j < i → ∀ b, xs[j]? = some b → beqS a b = false }) (fun i => st94 xs a 0 (i.1 : Int)) (fun i => xs.length - i.1) (fun i => ?_) ⟨0, Nat.zero_le _, fun j hj => by omega⟩
  obtain ⟨i, hi, hno⟩ := i
  have hskip := findGo_skip a xs i 0 hno
  rw [Nat.zero_add] at hskip
  refine ev0_ok hG [0, 1, 4, 7, 8] (loop94 xs a i) ?_
  cases hl : ltI (i : Int) (xs.length : Int) with
  | true =>
    rw [ltI_iff] at hl
    have hlt : i < xs.length := by omega
    have hg : xs[i]? = some xs[i] := List.getElem?_eq_getElem hlt
    have hgd : xs.getD i ByteArray.empty = xs[i] := by rw [List.getD_eq_getElem?_getD, hg]; rfl
    have hdrop : xs.drop i = xs[i] :: xs.drop (i + 1) := List.drop_eq_getElem_cons hlt
    simp only [cond_true, inB, decide_eq_true hl, Bool.true_and, hgd]
    cases hb : beqS a xs[i] with
    | true =>
      refine yes_mk ?_
      show finK Tryz.prog Tryz.f94 [] kr (st94 xs a i i) = true
      rw [fin94]
      rw [hskip, hdrop] at hkr
      simpa [findGo, hb] using hkr
    | false =>
      refine yes_mk ⟨⟨i + 1, hlt, fun j hj b hjb => ?_⟩, by show xs.length - (i + 1) < xs.length - i; omega, ?_⟩
      · by_cases hji : j = i
        · subst hji; rw [hg] at hjb; cases hjb; exact hb
        · exact hno j (by omega) b hjb
      · rw [fwrap_i64 (by omega) (by omega)]; rfl
  | false =>
    have hge : ¬ (i : Int) < (xs.length : Int) := fun h => by rw [(ltI_iff _ _).2 h] at hl; cases hl
    have hil : i = xs.length := by omega
    refine yes_mk ?_
    show Wp Tryz.prog w0 (pc 94 [1, 1]) (st94 xs a 0 i) _
    refine ev0_ok hG [0, 1, 4, 7, 8] (post94 xs a i) (yes_mk ?_)
    show finK Tryz.prog Tryz.f94 [] kr (st94 xs a (-1) i) = true
    rw [fin94]
    rw [hskip, hil, List.drop_length] at hkr
    exact hkr

end Go.Proofs.YtiaeljbnhdhfcaaGreatDoor

namespace Go.Proofs.YtiaeljbnhdhfcaaGreatDoor
open Go Go.RowKit Go.Lx

/-- The one variable of the library that is read: bytealg.MaxLen holds some number. -/
def H4 (w : World) : Prop := ∃ m, w.cell? ⟨4, 0, none⟩ = some (.int .i64 m)

theorem lasts4 : Lasts H4 := fun w w' ⟨m, h⟩ hb => by
  have hlt : 4 < w.heap.size := by
    rcases Nat.lt_or_ge 4 w.heap.size with h' | h'
    · exact h'
    · simp [World.cell?, Array.getElem?_eq_none h'] at h
  exact ⟨m, by rw [cell_of_block (hb.block 4 hlt) 0]; exact h⟩

theorem relAll_v1 {E : Env} {a : Value} {vs : List Value} (h : relAll E [.v a] vs) : vs = [a] := by
  obtain ⟨x, r, rfl, h1, h2⟩ := h
  simp only [relAll] at h2
  rw [h2, show x = a from h1]
theorem relAll_v2 {E : Env} {a b : Value} {vs : List Value} (h : relAll E [.v a, .v b] vs) : vs = [a, b] := by
  obtain ⟨x, r, rfl, h1, h2⟩ := h
  rw [show x = a from h1, relAll_v1 h2]

theorem wordL_some {l : List Int} {n : Int} (h : wordL l = some n) : ∃ x0 x1 x2 x3 x4 x5 x6 x7 r, l = x0 :: x1 :: x2 :: x3 :: x4 :: x5 :: x6 :: x7 :: r ∧ n = word8 x0 x1 x2 x3 x4 x5 x6 x7 := by
  unfold wordL at h
  split at h
  · cases h; exact ⟨_, _, _, _, _, _, _, _, _, rfl, rfl⟩
  · cases h

theorem inB_true {n : Nat} {i : Int} (h : i < n) : inB n i = true := decide_eq_true h

theorem do82 (l : List Int) (n : Int) (h : wordL l = some n) (H : World → Prop) : PureDo Tryz.prog H 82 [.d (.list (.int .u8)) l] (.v (.int .u64 n)) := by
  obtain ⟨x0, x1, x2, x3, x4, x5, x6, x7, r, rfl, rfl⟩ := wordL_some h
  intro w0 kr _ hkr
  refine evG_sound progOK catches (gamOK0 w0) 1 1 82 _ [] kr ?_
  rw [run82]
  simp only [inB_true (show (0 : Int) < ((r.length + 8 : Nat) : Int) by omega), inB_true (show (1 : Int) < ((r.length + 8 : Nat) : Int) by omega), inB_true (show (2 : Int) < ((r.length + 8 : Nat) : Int) by omega), inB_true (show (3 : Int) < ((r.length + 8 : Nat) : Int) by omega), inB_true (show (4 : Int) < ((r.length + 8 : Nat) : Int) by omega), inB_true (show (5 : Int) < ((r.length + 8 : Nat) : Int) by omega), inB_true (show (6 : Int) < ((r.length + 8 : Nat) : Int) by omega), inB_true (show (7 : Int) < ((r.length + 8 : Nat) : Int) by omega), Bool.true_and]
  exact hkr

theorem run150 (x0 x1 x2 x3 x4 x5 x6 x7 : UInt8) (r : List UInt8) (kr : KR) : evG Tryz.prog G0 1 1 150 [.v (.string ⟨(x0 :: x1 :: x2 :: x3 :: x4 :: x5 :: x6 :: x7 :: r).toArray⟩)] [] kr =
    (inB (r.length + 8) 0 && (inB (r.length + 8) 1 && (inB (r.length + 8) 2 && (inB (r.length + 8) 3 && (inB (r.length + 8) 4 && (inB (r.length + 8) 5 && (inB (r.length + 8) 6 && (inB (r.length + 8) 7 &&
      kr (.ret (.v (.int .u64 (word8 x0.toNat x1.toNat x2.toNat x3.toNat x4.toNat x5.toNat x6.toNat x7.toNat)))) [])))))))) := by kernel_rfl

theorem do150 (a : ByteArray) (n : Int) (h : wordL (blist a) = some n) (H : World → Prop) : PureDo Tryz.prog H 150 [.v (.string a)] (.v (.int .u64 n)) := by
  obtain ⟨x0, x1, x2, x3, x4, x5, x6, x7, r, hl, rfl⟩ := wordL_some h
  obtain ⟨⟨l⟩⟩ := a
  match l, hl with
  | y0 :: y1 :: y2 :: y3 :: y4 :: y5 :: y6 :: y7 :: r', hl =>
    simp only [blist, List.map_cons, List.cons.injEq] at hl
    obtain ⟨rfl, rfl, rfl, rfl, rfl, rfl, rfl, rfl, -⟩ := hl
    intro w0 kr _ hkr
    refine evG_sound progOK catches (gamOK0 w0) 1 1 150 _ [] kr ?_
    rw [run150]
    simp only [inB_true (show (0 : Int) < ((r'.length + 8 : Nat) : Int) by omega), inB_true (show (1 : Int) < ((r'.length + 8 : Nat) : Int) by omega), inB_true (show (2 : Int) < ((r'.length + 8 : Nat) : Int) by omega), inB_true (show (3 : Int) < ((r'.length + 8 : Nat) : Int) by omega), inB_true (show (4 : Int) < ((r'.length + 8 : Nat) : Int) by omega), inB_true (show (5 : Int) < ((r'.length + 8 : Nat) : Int) by omega), inB_true (show (6 : Int) < ((r'.length + 8 : Nat) : Int) by omega), inB_true (show (7 : Int) < ((r'.length + 8 : Nat) : Int) by omega), Bool.true_and]
    exact hkr
  | [], hl | [_], hl | [_, _], hl | [_, _, _], hl | [_, _, _, _], hl | [_, _, _, _, _], hl | [_, _, _, _, _, _], hl | [_, _, _, _, _, _, _], hl => simp [blist] at hl

theorem clause {P : Program} {w0 : World} {f : FuncId} {args : List HV} {r : Bool × HV} (h : hasBody P f) (h2 : r.1 = true → PureAns P w0 f args r.2) :
    hasBody P f ∧ (r.1 = true → ∀ E vs, Sim w0 E ⟨Tm.e, E.L⟩ [] → relAll E args vs → Calls P f vs.toArray E.w fun e w' => ∃ E' y, E'.w = w' ∧ E'.L = E.L ∧ Sim w0 E' ⟨Tm.e, E.L⟩ [] ∧ Mod E E' ∧ e = .returned y ∧ relHV E' r.2 y) :=
  ⟨h, fun hr => (h2 hr).2⟩

theorem byteR_iff {x : Int} (h : byteR x = true) : 0 ≤ x ∧ x < 256 := by
  unfold byteR at h
  simpa [Bool.and_eq_true] using h

theorem rel_strs (I : Nat → Nat → Prop) (w : World) : ∀ l : List ByteArray, relDCs I w (l.flatMap (Cd.enc .str)) (l.map Value.string)
  | [] => rfl
  | a :: l => by
    simp only [List.flatMap_cons, List.map_cons, Cd.enc, List.singleton_append, relDCs]
    exact ⟨_, _, rfl, rfl, rel_strs I w l⟩

theorem lib_pure {w0 : World} (h0 : H4 w0) (G : Gam) (hG : G.pure = libPure) : PureOK Tryz.prog w0 G := by
  intro f args r h
  rw [hG] at h
  unfold libPure at h
  cases h1 : Nat.beq f 134 with
  | true =>
    obtain rfl := Nat.eq_of_beq_eq_true h1
    simp only [h1, cond_true] at h
    split at h
    · rename_i a c
      cases h
      have hb : hasBody Tryz.prog 134 := ⟨_, Tryz.func134, rfl⟩
      refine clause hb fun _ => pureAns_of_calls lasts4 hb (fun E vs _ hv => ?_) h0
      rw [relAll_v2 hv]
      refine ⟨_, rfl, ?_⟩
      have := Tryz.strings_IndexByte a c E.w
      rw [← idxGo_zero] at this
      exact this
    · cases h
  | false =>
  simp only [h1, cond_false] at h
  clear h1
  cases h1 : Nat.beq f 156 with
  | true =>
    obtain rfl := Nat.eq_of_beq_eq_true h1
    simp only [h1, cond_true] at h
    split at h
    · rename_i a c
      cases h
      have hb : hasBody Tryz.prog 156 := ⟨_, Tryz.func156, rfl⟩
      refine clause hb fun hr => pureAns_of_calls lasts4 hb (fun E vs _ hv => ?_) h0
      simp only [Bool.and_eq_true, decide_eq_true_eq] at hr
      rw [relAll_v2 hv]
      refine ⟨_, rfl, ?_⟩
      have := Tryz.strings_IndexRune_ascii a c E.w hr.1 hr.2
      rw [← idxGo_zero] at this
      exact this
    · cases h
  | false =>
  simp only [h1, cond_false] at h
  clear h1
  cases h1 : Nat.beq f 98 with
  | true =>
    obtain rfl := Nat.eq_of_beq_eq_true h1
    simp only [h1, cond_true] at h
    split at h
    · rename_i a c
      cases h
      have hb : hasBody Tryz.prog 98 := ⟨_, Tryz.func98, rfl⟩
      refine clause hb fun hr => pureAns_of_calls lasts4 hb (fun E vs _ hv => ?_) h0
      simp only [Bool.and_eq_true, decide_eq_true_eq] at hr
      have hc := byteR_iff hr.2
      rw [relAll_v2 hv]
      refine ⟨_, rfl, ?_⟩
      have := Tryz.strings_LastIndexByte a c hr.1 E.w
      rw [← lastGo_eq a c hc.1 hc.2] at this
      exact this
    · cases h
  | false =>
  simp only [h1, cond_false] at h
  clear h1
  cases h1 : Nat.beq f 94 with
  | true =>
    obtain rfl := Nat.eq_of_beq_eq_true h1
    simp only [h1, cond_true] at h
    split at h
    · rename_i xs a
      cases h
      refine clause ⟨_, Tryz.func94, rfl⟩ fun hr => pureAns lasts4 (do94 xs a (of_decide_eq_true hr) H4) rfl rfl h0
    · cases h
  | false =>
  simp only [h1, cond_false] at h
  clear h1
  cases h1 : Nat.beq f 93 with
  | true =>
    obtain rfl := Nat.eq_of_beq_eq_true h1
    simp only [h1, cond_true] at h
    split at h
    · rename_i a b
      split at h
      · rename_i c hc
        cases h
        have hb : hasBody Tryz.prog 93 := ⟨_, Tryz.func93, rfl⟩
        refine clause hb fun _ => pureAns_of_calls lasts4 hb (fun E vs _ hv => ?_) h0
        rw [relAll_v2 hv]
        refine ⟨_, rfl, ?_⟩
        have hbe : b = ⟨#[c]⟩ := by obtain ⟨⟨l⟩⟩ := b; simp only at hc; rw [hc]
        rw [hbe]
        have := Tryz.strings_Contains_one a c E.w
        have hd : decide (0 ≤ Lib.indexByte a.data.toList c) = !(idxGo c a.data.toList 0 == -1) := by
          rw [idxGo_zero]
          have := Lib.indexByte_ge a.data.toList c
          by_cases hi : Lib.indexByte a.data.toList c = -1
          · simp [hi]
          · have h2 : 0 ≤ Lib.indexByte a.data.toList c := by omega
            simp [hi, h2]
        rw [hd] at this
        exact this
      · cases h
    · cases h
  | false =>
  simp only [h1, cond_false] at h
  clear h1
  cases h1 : Nat.beq f 100 with
  | true =>
    obtain rfl := Nat.eq_of_beq_eq_true h1
    simp only [h1, cond_true] at h
    split at h
    · rename_i a b
      cases h
      have hb : hasBody Tryz.prog 100 := ⟨_, Tryz.func100, rfl⟩
      refine clause hb fun hr => ?_
      simp only [Bool.and_eq_true, decide_eq_true_eq] at hr
      have hse : splitS a b = Lib.splitB b 0 (Lib.countB a b) a := by
        unfold splitS
        rw [← Lib.splitB_data, List.map_map]
        exact List.map_id' _
      have hlen : (splitS a b).length = Lib.countB a b + 1 := by rw [hse]; exact Lib.splitB_all b hr.2 0 _ a rfl
      refine pureAns_of_alloc (vs0 := (splitS a b).map Value.string) (e0 := 9) lasts4 hb (fun E => ?_) (fun E vs hE hv => ?_) h0
      · exact rel_strs _ _ _
      · rw [relAll_v2 hv]
        obtain ⟨m, hm⟩ := hE
        have := Tryz.strings_Split a b m E.w hr.1 hm hr.2
        rw [← hse, ← hlen] at this
        exact this
    · cases h
  | false =>
  simp only [h1, cond_false] at h
  clear h1
  cases h1 : Nat.beq f 82 with
  | true =>
    obtain rfl := Nat.eq_of_beq_eq_true h1
    simp only [h1, cond_true] at h
    split at h
    · rename_i xs
      split at h
      · rename_i n hn
        cases h
        exact clause ⟨_, Tryz.func82, rfl⟩ fun _ => pureAns lasts4 (do82 xs n hn H4) rfl rfl h0
      · cases h
    · cases h
  | false =>
  simp only [h1, cond_false] at h
  clear h1
  cases h1 : Nat.beq f 150 with
  | true =>
    obtain rfl := Nat.eq_of_beq_eq_true h1
    simp only [h1, cond_true] at h
    split at h
    · rename_i a
      split at h
      · rename_i n hn
        cases h
        exact clause ⟨_, Tryz.func150, rfl⟩ fun _ => pureAns lasts4 (do150 a n hn H4) rfl rfl h0
      · cases h
    · cases h
  | false =>
  simp only [h1, cond_false] at h
  cases h

end Go.Proofs.YtiaeljbnhdhfcaaGreatDoor

namespace Go.Proofs.YtiaeljbnhdhfcaaGreatDoor
open Go Go.RowKit Go.Lx

theorem eqnil33 (a : Option Addr) (n c : Nat) (w : World) : (Go.binOp .eql 33 (.slice a n c) (.slice none 0 0)).run Tryz.prog w = .ok (.bool a.isNone) w := by cases a <;> kernel_rfl
theorem eqnil34 (a : Option Addr) (n c : Nat) (w : World) : (Go.binOp .eql 34 (.slice a n c) (.slice none 0 0)).run Tryz.prog w = .ok (.bool a.isNone) w := by cases a <;> kernel_rfl
theorem eqnil35 (a : Option Addr) (n c : Nat) (w : World) : (Go.binOp .eql 35 (.slice a n c) (.slice none 0 0)).run Tryz.prog w = .ok (.bool a.isNone) w := by cases a <;> kernel_rfl

/-- A slice of data is nil, and then empty, or it is not. -/
theorem data_slice {E : Env} {c : Cd} {xs : List c.den} {y : Value} (h : relHV E (.d (.list c) xs) y) : ∃ a n k, y = .slice a n k ∧ (a = none → xs = []) := by
  rw [relHV_list] at h
  simp only [relDC] at h
  rcases h with ⟨h0, _, rfl⟩ | ⟨b, o, cap, vs, rfl, _⟩
  · exact ⟨none, 0, 0, rfl, fun _ => List.eq_nil_of_length_eq_zero h0⟩
  · exact ⟨_, _, _, rfl, fun h => by cases h⟩


theorem wp_isnil {P : Program} {w0 : World} {T T' : TypeId} (heq : ∀ a n c w, (Go.binOp .eql T (.slice a n c) (.slice none 0 0)).run P w = .ok (.bool a.isNone) w) (id : Nat) (o1 o2 : Oper) (h1 : o1.op = .move (.tmp 0)) (d1 : o1.dst = some 3) (g1 : o1.guard = none)
    (h2 : o2.op = .binOp .eql T (.tmp 3) (.const (.slice none 0 0)) T') (d2 : o2.dst = some 4) (g2 : o2.guard = none) {c : Cd} (xs : List c.den) (L : List Ob) :
    Wp P w0 (.region id #[o1, o2] false) ⟨slots 8 [(0, .d (.list c) xs)], L⟩ (fun x st' => x = .normal ∧ ((st' = ⟨slots 8 [(0, .d (.list c) xs), (4, .v (.bool true))], L⟩ ∧ xs = []) ∨ st' = ⟨slots 8 [(0, .d (.list c) xs), (4, .v (.bool false))], L⟩)) := by
  intro E t d QQ hs hk
  have ht := hs.tm.get 0
  have ht' : relHV E (.d (.list c) xs) (t.getD 0 undef) := by
    simp only [slots] at ht
    rw [Tm.get_put (by decide)] at ht
    exact ht
  have hlen : t.length = 8 := hs.tm.n.symm
  obtain ⟨a, n, k, hv, hnil⟩ := data_slice ht'
  have hin : ∀ b : Bool, (b = true → xs = []) → Sim w0 E ⟨slots 8 [(0, .d (.list c) xs), (4, .v (.bool b))], L⟩ ((t.set 3 (t.getD 0 undef)).set 4 (.bool b)) := fun b _ => by
    refine { hs with L := hs.L, tm := ⟨by simp [hlen, slots, Tm.n_put], fun i => ?_⟩ }
    simp only [slots]
    rw [Tm.get_put (by decide)]
    by_cases h0 : i = 0 ∧ 0 < (Tm.put ⟨8, .nil⟩ 4 (.v (.bool b))).n
    · rw [if_pos h0, h0.1]
      simpa [List.getD_eq_getElem?_getD] using ht'
    · rw [if_neg h0, Tm.get_put (by decide)]
      by_cases h4 : i = 4 ∧ 4 < (⟨8, .nil⟩ : Tm).n
      · rw [if_pos h4, h4.1]
        show _ = _
        simp [List.getD_eq_getElem?_getD, hlen]
      · rw [if_neg h4]; trivial
  refine wp_region_list ?_
  have w1 : ∀ tm, Region.wanted o1 (yielded #[o1, o2] tm) = true := fun tm => by simp [Region.wanted, g1]
  have w2 : ∀ tm, Region.wanted o2 (yielded #[o1, o2] tm) = true := fun tm => by simp [Region.wanted, g2]
  simp only [wpList, w1, w2, if_true]
  left
  have hm : (execOp (Act.eval ⟨t.toArray, d⟩) o1).run P E.w = .ok (.value (t.getD 0 undef)) E.w := by
    simp [execOp, h1, Act.eval, List.getD_eq_getElem?_getD]
  refine Oper.wp_value hm ?_
  left
  refine Oper.wp_value (w' := E.w) (y := .bool a.isNone) ?_ ?_
  · have e3 : Act.eval (Act.put ⟨t.toArray, d⟩ o1.dst (t.getD 0 undef)) (.tmp 3) = t.getD 0 undef := by
      simp [Act.eval, Act.put, d1, hlen]
    have hg : ∀ w, (eqGuard .eql T (.tmp 3) (.const (.slice none 0 0)) (.slice a n k) (.slice none 0 0)).run P w = .ok () w := fun _ => rfl
    rw [hv] at e3
    have ec : Act.eval (Act.put ⟨t.toArray, d⟩ o1.dst (t.getD 0 undef)) (.const (.slice none 0 0)) = .slice none 0 0 := rfl
    rw [hv] at ec ⊢
    generalize Act.put ⟨t.toArray, d⟩ o1.dst (Value.slice a n k) = A at e3 ec ⊢
    simp only [execOp, h2, e3, ec, Sem.run_bind, hg, heq, Result.andThen_ok, Sem.run_pure]
  · have hput : Act.put (Act.put ⟨t.toArray, d⟩ o1.dst (t.getD 0 undef)) o2.dst (.bool a.isNone) = ⟨((t.set 3 (t.getD 0 undef)).set 4 (.bool a.isNone)).toArray, d⟩ := by
      simp [Act.put, d1, d2]
    rw [hput]
    cases a with
    | none => exact hk E _ _ .normal ⟨rfl, .inl ⟨rfl, hnil rfl⟩⟩ (hin true fun _ => hnil rfl) (Mod.refl E)
    | some a => exact hk E _ _ .normal ⟨rfl, .inr rfl⟩ (hin false fun h => by cases h) (Mod.refl E)

theorem slot2 (h : HV) : (slots 8 [(2, h)]).get 2 = h := by kernel_rfl

/-- The new row that a Clone of nothing may be: none. -/
theorem sim_none {w0 : World} {E : Env} {st : St} {t : List Value} (hs : Sim w0 E st t) (c : Cd) : ∃ E', E'.w = E.w ∧ E'.L = E.L ++ [.row c 0 0 []] ∧ Sim w0 E' ⟨st.tmps, E.L ++ [.row c 0 0 []]⟩ t ∧ Mod E E' ∧ relHV E' (.own c E.L.length 0 0) (.slice none 0 0) := by
  let E' : Env := ⟨E.I, fun i v => if i = E.L.length then none else E.β i v, E.L ++ [.row c 0 0 []], E.w⟩
  obtain ⟨h1, h2⟩ := sim_add (E' := E') hs [.row c 0 0 []] rfl (fun i v h => by simp only [E']; rw [if_neg (by omega)]) (fun _ _ => rfl) (Nat.le_refl _) (fun _ _ h => h) (fun _ _ h => .inl h) hs.Ilt (by simp)
    (fun o ho => by
      cases ho
      refine ⟨by simp only [relOb, E']; simp, fun b p h => by simp [E'] at h⟩) rfl rfl rfl
  refine ⟨E', rfl, rfl, h1, h2, relHV_own.2 ⟨_, _, _, .row c 0 0 [], rfl, by simp [E'], Nat.le_refl _, fun _ => ⟨0, [], rfl, ?_⟩⟩⟩
  simp [ownAt, E']


theorem code57 : Tryz.f57.body = some (.seq (pc 57 [0]) (.seq (.seq (pc 57 [1, 0, 0]) (.cond (.tmp 4) (pc 57 [1, 0, 1, 0]) .skip)) (pc 57 [1, 1]))) := by kernel_rfl

theorem reg57 : pc 57 [1, 0, 0] = Code.region 1 #[{ dst := some 3, op := .move (.tmp 0), type := 33, pos := "slices.go:357", after := #[], guard := none }, { dst := some 4, op := .binOp .eql 33 (.tmp 3) (.const (.slice none 0 0)) 33, type := 4, pos := "slices.go:357", after := #[{ on := 0, ground := .data }], guard := none }] false := by kernel_rfl

theorem clone57a (xs : List Fld) (L : List Ob) (k : KX) : ev0 G0 (pc 57 [0]) ⟨argT 0 [.d (.list .fld) xs] ⟨8, .nil⟩, L⟩ (fun x st => k x (st.keep [0])) = k .normal ⟨slots 8 [(0, .d (.list .fld) xs)], L⟩ := by kernel_rfl
theorem clone57b (xs : List Fld) (L : List Ob) (k : KX) : ev0 G0 (.cond (.tmp 4) (pc 57 [1, 0, 1, 0]) .skip) ⟨slots 8 [(0, .d (.list .fld) xs), (4, .v (.bool true))], L⟩ (fun x st => k x (st.keep [2])) = k .ret ⟨slots 8 [(2, .v (.slice none 0 0))], L⟩ := by kernel_rfl
theorem clone57d (xs : List Fld) (L : List Ob) (k : KX) : ev0 G0 (.cond (.tmp 4) (pc 57 [1, 0, 1, 0]) .skip) ⟨slots 8 [(0, .d (.list .fld) xs), (4, .v (.bool false))], L⟩ (fun x st => k x (st.keep [0])) = k .normal ⟨slots 8 [(0, .d (.list .fld) xs)], L⟩ := by kernel_rfl
theorem clone57c (xs : List Fld) (L : List Ob) (k : KX) : ev0 G0 (pc 57 [1, 1]) ⟨slots 8 [(0, .d (.list .fld) xs)], L⟩ (fun x st => k x (st.keep [2])) = (decide (xs.length * bytesT Tryz.prog 45 ≤ 140737488355328) && k .ret ⟨slots 8 [(2, .own .fld L.length 0 xs.length)], L ++ [.row .fld 0 0 xs]⟩) := by kernel_rfl

theorem do57 {w0 : World} (xs : List Fld) (L : List Ob) (kr : KR) (h : cloneK Tryz.prog 45 .fld xs L kr = true) : Does Tryz.prog w0 57 [.d (.list .fld) xs] L kr := by
  unfold cloneK at h
  rw [Bool.and_eq_true] at h
  have hG := gamOK0 w0
  have hd : Does Tryz.prog w0 57 [.d (.list .fld) xs] L (fun r L' => yes ((r = .ret (.v (.slice none 0 0)) ∧ L' = L ∧ xs = []) ∨ kr r L' = true)) := by
    refine does_raw Tryz.func57 code57 (n := 8) (by kernel_rfl) (i := 2) rfl ?_
    refine wp_seq' (ev0_ok hG [0] (clone57a xs L) (yes_mk ?_))
    refine wp_seq' (wp_seq' ?_)
    rw [reg57]
    refine Wp.mono (wp_isnil (c := .fld) eqnil33 1 _ _ rfl rfl rfl rfl rfl rfl xs L) ?_
    rintro x st' ⟨rfl, ⟨rfl, hx⟩ | rfl⟩
    · refine ev0_ok hG [2] (clone57b xs L) (yes_mk ⟨rfl, by dsimp only; rw [slot2]; exact yes_mk (.inl ⟨rfl, rfl, hx⟩)⟩)
    · refine ev0_ok hG [0] (clone57d xs L) (yes_mk ?_)
      refine ev0_ok hG [2] (clone57c xs L) ?_
      rw [h.1, Bool.true_and]
      refine yes_mk ⟨rfl, ?_⟩
      dsimp only
      rw [slot2]
      exact yes_mk (.inr h.2)
  refine ⟨hd.1, fun E vs hs hv => (hd.2 E vs hs hv).mono ?_⟩
  rintro e w' ⟨E', L', y, hh, rfl, g1, g2, g3, g4⟩
  rcases g4 with ⟨rfl, g4⟩ | ⟨_, g4⟩
  · rcases of_yes g4 with ⟨a1, rfl, rfl⟩ | g4
    · cases a1
      obtain ⟨E'', e1, e2, e3, e4, e5⟩ := sim_none g1 .fld
      have hEL : E'.L = L' := g1.L
      rw [hEL] at e2 e3 e5
      exact ⟨E'', _, y, _, e1, e3, g2.trans e4, by rw [show y = .slice none 0 0 from g3]; exact e5, .inl ⟨rfl, h.2⟩⟩
    · exact ⟨E', L', y, hh, rfl, g1, g2, g3, .inl ⟨rfl, g4⟩⟩
  · rcases of_yes g4 with ⟨a1, -, -⟩ | g4
    · cases a1
    · exact ⟨E', L', y, hh, rfl, g1, g2, g3, .inr ⟨‹_›, g4⟩⟩

theorem code58 : Tryz.f58.body = some (.seq (pc 58 [0]) (.seq (.seq (pc 58 [1, 0, 0]) (.cond (.tmp 4) (pc 58 [1, 0, 1, 0]) .skip)) (pc 58 [1, 1]))) := by kernel_rfl

theorem reg58 : pc 58 [1, 0, 0] = Code.region 1 #[{ dst := some 3, op := .move (.tmp 0), type := 35, pos := "slices.go:357", after := #[], guard := none }, { dst := some 4, op := .binOp .eql 35 (.tmp 3) (.const (.slice none 0 0)) 35, type := 4, pos := "slices.go:357", after := #[{ on := 0, ground := .data }], guard := none }] false := by kernel_rfl

theorem clone58a (xs : List Int) (L : List Ob) (k : KX) : ev0 G0 (pc 58 [0]) ⟨argT 0 [.d (.list (.int .i64)) xs] ⟨8, .nil⟩, L⟩ (fun x st => k x (st.keep [0])) = k .normal ⟨slots 8 [(0, .d (.list (.int .i64)) xs)], L⟩ := by kernel_rfl
theorem clone58b (xs : List Int) (L : List Ob) (k : KX) : ev0 G0 (.cond (.tmp 4) (pc 58 [1, 0, 1, 0]) .skip) ⟨slots 8 [(0, .d (.list (.int .i64)) xs), (4, .v (.bool true))], L⟩ (fun x st => k x (st.keep [2])) = k .ret ⟨slots 8 [(2, .v (.slice none 0 0))], L⟩ := by kernel_rfl
theorem clone58d (xs : List Int) (L : List Ob) (k : KX) : ev0 G0 (.cond (.tmp 4) (pc 58 [1, 0, 1, 0]) .skip) ⟨slots 8 [(0, .d (.list (.int .i64)) xs), (4, .v (.bool false))], L⟩ (fun x st => k x (st.keep [0])) = k .normal ⟨slots 8 [(0, .d (.list (.int .i64)) xs)], L⟩ := by kernel_rfl
theorem clone58c (xs : List Int) (L : List Ob) (k : KX) : ev0 G0 (pc 58 [1, 1]) ⟨slots 8 [(0, .d (.list (.int .i64)) xs)], L⟩ (fun x st => k x (st.keep [2])) = (decide (xs.length * bytesT Tryz.prog 3 ≤ 140737488355328) && k .ret ⟨slots 8 [(2, .own (.int .i64) L.length 0 xs.length)], L ++ [.row (.int .i64) 0 0 xs]⟩) := by kernel_rfl

theorem do58 {w0 : World} (xs : List Int) (L : List Ob) (kr : KR) (h : cloneK Tryz.prog 3 (.int .i64) xs L kr = true) : Does Tryz.prog w0 58 [.d (.list (.int .i64)) xs] L kr := by
  unfold cloneK at h
  rw [Bool.and_eq_true] at h
  have hG := gamOK0 w0
  have hd : Does Tryz.prog w0 58 [.d (.list (.int .i64)) xs] L (fun r L' => yes ((r = .ret (.v (.slice none 0 0)) ∧ L' = L ∧ xs = []) ∨ kr r L' = true)) := by
    refine does_raw Tryz.func58 code58 (n := 8) (by kernel_rfl) (i := 2) rfl ?_
    refine wp_seq' (ev0_ok hG [0] (clone58a xs L) (yes_mk ?_))
    refine wp_seq' (wp_seq' ?_)
    rw [reg58]
    refine Wp.mono (wp_isnil (c := (.int .i64)) eqnil35 1 _ _ rfl rfl rfl rfl rfl rfl xs L) ?_
    rintro x st' ⟨rfl, ⟨rfl, hx⟩ | rfl⟩
    · refine ev0_ok hG [2] (clone58b xs L) (yes_mk ⟨rfl, by dsimp only; rw [slot2]; exact yes_mk (.inl ⟨rfl, rfl, hx⟩)⟩)
    · refine ev0_ok hG [0] (clone58d xs L) (yes_mk ?_)
      refine ev0_ok hG [2] (clone58c xs L) ?_
      rw [h.1, Bool.true_and]
      refine yes_mk ⟨rfl, ?_⟩
      dsimp only
      rw [slot2]
      exact yes_mk (.inr h.2)
  refine ⟨hd.1, fun E vs hs hv => (hd.2 E vs hs hv).mono ?_⟩
  rintro e w' ⟨E', L', y, hh, rfl, g1, g2, g3, g4⟩
  rcases g4 with ⟨rfl, g4⟩ | ⟨_, g4⟩
  · rcases of_yes g4 with ⟨a1, rfl, rfl⟩ | g4
    · cases a1
      obtain ⟨E'', e1, e2, e3, e4, e5⟩ := sim_none g1 (.int .i64)
      have hEL : E'.L = L' := g1.L
      rw [hEL] at e2 e3 e5
      exact ⟨E'', _, y, _, e1, e3, g2.trans e4, by rw [show y = .slice none 0 0 from g3]; exact e5, .inl ⟨rfl, h.2⟩⟩
    · exact ⟨E', L', y, hh, rfl, g1, g2, g3, .inl ⟨rfl, g4⟩⟩
  · rcases of_yes g4 with ⟨a1, -, -⟩ | g4
    · cases a1
    · exact ⟨E', L', y, hh, rfl, g1, g2, g3, .inr ⟨‹_›, g4⟩⟩

theorem code59 : Tryz.f59.body = some (.seq (pc 59 [0]) (.seq (.seq (pc 59 [1, 0, 0]) (.cond (.tmp 4) (pc 59 [1, 0, 1, 0]) .skip)) (pc 59 [1, 1]))) := by kernel_rfl

theorem reg59 : pc 59 [1, 0, 0] = Code.region 1 #[{ dst := some 3, op := .move (.tmp 0), type := 34, pos := "slices.go:357", after := #[], guard := none }, { dst := some 4, op := .binOp .eql 34 (.tmp 3) (.const (.slice none 0 0)) 34, type := 4, pos := "slices.go:357", after := #[{ on := 0, ground := .data }], guard := none }] false := by kernel_rfl

theorem clone59a (xs : List ByteArray) (L : List Ob) (k : KX) : ev0 G0 (pc 59 [0]) ⟨argT 0 [.d (.list .str) xs] ⟨8, .nil⟩, L⟩ (fun x st => k x (st.keep [0])) = k .normal ⟨slots 8 [(0, .d (.list .str) xs)], L⟩ := by kernel_rfl
theorem clone59b (xs : List ByteArray) (L : List Ob) (k : KX) : ev0 G0 (.cond (.tmp 4) (pc 59 [1, 0, 1, 0]) .skip) ⟨slots 8 [(0, .d (.list .str) xs), (4, .v (.bool true))], L⟩ (fun x st => k x (st.keep [2])) = k .ret ⟨slots 8 [(2, .v (.slice none 0 0))], L⟩ := by kernel_rfl
theorem clone59d (xs : List ByteArray) (L : List Ob) (k : KX) : ev0 G0 (.cond (.tmp 4) (pc 59 [1, 0, 1, 0]) .skip) ⟨slots 8 [(0, .d (.list .str) xs), (4, .v (.bool false))], L⟩ (fun x st => k x (st.keep [0])) = k .normal ⟨slots 8 [(0, .d (.list .str) xs)], L⟩ := by kernel_rfl
theorem clone59c (xs : List ByteArray) (L : List Ob) (k : KX) : ev0 G0 (pc 59 [1, 1]) ⟨slots 8 [(0, .d (.list .str) xs)], L⟩ (fun x st => k x (st.keep [2])) = (decide (xs.length * bytesT Tryz.prog 9 ≤ 140737488355328) && k .ret ⟨slots 8 [(2, .own .str L.length 0 xs.length)], L ++ [.row .str 0 0 xs]⟩) := by kernel_rfl

theorem do59 {w0 : World} (xs : List ByteArray) (L : List Ob) (kr : KR) (h : cloneK Tryz.prog 9 .str xs L kr = true) : Does Tryz.prog w0 59 [.d (.list .str) xs] L kr := by
  unfold cloneK at h
  rw [Bool.and_eq_true] at h
  have hG := gamOK0 w0
  have hd : Does Tryz.prog w0 59 [.d (.list .str) xs] L (fun r L' => yes ((r = .ret (.v (.slice none 0 0)) ∧ L' = L ∧ xs = []) ∨ kr r L' = true)) := by
    refine does_raw Tryz.func59 code59 (n := 8) (by kernel_rfl) (i := 2) rfl ?_
    refine wp_seq' (ev0_ok hG [0] (clone59a xs L) (yes_mk ?_))
    refine wp_seq' (wp_seq' ?_)
    rw [reg59]
    refine Wp.mono (wp_isnil (c := .str) eqnil34 1 _ _ rfl rfl rfl rfl rfl rfl xs L) ?_
    rintro x st' ⟨rfl, ⟨rfl, hx⟩ | rfl⟩
    · refine ev0_ok hG [2] (clone59b xs L) (yes_mk ⟨rfl, by dsimp only; rw [slot2]; exact yes_mk (.inl ⟨rfl, rfl, hx⟩)⟩)
    · refine ev0_ok hG [0] (clone59d xs L) (yes_mk ?_)
      refine ev0_ok hG [2] (clone59c xs L) ?_
      rw [h.1, Bool.true_and]
      refine yes_mk ⟨rfl, ?_⟩
      dsimp only
      rw [slot2]
      exact yes_mk (.inr h.2)
  refine ⟨hd.1, fun E vs hs hv => (hd.2 E vs hs hv).mono ?_⟩
  rintro e w' ⟨E', L', y, hh, rfl, g1, g2, g3, g4⟩
  rcases g4 with ⟨rfl, g4⟩ | ⟨_, g4⟩
  · rcases of_yes g4 with ⟨a1, rfl, rfl⟩ | g4
    · cases a1
      obtain ⟨E'', e1, e2, e3, e4, e5⟩ := sim_none g1 .str
      have hEL : E'.L = L' := g1.L
      rw [hEL] at e2 e3 e5
      exact ⟨E'', _, y, _, e1, e3, g2.trans e4, by rw [show y = .slice none 0 0 from g3]; exact e5, .inl ⟨rfl, h.2⟩⟩
    · exact ⟨E', L', y, hh, rfl, g1, g2, g3, .inl ⟨rfl, g4⟩⟩
  · rcases of_yes g4 with ⟨a1, -, -⟩ | g4
    · cases a1
    · exact ⟨E', L', y, hh, rfl, g1, g2, g3, .inr ⟨‹_›, g4⟩⟩
end Go.Proofs.YtiaeljbnhdhfcaaGreatDoor
