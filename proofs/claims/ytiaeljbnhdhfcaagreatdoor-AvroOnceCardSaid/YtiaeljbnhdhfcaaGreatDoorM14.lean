/- Facts of the program, and of the functions that recover. -/
import Derived.Test.YtiaeljbnhdhfcaaGreatDoorProg
import Derived.WalkKit
import Derived.Recover
import Derived.KernelRfl
import Derived.Test.YtiaeljbnhdhfcaaGreatDoorM13
import Derived.Test.YtiaeljbnhdhfcaaGreatDoorS1
namespace Go.Proofs.YtiaeljbnhdhfcaaGreatDoor
open Go Go.RowKit

theorem caught_idle (p : Addr) (w : World) :
    CallsD Tryz.prog 23 #[.pointer (some p)] .returning w fun e u' w' => e = .returned (.tuple #[]) ∧ u' = .returning ∧ w' = w := by
  refine callsD_of_wpS Tryz.func23 rfl fun c₀ cs hu => ?_
  apply wpS_seq
  apply wpS_region
  simp [wpOpsS, go_sem, recoverD, hu, Tryz.ntmps23, Exit.thenS]
  refine wpS_of_wp ?_
  cases c₀
  go_wp2
  simp_all [bodyPostS, results, Tryz.results23]

theorem face_idle (p : Addr) (w : World) :
    CallsD Tryz.prog 86 #[.pointer (some p)] .returning w fun e u' w' => e = .returned (.tuple #[]) ∧ u' = .returning ∧ w' = w := by
  refine callsD_of_wpS Tryz.func86 rfl fun c₀ cs hu => ?_
  apply wpS_seq
  apply wpS_region
  simp [wpOpsS, go_sem, recoverD, hu, Tryz.ntmps86, Exit.thenS]
  refine wpS_of_wp ?_
  cases c₀
  go_wp2
  simp_all [bodyPostS, results, Tryz.results86]

set_option maxHeartbeats 1600000 in
theorem caught_hit (p : Addr) (n : Int) (x : Value) (w : World) (hc : ∀ o, (w.alloc o).cell? p = some x) (hz : ∀ o, (w.alloc o).frozen? p = false) :
    CallsD Tryz.prog 23 #[.pointer (some p)] (.panicking [{ v := .iface 85 (.agg #[.int .i64 n]), recovered := false }]) w fun e u' w' =>
      e = .returned (.tuple #[]) ∧ u' = .panicking [{ v := .iface 85 (.agg #[.int .i64 n]), recovered := true }] ∧ ∃ o, w' = (w.alloc o).setCell p (.int .i64 n) := by
  have hta : ∀ w : World, (Instr.typeAssert (.iface 85 (.agg #[.int .i64 n])) 20 85 true).run Tryz.prog w = .ok (.tuple #[.agg #[.int .i64 n], .bool true]) w := fun _ => by kernel_rfl
  refine callsD_of_wpS Tryz.func23 rfl fun c₀ cs hu => ?_
  apply wpS_seq
  apply wpS_region
  simp [wpOpsS, go_sem, recoverD, hu, Tryz.ntmps23, Exit.thenS]
  refine wpS_of_wp ?_
  cases c₀
  apply wp_block
  apply wp_seq
  apply wp_region_list
  simp [wpList, go_sem, Exit.then]
  left
  refine wp_cond_false (by simp [Act.eval]) ?_
  apply wp_seq
  apply wp_region_list
  simp [wpList, go_sem, Exit.then, hta]
  refine .inl (.inl (.inl ?_))
  refine wp_cond_true (by simp [Act.eval]) ?_
  clear hta
  go_wp2
  simp [bodyPostS, results, Tryz.results23] at *
  exact ⟨_, rfl⟩

set_option maxHeartbeats 1600000 in
theorem face_hit (p : Addr) (n : Int) (x : Value) (w : World) (hc : ∀ o, (w.alloc o).cell? p = some x) (hz : ∀ o, (w.alloc o).frozen? p = false) :
    CallsD Tryz.prog 86 #[.pointer (some p)] (.panicking [{ v := .iface 130 (.agg #[.int .i64 n]), recovered := false }]) w fun e u' w' =>
      e = .returned (.tuple #[]) ∧ u' = .panicking [{ v := .iface 130 (.agg #[.int .i64 n]), recovered := true }] ∧ ∃ o, w' = (w.alloc o).setCell p (.int .i64 n) := by
  have hta : ∀ w : World, (Instr.typeAssert (.iface 130 (.agg #[.int .i64 n])) 20 130 true).run Tryz.prog w = .ok (.tuple #[.agg #[.int .i64 n], .bool true]) w := fun _ => by kernel_rfl
  refine callsD_of_wpS Tryz.func86 rfl fun c₀ cs hu => ?_
  apply wpS_seq
  apply wpS_region
  simp [wpOpsS, go_sem, recoverD, hu, Tryz.ntmps86, Exit.thenS]
  refine wpS_of_wp ?_
  cases c₀
  apply wp_block
  apply wp_seq
  apply wp_region_list
  simp [wpList, go_sem, Exit.then]
  left
  refine wp_cond_false (by simp [Act.eval]) ?_
  apply wp_seq
  apply wp_region_list
  simp [wpList, go_sem, Exit.then, hta]
  refine .inl (.inl (.inl ?_))
  refine wp_cond_true (by simp [Act.eval]) ?_
  clear hta
  go_wp2
  simp [bodyPostS, results, Tryz.results86] at *
  exact ⟨_, rfl⟩

end Go.Proofs.YtiaeljbnhdhfcaaGreatDoor

namespace Go.Proofs.YtiaeljbnhdhfcaaGreatDoor
open Go Go.RowKit Go.Lx

theorem catch9 (id : Nat) (ops : Array Oper) (b : Bool) (r0 rest : Code) (h : Tryz.f9.body = some (.seq r0 (.seq (.region id ops b) rest))) :
    CatchOK Tryz.prog 85 5 (fun v => { target := .fn (.func 23) #[], args := #[v] }) id ops b := by
  have h0 : Tryz.f9.body = some _ := rfl
  rw [h0] at h
  simp only [Option.some.injEq, Code.seq.injEq, Code.region.injEq] at h
  obtain ⟨-, ⟨rfl, rfl, rfl⟩, -⟩ := h
  refine ⟨fun QQ t w hl hk => ?_, fun p w fn tmps R h => ?_, fun p n x w fn tmps R hc hz h => ?_⟩
  · refine wp_region_list ?_
    have := hk t (fun E M h => h)
    simp [wpList, go_sem, Act.put]
    left
    simpa using this
  · refine leaves_cons (f := 23) (args := #[.pointer (some p)]) (by simp) (by simp [go_sem]) ?_
    refine (caught_idle p w).mono ?_
    rintro e u' w' ⟨rfl, rfl, rfl⟩
    exact h
  · refine leaves_cons (f := 23) (args := #[.pointer (some p)]) (by simp) (by simp [go_sem]) ?_
    refine (caught_hit p n x w hc hz).mono ?_
    rintro e u' w' ⟨rfl, rfl, o, rfl⟩
    exact h o

theorem catch43 (id : Nat) (ops : Array Oper) (b : Bool) (r0 rest : Code) (h : Tryz.f43.body = some (.seq r0 (.seq (.region id ops b) rest))) :
    CatchOK Tryz.prog 130 2 (fun v => { target := .fn (.func 86) #[v], args := #[] }) id ops b := by
  have hmf : ∀ (fn : Fn) (first cap : Array Value) (w : World), (Instr.makeFunc fn first cap).run Tryz.prog w = .ok (.func fn first cap) w := fun _ _ _ _ => rfl
  have h0 : Tryz.f43.body = some _ := rfl
  rw [h0] at h
  simp only [Option.some.injEq, Code.seq.injEq, Code.region.injEq] at h
  obtain ⟨-, ⟨rfl, rfl, rfl⟩, -⟩ := h
  refine ⟨fun QQ t w hl hk => ?_, fun p w fn tmps R h => ?_, fun p n x w fn tmps R hc hz h => ?_⟩
  · refine wp_region_list ?_
    have := hk (t.set 3 (.func (.func 86) #[] #[t.getD 2 undef])) (fun E M h => relT_put h 3 (x := .junk) (y := .func (.func 86) #[] #[t.getD 2 undef]) trivial)
    have h3 : 3 < t.length := hl
    have h2 : 2 < t.length := by omega
    simp [wpList, go_sem, Act.put, h2, h3]
    left
    left
    simpa [h2] using this
  · refine leaves_cons (f := 86) (args := #[.pointer (some p)]) (by simp) (by simp [go_sem]) ?_
    refine (face_idle p w).mono ?_
    rintro e u' w' ⟨rfl, rfl, rfl⟩
    exact h
  · refine leaves_cons (f := 86) (args := #[.pointer (some p)]) (by simp) (by simp [go_sem]) ?_
    refine (face_hit p n x w hc hz).mono ?_
    rintro e u' w' ⟨rfl, rfl, o, rfl⟩
    exact h o
end Go.Proofs.YtiaeljbnhdhfcaaGreatDoor

namespace Go.Proofs.YtiaeljbnhdhfcaaGreatDoor
open Go Go.RowKit Go.Shelf

theorem mixed : Tryz.prog.follows .mixedOrders = true := by kernel_rfl

theorem freeze_rest (w : World) (a : Addr) (n : Nat) : (w.freeze a n).os = w.os ∧ (w.freeze a n).tape = w.tape ∧ (w.freeze a n).output = w.output := by
  unfold World.freeze
  split <;> exact ⟨rfl, rfl, rfl⟩

theorem freeze_heap (w : World) (a : Addr) (n : Nat) : (w.drew.freeze a n).heap = (w.freeze a n).heap := by
  unfold World.freeze
  split <;> rfl

theorem sizeBuilder : (Tryz.prog.info? 180).map (·.size) = some 2 := by kernel_rfl

set_option maxHeartbeats 1000000 in
set_option maxRecDepth 100000 in
theorem cc_used (b : Nat) (w : World) (h0 : w.cell? ⟨b, 0, none⟩ = some (.pointer (some ⟨b, 0, none⟩))) :
    Calls Tryz.prog 173 #[.pointer (some ⟨b, 0, none⟩)] w fun e w' => e = .returned (.tuple #[]) ∧ w' = w := by
  obtain ⟨j, hj, _⟩ := Option.map_eq_some_iff.1 sizeBuilder
  go_enter Tryz.func173, Tryz.ntmps173
  go_wp2
  rw [Lib.run_neq_ptr_same w _ Tryz.underlying178 hj]
  go_wp2
  go_end0
  exact ⟨rfl, rfl⟩

set_option maxHeartbeats 1000000 in
set_option maxRecDepth 100000 in
theorem cc_fresh (b : Nat) (w : World) (h0 : w.cell? ⟨b, 0, none⟩ = some (.pointer none)) (hsh : w.shape? b = some (180, 2)) (hfz : w.frozen? ⟨b, 0, none⟩ = false) :
    Calls Tryz.prog 173 #[.pointer (some ⟨b, 0, none⟩)] w fun e w' => e = .returned (.tuple #[]) ∧ w' = w.setCell ⟨b, 0, none⟩ (.pointer (some ⟨b, 0, none⟩)) := by
  obtain ⟨j, hj, hjs⟩ := Option.map_eq_some_iff.1 sizeBuilder
  go_enter Tryz.func173, Tryz.ntmps173
  go_wp2
  rw [Lib.run_to_unsafe w ⟨b, 0, none⟩ Tryz.underlying178 Tryz.underlying229 hj (by rw [hjs]; decide) hsh (Nat.zero_lt_succ 1)]
  simp only [Result.andThen]
  rw [Oper.upon_value]
  go_wp2
  rw [run_callFunc_extern Tryz.func202 (by kernel_rfl) (by kernel_rfl) (by kernel_rfl) (e := Extern.AbiNoEscape.same) (by kernel_rfl)]
  rw [Lib.run_noEscape]
  simp only [Result.andThen]
  rw [Oper.upon_value]
  go_wp2
  rw [Lib.run_from_unsafe w ⟨b, 0, none⟩ Tryz.underlying229 Tryz.underlying178 hj hsh (by kernel_rfl)]
  simp only [Result.andThen]
  rw [Oper.upon_value]
  go_wp2
  go_end0
  exact ⟨rfl, rfl⟩

set_option maxHeartbeats 1000000 in
set_option maxRecDepth 100000 in
/-- String, of a builder that holds bytes. -/
theorem bs_some (b g cap : Nat) (l : List UInt8) (p : Value) (cur : Array Value) (fr : Nat × Nat) (w : World) (hbk : w.heap[b]? = some (.cells #[p, .slice (some ⟨g, 0, none⟩) l.length cap] 180 (0, 0))) (hg : w.heap[g]? = some (.cells cur 5 fr)) (h0 : l ≠ []) (hc : l.length ≤ cap)
    (hsz : l.length ≤ cur.size) (h63 : l.length ≤ 9223372036854775807) (hcell : ∀ j x, l[j]? = some x → w.cell? ⟨g, j, none⟩ = some (.int .u8 x.toNat)) :
    Calls Tryz.prog 139 #[.pointer (some ⟨b, 0, none⟩)] w fun e w' => e = .returned (.string ⟨l.toArray⟩) ∧ w'.heap = (w.freeze ⟨g, 0, none⟩ l.length).heap ∧ w'.os = w.os ∧ w'.tape = w.tape ∧ w'.output = w.output := by
  have hl0 : l.length ≠ 0 := by simpa using h0
  have c1 : w.drew.cell? ⟨b, 1, none⟩ = some (.slice (some ⟨g, 0, none⟩) l.length cap) := by
    have : w.drew.heap[b]? = some (.cells #[p, .slice (some ⟨g, 0, none⟩) l.length cap] 180 (0, 0)) := hbk
    rw [Lib.cell_of_heap this]; rfl
  have hSD : (Builtin.unsafeSliceData_ #[23] 210 #[.slice (some ⟨g, 0, none⟩) l.length cap]).run Tryz.prog w.drew = .ok (.pointer (some ⟨g, 0, none⟩)) w.drew :=
    Lib.run_unsafeSliceData_row _ _ _ _ _ _ (by omega)
  have hUS : (Builtin.unsafeString_ #[210, 3] 9 #[.pointer (some ⟨g, 0, none⟩), .int .i64 l.length]).run Tryz.prog w.drew = .ok (.string ⟨l.toArray⟩) (w.drew.freeze ⟨g, 0, none⟩ l.length) := by
    refine Lib.run_unsafeString_row w.drew 210 3 9 5 Tryz.underlying210 (by kernel_rfl) g cur.size (by have hg' : w.drew.heap[g]? = some (.cells cur 5 fr) := hg; simp [World.shape?, hg']) l h0 hsz h63 ?_
    intro j x hx
    have := hcell j x hx
    cases j with
    | zero => exact this
    | succ j => simpa [Addr.add] using this
  have mixed := mixed
  go_enter Tryz.func139, Tryz.ntmps139
  go_wp2
  go_region_o
  all_goals (go_wp2; go_ret; exact ⟨rfl, freeze_heap _ _ _, freeze_rest _ _ _⟩)

set_option maxHeartbeats 1000000 in
set_option maxRecDepth 100000 in
/-- String, of a builder that holds nothing. -/
theorem bs_nil (b : Nat) (p : Value) (w : World) (hbk : w.heap[b]? = some (.cells #[p, .slice none 0 0] 180 (0, 0))) :
    Calls Tryz.prog 139 #[.pointer (some ⟨b, 0, none⟩)] w fun e w' => e = .returned (.string ⟨#[]⟩) ∧ w' = w.drew := by
  have hUS : ∀ (W : World) (q : Option Addr), (Builtin.unsafeString_ #[210, 3] 9 #[.pointer q, .int .i64 0]).run Tryz.prog W = .ok (.string .empty) W := fun W q => Lib.run_unsafeString_none W _ _ _ q
  have c1 : w.drew.cell? ⟨b, 1, none⟩ = some (.slice none 0 0) := by
    have : w.drew.heap[b]? = some (.cells #[p, .slice none 0 0] 180 (0, 0)) := hbk
    rw [Lib.cell_of_heap this]; rfl
  have hSD : (Builtin.unsafeSliceData_ #[23] 210 #[.slice none 0 0]).run Tryz.prog w.drew = .ok (.pointer none) w.drew := rfl
  have mixed := mixed
  go_enter Tryz.func139, Tryz.ntmps139
  go_wp2
  go_region_o
  all_goals (go_wp2; go_ret; exact ⟨rfl, rfl⟩)
end Go.Proofs.YtiaeljbnhdhfcaaGreatDoor

namespace Go.Proofs.YtiaeljbnhdhfcaaGreatDoor
open Go Go.RowKit Go.Lx

theorem idxGo_eq (c : UInt8) : ∀ (l : List UInt8) (n : Nat), idxGo c l n = if Lib.indexByte l c = -1 then -1 else Lib.indexByte l c + n
  | [], n => by simp [idxGo, Lib.indexByte]
  | b :: l, n => by
    simp only [idxGo, Lib.indexByte]
    by_cases h : b = c
    · simp [h]
    · have h' : (b == c) = false := by simpa using h
      simp only [h', cond_false]
      rw [idxGo_eq c l (n + 1)]
      have := Lib.indexByte_ge l c
      by_cases h1 : Lib.indexByte l c = -1
      · simp [h1]
      · simp only [h1, if_false, beq_iff_eq, Bool.false_eq_true]
        rw [if_neg (by omega)]; push_cast; omega

theorem idxGo_zero (c : UInt8) (l : List UInt8) : idxGo c l 0 = Lib.indexByte l c := by
  rw [idxGo_eq]
  split
  · rename_i h; exact h.symm
  · simp

theorem lastGo_spec (c : UInt8) : ∀ (l : List UInt8) (n : Nat) (r : Int), (lastGo c l n r = r ∧ ∀ j : Nat, l[j]? ≠ some c) ∨ ∃ i : Nat, lastGo c l n r = ((n + i : Nat) : Int) ∧ l[i]? = some c ∧ ∀ j, i < j → l[j]? ≠ some c
  | [], n, r => .inl ⟨rfl, fun j => by simp⟩
  | b :: l, n, r => by
    simp only [lastGo]
    by_cases h : b = c
    · subst h
      simp only [beq_self_eq_true, cond_true]
      rcases lastGo_spec b l (n + 1) n with ⟨h1, h2⟩ | ⟨i, h1, h2, h3⟩
      · exact .inr ⟨0, by rw [h1]; simp, rfl, fun j hj => by obtain ⟨k, rfl⟩ : ∃ k, j = k + 1 := ⟨j - 1, by omega⟩; simpa using h2 k⟩
      · exact .inr ⟨i + 1, by rw [h1]; congr 1; omega, by simpa using h2, fun j hj => by obtain ⟨k, rfl⟩ : ∃ k, j = k + 1 := ⟨j - 1, by omega⟩; simpa using h3 k (by omega)⟩
    · have h' : (b == c) = false := by simpa using h
      simp only [h', cond_false]
      rcases lastGo_spec c l (n + 1) r with ⟨h1, h2⟩ | ⟨i, h1, h2, h3⟩
      · exact .inl ⟨h1, fun j => by
          cases j with
          | zero => simpa using h
          | succ j => simpa using h2 j⟩
      · exact .inr ⟨i + 1, by rw [h1]; congr 1; omega, by simpa using h2, fun j hj => by obtain ⟨k, rfl⟩ : ∃ k, j = k + 1 := ⟨j - 1, by omega⟩; simpa using h3 k (by omega)⟩

theorem lastGo_eq (s : ByteArray) (c : Int) (h0 : 0 ≤ c) (h1 : c < 256) : lastGo (UInt8.ofNat c.toNat) s.data.toList 0 (-1) = Lib.lastIndexByte s c := by
  have hc : ((UInt8.ofNat c.toNat).toNat : Int) = c := by
    simp only [UInt8.toNat_ofNat']
    omega
  have at_ : ∀ j, j < s.size → (((s.data[j]!).toNat : Int) = c ↔ s.data.toList[j]? = some (UInt8.ofNat c.toNat)) := fun j hj => by
    have hj' : j < s.data.size := hj
    rw [getElem!_pos s.data j hj']
    simp only [Array.getElem?_toList, Array.getElem?_eq_getElem hj', Option.some.injEq]
    constructor
    · intro h
      apply UInt8.toNat_inj.1
      have : ((s.data[j]).toNat : Int) = ((UInt8.ofNat c.toNat).toNat : Int) := by rw [h, hc]
      exact_mod_cast this
    · rintro h; rw [h, hc]
  have hsz : s.data.toList.length = s.size := Array.length_toList
  rcases Lib.lastIdx_spec s c s.size with ⟨k1, k2⟩ | ⟨i, k0, k1, k2, k3⟩ <;> rcases lastGo_spec (UInt8.ofNat c.toNat) s.data.toList 0 (-1) with ⟨g1, g2⟩ | ⟨i', g1, g2, g3⟩
  · rw [g1]; exact k1.symm
  · have hi : i' < s.size := by have := (List.getElem?_eq_some_iff.1 g2).1; omega
    exact absurd ((at_ i' hi).2 g2) (k2 i' hi)
  · exact absurd ((at_ i k0).1 k2) (g2 i)
  · have hi : i' < s.size := by have := (List.getElem?_eq_some_iff.1 g2).1; omega
    have : i = i' := by
      rcases Nat.lt_trichotomy i i' with h | h | h
      · exact absurd ((at_ i' hi).2 g2) (k3 i' h hi)
      · exact h
      · exact absurd ((at_ i k0).1 k2) (g3 i h)
    subst this
    rw [g1]
    show _ = Lib.lastIdx s c s.size
    rw [k1]; simp

end Go.Proofs.YtiaeljbnhdhfcaaGreatDoor

namespace Go.Proofs.YtiaeljbnhdhfcaaGreatDoor
open Go Go.RowKit Go.Lx

def G0 : Gam := ⟨fun _ _ => none, fun _ _ _ => none⟩

def inB (n : Nat) (i : Int) : Bool := decide (i < (n : Int))

theorem run82 (x0 x1 x2 x3 x4 x5 x6 x7 : Int) (r : List Int) (kr : KR) : evG Tryz.prog G0 1 1 82 [.d (.list (.int .u8)) (x0 :: x1 :: x2 :: x3 :: x4 :: x5 :: x6 :: x7 :: r)] [] kr =
    (inB (r.length + 8) 0 && (inB (r.length + 8) 1 && (inB (r.length + 8) 2 && (inB (r.length + 8) 3 && (inB (r.length + 8) 4 && (inB (r.length + 8) 5 && (inB (r.length + 8) 6 && (inB (r.length + 8) 7 &&
      kr (.ret (.v (.int .u64 (word8 x0 x1 x2 x3 x4 x5 x6 x7)))) [])))))))) := by kernel_rfl

end Go.Proofs.YtiaeljbnhdhfcaaGreatDoor

namespace Go.Proofs.YtiaeljbnhdhfcaaGreatDoor
open Go Go.RowKit Go.Lx

theorem catches : CatchesOK Tryz.prog := by
  refine ⟨⟨fun v => { target := .fn (.func 23) #[], args := #[v] }, fun fn r0 id ops b rest hf hb => ?_⟩, ⟨fun v => { target := .fn (.func 86) #[v], args := #[] }, fun fn r0 id ops b rest hf hb => ?_⟩⟩
  · rw [Tryz.func9] at hf; cases hf; exact catch9 id ops b r0 rest hb
  · rw [Tryz.func43] at hf; cases hf; exact catch43 id ops b r0 rest hb

def nameOk (fs : Array Func) : Bool := fs.toList.all fun fn => !(fn.name == "runtime.NumGoroutine")

theorem names_ok : nameOk Tryz.prog.funcs = true := by kernel_rfl

def zeroSize (i : TypeInfo) : Bool := match i.zero with | some z => Nat.beq z.cells.size i.size | none => false

theorem zeros_ok : (Tryz.prog.types.toList.all zeroSize && Nat.beq Tryz.prog.types.size 336) = true := by kernel_rfl

theorem progOK : ProgOK Tryz.prog where
  mixed := by kernel_rfl
  dec := ⟨_, _, _, Tryz.underlying40, ⟨by decide, rfl, rfl⟩, ⟨by decide, rfl, rfl⟩, ⟨by decide, rfl, rfl⟩⟩
  guard40 := by kernel_rfl
  held40 := by kernel_rfl
  u4 := Tryz.underlying4
  u9 := Tryz.underlying9
  u3 := Tryz.underlying3
  names := fun f fn h => by
    have := List.all_eq_true.1 names_ok fn (List.mem_of_getElem? (by simpa using h))
    simpa using this
  zeros := fun t i ht h => by
    have hz := zeros_ok
    rw [Bool.and_eq_true] at hz
    have hs := Nat.eq_of_beq_eq_true hz.2
    have h' : Tryz.prog.types[t]? = some i := by
      have : Tables.info? Tryz.prog.toTables t = some i := h
      unfold Tables.info? at this
      rw [if_pos (by rw [hs]; exact ht)] at this
      exact this
    have := List.all_eq_true.1 hz.1 i (List.mem_of_getElem? (by simpa using h'))
    unfold zeroSize at this
    split at this
    · rename_i z hzz
      exact ⟨z, hzz, Nat.eq_of_beq_eq_true this⟩
    · cases this

end Go.Proofs.YtiaeljbnhdhfcaaGreatDoor
