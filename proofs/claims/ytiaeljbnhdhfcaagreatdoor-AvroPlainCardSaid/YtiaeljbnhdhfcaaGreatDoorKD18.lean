/- avro.Plain: a search through a map of eight names. -/
import Derived.Test.YtiaeljbnhdhfcaaGreatDoorKD17
import Derived.Laws.IdiomRangeMap
import Derived.Maps.RangeRun
import Derived.WideMake
import Derived.Tactics
import Derived.Tactics2
import Derived.StillTactics
import Derived.LoopTactic

namespace Go.Proofs.YtiaeljbnhdhfcaaGreatDoor
open Go Go.RowKit Go.Lx

/-- The eight names, with their numbers. -/
@[reducible] def eight : List (ByteArray × Int) := [(⟨#[110, 117, 108, 108]⟩, 0), (⟨#[98, 111, 111, 108, 101, 97, 110]⟩, 1), (⟨#[105, 110, 116]⟩, 2), (⟨#[108, 111, 110, 103]⟩, 3), (⟨#[102, 108, 111, 97, 116]⟩, 4), (⟨#[100, 111, 117, 98, 108, 101]⟩, 5), (⟨#[98, 121, 116, 101, 115]⟩, 6), (⟨#[115, 116, 114, 105, 110, 103]⟩, 7)]

def ents : List (ByteArray × Int) → Nat → List MapEntry
  | [], _ => []
  | (s, n) :: l, b => { key := .string s, val := .int .i64 n, born := b } :: ents l (b + 1)

def es8 : Array MapEntry := (ents eight 0).toArray

theorem upd (w : World) (es : Array MapEntry) (c : Nat) (s : ByteArray) (v : Value) (hf : Instr.findNow .string (.string s) es.toList 0 = some none) :
    (Instr.mapUpdate 82 (.map (some w.heap.size)) (.string s) v).run Tryz.prog (w.alloc (.map es c)) = .ok () (w.alloc (.map (es.push { key := .string s, val := v, born := c }) (c + 1))) := by
  have hm : Tryz.prog.underlying 82 = some (.map 9 32) := by kernel_rfl
  have hk : Tryz.prog.underlying 9 = some .string := by kernel_rfl
  have hb : (w.alloc (.map es c)).heap[w.heap.size]? = some (.map es c) := heap_alloc_new w _
  have hc : (Instr.checkKey false 10000 9 (.string s)).run Tryz.prog (w.alloc (.map es c)) = .ok () (w.alloc (.map es c)) := MapKept.run_checkKey (k := .string s) hk (by simp [MapKept.IsKey]) false 9999
  have hp : ∀ (h : Array Obj) (x y : Obj), (h.push x).setIfInBounds h.size y = h.push y := by
    intro h x y
    apply Array.toList_inj.1
    simp
  simp [Instr.mapUpdate, run_underlying hm, MapKept.run_getObj_map hb, hc, MapKept.run_findKey hk hf, MapKept.run_setObj_map _ hb, Result.andThen]
  show ({ w.alloc (.map es c) with heap := (w.heap.push (.map es c)).setIfInBounds w.heap.size _ } : World) = _
  rw [hp]
  rfl

theorem plain39 (w : World) : Calls Tryz.prog 39 #[] w fun e w' => e = .returned (.map (some w.heap.size)) ∧ w' = w.alloc (.map es8 8) := by
  have hmk := run_makeMap (P := Tryz.prog) 82 w
  have u0 := upd w #[] 0 ⟨#[110, 117, 108, 108]⟩ (.int .i64 0) (by kernel_rfl)
  have u1 := upd w _ 1 ⟨#[98, 111, 111, 108, 101, 97, 110]⟩ (.int .i64 1) (by kernel_rfl : Instr.findNow .string _ (ents (eight.take 1) 0).toArray.toList 0 = some none)
  have u2 := upd w _ 2 ⟨#[105, 110, 116]⟩ (.int .i64 2) (by kernel_rfl : Instr.findNow .string _ (ents (eight.take 2) 0).toArray.toList 0 = some none)
  have u3 := upd w _ 3 ⟨#[108, 111, 110, 103]⟩ (.int .i64 3) (by kernel_rfl : Instr.findNow .string _ (ents (eight.take 3) 0).toArray.toList 0 = some none)
  have u4 := upd w _ 4 ⟨#[102, 108, 111, 97, 116]⟩ (.int .i64 4) (by kernel_rfl : Instr.findNow .string _ (ents (eight.take 4) 0).toArray.toList 0 = some none)
  have u5 := upd w _ 5 ⟨#[100, 111, 117, 98, 108, 101]⟩ (.int .i64 5) (by kernel_rfl : Instr.findNow .string _ (ents (eight.take 5) 0).toArray.toList 0 = some none)
  have u6 := upd w _ 6 ⟨#[98, 121, 116, 101, 115]⟩ (.int .i64 6) (by kernel_rfl : Instr.findNow .string _ (ents (eight.take 6) 0).toArray.toList 0 = some none)
  have u7 := upd w _ 7 ⟨#[115, 116, 114, 105, 110, 103]⟩ (.int .i64 7) (by kernel_rfl : Instr.findNow .string _ (ents (eight.take 7) 0).toArray.toList 0 = some none)
  simp only [ents, List.take, List.push_toArray, List.nil_append, List.cons_append, Nat.zero_add, Nat.reduceAdd] at u0 u1 u2 u3 u4 u5 u6 u7
  go_enter Tryz.func39, Tryz.ntmps39
  go_wp2
  go_ret
  exact ⟨rfl, rfl⟩

/-- The name of a number; and whether it has one. -/
def nameOf (k : Int) : List (ByteArray × Int) → Option ByteArray
  | [] => none
  | (s, n) :: l => if n = k then some s else nameOf k l

def answer19 (k : Int) : Value := match nameOf k eight with
  | some s => .tuple #[.string s, .bool true]
  | none => .tuple #[.string ⟨#[]⟩, .bool false]

theorem es8_val : ∀ x ∈ es8.toList, ∃ s n, x.key = .string s ∧ x.val = .int .i64 n ∧ nameOf n eight = some s := by
  have h : es8.toList.all (fun x => match x.key, x.val with | .string s, .int .i64 n => decide (nameOf n eight = some s) | _, _ => false) = true := by decide +kernel
  intro x hx
  have := List.all_eq_true.1 h x hx
  split at this
  · rename_i s n h1 h2
    exact ⟨s, n, h1, h2, of_decide_eq_true this⟩
  · cases this

theorem nameOf_mem {k : Int} {s : ByteArray} (h : nameOf k eight = some s) : ∃ x ∈ es8.toList, x.val = .int .i64 k := by
  have : ∀ (l : List (ByteArray × Int)) (b : Nat), nameOf k l = some s → ∃ x ∈ ents l b, x.val = .int .i64 k := by
    intro l
    induction l with
    | nil => intro b h; cases h
    | cons p l ih =>
      obtain ⟨s', n⟩ := p
      intro b h
      unfold nameOf at h
      by_cases hn : n = k
      · exact ⟨_, List.mem_cons_self, by simp [hn]⟩
      · rw [if_neg hn] at h
        obtain ⟨x, hx, hv⟩ := ih (b + 1) h
        exact ⟨x, List.mem_cons_of_mem _ hx, hv⟩
  exact this eight 0 h

theorem es8_old : ∀ x ∈ es8.toList, x.born < 8 := by decide +kernel
theorem es8_nodup : (es8.toList.map (·.born)).Nodup := by decide +kernel

theorem below_set {w W W1 : World} {B r : Nat} {o : Obj} (h : Below B w W) (h1 : W1 = W ∨ W1 = W.drew) (hr : B ≤ r) : Below B w (ChangeMaps.setBlock W1 r o) := by
  have hh : W1.heap = W.heap := by rcases h1 with rfl | rfl <;> rfl
  have ho : W1.os = W.os := by rcases h1 with rfl | rfl <;> rfl
  have ht : W1.tape = W.tape := by rcases h1 with rfl | rfl <;> rfl
  have hu : W1.output = W.output := by rcases h1 with rfl | rfl <;> rfl
  refine ⟨ho.trans h.os, ht.trans h.tape, hu.trans h.output, ?_, fun i hi => ?_⟩
  · show _ ≤ (W1.heap.setIfInBounds r o).size; rw [Array.size_setIfInBounds, hh]; exact h.size
  · show (W1.heap.setIfInBounds r o)[i]? = _
    rw [Array.getElem?_setIfInBounds, if_neg (by omega), hh]; exact h.block i hi

set_option maxHeartbeats 1600000 in
set_option maxRecDepth 100000 in
theorem plain19 (k : Int) (w : World) : Calls Tryz.prog 19 #[.int .i64 k] w fun e w' => e = .returned (answer19 k) ∧ Below w.heap.size w w' := by
  go_enter Tryz.func19, Tryz.ntmps19
  apply wp_seq
  apply wp_region_list
  simp [wpList, go_sem, Exit.then]
  refine .inl (.inl ?_)
  apply wp_seq
  apply wp_seq
  apply wp_region_list
  simp [wpList, go_sem, Exit.then]
  refine .inl ((plain39 w).mono ?_)
  rintro e w' ⟨rfl, hw'⟩
  have hb : w'.heap[w.heap.size]? = some (.map es8 8) := by rw [hw']; exact heap_alloc_new w _
  have hlt : w.heap.size < w'.heap.size := by rw [hw']; show _ < (w.heap.push _).size; rw [Array.size_push]; omega
  have hbel : Below w.heap.size w w' := by
    rw [hw']
    exact ⟨rfl, rfl, rfl, by show _ ≤ (w.heap.push _).size; rw [Array.size_push]; omega, fun i hi => heap_alloc_old w _ hi⟩
  clear hw'
  generalize w.heap.size = bm at *
  have hrg := run_range_map (P := Tryz.prog) w' 82 9 32 bm es8 8 (by kernel_rfl) hb
  simp [wpList, go_sem, Exit.then, hrg]
  refine .inl ?_
  go_wp2
  go_loopw [] (fun W => ∃ seen : Array Nat, W.heap[w'.heap.size]? = some (.mapIter (some bm) 8 seen 8) ∧ W.heap[bm]? = some (.map es8 8) ∧ Below bm w W ∧ ∀ x ∈ es8.toList, seen.contains x.born = true → ¬ x.val = .int .i64 k) (fun W => (leftOf es8 (W.iterSeen w'.heap.size)).size)
  case atStart =>
    refine ⟨#[], heap_alloc_new w' _, by rw [heap_alloc_old w' _ hlt]; exact hb, ⟨hbel.os, hbel.tape, hbel.output, ?_, fun i hi => ?_⟩, fun x _ h => by simp at h⟩
    · show _ ≤ (w'.heap.push _).size; rw [Array.size_push]; have := hbel.size; omega
    · rw [heap_alloc_old w' _ (by omega)]; exact hbel.block i hi
  case round =>
    rename World => W
    obtain ⟨seen, hr, hb1, hbw, hno⟩ := hrel
    have law := run_next_at (P := Tryz.prog) W 0 w'.heap.size bm 8 8 seen es8 8 hr hb1 es8_old (Nat.le_refl _)
    rcases law with ⟨h0, hrun⟩ | ⟨e, he, w2, hal2, hrun⟩
    · have hnx : ∀ ty, (Instr.next (.pointer (some ⟨w'.heap.size, 0, none⟩)) false ty).run Tryz.prog W = _ := fun _ => hrun
      go_wp2
      go_ret2
      refine ⟨?_, hbw⟩
      cases hn : nameOf k eight with
      | none => simp [answer19, hn]
      | some s =>
        obtain ⟨x, hx, hv⟩ := nameOf_mem hn
        exact absurd hv (hno x hx (all_seen es8 seen h0 x hx))
    · obtain ⟨s, n, hkey, hval, hnm⟩ := es8_val e (mem_left he).1
      have hh2 : w2.heap = W.heap := by rcases hal2 with rfl | rfl <;> rfl
      have hrb : w'.heap.size < W.heap.size := by
        rcases Nat.lt_or_ge w'.heap.size W.heap.size with h | h
        · exact h
        · rw [Array.getElem?_eq_none h] at hr; cases hr
      have hb2 : (ChangeMaps.setBlock w2 w'.heap.size (.mapIter (some bm) 8 (seen.push e.born) 8)).heap[bm]? = some (.map es8 8) := by
        show (w2.heap.setIfInBounds _ _)[bm]? = _
        rw [Array.getElem?_setIfInBounds, if_neg (by omega), hh2]; exact hb1
      have hr2 : (ChangeMaps.setBlock w2 w'.heap.size (.mapIter (some bm) 8 (seen.push e.born) 8)).heap[w'.heap.size]? = some (.mapIter (some bm) 8 (seen.push e.born) 8) := by
        show (w2.heap.setIfInBounds _ _)[w'.heap.size]? = _
        rw [Array.getElem?_setIfInBounds, if_pos rfl, if_pos (by rw [hh2]; exact hrb)]
      have hbel2 := below_set (o := .mapIter (some bm) 8 (seen.push e.born) 8) (r := w'.heap.size) hbw hal2 (Nat.le_of_lt hlt)
      generalize ChangeMaps.setBlock w2 w'.heap.size (.mapIter (some bm) 8 (seen.push e.born) 8) = W2 at *
      rw [hval, hkey] at hrun
      have hnx : ∀ ty, (Instr.next (.pointer (some ⟨w'.heap.size, 0, none⟩)) false ty).run Tryz.prog W = _ := fun _ => hrun
      have hen := run_entry_at (P := Tryz.prog) W2 w'.heap.size bm 8 seen es8 8 e hr2 hb2 (mem_left he).1 es8_nodup
      rw [hval, hkey] at hen
      go_wp2
      · rename_i heq
        go_ret2
        refine ⟨?_, hbel2⟩
        have : n = k := by simpa using heq
        subst this
        simp [answer19, hnm]
      · rename_i hne
        go_roundw
        case rel =>
          refine ⟨seen.push e.born, hr2, hb2, hbel2, fun x hx hc => ?_⟩
          rw [contains_push] at hc
          rcases Bool.or_eq_true _ _ ▸ hc with h1 | h1
          · exact hno x hx h1
          · have : x = e := born_inj es8_nodup hx (mem_left he).1 (beq_iff_eq.1 h1)
            subst this
            rw [hval]
            simpa using hne
        case measure =>
          have e1 : W2.iterSeen w'.heap.size = seen.push e.born := by unfold World.iterSeen; rw [hr2]
          have e2 : W.iterSeen w'.heap.size = seen := by unfold World.iterSeen; rw [hr]
          rw [e1, e2]
          exact left_shrinks es8 seen e he

end Go.Proofs.YtiaeljbnhdhfcaaGreatDoor
