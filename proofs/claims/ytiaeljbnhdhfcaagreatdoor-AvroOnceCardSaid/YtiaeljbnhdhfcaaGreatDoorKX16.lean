/- Make of the record that holds itself. -/
import Derived.Test.YtiaeljbnhdhfcaaGreatDoorKX15

namespace Go.Proofs.YtiaeljbnhdhfcaaGreatDoor
open Go Go.RowKit Go.Lx

def sameI (a b : List Int) : Bool := decide (a = b)
def sameF : List Fld → List Fld → Bool
  | [], [] => true
  | a :: l, b :: m => sameS a.name b.name && decide (a.type = b.type) && decide (a.has = b.has) && sameJ a.dflt b.dflt && sameF l m
  | _, _ => false
def sameN : List Nd → List Nd → Bool
  | [], [] => true
  | a :: l, b :: m => decide (a.kind = b.kind) && sameS a.name b.name && sameF a.fields b.fields && sameSs a.symbols b.symbols && decide (a.has = b.has) && sameS a.dflt b.dflt && decide (a.size = b.size) && sameI a.kids b.kids && sameN l m
  | _, _ => false

theorem sameF_eq : ∀ {a b : List Fld}, sameF a b = true → a = b
  | [], [], _ => rfl
  | a :: l, b :: m, h => by
    simp only [sameF, Bool.and_eq_true, decide_eq_true_eq] at h
    obtain ⟨⟨⟨⟨h1, h2⟩, h3⟩, h4⟩, h5⟩ := h
    have e1 := sameS_eq h1
    have e4 := sameJ_eq _ _ h4
    have : a = b := by cases a; cases b; simp only at e1 h2 h3 e4; rw [e1, h2, h3, e4]
    rw [this, sameF_eq h5]
  | [], _ :: _, h => by cases h
  | _ :: _, [], h => by cases h

theorem sameN_eq : ∀ {a b : List Nd}, sameN a b = true → a = b
  | [], [], _ => rfl
  | a :: l, b :: m, h => by
    simp only [sameN, Bool.and_eq_true, decide_eq_true_eq] at h
    obtain ⟨⟨⟨⟨⟨⟨⟨⟨h1, h2⟩, h3⟩, h4⟩, h5⟩, h6⟩, h7⟩, h8⟩, h9⟩ := h
    have e2 := sameS_eq h2
    have e3 := sameF_eq h3
    have e4 := sameSs_eq h4
    have e6 := sameS_eq h6
    have e8 : a.kids = b.kids := of_decide_eq_true h8
    have : a = b := by cases a; cases b; simp only at h1 e2 e3 e4 h5 e6 h7 e8; rw [h1, e2, e3, e4, h5, e6, h7, e8]
    rw [this, sameN_eq h9]
  | [], _ :: _, h => by cases h
  | _ :: _, [], h => by cases h

/-- The answer is that schema, with that code. -/
def isA (a0 : Av) (n0 : Int) : KR := fun r L => match r, L with | .ret (.tup [.d .av a, .v (.int .i64 n)]), [] => sameN a.nodes a0.nodes && decide (a.root = a0.root) && decide (n = n0) | _, _ => false

theorem isA_eq (a0 : Av) (n0 : Int) (r : HR) (L : List Ob) (h : isA a0 n0 r L = true) : r = .ret (.tup [.d .av a0, .v (.int .i64 n0)]) ∧ L = [] := by
  unfold isA at h
  split at h
  · rename_i a n
    simp only [Bool.and_eq_true, decide_eq_true_eq] at h
    have e1 := sameN_eq h.1.1
    have : a = a0 := by cases a; cases a0; simp only at e1 h; rw [e1, h.1.2]
    rw [this, h.2]; exact ⟨rfl, rfl⟩
  · cases h

theorem run9b : evG Tryz.prog (G3 Tryz.prog) 100 30 9 [.d (.list (.int .u8)) text2, .v (.slice none 0 0)] [] (isA (Av.mk [] 0) 191) = true := by kernel_rfl

theorem run9a : evG Tryz.prog (G3 Tryz.prog) 100 30 9 [.d (.list (.int .u8)) text1, .v (.slice none 0 0)] [] (isA av1 0) = true := by kernel_rfl

end Go.Proofs.YtiaeljbnhdhfcaaGreatDoor
