/- utf8.Valid of ASCII; reader.text. -/
import Derived.Test.YtiaeljbnhdhfcaaGreatDoorP1
namespace Go.Mo
open Go Go.Lx
/-- Eight bytes as one number; fewer: 0. -/
def wordN (l : List Int) : Int := match wordL l with | some n => n | none => 0
end Go.Mo
namespace Go.Proofs.YtiaeljbnhdhfcaaGreatDoor
open Go Go.RowKit Go.Lx Go.Mo

def wordP (args : List HV) : Option (Bool × HV) := match args with
  | [.d (.list (.int .u8)) xs] => some (decide (8 ≤ (xs : List Int).length), .v (.int .u64 (wordN xs)))
  | _ => none
def wordSP (args : List HV) : Option (Bool × HV) := match args with
  | [.v (.string a)] => some (decide (8 ≤ a.data.toList.length), .v (.int .u64 (wordN (blist a))))
  | _ => none

noncomputable def G9 : Gam := addP 82 wordP (addP 150 wordSP G8)

theorem wordN_some {l : List Int} (h : 8 ≤ l.length) : wordL l = some (wordN l) := by
  match l, h with
  | x0 :: x1 :: x2 :: x3 :: x4 :: x5 :: x6 :: x7 :: r, _ => rfl

theorem gamOK9 {w0 : World} (h0 : H4 w0) : GamOK Tryz.prog w0 G9 := by
  refine addP_ok (addP_ok (gamOK8 h0) ⟨_, Tryz.func150, rfl⟩ ?_) ⟨_, Tryz.func82, rfl⟩ ?_
  · intro args r h h1
    unfold wordSP at h
    split at h
    · cases h
      exact pureAns lasts4 (do150 _ _ (wordN_some (by simpa [blist] using of_decide_eq_true h1)) H4) rfl rfl h0
    · cases h
  · intro args r h h1
    unfold wordP at h
    split at h
    · cases h
      exact pureAns lasts4 (do82 _ _ (wordN_some (of_decide_eq_true h1)) H4) rfl rfl h0
    · cases h

def st41 (l : List Int) : St := ⟨slots 188 [(0, .d (.list (.int .u8)) l), (2, .v (.bool false))], []⟩
def st41c (c : Int) (l : List Int) : St := ⟨slots 188 [(0, .d (.list (.int .u8)) (c :: l)), (2, .v (.bool false)), (3, .v (.int .u8 c))], []⟩

theorem a41 (l : List Int) (k : KX) : evd G9 1 (pc 41 [0]) ⟨argT 0 [.d (.list (.int .u8)) l] ⟨188, .nil⟩, []⟩ (fun x st => k x (st.keep [0, 2])) = k HX.normal ⟨slots 188 [(0, (HV.d (Cd.list (Cd.int IntKind.u8)) l)), (2, (HV.v (Value.bool Bool.false)))], []⟩ := by kernel_rfl
theorem b41 (l : List Int) (k : KX) : evd G9 1 (pc 41 [1, 0]) (st41 l) (fun x st => k x (st.keep [0, 2])) = (((decide ((((List.length l) : Nat) : Int) = (((List.length l) : Nat) : Int))) && (decide ((((List.length l) : Nat) : Int) = (((List.length l) : Nat) : Int)))) && k HX.normal ⟨slots 188 [(0, (HV.d (Cd.list (Cd.int IntKind.u8)) l)), (2, (HV.v (Value.bool Bool.false)))], []⟩) := by kernel_rfl
theorem c41n (k : KX) : evd G9 1 (pc 41 [1, 1, 0, 0, 0, 0]) (st41 []) (fun x st => k x (st.keep [0, 2])) = k (HX.exit 0) ⟨slots 188 [(0, (HV.d (Cd.list (Cd.int IntKind.u8)) [])), (2, (HV.v (Value.bool Bool.false)))], []⟩ := by kernel_rfl
theorem c41c (c : Int) (l : List Int) (k : KX) : evd G9 1 (pc 41 [1, 1, 0, 0, 0, 0]) (st41 (c :: l)) (fun x st => k x (st.keep [0, 2])) = k HX.normal ⟨slots 188 [(0, (HV.d (Cd.list (Cd.int IntKind.u8)) (c :: l))), (2, (HV.v (Value.bool Bool.false)))], []⟩ := by kernel_rfl
theorem d41 (c : Int) (l : List Int) (k : KX) : evd G9 1 (pc 41 [1, 1, 0, 0, 0, 1, 0, 0]) (st41 (c :: l)) (fun x st => k x (st.keep [0, 2, 3])) = ((decide (0 < ((((List.length l) + 1) : Nat) : Int))) && k HX.normal ⟨slots 188 [(0, (HV.d (Cd.list (Cd.int IntKind.u8)) (c :: l))), (2, (HV.v (Value.bool Bool.false))), (3, (HV.v (Value.int IntKind.u8 c)))], []⟩) := by kernel_rfl
theorem e41 (c : Int) (l : List Int) (k : KX) : evd G9 1 (pc 41 [1, 1, 0, 0, 0, 1, 0, 1, 0, 0]) (st41c c l) (fun x st => k x (st.keep [0, 2, 20])) = k HX.normal ⟨slots 188 [(0, (HV.d (Cd.list (Cd.int IntKind.u8)) (c :: l))), (2, (HV.v (Value.bool Bool.false))), (20, (HV.v (Value.bool (ltI c 128))))], []⟩ := by kernel_rfl
theorem f41 (c : Int) (l : List Int) (k : KX) : evd G9 1 (pc 41 [1, 1, 0, 0, 0, 1, 0, 1, 0, 1, 0, 0]) (st41 (c :: l)) (fun x st => k x (st.keep [0, 2])) = (((decide (1 ≤ ((((List.length l) + 1) : Nat) : Int))) && (decide (((((List.length l) + (OfNat.ofNat 1)) : Nat) : Int) ≤ ((((List.length l) + (OfNat.ofNat 1)) : Nat) : Int)))) && k HX.normal ⟨slots 188 [(0, (HV.d (Cd.list (Cd.int IntKind.u8)) (List.drop 1 (List.take (Int.toNat ((((List.length l) + (OfNat.ofNat 1)) : Nat) : Int)) (c :: l))))), (2, (HV.v (Value.bool Bool.false)))], []⟩) := by kernel_rfl
theorem g41 (l : List Int) (k : KX) : evd G9 1 (pc 41 [1, 1, 0, 0, 0, 1, 0, 1, 0, 1, 0, 1, 0, 0]) (st41 l) (fun x st => k x (st.keep [0, 2, 31])) = (((!(decide ((ltI 8 (((List.length l) : Nat) : Int)) = Bool.true))) || Bool.true) && (((!(decide ((ltI 8 (((List.length l) : Nat) : Int)) = Bool.true))) || ((((!(decide ((ltI 8 (((List.length l) : Nat) : Int)) = Bool.true))) || (decide ((ltI 8 (((List.length l) : Nat) : Int)) = Bool.true))) && Bool.true) && (decide (8 ≤ (List.length l))))) && (((!(decide ((ltI 8 (((List.length l) : Nat) : Int)) = Bool.true))) || ((((!(decide ((ltI 8 (((List.length l) : Nat) : Int)) = Bool.true))) || (decide ((ltI 8 (((List.length l) : Nat) : Int)) = Bool.true))) && Bool.true) && Bool.true)) && (((!(decide ((ltI 8 (((List.length l) : Nat) : Int)) = Bool.true))) || ((((!(decide ((ltI 8 (((List.length l) : Nat) : Int)) = Bool.true))) || (decide ((ltI 8 (((List.length l) : Nat) : Int)) = Bool.true))) && Bool.true) && Bool.true)) && ((((!(ltI 8 (((List.length l) : Nat) : Int))) || (decide ((ltI 8 (((List.length l) : Nat) : Int)) = Bool.true))) && Bool.true) && k HX.normal ⟨slots 188 [(0, (HV.d (Cd.list (Cd.int IntKind.u8)) l)), (2, (HV.v (Value.bool Bool.false))), (31, (HV.v (Value.bool ((ltI 8 (((List.length l) : Nat) : Int)) && (decide ((bandI IntKind.u64 (wordN l) 9259542123273814144) = 0))))))], []⟩))))) := by kernel_rfl
theorem h41 (l : List Int) (k : KX) : evd G9 1 (pc 41 [1, 1, 0, 0, 0, 1, 0, 1, 0, 1, 0, 1, 0, 1, 0, 0]) (st41 l) (fun x st => k x (st.keep [0, 2])) = (((decide (8 ≤ (((List.length l) : Nat) : Int))) && (decide ((((List.length l) : Nat) : Int) ≤ (((List.length l) : Nat) : Int)))) && k HX.normal ⟨slots 188 [(0, (HV.d (Cd.list (Cd.int IntKind.u8)) (List.drop 8 (List.take (Int.toNat (((List.length l) : Nat) : Int)) l)))), (2, (HV.v (Value.bool Bool.false)))], []⟩) := by kernel_rfl
theorem i41 (l : List Int) (k : KX) : evd G9 1 (pc 41 [1, 1, 0, 0, 0, 1, 0, 1, 0, 1, 0, 1, 0, 1, 0, 1, 0]) (st41 l) (fun x st => k x (st.keep [0, 2, 46])) = (((!(decide ((ltI 16 (((List.length l) : Nat) : Int)) = Bool.true))) || Bool.true) && (((!(decide ((ltI 16 (((List.length l) : Nat) : Int)) = Bool.true))) || ((((!(decide ((ltI 16 (((List.length l) : Nat) : Int)) = Bool.true))) || (decide ((ltI 16 (((List.length l) : Nat) : Int)) = Bool.true))) && Bool.true) && (decide (8 ≤ (List.length l))))) && (((!(decide ((ltI 16 (((List.length l) : Nat) : Int)) = Bool.true))) || Bool.true) && (((!(decide ((ltI 16 (((List.length l) : Nat) : Int)) = Bool.true))) || (((((!(decide ((ltI 16 (((List.length l) : Nat) : Int)) = Bool.true))) || (decide ((ltI 16 (((List.length l) : Nat) : Int)) = Bool.true))) && Bool.true) && Bool.true) && ((decide (8 ≤ (((List.length l) : Nat) : Int))) && (decide ((((List.length l) : Nat) : Int) ≤ (((List.length l) : Nat) : Int)))))) && (((!(decide ((ltI 16 (((List.length l) : Nat) : Int)) = Bool.true))) || ((((!(decide ((ltI 16 (((List.length l) : Nat) : Int)) = Bool.true))) || (decide ((ltI 16 (((List.length l) : Nat) : Int)) = Bool.true))) && Bool.true) && (decide (8 ≤ (List.length (List.drop 8 (List.take (Int.toNat (((List.length l) : Nat) : Int)) l))))))) && (((!(decide ((ltI 16 (((List.length l) : Nat) : Int)) = Bool.true))) || ((((!(decide ((ltI 16 (((List.length l) : Nat) : Int)) = Bool.true))) || (decide ((ltI 16 (((List.length l) : Nat) : Int)) = Bool.true))) && ((!(decide ((ltI 16 (((List.length l) : Nat) : Int)) = Bool.true))) || (decide ((ltI 16 (((List.length l) : Nat) : Int)) = Bool.true)))) && Bool.true)) && (((!(decide ((ltI 16 (((List.length l) : Nat) : Int)) = Bool.true))) || ((((!(decide ((ltI 16 (((List.length l) : Nat) : Int)) = Bool.true))) || (decide ((ltI 16 (((List.length l) : Nat) : Int)) = Bool.true))) && Bool.true) && Bool.true)) && (((!(decide ((ltI 16 (((List.length l) : Nat) : Int)) = Bool.true))) || ((((!(decide ((ltI 16 (((List.length l) : Nat) : Int)) = Bool.true))) || (decide ((ltI 16 (((List.length l) : Nat) : Int)) = Bool.true))) && Bool.true) && Bool.true)) && ((((!(ltI 16 (((List.length l) : Nat) : Int))) || (decide ((ltI 16 (((List.length l) : Nat) : Int)) = Bool.true))) && Bool.true) && k HX.normal ⟨slots 188 [(0, (HV.d (Cd.list (Cd.int IntKind.u8)) l)), (2, (HV.v (Value.bool Bool.false))), (46, (HV.v (Value.bool ((ltI 16 (((List.length l) : Nat) : Int)) && (decide ((bandI IntKind.u64 (IntKind.wrap IntKind.u64 (((BitVec.toNat (HOr.hOr (BitVec.ofInt 64 (wordN l)) (BitVec.ofInt 64 (wordN (List.drop 8 (List.take (Int.toNat (((List.length l) : Nat) : Int)) l)))))) : Nat) : Int)) 9259542123273814144) = 0))))))], []⟩))))))))) := by kernel_rfl
theorem j41 (l : List Int) (k : KX) : evd G9 1 (pc 41 [1, 1, 0, 0, 0, 1, 0, 1, 0, 1, 0, 1, 0, 1, 0, 1, 1, 0, 0]) (st41 l) (fun x st => k x (st.keep [0, 2])) = (((decide (16 ≤ (((List.length l) : Nat) : Int))) && (decide ((((List.length l) : Nat) : Int) ≤ (((List.length l) : Nat) : Int)))) && k HX.normal ⟨slots 188 [(0, (HV.d (Cd.list (Cd.int IntKind.u8)) (List.drop 16 (List.take (Int.toNat (((List.length l) : Nat) : Int)) l)))), (2, (HV.v (Value.bool Bool.false)))], []⟩) := by kernel_rfl
theorem k41 (l : List Int) (k : KX) : evd G9 1 (pc 41 [1, 1, 0, 0, 0, 1, 0, 1, 0, 1, 0, 1, 0, 1, 0, 1, 1, 0, 1, 0, 0, 0, 0]) (st41 l) (fun x st => k x (st.keep [0, 2, 69])) = (((!(decide ((ltI 32 (((List.length l) : Nat) : Int)) = Bool.true))) || Bool.true) && (((!(decide ((ltI 32 (((List.length l) : Nat) : Int)) = Bool.true))) || ((((!(decide ((ltI 32 (((List.length l) : Nat) : Int)) = Bool.true))) || (decide ((ltI 32 (((List.length l) : Nat) : Int)) = Bool.true))) && Bool.true) && (decide (8 ≤ (List.length l))))) && (((!(decide ((ltI 32 (((List.length l) : Nat) : Int)) = Bool.true))) || Bool.true) && (((!(decide ((ltI 32 (((List.length l) : Nat) : Int)) = Bool.true))) || (((((!(decide ((ltI 32 (((List.length l) : Nat) : Int)) = Bool.true))) || (decide ((ltI 32 (((List.length l) : Nat) : Int)) = Bool.true))) && Bool.true) && Bool.true) && ((decide (8 ≤ (((List.length l) : Nat) : Int))) && (decide ((((List.length l) : Nat) : Int) ≤ (((List.length l) : Nat) : Int)))))) && (((!(decide ((ltI 32 (((List.length l) : Nat) : Int)) = Bool.true))) || ((((!(decide ((ltI 32 (((List.length l) : Nat) : Int)) = Bool.true))) || (decide ((ltI 32 (((List.length l) : Nat) : Int)) = Bool.true))) && Bool.true) && (decide (8 ≤ (List.length (List.drop 8 (List.take (Int.toNat (((List.length l) : Nat) : Int)) l))))))) && (((!(decide ((ltI 32 (((List.length l) : Nat) : Int)) = Bool.true))) || ((((!(decide ((ltI 32 (((List.length l) : Nat) : Int)) = Bool.true))) || (decide ((ltI 32 (((List.length l) : Nat) : Int)) = Bool.true))) && ((!(decide ((ltI 32 (((List.length l) : Nat) : Int)) = Bool.true))) || (decide ((ltI 32 (((List.length l) : Nat) : Int)) = Bool.true)))) && Bool.true)) && (((!(decide ((ltI 32 (((List.length l) : Nat) : Int)) = Bool.true))) || Bool.true) && (((!(decide ((ltI 32 (((List.length l) : Nat) : Int)) = Bool.true))) || (((((!(decide ((ltI 32 (((List.length l) : Nat) : Int)) = Bool.true))) || (decide ((ltI 32 (((List.length l) : Nat) : Int)) = Bool.true))) && Bool.true) && Bool.true) && ((decide (16 ≤ (((List.length l) : Nat) : Int))) && (decide ((((List.length l) : Nat) : Int) ≤ (((List.length l) : Nat) : Int)))))) && (((!(decide ((ltI 32 (((List.length l) : Nat) : Int)) = Bool.true))) || ((((!(decide ((ltI 32 (((List.length l) : Nat) : Int)) = Bool.true))) || (decide ((ltI 32 (((List.length l) : Nat) : Int)) = Bool.true))) && Bool.true) && (decide (8 ≤ (List.length (List.drop 16 (List.take (Int.toNat (((List.length l) : Nat) : Int)) l))))))) && (((!(decide ((ltI 32 (((List.length l) : Nat) : Int)) = Bool.true))) || Bool.true) && (((!(decide ((ltI 32 (((List.length l) : Nat) : Int)) = Bool.true))) || (((((!(decide ((ltI 32 (((List.length l) : Nat) : Int)) = Bool.true))) || (decide ((ltI 32 (((List.length l) : Nat) : Int)) = Bool.true))) && Bool.true) && Bool.true) && ((decide (24 ≤ (((List.length l) : Nat) : Int))) && (decide ((((List.length l) : Nat) : Int) ≤ (((List.length l) : Nat) : Int)))))) && (((!(decide ((ltI 32 (((List.length l) : Nat) : Int)) = Bool.true))) || ((((!(decide ((ltI 32 (((List.length l) : Nat) : Int)) = Bool.true))) || (decide ((ltI 32 (((List.length l) : Nat) : Int)) = Bool.true))) && Bool.true) && (decide (8 ≤ (List.length (List.drop 24 (List.take (Int.toNat (((List.length l) : Nat) : Int)) l))))))) && (((!(decide ((ltI 32 (((List.length l) : Nat) : Int)) = Bool.true))) || ((((!(decide ((ltI 32 (((List.length l) : Nat) : Int)) = Bool.true))) || (decide ((ltI 32 (((List.length l) : Nat) : Int)) = Bool.true))) && ((!(decide ((ltI 32 (((List.length l) : Nat) : Int)) = Bool.true))) || (decide ((ltI 32 (((List.length l) : Nat) : Int)) = Bool.true)))) && Bool.true)) && (((!(decide ((ltI 32 (((List.length l) : Nat) : Int)) = Bool.true))) || ((((!(decide ((ltI 32 (((List.length l) : Nat) : Int)) = Bool.true))) || (decide ((ltI 32 (((List.length l) : Nat) : Int)) = Bool.true))) && ((!(decide ((ltI 32 (((List.length l) : Nat) : Int)) = Bool.true))) || (decide ((ltI 32 (((List.length l) : Nat) : Int)) = Bool.true)))) && Bool.true)) && (((!(decide ((ltI 32 (((List.length l) : Nat) : Int)) = Bool.true))) || ((((!(decide ((ltI 32 (((List.length l) : Nat) : Int)) = Bool.true))) || (decide ((ltI 32 (((List.length l) : Nat) : Int)) = Bool.true))) && Bool.true) && Bool.true)) && (((!(decide ((ltI 32 (((List.length l) : Nat) : Int)) = Bool.true))) || ((((!(decide ((ltI 32 (((List.length l) : Nat) : Int)) = Bool.true))) || (decide ((ltI 32 (((List.length l) : Nat) : Int)) = Bool.true))) && Bool.true) && Bool.true)) && ((((!(ltI 32 (((List.length l) : Nat) : Int))) || (decide ((ltI 32 (((List.length l) : Nat) : Int)) = Bool.true))) && Bool.true) && k HX.normal ⟨slots 188 [(0, (HV.d (Cd.list (Cd.int IntKind.u8)) l)), (2, (HV.v (Value.bool Bool.false))), (69, (HV.v (Value.bool ((ltI 32 (((List.length l) : Nat) : Int)) && (decide ((bandI IntKind.u64 (IntKind.wrap IntKind.u64 (((BitVec.toNat (HOr.hOr (BitVec.ofInt 64 (IntKind.wrap IntKind.u64 (((BitVec.toNat (HOr.hOr (BitVec.ofInt 64 (wordN l)) (BitVec.ofInt 64 (wordN (List.drop 8 (List.take (Int.toNat (((List.length l) : Nat) : Int)) l)))))) : Nat) : Int))) (BitVec.ofInt 64 (IntKind.wrap IntKind.u64 (((BitVec.toNat (HOr.hOr (BitVec.ofInt 64 (wordN (List.drop 16 (List.take (Int.toNat (((List.length l) : Nat) : Int)) l)))) (BitVec.ofInt 64 (wordN (List.drop 24 (List.take (Int.toNat (((List.length l) : Nat) : Int)) l)))))) : Nat) : Int))))) : Nat) : Int)) 9259542123273814144) = 0))))))], []⟩))))))))))))))))) := by kernel_rfl
theorem l41 (l : List Int) (k : KX) : evd G9 1 (pc 41 [1, 1, 0, 0, 0, 1, 0, 1, 0, 1, 0, 1, 0, 1, 0, 1, 1, 0, 1, 0, 0, 1, 0]) (st41 l) (fun x st => k x (st.keep [0, 2])) = (((decide (32 ≤ (((List.length l) : Nat) : Int))) && (decide ((((List.length l) : Nat) : Int) ≤ (((List.length l) : Nat) : Int)))) && k HX.normal ⟨slots 188 [(0, (HV.d (Cd.list (Cd.int IntKind.u8)) (List.drop 32 (List.take (Int.toNat (((List.length l) : Nat) : Int)) l)))), (2, (HV.v (Value.bool Bool.false)))], []⟩) := by kernel_rfl
theorem m41 (l : List Int) (k : KX) : evd G9 1 (pc 41 [1, 1, 1]) (st41 l) (fun x st => k x (st.keep [0, 2])) = k HX.ret ⟨slots 188 [(0, (HV.d (Cd.list (Cd.int IntKind.u8)) l)), (2, (HV.v (Value.bool Bool.true)))], []⟩ := by kernel_rfl
theorem n41 (l : List Int) (kr : KR) : finK Tryz.prog Tryz.f41 [] kr ⟨slots 188 [(0, .d (.list (.int .u8)) l), (2, .v (.bool true))], []⟩ = kr (HR.ret (HV.v (Value.bool Bool.true))) [] := by kernel_rfl

theorem drop_take_len (n : Nat) (l : List Int) : List.drop n (List.take (Int.toNat ((l.length : Nat) : Int)) l) = l.drop n := by
  rw [Int.toNat_natCast, List.take_of_length_le (Nat.le_refl _)]

def Ascii (l : List Int) : Prop := ∀ x ∈ l, x < 128

theorem Ascii.drop {l : List Int} (h : Ascii l) (n : Nat) : Ascii (l.drop n) := fun x hx => h x (List.mem_of_mem_drop hx)

theorem gd_le {n : Nat} {l : List Int} (h : ltI n (l.length : Int) = true) : (n : Int) ≤ (l.length : Int) := by rw [ltI_iff] at h; omega

theorem code41 : Tryz.f41.body = some (.seq (pc 41 [0]) (.seq (pc 41 [1, 0]) (.seq (.block 0 (.loop (pc 41 [1, 1, 0, 0, 0]))) (pc 41 [1, 1, 1])))) := by kernel_rfl
theorem code41b : pc 41 [1, 1, 0, 0, 0] = .seq (pc 41 [1, 1, 0, 0, 0, 0]) (.block 1 (.seq (pc 41 [1, 1, 0, 0, 0, 1, 0, 0]) (.seq (.seq (pc 41 [1, 1, 0, 0, 0, 1, 0, 1, 0, 0]) (.cond (.tmp 20) (.seq (pc 41 [1, 1, 0, 0, 0, 1, 0, 1, 0, 1, 0, 0]) (.seq (.seq (pc 41 [1, 1, 0, 0, 0, 1, 0, 1, 0, 1, 0, 1, 0, 0]) (.cond (.tmp 31) (.seq (pc 41 [1, 1, 0, 0, 0, 1, 0, 1, 0, 1, 0, 1, 0, 1, 0, 0]) (.seq (pc 41 [1, 1, 0, 0, 0, 1, 0, 1, 0, 1, 0, 1, 0, 1, 0, 1, 0]) (.cond (.tmp 46) (.seq (pc 41 [1, 1, 0, 0, 0, 1, 0, 1, 0, 1, 0, 1, 0, 1, 0, 1, 1, 0, 0]) (.block 2 (.loop (pc 41 [1, 1, 0, 0, 0, 1, 0, 1, 0, 1, 0, 1, 0, 1, 0, 1, 1, 0, 1, 0, 0])))) .skip))) .skip)) (.exit 1))) .skip)) (pc 41 [1, 1, 0, 0, 0, 1, 0, 1, 1])))) := by kernel_rfl
theorem code41c : pc 41 [1, 1, 0, 0, 0, 1, 0, 1, 0, 1, 0, 1, 0, 1, 0, 1, 1, 0, 1, 0, 0] = .seq (.seq (pc 41 [1, 1, 0, 0, 0, 1, 0, 1, 0, 1, 0, 1, 0, 1, 0, 1, 1, 0, 1, 0, 0, 0, 0]) (.cond (.tmp 69) .skip (.exit 2))) (.block 3 (pc 41 [1, 1, 0, 0, 0, 1, 0, 1, 0, 1, 0, 1, 0, 1, 0, 1, 1, 0, 1, 0, 0, 1, 0])) := by kernel_rfl

def st41b (i : Nat) (b : Bool) (l : List Int) : St := ⟨slots 188 [(0, .d (.list (.int .u8)) l), (2, .v (.bool false)), (i, .v (.bool b))], []⟩
theorem keep41a (b : Bool) (l : List Int) : (st41b 20 b l).keep [0, 2] = st41 l := by kernel_rfl
theorem keep41b (b : Bool) (l : List Int) : (st41b 31 b l).keep [0, 2] = st41 l := by kernel_rfl
theorem keep41c (b : Bool) (l : List Int) : (st41b 46 b l).keep [0, 2] = st41 l := by kernel_rfl
theorem keep41d (b : Bool) (l : List Int) : (st41b 69 b l).keep [0, 2] = st41 l := by kernel_rfl
theorem bool41a (b : Bool) (l : List Int) : fe true (opnd (st41b 20 b l).tmps (.tmp 20)) = (true, .v (.bool b)) := by kernel_rfl
theorem bool41b (b : Bool) (l : List Int) : fe true (opnd (st41b 31 b l).tmps (.tmp 31)) = (true, .v (.bool b)) := by kernel_rfl
theorem bool41c (b : Bool) (l : List Int) : fe true (opnd (st41b 46 b l).tmps (.tmp 46)) = (true, .v (.bool b)) := by kernel_rfl
theorem bool41d (b : Bool) (l : List Int) : fe true (opnd (st41b 69 b l).tmps (.tmp 69)) = (true, .v (.bool b)) := by kernel_rfl
theorem vw41 (l : List Int) : vw [] 0 (st41 l) = st41 l := by kernel_rfl

/-- A word's test: whatever it says, what is left is ASCII. -/
theorem word41 {w0 : World} (hG : GamOK Tryz.prog w0 G9) {l : List Int} (hl : Ascii l) {F : HX → St → Prop} (h : ∀ l', Ascii l' → l'.length ≤ l.length → F (.exit 1) (st41 l')) :
    WpA Tryz.prog w0 [] (.seq (.seq (pc 41 [1, 1, 0, 0, 0, 1, 0, 1, 0, 1, 0, 1, 0, 0]) (.cond (.tmp 31) (.seq (pc 41 [1, 1, 0, 0, 0, 1, 0, 1, 0, 1, 0, 1, 0, 1, 0, 0]) (.seq (pc 41 [1, 1, 0, 0, 0, 1, 0, 1, 0, 1, 0, 1, 0, 1, 0, 1, 0]) (.cond (.tmp 46) (.seq (pc 41 [1, 1, 0, 0, 0, 1, 0, 1, 0, 1, 0, 1, 0, 1, 0, 1, 1, 0, 0]) (.block 2 (.loop (pc 41 [1, 1, 0, 0, 0, 1, 0, 1, 0, 1, 0, 1, 0, 1, 0, 1, 1, 0, 1, 0, 0])))) .skip))) .skip)) (.exit 1)) (st41 l) F := by
  have fin : ∀ l', Ascii l' → l'.length ≤ l.length → WpA Tryz.prog w0 [] (.exit 1) (st41 l') F := fun l' a b => wpA_exit (h l' a b)
  have fin' : ∀ i b l', (st41b i b l').keep [0, 2] = st41 l' → Ascii l' → l'.length ≤ l.length → WpA Tryz.prog w0 [] (.exit 1) (st41b i b l') F := fun i b l' hk a c => wpA_keep [0, 2] hk (fin l' a c)
  refine wpA_seq (wpA_seq ((evd_ok hG [0, 2, 31] (g41 l) ?_).wpA))
  cases hb : ltI 8 (l.length : Int) with
  | false =>
    simp only [hb, Bool.false_and, Bool.true_or, Bool.true_and, decide_false, Bool.not_false, Bool.false_or, Bool.or_true, Bool.and_self, Bool.or_false, reduceCtorEq]
    refine yes_mk ?_
    refine wpA_cond (bool41b false l) (fun h => by cases h) (fun _ => ?_)
    exact wpA_skip (fin' 31 false l (keep41b false l) hl (Nat.le_refl _))
  | true =>
  have g8 : (8 : Int) ≤ (l.length : Int) := gd_le hb
  simp only [drop_take_len, List.length_drop, hb, gd3, Bool.true_and, Bool.true_or, Bool.false_or, decide_true, Bool.not_true, Bool.or_true, Bool.and_self, Bool.and_true, decide_eq_true (show 8 ≤ l.length by omega)]
  refine yes_mk ?_
  refine wpA_cond (bool41b _ l) (fun _ => ?_) (fun _ => ?_)
  rotate_left
  exact wpA_skip (fin' 31 _ l (keep41b _ l) hl (Nat.le_refl _))
  refine wpA_keep [0, 2] (keep41b _ l) ?_
  refine wpA_seq ((evd_ok hG [0, 2] (h41 l) ?_).wpA)
  simp only [gd3, Bool.and_true, drop_take_len]
  rw [decide_eq_true (show (8 : Int) ≤ (l.length : Int) from g8)]
  refine yes_mk ?_
  have hlen : (l.drop 8).length ≤ l.length := by simp only [List.length_drop]; omega
  have a1 := hl.drop 8
  generalize l.drop 8 = l1 at hlen a1
  refine wpA_seq ((evd_ok hG [0, 2, 46] (i41 l1) ?_).wpA)
  clear hb g8
  cases hb : ltI 16 (l1.length : Int) with
  | false =>
    simp only [hb, Bool.false_and, Bool.true_or, Bool.true_and, decide_false, Bool.not_false, Bool.false_or, Bool.or_true, Bool.and_self, Bool.or_false, reduceCtorEq]
    refine yes_mk ?_
    refine wpA_cond (bool41c false l1) (fun h => by cases h) (fun _ => ?_)
    exact wpA_skip (fin' 46 false l1 (keep41c false l1) a1 hlen)
  | true =>
  have g8 : (16 : Int) ≤ (l1.length : Int) := gd_le hb
  simp only [drop_take_len, List.length_drop, hb, gd3, Bool.true_and, Bool.true_or, Bool.false_or, decide_true, Bool.not_true, Bool.or_true, Bool.and_self, Bool.and_true, decide_eq_true (show 8 ≤ l1.length by omega), decide_eq_true (show 8 ≤ l1.length - 8 by omega), decide_eq_true (show (8 : Int) ≤ (l1.length : Int) by omega)]
  refine yes_mk ?_
  refine wpA_cond (bool41c _ l1) (fun _ => ?_) (fun _ => ?_)
  rotate_left
  exact wpA_skip (fin' 46 _ l1 (keep41c _ l1) a1 hlen)
  refine wpA_keep [0, 2] (keep41c _ l1) ?_
  refine wpA_seq ((evd_ok hG [0, 2] (j41 l1) ?_).wpA)
  simp only [gd3, Bool.and_true, drop_take_len]
  rw [decide_eq_true (show (16 : Int) ≤ (l1.length : Int) from g8)]
  refine yes_mk ?_
  have hlen2 : (l1.drop 16).length ≤ l.length := by simp only [List.length_drop]; omega
  have a2 := a1.drop 16
  generalize l1.drop 16 = l2 at hlen2 a2
  refine wpA_block (wpA_loop (α := { l' : List Int // Ascii l' ∧ l'.length ≤ l.length }) (fun l => st41 l.1) (fun l => l.1.length) (fun l3 => ?_) ⟨l2, a2, hlen2⟩)
  obtain ⟨l3, a3, b3⟩ := l3
  rw [code41c]
  refine wpA_seq (wpA_seq ((evd_ok hG [0, 2, 69] (k41 l3) ?_).wpA))
  clear hb g8
  cases hb : ltI 32 (l3.length : Int) with
  | false =>
    simp only [hb, Bool.false_and, Bool.true_or, Bool.true_and, decide_false, Bool.not_false, Bool.false_or, Bool.or_true, Bool.and_self, Bool.or_false, reduceCtorEq]
    refine yes_mk ?_
    refine wpA_cond (bool41d false l3) (fun h => by cases h) (fun _ => ?_)
    exact wpA_exit (fin' 69 false l3 (keep41d false l3) a3 b3)
  | true =>
  have g8 : (32 : Int) ≤ (l3.length : Int) := gd_le hb
  simp only [drop_take_len, List.length_drop, hb, gd3, Bool.true_and, Bool.true_or, Bool.false_or, decide_true, Bool.not_true, Bool.or_true, Bool.and_self, Bool.and_true, decide_eq_true (show 8 ≤ l3.length by omega), decide_eq_true (show 8 ≤ l3.length - 8 by omega), decide_eq_true (show 8 ≤ l3.length - 16 by omega), decide_eq_true (show 8 ≤ l3.length - 24 by omega), decide_eq_true (show (8 : Int) ≤ (l3.length : Int) by omega), decide_eq_true (show (16 : Int) ≤ (l3.length : Int) by omega), decide_eq_true (show (24 : Int) ≤ (l3.length : Int) by omega)]
  refine yes_mk ?_
  refine wpA_cond (bool41d _ l3) (fun _ => wpA_skip ?_) (fun _ => ?_)
  rotate_left
  exact wpA_exit (fin' 69 _ l3 (keep41d _ l3) a3 b3)
  refine wpA_keep [0, 2] (keep41d _ l3) ?_
  refine wpA_block ((evd_ok hG [0, 2] (l41 l3) ?_).wpA)
  simp only [gd3, Bool.and_true, drop_take_len]
  rw [decide_eq_true g8]
  exact yes_mk ⟨⟨l3.drop 32, a3.drop 32, by simp only [List.length_drop]; omega⟩, [], 0, by simp only [List.length_drop]; omega, rfl, vw41 _⟩

theorem do41a {l0 : List Int} (ha : Ascii l0) : PureDo Tryz.prog H4 41 [.d (.list (.int .u8)) l0] (.v (.bool true)) := by
  intro w0 kr h0 hkr
  have hG := gamOK9 h0
  refine does_wpA Tryz.func41 code41 (n := 188) (by kernel_rfl) ?_
  refine wpA_seq ((evd_ok hG [0, 2] (a41 l0) (yes_mk ?_)).wpA)
  refine wpA_seq ((evd_ok hG [0, 2] (b41 l0) ?_).wpA)
  simp only [decide_true, Bool.true_and]
  refine yes_mk ?_
  refine wpA_seq (wpA_block ?_)
  refine wpA_loop (α := { l : List Int // Ascii l }) (fun l => st41 l.1) (fun l => l.1.length) (fun l => ?_) ⟨l0, ha⟩
  obtain ⟨l, ha⟩ := l
  rw [code41b]
  cases l with
  | nil =>
    refine wpA_seq ((evd_ok hG [0, 2] c41n (yes_mk ?_)).wpA)
    refine (evd_ok hG [0, 2] (m41 []) (yes_mk ?_)).wpA
    show finK Tryz.prog Tryz.f41 [] kr ⟨slots 188 [(0, .d (.list (.int .u8)) []), (2, .v (.bool true))], []⟩ = true
    rw [n41]; exact hkr
  | cons c l =>
    have hc : ltI c 128 = true := by rw [ltI_iff]; exact ha c List.mem_cons_self
    have hl : Ascii l := fun x hx => ha x (List.mem_cons_of_mem _ hx)
    refine wpA_seq ((evd_ok hG [0, 2] (c41c c l) (yes_mk ?_)).wpA)
    refine wpA_block ?_
    refine wpA_seq ((evd_ok hG [0, 2, 3] (d41 c l) ?_).wpA)
    have e0 : decide ((0 : Int) < ((l.length + 1 : Nat) : Int)) = true := decide_eq_true (by omega)
    have e1 : decide ((1 : Int) ≤ ((l.length + 1 : Nat) : Int)) = true := decide_eq_true (by omega)
    simp only [e0, Bool.true_and]
    refine yes_mk ?_
    refine wpA_seq ?_
    refine wpA_seq ((evd_ok hG [0, 2, 20] (e41 c l) (yes_mk ?_)).wpA)
    rw [hc]
    refine wpA_cond (bool41a true (c :: l)) (fun _ => ?_) (fun h => by cases h)
    refine wpA_keep [0, 2] (keep41a true (c :: l)) ?_
    refine wpA_seq ((evd_ok hG [0, 2] (f41 c l) ?_).wpA)
    simp only [e1, gd3, Bool.true_and]
    refine yes_mk ?_
    have hd : List.drop 1 (List.take (Int.toNat ((l.length + 1 : Nat) : Int)) (c :: l)) = l := by rw [Int.toNat_natCast, List.take_of_length_le (by simp)]; rfl
    show WpA Tryz.prog w0 [] _ (st41 (List.drop 1 (List.take (Int.toNat ((l.length + 1 : Nat) : Int)) (c :: l)))) _
    rw [hd]
    exact word41 hG hl (fun l' a b => ⟨⟨l', a⟩, [], 0, Nat.lt_succ_of_le b, rfl, vw41 l'⟩)

end Go.Proofs.YtiaeljbnhdhfcaaGreatDoor

namespace Go.Proofs.YtiaeljbnhdhfcaaGreatDoor
open Go Go.RowKit Go.Lx Go.Mo

def AsciiS (l : List UInt8) : Prop := ∀ x ∈ l, (x.toNat : Int) < 128

def st102 (l : List UInt8) : St := ⟨slots 169 [(0, tx l), (2, .v (.bool false))], []⟩
def st102c (c : UInt8) (l : List UInt8) : St := ⟨slots 169 [(0, tx (c :: l)), (2, .v (.bool false)), (3, .v (.int .u8 c.toNat))], []⟩

theorem a102 (l : List UInt8) (k : KX) : evd G9 1 (pc 102 [0]) ⟨argT 0 [tx l] ⟨169, .nil⟩, []⟩ (fun x st => k x (st.keep [0, 2])) = k HX.normal ⟨slots 169 [(0, (HV.v (Value.string (ByteArray.mk (Array.mk l))))), (2, (HV.v (Value.bool Bool.false)))], []⟩ := by kernel_rfl
theorem c102n (k : KX) : evd G9 1 (pc 102 [1, 0, 0, 0, 0]) (st102 []) (fun x st => k x (st.keep [0, 2])) = k (HX.exit 0) ⟨slots 169 [(0, (HV.v (Value.string (ByteArray.mk (Array.mk []))))), (2, (HV.v (Value.bool Bool.false)))], []⟩ := by kernel_rfl
theorem c102c (c : UInt8) (l : List UInt8) (k : KX) : evd G9 1 (pc 102 [1, 0, 0, 0, 0]) (st102 (c :: l)) (fun x st => k x (st.keep [0, 2])) = k HX.normal ⟨slots 169 [(0, (HV.v (Value.string (ByteArray.mk (Array.mk (c :: l)))))), (2, (HV.v (Value.bool Bool.false)))], []⟩ := by kernel_rfl
theorem d102 (c : UInt8) (l : List UInt8) (k : KX) : evd G9 1 (pc 102 [1, 0, 0, 0, 1, 0, 0]) (st102 (c :: l)) (fun x st => k x (st.keep [0, 2, 3])) = ((decide (0 < (((ByteArray.size (ByteArray.mk (Array.mk (c :: l)))) : Nat) : Int))) && k HX.normal ⟨slots 169 [(0, (HV.v (Value.string (ByteArray.mk (Array.mk (c :: l)))))), (2, (HV.v (Value.bool Bool.false))), (3, (HV.v (Value.int IntKind.u8 (((UInt8.toNat c) : Nat) : Int))))], []⟩) := by kernel_rfl
theorem e102 (c : UInt8) (l : List UInt8) (k : KX) : evd G9 1 (pc 102 [1, 0, 0, 0, 1, 0, 1, 0, 0]) (st102c c l) (fun x st => k x (st.keep [0, 2, 13])) = k HX.normal ⟨slots 169 [(0, (HV.v (Value.string (ByteArray.mk (Array.mk (c :: l)))))), (2, (HV.v (Value.bool Bool.false))), (13, (HV.v (Value.bool (ltI (((UInt8.toNat c) : Nat) : Int) 128))))], []⟩ := by kernel_rfl
theorem f102 (c : UInt8) (l : List UInt8) (k : KX) : evd G9 1 (pc 102 [1, 0, 0, 0, 1, 0, 1, 0, 1, 0, 0]) (st102 (c :: l)) (fun x st => k x (st.keep [0, 2])) = (((decide (1 ≤ (((ByteArray.size (ByteArray.mk (Array.mk (c :: l)))) : Nat) : Int))) && (decide ((((ByteArray.size (ByteArray.mk (Array.mk (c :: l)))) : Nat) : Int) ≤ (((ByteArray.size (ByteArray.mk (Array.mk (c :: l)))) : Nat) : Int)))) && k HX.normal ⟨slots 169 [(0, (HV.v (Value.string (ByteArray.mk (Array.mk l))))), (2, (HV.v (Value.bool Bool.false)))], []⟩) := by kernel_rfl
theorem g102 (l : List UInt8) (k : KX) : evd G9 1 (pc 102 [1, 0, 0, 0, 1, 0, 1, 0, 1, 0, 1, 0, 0]) (st102 l) (fun x st => k x (st.keep [0, 2, 24])) = (((!(decide ((ltI 8 (((ByteArray.size (ByteArray.mk (Array.mk l))) : Nat) : Int)) = Bool.true))) || Bool.true) && (((!(decide ((ltI 8 (((ByteArray.size (ByteArray.mk (Array.mk l))) : Nat) : Int)) = Bool.true))) || ((((!(decide ((ltI 8 (((ByteArray.size (ByteArray.mk (Array.mk l))) : Nat) : Int)) = Bool.true))) || (decide ((ltI 8 (((ByteArray.size (ByteArray.mk (Array.mk l))) : Nat) : Int)) = Bool.true))) && Bool.true) && (decide (8 ≤ (List.length l))))) && (((!(decide ((ltI 8 (((ByteArray.size (ByteArray.mk (Array.mk l))) : Nat) : Int)) = Bool.true))) || ((((!(decide ((ltI 8 (((ByteArray.size (ByteArray.mk (Array.mk l))) : Nat) : Int)) = Bool.true))) || (decide ((ltI 8 (((ByteArray.size (ByteArray.mk (Array.mk l))) : Nat) : Int)) = Bool.true))) && Bool.true) && Bool.true)) && (((!(decide ((ltI 8 (((ByteArray.size (ByteArray.mk (Array.mk l))) : Nat) : Int)) = Bool.true))) || ((((!(decide ((ltI 8 (((ByteArray.size (ByteArray.mk (Array.mk l))) : Nat) : Int)) = Bool.true))) || (decide ((ltI 8 (((ByteArray.size (ByteArray.mk (Array.mk l))) : Nat) : Int)) = Bool.true))) && Bool.true) && Bool.true)) && ((((!(ltI 8 (((ByteArray.size (ByteArray.mk (Array.mk l))) : Nat) : Int))) || (decide ((ltI 8 (((ByteArray.size (ByteArray.mk (Array.mk l))) : Nat) : Int)) = Bool.true))) && Bool.true) && k HX.normal ⟨slots 169 [(0, (HV.v (Value.string (ByteArray.mk (Array.mk l))))), (2, (HV.v (Value.bool Bool.false))), (24, (HV.v (Value.bool ((ltI 8 (((ByteArray.size (ByteArray.mk (Array.mk l))) : Nat) : Int)) && (decide ((bandI IntKind.u64 (wordN (blist (ByteArray.mk (Array.mk l)))) 9259542123273814144) = 0))))))], []⟩))))) := by kernel_rfl
theorem h102 (l : List UInt8) (k : KX) : evd G9 1 (pc 102 [1, 0, 0, 0, 1, 0, 1, 0, 1, 0, 1, 0, 1, 0, 0]) (st102 l) (fun x st => k x (st.keep [0, 2])) = (((decide (8 ≤ (((ByteArray.size (ByteArray.mk (Array.mk l))) : Nat) : Int))) && (decide ((((ByteArray.size (ByteArray.mk (Array.mk l))) : Nat) : Int) ≤ (((ByteArray.size (ByteArray.mk (Array.mk l))) : Nat) : Int)))) && k HX.normal ⟨slots 169 [(0, (HV.v (Value.string (ByteArray.mk (Array.mk (List.drop 8 l)))))), (2, (HV.v (Value.bool Bool.false)))], []⟩) := by kernel_rfl
theorem i102 (l : List UInt8) (k : KX) : evd G9 1 (pc 102 [1, 0, 0, 0, 1, 0, 1, 0, 1, 0, 1, 0, 1, 0, 1, 0]) (st102 l) (fun x st => k x (st.keep [0, 2, 39])) = (((!(decide ((ltI 16 (((ByteArray.size (ByteArray.mk (Array.mk l))) : Nat) : Int)) = Bool.true))) || Bool.true) && (((!(decide ((ltI 16 (((ByteArray.size (ByteArray.mk (Array.mk l))) : Nat) : Int)) = Bool.true))) || ((((!(decide ((ltI 16 (((ByteArray.size (ByteArray.mk (Array.mk l))) : Nat) : Int)) = Bool.true))) || (decide ((ltI 16 (((ByteArray.size (ByteArray.mk (Array.mk l))) : Nat) : Int)) = Bool.true))) && Bool.true) && (decide (8 ≤ (List.length l))))) && (((!(decide ((ltI 16 (((ByteArray.size (ByteArray.mk (Array.mk l))) : Nat) : Int)) = Bool.true))) || Bool.true) && (((!(decide ((ltI 16 (((ByteArray.size (ByteArray.mk (Array.mk l))) : Nat) : Int)) = Bool.true))) || (((((!(decide ((ltI 16 (((ByteArray.size (ByteArray.mk (Array.mk l))) : Nat) : Int)) = Bool.true))) || (decide ((ltI 16 (((ByteArray.size (ByteArray.mk (Array.mk l))) : Nat) : Int)) = Bool.true))) && Bool.true) && Bool.true) && ((decide (8 ≤ (((ByteArray.size (ByteArray.mk (Array.mk l))) : Nat) : Int))) && (decide ((((ByteArray.size (ByteArray.mk (Array.mk l))) : Nat) : Int) ≤ (((ByteArray.size (ByteArray.mk (Array.mk l))) : Nat) : Int)))))) && (((!(decide ((ltI 16 (((ByteArray.size (ByteArray.mk (Array.mk l))) : Nat) : Int)) = Bool.true))) || ((((!(decide ((ltI 16 (((ByteArray.size (ByteArray.mk (Array.mk l))) : Nat) : Int)) = Bool.true))) || (decide ((ltI 16 (((ByteArray.size (ByteArray.mk (Array.mk l))) : Nat) : Int)) = Bool.true))) && Bool.true) && (decide (8 ≤ (List.length (List.drop 8 l)))))) && (((!(decide ((ltI 16 (((ByteArray.size (ByteArray.mk (Array.mk l))) : Nat) : Int)) = Bool.true))) || ((((!(decide ((ltI 16 (((ByteArray.size (ByteArray.mk (Array.mk l))) : Nat) : Int)) = Bool.true))) || (decide ((ltI 16 (((ByteArray.size (ByteArray.mk (Array.mk l))) : Nat) : Int)) = Bool.true))) && ((!(decide ((ltI 16 (((ByteArray.size (ByteArray.mk (Array.mk l))) : Nat) : Int)) = Bool.true))) || (decide ((ltI 16 (((ByteArray.size (ByteArray.mk (Array.mk l))) : Nat) : Int)) = Bool.true)))) && Bool.true)) && (((!(decide ((ltI 16 (((ByteArray.size (ByteArray.mk (Array.mk l))) : Nat) : Int)) = Bool.true))) || ((((!(decide ((ltI 16 (((ByteArray.size (ByteArray.mk (Array.mk l))) : Nat) : Int)) = Bool.true))) || (decide ((ltI 16 (((ByteArray.size (ByteArray.mk (Array.mk l))) : Nat) : Int)) = Bool.true))) && Bool.true) && Bool.true)) && (((!(decide ((ltI 16 (((ByteArray.size (ByteArray.mk (Array.mk l))) : Nat) : Int)) = Bool.true))) || ((((!(decide ((ltI 16 (((ByteArray.size (ByteArray.mk (Array.mk l))) : Nat) : Int)) = Bool.true))) || (decide ((ltI 16 (((ByteArray.size (ByteArray.mk (Array.mk l))) : Nat) : Int)) = Bool.true))) && Bool.true) && Bool.true)) && ((((!(ltI 16 (((ByteArray.size (ByteArray.mk (Array.mk l))) : Nat) : Int))) || (decide ((ltI 16 (((ByteArray.size (ByteArray.mk (Array.mk l))) : Nat) : Int)) = Bool.true))) && Bool.true) && k HX.normal ⟨slots 169 [(0, (HV.v (Value.string (ByteArray.mk (Array.mk l))))), (2, (HV.v (Value.bool Bool.false))), (39, (HV.v (Value.bool ((ltI 16 (((ByteArray.size (ByteArray.mk (Array.mk l))) : Nat) : Int)) && (decide ((bandI IntKind.u64 (IntKind.wrap IntKind.u64 (((BitVec.toNat (HOr.hOr (BitVec.ofInt 64 (wordN (blist (ByteArray.mk (Array.mk l))))) (BitVec.ofInt 64 (wordN (blist (ByteArray.mk (Array.mk (List.drop 8 l)))))))) : Nat) : Int)) 9259542123273814144) = 0))))))], []⟩))))))))) := by kernel_rfl
theorem j102 (l : List UInt8) (k : KX) : evd G9 1 (pc 102 [1, 0, 0, 0, 1, 0, 1, 0, 1, 0, 1, 0, 1, 0, 1, 1, 0, 0]) (st102 l) (fun x st => k x (st.keep [0, 2])) = (((decide (16 ≤ (((ByteArray.size (ByteArray.mk (Array.mk l))) : Nat) : Int))) && (decide ((((ByteArray.size (ByteArray.mk (Array.mk l))) : Nat) : Int) ≤ (((ByteArray.size (ByteArray.mk (Array.mk l))) : Nat) : Int)))) && k HX.normal ⟨slots 169 [(0, (HV.v (Value.string (ByteArray.mk (Array.mk (List.drop 16 l)))))), (2, (HV.v (Value.bool Bool.false)))], []⟩) := by kernel_rfl
theorem k102 (l : List UInt8) (k : KX) : evd G9 1 (pc 102 [1, 0, 0, 0, 1, 0, 1, 0, 1, 0, 1, 0, 1, 0, 1, 1, 0, 1, 0, 0, 0, 0]) (st102 l) (fun x st => k x (st.keep [0, 2, 62])) = (((!(decide ((ltI 32 (((ByteArray.size (ByteArray.mk (Array.mk l))) : Nat) : Int)) = Bool.true))) || Bool.true) && (((!(decide ((ltI 32 (((ByteArray.size (ByteArray.mk (Array.mk l))) : Nat) : Int)) = Bool.true))) || ((((!(decide ((ltI 32 (((ByteArray.size (ByteArray.mk (Array.mk l))) : Nat) : Int)) = Bool.true))) || (decide ((ltI 32 (((ByteArray.size (ByteArray.mk (Array.mk l))) : Nat) : Int)) = Bool.true))) && Bool.true) && (decide (8 ≤ (List.length l))))) && (((!(decide ((ltI 32 (((ByteArray.size (ByteArray.mk (Array.mk l))) : Nat) : Int)) = Bool.true))) || Bool.true) && (((!(decide ((ltI 32 (((ByteArray.size (ByteArray.mk (Array.mk l))) : Nat) : Int)) = Bool.true))) || (((((!(decide ((ltI 32 (((ByteArray.size (ByteArray.mk (Array.mk l))) : Nat) : Int)) = Bool.true))) || (decide ((ltI 32 (((ByteArray.size (ByteArray.mk (Array.mk l))) : Nat) : Int)) = Bool.true))) && Bool.true) && Bool.true) && ((decide (8 ≤ (((ByteArray.size (ByteArray.mk (Array.mk l))) : Nat) : Int))) && (decide ((((ByteArray.size (ByteArray.mk (Array.mk l))) : Nat) : Int) ≤ (((ByteArray.size (ByteArray.mk (Array.mk l))) : Nat) : Int)))))) && (((!(decide ((ltI 32 (((ByteArray.size (ByteArray.mk (Array.mk l))) : Nat) : Int)) = Bool.true))) || ((((!(decide ((ltI 32 (((ByteArray.size (ByteArray.mk (Array.mk l))) : Nat) : Int)) = Bool.true))) || (decide ((ltI 32 (((ByteArray.size (ByteArray.mk (Array.mk l))) : Nat) : Int)) = Bool.true))) && Bool.true) && (decide (8 ≤ (List.length (List.drop 8 l)))))) && (((!(decide ((ltI 32 (((ByteArray.size (ByteArray.mk (Array.mk l))) : Nat) : Int)) = Bool.true))) || ((((!(decide ((ltI 32 (((ByteArray.size (ByteArray.mk (Array.mk l))) : Nat) : Int)) = Bool.true))) || (decide ((ltI 32 (((ByteArray.size (ByteArray.mk (Array.mk l))) : Nat) : Int)) = Bool.true))) && ((!(decide ((ltI 32 (((ByteArray.size (ByteArray.mk (Array.mk l))) : Nat) : Int)) = Bool.true))) || (decide ((ltI 32 (((ByteArray.size (ByteArray.mk (Array.mk l))) : Nat) : Int)) = Bool.true)))) && Bool.true)) && (((!(decide ((ltI 32 (((ByteArray.size (ByteArray.mk (Array.mk l))) : Nat) : Int)) = Bool.true))) || Bool.true) && (((!(decide ((ltI 32 (((ByteArray.size (ByteArray.mk (Array.mk l))) : Nat) : Int)) = Bool.true))) || (((((!(decide ((ltI 32 (((ByteArray.size (ByteArray.mk (Array.mk l))) : Nat) : Int)) = Bool.true))) || (decide ((ltI 32 (((ByteArray.size (ByteArray.mk (Array.mk l))) : Nat) : Int)) = Bool.true))) && Bool.true) && Bool.true) && ((decide (16 ≤ (((ByteArray.size (ByteArray.mk (Array.mk l))) : Nat) : Int))) && (decide ((((ByteArray.size (ByteArray.mk (Array.mk l))) : Nat) : Int) ≤ (((ByteArray.size (ByteArray.mk (Array.mk l))) : Nat) : Int)))))) && (((!(decide ((ltI 32 (((ByteArray.size (ByteArray.mk (Array.mk l))) : Nat) : Int)) = Bool.true))) || ((((!(decide ((ltI 32 (((ByteArray.size (ByteArray.mk (Array.mk l))) : Nat) : Int)) = Bool.true))) || (decide ((ltI 32 (((ByteArray.size (ByteArray.mk (Array.mk l))) : Nat) : Int)) = Bool.true))) && Bool.true) && (decide (8 ≤ (List.length (List.drop 16 l)))))) && (((!(decide ((ltI 32 (((ByteArray.size (ByteArray.mk (Array.mk l))) : Nat) : Int)) = Bool.true))) || Bool.true) && (((!(decide ((ltI 32 (((ByteArray.size (ByteArray.mk (Array.mk l))) : Nat) : Int)) = Bool.true))) || (((((!(decide ((ltI 32 (((ByteArray.size (ByteArray.mk (Array.mk l))) : Nat) : Int)) = Bool.true))) || (decide ((ltI 32 (((ByteArray.size (ByteArray.mk (Array.mk l))) : Nat) : Int)) = Bool.true))) && Bool.true) && Bool.true) && ((decide (24 ≤ (((ByteArray.size (ByteArray.mk (Array.mk l))) : Nat) : Int))) && (decide ((((ByteArray.size (ByteArray.mk (Array.mk l))) : Nat) : Int) ≤ (((ByteArray.size (ByteArray.mk (Array.mk l))) : Nat) : Int)))))) && (((!(decide ((ltI 32 (((ByteArray.size (ByteArray.mk (Array.mk l))) : Nat) : Int)) = Bool.true))) || ((((!(decide ((ltI 32 (((ByteArray.size (ByteArray.mk (Array.mk l))) : Nat) : Int)) = Bool.true))) || (decide ((ltI 32 (((ByteArray.size (ByteArray.mk (Array.mk l))) : Nat) : Int)) = Bool.true))) && Bool.true) && (decide (8 ≤ (List.length (List.drop 24 l)))))) && (((!(decide ((ltI 32 (((ByteArray.size (ByteArray.mk (Array.mk l))) : Nat) : Int)) = Bool.true))) || ((((!(decide ((ltI 32 (((ByteArray.size (ByteArray.mk (Array.mk l))) : Nat) : Int)) = Bool.true))) || (decide ((ltI 32 (((ByteArray.size (ByteArray.mk (Array.mk l))) : Nat) : Int)) = Bool.true))) && ((!(decide ((ltI 32 (((ByteArray.size (ByteArray.mk (Array.mk l))) : Nat) : Int)) = Bool.true))) || (decide ((ltI 32 (((ByteArray.size (ByteArray.mk (Array.mk l))) : Nat) : Int)) = Bool.true)))) && Bool.true)) && (((!(decide ((ltI 32 (((ByteArray.size (ByteArray.mk (Array.mk l))) : Nat) : Int)) = Bool.true))) || ((((!(decide ((ltI 32 (((ByteArray.size (ByteArray.mk (Array.mk l))) : Nat) : Int)) = Bool.true))) || (decide ((ltI 32 (((ByteArray.size (ByteArray.mk (Array.mk l))) : Nat) : Int)) = Bool.true))) && ((!(decide ((ltI 32 (((ByteArray.size (ByteArray.mk (Array.mk l))) : Nat) : Int)) = Bool.true))) || (decide ((ltI 32 (((ByteArray.size (ByteArray.mk (Array.mk l))) : Nat) : Int)) = Bool.true)))) && Bool.true)) && (((!(decide ((ltI 32 (((ByteArray.size (ByteArray.mk (Array.mk l))) : Nat) : Int)) = Bool.true))) || ((((!(decide ((ltI 32 (((ByteArray.size (ByteArray.mk (Array.mk l))) : Nat) : Int)) = Bool.true))) || (decide ((ltI 32 (((ByteArray.size (ByteArray.mk (Array.mk l))) : Nat) : Int)) = Bool.true))) && Bool.true) && Bool.true)) && (((!(decide ((ltI 32 (((ByteArray.size (ByteArray.mk (Array.mk l))) : Nat) : Int)) = Bool.true))) || ((((!(decide ((ltI 32 (((ByteArray.size (ByteArray.mk (Array.mk l))) : Nat) : Int)) = Bool.true))) || (decide ((ltI 32 (((ByteArray.size (ByteArray.mk (Array.mk l))) : Nat) : Int)) = Bool.true))) && Bool.true) && Bool.true)) && ((((!(ltI 32 (((ByteArray.size (ByteArray.mk (Array.mk l))) : Nat) : Int))) || (decide ((ltI 32 (((ByteArray.size (ByteArray.mk (Array.mk l))) : Nat) : Int)) = Bool.true))) && Bool.true) && k HX.normal ⟨slots 169 [(0, (HV.v (Value.string (ByteArray.mk (Array.mk l))))), (2, (HV.v (Value.bool Bool.false))), (62, (HV.v (Value.bool ((ltI 32 (((ByteArray.size (ByteArray.mk (Array.mk l))) : Nat) : Int)) && (decide ((bandI IntKind.u64 (IntKind.wrap IntKind.u64 (((BitVec.toNat (HOr.hOr (BitVec.ofInt 64 (IntKind.wrap IntKind.u64 (((BitVec.toNat (HOr.hOr (BitVec.ofInt 64 (wordN (blist (ByteArray.mk (Array.mk l))))) (BitVec.ofInt 64 (wordN (blist (ByteArray.mk (Array.mk (List.drop 8 l)))))))) : Nat) : Int))) (BitVec.ofInt 64 (IntKind.wrap IntKind.u64 (((BitVec.toNat (HOr.hOr (BitVec.ofInt 64 (wordN (blist (ByteArray.mk (Array.mk (List.drop 16 l)))))) (BitVec.ofInt 64 (wordN (blist (ByteArray.mk (Array.mk (List.drop 24 l)))))))) : Nat) : Int))))) : Nat) : Int)) 9259542123273814144) = 0))))))], []⟩))))))))))))))))) := by kernel_rfl
theorem l102 (l : List UInt8) (k : KX) : evd G9 1 (pc 102 [1, 0, 0, 0, 1, 0, 1, 0, 1, 0, 1, 0, 1, 0, 1, 1, 0, 1, 0, 0, 1, 0]) (st102 l) (fun x st => k x (st.keep [0, 2])) = (((decide (32 ≤ (((ByteArray.size (ByteArray.mk (Array.mk l))) : Nat) : Int))) && (decide ((((ByteArray.size (ByteArray.mk (Array.mk l))) : Nat) : Int) ≤ (((ByteArray.size (ByteArray.mk (Array.mk l))) : Nat) : Int)))) && k HX.normal ⟨slots 169 [(0, (HV.v (Value.string (ByteArray.mk (Array.mk (List.drop 32 l)))))), (2, (HV.v (Value.bool Bool.false)))], []⟩) := by kernel_rfl
theorem m102 (l : List UInt8) (k : KX) : evd G9 1 (pc 102 [1, 1]) (st102 l) (fun x st => k x (st.keep [0, 2])) = k HX.ret ⟨slots 169 [(0, (HV.v (Value.string (ByteArray.mk (Array.mk l))))), (2, (HV.v (Value.bool Bool.true)))], []⟩ := by kernel_rfl
theorem n102 (l : List UInt8) (kr : KR) : finK Tryz.prog Tryz.f102 [] kr ⟨slots 169 [(0, tx l), (2, .v (.bool true))], []⟩ = kr (HR.ret (HV.v (Value.bool Bool.true))) [] := by kernel_rfl

theorem AsciiS.drop {l : List UInt8} (h : AsciiS l) (n : Nat) : AsciiS (l.drop n) := fun x hx => h x (List.mem_of_mem_drop hx)

theorem gd_leS {n : Nat} {l : List UInt8} (h : ltI n ((ByteArray.size ⟨⟨l⟩⟩ : Nat) : Int) = true) : (n : Int) ≤ (l.length : Int) := by rw [ltI_iff, size_bt] at h; omega

theorem code102 : Tryz.f102.body = some (.seq (pc 102 [0]) (.seq (.block 0 (.loop (pc 102 [1, 0, 0, 0]))) (pc 102 [1, 1]))) := by kernel_rfl
theorem code102b : pc 102 [1, 0, 0, 0] = .seq (pc 102 [1, 0, 0, 0, 0]) (.block 1 (.seq (pc 102 [1, 0, 0, 0, 1, 0, 0]) (.seq (.seq (pc 102 [1, 0, 0, 0, 1, 0, 1, 0, 0]) (.cond (.tmp 13) (.seq (pc 102 [1, 0, 0, 0, 1, 0, 1, 0, 1, 0, 0]) (.seq (.seq (pc 102 [1, 0, 0, 0, 1, 0, 1, 0, 1, 0, 1, 0, 0]) (.cond (.tmp 24) (.seq (pc 102 [1, 0, 0, 0, 1, 0, 1, 0, 1, 0, 1, 0, 1, 0, 0]) (.seq (pc 102 [1, 0, 0, 0, 1, 0, 1, 0, 1, 0, 1, 0, 1, 0, 1, 0]) (.cond (.tmp 39) (.seq (pc 102 [1, 0, 0, 0, 1, 0, 1, 0, 1, 0, 1, 0, 1, 0, 1, 1, 0, 0]) (.block 2 (.loop (pc 102 [1, 0, 0, 0, 1, 0, 1, 0, 1, 0, 1, 0, 1, 0, 1, 1, 0, 1, 0, 0])))) .skip))) .skip)) (.exit 1))) .skip)) (pc 102 [1, 0, 0, 0, 1, 0, 1, 1])))) := by kernel_rfl
theorem code102c : pc 102 [1, 0, 0, 0, 1, 0, 1, 0, 1, 0, 1, 0, 1, 0, 1, 1, 0, 1, 0, 0] = .seq (.seq (pc 102 [1, 0, 0, 0, 1, 0, 1, 0, 1, 0, 1, 0, 1, 0, 1, 1, 0, 1, 0, 0, 0, 0]) (.cond (.tmp 62) .skip (.exit 2))) (.block 3 (pc 102 [1, 0, 0, 0, 1, 0, 1, 0, 1, 0, 1, 0, 1, 0, 1, 1, 0, 1, 0, 0, 1, 0])) := by kernel_rfl

def st102b (i : Nat) (b : Bool) (l : List UInt8) : St := ⟨slots 169 [(0, tx l), (2, .v (.bool false)), (i, .v (.bool b))], []⟩
theorem keep102a (b : Bool) (l : List UInt8) : (st102b 13 b l).keep [0, 2] = st102 l := by kernel_rfl
theorem keep102b (b : Bool) (l : List UInt8) : (st102b 24 b l).keep [0, 2] = st102 l := by kernel_rfl
theorem keep102c (b : Bool) (l : List UInt8) : (st102b 39 b l).keep [0, 2] = st102 l := by kernel_rfl
theorem keep102d (b : Bool) (l : List UInt8) : (st102b 62 b l).keep [0, 2] = st102 l := by kernel_rfl
theorem bool102a (b : Bool) (l : List UInt8) : fe true (opnd (st102b 13 b l).tmps (.tmp 13)) = (true, .v (.bool b)) := by kernel_rfl
theorem bool102b (b : Bool) (l : List UInt8) : fe true (opnd (st102b 24 b l).tmps (.tmp 24)) = (true, .v (.bool b)) := by kernel_rfl
theorem bool102c (b : Bool) (l : List UInt8) : fe true (opnd (st102b 39 b l).tmps (.tmp 39)) = (true, .v (.bool b)) := by kernel_rfl
theorem bool102d (b : Bool) (l : List UInt8) : fe true (opnd (st102b 62 b l).tmps (.tmp 62)) = (true, .v (.bool b)) := by kernel_rfl
theorem vw102 (l : List UInt8) : vw [] 0 (st102 l) = st102 l := by kernel_rfl

/-- A word's test: whatever it says, what is left is ASCII. -/
theorem word102 {w0 : World} (hG : GamOK Tryz.prog w0 G9) {l : List UInt8} (hl : AsciiS l) {F : HX → St → Prop} (h : ∀ l', AsciiS l' → l'.length ≤ l.length → F (.exit 1) (st102 l')) :
    WpA Tryz.prog w0 [] (.seq (.seq (pc 102 [1, 0, 0, 0, 1, 0, 1, 0, 1, 0, 1, 0, 0]) (.cond (.tmp 24) (.seq (pc 102 [1, 0, 0, 0, 1, 0, 1, 0, 1, 0, 1, 0, 1, 0, 0]) (.seq (pc 102 [1, 0, 0, 0, 1, 0, 1, 0, 1, 0, 1, 0, 1, 0, 1, 0]) (.cond (.tmp 39) (.seq (pc 102 [1, 0, 0, 0, 1, 0, 1, 0, 1, 0, 1, 0, 1, 0, 1, 1, 0, 0]) (.block 2 (.loop (pc 102 [1, 0, 0, 0, 1, 0, 1, 0, 1, 0, 1, 0, 1, 0, 1, 1, 0, 1, 0, 0])))) .skip))) .skip)) (.exit 1)) (st102 l) F := by
  have fin : ∀ l', AsciiS l' → l'.length ≤ l.length → WpA Tryz.prog w0 [] (.exit 1) (st102 l') F := fun l' a b => wpA_exit (h l' a b)
  have fin' : ∀ i b l', (st102b i b l').keep [0, 2] = st102 l' → AsciiS l' → l'.length ≤ l.length → WpA Tryz.prog w0 [] (.exit 1) (st102b i b l') F := fun i b l' hk a c => wpA_keep [0, 2] hk (fin l' a c)
  refine wpA_seq (wpA_seq ((evd_ok hG [0, 2, 24] (g102 l) ?_).wpA))
  cases hb : ltI 8 ((ByteArray.size ⟨⟨l⟩⟩ : Nat) : Int) with
  | false =>
    simp only [hb, Bool.false_and, Bool.true_or, Bool.true_and, decide_false, Bool.not_false, Bool.false_or, Bool.or_true, Bool.and_self, Bool.or_false, reduceCtorEq]
    refine yes_mk ?_
    refine wpA_cond (bool102b false l) (fun h => by cases h) (fun _ => ?_)
    exact wpA_skip (fin' 24 false l (keep102b false l) hl (Nat.le_refl _))
  | true =>
  have g8 : (8 : Int) ≤ (l.length : Int) := gd_leS hb
  simp only [size_bt, List.length_drop, hb, gd3, Bool.true_and, Bool.true_or, Bool.false_or, decide_true, Bool.not_true, Bool.or_true, Bool.and_self, Bool.and_true, decide_eq_true (show 8 ≤ l.length by omega)]
  refine yes_mk ?_
  refine wpA_cond (bool102b _ l) (fun _ => ?_) (fun _ => ?_)
  rotate_left
  exact wpA_skip (fin' 24 _ l (keep102b _ l) hl (Nat.le_refl _))
  refine wpA_keep [0, 2] (keep102b _ l) ?_
  refine wpA_seq ((evd_ok hG [0, 2] (h102 l) ?_).wpA)
  simp only [gd3, Bool.and_true, size_bt]
  rw [decide_eq_true (show (8 : Int) ≤ (l.length : Int) from g8)]
  refine yes_mk ?_
  have hlen : (l.drop 8).length ≤ l.length := by simp only [List.length_drop]; omega
  have a1 := hl.drop 8
  generalize l.drop 8 = l1 at hlen a1
  refine wpA_seq ((evd_ok hG [0, 2, 39] (i102 l1) ?_).wpA)
  clear hb g8
  cases hb : ltI 16 ((ByteArray.size ⟨⟨l1⟩⟩ : Nat) : Int) with
  | false =>
    simp only [hb, Bool.false_and, Bool.true_or, Bool.true_and, decide_false, Bool.not_false, Bool.false_or, Bool.or_true, Bool.and_self, Bool.or_false, reduceCtorEq]
    refine yes_mk ?_
    refine wpA_cond (bool102c false l1) (fun h => by cases h) (fun _ => ?_)
    exact wpA_skip (fin' 39 false l1 (keep102c false l1) a1 hlen)
  | true =>
  have g8 : (16 : Int) ≤ (l1.length : Int) := gd_leS hb
  simp only [size_bt, List.length_drop, hb, gd3, Bool.true_and, Bool.true_or, Bool.false_or, decide_true, Bool.not_true, Bool.or_true, Bool.and_self, Bool.and_true, decide_eq_true (show 8 ≤ l1.length by omega), decide_eq_true (show 8 ≤ l1.length - 8 by omega), decide_eq_true (show (8 : Int) ≤ (l1.length : Int) by omega)]
  refine yes_mk ?_
  refine wpA_cond (bool102c _ l1) (fun _ => ?_) (fun _ => ?_)
  rotate_left
  exact wpA_skip (fin' 39 _ l1 (keep102c _ l1) a1 hlen)
  refine wpA_keep [0, 2] (keep102c _ l1) ?_
  refine wpA_seq ((evd_ok hG [0, 2] (j102 l1) ?_).wpA)
  simp only [gd3, Bool.and_true, size_bt]
  rw [decide_eq_true (show (16 : Int) ≤ (l1.length : Int) from g8)]
  refine yes_mk ?_
  have hlen2 : (l1.drop 16).length ≤ l.length := by simp only [List.length_drop]; omega
  have a2 := a1.drop 16
  generalize l1.drop 16 = l2 at hlen2 a2
  refine wpA_block (wpA_loop (α := { l' : List UInt8 // AsciiS l' ∧ l'.length ≤ l.length }) (fun l => st102 l.1) (fun l => l.1.length) (fun l3 => ?_) ⟨l2, a2, hlen2⟩)
  obtain ⟨l3, a3, b3⟩ := l3
  rw [code102c]
  refine wpA_seq (wpA_seq ((evd_ok hG [0, 2, 62] (k102 l3) ?_).wpA))
  clear hb g8
  cases hb : ltI 32 ((ByteArray.size ⟨⟨l3⟩⟩ : Nat) : Int) with
  | false =>
    simp only [hb, Bool.false_and, Bool.true_or, Bool.true_and, decide_false, Bool.not_false, Bool.false_or, Bool.or_true, Bool.and_self, Bool.or_false, reduceCtorEq]
    refine yes_mk ?_
    refine wpA_cond (bool102d false l3) (fun h => by cases h) (fun _ => ?_)
    exact wpA_exit (fin' 62 false l3 (keep102d false l3) a3 b3)
  | true =>
  have g8 : (32 : Int) ≤ (l3.length : Int) := gd_leS hb
  simp only [size_bt, List.length_drop, hb, gd3, Bool.true_and, Bool.true_or, Bool.false_or, decide_true, Bool.not_true, Bool.or_true, Bool.and_self, Bool.and_true, decide_eq_true (show 8 ≤ l3.length by omega), decide_eq_true (show 8 ≤ l3.length - 8 by omega), decide_eq_true (show 8 ≤ l3.length - 16 by omega), decide_eq_true (show 8 ≤ l3.length - 24 by omega), decide_eq_true (show (8 : Int) ≤ (l3.length : Int) by omega), decide_eq_true (show (16 : Int) ≤ (l3.length : Int) by omega), decide_eq_true (show (24 : Int) ≤ (l3.length : Int) by omega)]
  refine yes_mk ?_
  refine wpA_cond (bool102d _ l3) (fun _ => wpA_skip ?_) (fun _ => ?_)
  rotate_left
  exact wpA_exit (fin' 62 _ l3 (keep102d _ l3) a3 b3)
  refine wpA_keep [0, 2] (keep102d _ l3) ?_
  refine wpA_block ((evd_ok hG [0, 2] (l102 l3) ?_).wpA)
  simp only [gd3, Bool.and_true, size_bt]
  rw [decide_eq_true g8]
  exact yes_mk ⟨⟨l3.drop 32, a3.drop 32, by simp only [List.length_drop]; omega⟩, [], 0, by simp only [List.length_drop]; omega, rfl, vw102 _⟩

theorem do102a {l0 : List UInt8} (ha : AsciiS l0) : PureDo Tryz.prog H4 102 [tx l0] (.v (.bool true)) := by
  intro w0 kr h0 hkr
  have hG := gamOK9 h0
  refine does_wpA Tryz.func102 code102 (n := 169) (by kernel_rfl) ?_
  refine wpA_seq ((evd_ok hG [0, 2] (a102 l0) (yes_mk ?_)).wpA)
  refine wpA_seq (wpA_block ?_)
  refine wpA_loop (α := { l : List UInt8 // AsciiS l }) (fun l => st102 l.1) (fun l => l.1.length) (fun l => ?_) ⟨l0, ha⟩
  obtain ⟨l, ha⟩ := l
  rw [code102b]
  cases l with
  | nil =>
    refine wpA_seq ((evd_ok hG [0, 2] c102n (yes_mk ?_)).wpA)
    refine (evd_ok hG [0, 2] (m102 []) (yes_mk ?_)).wpA
    show finK Tryz.prog Tryz.f102 [] kr ⟨slots 169 [(0, tx []), (2, .v (.bool true))], []⟩ = true
    rw [n102]; exact hkr
  | cons c l =>
    have hc : ltI (c.toNat : Int) 128 = true := by rw [ltI_iff]; exact ha c List.mem_cons_self
    have hl : AsciiS l := fun x hx => ha x (List.mem_cons_of_mem _ hx)
    refine wpA_seq ((evd_ok hG [0, 2] (c102c c l) (yes_mk ?_)).wpA)
    refine wpA_block ?_
    refine wpA_seq ((evd_ok hG [0, 2, 3] (d102 c l) ?_).wpA)
    simp only [gd1, Bool.true_and]
    refine yes_mk ?_
    refine wpA_seq ?_
    refine wpA_seq ((evd_ok hG [0, 2, 13] (e102 c l) (yes_mk ?_)).wpA)
    rw [hc]
    refine wpA_cond (bool102a true (c :: l)) (fun _ => ?_) (fun h => by cases h)
    refine wpA_keep [0, 2] (keep102a true (c :: l)) ?_
    refine wpA_seq ((evd_ok hG [0, 2] (f102 c l) ?_).wpA)
    simp only [gd2, gd3, Bool.true_and]
    refine yes_mk ?_
    exact word102 hG hl (fun l' a b => ⟨⟨l', a⟩, [], 0, Nat.lt_succ_of_le b, rfl, vw102 l'⟩)


end Go.Proofs.YtiaeljbnhdhfcaaGreatDoor

namespace Go.Proofs.YtiaeljbnhdhfcaaGreatDoor
open Go Go.RowKit Go.Lx Go.Mo

def strC (a : HV) (t v v' n : Nat) (xs : List Int) : Bool := Nat.beq t 180 && Nat.beq a.width 1 && Nat.beq v v' && Nat.beq n xs.length && !Nat.beq n 0 && xs.all byteR && decide (xs.length ≤ 140737488355328)

/-- Builder.String, of what was written. -/
def strF (args : List HV) (L : List Ob) : Option (KR → Bool) := match args with
  | [.ptr id 0] => (match L[id]? with
    | some (.box t (.st [a, .own (.int .u8) j v n])) => (match L[j]? with
      | some (.row (.int .u8) v' _ xs) => some (fun kr => strC a t v v' n xs && kr (.ret (.v (.string (bback xs)))) (L.set j (.row (.int .u8) (v + 1) 0 [])))
      | _ => none)
    | _ => none)
  | _ => none

noncomputable def G10 : Gam := addL 139 strF G9

theorem gamOK10 {w0 : World} (h0 : H4 w0) : GamOK Tryz.prog w0 G10 := by
  refine addL_ok (gamOK9 h0) ?_
  intro args L F kr h hk
  unfold strF at h
  split at h
  · rename_i id
    split at h
    · rename_i t a j v n hid
      split at h
      · rename_i v' fp xs hj
        cases h
        rw [Bool.and_eq_true] at hk
        refine lib_loud 139 [.ptr id 0] L (fun kr => kr (.ret (.v (.string (bback xs)))) (L.set j (.row (.int .u8) (v + 1) 0 []))) kr ?_ hk.2
        unfold libLoud
        rw [show Nat.beq 139 57 = false from rfl, show Nat.beq 139 58 = false from rfl, show Nat.beq 139 59 = false from rfl, show Nat.beq 139 173 = false from rfl, show Nat.beq 139 139 = true from rfl]
        simp only [cond_false, cond_true, hid, hj]
        show (bif strC a t v v' n xs then some _ else none) = _
        rw [hk.1]; rfl
      · cases h
    · cases h
  · cases h

/-- The reader: what is left, what was noted. -/
def rdr (s : List UInt8) (a w g : Bool) : Ob := .box 90 (.st [tx s, .v (.bool a), .v (.bool w), .v (.bool g)])

theorem a89 (s : List UInt8) (a w g : Bool) (k : KX) : evd G9 1 (pc 89 [0]) ⟨argT 0 [.ptr 0 0] ⟨58, .nil⟩, [rdr s a w g]⟩ (fun x st => k x (st.keep [0, 2])) = k HX.normal ⟨slots 58 [(0, (HV.ptr 0 0)), (2, (HV.v (Value.string (ByteArray.mk (Array.mk [])))))], [(Ob.box 90 (HV.st [(HV.v (Value.string (ByteArray.mk (Array.mk s)))), (HV.v (Value.bool a)), (HV.v (Value.bool w)), (HV.v (Value.bool g))]))]⟩ := by kernel_rfl
theorem b89 (s : List UInt8) (a w g : Bool) (k : KX) : evd G9 1 (pc 89 [1, 0]) ⟨slots 58 [(0, .ptr 0 0), (2, tx [])], [rdr s a w g]⟩ (fun x st => k x (st.keep [0, 2, 3])) = (((decide ((ByteArray.size (ByteArray.mk (Array.mk s))) < 4611686018427387904)) && (quotedOk s)) && k HX.normal ⟨slots 58 [(0, (HV.ptr 0 0)), (2, (HV.v (Value.string (ByteArray.mk (Array.mk []))))), (3, (HV.v (Value.int IntKind.i64 (quotedLen s))))], [(Ob.box 90 (HV.st [(HV.v (Value.string (ByteArray.mk (Array.mk s)))), (HV.v (Value.bool a)), (HV.v (Value.bool w)), (HV.v (Value.bool g))]))]⟩) := by kernel_rfl
theorem c89 (s : List UInt8) (n : Int) (a w g : Bool) (k : KX) : evd G9 1 (pc 89 [1, 1, 0]) ⟨slots 58 [(0, .ptr 0 0), (2, tx []), (3, .v (.int .i64 n))], [rdr s a w g]⟩ (fun x st => k x (st.keep [0, 2, 3, 4])) = (((decide (1 ≤ (fwrap IntKind.i64 (n - 1)))) && (decide ((fwrap IntKind.i64 (n - 1)) ≤ (((ByteArray.size (ByteArray.mk (Array.mk s))) : Nat) : Int)))) && k HX.normal ⟨slots 58 [(0, (HV.ptr 0 0)), (2, (HV.v (Value.string (ByteArray.mk (Array.mk []))))), (3, (HV.v (Value.int IntKind.i64 n))), (4, (HV.v (Value.string (bsub (ByteArray.mk (Array.mk s)) 1 (Int.toNat (fwrap IntKind.i64 (n - 1)))))))], [(Ob.box 90 (HV.st [(HV.v (Value.string (ByteArray.mk (Array.mk s)))), (HV.v (Value.bool a)), (HV.v (Value.bool w)), (HV.v (Value.bool g))]))]⟩) := by kernel_rfl
theorem d89 (s m : List UInt8) (n : Int) (a w g : Bool) (k : KX) : evd G9 1 (pc 89 [1, 1, 1, 0]) ⟨slots 58 [(0, .ptr 0 0), (2, tx []), (3, .v (.int .i64 n)), (4, tx m)], [rdr s a w g]⟩ (fun x st => k x (st.keep [0, 2, 4])) = ((((decide (0 ≤ n)) && (decide (n ≤ (((ByteArray.size (ByteArray.mk (Array.mk s))) : Nat) : Int)))) && (decide ((((ByteArray.size (ByteArray.mk (Array.mk s))) : Nat) : Int) ≤ (((ByteArray.size (ByteArray.mk (Array.mk s))) : Nat) : Int)))) && k HX.normal ⟨slots 58 [(0, (HV.ptr 0 0)), (2, (HV.v (Value.string (ByteArray.mk (Array.mk []))))), (4, (HV.v (Value.string (ByteArray.mk (Array.mk m)))))], [(Ob.box 90 (HV.st [(HV.v (Value.string (ByteArray.mk (Array.mk (List.drop (Int.toNat n) s))))), (HV.v (Value.bool a)), (HV.v (Value.bool w)), (HV.v (Value.bool g))]))]⟩) := by kernel_rfl
theorem e89 (s m : List UInt8) (a w g : Bool) (k : KX) : evd G9 1 (pc 89 [1, 1, 1, 1, 0]) ⟨slots 58 [(0, .ptr 0 0), (2, tx []), (4, tx m)], [rdr s a w g]⟩ (fun x st => k x (st.keep [0, 2, 4, 5])) = k HX.normal ⟨slots 58 [(0, (HV.ptr 0 0)), (2, (HV.v (Value.string (ByteArray.mk (Array.mk []))))), (4, (HV.v (Value.string (ByteArray.mk (Array.mk m))))), (5, (HV.ptr 1 0))], [(Ob.box 90 (HV.st [(HV.v (Value.string (ByteArray.mk (Array.mk s)))), (HV.v (Value.bool a)), (HV.v (Value.bool w)), (HV.v (Value.bool g))])), (Ob.box 180 (HV.st [(HV.v (Value.pointer Option.none)), (HV.v (Value.slice Option.none 0 0))]))]⟩ := by kernel_rfl

/-- The builder: empty; with what was written. -/
def bld0 : Ob := .box 180 (.st [.v (.pointer none), .v (.slice none 0 0)])
def bld1 (j n : Nat) : Ob := .box 180 (.st [.ptr 1 0, .own (.int .u8) j 0 n])
def st89 (s m : List UInt8) (a w g : Bool) : St := ⟨slots 58 [(0, .ptr 0 0), (2, tx []), (4, tx m), (5, .ptr 1 0)], [rdr s a w g, bld0]⟩
def st89b (s m : List UInt8) (xs : List Int) (a w g : Bool) : St := ⟨slots 58 [(0, .ptr 0 0), (2, tx []), (4, tx m), (5, .ptr 1 0)], [rdr s a w g, bld1 2 xs.length, .row (.int .u8) 0 0 xs]⟩

theorem f89 (s : List UInt8) (a w g : Bool) (k : KX) : evd G9 1 (pc 89 [1, 1, 1, 1, 1, 0, 0, 0, 0]) (st89 s [] a w g) (fun x st => k x (st.keep [0, 2, 4, 5])) = k (HX.exit 0) ⟨slots 58 [(0, (HV.ptr 0 0)), (2, (HV.v (Value.string (ByteArray.mk (Array.mk []))))), (4, (HV.v (Value.string (ByteArray.mk (Array.mk []))))), (5, (HV.ptr 1 0))], [(Ob.box 90 (HV.st [(HV.v (Value.string (ByteArray.mk (Array.mk s)))), (HV.v (Value.bool a)), (HV.v (Value.bool w)), (HV.v (Value.bool g))])), (Ob.box 180 (HV.st [(HV.v (Value.pointer Option.none)), (HV.v (Value.slice Option.none 0 0))]))]⟩ := by kernel_rfl
theorem f89b (s : List UInt8) (xs : List Int) (a w g : Bool) (k : KX) : evd G9 1 (pc 89 [1, 1, 1, 1, 1, 0, 0, 0, 0]) (st89b s [] xs a w g) (fun x st => k x (st.keep [0, 2, 4, 5])) = k (HX.exit 0) ⟨slots 58 [(0, (HV.ptr 0 0)), (2, (HV.v (Value.string (ByteArray.mk (Array.mk []))))), (4, (HV.v (Value.string (ByteArray.mk (Array.mk []))))), (5, (HV.ptr 1 0))], [(Ob.box 90 (HV.st [(HV.v (Value.string (ByteArray.mk (Array.mk s)))), (HV.v (Value.bool a)), (HV.v (Value.bool w)), (HV.v (Value.bool g))])), (Ob.box 180 (HV.st [(HV.ptr 1 0), (HV.own (Cd.int IntKind.u8) 2 0 (List.length xs))])), (Ob.row (Cd.int IntKind.u8) 0 0 xs)]⟩ := by kernel_rfl
theorem g89 (s m : List UInt8) (c : UInt8) (a w g : Bool) (k : KX) : evd G9 1 (pc 89 [1, 1, 1, 1, 1, 0, 0, 0, 0]) (st89 s (c :: m) a w g) (fun x st => k x (st.keep [0, 2, 4, 5])) = k HX.normal ⟨slots 58 [(0, (HV.ptr 0 0)), (2, (HV.v (Value.string (ByteArray.mk (Array.mk []))))), (4, (HV.v (Value.string (ByteArray.mk (Array.mk (c :: m)))))), (5, (HV.ptr 1 0))], [(Ob.box 90 (HV.st [(HV.v (Value.string (ByteArray.mk (Array.mk s)))), (HV.v (Value.bool a)), (HV.v (Value.bool w)), (HV.v (Value.bool g))])), (Ob.box 180 (HV.st [(HV.v (Value.pointer Option.none)), (HV.v (Value.slice Option.none 0 0))]))]⟩ := by kernel_rfl
theorem h89 (s m : List UInt8) (a w g : Bool) (k : KX) : evd G9 1 (pc 89 [1, 1, 1, 1, 1, 0, 0, 0, 1, 0, 0]) (st89 s m a w g) (fun x st => k x (st.keep [0, 2, 4, 5, 6])) = k HX.normal ⟨slots 58 [(0, (HV.ptr 0 0)), (2, (HV.v (Value.string (ByteArray.mk (Array.mk []))))), (4, (HV.v (Value.string (ByteArray.mk (Array.mk m))))), (5, (HV.ptr 1 0)), (6, (HV.v (Value.int IntKind.i64 (idxGo 92 m 0))))], [(Ob.box 90 (HV.st [(HV.v (Value.string (ByteArray.mk (Array.mk s)))), (HV.v (Value.bool a)), (HV.v (Value.bool w)), (HV.v (Value.bool g))])), (Ob.box 180 (HV.st [(HV.v (Value.pointer Option.none)), (HV.v (Value.slice Option.none 0 0))]))]⟩ := by kernel_rfl
theorem i89 (s m : List UInt8) (a w g : Bool) (k : KX) : evd G9 1 (pc 89 [1, 1, 1, 1, 1, 0, 0, 0, 1, 0, 1, 0]) ⟨slots 58 [(0, .ptr 0 0), (2, tx []), (4, tx m), (5, .ptr 1 0), (6, .v (.int .i64 (-1)))], [rdr s a w g, bld0]⟩ (fun x st => k x (st.keep [0, 2, 4, 5, 6])) = k HX.normal ⟨slots 58 [(0, (HV.ptr 0 0)), (2, (HV.v (Value.string (ByteArray.mk (Array.mk []))))), (4, (HV.v (Value.string (ByteArray.mk (Array.mk m))))), (5, (HV.ptr 1 0)), (6, (HV.v (Value.int IntKind.i64 (((ByteArray.size (ByteArray.mk (Array.mk m))) : Nat) : Int))))], [(Ob.box 90 (HV.st [(HV.v (Value.string (ByteArray.mk (Array.mk s)))), (HV.v (Value.bool a)), (HV.v (Value.bool w)), (HV.v (Value.bool g))])), (Ob.box 180 (HV.st [(HV.v (Value.pointer Option.none)), (HV.v (Value.slice Option.none 0 0))]))]⟩ := by kernel_rfl
theorem j89 (s m : List UInt8) (n : Int) (a w g : Bool) (k : KX) : evd G9 3 (pc 89 [1, 1, 1, 1, 1, 0, 0, 0, 1, 0, 1, 1, 0]) ⟨slots 58 [(0, .ptr 0 0), (2, tx []), (4, tx m), (5, .ptr 1 0), (6, .v (.int .i64 n))], [rdr s a w g, bld0]⟩ (fun x st => k x (st.keep [0, 2, 4, 5, 6])) = (((decide (0 ≤ n)) && (decide (n ≤ (((ByteArray.size (ByteArray.mk (Array.mk m))) : Nat) : Int)))) && ((decide (((List.length (blist (bsub (ByteArray.mk (Array.mk m)) 0 (Int.toNat n)))) * 1) ≤ 140737488355328)) && k HX.normal ⟨slots 58 [(0, (HV.ptr 0 0)), (2, (HV.v (Value.string (ByteArray.mk (Array.mk []))))), (4, (HV.v (Value.string (ByteArray.mk (Array.mk m))))), (5, (HV.ptr 1 0)), (6, (HV.v (Value.int IntKind.i64 n)))], [(Ob.box 90 (HV.st [(HV.v (Value.string (ByteArray.mk (Array.mk s)))), (HV.v (Value.bool a)), (HV.v (Value.bool w)), (HV.v (Value.bool g))])), (Ob.box 180 (HV.st [(HV.ptr 1 0), (HV.own (Cd.int IntKind.u8) 2 0 (List.length (blist (bsub (ByteArray.mk (Array.mk m)) 0 (Int.toNat n)))))])), (Ob.row (Cd.int IntKind.u8) 0 0 (blist (bsub (ByteArray.mk (Array.mk m)) 0 (Int.toNat n))))]⟩)) := by kernel_rfl
theorem k89 (s m : List UInt8) (n : Int) (xs : List Int) (a w g : Bool) (k : KX) : evd G9 3 (pc 89 [1, 1, 1, 1, 1, 0, 0, 0, 1, 0, 1, 1, 1, 0]) ⟨slots 58 [(0, .ptr 0 0), (2, tx []), (4, tx m), (5, .ptr 1 0), (6, .v (.int .i64 n))], [rdr s a w g, bld1 2 xs.length, .row (.int .u8) 0 0 xs]⟩ (fun x st => k x (st.keep [0, 2, 4, 5])) = ((((decide (0 ≤ n)) && (decide (n ≤ (((ByteArray.size (ByteArray.mk (Array.mk m))) : Nat) : Int)))) && (decide ((((ByteArray.size (ByteArray.mk (Array.mk m))) : Nat) : Int) ≤ (((ByteArray.size (ByteArray.mk (Array.mk m))) : Nat) : Int)))) && k HX.normal ⟨slots 58 [(0, (HV.ptr 0 0)), (2, (HV.v (Value.string (ByteArray.mk (Array.mk []))))), (4, (HV.v (Value.string (ByteArray.mk (Array.mk (List.drop (Int.toNat n) m)))))), (5, (HV.ptr 1 0))], [(Ob.box 90 (HV.st [(HV.v (Value.string (ByteArray.mk (Array.mk s)))), (HV.v (Value.bool a)), (HV.v (Value.bool w)), (HV.v (Value.bool g))])), (Ob.box 180 (HV.st [(HV.ptr 1 0), (HV.own (Cd.int IntKind.u8) 2 0 (List.length xs))])), (Ob.row (Cd.int IntKind.u8) 0 0 xs)]⟩) := by kernel_rfl
theorem l89 (s : List UInt8) (xs : List Int) (a w g : Bool) (k : KX) : evd G9 3 (pc 89 [1, 1, 1, 1, 1, 0, 0, 0, 1, 0, 1, 1, 1, 1]) (st89b s [] xs a w g) (fun x st => k x (st.keep [0, 2, 4, 5])) = k HX.normal ⟨slots 58 [(0, (HV.ptr 0 0)), (2, (HV.v (Value.string (ByteArray.mk (Array.mk []))))), (4, (HV.v (Value.string (ByteArray.mk (Array.mk []))))), (5, (HV.ptr 1 0))], [(Ob.box 90 (HV.st [(HV.v (Value.string (ByteArray.mk (Array.mk s)))), (HV.v (Value.bool a)), (HV.v (Value.bool w)), (HV.v (Value.bool g))])), (Ob.box 180 (HV.st [(HV.ptr 1 0), (HV.own (Cd.int IntKind.u8) 2 0 (List.length xs))])), (Ob.row (Cd.int IntKind.u8) 0 0 xs)]⟩ := by kernel_rfl
theorem m89 (s : List UInt8) (a w g : Bool) (k : KX) : evd G9 3 (pc 89 [1, 1, 1, 1, 1, 1]) (st89 s [] a w g) (fun x st => k x (st.keep [2])) = k HX.ret ⟨slots 58 [(2, (HV.v (Value.string (ByteArray.mk (Array.mk [])))))], [(Ob.box 90 (HV.st [(HV.v (Value.string (ByteArray.mk (Array.mk s)))), (HV.v (Value.bool a)), (HV.v (Value.bool w)), (HV.v (Value.bool g))])), (Ob.box 180 (HV.st [(HV.v (Value.pointer Option.none)), (HV.v (Value.slice Option.none 0 0))]))]⟩ := by kernel_rfl
theorem n89 (s : List UInt8) (xs : List Int) (a w g : Bool) (k : KX) : evd G10 3 (pc 89 [1, 1, 1, 1, 1, 1]) (st89b s [] xs a w g) (fun x st => k x (st.keep [2])) = (((((Nat.beq (List.length xs) (List.length xs)) && (!(Nat.beq (List.length xs) 0))) && (List.all xs (fun x => ((decide ((OfNat.ofNat 0) ≤ x)) && (decide (x < (OfNat.ofNat 256))))))) && (decide ((List.length xs) ≤ 140737488355328))) && k HX.ret ⟨slots 58 [(2, (HV.v (Value.string (bback xs))))], [(Ob.box 90 (HV.st [(HV.v (Value.string (ByteArray.mk (Array.mk s)))), (HV.v (Value.bool a)), (HV.v (Value.bool w)), (HV.v (Value.bool g))])), (Ob.box 180 (HV.st [(HV.ptr 1 0), (HV.own (Cd.int IntKind.u8) 2 0 (List.length xs))])), (Ob.row (Cd.int IntKind.u8) 1 0 [])]⟩) := by kernel_rfl
theorem o89 (m s s0 : List UInt8) (a w g : Bool) (L : List Ob) (kr : KR) : finK Tryz.prog Tryz.f89 [rdr s0 a w g] kr ⟨slots 58 [(2, tx m)], rdr s a w g :: L⟩ = kr (HR.ret (HV.v (Value.string (ByteArray.mk (Array.mk m))))) [(Ob.box 90 (HV.st [(HV.v (Value.string (ByteArray.mk (Array.mk s)))), (HV.v (Value.bool a)), (HV.v (Value.bool w)), (HV.v (Value.bool g))]))] := by kernel_rfl

/-- What a text in quotes says; what is behind it. -/
def textOf (s : List UInt8) : List UInt8 := (s.drop 1).take ((quotedLen s).toNat - 2)
def behind (s : List UInt8) : List UInt8 := s.drop (quotedLen s).toNat

theorem idxGo_no : ∀ (m : List UInt8) (n : Nat), (∀ x ∈ m, x ≠ 92) → idxGo 92 m n = -1
  | [], _, _ => rfl
  | c :: m, n, h => by
    have hc : (c == 92) = false := by simpa using h c List.mem_cons_self
    simp only [idxGo, hc, cond_false]
    exact idxGo_no m (n + 1) (fun x hx => h x (List.mem_cons_of_mem _ hx))

theorem qOk_take : ∀ (l : List UInt8) (i : Nat), qOk l = true → qLen l i ≠ 0 → ∃ k, qLen l i = ((i + k + 1 : Nat) : Int) ∧ k < l.length ∧ ∀ x ∈ l.take k, x ≠ 92
  | [], i, _, h => by simp [qLen] at h
  | c :: l, i, h, h0 => by
    simp only [qOk, qLen] at h h0 ⊢
    cases h32 : ltI (c.toNat : Int) 32 with
    | true => rw [h32] at h0; simp at h0
    | false =>
      rw [h32] at h h0
      simp only [cond_false] at h h0 ⊢
      cases h34 : decide ((c.toNat : Int) = 34) with
      | true => exact ⟨0, by simp, by simp, by simp⟩
      | false =>
        rw [h34] at h h0
        simp only [cond_false] at h h0 ⊢
        cases h92 : decide ((c.toNat : Int) = 92) with
        | true => rw [h92] at h; cases h
        | false =>
          rw [h92] at h
          simp only [cond_false] at h
          have hi : ((i : Int) + 1) = ((i + 1 : Nat) : Int) := by omega
          rw [hi] at h0 ⊢
          obtain ⟨k, h1, h2, h3⟩ := qOk_take l (i + 1) h h0
          refine ⟨k + 1, by rw [h1]; congr 1; omega, by simp; omega, fun x hx => ?_⟩
          rw [List.take_succ_cons] at hx
          rcases List.mem_cons.1 hx with rfl | hx
          · intro e; subst e; simp at h92
          · exact h3 x hx

/-- What a text in quotes is. -/
theorem quoted_is {s : List UInt8} (hok : quotedOk s = true) (h0 : quotedLen s ≠ 0) : ∃ k, quotedLen s = ((k + 2 : Nat) : Int) ∧ k + 2 ≤ s.length ∧ ∀ x ∈ (s.drop 1).take k, x ≠ 92 := by
  cases s with
  | nil => simp [quotedLen] at h0
  | cons c l =>
    simp only [quotedLen, quotedOk] at hok h0 ⊢
    cases hq : isQ c with
    | false => rw [hq] at h0; simp at h0
    | true =>
      rw [hq] at hok h0
      simp only [cond_true] at hok h0 ⊢
      obtain ⟨k, h1, h2, h3⟩ := qOk_take l 1 hok (by simpa using h0)
      have h1 : qLen l 1 = ((1 + k + 1 : Nat) : Int) := by simpa using h1
      exact ⟨k, by rw [h1]; congr 1; omega, by simp; omega, h3⟩

theorem bsub_from (s : List UInt8) (i j : Nat) : bsub ⟨⟨s⟩⟩ i j = ⟨⟨(s.take j).drop i⟩⟩ := rfl

theorem bback_blist (m : List UInt8) : bback (m.map fun c => ((c.toNat : Nat) : Int)) = ⟨⟨m⟩⟩ := by
  unfold bback
  rw [List.map_map]
  have : ((fun n : Int => UInt8.ofNat n.toNat) ∘ fun c : UInt8 => ((c.toNat : Nat) : Int)) = id := by
    funext c; simp
  rw [this, List.map_id]

theorem code89 : Tryz.f89.body = some (.seq (pc 89 [0]) (.seq (pc 89 [1, 0]) (.seq (pc 89 [1, 1, 0]) (.seq (pc 89 [1, 1, 1, 0]) (.seq (pc 89 [1, 1, 1, 1, 0]) (.seq (.block 0 (.loop (pc 89 [1, 1, 1, 1, 1, 0, 0, 0]))) (pc 89 [1, 1, 1, 1, 1, 1]))))))) := by kernel_rfl
theorem code89b : (pc 89 [1, 1, 1, 1, 1, 0, 0, 0]) = .seq (pc 89 [1, 1, 1, 1, 1, 0, 0, 0, 0]) (.block 1 (.seq (pc 89 [1, 1, 1, 1, 1, 0, 0, 0, 1, 0, 0]) (.seq (pc 89 [1, 1, 1, 1, 1, 0, 0, 0, 1, 0, 1, 0]) (.seq (pc 89 [1, 1, 1, 1, 1, 0, 0, 0, 1, 0, 1, 1, 0]) (.seq (pc 89 [1, 1, 1, 1, 1, 0, 0, 0, 1, 0, 1, 1, 1, 0]) (pc 89 [1, 1, 1, 1, 1, 0, 0, 0, 1, 0, 1, 1, 1, 1])))))) := by kernel_rfl

theorem vw89 (s : List UInt8) (xs : List Int) (a w g : Bool) : vw [] 3 (st89b s [] xs a w g) = st89b s [] xs a w g := by kernel_rfl

theorem do89 {w0 : World} (h0 : H4 w0) {s : List UInt8} {a w g : Bool} {kr : KR} (hs : s.length ≤ B42) (hok : quotedOk s = true) (hq : quotedLen s ≠ 0) (hk : kr (.ret (tx (textOf s))) [rdr (behind s) a w g] = true) : Does Tryz.prog w0 89 [.ptr 0 0] [rdr s a w g] kr := by
  have hG := gamOK9 h0
  have hG2 := gamOK10 h0
  obtain ⟨k, hqk, hks, hno⟩ := quoted_is hok hq
  have e1 : fwrap .i64 (quotedLen s - 1) = ((k + 1 : Nat) : Int) := by rw [hqk, show (((k + 2 : Nat) : Int) - 1) = ((k + 1 : Nat) : Int) by omega]; exact fwrap_i64 (by omega) (by unfold B42 at hs; omega)
  have e2 : textOf s = (s.take (k + 1)).drop 1 := by unfold textOf; rw [hqk, Int.toNat_natCast, List.drop_take]; rfl
  have e3 : behind s = s.drop (k + 2) := by unfold behind; rw [hqk, Int.toNat_natCast]
  have hm : ∀ x ∈ textOf s, x ≠ 92 := by
    unfold textOf; rw [hqk, Int.toNat_natCast]; exact hno
  have hml : (textOf s).length ≤ B42 := by rw [e2]; simp only [List.length_drop, List.length_take]; omega
  refine does_wpA Tryz.func89 code89 (n := 58) (by kernel_rfl) ?_
  refine wpA_seq ((evd_ok hG [0, 2] (a89 s a w g) (yes_mk ?_)).wpA)
  refine wpA_seq ((evd_ok hG [0, 2, 3] (b89 s a w g) ?_).wpA)
  simp only [gd4 hs, hok, Bool.true_and]
  refine yes_mk ?_
  refine wpA_seq ((evd_ok hG [0, 2, 3, 4] (c89 s (quotedLen s) a w g) ?_).wpA)
  rw [e1, decide_eq_true (show (1 : Int) ≤ ((k + 1 : Nat) : Int) by omega), decide_eq_true (show ((k + 1 : Nat) : Int) ≤ ((ByteArray.size ⟨⟨s⟩⟩ : Nat) : Int) by rw [size_bt]; omega), Int.toNat_natCast, bsub_from, ← e2]
  refine yes_mk ?_
  refine wpA_seq ((evd_ok hG [0, 2, 4] (d89 s (textOf s) (quotedLen s) a w g) ?_).wpA)
  simp only [gd5, gd6, gd3, Bool.true_and]
  rw [hqk, Int.toNat_natCast, ← e3]
  refine yes_mk ?_
  refine wpA_seq ((evd_ok hG [0, 2, 4, 5] (e89 (behind s) (textOf s) a w g) (yes_mk ?_)).wpA)
  generalize textOf s = m at hm hml hk
  generalize behind s = s' at hk
  have fin : ∀ st', st' = (⟨slots 58 [(2, tx m)], rdr s' a w g :: st'.L.drop 1⟩ : St) → finK Tryz.prog Tryz.f89 [rdr s a w g] kr st' = true := by
    intro st' he
    rw [he, o89]
    exact hk
  refine wpA_seq (wpA_block ?_)
  cases m with
  | nil =>
    refine wpA_loop (α := Unit) (fun _ => st89 s' [] a w g) (fun _ => 0) (fun _ => ?_) ()
    rw [code89b]
    refine wpA_seq ((evd_ok hG [0, 2, 4, 5] (f89 s' a w g) (yes_mk ?_)).wpA)
    refine (evd_ok hG [2] (m89 s' a w g) (yes_mk ?_)).wpA
    exact fin _ rfl
  | cons c m =>
    have hi := idxGo_no (c :: m) 0 hm
    have hb : bsub ⟨⟨c :: m⟩⟩ 0 (Int.toNat ((ByteArray.size ⟨⟨c :: m⟩⟩ : Nat) : Int)) = ⟨⟨c :: m⟩⟩ := by
      rw [Int.toNat_natCast, size_bt, bsub_from, List.take_of_length_le (Nat.le_refl _)]; rfl
    have hbl : (blist ⟨⟨c :: m⟩⟩).length = (c :: m).length := by simp [blist]
    refine wpA_loop (α := Bool) (fun b => bif b then st89 s' (c :: m) a w g else st89b s' [] (blist ⟨⟨c :: m⟩⟩) a w g) (fun b => bif b then 1 else 0) (fun b => ?_) true
    rw [code89b]
    cases b with
    | false =>
      refine wpA_seq ((evd_ok hG [0, 2, 4, 5] (f89b s' (blist ⟨⟨c :: m⟩⟩) a w g) (yes_mk ?_)).wpA)
      refine (evd_ok hG2 [2] (n89 s' (blist ⟨⟨c :: m⟩⟩) a w g) ?_).wpA
      have f1 : Nat.beq (blist ⟨⟨c :: m⟩⟩).length (blist ⟨⟨c :: m⟩⟩).length = true := Nat.beq_refl _
      have f2 : Nat.beq (blist ⟨⟨c :: m⟩⟩).length 0 = false := by rw [hbl]; rfl
      have f3 : (blist ⟨⟨c :: m⟩⟩).all (fun x => decide (0 ≤ x) && decide (x < 256)) = true := by
        rw [List.all_eq_true]
        intro x hx
        simp only [blist, List.mem_map] at hx
        obtain ⟨b, -, rfl⟩ := hx
        have := b.toNat_lt
        simp; omega
      have f4 : decide ((blist ⟨⟨c :: m⟩⟩).length ≤ 140737488355328) = true := decide_eq_true (by rw [hbl]; unfold B42 at hml; omega)
      have f5 : bback (blist ⟨⟨c :: m⟩⟩) = ⟨⟨c :: m⟩⟩ := bback_blist (c :: m)
      rw [f1, f2, f4, f5]
      rw [show (List.all (blist ⟨⟨c :: m⟩⟩) fun x => decide (OfNat.ofNat 0 ≤ x) && decide (x < OfNat.ofNat 256)) = true from f3]
      exact yes_mk (fin _ rfl)
    | true =>
      refine wpA_seq ((evd_ok hG [0, 2, 4, 5] (g89 s' m c a w g) (yes_mk ?_)).wpA)
      refine wpA_block ?_
      refine wpA_seq ((evd_ok hG [0, 2, 4, 5, 6] (h89 s' (c :: m) a w g) (yes_mk ?_)).wpA)
      rw [hi]
      refine wpA_seq ((evd_ok hG [0, 2, 4, 5, 6] (i89 s' (c :: m) a w g) (yes_mk ?_)).wpA)
      refine wpA_seq ((evd_ok hG [0, 2, 4, 5, 6] (j89 s' (c :: m) ((ByteArray.size ⟨⟨c :: m⟩⟩ : Nat) : Int) a w g) ?_).wpA)
      rw [hb, hbl, gd3, decide_eq_true (show (0 : Int) ≤ ((ByteArray.size ⟨⟨c :: m⟩⟩ : Nat) : Int) by omega), decide_eq_true (show (c :: m).length * 1 ≤ 140737488355328 by unfold B42 at hml; omega)]
      refine yes_mk ?_
      rw [← hbl]
      refine wpA_seq ((evd_ok hG [0, 2, 4, 5] (k89 s' (c :: m) ((ByteArray.size ⟨⟨c :: m⟩⟩ : Nat) : Int) (blist ⟨⟨c :: m⟩⟩) a w g) ?_).wpA)
      rw [gd3, decide_eq_true (show (0 : Int) ≤ ((ByteArray.size ⟨⟨c :: m⟩⟩ : Nat) : Int) by omega), Int.toNat_natCast, show List.drop (ByteArray.size ⟨⟨c :: m⟩⟩) (c :: m) = [] from List.drop_eq_nil_of_le (by rw [size_bt]; exact Nat.le_refl _)]
      refine yes_mk ?_
      refine (evd_ok hG [0, 2, 4, 5] (l89 s' (blist ⟨⟨c :: m⟩⟩) a w g) (yes_mk ?_)).wpA
      exact ⟨false, [], 3, Nat.one_pos, rfl, vw89 s' _ a w g⟩

end Go.Proofs.YtiaeljbnhdhfcaaGreatDoor
