/- Values, memory and how they answer to one another. -/
import Derived.WalkKit
namespace Go.Lx

structure Dec where
  neg : Bool
  digits : ByteArray
  exp : Int

inductive J where
  | mk (kind : Int) (bool : Bool) (num : Dec) (text : ByteArray) (list : List J) (names : List ByteArray)

def J.kind : J → Int | .mk k _ _ _ _ _ => k
def J.bool : J → Bool | .mk _ b _ _ _ _ => b
def J.num : J → Dec | .mk _ _ d _ _ _ => d
def J.text : J → ByteArray | .mk _ _ _ t _ _ => t
def J.list : J → List J | .mk _ _ _ _ l _ => l
def J.names : J → List ByteArray | .mk _ _ _ _ _ n => n

structure Fld where
  name : ByteArray
  type : Int
  has : Bool
  dflt : J

structure Nd where
  kind : Int
  name : ByteArray
  fields : List Fld
  symbols : List ByteArray
  has : Bool
  dflt : ByteArray
  size : Int
  kids : List Int

structure Av where
  nodes : List Nd
  root : Int

structure Im where
  name : ByteArray
  text : ByteArray

inductive Cd where
  | int (k : IntKind) | bool | str | dec | json | fld | nd | av | im | list (c : Cd)
  deriving DecidableEq

@[reducible] def Cd.den : Cd → Type
  | .int _ => Int | .bool => Bool | .str => ByteArray | .dec => Dec | .json => J | .fld => Fld | .nd => Nd | .av => Av | .im => Im
  | .list c => List c.den

def Cd.size : Cd → Nat
  | .dec => 3 | .json => 8 | .fld => 11 | .nd => 8 | .av => 2 | .im => 2 | _ => 1

def Cd.isAgg : Cd → Bool
  | .dec | .json | .fld | .nd | .av | .im => true
  | _ => false

inductive DC where
  | sc (v : Value)
  | sl (sz n : Nat) (cs : List DC)

def scI (n : Int) : DC := .sc (.int .i64 n)
def scS (s : ByteArray) : DC := .sc (.string s)
def scB (b : Bool) : DC := .sc (.bool b)

def encDec (d : Dec) : List DC := [scB d.neg, scS d.digits, scI d.exp]
def encStrs (l : List ByteArray) : DC := .sl 1 l.length (l.flatMap fun s => [scS s])
def encInts (l : List Int) : DC := .sl 1 l.length (l.flatMap fun s => [scI s])

mutual
def encJ : J → List DC
  | .mk k b d t l n => scI k :: scB b :: scB d.neg :: scS d.digits :: scI d.exp :: scS t :: .sl 8 l.length (encJs l) :: encStrs n :: []
def encJs : List J → List DC
  | [] => []
  | j :: js => encJ j ++ encJs js
end

theorem encJs_eq (l : List J) : encJs l = l.flatMap encJ := by
  induction l with
  | nil => simp [encJs]
  | cons j js ih => simp [encJs, ih]

def encFld (f : Fld) : List DC := scS f.name :: scI f.type :: scB f.has :: encJ f.dflt
def encNd (n : Nd) : List DC :=
  [scI n.kind, scS n.name, .sl 11 n.fields.length (n.fields.flatMap encFld), encStrs n.symbols, scB n.has, scS n.dflt, scI n.size, encInts n.kids]
def encAv (a : Av) : List DC := [.sl 8 a.nodes.length (a.nodes.flatMap encNd), scI a.root]
def encIm (a : Im) : List DC := [scS a.name, scS a.text]

def Cd.enc : (c : Cd) → c.den → List DC
  | .int k, n => [.sc (.int k n)]
  | .bool, b => [scB b]
  | .str, s => [scS s]
  | .dec, d => encDec d
  | .json, j => encJ j
  | .fld, f => encFld f
  | .nd, n => encNd n
  | .av, a => encAv a
  | .im, a => encIm a
  | .list c, l => [.sl c.size (l : List c.den).length ((l : List c.den).flatMap (Cd.enc c))]

theorem encJ_length (j : J) : (encJ j).length = 8 := by cases j; simp [encJ]

theorem Cd.enc_length (c : Cd) (x : c.den) : (c.enc x).length = c.size := by
  cases c <;> simp [Cd.enc, Cd.size, encDec, encFld, encNd, encAv, encIm, encJ_length]

/-- A datum with its code. -/
abbrev D := (c : Cd) × c.den

/-- The fields of an aggregate. -/
def Cd.flds : (c : Cd) → c.den → List D
  | .dec, d => [⟨.bool, d.neg⟩, ⟨.str, d.digits⟩, ⟨.int .i64, d.exp⟩]
  | .json, j => [⟨.int .i64, j.kind⟩, ⟨.bool, j.bool⟩, ⟨.dec, j.num⟩, ⟨.str, j.text⟩, ⟨.list .json, j.list⟩, ⟨.list .str, j.names⟩]
  | .fld, f => [⟨.str, f.name⟩, ⟨.int .i64, f.type⟩, ⟨.bool, f.has⟩, ⟨.json, f.dflt⟩]
  | .nd, n => [⟨.int .i64, n.kind⟩, ⟨.str, n.name⟩, ⟨.list .fld, n.fields⟩, ⟨.list .str, n.symbols⟩, ⟨.bool, n.has⟩, ⟨.str, n.dflt⟩, ⟨.int .i64, n.size⟩, ⟨.list (.int .i64), n.kids⟩]
  | .av, a => [⟨.list .nd, a.nodes⟩, ⟨.int .i64, a.root⟩]
  | .im, a => [⟨.str, a.name⟩, ⟨.str, a.text⟩]
  | _, _ => []

/-- An aggregate out of its fields. -/
def Cd.pack : (c : Cd) → List D → Option c.den
  | .dec, [⟨.bool, a⟩, ⟨.str, b⟩, ⟨.int .i64, e⟩] => some ⟨a, b, e⟩
  | .json, [⟨.int .i64, k⟩, ⟨.bool, b⟩, ⟨.dec, d⟩, ⟨.str, t⟩, ⟨.list .json, l⟩, ⟨.list .str, n⟩] => some (.mk k b d t l n)
  | .fld, [⟨.str, n⟩, ⟨.int .i64, t⟩, ⟨.bool, h⟩, ⟨.json, d⟩] => some ⟨n, t, h, d⟩
  | .nd, [⟨.int .i64, k⟩, ⟨.str, n⟩, ⟨.list .fld, f⟩, ⟨.list .str, s⟩, ⟨.bool, h⟩, ⟨.str, d⟩, ⟨.int .i64, z⟩, ⟨.list (.int .i64), c⟩] => some ⟨k, n, f, s, h, d, z, c⟩
  | .av, [⟨.list .nd, n⟩, ⟨.int .i64, r⟩] => some ⟨n, r⟩
  | .im, [⟨.str, n⟩, ⟨.str, t⟩] => some ⟨n, t⟩
  | _, _ => none

theorem Cd.pack_flds {c : Cd} {l : List D} {x : c.den} (h : c.pack l = some x) : c.flds x = l ∧ c.isAgg = true := by
  unfold Cd.pack at h
  split at h <;> first | (cases h; exact ⟨rfl, rfl⟩) | cases h

theorem Cd.enc_flds {c : Cd} (h : c.isAgg = true) (x : c.den) : c.enc x = (c.flds x).flatMap fun s => s.1.enc s.2 := by
  cases c <;> first | (cases h; done) | skip
  · rfl
  · obtain ⟨k, b, d, t, l, n⟩ := x
    simp [Cd.enc, Cd.flds, encJ, J.kind, J.bool, J.num, J.text, J.list, J.names, encDec, Cd.size, encJs_eq, encStrs, scI]
  · simp [Cd.enc, Cd.flds, encFld, scI]
  · simp [Cd.enc, Cd.flds, encNd, scI, Cd.size, encStrs, encInts]
  · simp [Cd.enc, Cd.flds, encAv, scI, Cd.size]
  · rfl

end Go.Lx

namespace Go.Lx
open Go.RowKit

/-- The cells from (b, o) on hold vs. -/
def cellsAt (w : World) (b o : Nat) (vs : List Value) : Prop := ∀ k v, vs[k]? = some v → w.cell? ⟨b, o + k, none⟩ = some v

def immut (I : Nat → Nat → Prop) (b o n : Nat) : Prop := ∀ k, k < n → I b (o + k)

mutual
def relDC (I : Nat → Nat → Prop) (w : World) : DC → Value → Prop
  | .sc x, y => y = x
  | .sl sz n cs, y => (n = 0 ∧ cs = [] ∧ y = .slice none 0 0) ∨
      ∃ b o cap vs, y = .slice (some ⟨b, o, none⟩) n cap ∧ n ≤ cap ∧ vs.length = n * sz ∧ cellsAt w b o vs ∧ immut I b o (n * sz) ∧ relDCs I w cs vs
def relDCs (I : Nat → Nat → Prop) (w : World) : List DC → List Value → Prop
  | [], vs => vs = []
  | c :: cs, vs => ∃ v r, vs = v :: r ∧ relDC I w c v ∧ relDCs I w cs r
end

/-- What no longer turns stays: the cells of I, the maps of I. -/
structure Ext (I : Nat → Nat → Prop) (w : World) (I' : Nat → Nat → Prop) (w' : World) : Prop where
  sub : ∀ b o, I b o → I' b o
  cell : ∀ b o, I b o → w'.cell? ⟨b, o, none⟩ = w.cell? ⟨b, o, none⟩
  mp : ∀ b o es k, I b o → w.heap[b]? = some (.map es k) → w'.heap[b]? = some (.map es k)
  size : w.heap.size ≤ w'.heap.size
  shape : ∀ b e n, w.shape? b = some (e, n) → w'.shape? b = some (e, n)

theorem Ext.refl (I : Nat → Nat → Prop) (w : World) : Ext I w I w := ⟨fun _ _ h => h, fun _ _ _ => rfl, fun _ _ _ _ _ h => h, Nat.le_refl _, fun _ _ _ h => h⟩

theorem Ext.trans {I I' I'' : Nat → Nat → Prop} {w w' w'' : World} (h : Ext I w I' w') (k : Ext I' w' I'' w'') : Ext I w I'' w'' :=
  ⟨fun b o x => k.sub b o (h.sub b o x), fun b o x => (k.cell b o (h.sub b o x)).trans (h.cell b o x), fun b o es n x y => k.mp b o es n (h.sub b o x) (h.mp b o es n x y),
    Nat.le_trans h.size k.size, fun b e n x => k.shape b e n (h.shape b e n x)⟩

theorem cellsAt_ext {I I' : Nat → Nat → Prop} {w w' : World} (h : Ext I w I' w') {b o : Nat} {vs : List Value} (hi : immut I b o vs.length) (hc : cellsAt w b o vs) : cellsAt w' b o vs := by
  intro k v hk
  have hl : k < vs.length := (List.getElem?_eq_some_iff.1 hk).1
  rw [h.cell b (o + k) (hi k hl)]
  exact hc k v hk

theorem immut_ext {I I' : Nat → Nat → Prop} {w w' : World} (h : Ext I w I' w') {b o n : Nat} (hi : immut I b o n) : immut I' b o n := fun k hk => h.sub _ _ (hi k hk)

mutual
theorem relDC_ext {I I' : Nat → Nat → Prop} {w w' : World} (h : Ext I w I' w') : ∀ (c : DC) (y : Value), relDC I w c y → relDC I' w' c y
  | .sc x, y, hr => hr
  | .sl sz n cs, y, hr => by
    simp only [relDC] at hr ⊢
    rcases hr with hr | ⟨b, o, cap, vs, h1, h2, h3, h4, h5, h6⟩
    · exact .inl hr
    · exact .inr ⟨b, o, cap, vs, h1, h2, h3, cellsAt_ext h (by rw [h3]; exact h5) h4, immut_ext h h5, relDCs_ext h cs vs h6⟩
theorem relDCs_ext {I I' : Nat → Nat → Prop} {w w' : World} (h : Ext I w I' w') : ∀ (cs : List DC) (vs : List Value), relDCs I w cs vs → relDCs I' w' cs vs
  | [], vs, hr => by simpa [relDCs] using hr
  | c :: cs, vs, hr => by
    simp only [relDCs] at hr ⊢
    obtain ⟨v, r, h1, h2, h3⟩ := hr
    exact ⟨v, r, h1, relDC_ext h c v h2, relDCs_ext h cs r h3⟩
end

theorem relDCs_length {I : Nat → Nat → Prop} {w : World} : ∀ {cs : List DC} {vs : List Value}, relDCs I w cs vs → vs.length = cs.length
  | [], vs, h => by simp only [relDCs] at h; simp [h]
  | c :: cs, vs, h => by
    simp only [relDCs] at h
    obtain ⟨v, r, rfl, _, h3⟩ := h
    simp [relDCs_length h3]

theorem relDCs_append {I : Nat → Nat → Prop} {w : World} : ∀ {as bs : List DC} {vs : List Value}, relDCs I w (as ++ bs) vs ↔ ∃ x y, vs = x ++ y ∧ relDCs I w as x ∧ relDCs I w bs y
  | [], bs, vs => by
    simp only [List.nil_append, relDCs]
    exact ⟨fun h => ⟨[], vs, rfl, rfl, h⟩, fun ⟨x, y, h, hx, hy⟩ => by subst hx; simp at h; subst h; exact hy⟩
  | a :: as, bs, vs => by
    simp only [List.cons_append, relDCs]
    constructor
    · rintro ⟨v, r, rfl, h2, h3⟩
      obtain ⟨x, y, rfl, hx, hy⟩ := relDCs_append.1 h3
      exact ⟨v :: x, y, rfl, ⟨v, x, rfl, h2, hx⟩, hy⟩
    · rintro ⟨x, y, rfl, ⟨v, r, rfl, h2, h3⟩, hy⟩
      exact ⟨v, r ++ y, rfl, h2, relDCs_append.2 ⟨r, y, rfl, h3, hy⟩⟩

theorem relDCs_sc {I : Nat → Nat → Prop} {w : World} {v : Value} {vs : List Value} : relDCs I w [.sc v] vs ↔ vs = [v] := by
  simp [relDCs, relDC]

/-- One element's cells out of a row of data. -/
theorem relDCs_flat {I : Nat → Nat → Prop} {w : World} {α : Type} {f : α → List DC} {sz : Nat} (hf : ∀ x, (f x).length = sz) :
    ∀ {l : List α} {vs : List Value}, relDCs I w (l.flatMap f) vs → ∀ i x, l[i]? = some x → ∃ a b c, vs = a ++ b ++ c ∧ a.length = i * sz ∧ b.length = sz ∧ relDCs I w (f x) b
  | [], vs, _, i, x, hx => by simp at hx
  | y :: l, vs, h, i, x, hx => by
    simp only [List.flatMap_cons] at h
    obtain ⟨p, q, rfl, hp, hq⟩ := relDCs_append.1 h
    cases i with
    | zero =>
      simp at hx; subst hx
      exact ⟨[], p, q, by simp, by simp, by rw [relDCs_length hp, hf], hp⟩
    | succ i =>
      obtain ⟨a, b, c, rfl, h1, h2, h3⟩ := relDCs_flat hf hq i x (by simpa using hx)
      exact ⟨p ++ a, b, c, by simp, by simp [h1, relDCs_length hp, hf, Nat.add_mul]; omega, h2, h3⟩

/-- What the tmps and the call's own objects hold. -/
inductive HV where
  | v (x : Value)
  | d (c : Cd) (x : c.den)
  | st (fs : List HV)
  | tup (fs : List HV)
  | ptr (id off : Nat)
  | dp (c : Cd) (x : c.den)
  | rp (c : Cd) (id ver i off : Nat)
  | own (c : Cd) (id ver len : Nat)
  | zc
  | map (id : Nat)
  | it (id : Nat)
  | dm (k v : Cd) (es : List (k.den × v.den))
  | fn (f : FuncId) (first cap : List HV)
  | iface (t : TypeId) (h : HV)
  | opt (g : Bool) (h : HV)
  | junk
  deriving Inhabited

inductive Ob where
  | box (t : TypeId) (x : HV)
  | row (c : Cd) (ver fp : Nat) (xs : List c.den)
  | map (k v : Cd) (es : List (k.den × v.den))
  | fmap (es : List (ByteArray × HV))
  | iter (s : ByteArray) (pos : Nat)
  | dead (ver : Nat)

def Ob.ver : Ob → Nat
  | .row _ v _ _ => v
  | .dead v => v
  | _ => 0

structure Env where
  I : Nat → Nat → Prop
  β : Nat → Nat → Option (Nat × Nat)
  L : List Ob
  w : World

/-- Where an object lies now. -/
def Env.at (E : Env) (id : Nat) (o : Ob) : Option (Nat × Nat) := match o with | .dead _ => none | _ => E.β id o.ver

/-- A slice value of an own row: where it lies, and that its room lies in its block. -/
def ownAt (E : Env) (c : Cd) (id ver len : Nat) (y : Value) : Prop :=
  match E.β id ver with
  | none => len = 0 ∧ (y = .slice none 0 0 ∨ ∃ b o, y = .slice (some ⟨b, o, none⟩) 0 0)
  | some (b, o) => ∃ cap e n, y = .slice (some ⟨b, o, none⟩) len cap ∧ len ≤ cap ∧ E.w.shape? b = some (e, n) ∧ o + cap * c.size ≤ n

/-- The entries of a map in memory, over typed keys and values: what they hold, each once. -/
def keyV : (c : Cd) → c.den → Value
  | .int k, n => .int k n
  | .str, s => .string s
  | .bool, b => .bool b
  | _, _ => .nilIface

def entsAre (es : List (Value × Value)) (m : Array MapEntry) : Prop := m.toList.map (fun e => (e.key, e.val)) = es

/-- A value of a tmp, out of what its cells are. -/
def top : HV → (List Value → Prop) → Value → Prop
  | .v x, _, y => y = x
  | .d c _, R, y => if c.isAgg then ∃ vs : List Value, y = .agg vs.toArray ∧ R vs else R [y]
  | .st _, R, y => ∃ vs : List Value, y = .agg vs.toArray ∧ R vs
  | .tup _, R, y => ∃ vs : List Value, y = .tuple vs.toArray ∧ R vs
  | .junk, _, _ => True
  | .opt g h, R, y => (g = true → top h R y) ∧ (g = false → y = undef)
  | _, R, y => R [y]

/-- A handle: the object is there, and of that kind. -/
def isMapOb : Ob → Bool | .map .. => true | .fmap _ => true | _ => false
def isIterOb : Ob → Bool | .iter .. => true | _ => false

mutual
/-- A value's cells. -/
def relF (E : Env) : HV → List Value → Prop
  | .v x, a => a = x.cells.toList
  | .d c x, a => relDCs E.I E.w (c.enc x) a
  | .st gs, a => relSt E gs a
  | .tup gs, a => relAll E gs a
  | .ptr id off, a => ∃ t x b o, E.L[id]? = some (.box t x) ∧ E.β id 0 = some (b, o) ∧ a = [.pointer (some ⟨b, o + off, none⟩)]
  | .dp c x, a => ∃ b o vs, a = [.pointer (some ⟨b, o, none⟩)] ∧ cellsAt E.w b o vs ∧ immut E.I b o vs.length ∧ relDCs E.I E.w (c.enc x) vs
  | .rp c id ver i off, a => ∃ y o, a = [.pointer y] ∧ E.L[id]? = some o ∧ ver ≤ o.ver ∧ (ver = o.ver → ∃ fp xs, o = .row c ver fp xs ∧ ∃ b p, E.β id ver = some (b, p) ∧ y = some ⟨b, p + (i * c.size + off), none⟩)
  | .own c id ver len, a => ∃ q l k o, a = [.slice q l k] ∧ E.L[id]? = some o ∧ ver ≤ o.ver ∧ (ver = o.ver → ∃ fp xs, o = .row c ver fp xs ∧ ownAt E c id ver len (.slice q l k))
  | .zc, a => ∃ b o, a = [.slice (some ⟨b, o, none⟩) 0 0]
  | .map id, a => ∃ o b p, E.L[id]? = some o ∧ isMapOb o = true ∧ E.β id 0 = some (b, p) ∧ a = [.map (some b)]
  | .it id, a => ∃ o b p, E.L[id]? = some o ∧ isIterOb o = true ∧ E.β id 0 = some (b, p) ∧ a = [.pointer (some ⟨b, 0, none⟩)]
  | .dm k v es, a => ∃ b ents clock, a = [.map (some b)] ∧ E.w.heap[b]? = some (.map ents clock) ∧ E.I b 0 ∧ entsAre (es.map fun e => (keyV k e.1, keyV v e.2)) ents
  | .fn f fst cap, a => ∃ fs cs : List Value, a = [.func (.func f) fs.toArray cs.toArray] ∧ relAll E fst fs ∧ relAll E cap cs
  | .iface t h, a => ∃ z, a = [.iface t z] ∧ top h (relF E h) z
  | .opt _ h, a => relF E h a
  | .junk, a => ∃ y, a = [y]
/-- The fields of an aggregate, over its cells. -/
def relSt (E : Env) : List HV → List Value → Prop
  | [], vs => vs = []
  | f :: fs, vs => ∃ a b, vs = a ++ b ∧ relF E f a ∧ relSt E fs b
def relAll (E : Env) : List HV → List Value → Prop
  | [], vs => vs = []
  | f :: fs, vs => ∃ a b, vs = a :: b ∧ top f (relF E f) a ∧ relAll E fs b
end

def relHV (E : Env) (f : HV) (y : Value) : Prop := top f (relF E f) y

theorem top_mono {R R' : List Value → Prop} (h : ∀ vs, R vs → R' vs) : ∀ {f : HV} {y : Value}, top f R y → top f R' y
  | .v _, _, k => k
  | .d c x, y, k => by
    simp only [top] at k ⊢
    split at k
    · rename_i hc; rw [if_pos hc]; obtain ⟨vs, e, r⟩ := k; exact ⟨vs, e, h _ r⟩
    · rename_i hc; rw [if_neg hc]; exact h _ k
  | .st _, _, ⟨vs, e, r⟩ => ⟨vs, e, h _ r⟩
  | .tup _, _, ⟨vs, e, r⟩ => ⟨vs, e, h _ r⟩
  | .opt _ f, _, ⟨k, l⟩ => ⟨fun e => top_mono h (f := f) (k e), l⟩
  | .junk, _, _ => trivial
  | .ptr .., _, k => h _ k
  | .dp .., _, k => h _ k
  | .rp .., _, k => h _ k
  | .own .., _, k => h _ k
  | .zc, _, k => h _ k
  | .map _, _, k => h _ k
  | .it _, _, k => h _ k
  | .dm .., _, k => h _ k
  | .fn .., _, k => h _ k
  | .iface .., _, k => h _ k

end Go.Lx

namespace Go.Lx
open Go.RowKit

def Ob.isDead : Ob → Bool | .dead _ => true | _ => false

/-- Block b is one of the call's own. -/
def Env.owns (E : Env) (b : Nat) : Prop := ∃ i o p, E.L[i]? = some o ∧ o.isDead = false ∧ E.β i o.ver = some (b, p)

structure SameKind (o o' : Ob) : Prop where
  ver : o.ver ≤ o'.ver
  box : ∀ t x, o = .box t x → ∃ x', o' = .box t x'
  row : ∀ c v f xs, o = .row c v f xs → ∃ v' f' xs', o' = .row c v' f' xs'
  map : isMapOb o = true → isMapOb o' = true
  iter : isIterOb o = true → isIterOb o' = true

theorem SameKind.refl (o : Ob) : SameKind o o := ⟨Nat.le_refl _, fun _ x h => ⟨x, h⟩, fun _ v f xs h => ⟨v, f, xs, h⟩, fun h => h, fun h => h⟩

theorem SameKind.trans {o o' o'' : Ob} (h : SameKind o o') (k : SameKind o' o'') : SameKind o o'' := by
  refine ⟨Nat.le_trans h.ver k.ver, fun t x e => ?_, fun c v f xs e => ?_, fun e => k.map (h.map e), fun e => k.iter (h.iter e)⟩
  · obtain ⟨x', e'⟩ := h.box t x e
    exact k.box t x' e'
  · obtain ⟨v', f', xs', e'⟩ := h.row c v f xs e
    exact k.row c v' f' xs' e'

structure Mod (E E' : Env) : Prop where
  ext : Ext E.I E.w E'.I E'.w
  m1 : ∀ b, b < E.w.heap.size → ¬ E.owns b → E'.w.heap[b]? = E.w.heap[b]?
  m2 : ∀ b, E'.owns b → E.owns b ∨ E.w.heap.size ≤ b
  m3 : ∀ b o, E'.I b o → E.I b o ∨ E.w.heap.size ≤ b ∨ E.owns b
  m4 : ∀ i o, E.L[i]? = some o → ∃ o', E'.L[i]? = some o' ∧ SameKind o o' ∧ ∀ v, v ≤ o.ver → E'.β i v = E.β i v
  os : E'.w.os = E.w.os
  tape : E'.w.tape = E.w.tape
  output : E'.w.output = E.w.output

theorem Mod.refl (E : Env) : Mod E E :=
  ⟨Ext.refl _ _, fun _ _ _ => rfl, fun _ h => .inl h, fun _ _ h => .inl h, fun _ o h => ⟨o, h, SameKind.refl o, fun _ _ => rfl⟩, rfl, rfl, rfl⟩

theorem Mod.trans {E E' E'' : Env} (h : Mod E E') (k : Mod E' E'') : Mod E E'' := by
  have hs := h.ext.size
  refine ⟨h.ext.trans k.ext, fun b hb ho => ?_, fun b hb => ?_, fun b o hi => ?_, fun i o hi => ?_, k.os.trans h.os, k.tape.trans h.tape, k.output.trans h.output⟩
  · rw [k.m1 b (by omega) (fun h' => by rcases h.m2 b h' with h' | h'; exact ho h'; omega)]
    exact h.m1 b hb ho
  · rcases k.m2 b hb with h' | h'
    · exact h.m2 b h'
    · exact .inr (by omega)
  · rcases k.m3 b o hi with h' | h' | h'
    · exact h.m3 b o h'
    · exact .inr (.inl (by omega))
    · rcases h.m2 b h' with h' | h'
      · exact .inr (.inr h')
      · exact .inr (.inl h')
  · obtain ⟨o', h1, h2, h3⟩ := h.m4 i o hi
    obtain ⟨o'', k1, k2, k3⟩ := k.m4 i o' h1
    exact ⟨o'', k1, h2.trans k2, fun v hv => (k3 v (Nat.le_trans hv h2.ver)).trans (h3 v hv)⟩

theorem ownAt_mod {E E' : Env} (m : Mod E E') {c : Cd} {id ver len : Nat} {y : Value} (hb : E'.β id ver = E.β id ver) (h : ownAt E c id ver len y) : ownAt E' c id ver len y := by
  unfold ownAt at h ⊢
  rw [hb]
  split <;> rename_i hc <;> simp only [hc] at h
  · exact h
  · obtain ⟨cap, e, n, h1, h2, h3, h4⟩ := h
    exact ⟨cap, e, n, h1, h2, m.ext.shape _ _ _ h3, h4⟩

mutual
theorem relF_mod {E E' : Env} (m : Mod E E') : ∀ (f : HV) (a : List Value), relF E f a → relF E' f a
  | .v x, a, h => h
  | .d c x, a, h => by simp only [relF] at h ⊢; exact relDCs_ext m.ext _ _ h
  | .st gs, a, h => by simp only [relF] at h ⊢; exact relSt_mod m gs a h
  | .tup gs, a, h => by simp only [relF] at h ⊢; exact relAll_mod m gs a h
  | .ptr id off, a, h => by
    simp only [relF] at h ⊢
    obtain ⟨t, x, b, o, h1, h2, h3⟩ := h
    obtain ⟨o', k1, k2, k3⟩ := m.m4 _ _ h1
    obtain ⟨x', rfl⟩ := k2.box t x rfl
    exact ⟨t, x', b, o, k1, (k3 0 (Nat.zero_le _)).trans h2, h3⟩
  | .dp c x, a, h => by
    simp only [relF] at h ⊢
    obtain ⟨b, o, vs, h1, h2, h3, h4⟩ := h
    exact ⟨b, o, vs, h1, cellsAt_ext m.ext h3 h2, immut_ext m.ext h3, relDCs_ext m.ext _ _ h4⟩
  | .rp c id ver i off, a, h => by
    simp only [relF] at h ⊢
    obtain ⟨y, o, h1, h2, h3, h4⟩ := h
    obtain ⟨o', k1, k2, k3⟩ := m.m4 _ _ h2
    refine ⟨y, o', h1, k1, Nat.le_trans h3 k2.ver, fun e => ?_⟩
    have e1 : ver = o.ver := by have := k2.ver; omega
    obtain ⟨fp, xs, ho, b, p, hb, hy⟩ := h4 e1
    obtain ⟨v', f', xs', ho'⟩ := k2.row c ver fp xs ho
    have e2 : v' = ver := by rw [ho'] at e; exact e.symm
    subst e2
    exact ⟨f', xs', ho', b, p, (k3 v' (by omega)).trans hb, hy⟩
  | .own c id ver len, a, h => by
    simp only [relF] at h ⊢
    obtain ⟨q, l, k, o, h1, h2, h3, h4⟩ := h
    obtain ⟨o', k1, k2, k3⟩ := m.m4 _ _ h2
    refine ⟨q, l, k, o', h1, k1, Nat.le_trans h3 k2.ver, fun e => ?_⟩
    have e1 : ver = o.ver := by have := k2.ver; omega
    obtain ⟨fp, xs, ho, hy⟩ := h4 e1
    obtain ⟨v', f', xs', ho'⟩ := k2.row c ver fp xs ho
    have e2 : v' = ver := by rw [ho'] at e; exact e.symm
    subst e2
    exact ⟨f', xs', ho', ownAt_mod m (k3 v' (by omega)) hy⟩
  | .zc, a, h => h
  | .map id, a, h => by
    simp only [relF] at h ⊢
    obtain ⟨o, b, p, h1, h2, h3, h4⟩ := h
    obtain ⟨o', k1, k2, k3⟩ := m.m4 _ _ h1
    exact ⟨o', b, p, k1, k2.map h2, (k3 0 (Nat.zero_le _)).trans h3, h4⟩
  | .it id, a, h => by
    simp only [relF] at h ⊢
    obtain ⟨o, b, p, h1, h2, h3, h4⟩ := h
    obtain ⟨o', k1, k2, k3⟩ := m.m4 _ _ h1
    exact ⟨o', b, p, k1, k2.iter h2, (k3 0 (Nat.zero_le _)).trans h3, h4⟩
  | .dm k v es, a, h => by
    simp only [relF] at h ⊢
    obtain ⟨b, ents, clock, h1, h2, h3, h4⟩ := h
    exact ⟨b, ents, clock, h1, m.ext.mp _ _ _ _ h3 h2, m.ext.sub _ _ h3, h4⟩
  | .fn f fst cap, a, h => by
    simp only [relF] at h ⊢
    obtain ⟨fs, cs, h1, h2, h3⟩ := h
    exact ⟨fs, cs, h1, relAll_mod m fst fs h2, relAll_mod m cap cs h3⟩
  | .iface t g, a, h => by
    simp only [relF] at h ⊢
    obtain ⟨z, h1, h2⟩ := h
    exact ⟨z, h1, top_mono (fun vs => relF_mod m g vs) h2⟩
  | .opt _ g, a, h => by simp only [relF] at h ⊢; exact relF_mod m g a h
  | .junk, a, h => h
theorem relSt_mod {E E' : Env} (m : Mod E E') : ∀ (fs : List HV) (a : List Value), relSt E fs a → relSt E' fs a
  | [], a, h => h
  | f :: fs, vs, h => by
    simp only [relSt] at h ⊢
    obtain ⟨a, b, h1, h2, h3⟩ := h
    exact ⟨a, b, h1, relF_mod m f a h2, relSt_mod m fs b h3⟩
theorem relAll_mod {E E' : Env} (m : Mod E E') : ∀ (fs : List HV) (a : List Value), relAll E fs a → relAll E' fs a
  | [], a, h => h
  | f :: fs, vs, h => by
    simp only [relAll] at h ⊢
    obtain ⟨a, b, h1, h2, h3⟩ := h
    exact ⟨a, b, h1, top_mono (fun vs => relF_mod m f vs) h2, relAll_mod m fs b h3⟩
end

theorem relHV_mod {E E' : Env} (m : Mod E E') {f : HV} {y : Value} (h : relHV E f y) : relHV E' f y := top_mono (fun vs => relF_mod m f vs) h

/-- A row of bytes lies in a block of bytes, from its beginning. -/
def u8e (c : Cd) (e : TypeId) (p : Nat) : Prop := c = .int .u8 → e = 5 ∧ p = 0

/-- An object, in memory. -/
def relOb (E : Env) (id : Nat) : Ob → Prop
  | .box t x => ∃ b vs, E.β id 0 = some (b, 0) ∧ E.w.heap[b]? = some (.cells vs.toArray t (0, 0)) ∧ relF E x vs ∧ ∀ o, ¬ E.I b o
  | .row c ver fp xs => fp ≤ xs.length ∧ match E.β id ver with
    | none => xs = []
    | some (b, p) => ∃ C e lo hi vs, E.w.heap[b]? = some (.cells C e (lo, hi)) ∧ (lo = hi ∨ C.size ≤ lo) ∧ relDCs E.I E.w (xs.flatMap c.enc) vs ∧
        cellsAt E.w b p vs ∧ p + vs.length ≤ C.size ∧ (∀ o, E.I b o → o < p + fp * c.size) ∧ u8e c e p
  | .map k v es => ∃ b ents clock, E.β id 0 = some (b, 0) ∧ E.w.heap[b]? = some (.map ents clock) ∧ entsAre (es.map fun e => (keyV k e.1, keyV v e.2)) ents ∧ ∀ o, ¬ E.I b o
  | .fmap es => ∃ b ents clock, E.β id 0 = some (b, 0) ∧ E.w.heap[b]? = some (.map ents clock) ∧ (∀ o, ¬ E.I b o) ∧
      ents.toList.map (·.key) = es.map (fun e => .string e.1) ∧ relAll E (es.map (·.2)) (ents.toList.map (·.val))
  | .iter s pos => ∃ b, E.β id 0 = some (b, 0) ∧ E.w.heap[b]? = some (.stringIter s pos) ∧ ∀ o, ¬ E.I b o
  | .dead _ => True

/-- The temporaries: a tree by number. -/
inductive Tr where
  | nil
  | node (h : HV) (l r : Tr)

def Tr.get : Tr → Nat → HV
  | .nil, _ => .junk
  | .node h l r, i => bif Nat.beq i 0 then h else bif Nat.beq (i % 2) 1 then l.get (i / 2) else r.get (i / 2 - 1)

def Tr.put : Nat → Tr → Nat → HV → Tr
  | 0, t, _, _ => t
  | f + 1, .nil, i, h => bif Nat.beq i 0 then .node h .nil .nil else bif Nat.beq (i % 2) 1 then .node .junk (Tr.put f .nil (i / 2) h) .nil else .node .junk .nil (Tr.put f .nil (i / 2 - 1) h)
  | f + 1, .node x l r, i, h => bif Nat.beq i 0 then .node h l r else bif Nat.beq (i % 2) 1 then .node x (Tr.put f l (i / 2) h) r else .node x l (Tr.put f r (i / 2 - 1) h)

theorem beq_ff {a b : Nat} (h : a ≠ b) : Nat.beq a b = false := by
  cases hb : Nat.beq a b with
  | false => rfl
  | true => exact absurd (Nat.eq_of_beq_eq_true hb) h

theorem blt_ff {a b : Nat} (h : ¬ a < b) : Nat.blt a b = false := by
  cases hb : Nat.blt a b with
  | false => rfl
  | true => exact absurd (by simpa using hb) h

theorem Tr.get_put : ∀ (f : Nat) (t : Tr) (i j : Nat) (h : HV), i + 1 < 2 ^ f → (Tr.put f t i h).get j = if j = i then h else t.get j
  | 0, t, i, j, h, hi => by simp at hi
  | f + 1, t, i, j, h, hi => by
    have h2 : 2 ^ (f + 1) = 2 * 2 ^ f := by rw [Nat.pow_succ, Nat.mul_comm]
    have key : ∀ (x : HV) (l r : Tr), (bif Nat.beq i 0 then Tr.node h l r else bif Nat.beq (i % 2) 1 then Tr.node x (Tr.put f l (i / 2) h) r else Tr.node x l (Tr.put f r (i / 2 - 1) h)).get j = if j = i then h else (Tr.node x l r).get j := by
      intro x l r
      by_cases h0 : i = 0
      · subst h0
        by_cases hj : j = 0
        · subst hj; simp [Tr.get]
        · have : Nat.beq j 0 = false := beq_ff hj
          simp [Tr.get, hj, this]
      · have e0 : Nat.beq i 0 = false := beq_ff h0
        by_cases h1 : i % 2 = 1
        · have e1 : Nat.beq (i % 2) 1 = true := by simpa using h1
          simp only [e0, e1, cond_false, cond_true, Tr.get]
          by_cases hj0 : j = 0
          · subst hj0; simp [Ne.symm h0]
          · have f0 : Nat.beq j 0 = false := beq_ff hj0
            by_cases hj1 : j % 2 = 1
            · have f1 : Nat.beq (j % 2) 1 = true := by simpa using hj1
              simp only [f0, f1, cond_false, cond_true]
              rw [Tr.get_put f l (i / 2) (j / 2) h (by omega)]
              by_cases hij : j = i
              · subst hij; simp
              · rw [if_neg (by omega), if_neg hij]
            · have f1 : Nat.beq (j % 2) 1 = false := beq_ff hj1
              simp only [f0, f1, cond_false]
              rw [if_neg (by omega)]
        · have e1 : Nat.beq (i % 2) 1 = false := beq_ff h1
          simp only [e0, e1, cond_false, Tr.get]
          by_cases hj0 : j = 0
          · subst hj0; simp [Ne.symm h0]
          · have f0 : Nat.beq j 0 = false := beq_ff hj0
            by_cases hj1 : j % 2 = 1
            · have f1 : Nat.beq (j % 2) 1 = true := by simpa using hj1
              simp only [f0, f1, cond_false, cond_true]
              rw [if_neg (by omega)]
            · have f1 : Nat.beq (j % 2) 1 = false := beq_ff hj1
              simp only [f0, f1, cond_false]
              rw [Tr.get_put f r (i / 2 - 1) (j / 2 - 1) h (by omega)]
              by_cases hij : j = i
              · subst hij; simp
              · rw [if_neg (by omega), if_neg hij]
    cases t with
    | nil =>
      have := key .junk .nil .nil
      simp only [Tr.put]
      rw [this]
      by_cases hij : j = i
      · simp [hij]
      · rw [if_neg hij, if_neg hij]
        simp only [Tr.get]
        cases Nat.beq j 0 <;> cases Nat.beq (j % 2) 1 <;> rfl
    | node x l r => exact key x l r

structure Tm where
  n : Nat
  T : Tr

def Tm.e : Tm := ⟨0, .nil⟩
def Tm.get (M : Tm) (i : Nat) : HV := M.T.get i
def Tm.put (M : Tm) (i : Nat) (h : HV) : Tm := bif Nat.blt i 4000 then (bif Nat.blt i M.n then ⟨M.n, M.T.put 12 i h⟩ else M) else ⟨M.n, .nil⟩

/-- The temporaries of the machine are those. -/
structure relT (E : Env) (M : Tm) (t : List Value) : Prop where
  n : M.n = t.length
  get : ∀ i, relHV E (M.get i) (t.getD i undef)

theorem relT_mod {E E' : Env} (m : Mod E E') {M : Tm} {t : List Value} (h : relT E M t) : relT E' M t := ⟨h.n, fun i => relHV_mod m (h.get i)⟩

theorem relT_e (E : Env) : relT E Tm.e [] := ⟨rfl, fun _ => trivial⟩

theorem relT_put {E : Env} {M : Tm} {t : List Value} (h : relT E M t) (i : Nat) {x : HV} {y : Value} (hr : relHV E x y) : relT E (M.put i x) (t.set i y) := by
  unfold Tm.put
  by_cases h1 : i < 4000
  · have e1 : Nat.blt i 4000 = true := by simpa using h1
    simp only [e1, cond_true]
    by_cases h2 : i < M.n
    · have e2 : Nat.blt i M.n = true := by simpa using h2
      simp only [e2, cond_true]
      refine ⟨by simp [h.n], fun j => ?_⟩
      simp only [Tm.get]
      rw [Tr.get_put 12 _ i j x (by omega)]
      by_cases hij : j = i
      · subst hij
        have : j < t.length := by rw [← h.n]; exact h2
        rw [if_pos rfl]
        simp [List.getD_eq_getElem?_getD, List.getElem?_set_self this]
        exact hr
      · rw [if_neg hij]
        simp only [List.getD_eq_getElem?_getD, List.getElem?_set_ne (Ne.symm hij)]
        have := h.get j
        rw [List.getD_eq_getElem?_getD] at this
        exact this
    · have e2 : Nat.blt i M.n = false := blt_ff h2
      simp only [e2, cond_false]
      rw [List.set_eq_of_length_le (by rw [← h.n]; omega)]
      exact h
  · have e1 : Nat.blt i 4000 = false := blt_ff h1
    simp only [e1, cond_false]
    exact ⟨by simp [h.n], fun _ => trivial⟩

structure St where
  tmps : Tm
  L : List Ob

/-- The state of the machine is what the abstract state says; w0: the world in which the whole began. -/
structure Sim (w0 : World) (E : Env) (st : St) (t : List Value) : Prop where
  L : E.L = st.L
  tm : relT E st.tmps t
  ob : ∀ i o, E.L[i]? = some o → relOb E i o
  inj : ∀ i j o o' b p p', E.L[i]? = some o → E.L[j]? = some o' → o.isDead = false → o'.isDead = false → E.β i o.ver = some (b, p) → E.β j o'.ver = some (b, p') → i = j
  old : ∀ b, E.owns b → w0.heap.size ≤ b
  below : Below w0.heap.size w0 E.w
  Ilt : ∀ b o, E.I b o → b < E.w.heap.size

theorem below_of_mod {w0 : World} {E E' : Env} (m : Mod E E') (hb : Below w0.heap.size w0 E.w) (ho : ∀ b, E.owns b → w0.heap.size ≤ b) : Below w0.heap.size w0 E'.w := by
  refine ⟨m.os.trans hb.os, m.tape.trans hb.tape, m.output.trans hb.output, Nat.le_trans hb.size m.ext.size, fun k hk => ?_⟩
  rw [m.m1 k (by have := hb.size; omega) (fun h => by have := ho k h; omega)]
  exact hb.block k hk

theorem old_of_mod {w0 : World} {E E' : Env} (m : Mod E E') (hb : Below w0.heap.size w0 E.w) (ho : ∀ b, E.owns b → w0.heap.size ≤ b) : ∀ b, E'.owns b → w0.heap.size ≤ b := by
  intro b h
  rcases m.m2 b h with h | h
  · exact ho b h
  · have := hb.size; omega

end Go.Lx

namespace Go.Lx
open Go.RowKit

def Cd.dflt : (c : Cd) → c.den
  | .int _ => (0 : Int)
  | .bool => false
  | .str => ByteArray.empty
  | .dec => ⟨false, ByteArray.empty, 0⟩
  | .json => .mk 0 false ⟨false, ByteArray.empty, 0⟩ ByteArray.empty [] []
  | .fld => ⟨ByteArray.empty, 0, false, .mk 0 false ⟨false, ByteArray.empty, 0⟩ ByteArray.empty [] []⟩
  | .nd => ⟨0, ByteArray.empty, [], [], false, ByteArray.empty, 0, []⟩
  | .av => ⟨[], 0⟩
  | .im => ⟨ByteArray.empty, ByteArray.empty⟩
  | .list _ => []

instance (c : Cd) : Inhabited c.den := ⟨c.dflt⟩

/-- What a computation answers that only looks at the program. -/
def pureOf {α : Type} (P : Program) : Sem α → Option α
  | .pure a => some a
  | .program k => pureOf P (k P)
  | _ => none

/-! Texts -/
def bsub (s : ByteArray) (l h : Nat) : ByteArray := ⟨((s.data.toList.take h).drop l).toArray⟩
def bcat (a b : ByteArray) : ByteArray := ⟨(a.data.toList ++ b.data.toList).toArray⟩
def beqS (a b : ByteArray) : Bool := a.data.toList == b.data.toList
def bget (s : ByteArray) (i : Nat) : Int := ((s.data.toList.getD i 0).toNat : Int)
def blist (s : ByteArray) : List Int := s.data.toList.map fun b => (b.toNat : Int)
def bback (l : List Int) : ByteArray := ⟨(l.map fun n => UInt8.ofNat n.toNat).toArray⟩

/-! Types -/
def sizeT (P : Program) (t : TypeId) : Nat := match P.info? t with | some i => i.size | none => 0
def bytesT (P : Program) (t : TypeId) : Nat := match P.info? t with | some i => i.bytes | none => 0
def aggT (P : Program) (t : TypeId) : Bool := match P.underlying t with | some (.struct _) => true | some (.array _ _) => true | _ => false
def okT (P : Program) (t : TypeId) : Bool := (P.underlying t).isSome
def structT (P : Program) (t : TypeId) : Option (Array Field) := match P.underlying t with | some (.struct fs) => some fs | _ => none
def offT (P : Program) (s : TypeId) (f : Nat) : Option Nat :=
  match structT P s with
  | some fs => match fs[f]? with
    | some fd => match P.info? fd.type with
      | some i => if i.size = 0 then none else some fd.offset
      | none => none
    | none => none
  | none => none
def elemT (P : Program) (t : TypeId) : Option TypeId := match P.underlying t with | some (.slice e) => some e | _ => none

/-- Which types of the program are which data. -/
def tcode (P : Program) : Nat → TypeId → Option Cd
  | 0, _ => none
  | n + 1, t =>
    match t with
    | 40 => some .dec | 43 => some .json | 45 => some .fld | 37 => some .nd | 27 => some .av | 69 => some .im
    | _ => match P.underlying t with
      | some (.int k) => some (.int k)
      | some .bool => some .bool
      | some .string => some .str
      | some (.slice e) => (tcode P n e).map .list
      | _ => none

/-! Values -/
def ofD : D → HV
  | ⟨.int k, n⟩ => .v (.int k n)
  | ⟨.bool, b⟩ => .v (.bool b)
  | ⟨.str, s⟩ => .v (.string s)
  | ⟨c, x⟩ => .d c x

mutual
def HV.width : HV → Nat
  | .d c _ => c.size
  | .st fs => widths fs
  | .v x => x.cells.size
  | .tup fs => fs.length
  | .opt _ h => h.width
  | _ => 1
def widths : List HV → Nat
  | [] => 0
  | f :: fs => f.width + widths fs
end

def HV.aggr : HV → Bool
  | .d c _ => c.isAgg
  | .st _ => true
  | .v (.agg _) => true
  | _ => false

def getGo (f : HV → Nat → Bool → Nat → Option HV) : List HV → Nat → Bool → Nat → Option HV
  | [], _, _, _ => none
  | h :: fs, off, agg, sz => if off < h.width then f h off agg sz else getGo f fs (off - h.width) agg sz

/-- The part of an aggregate that lies at a cell. -/
def getAt : Nat → HV → Nat → Bool → Nat → Option HV
  | 0, _, _, _, _ => none
  | n + 1, h, off, agg, sz =>
    if off = 0 ∧ h.width = sz ∧ h.aggr = agg then some h else
    match h with
    | .st fs => getGo (getAt n) fs off agg sz
    | .d c x => if c.isAgg then getGo (getAt n) ((c.flds x).map ofD) off agg sz else none
    | _ => none

def getAt.go (n : Nat) : List HV → Nat → Bool → Nat → Option HV := getGo (getAt n)

def setGo (f : HV → Nat → Bool → Nat → HV → Option HV) : List HV → Nat → Bool → Nat → HV → Option (List HV)
  | [], _, _, _, _ => none
  | h :: fs, off, agg, sz, x => if off < h.width then (f h off agg sz x).map (· :: fs) else (setGo f fs (off - h.width) agg sz x).map (h :: ·)

/-- An aggregate with another part at a cell. -/
def setAt : Nat → HV → Nat → Bool → Nat → HV → Option HV
  | 0, _, _, _, _, _ => none
  | n + 1, h, off, agg, sz, x =>
    if off = 0 ∧ h.width = sz ∧ h.aggr = agg then some x else
    match h with
    | .st fs => (setGo (setAt n) fs off agg sz x).map .st
    | .d c y => if c.isAgg then (setGo (setAt n) ((c.flds y).map ofD) off agg sz x).map .st else none
    | _ => none

def setAt.go (n : Nat) : List HV → Nat → Bool → Nat → HV → Option (List HV) := setGo (setAt n)

def Cd.fcodes : Cd → List Cd
  | .dec => [.bool, .str, .int .i64]
  | .json => [.int .i64, .bool, .dec, .str, .list .json, .list .str]
  | .fld => [.str, .int .i64, .bool, .json]
  | .nd => [.int .i64, .str, .list .fld, .list .str, .bool, .str, .int .i64, .list (.int .i64)]
  | .av => [.list .nd, .int .i64]
  | .im => [.str, .str]
  | _ => []

def valGo (f : (c : Cd) → List Value → Option (c.den × List Value)) : List Cd → List Value → Option (List D × List Value)
  | [], vs => some ([], vs)
  | c :: cs, vs => match f c vs with
    | some (x, r) => match valGo f cs r with
      | some (l, r') => some (⟨c, x⟩ :: l, r')
      | none => none
    | none => none

/-- Data out of literal cells. -/
def valD : Nat → (c : Cd) → List Value → Option (c.den × List Value)
  | 0, _, _ => none
  | n + 1, c, vs => match c, vs with
    | .int k, .int k' x :: r => if k = k' then some (x, r) else none
    | .bool, .bool b :: r => some (b, r)
    | .str, .string s :: r => some (s, r)
    | .list _, .slice none 0 0 :: r => some ([], r)
    | c, vs => match valGo (valD n) c.fcodes vs with
      | some (l, r) => match c.pack l with | some x => some (x, r) | none => none
      | none => none

def valD.go (n : Nat) : List Cd → List Value → Option (List D × List Value) := valGo (valD n)

mutual
/-- A value as data of a code. -/
def toD : (want : Cd) → HV → Option want.den
  | .int k, .v (.int k' n) => if k = k' then some n else none
  | .bool, .v (.bool b) => some b
  | .str, .v (.string s) => some s
  | .list _, .v (.slice none 0 0) => some []
  | want, .v (.agg vs) => match valD 6 want vs.toList with | some (x, []) => some x | _ => none
  | want, .d c x => if h : c = want then some (h ▸ x) else none
  | want, .st fs => match toDs want.fcodes fs with | some l => want.pack l | none => none
  | _, _ => none
def toDs : List Cd → List HV → Option (List D)
  | [], [] => some []
  | c :: cs, f :: fs => match toD c f with
    | some x => match toDs cs fs with
      | some l => some (⟨c, x⟩ :: l)
      | none => none
    | none => none
  | _, _ => none
end

mutual
/-- Own rows, from id m on, inside a value told as data: what they hold lasts from then on. The Bool: it may be. -/
def snap (m : Nat) : HV → List Ob → Bool × HV × List Ob
  | .own c id ver len, L => bif decide (id < m) then (true, .own c id ver len, L) else match L[id]? with
    | some (.row c' ver' fp xs) => if ver = ver' then (decide (len ≤ xs.length), .d (.list c') (xs.take len), L.set id (.row c' ver' (max fp len) xs)) else (false, .own c id ver len, L)
    | _ => (false, .own c id ver len, L)
  | .st fs, L => let r := snaps m fs L; (r.1, .st r.2.1, r.2.2)
  | .tup fs, L => let r := snaps m fs L; (r.1, .tup r.2.1, r.2.2)
  | h, L => (true, h, L)
def snaps (m : Nat) : List HV → List Ob → Bool × List HV × List Ob
  | [], L => (true, [], L)
  | f :: fs, L => let r := snap m f L; let q := snaps m fs r.2.2; (r.1 && q.1, r.2.1 :: q.2.1, q.2.2)
end

/-- A number, a text, a bool. -/
def scD : (c : Cd) → HV → Option c.den
  | .int k, .v (.int k' n) => if k = k' then some n else none
  | .bool, .v (.bool b) => some b
  | .str, .v (.string s) => some s
  | _, _ => none

/-- The zero value of a type, by its fields; the cells that it has. -/
def zeroHV (P : Program) : Nat → TypeId → HV
  | 0, _ => .junk
  | n + 1, t => match structT P t with
    | some fs => .st (fs.toList.map fun f => zeroHV P n f.type)
    | none => match P.info? t with
      | some i => match i.zero with | some v => .v v | none => .junk
      | none => .junk

def eqV : Value → Value → Bool
  | .int k n, .int k' n' => k = k' && n == n'
  | .bool a, .bool b => a == b
  | .string a, .string b => beqS a b
  | .slice none 0 0, .slice none 0 0 => true
  | .pointer none, .pointer none => true
  | .nilIface, .nilIface => true
  | .nilFunc, .nilFunc => true
  | .map none, .map none => true
  | _, _ => false

def eqVs : List Value → List Value → Bool
  | [], [] => true
  | a :: as, b :: bs => eqV a b && eqVs as bs
  | _, _ => false

mutual
def exactCells : HV → Option (List Value)
  | .v x => match x with | .agg _ => none | .tuple _ => none | x => some [x]
  | .st fs => exactsCells fs
  | _ => none
def exactsCells : List HV → Option (List Value)
  | [] => some []
  | f :: fs => match exactCells f with
    | some a => match exactsCells fs with
      | some b => some (a ++ b)
      | none => none
    | none => none
end

def zeroOk (P : Program) (t : TypeId) (h : HV) : Bool :=
  match P.info? t with
  | some i => match i.zero with
    | some z => match exactCells h with
      | some l => eqVs l z.cells.toList && (z.cells.size == i.size) && (h.aggr == aggT P t)
      | none => false
    | none => false
  | none => false

/-- An operand's value, where guard g holds: may it be read, and what it is. -/
def fe (g : Bool) : HV → Bool × HV
  | .opt g' h => (!g || g', h)
  | h => (true, h)

def opnd (tmps : Tm) : Operand → HV
  | .tmp t => tmps.get t
  | .const v => .v v
  | .global g => .v (.pointer (some ⟨g, 0, none⟩))
  | .func f => .v (.func (.func f) #[] #[])

def decEq (a b : Dec) : Bool := a.neg == b.neg && beqS a.digits b.digits && a.exp == b.exp

def fwrap (k : IntKind) (n : Int) : Int := match n with
  | .ofNat m => bif Nat.ble m 127 then .ofNat m else (match k with
    | .i64 => bif Nat.blt m 9223372036854775808 then .ofNat m else IntKind.wrap .i64 (.ofNat m)
    | k => k.wrap (.ofNat m))
  | .negSucc m => match k with
    | .i64 => bif Nat.blt m 9223372036854775808 then .negSucc m else IntKind.wrap .i64 (.negSucc m)
    | k => k.wrap (.negSucc m)

def ltI (a b : Int) : Bool := match a, b with
  | .ofNat m, .ofNat n => Nat.blt m n
  | a, b => decide (a < b)

def bandI (k : IntKind) (a b : Int) : Int := k.wrap ((BitVec.ofInt k.bits a &&& BitVec.ofInt k.bits b).toNat)

/-- Sums and comparisons of numbers of one kind. -/
def intFast (op : BinOp) (k : IntKind) (a b : Int) : Option Value := match op with
  | .add => some (.int k (fwrap k (a + b)))
  | .sub => some (.int k (fwrap k (a - b)))
  | .eql => some (.bool (a == b))
  | .neq => some (.bool (a != b))
  | .lss => some (.bool (ltI a b))
  | .leq => some (.bool (!ltI b a))
  | .gtr => some (.bool (ltI b a))
  | .geq => some (.bool (!ltI a b))
  | .and => some (.int k (bandI k a b))
  | _ => none

/-- A comparison, a sum. -/
def binH (P : Program) (op : BinOp) (t : TypeId) : HV → HV → Option (Bool × HV)
  | .v (.string a), .v (.string b) => match op with
    | .eql => some (true, .v (.bool (beqS a b)))
    | .neq => some (true, .v (.bool (!beqS a b)))
    | .add => some (decide (a.size + b.size ≤ 9223372036854775807), .v (.string (bcat a b)))
    | _ => none
  | .v (.int k a), .v (.int k' b) => if k = k' then (match intFast op k a b with
      | some v => some (true, .v v)
      | none => (pureOf P (binOp op t (.int k a) (.int k' b))).map fun v => (true, .v v)) else none
  | .v (.bool a), .v (.bool b) => (pureOf P (binOp op t (.bool a) (.bool b))).map fun v => (true, .v v)
  | .v (.iface u x), .v .nilIface => if aggT P t then none else (pureOf P (binOp op t (.iface u x) .nilIface)).map fun v => (true, .v v)
  | x, y => if t = 40 then match toD .dec x, toD .dec y with
      | some a, some b => (match op with
        | .eql => some (true, .v (.bool (decEq a b)))
        | .neq => some (true, .v (.bool (!decEq a b)))
        | _ => none)
      | _, _ => none
    else none

/-- Where a field of what an address leads to lies. -/
def fieldH (P : Program) (L : List Ob) (s : TypeId) (f : Nat) : HV → Option HV
  | .ptr id off => (offT P s f).map fun o => .ptr id (off + o)
  | .rp c id ver i off => match L[id]? with
    | some (.row _ ver' _ _) => if ver = ver' then (offT P s f).map fun o => .rp c id ver i (off + o) else none
    | _ => none
  | .dp c x => match (c.flds x)[f]? with
    | some s' => if c.isAgg && offT P s f == some ((((c.flds x).take f).map fun q => q.1.size).sum) then some (.dp s'.1 s'.2) else none
    | none => none
  | _ => none

mutual
/-- A value that fills its cells, each with what one cell holds. -/
def boxable : HV → Bool
  | .junk => false
  | .tup _ => false
  | .opt _ _ => false
  | .v (.tuple _) => false
  | .v (.agg _) => false
  | .st fs => boxables fs
  | _ => true
def boxables : List HV → Bool
  | [] => true
  | f :: fs => boxable f && boxables fs
end

def loadH (P : Program) (t : TypeId) (L : List Ob) (h : HV) : Option (Bool × HV) := if !okT P t then none else match h with
  | .ptr id off => match L[id]? with
    | some (.box _ x) => (getAt 6 x off (aggT P t) (sizeT P t)).map fun h => (h.aggr || boxable h, h)
    | _ => none
  | .dp c x => if c.isAgg = aggT P t ∧ c.size = sizeT P t then some (true, ofD ⟨c, x⟩) else none
  | .rp _ id ver i off => match L[id]? with
    | some (.row c' ver' _ xs) => if ver = ver' then (getAt 6 (ofD ⟨c', xs.getD i default⟩) off (aggT P t) (sizeT P t)).map fun h => (decide (i < xs.length) && (h.aggr || boxable h), h) else none
    | _ => none
  | _ => none

def indexAddrH (P : Program) (t : TypeId) (L : List Ob) : HV → HV → Option (Bool × HV)
  | .d (.list c) xs, .v (.int _ i) => match elemT P t with
    | some e => if sizeT P e = c.size then some (decide (0 ≤ i) && decide (i < ((xs : List c.den).length : Int)), .dp c ((xs : List c.den).getD i.toNat default)) else none
    | none => none
  | .own c id ver len, .v (.int _ i) => match elemT P t, L[id]? with
    | some e, some (.row _ ver' _ xs) => if ver = ver' ∧ sizeT P e = c.size then some (decide (0 ≤ i) && decide (i < (len : Int)) && decide (len ≤ xs.length), .rp c id ver i.toNat 0) else none
    | _, _ => none
  | _, _ => none

def boundH : Option HV → Int → Option Int
  | none, y => some y
  | some (.v (.int _ n)), _ => some n
  | _, _ => none

/-- A part of a text; without an upper bound: what is behind. -/
def bsubH (s : ByteArray) (l : Nat) (hi : Option HV) (h : Int) : ByteArray := match hi with
  | none => ⟨⟨s.data.toList.drop l⟩⟩
  | some _ => bsub s l h.toNat

def sliceH (P : Program) (t : TypeId) (L : List Ob) (x : HV) (lo hi : Option HV) : Option (Bool × HV) :=
  match x with
  | .v (.string s) => match P.underlying t, boundH hi s.size, boundH lo 0 with
    | some .string, some h, some l => some (decide (0 ≤ l) && decide (l ≤ h) && decide (h ≤ (s.size : Int)), .v (.string (bsubH s l.toNat hi h)))
    | _, _, _ => none
  | .d (.list c) xs => match elemT P t, boundH hi (xs : List c.den).length, boundH lo 0 with
    | some e, some h, some l => if sizeT P e = c.size then
        some (decide (0 ≤ l) && decide (l ≤ h) && decide (h ≤ ((xs : List c.den).length : Int)), .d (.list c) (((xs : List c.den).take h.toNat).drop l.toNat)) else none
    | _, _, _ => none
  | .own c id ver len => match elemT P t, boundH hi len, lo, L[id]? with
    | some e, some h, none, some (.row c' ver' _ _) => if ver = ver' ∧ sizeT P e = c'.size then some (decide (0 ≤ h) && decide (h ≤ (len : Int)), .own c id ver h.toNat) else none
    | _, _, _, _ => none
  | _ => none

/-- x[:n:n] of data of n elements. -/
def sliceFullH (P : Program) (t : TypeId) (x h m : HV) : Option (Bool × HV) := match x, h, m with
  | .d (.list c) xs, .v (.int _ hi), .v (.int _ mx) => match elemT P t with
    | some e => if sizeT P e = c.size then some (decide (hi = ((xs : List c.den).length : Int)) && decide (mx = ((xs : List c.den).length : Int)), .d (.list c) xs) else none
    | none => none
  | _, _, _ => none

def keq : (c : Cd) → c.den → c.den → Bool
  | .int _, a, b => (a : Int) == b
  | .str, a, b => beqS a b
  | .bool, a, b => (a : Bool) == b
  | _, _, _ => false

def okKey : Cd → Bool | .int _ => true | .str => true | .bool => true | _ => false

def mhas {k v : Cd} (es : List (k.den × v.den)) (x : k.den) : Bool := match es with
  | [] => false
  | e :: es => keq k x e.1 || mhas es x

def mval {k v : Cd} (es : List (k.den × v.den)) (x : k.den) : v.den := match es with
  | [] => v.dflt
  | e :: es => bif keq k x e.1 then e.2 else mval es x

def mput {k v : Cd} (es : List (k.den × v.den)) (x : k.den) (y : v.den) : List (k.den × v.den) := match es with
  | [] => [(x, y)]
  | e :: es => bif keq k x e.1 then (x, y) :: es else e :: mput es x y

end Go.Lx
