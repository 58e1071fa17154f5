/- The evaluator. -/
import Derived.Test.YtiaeljbnhdhfcaaGreatDoorM1
namespace Go.Lx
open Go.RowKit

/-- How a call ends. -/
inductive HR where
  | ret (h : HV)
  | panic (h : HV)

/-- How a piece of code ends. -/
inductive HX where
  | normal | ret | exit (id : Nat) | goto (l : Nat) | panic (h : HV)

abbrev KR := HR → List Ob → Bool
abbrev KX := HX → St → Bool

/-- What is known of functions: the pure ones (may it be called so, and the answer); the others, by what they do. -/
structure Gam where
  pure : FuncId → List HV → Option (Bool × HV)
  loud : FuncId → List HV → List Ob → Option (KR → Bool)

mutual
def noOwn : HV → Bool
  | .own .. => false
  | .st fs => noOwns fs
  | .tup fs => noOwns fs
  | .opt _ h => noOwn h
  | _ => true
def noOwns : List HV → Bool
  | [] => true
  | f :: fs => noOwn f && noOwns fs
end

def feAll (g : Bool) : List HV → Bool × List HV
  | [] => (true, [])
  | h :: hs => let a := fe g h; let r := feAll g hs; (a.1 && r.1, a.2 :: r.2)

/-- An argument of a data type is told as data. -/
def normArg (P : Program) (t : TypeId) (h : HV) : HV :=
  match h with
  | .st _ => match tcode P 6 t with
    | some c => match toD c h with | some x => .d c x | none => h
    | none => h
  | h => h

def normArgs (P : Program) : List TypeId → List HV → List HV
  | t :: ts, h :: hs => normArg P t h :: normArgs P ts hs
  | _, hs => hs

def paramsOf (P : Program) (f : FuncId) : List TypeId := match P.funcs[f]? with | some fn => fn.params.toList | none => []

def lenH (P : Program) (t : TypeId) (L : List Ob) : HV → Option HV
  | .v (.string s) => match P.underlying t with | some .string => some (.v (.int .i64 s.size)) | _ => none
  | .v (.slice none 0 0) => match P.underlying t with | some (.slice _) => some (.v (.int .i64 0)) | _ => none
  | .zc => match P.underlying t with | some (.slice _) => some (.v (.int .i64 0)) | _ => none
  | .d (.list c) xs => match P.underlying t with | some (.slice _) => some (.v (.int .i64 ((xs : List c.den).length))) | _ => none
  | .own _ id ver len => match P.underlying t, L[id]? with | some (.slice _), some (.row _ ver' _ _) => if ver = ver' then some (.v (.int .i64 len)) else none | _, _ => none
  | .map id => match P.underlying t, L[id]? with | some (.map _ _), some (.map _ _ es) => some (.v (.int .i64 es.length)) | _, _ => none
  | _ => none

def zeroKey (P : Program) (et : TypeId) (v : Cd) : Bool := match P.info? et with
  | some i => (match i.zero with | some z => eqV z (keyV v v.dflt) && okKey v | none => false)
  | none => false

def lookGo (P : Program) (kt et : TypeId) (k v : Cd) (es : List (k.den × v.den)) (x : HV) (ok : Bool) : Option HV := match scD k x with
  | some key => if (tcode P 2 kt == some k && tcode P 2 et == some v && zeroKey P et v) = true then
      some (if ok then .tup [ofD ⟨v, mval es key⟩, .v (.bool (mhas es key))] else ofD ⟨v, mval es key⟩) else none
  | none => none

def mapTE (P : Program) (t : TypeId) : Option (TypeId × TypeId) := match P.underlying t with
  | some (.map kt et) => some (kt, et)
  | _ => none

def lookupH (P : Program) (t : TypeId) (L : List Ob) (m : HV) (x : HV) (ok : Bool) : Option HV :=
  match mapTE P t with
  | some te => (match m with
    | .dm k v es => lookGo P te.1 te.2 k v es x ok
    | .map id => (match L[id]? with | some (.map k v es) => lookGo P te.1 te.2 k v es x ok | _ => none)
    | _ => none)
  | none => none

def maxH : HV → HV → Option (Bool × HV)
  | .v (.int k a), .v (.int k' b) => if k = k' then some (true, .v (.int k (if b > a then b else a))) else none
  | _, _ => none

def unaryH (P : Program) (op : UnOp) : HV → Option HV
  | .v (.bool b) => match op with | .not => some (.v (.bool (!b))) | _ => none
  | .v (.int k n) => (pureOf P (Op.unary op (.int k n))).map .v
  | _ => none

def isU8s (P : Program) (t : TypeId) : Bool := match P.underlying t with
  | some (.slice e) => (match P.underlying e with | some (.int .u8) => sizeT P e == 1 | _ => false)
  | _ => false
def isStrT (P : Program) (t : TypeId) : Bool := match P.underlying t with | some .string => true | _ => false

def convH (P : Program) (L : List Ob) (s d : TypeId) : HV → Option HV
  | .v (.int k n) => (pureOf P (convert s d (.int k n))).map .v
  | .v (.string x) => if isStrT P s && isU8s P d then some (.d (.list (.int .u8)) (blist x)) else none
  | .d (.list (.int .u8)) xs => if isU8s P s && isStrT P d then some (.v (.string (bback xs))) else none
  | .own _ id ver len => match L[id]? with
    | some (.row (.int .u8) ver' _ xs) => if ver = ver' && decide (len = xs.length) && isU8s P s && isStrT P d then some (.v (.string (bback xs))) else none
    | _ => none
  | _ => none

def indexH (P : Program) (t : TypeId) : HV → HV → Option (Bool × HV)
  | .v (.string s), .v (.int _ i) => match P.underlying t with
    | some .string => some (decide (0 ≤ i) && decide (i < (s.size : Int)), .v (.int .u8 (bget s i.toNat)))
    | _ => none
  | _, _ => none

def extractH (i : Nat) : HV → Option HV
  | .tup hs => hs[i]?
  | _ => none

def ifaceH (t : TypeId) : HV → Option HV
  | .v y => some (.v (.iface t y))
  | h => some (.iface t h)

def nilH (L : List Ob) : HV → Option HV
  | .ptr id off => some (.ptr id off)
  | .dp c y => some (.dp c y)
  | .rp c id ver i off => match L[id]? with
    | some (.row _ ver' _ _) => if ver = ver' then some (.rp c id ver i off) else none
    | _ => none
  | _ => none

/-- Parts put into the fields of a struct's zero value. -/
def buildF (P : Program) (fd : List Field) : List (Nat × HV) → List HV → Option (List HV)
  | [], fs => some fs
  | p :: ps, fs => match fs[p.1]?, fd[p.1]? with
    | some f, some fl => if f.width = p.2.width ∧ p.2.width = sizeT P fl.type ∧ fl.offset = widths (fs.take p.1) ∧ boxable p.2 = true then buildF P fd ps (fs.set p.1 p.2) else none
    | _, _ => none

def pUn (r : Bool × HV) (f : HV → Option (Bool × HV)) : Option (Bool × HV) := (f r.2).map fun q => (r.1 && q.1, q.2)
def pUn' (r : Bool × HV) (f : HV → Option HV) : Option (Bool × HV) := (f r.2).map fun q => (r.1, q)
def pBi (a b : Bool × HV) (f : HV → HV → Option (Bool × HV)) : Option (Bool × HV) := (f a.2 b.2).map fun r => (a.1 && b.1 && r.1, r.2)

def pPick (g : Bool) (T : Tm) (c a b : Operand) : Option (Bool × HV) := match fe g (opnd T c) with
  | (vc, .v (.bool x)) => match fe (g && x) (opnd T a), fe (g && !x) (opnd T b) with
    | (va, .v (.bool p)), (vb, .v (.bool q)) => some (vc && va && vb, .v (.bool (bif x then p else q)))
    | _, (vb, .v (.bool q)) => some (vc && !(g && x) && vb, .v (.bool q))
    | (va, .v (.bool p)), _ => some (vc && !(g && !x) && va, .v (.bool p))
    | _, _ => none
  | _ => none

def pSlice (P : Program) (g : Bool) (T : Tm) (L : List Ob) (t : TypeId) (x : Operand) (lo hi : Option Operand) : Option (Bool × HV) :=
  (sliceH P t L (fe g (opnd T x)).2 ((lo.map fun x => fe g (opnd T x)).map (·.2)) ((hi.map fun x => fe g (opnd T x)).map (·.2))).map fun r =>
    ((fe g (opnd T x)).1 && (((lo.map fun x => fe g (opnd T x)).map (·.1)).getD true) && (((hi.map fun x => fe g (opnd T x)).map (·.1)).getD true) && r.1, r.2)

def pFull (P : Program) (g : Bool) (T : Tm) (t : TypeId) (x hi mx : Operand) : Option (Bool × HV) :=
  (sliceFullH P t (fe g (opnd T x)).2 (fe g (opnd T hi)).2 (fe g (opnd T mx)).2).map fun r => ((fe g (opnd T x)).1 && (fe g (opnd T hi)).1 && (fe g (opnd T mx)).1 && r.1, r.2)

def pIface (P : Program) (g : Bool) (T : Tm) (t : TypeId) (x : Operand) : Option (Bool × HV) := match P.underlying t with
  | some (.interface _) => none
  | some _ => pUn' (fe g (opnd T x)) (ifaceH t)
  | none => none

def pFunc (g : Bool) (T : Tm) (f : FuncId) (fst cap : Array Operand) : Option (Bool × HV) :=
  some ((feAll g (fst.toList.map (opnd T))).1 && (feAll g (cap.toList.map (opnd T))).1, .fn f (feAll g (fst.toList.map (opnd T))).2 (feAll g (cap.toList.map (opnd T))).2)

def pBuild (P : Program) (g : Bool) (T : Tm) (t : TypeId) (parts : Array (Nat × Operand)) : Option (Bool × HV) :=
  match zeroHV P 4 t, structT P t with
  | .st fs, some fd => if zeroOk P t (.st fs) && fd.toList.all (fun f => sizeT P f.type != 0) then
      (buildF P fd.toList ((parts.toList.map (·.1)).zip (feAll g (parts.toList.map fun p => opnd T p.2)).2) fs).map fun r => ((feAll g (parts.toList.map fun p => opnd T p.2)).1, .st r) else none
  | _, _ => none

def partsD (c : Cd) : Nat → List (Nat × HV) → Option (List c.den)
  | _, [] => some []
  | n, p :: ps => if p.1 = n then match toD c p.2 with
      | some x => match partsD c (n + 1) ps with | some l => some (x :: l) | none => none
      | none => none
    else none

/-- The cells of an element's type, of the program's table. -/
def sizeE (P : Program) (e : TypeId) : Nat := bif Nat.blt e 336 then sizeT P e else 0

/-- A slice literal whose parts hold no row of the call's own. -/
def pSliceOf (P : Program) (t : TypeId) (n : Nat) (ix : List Nat) (a : Bool × List HV) : Option (Bool × HV) :=
  if noOwns a.2 && !Nat.beq n 0 then match elemT P t with
    | some e => match tcode P 6 e with
      | some c => match partsD c 0 (ix.zip a.2) with
        | some ys => some (a.1 && n != 0 && ys.length == n && sizeE P e == c.size && decide (n * c.size ≤ 1000), .d (.list c) ys)
        | none => none
      | none => none
    | none => none
  else none

def pLen (P : Program) (g : Bool) (T : Tm) (L : List Ob) (c : Call) : Option (Bool × HV) := match c.args.toList, c.argTypes.toList with
  | [x], [t] => pUn' (fe g (opnd T x)) (lenH P t L)
  | _, _ => none

def pMax (g : Bool) (T : Tm) (c : Call) : Option (Bool × HV) := match c.args.toList with
  | [x, y] => pBi (fe g (opnd T x)) (fe g (opnd T y)) maxH
  | _ => none

def pPure (P : Program) (G : Gam) (f : FuncId) (a : Bool × List HV) : Option (Bool × HV) :=
  if noOwns (normArgs P (paramsOf P f) a.2) then (G.pure f (normArgs P (paramsOf P f) a.2)).map fun r => (a.1 && r.1, r.2) else none

def pCall (P : Program) (G : Gam) (g : Bool) (T : Tm) (L : List Ob) (c : Call) : Option (Bool × HV) := match c.callee with
  | .builtin .len => pLen P g T L c
  | .builtin .max => pMax g T c
  | .value (.func f) => pPure P G f (feAll g (c.args.toList.map (opnd T)))
  | _ => none

/-- An operation that turns no object: may it be done, and its answer. g: it is done just where g holds. -/
def evPure (P : Program) (G : Gam) (g : Bool) (st : St) (o : Oper) : Option (Bool × HV) :=
  match o.op with
  | .move x => some (fe g (opnd st.tmps x))
  | .assign x => some (fe g (opnd st.tmps x))
  | .pick c a b => pPick g st.tmps c a b
  | .binOp op t x y _ => pBi (fe g (opnd st.tmps x)) (fe g (opnd st.tmps y)) (binH P op t)
  | .unOp op _ x => pUn' (fe g (opnd st.tmps x)) (unaryH P op)
  | .convert s d x => pUn' (fe g (opnd st.tmps x)) (convH P st.L s d)
  | .fieldAddr s x f => pUn' (fe g (opnd st.tmps x)) (fieldH P st.L s f)
  | .load t x => pUn (fe g (opnd st.tmps x)) (loadH P t st.L)
  | .indexAddr t x i => pBi (fe g (opnd st.tmps x)) (fe g (opnd st.tmps i)) (indexAddrH P t st.L)
  | .index t x i => pBi (fe g (opnd st.tmps x)) (fe g (opnd st.tmps i)) (indexH P t)
  | .slice t x lo hi none => pSlice P g st.tmps st.L t x lo hi
  | .slice t x none (some hi) (some mx) => pFull P g st.tmps t x hi mx
  | .lookup t m x ok => pBi (fe g (opnd st.tmps m)) (fe g (opnd st.tmps x)) fun m x => (lookupH P t st.L m x ok).map fun h => (true, h)
  | .extract x i => pUn' (fe g (opnd st.tmps x)) (extractH i)
  | .makeInterface t x => pIface P g st.tmps t x
  | .makeFunc (.func f) fst cap => pFunc g st.tmps f fst cap
  | .nilCheck x => pUn' (fe g (opnd st.tmps x)) (nilH st.L)
  | .build t parts => pBuild P g st.tmps t parts
  | .buildSlice t n parts => pSliceOf P t n (parts.toList.map (·.1)) (feAll g (parts.toList.map fun p => opnd st.tmps p.2))
  | .call c => pCall P G g st.tmps st.L c
  | _ => none

def u8t (c : Cd) (e : TypeId) : Bool := match c with | .int .u8 => Nat.beq e 5 | _ => true

def elems (c : Cd) : HV → Option (List c.den)
  | .v (.string s) => match c with | .int .u8 => some (blist s) | _ => none
  | .v (.agg _) => none
  | x => toD (.list c) x

def isSlStr (P : Program) (t : TypeId) : Bool := match P.underlying t with | some (.slice _) => true | some .string => true | _ => false

/-- append(s, x), x told as data. -/
def appendK (P : Program) (t tx : TypeId) (L : List Ob) (s x : HV) (k : HV → List Ob → Bool) : Bool :=
  match elemT P t with
  | some e =>
    isSlStr P tx &&
    match s with
    | .own _ id ver len => match L[id]? with
      | some (.row c ver' fp xs) => match elems c x with
        | some ys => ver == ver' && (sizeE P e == c.size && u8t c e) && decide (fp ≤ len) && decide (len ≤ xs.length) && decide (bytesT P e ≠ 0) && decide ((len + ys.length) * bytesT P e ≤ 140737488355328) &&
            k (.own c id (ver + 1) (len + ys.length)) (L.set id (.row c (ver + 1) fp (xs.take len ++ ys)))
        | none => false
      | _ => false
    | .v (.slice none 0 0) | .zc => match tcode P 6 e with
      | some c => match elems c x with
        | some ys => (sizeE P e == c.size && u8t c e) && decide (bytesT P e ≠ 0) && decide (ys.length * bytesT P e ≤ 140737488355328) && k (.own c L.length 0 ys.length) (L ++ [.row c 0 0 ys])
        | none => false
      | none => false
    | _ => false
  | none => false

def storeK (P : Program) (t : TypeId) (L : List Ob) (a x : HV) (k : List Ob → Bool) : Bool :=
  okT P t && match a with
  | .ptr id off => match L[id]? with
    | some (.box tb bx) => match setAt 6 bx off (aggT P t) (sizeT P t) x with
      | some bx' => boxable x && x.width == sizeT P t && x.aggr == aggT P t && k (L.set id (.box tb bx'))
      | none => false
    | _ => false
  | .rp _ id ver i off =>
    let r := snap 0 x L
    match r.2.2[id]? with
    | some (.row c ver' fp xs) => match setAt 6 (ofD ⟨c, xs.getD i default⟩) off (aggT P t) (sizeT P t) r.2.1 with
      | some y => match toD c y with
        | some z => r.1 && ver == ver' && decide (i < xs.length) && decide (fp ≤ i) && boxable r.2.1 && r.2.1.width == sizeT P t && r.2.1.aggr == aggT P t &&
            k (r.2.2.set id (.row c ver' fp (xs.set i z)))
        | none => false
      | none => false
    | _ => false
  | _ => false

def mapCodes (P : Program) (t : TypeId) : Option (Cd × Cd) := match P.underlying t with
  | some (.map kt et) => match tcode P 2 kt, tcode P 2 et with
    | some k, some v => some (k, v)
    | _, _ => none
  | _ => none

def isFuncMap (P : Program) (t : TypeId) : Bool := match P.underlying t with
  | some (.map kt et) => (match P.underlying kt, P.info? et with | some .string, some i => (match i.zero with | some z => eqV z .nilFunc | none => false) | _, _ => false)
  | _ => false

def mapPutK (P : Program) (t : TypeId) (L : List Ob) (m x y : HV) (k : List Ob → Bool) : Bool :=
  match m with
  | .map id => match L[id]? with
    | some (.map kc vc es) => match scD kc x, scD vc y with
      | some key, some val => (match mapCodes P t with | some (kc', vc') => kc' == kc && vc' == vc && okKey kc && okKey vc | none => false) && k (L.set id (.map kc vc (mput es key val)))
      | _, _ => false
    | some (.fmap es) => match x with
      | .v (.string s) => isFuncMap P t && es.all (fun e => !beqS s e.1) && (match y with | .fn .. => true | _ => false) && k (L.set id (.fmap (es ++ [(s, y)])))
      | _ => false
    | _ => false
  | _ => false

/-- A look-up in a map of functions: one way for each entry, one for none. -/
def fmapK (s : ByteArray) (k : Option HV → Bool) : List (ByteArray × HV) → Bool
  | [] => k none
  | e :: es => bif beqS s e.1 then k (some e.2) else fmapK s k es

def callee (h : HV) : Option (FuncId × List HV × List HV) := match h with
  | .fn f a b => some (f, a, b)
  | .v (.func (.func f) a b) => if a.size = 0 ∧ b.size = 0 then some (f, [], []) else none
  | _ => none

abbrev CallK := FuncId → List HV → List Ob → KR → Bool

/-- A call: by what is known of the function, else by its code. -/
def doCall (P : Program) (G : Gam) (call : CallK) (f : FuncId) (args : List HV) (L : List Ob) (kr : KR) : Bool :=
  match G.loud f args L with
  | some F => F kr
  | none =>
    let r := snaps 0 args L
    match G.pure f (normArgs P (paramsOf P f) r.2.1) with
    | some q => r.1 && q.1 && kr (.ret q.2) r.2.2
    | none => call f args L kr

/-- Is the next operation the conversion of this one's bytes to their own type ('[]byte("..")')? -/
def converts (o : Oper) (nx : List Oper) : Bool := match nx with
  | o' :: _ => (match o'.op, o.dst with | .convert s d (.tmp t), some u => s == d && t == u | _, _ => false)
  | [] => false

def lStore (P : Program) (st : St) (t : TypeId) (a x : Bool × HV) (k : HV → List Ob → Bool) : Bool := a.1 && x.1 && storeK P t st.L a.2 x.2 (k .junk)
def lPut (P : Program) (st : St) (t : TypeId) (m x y : Bool × HV) (k : HV → List Ob → Bool) : Bool := m.1 && x.1 && y.1 && mapPutK P t st.L m.2 x.2 y.2 (k .junk)
def lBox (st : St) (t : TypeId) (a : Bool × HV) (k : HV → List Ob → Bool) : Bool := a.1 && boxable a.2 && k (.ptr st.L.length 0) (st.L ++ [.box t a.2])
def lAlloc (P : Program) (st : St) (t : TypeId) (z : HV) (k : HV → List Ob → Bool) : Bool := zeroOk P t z && k (.ptr st.L.length 0) (st.L ++ [.box t z])
def lMap (P : Program) (st : St) (t : TypeId) (k : HV → List Ob → Bool) : Bool := if isFuncMap P t then k (.map st.L.length) (st.L ++ [.fmap []]) else
  match mapCodes P t with
  | some (kc, vc) => k (.map st.L.length) (st.L ++ [.map kc vc []])
  | none => false
def lLook (P : Program) (st : St) (t : TypeId) (m x : Bool × HV) (k : HV → List Ob → Bool) : Bool := m.1 && x.1 && isFuncMap P t && (match m.2, x.2 with
  | .map id, .v (.string s) => (match st.L[id]? with
    | some (.fmap es) => fmapK s (fun r => k (match r with | some h => .tup [h, .v (.bool true)] | none => .tup [.v .nilFunc, .v (.bool false)]) st.L) es
    | _ => false)
  | _, _ => false)
def lSlice (P : Program) (own : Bool) (t : TypeId) (n : Nat) (st : St) (parts : Array (Nat × Operand)) (a1 : Bool) (r : Bool × List HV × List Ob) (k : HV → List Ob → Bool) : Bool :=
  match elemT P t with
  | some e => if n = 0 then parts.size == 0 && (P.info? e).isSome && k .zc st.L else
    match tcode P 6 e with
    | some c => match partsD c 0 ((parts.toList.map (·.1)).zip r.2.1) with
      | some ys => a1 && r.1 && ys.length == n && (sizeE P e == c.size && (!own || u8t c e)) && decide (n * c.size ≤ 1000) &&
        (if own then k (.own c r.2.2.length 0 n) (r.2.2 ++ [.row c 0 0 ys]) else k (.d (.list c) ys) r.2.2)
      | none => false
    | none => false
  | none => false
def lConv (P : Program) (st : St) (s d : TypeId) (x : Bool × HV) (k : HV → List Ob → Bool) : Bool := match x with
  | (v, .own c id ver len) => (match st.L[id]? with
    | some (.row _ ver' _ xs) => v && s == d && ver == ver' && decide (0 < xs.length) && isU8s P s && k (.own c id ver len) st.L
    | _ => false)
  | _ => false
def lRange (P : Program) (st : St) (t : TypeId) (x : Bool × HV) (k : HV → List Ob → Bool) : Bool := match x with
  | (v, .v (.string s)) => v && isStrT P t && k (.it st.L.length) (st.L ++ [.iter s 0])
  | _ => false
def lNext (st : St) (x : Bool × HV) (k : HV → List Ob → Bool) : Bool := match x with
  | (v, .it id) => (match st.L[id]? with
    | some (.iter s pos) => v && bif decide (pos < s.size) then k (.tup [.v (.bool true), .v (.int .i64 pos), .v (.int .i32 (Utf8.decode s pos).1)]) (st.L.set id (.iter s (pos + (Utf8.decode s pos).2)))
        else k (.tup [.v (.bool false)]) st.L
    | _ => false)
  | _ => false
def lPanic (st : St) (x : Bool × HV) (kp : HV → List Ob → Bool) : Bool := x.1 && (match x.2 with
  | .v (.iface t y) => kp (.v (.iface t y)) st.L
  | .iface t h => kp (.iface t h) st.L
  | _ => false)
def lAppend (P : Program) (st : St) (c : Call) (k : HV → List Ob → Bool) : Bool := match c.args.toList, c.argTypes.toList with
  | [s, x], [ts, tx] => (fe true (opnd st.tmps s)).1 && (fe true (opnd st.tmps x)).1 && ((snap 0 (fe true (opnd st.tmps x)).2 st.L).1 && appendK P ts tx (snap 0 (fe true (opnd st.tmps x)).2 st.L).2.2 (fe true (opnd st.tmps s)).2 (snap 0 (fe true (opnd st.tmps x)).2 st.L).2.1 k)
  | _, _ => false
def lValue (P : Program) (G : Gam) (call : CallK) (st : St) (g : Bool × HV) (a : Bool × List HV) (k : HV → List Ob → Bool) (kp : HV → List Ob → Bool) : Bool := match callee g.2 with
  | some (f, fst, cap) => g.1 && a.1 && doCall P G call f (fst ++ a.2 ++ cap) st.L (fun r L' => match r with | .ret h => k h L' | .panic h => kp h L')
  | none => false
def lCall (P : Program) (G : Gam) (call : CallK) (st : St) (c : Call) (k : HV → List Ob → Bool) (kp : HV → List Ob → Bool) : Bool := match c.callee with
  | .builtin .append => lAppend P st c k
  | .value g => lValue P G call st (fe true (opnd st.tmps g)) (feAll true (c.args.toList.map (opnd st.tmps))) k kp
  | _ => false

def evLoud (P : Program) (G : Gam) (call : CallK) (nx : List Oper) (st : St) (o : Oper) (k : HV → List Ob → Bool) (kp : HV → List Ob → Bool) : Bool :=
  match o.op with
  | .alloc t => lAlloc P st t (zeroHV P 4 t) k
  | .box t x => lBox st t (fe true (opnd st.tmps x)) k
  | .store t a x => lStore P st t (fe true (opnd st.tmps a)) (fe true (opnd st.tmps x)) k
  | .makeMap t none => lMap P st t k
  | .insert t m x y => lPut P st t (fe true (opnd st.tmps m)) (fe true (opnd st.tmps x)) (fe true (opnd st.tmps y)) k
  | .mapUpdate t m x y => lPut P st t (fe true (opnd st.tmps m)) (fe true (opnd st.tmps x)) (fe true (opnd st.tmps y)) k
  | .lookup t m x true => lLook P st t (fe true (opnd st.tmps m)) (fe true (opnd st.tmps x)) k
  | .buildSlice t n parts => lSlice P (converts o nx) t n st parts (feAll true (parts.toList.map fun p => opnd st.tmps p.2)).1 (snaps 0 (feAll true (parts.toList.map fun p => opnd st.tmps p.2)).2 st.L) k
  | .convert s d x => lConv P st s d (fe true (opnd st.tmps x)) k
  | .range t x => lRange P st t (fe true (opnd st.tmps x)) k
  | .next x true => lNext st (fe true (opnd st.tmps x)) k
  | .panic x => lPanic st (fe true (opnd st.tmps x)) kp
  | .call c => lCall P G call st c k kp
  | _ => false

def putT (tmps : Tm) (d : Option Tmp) (h : HV) : Tm := match d with
  | some i => tmps.put i h
  | none => tmps

def guardH (b : Bool) : HV → Option (Bool × Option Bool)
  | .v (.bool x) => some (true, some (x == b))
  | .opt g (.v (.bool x)) => some (true, some (g && (x == b)))
  | .opt g _ => some (!g, some false)
  | .v (.tuple _) => some (true, some false)
  | _ => none

/-- The guard of an operation: may it be asked, and none: it is done; else the test. -/
def guardOf (ops : List Oper) (tmps : Tm) (o : Oper) : Option (Bool × Option Bool) :=
  match o.guard with
  | none => some (true, none)
  | some (j, b) => match ops[j]? with
    | some oj => match oj.dst with
      | some d => guardH b (tmps.get d)
      | none => none
    | none => none

/-- A quiet operation; the bytes of a text that turn into an own row at once are none. -/
def evQ (P : Program) (G : Gam) (g : Bool) (nx : List Oper) (st : St) (o : Oper) : Option (Bool × HV) := bif converts o nx then none else evPure P G g st o

/-- The operations of a region, one behind the other. -/
def evOps (P : Program) (G : Gam) (call : CallK) (all : List Oper) : List Oper → St → (St → Bool) → (HV → St → Bool) → Bool
  | [], st, k, _ => k st
  | o :: rest, st, k, kp =>
    match guardOf all st.tmps o with
    | none => false
    | some (_, none) => match evQ P G true rest st o with
      | some r => r.1 && evOps P G call all rest ⟨putT st.tmps o.dst r.2, st.L⟩ k kp
      | none => evLoud P G call rest st o (fun h L => evOps P G call all rest ⟨putT st.tmps o.dst h, L⟩ k kp) (fun h L => kp h ⟨st.tmps, L⟩)
    | some (vg, some g) => vg && match evQ P G g rest st o with
      | some r => (!g || r.1) && evOps P G call all rest ⟨putT st.tmps o.dst (.opt g r.2), st.L⟩ k kp
      | none => bif g then evLoud P G call rest st o (fun h L => evOps P G call all rest ⟨putT st.tmps o.dst h, L⟩ k kp) (fun h L => kp h ⟨st.tmps, L⟩)
        else evOps P G call all rest ⟨putT st.tmps o.dst (.v undef), st.L⟩ k kp

def loopN : Nat → (St → KX → Bool) → St → KX → Bool
  | 0, _, _, _ => false
  | n + 1, body, st, k => body st fun x st' => match x with
    | .normal => loopN n body st' k
    | x => k x st'

/-- A region that draws its order. -/
abbrev DrawK := List Oper → St → (St → Bool) → (HV → List Ob → Bool) → Bool

/-- What is known of loops, by the block in which they lie. -/
abbrev LoopK := Nat → Option (St → KX → Bool)

/-- The targets of a region, forgotten. -/
def forgetD (ops : List Oper) (T : Tm) : Tm := ops.foldl (fun T o => putT T o.dst .junk) T

/-- A jump to a label of a scope. -/
abbrev GotoK := Code → Nat → St → KX → Bool

def evC (P : Program) (G : Gam) (call : CallK) (draw : DrawK) (lp : LoopK) (gt : GotoK) (n : Nat) : Code → St → KX → Bool
  | .skip, st, k => k .normal st
  | .region _ ops false, st, k => evOps P G call ops.toList ops.toList st (fun st' => k .normal st') (fun h st' => k (.panic h) st')
  | .region _ ops true, st, k => draw ops.toList st (fun st' => k .normal st') (fun h L => k (.panic h) ⟨forgetD ops.toList st.tmps, L⟩)
  | .seq a b, st, k => evC P G call draw lp gt n a st fun x st' => match x with
    | .normal => evC P G call draw lp gt n b st' k
    | x => k x st'
  | .cond c a b, st, k => match fe true (opnd st.tmps c) with
    | (v, .v (.bool x)) => v && bif x then evC P G call draw lp gt n a st k else evC P G call draw lp gt n b st k
    | _ => false
  | .block id c, st, k =>
    let k' : KX := fun x st' => match x with
      | .exit j => if j = id then k .normal st' else k (.exit j) st'
      | x => k x st'
    match lp id with
    | some F => F st k'
    | none => evC P G call draw lp gt n c st k'
  | .loop c, st, k => loopN n (fun st k => evC P G call draw lp gt n c st k) st k
  | .exit id, st, k => k (.exit id) st
  | .label _, st, k => k .normal st
  | .goto l, st, k => k (.goto l) st
  | .ret, st, k => k .ret st
  | .scope c, st, k => evC P G call draw lp gt n c st fun x st' => match x with
    | .goto l => gt c l st' k
    | x => k x st'
  | _, _, _ => false

/-- Jumps, so many. -/
def gotoN (P : Program) (G : Gam) (call : CallK) (draw : DrawK) (lp : LoopK) (n : Nat) : Nat → GotoK
  | 0 => fun _ _ _ _ => false
  | m + 1 => fun c l st k => match findLabel c l with
    | some rest => evC P G call draw lp (gotoN P G call draw lp n m) n rest st fun x st' => match x with
      | .goto l' => gotoN P G call draw lp n m c l' st' k
      | x => k x st'
    | none => false

mutual
def refsLt (n : Nat) : HV → Bool
  | .ptr id _ => id < n
  | .rp _ id _ _ _ => id < n
  | .own _ id _ _ => id < n
  | .map id => id < n
  | .it id => id < n
  | .st fs => refsLts n fs
  | .tup fs => refsLts n fs
  | .fn _ a b => refsLts n a && refsLts n b
  | .iface _ h => refsLt n h
  | .opt _ h => refsLt n h
  | _ => true
def refsLts (n : Nat) : List HV → Bool
  | [] => true
  | f :: fs => refsLt n f && refsLts n fs
end

def obLt (n : Nat) : Ob → Bool
  | .box _ x => refsLt n x
  | .fmap es => refsLts n (es.map (·.2))
  | _ => true

/-- Behind a call its own objects go, where nothing leads to them. -/
def trunc (n : Nat) (h : HV) (L : List Ob) : List Ob := bif refsLt n h && (L.take n).all (obLt n) then L.take n else L

/-- The results of a function. -/
def resultH (P : Program) (st : St) : List ResultVar → Option (Bool × List HV)
  | [] => some (true, [])
  | .tmp t :: rs => match resultH P st rs with
    | some r => let a := fe true (st.tmps.get t); some (a.1 && r.1, a.2 :: r.2)
    | none => none
  | .cell a t :: rs => match resultH P st rs with
    | some r => let b := fe true (st.tmps.get a)
      match b.2 with
      | .ptr id off => match loadH P t st.L (.ptr id off) with
        | some q => some (b.1 && q.1 && r.1, q.2 :: r.2)
        | none => none
      | _ => none
    | none => none

def oneOf : List HV → HV
  | [h] => h
  | l => .tup l

def argT : Nat → List HV → Tm → Tm
  | _, [], M => M
  | i, h :: hs, M => argT (i + 1) hs (M.put i h)

/-- A body run, from its arguments on. -/
def enterK (P : Program) (run : Code → St → KX → Bool) (f : FuncId) (args : List HV) (L : List Ob) (kr : KR) : Bool :=
  match P.funcs[f]? with
  | some fn => match fn.body with
    | some c =>
      let fin (st : St) : Bool := match resultH P st fn.results.toList with
        | some r => let q := snaps L.length r.2 st.L
          r.1 && q.1 && kr (.ret (oneOf (normArgs P fn.resultTypes.toList q.2.1))) (trunc L.length (oneOf (normArgs P fn.resultTypes.toList q.2.1)) q.2.2)
        | none => false
      run c ⟨argT 0 args ⟨args.length + (fn.ntmps - args.length), .nil⟩, L⟩ fun x st => match x with
        | .normal => fin st
        | .ret => fin st
        | .panic h => kr (.panic h) (trunc L.length h st.L)
        | _ => false
    | none => false
  | none => false

end Go.Lx
