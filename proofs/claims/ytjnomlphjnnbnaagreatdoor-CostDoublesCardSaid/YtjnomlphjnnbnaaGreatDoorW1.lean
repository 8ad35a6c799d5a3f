/- The abstract values, stores and evaluator: definitions alone. Conditions: none. -/
import Derived.Calls
import Derived.Laws.Strings
set_option linter.unusedVariables false
namespace Go.W

/-- What is known of what lies behind a pure slice's elements. -/
inductive Tail where
  | no                -- nothing
  | nil               -- the slice is nil
  | full              -- it is not nil, and has no place behind
  | tok (id : Nat)    -- it is not nil; the places behind belong to this token
  deriving DecidableEq, Inhabited

/-- Abstract values. A slice that nobody writes to is its elements, each a list of cells. -/
inductive AV where
  | undef
  | bool (b : Bool)
  | int (k : IntKind) (n : Int)
  | str (l : List UInt8)
  | list (es : List (List AV)) (t : Tail)
  | sl (id off n : Nat)
  | nilp
  | ptr (id i off : Nat)
  | pp (es : List (List AV)) (i off : Nat)
  | map (id : Nat)
  | nilm
  | fn (f : FuncId) (first cap : List AV)
  | nilf
  | nili
  | agg (cs : List AV)
  | tup (vs : List AV)
  deriving Inhabited

inductive TK where
  | scal (k : IntKind)
  | bool
  | ptr (e : TypeId)
  | slice (e : TypeId)
  | array (n : Nat) (e : TypeId)
  | map (k e : TypeId)
  | struct (fs : List (Nat × TypeId))
  | str
  | func
  deriving Inhabited

def TK.isAgg : TK → Bool
  | .struct _ | .array _ _ => true
  | _ => false

structure TD where
  kd : TK
  size : Nat
  bytes : Nat
  zero : List AV
  deriving Inhabited

/-- The program, a table of its types, the package-level variables that are known, and the regions whose appends make rows that are written to. -/
structure Ctx where
  P : Program
  D : TypeId → Option TD
  G : Nat → Option (List AV)
  rows : FuncId → Nat → Bool
  F : FuncId → Option Func
  eqs : TypeId → Bool
  ext : FuncId → Option (List AV → Option AV)
  memo : FuncId → List AV → Option AV := fun _ _ => none

inductive AObj where
  | row (es : List (List AV))
  | ro (es : List (List AV))
  | tok (sz : Nat)
  | map (es : List (AV × AV)) 
  | dead
  deriving Inhabited

abbrev AS := List AObj

structure T where
  n : Nat
  get : Nat → AV

def T.set (t : T) (k : Nat) (v : AV) : T := ⟨t.n, fun j => if k = j then v else t.get j⟩
theorem get_set (t : T) (k : Nat) (v : AV) (j : Nat) : (t.set k v).get j = if k = j then v else t.get j := rfl
theorem n_set (t : T) (k : Nat) (v : AV) : (t.set k v).n = t.n := rfl
@[ext] theorem T.ext' {t u : T} (h : t.n = u.n) (hg : ∀ j, t.get j = u.get j) : t = u := by
  cases t; cases u; simp only [T.mk.injEq] at h ⊢; exact ⟨h, funext hg⟩
def T.put (t : T) (d : Option Nat) (v : AV) : Option T := match d with
  | none => some t
  | some k => if k < t.n then some (t.set k v) else none

/-! Pure values: no row, no token, no pointer into the store. -/
def AV.pure : AV → Bool
  | .bool _ | .int _ _ | .str _ | .nilp | .nilf | .nili | .nilm => true
  | .list _ t => match t with | .tok _ => false | _ => true
  | _ => false

/-- A cell that is put into a pure slice: what is told of its tail is dropped. -/
def AV.clean : AV → Option AV
  | .list es _ => some (.list es .no)
  | v => if v.pure then some v else none

/-- May it stand in one cell? -/
def AV.isCell : AV → Bool
  | .undef | .agg _ | .tup _ => false
  | _ => true

/-- A value's cells. -/
def cellsOf : AV → Option (List AV)
  | .agg cs => if cs.all AV.isCell then some cs else none
  | v => if v.isCell then some [v] else none

mutual
def absC : Value → Option AV
  | .bool b => some (.bool b)
  | .int k n => some (.int k n)
  | .string s => some (.str s.data.toList)
  | .pointer none => some .nilp
  | .slice none 0 0 => some (.list [] .nil)
  | .map none => some .nilm
  | .nilFunc => some .nilf
  | .nilIface => some .nili
  | .agg ⟨cs⟩ => (absCs cs).map .agg
  | _ => none
def absCs : List Value → Option (List AV)
  | [] => some []
  | v :: vs => match absC v, absCs vs with | some a, some as => some (a :: as) | _, _ => none
end

def ev (C : Ctx) (t : T) : Operand → Option AV
  | .tmp k => some (t.get k)
  | .const v => absC v
  | .global g => (C.G g).map fun cs => .pp [cs] 0 0
  | .func f => some (.fn f [] [])

/-- A value of a type out of its cells. -/
def mkVal (d : TD) (cs : List AV) : Option AV := match d.kd, cs with
  | .struct _, cs => some (.agg cs)
  | .array _ _, cs => some (.agg cs)
  | _, [c] => some c
  | _, _ => none

/-- 'n' cells from 'off' on. -/
def cut (cs : List AV) (off n : Nat) : Option (List AV) :=
  if off + n ≤ cs.length then some ((cs.drop off).take n) else none

def putCells (cs : List AV) (off : Nat) (new : List AV) : Option (List AV) :=
  if off + new.length ≤ cs.length then some (cs.take off ++ new ++ cs.drop (off + new.length)) else none

inductive ANext where
  | val (v : AV) (σ : AS)
  | enter (f : FuncId) (args : List AV)

def rowOf (σ : AS) (id : Nat) : Option (List (List AV)) := match σ[id]? with
  | some (.row es) => some es
  | some (.ro es) => some es
  | _ => none

/-- An address's cells. -/
def target (σ : AS) : AV → Option (List AV × Nat)
  | .pp es i off => (es[i]?).map fun e => (e, off)
  | .ptr id i off => (rowOf σ id).bind fun es => (es[i]?).map fun e => (e, off)
  | _ => none

def aLoad (C : Ctx) (σ : AS) (t : TypeId) (a : AV) : Option AV :=
  (C.D t).bind fun d => (target σ a).bind fun (cs, off) => (cut cs off d.size).bind fun l => mkVal d l

def aStore (C : Ctx) (σ : AS) (t : TypeId) (a v : AV) : Option AS := match a with
  | .ptr id i off => match σ[id]? with
    | some (.row es) => (C.D t).bind fun d => (es[i]?).bind fun e =>
        (cellsOf v).bind fun l => if l.length = d.size then (putCells e off l).map fun e' => σ.set id (.row (es.set i e')) else none
    | _ => none
  | _ => none

def aNew (σ : AS) (es : List (List AV)) : AV × AS := (.ptr σ.length 0 0, σ ++ [AObj.row es])

def fillAt (fs : List (Nat × Nat)) (cs : List AV) : List (Nat × AV) → Option (List AV)
  | [] => some cs
  | (i, v) :: rest => match fs[i]? with
    | none => none
    | some (off, size) => (cellsOf v).bind fun l => if l.length = size then (putCells cs off l).bind fun cs' => fillAt fs cs' rest else none

def sizes (D : TypeId → Option TD) : List (Nat × TypeId) → Option (List (Nat × Nat))
  | [] => some []
  | (o, t) :: r => match D t, sizes D r with | some d, some l => some ((o, d.size) :: l) | _, _ => none

def aBuild (C : Ctx) (t : TypeId) (parts : List (Nat × AV)) : Option AV :=
  (C.D t).bind fun d => match d.kd with
  | .struct fs => (sizes C.D fs).bind fun l => (fillAt l d.zero parts).map .agg
  | _ => none

def cleanAll : List AV → Option (List AV)
  | [] => some []
  | c :: cs => match c.clean, cleanAll cs with | some x, some xs => some (x :: xs) | _, _ => none

def aBuildSlice (C : Ctx) (t : TypeId) (len : Nat) (parts : List (Nat × AV)) : Option AV :=
  (C.D t).bind fun d => match d.kd with
  | .slice e => (C.D e).bind fun de =>
      if 0 < de.size ∧ len * de.size ≤ 2 ^ 24 ∧ (len = 0 ∨ de.zero.all AV.pure = true) then (go de (List.replicate len de.zero) parts).map fun es => .list es .full else none
  | _ => none
where
  go (de : TD) (es : List (List AV)) : List (Nat × AV) → Option (List (List AV))
  | [] => some es
  | (i, v) :: rest => (cellsOf v).bind fun l => if i < es.length ∧ l.length = de.size then (cleanAll l).bind fun l => go de (es.set i l) rest else none

def intKind : AV → Option (IntKind × Int)
  | .int k n => some (k, n)
  | _ => none

def aIndexAddr (C : Ctx) (t : TypeId) (σ : AS) (x i : AV) : Option AV := match i with
  | .int _ i => if i < 0 then none else (C.D t).bind fun d => match d.kd, x with
    | .slice e, .list es _ => (C.D e).bind fun de => (es[i.toNat]?).bind fun g => if g.length = de.size then some (.pp es i.toNat 0) else none
    | .slice e, .sl id off n => if i < n then (C.D e).bind fun de => (rowOf σ id).bind fun es => (es[off + i.toNat]?).bind fun g => if g.length = de.size then some (.ptr id (off + i.toNat) 0) else none else none
    | .array len e, .ptr id j o => (C.D e).bind fun de => if i < len then some (.ptr id j (o + i.toNat * de.size)) else none
    | .array len e, .pp es j o => (C.D e).bind fun de => if i < len then some (.pp es j (o + i.toNat * de.size)) else none
    | _, _ => none
  | _ => none

def aFieldAddr (C : Ctx) (t : TypeId) (x : AV) (f : Nat) : Option AV :=
  (C.D t).bind fun d => match d.kd with
  | .struct fs => (fs[f]?).bind fun (o, ft) => (C.D ft).bind fun df => if df.size = 0 then none else match x with
    | .ptr id i off => some (.ptr id i (off + o))
    | .pp es i off => some (.pp es i (off + o))
    | _ => none
  | _ => none

def aField (C : Ctx) (t : TypeId) (x : AV) (f : Nat) : Option AV :=
  (C.D t).bind fun d => match d.kd with
  | .struct fs => (fs[f]?).bind fun (o, ft) => match x with
    | .agg cs => (C.D ft).bind fun df => (cut cs o df.size).bind fun l => mkVal df l
    | _ => none
  | _ => none

def aIndex (C : Ctx) (t : TypeId) (x i : AV) : Option AV := match i with
  | .int _ i => if i < 0 then none else (C.D t).bind fun d => match d.kd, x with
    | .str, .str l => (l[i.toNat]?).map fun b => .int .u8 b.toNat
    | .array len e, .agg cs => if i < len then (C.D e).bind fun de => (cut cs (i.toNat * de.size) de.size).bind fun l => mkVal de l else none
    | _, _ => none
  | _ => none

def bytesLess : List UInt8 → List UInt8 → Bool
  | _, [] => false
  | [], _ :: _ => true
  | a :: x, b :: y => a < b || (a == b && bytesLess x y)

def aBin (op : BinOp) (x y : AV) : Option AV := match x, y with
  | .int k a, .int k' b => match op with
    | .shl => if b < 0 then none else some (.int k (k.wrap (a * 2 ^ (min b.toNat k.bits))))
    | .shr => if b < 0 then none else some (.int k (a.fdiv (2 ^ (min b.toNat k.bits))))
    | _ => if k = k' then match op with
      | .add => some (.int k (k.wrap (a + b)))
      | .sub => some (.int k (k.wrap (a - b)))
      | .mul => some (.int k (k.wrap (a * b)))
      | .quo => if b = 0 then none else some (.int k (k.wrap (a.tdiv b)))
      | .rem => if b = 0 then none else some (.int k (a.tmod b))
      | .and => some (.int k (k.wrap (BitVec.ofInt k.bits a &&& BitVec.ofInt k.bits b).toNat))
      | .or => some (.int k (k.wrap (BitVec.ofInt k.bits a ||| BitVec.ofInt k.bits b).toNat))
      | .xor => some (.int k (k.wrap (BitVec.ofInt k.bits a ^^^ BitVec.ofInt k.bits b).toNat))
      | .eql => some (.bool (a == b))
      | .neq => some (.bool (a != b))
      | .lss => some (.bool (decide (a < b)))
      | .leq => some (.bool (decide (a ≤ b)))
      | .gtr => some (.bool (decide (a > b)))
      | .geq => some (.bool (decide (a ≥ b)))
      | _ => none
      else none
  | .str a, .str b => match op with
    | .add => if a.length + b.length < 2 ^ 62 then some (.str (a ++ b)) else none
    | .eql => some (.bool (a == b))
    | .neq => some (.bool (!(a == b)))
    | .lss => some (.bool (bytesLess a b))
    | .leq => some (.bool (bytesLess a b || a == b))
    | .gtr => some (.bool (!(bytesLess a b || a == b)))
    | .geq => some (.bool (!bytesLess a b))
    | _ => none
  | .bool a, .bool b => match op with
    | .eql => some (.bool (a == b))
    | .neq => some (.bool (!(a == b)))
    | _ => none
  | _, _ => none

/-- Is a value of a type nil, where that is known? -/
def isNil : TK → AV → Option Bool
  | .ptr _, .nilp => some true
  | .ptr _, .ptr _ _ _ => some false
  | .ptr _, .pp _ _ _ => some false
  | .slice _, .list (_ :: _) _ => some false
  | .slice _, .list [] .nil => some true
  | .slice _, .list [] .full => some false
  | .slice _, .list [] (.tok _) => some false
  | .slice _, .sl _ _ _ => some false
  | .func, .nilf => some true
  | .func, .fn _ _ _ => some false
  | _, _ => none
def isNilConst : TK → AV → Bool
  | .ptr _, .nilp => true
  | .slice _, .list [] .nil => true
  | .func, .nilf => true
  | _, _ => false

/-- Structs whose cells are numbers, bools and texts. -/
def sameCell : AV → AV → Option Bool
  | .int k a, .int k' b => if k = k' then some (a == b) else none
  | .bool a, .bool b => some (a == b)
  | .str a, .str b => some (a == b)
  | _, _ => none
def sameCells : List AV → List AV → Option Bool
  | [], [] => some true
  | x :: xs, y :: ys => match sameCell x y, sameCells xs ys with | some a, some b => some (a && b) | _, _ => none
  | _, _ => none

def aBinT (C : Ctx) (op : BinOp) (t : TypeId) (x y : AV) : Option AV :=
  (C.D t).bind fun d => match d.kd with
  | .scal _ => (match x with | .int _ _ => aBin op x y | _ => none)
  | .str => (match x with | .str _ => aBin op x y | _ => none)
  | .bool => (match x with | .bool _ => aBin op x y | _ => none)
  | .struct _ => if C.eqs t then (match op, x, y with
    | .eql, .agg a, .agg b => (sameCells a b).map .bool
    | .neq, .agg a, .agg b => (sameCells a b).map fun b => .bool (!b)
    | _, _, _ => none) else none
  | k => if isNilConst k y then (match op with
    | .eql => (isNil k x).map .bool
    | .neq => (isNil k x).map fun b => .bool (!b)
    | _ => none) else none

def aUn (op : UnOp) (x : AV) : Option AV := match op, x with
  | .neg, .int k n => some (.int k (k.wrap (0 - n)))
  | .not, .bool b => some (.bool (!b))
  | _, _ => none

def byteOf : List AV → Option UInt8
  | [.int .u8 n] => some (UInt8.ofNat n.toNat)
  | _ => none
def bytesOf : List (List AV) → Option (List UInt8)
  | [] => some []
  | e :: es => match byteOf e, bytesOf es with | some b, some l => some (b :: l) | _, _ => none

def rowCut (σ : AS) (id off n : Nat) : Option (List (List AV)) :=
  (rowOf σ id).bind fun es => if off + n ≤ es.length then some ((es.drop off).take n) else none

/-- The elements of a slice. -/
def elems (σ : AS) : AV → Option (List (List AV))
  | .list es _ => some es
  | .sl id off n => rowCut σ id off n
  | _ => none

def kindOf (C : Ctx) (t : TypeId) : Option TK := (C.D t).map (·.kd)

def isByte (C : Ctx) (e : TypeId) : Bool := match kindOf C e with | some (.scal .u8) => true | _ => false

def aConvert (C : Ctx) (src dst : TypeId) (σ : AS) (x : AV) : Option AV := match x with
  | .int _ n => (match kindOf C src, kindOf C dst with | some _, some (.scal k) => some (.int k (k.wrap n)) | _, _ => none)
  | .str l => (match kindOf C src, kindOf C dst with | some .str, some .str => some (.str l) | _, _ => none)
  | x => (match kindOf C src, kindOf C dst with
    | some (.slice e), some .str => if isByte C e then (elems σ x).bind fun es => (bytesOf es).map .str else none
    | _, _ => none)

def bound (x : AV) (m : Nat) : Option Nat := match x with
  | .int _ i => if 0 ≤ i ∧ i ≤ m then some i.toNat else none
  | _ => none

def lenOf : AV → Option Nat
  | .list es _ => some es.length
  | .sl _ _ n => some n
  | .str l => some l.length
  | _ => none

def hiOf (hi : Option AV) (n : Nat) : Option Nat := match hi with | some h => bound h n | none => some n
def loOf (lo : Option AV) (h : Nat) : Option Nat := match lo with | some a => bound a h | none => some 0
def lensAre (n : Nat) (es : List (List AV)) : Bool := es.all fun e => e.length == n

def aSlice (C : Ctx) (t : TypeId) (σ : AS) (x : AV) (lo hi : Option AV) : Option AV :=
  (C.D t).bind fun d => match d.kd, x with
  | .str, .str l => (hiOf hi l.length).bind fun h => (loOf lo h).bind fun a => some (.str ((l.take h).drop a))
  | .slice e, .list es tl => (hiOf hi es.length).bind fun h => (loOf lo h).bind fun a => (C.D e).bind fun de =>
      if a = 0 ∨ lensAre de.size es = true then some (.list ((es.take h).drop a) (if hi.isNone then tl else .no)) else none
  | .slice e, .sl id off n => (hiOf hi n).bind fun h => (loOf lo h).bind fun a => (C.D e).bind fun de => (rowOf σ id).bind fun es =>
      if a = 0 ∨ (0 < es.length ∧ lensAre de.size es = true) then some (.sl id (off + a) (h - a)) else none
  | _, _ => none

/-- A slice of an array variable: the array itself is not told of any more. -/
def aSliceArr (C : Ctx) (t : TypeId) (σ : AS) (x : AV) (lo hi : Option AV) : Option (AV × AS) :=
  (C.D t).bind fun d => match d.kd, x with
  | .array n el, .ptr id 0 0 => (C.D el).bind fun de => match σ[id]? with
    | some (.row [g]) => if de.size = 1 ∧ g.length = n then (hiOf hi n).bind fun h => (loOf lo h).bind fun a => some (.sl σ.length a (h - a), σ.set id .dead ++ [AObj.row (g.map fun c => [c])]) else none
    | _ => none
  | _, _ => none

def aSliceAny (C : Ctx) (t : TypeId) (σ : AS) (x : AV) (lo hi : Option AV) : Option (AV × AS) := match kindOf C t with
  | some (.array _ _) => aSliceArr C t σ x lo hi
  | _ => match aSlice C t σ x lo hi with | some v => some (v, σ) | none => none

def aExtract (x : AV) (i : Nat) : Option AV := match x with | .tup vs => vs[i]? | _ => none

def evs (C : Ctx) (t : T) : List Operand → Option (List AV)
  | [] => some []
  | x :: xs => match ev C t x, evs C t xs with | some a, some as => some (a :: as) | _, _ => none

def evParts (C : Ctx) (t : T) : List (Nat × Operand) → Option (List (Nat × AV))
  | [] => some []
  | (i, x) :: xs => match ev C t x, evParts C t xs with | some a, some as => some ((i, a) :: as) | _, _ => none

def cleanEls : List (List AV) → Option (List (List AV))
  | [] => some []
  | e :: es => match cleanAll e, cleanEls es with | some x, some xs => some (x :: xs) | _, _ => none

/-- A row is written no more: it is read as a pure slice from now on. -/
def freezeCell (σ : AS) : AV → Option (AV × AS)
  | .sl id off n => match σ[id]? with
    | some (.row es) => match (if off + n ≤ es.length then cleanEls es else none) with
      | some cl => some (.list ((cl.drop off).take n) .no, σ.set id (.ro cl))
      | none => none
    | some (.ro es) => if off + n ≤ es.length then some (.list ((es.drop off).take n) .no, σ) else none
    | _ => none
  | v => (v.clean).map fun c => (c, σ)
def freezeCells : List AV → AS → Option (List AV × AS)
  | [], σ => some ([], σ)
  | c :: cs, σ => (freezeCell σ c).bind fun (c', σ') => (freezeCells cs σ').map fun (l, σ'') => (c' :: l, σ'')
def freezeElems : List (List AV) → AS → Option (List (List AV) × AS)
  | [], σ => some ([], σ)
  | e :: es, σ => (freezeCells e σ).bind fun (e', σ') => (freezeElems es σ').map fun (l, σ'') => (e' :: l, σ'')

/-- How many bytes a slice may take at most. -/
def room : Nat := 2 ^ 46

def strElems (l : List UInt8) : List (List AV) := l.map fun b => [.int .u8 b.toNat]

def srcElems (σ : AS) : AV → Option (List (List AV))
  | .str l => some (strElems l)
  | x => elems σ x

def aAppend (C : Ctx) (mq : Bool) (t : TypeId) (σ : AS) (s x : AV) : Option (AV × AS) :=
  (C.D t).bind fun d => match d.kd with
  | .slice e => (C.D e).bind fun de =>
    (srcElems σ x).bind fun new =>
    (elems σ s).bind fun old =>
    if new.length = 0 then some (s, σ)
    else if (old.length + new.length) * de.bytes ≤ room ∧ 0 < de.size ∧ 0 < de.bytes ∧ lensAre de.size old = true ∧ lensAre de.size new = true then
      match s with
      | .sl id _ _ => match σ[id]? with
        | some (.row es) => if new.all (fun e => e.all AV.isCell) = true ∧ 0 < es.length ∧ lensAre de.size es = true then some (.sl σ.length 0 (old.length + new.length), σ.set id .dead ++ [AObj.row (old ++ new)]) else none
        | _ => none
      | .list _ tl =>
        (match tl with
          | .no => none
          | .tok id => (match σ[id]? with | some (.tok z) => if mq then none else if z = de.size then some (σ.set id .dead) else none | _ => none)
          | _ => some σ).bind fun σ1 =>
          if mq then (if new.all (fun e => e.all AV.isCell) then some (.sl σ1.length 0 (old.length + new.length), σ1 ++ [AObj.row (old ++ new)]) else none)
          else (cleanEls new).bind fun cl => some (.list (old ++ cl) (.tok σ1.length), σ1 ++ [AObj.tok de.size])
      | _ => none
    else none
  | _ => none

def keyEq : AV → AV → Option Bool
  | .int k a, .int k' b => if k = k' then some (a == b) else none
  | .str a, .str b => some (a == b)
  | _, _ => none
def findKey (k : AV) : List (AV × AV) → Option (Option AV)
  | [] => some none
  | (k', v) :: r => match keyEq k k' with
    | some true => some (some v)
    | some false => findKey k r
    | none => none
def putKey (k v : AV) : List (AV × AV) → Option (List (AV × AV))
  | [] => some [(k, v)]
  | (k', v') :: r => match keyEq k k' with
    | some true => some ((k, v) :: r)
    | some false => (putKey k v r).map fun l => (k', v') :: l
    | none => none

def zeroOf (C : Ctx) (t : TypeId) : Option AV := (C.D t).bind fun d => mkVal d d.zero

/-- Is a key of the map's type of keys? -/
def keyOk (C : Ctx) (t : TypeId) (k : AV) : Bool := match kindOf C t, k with
  | some (.scal _), .int _ _ => true
  | some .str, .str _ => true
  | _, _ => false

def mapOf (σ : AS) : AV → Option (List (AV × AV))
  | .nilm => some []
  | .map id => match σ[id]? with | some (.map es) => some es | _ => none
  | _ => none

def aLookup (C : Ctx) (t : TypeId) (σ : AS) (m k : AV) (ok : Bool) : Option AV :=
  (C.D t).bind fun d => match d.kd with
  | .map kt e => if keyOk C kt k then (mapOf σ m).bind fun es =>
    (findKey k es).bind fun r => (match r with | some v => some v | none => zeroOf C e).bind fun v =>
      some (if ok then .tup [v, .bool r.isSome] else v)
    else none
  | _ => none

def aMapUpdate (C : Ctx) (t : TypeId) (σ : AS) (m k v : AV) : Option AS :=
  (C.D t).bind fun d => match d.kd with
  | .map kt _ => if keyOk C kt k then (match m with
    | .map id => (match σ[id]? with
      | some (.map es) => (putKey k v es).map fun es' => σ.set id (.map es')
      | _ => none)
    | _ => none) else none
  | _ => none

def aMakeSlice (C : Ctx) (t : TypeId) (σ : AS) (l c : AV) : Option (AV × AS) := match l, c with
  | .int .i64 l, .int .i64 c => if l = c ∧ 0 ≤ l then (C.D t).bind fun d => match d.kd with
      | .slice e => (C.D e).bind fun de => if l.toNat * de.bytes ≤ room ∧ l.toNat ≤ room ∧ 0 < de.size then some (.sl σ.length 0 l.toNat, σ ++ [AObj.row (List.replicate l.toNat de.zero)]) else none
      | _ => none
    else none
  | _, _ => none

def ints2 : List AV → Option (IntKind × Int × List Int)
  | [.int k a] => some (k, a, [])
  | .int k a :: rest => (ints2 rest).bind fun (k', b, l) => if k = k' then some (k, a, b :: l) else none
  | _ => none

def aLen (C : Ctx) (t : TypeId) (x : AV) : Option Nat := match kindOf C t with
  | some .str => (match x with | .str l => some l.length | _ => none)
  | some (.slice _) => (match x with | .list es _ => some es.length | .sl _ _ n => some n | _ => none)
  | _ => none
def aCap (C : Ctx) (t : TypeId) (x : AV) : Option Nat := match kindOf C t with
  | some (.slice _) => (match x with | .list [] .nil => some 0 | .list es .full => some es.length | _ => none)
  | _ => none

def aBuiltin (C : Ctx) (mq : Bool) (b : Builtin) (tys : List TypeId) (σ : AS) (args : List AV) : Option (AV × AS) := match b, tys, args with
  | .len, [t], [x] => (aLen C t x).map fun (n : Nat) => (.int .i64 (n : Int), σ)
  | .append, [t, t2], [s, x] => (match kindOf C t2 with | some (.slice _) => aAppend C mq t σ s x | some .str => aAppend C mq t σ s x | _ => none)
  | .min, _, args => (ints2 args).map fun (k, a, l) => (.int k (l.foldl (fun x y => if y < x then y else x) a), σ)
  | .max, _, args => (ints2 args).map fun (k, a, l) => (.int k (l.foldl (fun x y => if y > x then y else x) a), σ)
  | .cap, [t], [x] => (aCap C t x).map fun (n : Nat) => (.int .i64 (n : Int), σ)
  | _, _, _ => none

def val1 (σ : AS) (o : Option AV) : Option ANext := o.map fun v => .val v σ
def val2 (o : Option (AV × AS)) : Option ANext := o.map fun x => .val x.1 x.2

/-- One operation; 'mq': appends here make rows that are written to. -/
def aOp (C : Ctx) (mq : Bool) (t : T) (σ : AS) : Op → Option ANext
  | .move x | .assign x => val1 σ (ev C t x)
  | .pick c a b => (ev C t c).bind fun c => match c with | .bool c => val1 σ (ev C t (if c then a else b)) | _ => none
  | .alloc e => (C.D e).bind fun d => some (.val (aNew σ [d.zero]).1 (aNew σ [d.zero]).2)
  | .box _ x => (ev C t x).bind fun v => (cellsOf v).bind fun l => some (.val (aNew σ [l]).1 (aNew σ [l]).2)
  | .build ty parts => val1 σ ((evParts C t parts.toList).bind fun ps => aBuild C ty ps)
  | .buildSlice ty len parts => val1 σ ((evParts C t parts.toList).bind fun ps => aBuildSlice C ty len ps)
  | .load ty a => (ev C t a).bind fun a => val1 σ (aLoad C σ ty a)
  | .store ty a x => (ev C t a).bind fun a => (ev C t x).bind fun v => (aStore C σ ty a v).map fun σ' => .val .undef σ'
  | .nilCheck x => (ev C t x).bind fun v => match v with | .ptr _ _ _ | .pp _ _ _ | .fn _ _ _ => some (.val v σ) | _ => none
  | .binOp op ty x y _ => (ev C t x).bind fun x => (ev C t y).bind fun y => val1 σ (aBinT C op ty x y)
  | .unOp op _ x => (ev C t x).bind fun x => val1 σ (aUn op x)
  | .convert s d x => (ev C t x).bind fun x => val1 σ (aConvert C s d σ x)
  | .makeFunc (.func f) first cap => (evs C t first.toList).bind fun a => (evs C t cap.toList).bind fun b => some (.val (.fn f a b) σ)
  | .makeMap _ none => some (.val (.map σ.length) (σ ++ [AObj.map []]))
  | .makeSlice ty l c => (ev C t l).bind fun l => (ev C t c).bind fun c => val2 (aMakeSlice C ty σ l c)
  | .slice ty x lo hi none => (ev C t x).bind fun x =>
      (match lo with | none => some none | some o => (ev C t o).map some).bind fun lo =>
      (match hi with | none => some none | some o => (ev C t o).map some).bind fun hi => val2 (aSliceAny C ty σ x lo hi)
  | .fieldAddr ty x f => (ev C t x).bind fun x => val1 σ (aFieldAddr C ty x f)
  | .field ty x f => (ev C t x).bind fun x => val1 σ (aField C ty x f)
  | .indexAddr ty x i => (ev C t x).bind fun x => (ev C t i).bind fun i => val1 σ (aIndexAddr C ty σ x i)
  | .index ty x i => (ev C t x).bind fun x => (ev C t i).bind fun i => val1 σ (aIndex C ty x i)
  | .lookup ty m k ok => (ev C t m).bind fun m => (ev C t k).bind fun k => val1 σ (aLookup C ty σ m k ok)
  | .mapUpdate ty m k x | .insert ty m k x => (ev C t m).bind fun m => (ev C t k).bind fun k => (ev C t x).bind fun x => (aMapUpdate C ty σ m k x).map fun σ' => .val .undef σ'
  | .extract x i => (ev C t x).bind fun x => val1 σ (aExtract x i)
  | .call { callee := .builtin b, args, argTypes } => (evs C t args.toList).bind fun as => val2 (aBuiltin C mq b argTypes.toList σ as)
  | .call { callee := .value f, args, .. } => (ev C t f).bind fun f => (evs C t args.toList).bind fun as => match f with
      | .fn g first cap => if (C.F g).isSome then some (.enter g (first ++ as ++ cap)) else (C.ext g).bind fun h => val1 σ (h (first ++ as ++ cap))
      | _ => none
  | _ => none

end Go.W
