/-
  THE ABSTRACT MACHINE, part 1: values, store, operations, and their meaning as Lean functions. No program in sight.
-/
import Derived.Calls
namespace Go.Proofs.Ytmocplkpnickgaa.Am
open Go
set_option linter.unusedVariables false
set_option linter.unusedSimpArgs false

/-- A value of the abstract machine. 'f..': a piece of memory that nobody writes any more, told by what it holds; by 'id': an object of the store. -/
inductive AVal where
  | undef
  | bool (b : Bool)
  | int (k : IntKind) (n : Int)
  | str (s : List UInt8)
  | nilptr
  | ptr (id off : Nat)
  | eptr (id ep i off : Nat)
  | fptr (tag : Nat) (cells : List AVal) (off : Nat)
  | nilslice
  | slice (sz id ep off len : Nat) (cap : Option Nat)
  | fslice (tag : Nat) (full : Bool) (sz : Nat) (es : List AVal)
  | nilmap
  | map (id : Nat)
  | fmap (tag : Nat) (ks vs : List AVal)
  | func (f : FuncId) (first caps : List AVal)
  | nilfunc
  | nilIface
  | iface (t : TypeId) (v : AVal)
  | agg (cells : List AVal)
  | tuple (vs : List AVal)
  deriving Inhabited

/-- An object of the store: a variable's cells; an array (its elements, each of sz cells; how often it has grown; since when it has not been written) ; a map. -/
inductive AObj where
  | cells (cs : List AVal)
  | arr (sz : Nat) (es : List AVal) (ep fl : Nat)
  | map (ks vs : List AVal)
  deriving Inhabited

namespace AVal
@[simp] def cells : AVal → List AVal
  | .agg cs => cs
  | v => [v]
/-- one cell's value -/
@[simp] def one : AVal → Bool
  | .agg _ | .tuple _ | .undef => false
  | _ => true
mutual
/-- no object of the store is in it -/
@[simp] def pure : AVal → Bool
  | .ptr .. | .eptr .. | .slice .. | .map _ | .undef => false
  | .agg cs => pureL cs
  | .tuple cs => pureL cs
  | .iface _ v => pure v
  | .func _ a b => pureL a && pureL b
  | _ => true
@[simp] def pureL : List AVal → Bool
  | [] => true
  | v :: vs => pure v && pureL vs
end
mutual
/-- the depth from which on what it holds may be written again -/
@[simp] def tag : AVal → Nat
  | .fptr t _ _ | .fslice t _ _ _ | .fmap t _ _ => t
  | .agg cs => tagL cs
  | .tuple cs => tagL cs
  | .iface _ v => tag v
  | .func _ a b => max (tagL a) (tagL b)
  | _ => 0
@[simp] def tagL : List AVal → Nat
  | [] => 0
  | v :: vs => max (tag v) (tagL vs)
end
/-- an element's cells put back into its form -/
@[simp] def reform : AVal → List AVal → AVal
  | .agg _, cs => .agg cs
  | _, [c] => c
  | _, _ => .undef
end AVal

/-- An operand. -/
inductive Opnd where
  | tmp (t : Nat)
  | const (v : AVal)
  | glob (g : Nat)
  deriving Inhabited

/-- What a compared cell is. -/
inductive EK where
  | i | s | b
  deriving DecidableEq, Inhabited

/-- What is held against nil. -/
inductive NK where
  | p | s | m | f | i
  deriving DecidableEq, Inhabited

/-- How a call is done: 'shared': in the caller's store; 'iso': in a store of its own, its answer told by what it holds. -/
inductive Mode where
  | shared | iso
  deriving Inhabited

inductive AOp where
  | move (x : Opnd)
  | pick (c a b : Opnd)
  | alloc (z : List AVal)
  | box (x : Opnd)
  | build (z : List AVal) (parts : List (Nat × Nat × Opnd))
  | lit (sz : Nat) (z : List AVal) (agg : Bool) (n : Nat) (parts : List (Nat × Opnd))
  | litA (sz : Nat) (z : List AVal) (agg : Bool) (n : Nat) (parts : List (Nat × Opnd))
  | load (n : Nat) (agg : Bool) (a : Opnd)
  | store (n : Nat) (a v : Opnd)
  | nilCheck (x : Opnd)
  | iop (op : BinOp) (x y : Opnd)
  | sop (op : BinOp) (x y : Opnd)
  | bop (neg : Bool) (x y : Opnd)
  | eqs (neg : Bool) (ks : List EK) (x y : Opnd)
  | eqnil (neg : Bool) (k : NK) (x : Opnd)
  | not (x : Opnd)
  | neg (x : Opnd)
  | convI (k : IntKind) (x : Opnd)
  | sliceOp (sz : Nat) (x : Opnd) (lo hi mx : Option Opnd)
  | substr (x : Opnd) (lo hi : Option Opnd)
  | faddr (off : Nat) (x : Opnd)
  | field (off n : Nat) (agg : Bool) (x : Opnd)
  | iaddr (sz : Nat) (x i : Opnd)
  | aaddr (len sz : Nat) (x i : Opnd)
  | strIdx (x i : Opnd)
  | arrIdx (len sz : Nat) (agg : Bool) (x i : Opnd)
  | lenS (x : Opnd)
  | lenStr (x : Opnd)
  | lenM (x : Opnd)
  | lenA (n : Nat)
  | capS (x : Opnd)
  | minI (xs : List Opnd)
  | maxI (xs : List Opnd)
  | append (sz bytes : Nat) (x y : Opnd)
  | appendz (sz bytes : Nat) (z : List AVal) (agg : Bool) (x y : Opnd)
  | mkslice (sz bytes : Nat) (z : List AVal) (agg : Bool) (len cap : Opnd)
  | extract (x : Opnd) (i : Nat)
  | mkfunc (f : FuncId) (first caps : List Opnd)
  | mkmap
  | lookup (agg : Bool) (ks : List EK) (z : AVal) (x k : Opnd) (ok : Bool)
  | mapset (agg : Bool) (ks : List EK) (m k v : Opnd)
  | mapdel (agg : Bool) (ks : List EK) (m k : Opnd)
  | mkiface (t : TypeId) (x : Opnd)
  | call (m : Mode) (f : FuncId) (args : List Opnd)
  | callv (m : Mode) (f : Opnd) (args : List Opnd)
  | fail
  deriving Inhabited

structure AOper where
  dst : Option Nat
  op : AOp
  guard : Option (Nat × Bool)
  deriving Inhabited

inductive ACode where
  | skip
  | region (ops : List AOper)
  | drawn (ops : List AOper) (pairs : List (Nat × Nat))
  | seq (a b : ACode)
  | cond (c : Opnd) (a b : ACode)
  | block (id : Nat) (c : ACode)
  | loop (live : List Nat) (c : ACode)
  | exit (id : Nat)
  | ret
  | stop
  deriving Inhabited

inductive ARes where
  | tmp (t : Nat)
  | cell (t : Nat) (n : Nat) (agg : Bool)
  deriving Inhabited

structure AFunc where
  ntmps : Nat
  body : ACode
  results : List ARes
  deriving Inhabited

abbrev Store := List AObj

/-! ### what the operations do -/

@[simp] def ld (cs : List AVal) (off n : Nat) (agg : Bool) : Option AVal :=
  if agg then (if off + n ≤ cs.length then some (.agg ((cs.drop off).take n)) else none) else cs[off]?

@[simp] def intOp (op : BinOp) (k : IntKind) (a b : Int) : Option AVal :=
  match op with
  | .add => some (.int k (k.wrap (a + b)))
  | .sub => some (.int k (k.wrap (a - b)))
  | .mul => some (.int k (k.wrap (a * b)))
  | .quo => if b = 0 then none else some (.int k (k.wrap (a.tdiv b)))
  | .rem => if b = 0 then none else some (.int k (a.tmod b))
  | .and => some (.int k (k.wrap (BitVec.ofInt k.bits a &&& BitVec.ofInt k.bits b).toNat))
  | .or => some (.int k (k.wrap (BitVec.ofInt k.bits a ||| BitVec.ofInt k.bits b).toNat))
  | .xor => some (.int k (k.wrap (BitVec.ofInt k.bits a ^^^ BitVec.ofInt k.bits b).toNat))
  | .andNot => some (.int k (k.wrap (BitVec.ofInt k.bits a &&& ~~~ BitVec.ofInt k.bits b).toNat))
  | .eql => some (.bool (a == b))
  | .neq => some (.bool (a != b))
  | .lss => some (.bool (decide (a < b)))
  | .leq => some (.bool (decide (a ≤ b)))
  | .gtr => some (.bool (decide (a > b)))
  | .geq => some (.bool (decide (a ≥ b)))
  | _ => none

@[simp] def shOp (op : BinOp) (k : IntKind) (a b : Int) : Option AVal :=
  if b < 0 then none else
  match op with
  | .shl => some (.int k (k.wrap (a * 2 ^ (min b.toNat k.bits))))
  | .shr => some (.int k (a.fdiv (2 ^ (min b.toNat k.bits))))
  | _ => none

@[simp] def isShift : BinOp → Bool
  | .shl | .shr => true
  | _ => false

@[simp] def iopV (op : BinOp) : AVal → AVal → Option AVal
  | .int k a, .int k' b => if isShift op then shOp op k a b else if k = k' then intOp op k a b else none
  | _, _ => none

def strLim : Nat := 2 ^ 46

@[simp] def sopV (op : BinOp) : AVal → AVal → Option AVal
  | .str a, .str b =>
    match op with
    | .add => if a.length + b.length ≤ strLim then some (.str (a ++ b)) else none
    | .eql => some (.bool (a == b))
    | .neq => some (.bool !(a == b))
    | .lss => some (.bool (Op.bytesLess a b))
    | .leq => some (.bool (Op.bytesLess a b || a == b))
    | .gtr => some (.bool !(Op.bytesLess a b || a == b))
    | .geq => some (.bool !(Op.bytesLess a b))
    | _ => none
  | _, _ => none

@[simp] def cellEq : EK → AVal → AVal → Option Bool
  | .i, .int k a, .int k' b => if k = k' then some (a == b) else none
  | .s, .str a, .str b => some (a == b)
  | .b, .bool a, .bool b => some (a == b)
  | _, _, _ => none

@[simp] def cellsEq : List EK → List AVal → List AVal → Option Bool
  | [], [], [] => some true
  | k :: ks, a :: as, b :: bs =>
    match cellEq k a b, cellsEq ks as bs with
    | some x, some y => some (x && y)
    | _, _ => none
  | _, _, _ => none

@[simp] def eqsV (ks : List EK) : AVal → AVal → Option Bool
  | .agg a, .agg b => cellsEq ks a b
  | _, _ => none

@[simp] def isNil : NK → AVal → Option Bool
  | .p, .nilptr => some true
  | .p, .ptr .. => some false
  | .p, .eptr .. => some false
  | .p, .fptr .. => some false
  | .s, .nilslice => some true
  | .s, .slice .. => some false
  | .s, .fslice .. => some false
  | .m, .nilmap => some true
  | .m, .map _ => some false
  | .m, .fmap .. => some false
  | .f, .nilfunc => some true
  | .f, .func .. => some false
  | .i, .nilIface => some true
  | .i, .iface .. => some false
  | _, _ => none

/-- a bound: from 0 to y -/
@[simp] def bnd (y : Nat) : AVal → Option Nat
  | .int _ i => if 0 ≤ i ∧ i ≤ y then some i.toNat else none
  | _ => none

@[simp] def obnd (d y : Nat) : Option AVal → Option Nat
  | none => some d
  | some v => bnd y v

@[simp] def sliceV (sz : Nat) (x : AVal) (lo hi mx : Option AVal) : Option AVal :=
  match x with
  | .nilslice =>
    match obnd 0 0 mx, obnd 0 0 hi, obnd 0 0 lo with
    | some _, some _, some _ => some .nilslice
    | _, _, _ => none
  | .fslice tag full sz' es =>
    if sz' = sz then
      match obnd es.length es.length mx with
      | some m => match obnd es.length m hi with
        | some h => match obnd 0 h lo with
          | some l => if mx.isNone || m == h then some (.fslice tag (if mx.isNone then full && h == es.length else true) sz ((es.take h).drop l)) else none
          | none => none
        | none => none
      | none => none
    else none
  | .slice sz' id ep off len cap =>
    if sz' = sz then
      match obnd (cap.getD len) (cap.getD len) mx with
      | some m => match obnd len m hi with
        | some h => match obnd 0 h lo with
          | some l => some (.slice sz id ep (off + l) (h - l) (if mx.isNone then cap.map (· - l) else some (m - l)))
          | none => none
        | none => none
      | none => none
    else none
  | _ => none

@[simp] def substrV (x : AVal) (lo hi : Option AVal) : Option AVal :=
  match x with
  | .str s =>
    match obnd s.length s.length hi with
    | some h => match obnd 0 h lo with
      | some l => some (.str ((s.take h).drop l))
      | none => none
    | none => none
  | _ => none

@[simp] def faddrV (o : Nat) : AVal → Option AVal
  | .ptr id off => some (.ptr id (off + o))
  | .eptr id ep i off => some (.eptr id ep i (off + o))
  | .fptr t cs off => some (.fptr t cs (off + o))
  | _ => none

@[simp] def iaddrV (sz : Nat) : AVal → AVal → Option AVal
  | .fslice t _ sz' es, .int _ i =>
    if sz' = sz ∧ 0 ≤ i then
      match es[i.toNat]? with
      | some e => some (.fptr t e.cells 0)
      | none => none
    else none
  | .slice sz' id ep off len _, .int _ i => if sz' = sz ∧ 0 ≤ i ∧ i < len then some (.eptr id ep (off + i.toNat) 0) else none
  | _, _ => none

@[simp] def aaddrV (len sz : Nat) : AVal → AVal → Option AVal
  | p, .int _ i => if 0 ≤ i ∧ i < len then faddrV (i.toNat * sz) p else none
  | _, _ => none

@[simp] def strIdxV : AVal → AVal → Option AVal
  | .str s, .int _ i => if 0 ≤ i then (s[i.toNat]?).map fun b => .int .u8 b.toNat else none
  | _, _ => none

@[simp] def arrIdxV (len sz : Nat) (agg : Bool) : AVal → AVal → Option AVal
  | .agg cs, .int _ i => if 0 ≤ i ∧ i < len then ld cs (i.toNat * sz) sz agg else none
  | _, _ => none

@[simp] def lenSV : AVal → Option Nat
  | .nilslice => some 0
  | .fslice _ _ _ es => some es.length
  | .slice _ _ _ _ len _ => some len
  | _ => none

@[simp] def capSV : AVal → Option Nat
  | .nilslice => some 0
  | .fslice _ true _ es => some es.length
  | .slice _ _ _ _ _ (some c) => some c
  | _ => none

@[simp] def lenMV (σ : Store) : AVal → Option Nat
  | .nilmap => some 0
  | .fmap _ ks _ => some ks.length
  | .map id => match σ[id]? with
    | some (.map ks _) => some ks.length
    | _ => none
  | _ => none

@[simp] def minV : AVal → AVal → Option AVal
  | .int k a, .int k' b => if k = k' then some (.int k (if b < a then b else a)) else none
  | _, _ => none
@[simp] def maxV : AVal → AVal → Option AVal
  | .int k a, .int k' b => if k = k' then some (.int k (if b > a then b else a)) else none
  | _, _ => none

@[simp] def foldV (f : AVal → AVal → Option AVal) : AVal → List AVal → Option AVal
  | a, [] => some a
  | a, b :: r => match f a b with
    | some c => foldV f c r
    | none => none

/-- a new literal's parts put in their places -/
@[simp] def fillA : List AVal → List (Nat × Nat × AVal) → Option (List AVal)
  | cs, [] => some cs
  | cs, (off, n, v) :: r =>
    if v.cells.length = n ∧ v.cells.all AVal.one = true ∧ off + n ≤ cs.length then fillA (cs.take off ++ v.cells ++ cs.drop (off + n)) r else none

@[simp] def isAggV : AVal → Bool
  | .agg _ => true
  | _ => false

@[simp] def fillE (sz : Nat) (agg : Bool) : List AVal → List (Nat × AVal) → Option (List AVal)
  | es, [] => some es
  | es, (i, v) :: r =>
    if v.cells.length = sz ∧ isAggV v = agg ∧ v.cells.all AVal.one = true ∧ v.pure = true ∧ i < es.length then fillE sz agg (es.set i v) r else none

/-- the same, its elements may lie in the store -/
@[simp] def fillL (sz : Nat) (agg : Bool) : List AVal → List (Nat × AVal) → Option (List AVal)
  | es, [] => some es
  | es, (i, v) :: r =>
    if v.cells.length = sz ∧ isAggV v = agg ∧ v.cells.all AVal.one = true ∧ i < es.length then fillL sz agg (es.set i v) r else none

@[simp] def zel (z : List AVal) (agg : Bool) : AVal := if agg then .agg z else z.headD .undef

/-- what a pointer leads to: the cells, and the place in them -/
@[simp] def behind (σ : Store) : AVal → Option (List AVal × Nat)
  | .ptr id off => match σ[id]? with
    | some (.cells cs) => some (cs, off)
    | _ => none
  | .eptr id ep i off => match σ[id]? with
    | some (.arr _ es _ fl) => if fl ≤ ep then (es[i]?).map fun e => (e.cells, off) else none
    | _ => none
  | .fptr _ cs off => some (cs, off)
  | _ => none

@[simp] def loadV (σ : Store) (n : Nat) (agg : Bool) (a : AVal) : Option AVal :=
  match behind σ a with
  | some (cs, off) => ld cs off n agg
  | none => none

@[simp] def splice (cs : List AVal) (off : Nat) (new : List AVal) : List AVal := cs.take off ++ new ++ cs.drop (off + new.length)

@[simp] def storeV (σ : Store) (n : Nat) (a v : AVal) : Option Store :=
  if v.cells.length = n ∧ v.cells.all AVal.one then
    match a with
    | .ptr id off => match σ[id]? with
      | some (.cells cs) => if off + n ≤ cs.length then some (σ.set id (.cells (splice cs off v.cells))) else none
      | _ => none
    | .eptr id ep i off => match σ[id]? with
      | some (.arr sz es ep' _) =>
        match es[i]? with
        | some e => if ep = ep' ∧ off + n ≤ e.cells.length then some (σ.set id (.arr sz (es.set i (e.reform (splice e.cells off v.cells))) ep' ep')) else none
        | none => none
      | _ => none
    | _ => none
  else none

/-- the elements that a slice shows -/
@[simp] def elems (sz : Nat) (σ : Store) : AVal → Option (List AVal)
  | .nilslice => some []
  | .fslice _ _ sz' es => if sz' = sz then some es else none
  | .slice sz' id ep off len _ => match σ[id]? with
    | some (.arr _ es _ fl) => if sz' = sz ∧ fl ≤ ep then some ((es.drop off).take len) else none
    | _ => none
  | _ => none

def apLim : Nat := 2 ^ 46

/-- x with the elements ys behind its own; ys is not empty -/
@[simp] def growV (σ : Store) (sz bytes : Nat) (x : AVal) (ys : List AVal) : Option (AVal × Store) :=
  match x with
  | .nilslice =>
    if ys.length * bytes ≤ apLim then some (.slice sz σ.length 0 0 ys.length none, σ ++ [.arr sz ys 0 0]) else none
  | .fslice _ full sz' es =>
    if full = true ∧ sz' = sz ∧ (es.length + ys.length) * bytes ≤ apLim then
      some (.slice sz σ.length 0 0 (es.length + ys.length) none, σ ++ [.arr sz (es ++ ys) 0 0]) else none
  | .slice sz2 id ep off len cap =>
    match σ[id]? with
    | some (.arr sz' es ep' fl) =>
      if sz2 = sz ∧ sz' = sz ∧ (len + ys.length) * bytes ≤ apLim ∧ fl ≤ ep then
        if (cap.getD (es.length - off)) < len + ys.length then
          match cap with
          | some _ => some (.slice sz σ.length 0 0 (len + ys.length) none, σ ++ [.arr sz ((es.drop off).take len ++ ys) 0 0])
          | none => if ep = ep' ∧ len = es.length ∧ off = 0 then some (.slice sz id (ep + 1) 0 (len + ys.length) none, σ.set id (.arr sz (es ++ ys) (ep + 1) fl)) else none
        else if ep = ep' then
          some (.slice sz id ep off (len + ys.length) cap, σ.set id (.arr sz (es.take (off + len) ++ ys ++ es.drop (off + len + ys.length)) ep ep))
        else none
      else none
    | _ => none
  | _ => none

@[simp] def isSlice : AVal → Bool
  | .nilslice | .fslice .. | .slice .. => true
  | _ => false

@[simp] def appendV (σ : Store) (sz bytes : Nat) (x : AVal) (ys : List AVal) : Option (AVal × Store) :=
  if ys.isEmpty then (if isSlice x then some (x, σ) else none) else growV σ sz bytes x ys

/-! maps: by their keys -/

@[simp] def isAggK : AVal → Bool
  | .agg _ => true
  | _ => false

@[simp] def keyEq (agg : Bool) (ks : List EK) (a b : AVal) : Option Bool := if isAggK a = agg ∧ isAggK b = agg then cellsEq ks a.cells b.cells else none

@[simp] def findK (agg : Bool) (q : List EK) (k : AVal) : List AVal → Option (Option Nat)
  | [] => some none
  | e :: es => match keyEq agg q k e with
    | some true => some (some 0)
    | some false => match findK agg q k es with
      | some (some i) => some (some (i + 1))
      | some none => some none
      | none => none
    | none => none

@[simp] def findKK (agg : Bool) (q : List EK) (k : AVal) (es : List AVal) : Option (Option Nat) :=
  if (keyEq agg q k k).isSome = true then findK agg q k es else none

@[simp] def mapOf (σ : Store) : AVal → Option (List AVal × List AVal)
  | .nilmap => some ([], [])
  | .fmap _ ks vs => some (ks, vs)
  | .map id => match σ[id]? with
    | some (.map ks vs) => some (ks, vs)
    | _ => none
  | _ => none

@[simp] def lookupV (σ : Store) (agg : Bool) (q : List EK) (z x k : AVal) (ok : Bool) : Option AVal :=
  match mapOf σ x with
  | some (ks, vs) =>
    match findKK agg q k ks with
    | some (some i) => (vs[i]?).map fun v => if ok then .tuple [v, .bool true] else v
    | some none => some (if ok then .tuple [z, .bool false] else z)
    | none => none
  | none => none

@[simp] def mapsetV (σ : Store) (agg : Bool) (q : List EK) (m k v : AVal) : Option Store :=
  match m with
  | .map id => match σ[id]? with
    | some (.map ks vs) =>
      match findKK agg q k ks with
      | some (some i) => some (σ.set id (.map ks (vs.set i v)))
      | some none => some (σ.set id (.map (ks ++ [k]) (vs ++ [v])))
      | none => none
    | _ => none
  | _ => none

@[simp] def mapdelV (σ : Store) (agg : Bool) (q : List EK) (m k : AVal) : Option Store :=
  match m with
  | .nilmap => match findKK agg q k [] with
    | some _ => some σ
    | none => none
  | .map id => match σ[id]? with
    | some (.map ks vs) =>
      match findKK agg q k ks with
      | some (some i) => some (σ.set id (.map (ks.eraseIdx i) (vs.eraseIdx i)))
      | some none => some σ
      | none => none
    | _ => none
  | _ => none

/-! ### a value told by what it holds -/

@[simp] def mapO {α β : Type} (f : α → Option β) : List α → Option (List β)
  | [] => some []
  | v :: vs => match f v, mapO f vs with
    | some v', some vs' => some (v' :: vs')
    | _, _ => none

def frz (σ : Store) (t : Nat) : Nat → AVal → Option AVal
  | 0, _ => none
  | n + 1, v =>
    match v with
    | .ptr id off => match σ[id]? with
      | some (.cells cs) => match mapO (frz σ t n) cs with
        | some cs' => some (.fptr (max t (AVal.tagL cs')) cs' off)
        | none => none
      | _ => none
    | .eptr id ep i off => match σ[id]? with
      | some (.arr _ es _ fl) => if fl ≤ ep then
          match es[i]? with
          | some e => match mapO (frz σ t n) e.cells with
            | some cs' => some (.fptr (max t (AVal.tagL cs')) cs' off)
            | none => none
          | none => none
        else none
      | _ => none
    | .slice _ id ep off len cap => match σ[id]? with
      | some (.arr sz es _ fl) => if fl ≤ ep then
          match mapO (frz σ t n) ((es.drop off).take len) with
          | some es' => some (.fslice (max t (AVal.tagL es')) (cap == some len) sz es')
          | none => none
        else none
      | _ => none
    | .map id => match σ[id]? with
      | some (.map ks vs) => match mapO (frz σ t n) ks, mapO (frz σ t n) vs with
        | some ks', some vs' => some (.fmap (max t (max (AVal.tagL ks') (AVal.tagL vs'))) ks' vs')
        | _, _ => none
      | _ => none
    | .agg cs => (mapO (frz σ t n) cs).map .agg
    | .tuple cs => (mapO (frz σ t n) cs).map .tuple
    | .iface ty v => (frz σ t n v).map (.iface ty)
    | .func f a b => match mapO (frz σ t n) a, mapO (frz σ t n) b with
      | some a', some b' => some (.func f a' b')
      | _, _ => none
    | .undef => none
    | v => some v

end Go.Proofs.Ytmocplkpnickgaa.Am
