/-
  The abstract machine and the functions of the law, 1: texts put together.
-/
import Derived.Calls
import Derived.Laws.Cells
import Derived.Laws.Entries
import Derived.Laws.Slices
import Derived.Laws.Strings
import Derived.Laws.Concat
import Derived.Laws.StructEq
set_option linter.unusedVariables false
set_option linter.unusedSimpArgs false
set_option linter.unusedSectionVars false
set_option maxRecDepth 100000
namespace Go.Proofs.YtbbekbjcmnopjaaGreatDoor.Am
open Go
theorem Za : type_of% (@Bool.false_eq_true) := @Bool.false_eq_true
theorem Zb : type_of% (@Bool.true_eq_false) := @Bool.true_eq_false
theorem Zc : type_of% (@Bool.not_true) := @Bool.not_true
theorem Zd : type_of% (@Bool.not_false) := @Bool.not_false
theorem Ze.{u} : type_of% (@if_true.{u}) := @if_true.{u}
theorem Zf.{u} : type_of% (@if_false.{u}) := @if_false.{u}
theorem Zg.{u} : type_of% (@ite_true.{u}) := @ite_true.{u}
theorem Zh.{u} : type_of% (@ite_false.{u}) := @ite_false.{u}
theorem Zi : type_of% (@true_and) := @true_and
theorem Zj.{u,v} : type_of% (@List.map_cons.{u,v}) := @List.map_cons.{u,v}
theorem Zk.{u,v} : type_of% (@List.map_nil.{u,v}) := @List.map_nil.{u,v}
theorem Zl : type_of% (@Nat.zero_add) := @Nat.zero_add
inductive AVal where
 | undef
 | bool (b : Bool)
 | int (k : IntKind) (n : Int)
 | str (s : List UInt8)
 | nilptr
 | ptr (id off : Nat)
 | eptr (id ep i off : Nat)
 | fptr (tag : Nat) (cells : List AVal) (off : Nat)
 | nilslice
 | slice (sz id ep off len : Nat) (cap : Option Nat)
 | cslice (id off sz len : Nat)
 | fslice (tag : Nat) (full : Bool) (sz : Nat) (es : List AVal)
 | nilmap
 | map (id : Nat)
 | eiter (id : Nat)
 | fmap (tag : Nat) (ks vs : List AVal)
 | func (f : FuncId) (first caps : List AVal)
 | nilfunc
 | nilIface
 | iface (t : TypeId) (v : AVal)
 | agg (cells : List AVal)
 | tuple (vs : List AVal)
 deriving Inhabited
inductive AObj where
 | cells (cs : List AVal)
 | arr (sz : Nat) (es : List AVal) (ep fl : Nat)
 | map (ks vs : List AVal)
 deriving Inhabited
namespace AVal
@[simp] def cells : AVal → List AVal
 | .agg cs => cs
 | v => [v]
@[simp] def one : AVal → Bool
 | .agg _ | .tuple _ | .undef => false
 | _ => true
mutual
@[simp] def pure : AVal → Bool
 | .ptr .. | .eptr .. | .slice .. | .cslice .. | .map _ | .eiter _ | .undef => false
 | .agg cs => pureL cs
 | .tuple cs => pureL cs
 | .iface _ v => pure v
 | .func _ a b => pureL a && pureL b
 | .fptr _ cs _ => pureL cs
 | .fslice _ _ _ es => pureL es
 | _ => true
@[simp] def pureL : List AVal → Bool
 | [] => true
 | v :: vs => pure v && pureL vs
end
mutual
@[simp] def tag : AVal → Nat
 | .fptr t _ _ | .fslice t _ _ _ | .fmap t _ _ => t
 | .agg cs => tagL cs
 | .tuple cs => tagL cs
 | .iface _ v => tag v
 | .func _ a b => max (tagL a) (tagL b)
 | _ => 0
@[simp] def tagL : List AVal → Nat
 | [] => 0
 | v :: vs => max (tag v) (tagL vs)
end
@[simp] def reform : AVal → List AVal → AVal
 | .agg _,cs => .agg cs
 | _,[c] => c
 | _,_ => .undef
end AVal
inductive Opnd where
 | tmp (t : Nat)
 | const (v : AVal)
 | glob (g : Nat)
 deriving Inhabited
inductive EK where
 | i | s | b
 deriving DecidableEq,Inhabited
inductive NK where
 | p | s | m | f | i
 deriving DecidableEq,Inhabited
inductive Mode where
 | shared | iso
 deriving Inhabited
inductive AOp where
 | move (x : Opnd)
 | pick (c a b : Opnd)
 | alloc (z : List AVal)
 | box (x : Opnd)
 | build (z : List AVal) (parts : List (Nat × Nat × Opnd))
 | lit (sz : Nat) (z : List AVal) (agg : Bool) (n : Nat) (parts : List (Nat × Opnd))
 | litA (sz : Nat) (z : List AVal) (agg : Bool) (n : Nat) (parts : List (Nat × Opnd))
 | load (n : Nat) (agg : Bool) (a : Opnd)
 | store (n : Nat) (a v : Opnd)
 | nilCheck (x : Opnd)
 | iop (op : BinOp) (x y : Opnd)
 | sop (op : BinOp) (x y : Opnd)
 | bop (neg : Bool) (x y : Opnd)
 | eqs (neg : Bool) (ks : List EK) (x y : Opnd)
 | eqnil (neg : Bool) (k : NK) (x : Opnd)
 | not (x : Opnd)
 | neg (x : Opnd)
 | convI (k : IntKind) (x : Opnd)
 | sliceOp (sz : Nat) (x : Opnd) (lo hi mx : Option Opnd)
 | substr (x : Opnd) (lo hi : Option Opnd)
 | gslice (n sz : Nat) (x : Opnd)
 | faddr (off : Nat) (x : Opnd)
 | field (off n : Nat) (agg : Bool) (x : Opnd)
 | iaddr (sz : Nat) (x i : Opnd)
 | aaddr (len sz : Nat) (x i : Opnd)
 | strIdx (x i : Opnd)
 | arrIdx (len sz : Nat) (agg : Bool) (x i : Opnd)
 | lenS (x : Opnd)
 | lenStr (x : Opnd)
 | lenM (x : Opnd)
 | lenA (n : Nat)
 | capS (x : Opnd)
 | minI (xs : List Opnd)
 | maxI (xs : List Opnd)
 | append (sz bytes : Nat) (x y : Opnd)
 | appendz (sz bytes : Nat) (z : List AVal) (agg : Bool) (x y : Opnd)
 | mkslice (sz bytes : Nat) (z : List AVal) (agg : Bool) (len cap : Opnd)
 | extract (x : Opnd) (i : Nat)
 | mkfunc (f : FuncId) (first caps : List Opnd)
 | mkmap
 | lookup (agg : Bool) (ks : List EK) (z : AVal) (x k : Opnd) (ok : Bool)
 | mapset (agg : Bool) (ks : List EK) (m k v : Opnd)
 | mapdel (agg : Bool) (ks : List EK) (m k : Opnd)
 | clr (sz : Nat) (z : List AVal) (agg : Bool) (x : Opnd)
 | rangeM (x : Opnd)
 | nextM (x : Opnd)
 | mkiface (t : TypeId) (x : Opnd)
 | call (m : Mode) (f : FuncId) (args : List Opnd)
 | callv (m : Mode) (f : Opnd) (args : List Opnd)
 | fail
 deriving Inhabited
structure AOper where
 dst : Option Nat
 op : AOp
 guard : Option (Nat × Bool)
 deriving Inhabited
inductive ACode where
 | skip
 | region (ops : List AOper)
 | drawn (ops : List AOper) (pairs : List (Nat × Nat))
 | ahead (ops : List AOper) (pairs : List (Nat × Nat))
 | seq (a b : ACode)
 | cond (c : Opnd) (a b : ACode)
 | block (id : Nat) (c : ACode)
 | loop (live : List Nat) (c : ACode)
 | exit (id : Nat)
 | ret
 | stop
 deriving Inhabited
inductive ARes where
 | tmp (t : Nat)
 | cell (t : Nat) (n : Nat) (agg : Bool)
 deriving Inhabited
structure AFunc where
 ntmps : Nat
 body : ACode
 results : List ARes
 deriving Inhabited
abbrev Store := List AObj
@[simp] def ld (cs : List AVal) (off n : Nat) (agg : Bool) : Option AVal :=
 if agg then (if off + n ≤ cs.length then some (.agg ((cs.drop off).take n)) else none) else cs[off]?
@[simp] def intOp (op : BinOp) (k : IntKind) (a b : Int) : Option AVal :=
 match op with
 | .add => some (.int k (k.wrap (a + b)))
 | .sub => some (.int k (k.wrap (a - b)))
 | .mul => some (.int k (k.wrap (a * b)))
 | .quo => if b = 0 then none else some (.int k (k.wrap (a.tdiv b)))
 | .rem => if b = 0 then none else some (.int k (a.tmod b))
 | .and => some (.int k (k.wrap (BitVec.ofInt k.bits a &&& BitVec.ofInt k.bits b).toNat))
 | .or => some (.int k (k.wrap (BitVec.ofInt k.bits a ||| BitVec.ofInt k.bits b).toNat))
 | .xor => some (.int k (k.wrap (BitVec.ofInt k.bits a ^^^ BitVec.ofInt k.bits b).toNat))
 | .andNot => some (.int k (k.wrap (BitVec.ofInt k.bits a &&& ~~~ BitVec.ofInt k.bits b).toNat))
 | .eql => some (.bool (a == b))
 | .neq => some (.bool (a != b))
 | .lss => some (.bool (decide (a < b)))
 | .leq => some (.bool (decide (a ≤ b)))
 | .gtr => some (.bool (decide (a > b)))
 | .geq => some (.bool (decide (a ≥ b)))
 | _ => none
@[simp] def shOp (op : BinOp) (k : IntKind) (a b : Int) : Option AVal :=
 if b < 0 then none else
 match op with
 | .shl => some (.int k (k.wrap (a * 2 ^ (min b.toNat k.bits))))
 | .shr => some (.int k (a.fdiv (2 ^ (min b.toNat k.bits))))
 | _ => none
@[simp] def isShift : BinOp → Bool
 | .shl | .shr => true
 | _ => false
@[simp] def iopV (op : BinOp) : AVal → AVal → Option AVal
 | .int k a,.int k' b => if isShift op then shOp op k a b else if k = k' then intOp op k a b else none
 | _,_ => none
def strLim : Nat := 2 ^ 46
@[simp] def sopV (op : BinOp) : AVal → AVal → Option AVal
 | .str a,.str b =>
  match op with
  | .add => if a.length + b.length ≤ strLim then some (.str (a ++ b)) else none
  | .eql => some (.bool (a == b))
  | .neq => some (.bool !(a == b))
  | .lss => some (.bool (Op.bytesLess a b))
  | .leq => some (.bool (Op.bytesLess a b || a == b))
  | .gtr => some (.bool !(Op.bytesLess a b || a == b))
  | .geq => some (.bool !(Op.bytesLess a b))
  | _ => none
 | _,_ => none
@[simp] def cellEq : EK → AVal → AVal → Option Bool
 | .i,.int k a,.int k' b => if k = k' then some (a == b) else none
 | .s,.str a,.str b => some (a == b)
 | .b,.bool a,.bool b => some (a == b)
 | _,_,_ => none
@[simp] def cellsEq : List EK → List AVal → List AVal → Option Bool
 | [],[],[] => some true
 | k :: ks,a :: azs,b :: bs =>
  match cellEq k a b,cellsEq ks azs bs with
  | some x,some y => some (x && y)
  | _,_ => none
 | _,_,_ => none
@[simp] def eqsV (ks : List EK) : AVal → AVal → Option Bool
 | .agg a,.agg b => cellsEq ks a b
 | _,_ => none
@[simp] def isNil : NK → AVal → Option Bool
 | .p,.nilptr => some true
 | .p,.ptr .. => some false
 | .p,.eptr .. => some false
 | .p,.fptr .. => some false
 | .s,.nilslice => some true
 | .s,.slice .. => some false
 | .s,.fslice .. => some false
 | .m,.nilmap => some true
 | .m,.map _ => some false
 | .m,.fmap .. => some false
 | .f,.nilfunc => some true
 | .f,.func .. => some false
 | .i,.nilIface => some true
 | .i,.iface .. => some false
 | _,_ => none
@[simp] def bnd (y : Nat) : AVal → Option Nat
 | .int _ i => if 0 ≤ i ∧ i ≤ y then some i.toNat else none
 | _ => none
@[simp] def obnd (d y : Nat) : Option AVal → Option Nat
 | none => some d
 | some v => bnd y v
@[simp] def sliceV (sz : Nat) (x : AVal) (lo hi mx : Option AVal) : Option AVal :=
 match x with
 | .nilslice =>
  match obnd 0 0 mx,obnd 0 0 hi,obnd 0 0 lo with
  | some _,some _,some _ => some .nilslice
  | _,_,_ => none
 | .fslice tag full sz' es =>
  if sz' = sz then
   match obnd es.length es.length mx with
   | some m => match obnd es.length m hi with
    | some h => match obnd 0 h lo with
     | some l => if mx.isNone || m == h then some (.fslice tag (if mx.isNone then full && h == es.length else true) sz ((es.take h).drop l)) else none
     | none => none
    | none => none
   | none => none
  else none
 | .slice sz' id ep off len cap =>
  if sz' = sz then
   match obnd (cap.getD len) (cap.getD len) mx with
   | some m => match obnd len m hi with
    | some h => match obnd 0 h lo with
     | some l => some (.slice sz id ep (off + l) (h - l) (if mx.isNone then cap.map (· - l) else some (m - l)))
     | none => none
    | none => none
   | none => none
  else none
 | _ => none
@[simp] def substrV (x : AVal) (lo hi : Option AVal) : Option AVal :=
 match x with
 | .str s =>
  match obnd s.length s.length hi with
  | some h => match obnd 0 h lo with
   | some l => some (.str ((s.take h).drop l))
   | none => none
  | none => none
 | _ => none
@[simp] def faddrV (o : Nat) : AVal → Option AVal
 | .ptr id off => some (.ptr id (off + o))
 | .eptr id ep i off => some (.eptr id ep i (off + o))
 | .fptr t cs off => some (.fptr t cs (off + o))
 | _ => none
@[simp] def iaddrV (sz : Nat) : AVal → AVal → Option AVal
 | .fslice t _ sz' es,.int _ i =>
  if sz' = sz ∧ 0 ≤ i then
   match es[i.toNat]? with
   | some e => some (.fptr t e.cells 0)
   | none => none
  else none
 | .slice sz' id ep off len _,.int _ i => if sz' = sz ∧ 0 ≤ i ∧ i < len then some (.eptr id ep (off + i.toNat) 0) else none
 | .cslice id off sz' len,.int _ i => if sz' = sz ∧ 0 ≤ i ∧ i < len then some (.ptr id (off + i.toNat * sz)) else none
 | _,_ => none
@[simp] def aaddrV (len sz : Nat) : AVal → AVal → Option AVal
 | p,.int _ i => if 0 ≤ i ∧ i < len then faddrV (i.toNat * sz) p else none
 | _,_ => none
@[simp] def strIdxV : AVal → AVal → Option AVal
 | .str s,.int _ i => if 0 ≤ i then (s[i.toNat]?).map fun b => .int .u8 b.toNat else none
 | _,_ => none
@[simp] def arrIdxV (len sz : Nat) (agg : Bool) : AVal → AVal → Option AVal
 | .agg cs,.int _ i => if 0 ≤ i ∧ i < len then ld cs (i.toNat * sz) sz agg else none
 | _,_ => none
@[simp] def lenSV : AVal → Option Nat
 | .nilslice => some 0
 | .fslice _ _ _ es => some es.length
 | .slice _ _ _ _ len _ => some len
 | .cslice _ _ _ len => some len
 | _ => none
@[simp] def capSV : AVal → Option Nat
 | .nilslice => some 0
 | .fslice _ true _ es => some es.length
 | .slice _ _ _ _ _ (some c) => some c
 | _ => none
@[simp] def lenMV (σ : Store) : AVal → Option Nat
 | .nilmap => some 0
 | .fmap _ ks _ => some ks.length
 | .map id => match σ[id]? with
  | some (.map ks _) => some ks.length
  | _ => none
 | _ => none
@[simp] def minV : AVal → AVal → Option AVal
 | .int k a,.int k' b => if k = k' then some (.int k (if b < a then b else a)) else none
 | _,_ => none
@[simp] def maxV : AVal → AVal → Option AVal
 | .int k a,.int k' b => if k = k' then some (.int k (if b > a then b else a)) else none
 | _,_ => none
@[simp] def foldV (f : AVal → AVal → Option AVal) : AVal → List AVal → Option AVal
 | a,[] => some a
 | a,b :: r => match f a b with
  | some c => foldV f c r
  | none => none
@[simp] def fillA : List AVal → List (Nat × Nat × AVal) → Option (List AVal)
 | cs,[] => some cs
 | cs,(off,n,v) :: r =>
  if v.cells.length = n ∧ v.cells.all AVal.one = true ∧ off + n ≤ cs.length then fillA (cs.take off ++ v.cells ++ cs.drop (off + n)) r else none
@[simp] def isAggV : AVal → Bool
 | .agg _ => true
 | _ => false
@[simp] def fillE (sz : Nat) (agg : Bool) : List AVal → List (Nat × AVal) → Option (List AVal)
 | es,[] => some es
 | es,(i,v) :: r =>
  if v.cells.length = sz ∧ isAggV v = agg ∧ v.cells.all AVal.one = true ∧ v.pure = true ∧ i < es.length then fillE sz agg (es.set i v) r else none
@[simp] def fillL (sz : Nat) (agg : Bool) : List AVal → List (Nat × AVal) → Option (List AVal)
 | es,[] => some es
 | es,(i,v) :: r =>
  if v.cells.length = sz ∧ isAggV v = agg ∧ v.cells.all AVal.one = true ∧ i < es.length then fillL sz agg (es.set i v) r else none
@[simp] def zel (z : List AVal) (agg : Bool) : AVal := if agg then .agg z else z.headD .undef
@[simp] def behind (σ : Store) : AVal → Option (List AVal × Nat)
 | .ptr id off => match σ[id]? with
  | some (.cells cs) => some (cs,off)
  | _ => none
 | .eptr id ep i off => match σ[id]? with
  | some (.arr _ es _ fl) => if fl ≤ ep then (es[i]?).map fun e => (e.cells,off) else none
  | _ => none
 | .fptr _ cs off => some (cs,off)
 | _ => none
@[simp] def loadV (σ : Store) (n : Nat) (agg : Bool) (a : AVal) : Option AVal :=
 match behind σ a with
 | some (cs,off) => ld cs off n agg
 | none => none
@[simp] def splice (cs : List AVal) (off : Nat) (new : List AVal) : List AVal := cs.take off ++ new ++ cs.drop (off + new.length)
@[simp] def storeV (σ : Store) (n : Nat) (a v : AVal) : Option Store :=
 if v.cells.length = n ∧ v.cells.all AVal.one then
  match a with
  | .ptr id off => match σ[id]? with
   | some (.cells cs) => if off + n ≤ cs.length then some (σ.set id (.cells (splice cs off v.cells))) else none
   | _ => none
  | .eptr id ep i off => match σ[id]? with
   | some (.arr sz es ep' _) =>
    match es[i]? with
    | some e => if ep = ep' ∧ off + n ≤ e.cells.length then some (σ.set id (.arr sz (es.set i (e.reform (splice e.cells off v.cells))) ep' ep')) else none
    | none => none
   | _ => none
  | _ => none
 else none
@[simp] def elems (sz : Nat) (σ : Store) : AVal → Option (List AVal)
 | .nilslice => some []
 | .fslice _ _ sz' es => if sz' = sz then some es else none
 | .slice sz' id ep off len _ => match σ[id]? with
  | some (.arr _ es _ fl) => if sz' = sz ∧ fl ≤ ep then some ((es.drop off).take len) else none
  | _ => none
 | _ => none
def apLim : Nat := 2 ^ 46
@[simp] def growV (σ : Store) (sz bytes : Nat) (x : AVal) (ys : List AVal) : Option (AVal × Store) :=
 match x with
 | .nilslice =>
  if ys.length * bytes ≤ apLim then some (.slice sz σ.length 0 0 ys.length none,σ ++ [.arr sz ys 0 0]) else none
 | .fslice _ full sz' es =>
  if full = true ∧ sz' = sz ∧ (es.length + ys.length) * bytes ≤ apLim then
   some (.slice sz σ.length 0 0 (es.length + ys.length) none,σ ++ [.arr sz (es ++ ys) 0 0]) else none
 | .slice sz2 id ep off len cap =>
  match σ[id]? with
  | some (.arr sz' es ep' fl) =>
   if sz2 = sz ∧ sz' = sz ∧ (len + ys.length) * bytes ≤ apLim ∧ fl ≤ ep then
    if (cap.getD (es.length - off)) < len + ys.length then
     match cap with
     | some _ => some (.slice sz σ.length 0 0 (len + ys.length) none,σ ++ [.arr sz ((es.drop off).take len ++ ys) 0 0])
     | none => if ep = ep' ∧ len = es.length ∧ off = 0 then some (.slice sz id (ep + 1) 0 (len + ys.length) none,σ.set id (.arr sz (es ++ ys) (ep + 1) fl)) else none
    else if ep = ep' then
     some (.slice sz id ep off (len + ys.length) cap,σ.set id (.arr sz (es.take (off + len) ++ ys ++ es.drop (off + len + ys.length)) ep ep))
    else none
   else none
  | _ => none
 | _ => none
@[simp] def isSlice : AVal → Bool
 | .nilslice | .fslice .. | .slice .. => true
 | _ => false
@[simp] def appendV (σ : Store) (sz bytes : Nat) (x : AVal) (ys : List AVal) : Option (AVal × Store) :=
 if ys.isEmpty then (if isSlice x then some (x,σ) else none) else growV σ sz bytes x ys
@[simp] def isAggK : AVal → Bool
 | .agg _ => true
 | _ => false
@[simp] def keyEq (agg : Bool) (ks : List EK) (a b : AVal) : Option Bool := if isAggK a = agg ∧ isAggK b = agg then cellsEq ks a.cells b.cells else none
@[simp] def findK (agg : Bool) (q : List EK) (k : AVal) : List AVal → Option (Option Nat)
 | [] => some none
 | e :: es => match keyEq agg q k e with
  | some true => some (some 0)
  | some false => match findK agg q k es with
   | some (some i) => some (some (i + 1))
   | some none => some none
   | none => none
  | none => none
@[simp] def findKK (agg : Bool) (q : List EK) (k : AVal) (es : List AVal) : Option (Option Nat) :=
 if (keyEq agg q k k).isSome = true then findK agg q k es else none
@[simp] def mapOf (σ : Store) : AVal → Option (List AVal × List AVal)
 | .nilmap => some ([],[])
 | .fmap _ ks vs => some (ks,vs)
 | .map id => match σ[id]? with
  | some (.map ks vs) => some (ks,vs)
  | _ => none
 | _ => none
@[simp] def lookupV (σ : Store) (agg : Bool) (q : List EK) (z x k : AVal) (ok : Bool) : Option AVal :=
 match mapOf σ x with
 | some (ks,vs) =>
  match findKK agg q k ks with
  | some (some i) => (vs[i]?).map fun v => if ok then .tuple [v,.bool true] else v
  | some none => some (if ok then .tuple [z,.bool false] else z)
  | none => none
 | none => none
@[simp] def mapsetV (σ : Store) (agg : Bool) (q : List EK) (m k v : AVal) : Option Store :=
 match m with
 | .map id => match σ[id]? with
  | some (.map ks vs) =>
   match findKK agg q k ks with
   | some (some i) => some (σ.set id (.map ks (vs.set i v)))
   | some none => some (σ.set id (.map (ks ++ [k]) (vs ++ [v])))
   | none => none
  | _ => none
 | _ => none
@[simp] def clrV (σ : Store) (sz : Nat) (z : List AVal) (agg : Bool) (x : AVal) : Option Store :=
 match x with
 | .nilslice => some σ
 | .slice s id ep off len _ =>
  if len = 0 then some σ else
  match σ[id]? with
  | some (.arr s2 es ep' fl) => if s = sz ∧ s2 = sz ∧ ep' = ep ∧ off + len ≤ es.length then some (σ.set id (.arr sz (es.take off ++ (List.replicate len (zel z agg) ++ es.drop (off + len))) ep ep)) else none
  | _ => none
 | _ => none
@[simp] def mapdelV (σ : Store) (agg : Bool) (q : List EK) (m k : AVal) : Option Store :=
 match m with
 | .nilmap => match findKK agg q k [] with
  | some _ => some σ
  | none => none
 | .map id => match σ[id]? with
  | some (.map ks vs) =>
   match findKK agg q k ks with
   | some (some i) => some (σ.set id (.map (ks.eraseIdx i) (vs.eraseIdx i)))
   | some none => some σ
   | none => none
  | _ => none
 | _ => none
@[simp] def mapO {α β : Type} (f : α → Option β) : List α → Option (List β)
 | [] => some []
 | v :: vs => match f v,mapO f vs with
  | some v',some vs' => some (v' :: vs')
  | _,_ => none
def frz (σ : Store) (t : Nat) : Nat → AVal → Option AVal
 | 0,_ => none
 | n + 1,v =>
  match v with
  | .ptr id off => match σ[id]? with
   | some (.cells cs) => match mapO (frz σ t n) cs with
    | some cs' => some (.fptr (max t (AVal.tagL cs')) cs' off)
    | none => none
   | _ => none
  | .eptr id ep i off => match σ[id]? with
   | some (.arr _ es _ fl) => if fl ≤ ep then
     match es[i]? with
     | some e => match mapO (frz σ t n) e.cells with
      | some cs' => some (.fptr (max t (AVal.tagL cs')) cs' off)
      | none => none
     | none => none
    else none
   | _ => none
  | .slice sz id ep off len cap => match σ[id]? with
   | some (.arr _ es _ fl) => if fl ≤ ep then
     match mapO (frz σ t n) ((es.drop off).take len) with
     | some es' => some (.fslice (max t (AVal.tagL es')) (cap == some len) sz es')
     | none => none
    else none
   | _ => none
  | .map id => match σ[id]? with
   | some (.map ks vs) => match mapO (frz σ t n) ks,mapO (frz σ t n) vs with
    | some ks',some vs' => some (.fmap (max t (max (AVal.tagL ks') (AVal.tagL vs'))) ks' vs')
    | _,_ => none
   | _ => none
  | .agg cs => (mapO (frz σ t n) cs).map .agg
  | .tuple cs => (mapO (frz σ t n) cs).map .tuple
  | .iface ty v => (frz σ t n v).map (.iface ty)
  | .func f a b => match mapO (frz σ t n) a,mapO (frz σ t n) b with
   | some a',some b' => some (.func f a' b')
   | _,_ => none
  | .fptr t' cs off => match mapO (frz σ t n) cs with
   | some cs' => some (.fptr (max t' (AVal.tagL cs')) cs' off)
   | none => none
  | .fslice t' full sz es => match mapO (frz σ t n) es with
   | some es' => some (.fslice (max t' (AVal.tagL es')) full sz es')
   | none => none
  | .cslice .. => none
  | .eiter _ => none
  | .undef => none
  | v => some v
@[simp] def rangeV : AVal → Option AVal
 | .map id => some (.eiter id)
 | _ => none
@[simp] def nextV (σ : Store) : AVal → Option AVal
 | .eiter id => match σ[id]? with
  | some (.map [] _) => some (.tuple [.bool false])
  | _ => none
 | _ => none
@[simp] def gsliceV (n sz : Nat) : AVal → Option AVal
 | .ptr id off => some (.cslice id off sz n)
 | .fptr t cs off => if sz = 1 ∧ off + n ≤ cs.length then some (.fslice t true 1 ((cs.drop off).take n)) else none
 | _ => none
structure Cfg where
 ir : FuncId → Option AFunc
 conc : FuncId → FuncId
 glob : Nat → Option (List AVal)
 nat : FuncId → Option (List AVal → Store → Option (AVal × Store)) := fun _ => none
abbrev CallF := Nat → FuncId → List AVal → Store → Option (AVal × Store)
def frzFuel : Nat := 16
@[simp] def ev (cfg : Cfg) (fr : List AVal) : Opnd → AVal
 | .tmp t => fr.getD t .undef
 | .const v => v
 | .glob g => match cfg.glob g with
  | some cs => .fptr 0 cs 0
  | none => .undef
@[simp] def oev (cfg : Cfg) (fr : List AVal) : Option Opnd → Option AVal
 | none => none
 | some x => some (ev cfg fr x)
@[simp] def doCall (callF : CallF) (d : Nat) (m : Mode) (f : FuncId) (args : List AVal) (σ : Store) : Option (AVal × Store) :=
 match m with
 | .shared => callF d f args σ
 | .iso =>
  match mapO (frz σ (d + 1) frzFuel) args with
  | some args' =>
   match callF (d + 1) f args' [] with
   | some (v,σ1) =>
    match frz σ1 0 frzFuel v with
    | some v' => if v'.tag ≤ d then some (v',σ) else none
    | none => none
   | none => none
  | none => none
@[simp] def withσ (σ : Store) : Option AVal → Option (AVal × Store)
 | some v => some (v,σ)
 | none => none
@[simp] def unitσ : Option Store → Option (AVal × Store)
 | some σ => some (.tuple [],σ)
 | none => none
@[simp] def opStep (cfg : Cfg) (callF : CallF) (d : Nat) (fr : List AVal) (σ : Store) : AOp → Option (AVal × Store)
 | .move x => some (ev cfg fr x,σ)
 | .pick c a b => match ev cfg fr c with
  | .bool t => some (if t then ev cfg fr a else ev cfg fr b,σ)
  | _ => none
 | .alloc z => some (.ptr σ.length 0,σ ++ [.cells z])
 | .box x => if (ev cfg fr x).cells.all AVal.one then some (.ptr σ.length 0,σ ++ [.cells (ev cfg fr x).cells]) else none
 | .build z parts => match fillA z (parts.map fun p => (p.1,p.2.1,ev cfg fr p.2.2)) with
  | some cs => some (.agg cs,σ)
  | none => none
 | .lit sz z agg n parts => match fillL sz agg (List.replicate n (zel z agg)) (parts.map fun p => (p.1,ev cfg fr p.2)) with
  | some es => some (.fslice (AVal.tagL es) true sz es,σ)
  | none => none
 | .litA sz z agg n parts => match fillL sz agg (List.replicate n (zel z agg)) (parts.map fun p => (p.1,ev cfg fr p.2)) with
  | some es => some (.slice sz σ.length 0 0 n (some n),σ ++ [.arr sz es 0 0])
  | none => none
 | .load n agg a => withσ σ (loadV σ n agg (ev cfg fr a))
 | .store n a v => unitσ (storeV σ n (ev cfg fr a) (ev cfg fr v))
 | .nilCheck x => match ev cfg fr x with
  | .ptr id off => some (.ptr id off,σ)
  | .eptr id ep i off => some (.eptr id ep i off,σ)
  | .fptr t cs off => some (.fptr t cs off,σ)
  | .func f a b => some (.func f a b,σ)
  | _ => none
 | .iop op x y => withσ σ (iopV op (ev cfg fr x) (ev cfg fr y))
 | .sop op x y => withσ σ (sopV op (ev cfg fr x) (ev cfg fr y))
 | .bop neg x y => match ev cfg fr x,ev cfg fr y with
  | .bool a,.bool b => some (.bool (if neg then !(a == b) else a == b),σ)
  | _,_ => none
 | .eqs neg ks x y => match eqsV ks (ev cfg fr x) (ev cfg fr y) with
  | some b => some (.bool (if neg then !b else b),σ)
  | none => none
 | .eqnil neg k x => match isNil k (ev cfg fr x) with
  | some b => some (.bool (if neg then !b else b),σ)
  | none => none
 | .not x => match ev cfg fr x with
  | .bool b => some (.bool !b,σ)
  | _ => none
 | .neg x => match ev cfg fr x with
  | .int k n => some (.int k (k.wrap (0 - n)),σ)
  | _ => none
 | .convI k x => match ev cfg fr x with
  | .int _ n => some (.int k (k.wrap n),σ)
  | _ => none
 | .gslice n sz x => withσ σ (gsliceV n sz (ev cfg fr x))
 | .sliceOp sz x lo hi mx => withσ σ (sliceV sz (ev cfg fr x) (oev cfg fr lo) (oev cfg fr hi) (oev cfg fr mx))
 | .substr x lo hi => withσ σ (substrV (ev cfg fr x) (oev cfg fr lo) (oev cfg fr hi))
 | .faddr off x => withσ σ (faddrV off (ev cfg fr x))
 | .field off n agg x => match ev cfg fr x with
  | .agg cs => withσ σ (ld cs off n agg)
  | _ => none
 | .iaddr sz x i => withσ σ (iaddrV sz (ev cfg fr x) (ev cfg fr i))
 | .aaddr len sz x i => withσ σ (aaddrV len sz (ev cfg fr x) (ev cfg fr i))
 | .strIdx x i => withσ σ (strIdxV (ev cfg fr x) (ev cfg fr i))
 | .arrIdx len sz agg x i => withσ σ (arrIdxV len sz agg (ev cfg fr x) (ev cfg fr i))
 | .lenS x => match lenSV (ev cfg fr x) with
  | some n => some (.int .i64 n,σ)
  | none => none
 | .lenStr x => match ev cfg fr x with
  | .str s => some (.int .i64 s.length,σ)
  | _ => none
 | .lenM x => match lenMV σ (ev cfg fr x) with
  | some n => some (.int .i64 n,σ)
  | none => none
 | .lenA n => some (.int .i64 n,σ)
 | .capS x => match capSV (ev cfg fr x) with
  | some n => some (.int .i64 n,σ)
  | none => none
 | .minI xs => match xs with
  | x :: r => withσ σ (foldV minV (ev cfg fr x) (r.map (ev cfg fr)))
  | [] => none
 | .maxI xs => match xs with
  | x :: r => withσ σ (foldV maxV (ev cfg fr x) (r.map (ev cfg fr)))
  | [] => none
 | .append sz bytes x y => match elems sz σ (ev cfg fr y) with
  | some ys => appendV σ sz bytes (ev cfg fr x) ys
  | none => none
 | .appendz sz bytes z agg x y => match ev cfg fr x,ev cfg fr y with
  | .nilslice,.int .i64 n => if 0 ≤ n ∧ n * bytes ≤ apLim then
    (if n = 0 then some (.nilslice,σ) else some (.slice sz σ.length 0 0 n.toNat none,σ ++ [.arr sz (List.replicate n.toNat (zel z agg)) 0 0])) else none
  | _,_ => none
 | .mkslice sz bytes z agg len cap => match ev cfg fr len,ev cfg fr cap with
  | .int .i64 n,.int .i64 c => if 0 ≤ n ∧ n ≤ c ∧ c * bytes ≤ apLim then
    some (.slice sz σ.length 0 0 n.toNat (if n = c then some n.toNat else none),σ ++ [.arr sz (List.replicate n.toNat (zel z agg)) 0 0]) else none
  | _,_ => none
 | .extract x i => match ev cfg fr x with
  | .tuple vs => withσ σ (vs[i]?)
  | _ => none
 | .mkfunc f first caps => some (.func f (first.map (ev cfg fr)) (caps.map (ev cfg fr)),σ)
 | .mkmap => some (.map σ.length,σ ++ [.map [] []])
 | .lookup g q z x k ok => withσ σ (lookupV σ g q z (ev cfg fr x) (ev cfg fr k) ok)
 | .mapset g q m k v => unitσ (mapsetV σ g q (ev cfg fr m) (ev cfg fr k) (ev cfg fr v))
 | .mapdel g q m k => unitσ (mapdelV σ g q (ev cfg fr m) (ev cfg fr k))
 | .clr sz z agg x => unitσ (clrV σ sz z agg (ev cfg fr x))
 | .rangeM x => withσ σ (rangeV (ev cfg fr x))
 | .nextM x => withσ σ (nextV σ (ev cfg fr x))
 | .mkiface t x => some (.iface t (ev cfg fr x),σ)
 | .call m f args => doCall callF d m f (args.map (ev cfg fr)) σ
 | .callv m f args => match ev cfg fr f with
  | .func g first caps => doCall callF d m g (first ++ args.map (ev cfg fr) ++ caps) σ
  | _ => none
 | .fail => none
abbrev FS := List AVal × Store
@[simp] def put (fr : List AVal) : Option Nat → AVal → List AVal
 | some t,v => fr.set t v
 | none,_ => fr
@[simp] def wantedA (fr : List AVal) : Option (Nat × Bool) → Option Bool
 | none => some true
 | some (t,want) => match fr.getD t .undef with
  | .bool b => some (b == want)
  | .tuple [] => some false
  | _ => none
@[simp] def stepO (cfg : Cfg) (callF : CallF) (d : Nat) (o : AOper) (s : FS) : Option FS :=
 match wantedA s.1 o.guard with
 | some true => match opStep cfg callF d s.1 s.2 o.op with
  | some (v,σ) => some (put s.1 o.dst v,σ)
  | none => none
 | some false => some (put s.1 o.dst (.tuple []),s.2)
 | none => none
@[simp] def stepOs (cfg : Cfg) (callF : CallF) (d : Nat) : List AOper → FS → Option FS
 | [],s => some s
 | o :: os,s => match stepO cfg callF d o s with
  | some s' => stepOs cfg callF d os s'
  | none => none
mutual
def AVal.beq : AVal → AVal → Bool
 | .undef,.undef => true
 | .bool a,.bool b => a == b
 | .int k a,.int k' b => k == k' && a == b
 | .str a,.str b => a == b
 | .nilptr,.nilptr => true
 | .ptr a b,.ptr a' b' => a == a' && b == b'
 | .eptr a b c d,.eptr a' b' c' d' => a == a' && b == b' && c == c' && d == d'
 | .fptr t cs o,.fptr t' cs' o' => t == t' && o == o' && AVal.beqL cs cs'
 | .nilslice,.nilslice => true
 | .slice a b c d e f,.slice a' b' c' d' e' f' => a == a' && b == b' && c == c' && d == d' && e == e' && f == f'
 | .cslice a b c d,.cslice a' b' c' d' => a == a' && b == b' && c == c' && d == d'
 | .fslice t b sz es,.fslice t' b' sz' es' => t == t' && b == b' && sz == sz' && AVal.beqL es es'
 | .nilmap,.nilmap => true
 | .map a,.map b => a == b
 | .eiter a,.eiter b => a == b
 | .fmap t a b,.fmap t' a' b' => t == t' && AVal.beqL a a' && AVal.beqL b b'
 | .func f a b,.func f' a' b' => f == f' && AVal.beqL a a' && AVal.beqL b b'
 | .nilfunc,.nilfunc => true
 | .nilIface,.nilIface => true
 | .iface t v,.iface t' v' => t == t' && AVal.beq v v'
 | .agg a,.agg b => AVal.beqL a b
 | .tuple a,.tuple b => AVal.beqL a b
 | _,_ => false
def AVal.beqL : List AVal → List AVal → Bool
 | [],[] => true
 | a :: azs,b :: bs => AVal.beq a b && AVal.beqL azs bs
 | _,_ => false
end
mutual
theorem AVal.beq_eq : ∀ (a b : AVal),AVal.beq a b = true → a = b := by
 intro a b h
 cases a <;> cases b <;> simp only [AVal.beq,Bool.and_eq_true,beq_iff_eq,Bool.false_eq_true] at h <;> first
  | rfl
  | (subst h; rfl)
  | (obtain ⟨rfl,rfl⟩ := h; rfl)
  | (obtain ⟨⟨⟨rfl,rfl⟩,rfl⟩,rfl⟩ := h; rfl)
  | (obtain ⟨⟨⟨⟨⟨rfl,rfl⟩,rfl⟩,rfl⟩,rfl⟩,rfl⟩ := h; rfl)
  | (obtain ⟨⟨rfl,rfl⟩,h⟩ := h; rw [AVal.beqL_eq _ _ h])
  | (obtain ⟨⟨⟨rfl,rfl⟩,rfl⟩,h⟩ := h; rw [AVal.beqL_eq _ _ h])
  | (obtain ⟨⟨rfl,h1⟩,h2⟩ := h; rw [AVal.beqL_eq _ _ h1,AVal.beqL_eq _ _ h2])
  | (obtain ⟨rfl,h⟩ := h; rw [AVal.beq_eq _ _ h])
  | (rw [AVal.beqL_eq _ _ h])
theorem AVal.beqL_eq : ∀ (a b : List AVal),AVal.beqL a b = true → a = b
 | [],[],_ => rfl
 | a :: azs,b :: bs,h => by
  simp only [AVal.beqL,Bool.and_eq_true] at h
  rw [AVal.beq_eq _ _ h.1,AVal.beqL_eq _ _ h.2]
end
@[simp] def traceOs (cfg : Cfg) (callF : CallF) (d : Nat) : List AOper → FS → List FS
 | [],s => [s]
 | o :: os,s => s :: match stepO cfg callF d o s with
  | some s' => traceOs cfg callF d os s'
  | none => []
@[simp] def steady (cfg : Cfg) (callF : CallF) (d : Nat) (ops : List AOper) (tr : List FS) (p : Nat × Nat) : Bool :=
 match ops[p.1]?,tr[p.1]?,tr[if p.2 < p.1 then p.2 else p.2 + 1]? with
 | some o,some s,some s' => match wantedA s.1 o.guard with
  | some true => match opStep cfg callF d s.1 s.2 o.op,opStep cfg callF d s.1 s'.2 o.op with
   | some (v,_),some (v',_) => AVal.beq v v'
   | _,_ => false
  | _ => true
 | _,_,_ => false
@[simp] def aheadZ : List AOper → Store
 | [] => []
 | o :: os => match o.op with
  | .alloc z => .cells z :: aheadZ os
  | _ => aheadZ os
@[simp] def aheadO : Nat → List AOper → List AOper
 | _,[] => []
 | n,o :: os => match o.op with
  | .alloc _ => { o with op := .move (.const (.ptr n 0)) } :: aheadO (n + 1) os
  | _ => o :: aheadO n os
inductive AExit where
 | normal
 | exit (id : Nat)
 | ret
 deriving Inhabited
@[simp] def cleanFrom (live : List Nat) : Nat → List AVal → List AVal
 | _,[] => []
 | i,v :: vs => (if live.contains i then v else .undef) :: cleanFrom live (i + 1) vs
@[simp] def iter (live : List Nat) (body : FS → Option (AExit × FS)) : Nat → FS → Option (AExit × FS)
 | 0,_ => none
 | n + 1,s => match body (cleanFrom live 0 s.1,s.2) with
  | some (.normal,s') => iter live body n s'
  | r => r
@[simp] def evC (cfg : Cfg) (callF : CallF) (d n : Nat) : ACode → FS → Option (AExit × FS)
 | .skip,s => some (.normal,s)
 | .region ops,s => match stepOs cfg callF d ops s with
  | some s' => some (.normal,s')
  | none => none
 | .drawn ops pairs,s => match stepOs cfg callF d ops s with
  | some s' => if pairs.all (steady cfg callF d ops (traceOs cfg callF d ops s)) then some (.normal,s') else none
  | none => none
 | .ahead ops pairs,s => match stepOs cfg callF d (aheadO s.2.length ops) (s.1,s.2 ++ aheadZ ops) with
  | some s' => if pairs.all (steady cfg callF d (aheadO s.2.length ops) (traceOs cfg callF d (aheadO s.2.length ops) (s.1,s.2 ++ aheadZ ops))) then some (.normal,s') else none
  | none => none
 | .seq a b,s => match evC cfg callF d n a s with
  | some (.normal,s') => evC cfg callF d n b s'
  | r => r
 | .cond c a b,s => match ev cfg s.1 c with
  | .bool true => evC cfg callF d n a s
  | .bool false => evC cfg callF d n b s
  | _ => none
 | .block id c,s => match evC cfg callF d n c s with
  | some (.exit id',s') => some (if id' = id then .normal else .exit id',s')
  | r => r
 | .loop live c,s => iter live (evC cfg callF d n c) n s
 | .exit id,s => some (.exit id,s)
 | .ret,s => some (.ret,s)
 | .stop,_ => none
@[simp] def resOf (s : FS) : ARes → Option AVal
 | .tmp t => some (s.1.getD t .undef)
 | .cell t n agg => loadV s.2 n agg (s.1.getD t .undef)
@[simp] def resultsA (rs : List ARes) (s : FS) : Option AVal :=
 match mapO (resOf s) rs with
 | some [v] => some v
 | some vs => some (.tuple vs)
 | none => none
def natR (cfg : Cfg) (f : FuncId) (args : List AVal) (σ : Store) : Option (AVal × Store) := match cfg.nat f with
 | some g => g args σ
 | none => none
def run (cfg : Cfg) : Nat → CallF
 | 0,_,_,_,_ => none
 | n + 1,d,f,args,σ =>
  match natR cfg f args σ with
  | some r => some r
  | none =>
  match cfg.ir f with
  | none => none
  | some fn =>
   match evC cfg (run cfg n) d n fn.body (args ++ List.replicate (fn.ntmps - args.length) (.tuple []),σ) with
   | some (.normal,s) | some (.ret,s) => match resultsA fn.results s with
    | some v => some (v,s.2)
    | none => none
   | _ => none
end Go.Proofs.YtbbekbjcmnopjaaGreatDoor.Am
namespace Go.Proofs.YtbbekbjcmnopjaaGreatDoor.Am
open Go
def cellAt (h : Array Obj) (b o : Nat) : Option Value :=
 match h[b]? with
 | some (.cells c _ _) => c[o]?
 | _ => none
theorem cellAt_eq (w : World) (b o : Nat) : w.cell? ⟨b,o,none⟩ = cellAt w.heap b o := rfl
theorem cellAt_congr {h h' : Array Obj} {b : Nat} (e : h'[b]? = h[b]?) (o : Nat) : cellAt h' b o = cellAt h b o := by
 simp [cellAt,e]
structure Ids where
 ptr : Nat → Nat → Prop
 sl : Nat → Nat → Nat → Nat → Nat → Option Nat → Nat → Nat → Nat → Prop
 el : Nat → Nat → Nat → Nat → Nat → Prop
 mp : Nat → Nat → Prop
def noIds : Ids := ⟨fun _ _ => False,fun _ _ _ _ _ _ _ _ _ => False,fun _ _ _ _ _ => False,fun _ _ => False⟩
structure Ids.le (I I' : Ids) : Prop where
 ptr : ∀ id b,I.ptr id b → I'.ptr id b
 sl : ∀ sz id ep off len cap b o cap',I.sl sz id ep off len cap b o cap' → I'.sl sz id ep off len cap b o cap'
 el : ∀ id ep i b o,I.el id ep i b o → I'.el id ep i b o
 mp : ∀ id b,I.mp id b → I'.mp id b
theorem Ids.le_refl (I : Ids) : I.le I := ⟨fun _ _ h => h,fun _ _ _ _ _ _ _ _ _ h => h,fun _ _ _ _ _ h => h,fun _ _ h => h⟩
theorem noIds_le (I : Ids) : noIds.le I := ⟨fun _ _ h => h.elim,fun _ _ _ _ _ _ _ _ _ h => h.elim,fun _ _ _ _ _ h => h.elim,fun _ _ h => h.elim⟩
def AVal.allOne (cs : List AVal) : Prop := ∀ c ∈ cs,c.one = true
def AVal.elemsOk (sz : Nat) (es : List AVal) : Prop := ∀ e ∈ es,e.cells.length = sz ∧ AVal.allOne e.cells
def AVal.tagsLe (t : Nat) (cs : List AVal) : Prop := ∀ c ∈ cs,c.tag ≤ t
def rowAt (h : Array Obj) (b o : Nat) (vs : List Value) : Prop := ∀ (j : Nat) (v : Value),vs[j]? = some v → cellAt h b (o + j) = some v
def Born (es : Array MapEntry) (clock : Nat) : Prop := (∀ e ∈ es.toList,e.born < clock) ∧ (es.toList.map (·.born)).Nodup
theorem Born.nil : Born #[] 0 := ⟨fun e h => by simp at h,by simp⟩
theorem Born.push {es : Array MapEntry} {clock : Nat} {k v : Value} (h : Born es clock) : Born (es.push ⟨k,v,clock⟩) (clock + 1) := by
 refine ⟨fun e he => ?_,?_⟩
 ·rw [Array.toList_push] at he
  rcases List.mem_append.1 he with he | he
  ·have := h.1 e he; omega
  ·simp at he; subst he; exact Nat.lt_succ_self _
 ·rw [Array.toList_push,List.map_append,List.nodup_append]
  refine ⟨h.2,by simp,fun a ha b hb e => ?_⟩
  obtain ⟨x,hx,rfl⟩ := List.mem_map.1 ha
  simp at hb
  have := h.1 x hx
  omega
theorem Born.set {es es' : Array MapEntry} {clock i : Nat} {en : MapEntry} {k v : Value} (h : Born es clock) (hi : es.toList[i]? = some en) (hs : es'.toList = es.toList.set i ⟨k,v,en.born⟩) : Born es' clock := by
 have e : es'.toList.map (·.born) = es.toList.map (·.born) := by
  rw [hs,List.map_set]
  apply List.ext_getElem?
  intro j
  rw [List.getElem?_set]
  by_cases hj : i = j
  ·subst hj
   have := (List.getElem?_eq_some_iff.1 hi).1
   have h2 : i < es.size := by simpa using this
   simp only [Array.getElem?_toList] at hi
   have h3 : es[i] = en := by rw [Array.getElem?_eq_getElem h2] at hi; exact Option.some.inj hi
   simp [h2,h3]
  ·simp [hj]
 refine ⟨fun x hx => ?_,by rw [e]; exact h.2⟩
 have hx' : x.born ∈ es.toList.map (·.born) := by rw [← e]; exact List.mem_map.2 ⟨x,hx,rfl⟩
 obtain ⟨y,hy,hyx⟩ := List.mem_map.1 hx'
 have := h.1 y hy
 omega
theorem Born.erase {es es' : Array MapEntry} {clock i : Nat} (h : Born es clock) (hs : es'.toList = es.toList.eraseIdx i) : Born es' clock := by
 rw [Born,hs]
 exact ⟨fun e he => h.1 e (List.mem_of_mem_eraseIdx he),((List.eraseIdx_sublist es.toList i).map _).nodup h.2⟩
mutual
inductive VRel (cf : FuncId → FuncId) (h : Array Obj) (S : Nat → Nat → Prop) : Ids → AVal → Value → Prop
 | undef (I : Ids) (v : Value) : VRel cf h S I .undef v
 | bool (I : Ids) (b : Bool) : VRel cf h S I (.bool b) (.bool b)
 | int (I : Ids) (k : IntKind) (n : Int) : VRel cf h S I (.int k n) (.int k n)
 | str (I : Ids) (s : ByteArray) : VRel cf h S I (.str s.data.toList) (.string s)
 | nilptr (I : Ids) : VRel cf h S I .nilptr (.pointer none)
 | ptr (I : Ids) (id off b : Nat) : I.ptr id b → VRel cf h S I (.ptr id off) (.pointer (some ⟨b,off,none⟩))
 | eptr (I : Ids) (id ep i off b o : Nat) : I.el id ep i b o → VRel cf h S I (.eptr id ep i off) (.pointer (some ⟨b,o + off,none⟩))
 | fptr (I : Ids) (t : Nat) (cs : List AVal) (off b o : Nat) (vs : List Value) : S t b → VRelL cf h S I cs vs → AVal.allOne cs → AVal.tagsLe t cs → rowAt h b o vs →
   VRel cf h S I (.fptr t cs off) (.pointer (some ⟨b,o + off,none⟩))
 | nilslice (I : Ids) : VRel cf h S I .nilslice (.slice none 0 0)
 | slice (I : Ids) (sz id ep off len : Nat) (cap : Option Nat) (b o cap' : Nat) : I.sl sz id ep off len cap b o cap' → VRel cf h S I (.slice sz id ep off len cap) (.slice (some ⟨b,o,none⟩) len cap')
 | cslice (I : Ids) (id off sz len b : Nat) : 0 < sz → I.ptr id b → VRel cf h S I (.cslice id off sz len) (.slice (some ⟨b,off,none⟩) len len)
 | fslice (I : Ids) (t : Nat) (full : Bool) (sz : Nat) (es : List AVal) (b o len cap : Nat) (vs : List Value) : S t b → VRelL cf h S I (es.flatMap AVal.cells) vs → AVal.elemsOk sz es → 0 < sz →
   AVal.tagsLe t es → rowAt h b o vs → es.length = len → len ≤ cap → (full = true → cap = len) →
   VRel cf h S I (.fslice t full sz es) (.slice (some ⟨b,o,none⟩) len cap)
 | zslice (I : Ids) (t : Nat) (full : Bool) (sz : Nat) (a : Addr) : 0 < sz → VRel cf h S I (.fslice t full sz []) (.slice (some a) 0 0)
 | nilmap (I : Ids) : VRel cf h S I .nilmap (.map none)
 | map (I : Ids) (id b : Nat) : I.mp id b → VRel cf h S I (.map id) (.map (some b))
 | eiter (I : Ids) (id r b since c0 : Nat) (seen : Array Nat) : S 0 r → h[r]? = some (.mapIter (some b) since seen c0) → since ≤ c0 → I.mp id b → VRel cf h S I (.eiter id) (.pointer (some ⟨r,0,none⟩))
 | fmap (I : Ids) (t : Nat) (ks vs : List AVal) (b clock : Nat) (es : Array MapEntry) : S t b → h[b]? = some (.map es clock) → VRelL cf h S noIds ks (es.toList.map (·.key)) → VRelL cf h S noIds vs (es.toList.map (·.val)) →
   AVal.tagsLe t ks → AVal.tagsLe t vs → Born es clock → VRel cf h S I (.fmap t ks vs) (.map (some b))
 | func (I : Ids) (f : FuncId) (first caps : List AVal) (vs us : List Value) : VRelL cf h S I first vs → VRelL cf h S I caps us →
   VRel cf h S I (.func f first caps) (.func (.func (cf f)) vs.toArray us.toArray)
 | nilfunc (I : Ids) : VRel cf h S I .nilfunc .nilFunc
 | nilIface (I : Ids) : VRel cf h S I .nilIface .nilIface
 | iface (I : Ids) (t : TypeId) (v : AVal) (cv : Value) : VRel cf h S I v cv → VRel cf h S I (.iface t v) (.iface t cv)
 | agg (I : Ids) (cs : List AVal) (vs : List Value) : VRelL cf h S I cs vs → AVal.allOne cs → VRel cf h S I (.agg cs) (.agg vs.toArray)
 | tuple (I : Ids) (cs : List AVal) (vs : List Value) : VRelL cf h S I cs vs → VRel cf h S I (.tuple cs) (.tuple vs.toArray)
inductive VRelL (cf : FuncId → FuncId) (h : Array Obj) (S : Nat → Nat → Prop) : Ids → List AVal → List Value → Prop
 | nil (I : Ids) : VRelL cf h S I [] []
 | cons (I : Ids) (v : AVal) (cv : Value) (vs : List AVal) (cvs : List Value) : VRel cf h S I v cv → VRelL cf h S I vs cvs → VRelL cf h S I (v :: vs) (cv :: cvs)
end
section
variable {cf : FuncId → FuncId} {h h' : Array Obj} {S S' : Nat → Nat → Prop}
theorem rowAt.congr {b o : Nat} {vs : List Value} (e : h'[b]? = h[b]?) (hr : rowAt h b o vs) : rowAt h' b o vs :=
 fun j v hj => (cellAt_congr e _).trans (hr j v hj)
mutual
theorem VRel.mono (hS : ∀ t b,S t b → S' t b ∧ h'[b]? = h[b]?) : ∀ {I I' : Ids} {v : AVal} {cv : Value},I.le I' → VRel cf h S I v cv → VRel cf h' S' I' v cv
 | _,_,_,_,_,.undef _ _ => .undef _ _
 | _,_,_,_,_,.bool _ _ => .bool _ _
 | _,_,_,_,_,.int _ _ _ => .int _ _ _
 | _,_,_,_,_,.str _ _ => .str _ _
 | _,_,_,_,_,.nilptr _ => .nilptr _
 | _,_,_,_,hI,.ptr _ id off b hp => .ptr _ id off b (hI.ptr _ _ hp)
 | _,_,_,_,hI,.eptr _ id ep i off b o hp => .eptr _ id ep i off b o (hI.el _ _ _ _ _ hp)
 | _,_,_,_,hI,.fptr _ t cs off b o vs hs hc h1 h2 hr => .fptr _ t cs off b o vs (hS _ _ hs).1 (VRelL.mono hS hI hc) h1 h2 (hr.congr (hS _ _ hs).2)
 | _,_,_,_,_,.nilslice _ => .nilslice _
 | _,_,_,_,hI,.slice _ sz id ep off len cap b o cap' hp => .slice _ sz id ep off len cap b o cap' (hI.sl _ _ _ _ _ _ _ _ _ hp)
 | _,_,_,_,hI,.cslice _ id off sz len b h hp => .cslice _ id off sz len b h (hI.ptr _ _ hp)
 | _,_,_,_,hI,.fslice _ t full sz es b o len cap vs hs hc h1 h2 h3 hr h4 h5 h6 => .fslice _ t full sz es b o len cap vs (hS _ _ hs).1 (VRelL.mono hS hI hc) h1 h2 h3 (hr.congr (hS _ _ hs).2) h4 h5 h6
 | _,_,_,_,_,.zslice _ t full sz a h => .zslice _ t full sz a h
 | _,_,_,_,_,.nilmap _ => .nilmap _
 | _,_,_,_,hI,.map _ id b hp => .map _ id b (hI.mp _ _ hp)
 | _,_,_,_,hI,.eiter _ id r b s c0 seen hs he hl hp => .eiter _ id r b s c0 seen (hS _ _ hs).1 ((hS _ _ hs).2.trans he) hl (hI.mp _ _ hp)
 | _,_,_,_,_,.fmap _ t ks vs b clock es hs he hk hv h1 h2 hn => .fmap _ t ks vs b clock es (hS _ _ hs).1 ((hS _ _ hs).2.trans he) (VRelL.mono hS (Ids.le_refl _) hk) (VRelL.mono hS (Ids.le_refl _) hv) h1 h2 hn
 | _,_,_,_,hI,.func _ f a b vs us ha hb => .func _ f a b vs us (VRelL.mono hS hI ha) (VRelL.mono hS hI hb)
 | _,_,_,_,_,.nilfunc _ => .nilfunc _
 | _,_,_,_,_,.nilIface _ => .nilIface _
 | _,_,_,_,hI,.iface _ t v cv hv => .iface _ t v cv (VRel.mono hS hI hv)
 | _,_,_,_,hI,.agg _ cs vs hc h1 => .agg _ cs vs (VRelL.mono hS hI hc) h1
 | _,_,_,_,hI,.tuple _ cs vs hc => .tuple _ cs vs (VRelL.mono hS hI hc)
theorem VRelL.mono (hS : ∀ t b,S t b → S' t b ∧ h'[b]? = h[b]?) : ∀ {I I' : Ids} {vs : List AVal} {cvs : List Value},I.le I' → VRelL cf h S I vs cvs → VRelL cf h' S' I' vs cvs
 | _,_,_,_,_,.nil _ => .nil _
 | _,_,_,_,hI,.cons _ v cv vs cvs hv hvs => .cons _ v cv vs cvs (VRel.mono hS hI hv) (VRelL.mono hS hI hvs)
end
theorem tag_le_of_cells {c e : AVal} (h : c ∈ e.cells) : c.tag ≤ e.tag := by
 cases e <;> simp only [AVal.cells,List.mem_singleton] at h <;> first | (subst h; exact Nat.le_refl _) | skip
 rename_i cs
 induction cs with
 | nil => cases h
 | cons x xs ih =>
  simp only [AVal.tag,AVal.tagL] at *
  rcases List.mem_cons.1 h with rfl | hx
  ·exact Nat.le_max_left _ _
  ·exact Nat.le_trans (ih hx) (Nat.le_max_right _ _)
theorem tagsLe_cells {t : Nat} {es : List AVal} (h : AVal.tagsLe t es) : AVal.tagsLe t (es.flatMap AVal.cells) := by
 intro c hc
 obtain ⟨e,he,hce⟩ := List.mem_flatMap.1 hc
 exact Nat.le_trans (tag_le_of_cells hce) (h e he)
theorem tagsLe_of_tagL {t : Nat} : ∀ {cs : List AVal},AVal.tagL cs ≤ t → AVal.tagsLe t cs
 | [],_,_,h => nomatch h
 | x :: xs,ht,c,h => by
  simp only [AVal.tagL] at ht
  rcases List.mem_cons.1 h with rfl | hx
  ·exact Nat.le_trans (Nat.le_max_left _ _) ht
  ·exact tagsLe_of_tagL (Nat.le_trans (Nat.le_max_right _ _) ht) c hx
mutual
theorem VRel.retag {d : Nat} (hS : ∀ t b,t ≤ d → S t b → S' t b ∧ h'[b]? = h[b]?) : ∀ {I : Ids} {v : AVal} {cv : Value},VRel cf h S I v cv → ∀ {I' : Ids},v.tag ≤ d → I.le I' → VRel cf h' S' I' v cv
 | _,_,_,.undef _ _,_,_,_ => .undef _ _
 | _,_,_,.bool _ _,_,_,_ => .bool _ _
 | _,_,_,.int _ _ _,_,_,_ => .int _ _ _
 | _,_,_,.str _ _,_,_,_ => .str _ _
 | _,_,_,.nilptr _,_,_,_ => .nilptr _
 | _,_,_,.ptr _ id off b hp,_,_,hI => .ptr _ id off b (hI.ptr _ _ hp)
 | _,_,_,.eptr _ id ep i off b o hp,_,_,hI => .eptr _ id ep i off b o (hI.el _ _ _ _ _ hp)
 | _,_,_,.fptr _ t cs off b o vs hs hc h1 h2 hr,_,ht,hI => by
  simp only [AVal.tag] at ht
  exact .fptr _ t cs off b o vs (hS _ _ ht hs).1 (VRelL.retag hS hc (fun c hc' => Nat.le_trans (h2 c hc') ht) hI) h1 h2 (hr.congr (hS _ _ ht hs).2)
 | _,_,_,.nilslice _,_,_,_ => .nilslice _
 | _,_,_,.slice _ sz id ep off len cap b o cap' hp,_,_,hI => .slice _ sz id ep off len cap b o cap' (hI.sl _ _ _ _ _ _ _ _ _ hp)
 | _,_,_,.cslice _ id off sz len b h hp,_,_,hI => .cslice _ id off sz len b h (hI.ptr _ _ hp)
 | _,_,_,.fslice _ t full sz es b o len cap vs hs hc h1 h2 h3 hr h4 h5 h6,_,ht,hI => by
  simp only [AVal.tag] at ht
  exact .fslice _ t full sz es b o len cap vs (hS _ _ ht hs).1 (VRelL.retag hS hc (fun c hc' => Nat.le_trans (tagsLe_cells h3 c hc') ht) hI) h1 h2 h3 (hr.congr (hS _ _ ht hs).2) h4 h5 h6
 | _,_,_,.zslice _ t full sz a h,_,_,_ => .zslice _ t full sz a h
 | _,_,_,.nilmap _,_,_,_ => .nilmap _
 | _,_,_,.map _ id b hp,_,_,hI => .map _ id b (hI.mp _ _ hp)
 | _,_,_,.eiter _ id r b s c0 seen hs he hl hp,_,_,hI => .eiter _ id r b s c0 seen (hS _ _ (Nat.zero_le _) hs).1 ((hS _ _ (Nat.zero_le _) hs).2.trans he) hl (hI.mp _ _ hp)
 | _,_,_,.fmap _ t ks vs b clock es hs he hk hv h1 h2 hn,_,ht,_ => by
  simp only [AVal.tag] at ht
  exact .fmap _ t ks vs b clock es (hS _ _ ht hs).1 ((hS _ _ ht hs).2.trans he) (VRelL.retag hS hk (fun c hc' => Nat.le_trans (h1 c hc') ht) (Ids.le_refl _)) (VRelL.retag hS hv (fun c hc' => Nat.le_trans (h2 c hc') ht) (Ids.le_refl _)) h1 h2 hn
 | _,_,_,.func _ f a b vs us ha hb,_,ht,hI => by
  simp only [AVal.tag] at ht
  exact .func _ f a b vs us (VRelL.retag hS ha (tagsLe_of_tagL (Nat.le_trans (Nat.le_max_left _ _) ht)) hI) (VRelL.retag hS hb (tagsLe_of_tagL (Nat.le_trans (Nat.le_max_right _ _) ht)) hI)
 | _,_,_,.nilfunc _,_,_,_ => .nilfunc _
 | _,_,_,.nilIface _,_,_,_ => .nilIface _
 | _,_,_,.iface _ t v cv hv,_,ht,hI => by
  simp only [AVal.tag] at ht
  exact .iface _ t v cv (VRel.retag hS hv ht hI)
 | _,_,_,.agg _ cs vs hc h1,_,ht,hI => by
  simp only [AVal.tag] at ht
  exact .agg _ cs vs (VRelL.retag hS hc (tagsLe_of_tagL ht) hI) h1
 | _,_,_,.tuple _ cs vs hc,_,ht,hI => by
  simp only [AVal.tag] at ht
  exact .tuple _ cs vs (VRelL.retag hS hc (tagsLe_of_tagL ht) hI)
theorem VRelL.retag {d : Nat} (hS : ∀ t b,t ≤ d → S t b → S' t b ∧ h'[b]? = h[b]?) : ∀ {I : Ids} {vs : List AVal} {cvs : List Value},VRelL cf h S I vs cvs → ∀ {I' : Ids},AVal.tagsLe d vs → I.le I' → VRelL cf h' S' I' vs cvs
 | _,_,_,.nil _,_,_,_ => .nil _
 | _,_,_,.cons _ v cv vs cvs hv hvs,_,ht,hI => .cons _ v cv vs cvs (VRel.retag hS hv (ht v List.mem_cons_self) hI) (VRelL.retag hS hvs (fun c hc => ht c (List.mem_cons_of_mem _ hc)) hI)
end
end
end Go.Proofs.YtbbekbjcmnopjaaGreatDoor.Am
namespace Go.Proofs.YtbbekbjcmnopjaaGreatDoor.Am
open Go
structure K where
 h : Array Obj
 σ : Store
 loc : Nat → Nat
 base : Nat
 pend : Nat → Prop
def K.live (κ : K) (id : Nat) : Prop := id < κ.σ.length ∧ ¬ κ.pend id
theorem K.live_of {κ : K} {id : Nat} {o : AObj} (h : κ.σ[id]? = some o) (hp : ¬ κ.pend id) : κ.live id := ⟨(List.getElem?_eq_some_iff.1 h).1,hp⟩
structure Env where
 d : Nat
 out : Nat → Nat → Prop
def K.own (κ : K) (b : Nat) : Prop := ∃ id,κ.live id ∧ κ.loc id = b
def K.safe (κ : K) (E : Env) (t b : Nat) : Prop := b < κ.h.size ∧ ¬ κ.own b ∧ ∀ k,t ≤ k → k < E.d → ¬ E.out k b
def K.At (κ : K) (id sz ep epo b o off reach : Nat) (z : Prop) : Prop :=
 (b = κ.loc id ∧ (o = off * sz ∨ z)) ∨
 (ep < epo ∧ ¬ κ.own b ∧ (κ.base ≤ b ∧ b < κ.h.size) ∧ (z ∨ ∀ j,j < reach * sz → cellAt κ.h b (o + j) = cellAt κ.h (κ.loc id) (off * sz + j)))
def K.Sl (κ : K) (sz id ep off len : Nat) (cap : Option Nat) (b o cap' : Nat) : Prop :=
 (len ≤ cap' ∧ ¬ κ.pend id) ∧ (∀ c,cap = some c → cap' = c) ∧ 0 < sz ∧
  ∃ es epo fl,κ.σ[id]? = some (.arr sz es epo fl) ∧ ep ≤ epo ∧
   (fl ≤ ep → off + cap.getD len ≤ es.length ∧ κ.At id sz ep epo b o off (cap.getD len) (cap' = 0) ∧
    (ep = epo → cap = none → es.length ≤ off + cap' ∧ ∀ vs e f,κ.h[κ.loc id]? = some (.cells vs e f) → (off + cap') * sz ≤ vs.size))
def K.El (κ : K) (id ep i b o : Nat) : Prop :=
 ∃ sz es epo fl,κ.σ[id]? = some (.arr sz es epo fl) ∧ (ep ≤ epo ∧ ¬ κ.pend id) ∧ (fl ≤ ep → i < es.length ∧ κ.At id sz ep epo b o i 1 False)
def K.ids (κ : K) : Ids where
 ptr id b := ((∃ cs,κ.σ[id]? = some (.cells cs)) ∧ ¬ κ.pend id) ∧ κ.loc id = b
 sl sz id ep off len cap b o cap' := κ.Sl sz id ep off len cap b o cap'
 el id ep i b o := κ.El id ep i b o
 mp id b := ((∃ ks vs,κ.σ[id]? = some (.map ks vs)) ∧ ¬ κ.pend id) ∧ κ.loc id = b
abbrev K.V (κ : K) (E : Env) (cf : FuncId → FuncId) (v : AVal) (cv : Value) : Prop := VRel cf κ.h (κ.safe E) κ.ids v cv
abbrev K.VL (κ : K) (E : Env) (cf : FuncId → FuncId) (v : List AVal) (cv : List Value) : Prop := VRelL cf κ.h (κ.safe E) κ.ids v cv
def K.O (κ : K) (E : Env) (cf : FuncId → FuncId) (id : Nat) : AObj → Prop
 | .cells cs => AVal.allOne cs ∧ ∃ vs e,κ.h[κ.loc id]? = some (.cells vs e (0,0)) ∧ κ.VL E cf cs vs.toList
 | .arr sz es ep fl => fl ≤ ep ∧ 0 < sz ∧ AVal.elemsOk sz es ∧ ∃ vs e us rest,κ.h[κ.loc id]? = some (.cells vs e (0,0)) ∧ vs.toList = us ++ rest ∧ κ.VL E cf (es.flatMap AVal.cells) us
 | .map ks vs => ∃ es clock,κ.h[κ.loc id]? = some (.map es clock) ∧ κ.VL E cf ks (es.toList.map (·.key)) ∧ κ.VL E cf vs (es.toList.map (·.val)) ∧ Born es clock
def K.Lb (κ : K) : Prop := ∀ i,κ.live i → κ.base ≤ κ.loc i ∧ κ.loc i < κ.h.size
structure K.R (κ : K) (E : Env) (cf : FuncId → FuncId) : Prop where
 ok : ∀ k b,k < E.d → E.out k b → b < κ.base
 obj : ∀ id o,κ.σ[id]? = some o → ¬ κ.pend id → κ.O E cf id o
 inj : ∀ i j,κ.live i → κ.live j → κ.loc i = κ.loc j → i = j
 pl : ∀ i,κ.pend i → i < κ.σ.length
 lb : κ.Lb
 base : κ.base ≤ κ.h.size
theorem K.R.hi {κ : K} {E : Env} {cf : FuncId → FuncId} (h : κ.R E cf) (i : Nat) (hi : κ.live i) : κ.loc i < κ.h.size := (h.lb i hi).2
theorem K.R.lo {κ : K} {E : Env} {cf : FuncId → FuncId} (h : κ.R E cf) (i : Nat) (hi : κ.live i) : κ.base ≤ κ.loc i := (h.lb i hi).1
theorem K.R.fresh {κ : K} {E : Env} {cf : FuncId → FuncId} (h : κ.R E cf) : ¬ κ.pend κ.σ.length := fun hp => Nat.lt_irrefl _ (h.pl _ hp)
structure K.Lw (κ κ' : K) : Prop where
 base : κ'.base = κ.base
 size : κ.h.size ≤ κ'.h.size
 keep : ∀ b,b < κ.h.size → ¬ κ.own b → κ'.h[b]? = κ.h[b]? ∧ ¬ κ'.own b
 len : κ.σ.length ≤ κ'.σ.length
 pend : ∀ i,i < κ.σ.length → κ'.pend i → κ.pend i ∧ κ'.σ[i]? = κ.σ[i]?
 cells : ∀ id cs,κ.σ[id]? = some (.cells cs) → ¬ κ.pend id → (∃ cs',κ'.σ[id]? = some (.cells cs')) ∧ κ'.loc id = κ.loc id
 map : ∀ id ks vs,κ.σ[id]? = some (.map ks vs) → ¬ κ.pend id → (∃ ks' vs',κ'.σ[id]? = some (.map ks' vs')) ∧ κ'.loc id = κ.loc id
 arr : ∀ id sz es ep fl,κ.σ[id]? = some (.arr sz es ep fl) → ¬ κ.pend id → ∃ es' ep' fl',κ'.σ[id]? = some (.arr sz es' ep' fl') ∧ ep ≤ ep' ∧ fl ≤ fl' ∧ es.length ≤ es'.length ∧
  (ep' = ep → κ'.loc id = κ.loc id ∧ es'.length = es.length ∧ ∀ vs' e' f',κ'.h[κ.loc id]? = some (.cells vs' e' f') → ∃ vs e f,κ.h[κ.loc id]? = some (.cells vs e f) ∧ vs'.size = vs.size) ∧
  (fl' ≤ ep → ep < ep' → κ'.loc id = κ.loc id ∨ (¬ κ'.own (κ.loc id) ∧ ∀ j,j < es.length * sz → cellAt κ'.h (κ.loc id) j = cellAt κ'.h (κ'.loc id) j)) ∧
  (fl' < ep → ∀ j,j < es.length * sz → cellAt κ'.h (κ'.loc id) j = cellAt κ.h (κ.loc id) j)
theorem K.Lw.refl (κ : K) : κ.Lw κ where
 base := rfl
 size := Nat.le_refl _
 keep := fun _ _ h => ⟨rfl,h⟩
 len := Nat.le_refl _
 pend := fun _ _ h => ⟨h,rfl⟩
 cells := fun _ cs h _ => ⟨⟨cs,h⟩,rfl⟩
 map := fun _ ks vs h _ => ⟨⟨ks,vs,h⟩,rfl⟩
 arr := fun _ _ es ep fl h _ => ⟨es,ep,fl,h,Nat.le_refl _,Nat.le_refl _,Nat.le_refl _,fun _ => ⟨rfl,rfl,fun vs e f hv => ⟨vs,e,f,hv,rfl⟩⟩,fun _ _ => .inl rfl,fun _ _ _ => rfl⟩
theorem K.Lw.trans {κ κ' κ'' : K} (h0 : κ.Lb) (h1 : κ.Lw κ') (h2 : κ'.Lw κ'') : κ.Lw κ'' where
 base := h2.base.trans h1.base
 size := Nat.le_trans h1.size h2.size
 keep := fun b hb ho => by
  obtain ⟨e1,o1⟩ := h1.keep b hb ho
  obtain ⟨e2,o2⟩ := h2.keep b (Nat.lt_of_lt_of_le hb h1.size) o1
  exact ⟨e2.trans e1,o2⟩
 len := Nat.le_trans h1.len h2.len
 pend := fun i hi h => by
  obtain ⟨a,b⟩ := h2.pend i (Nat.lt_of_lt_of_le hi h1.len) h
  obtain ⟨c,d⟩ := h1.pend i hi a
  exact ⟨c,b.trans d⟩
 cells := fun id cs h hp => by
  have hp' : ¬ κ'.pend id := fun hh => hp (h1.pend id (List.getElem?_eq_some_iff.1 h).1 hh).1
  obtain ⟨⟨cs',h'⟩,l1⟩ := h1.cells id cs h hp
  obtain ⟨hc,l2⟩ := h2.cells id cs' h' hp'
  exact ⟨hc,l2.trans l1⟩
 map := fun id ks vs h hp => by
  have hp' : ¬ κ'.pend id := fun hh => hp (h1.pend id (List.getElem?_eq_some_iff.1 h).1 hh).1
  obtain ⟨⟨ks',vs',h'⟩,l1⟩ := h1.map id ks vs h hp
  obtain ⟨hc,l2⟩ := h2.map id ks' vs' h' hp'
  exact ⟨hc,l2.trans l1⟩
 arr := fun id sz es ep fl h hp => by
  have hp' : ¬ κ'.pend id := fun hh => hp (h1.pend id (List.getElem?_eq_some_iff.1 h).1 hh).1
  obtain ⟨es1,ep1,fl1,g1,a1,b1,c1,d1,e1,f1⟩ := h1.arr id sz es ep fl h hp
  obtain ⟨es2,ep2,fl2,g2,a2,b2,c2,d2,e2,f2⟩ := h2.arr id sz es1 ep1 fl1 g1 hp'
  have hid : id < κ.σ.length := (List.getElem?_eq_some_iff.1 h).1
  have hlt := (h0 id ⟨hid,hp⟩).2
  refine ⟨es2,ep2,fl2,g2,Nat.le_trans a1 a2,Nat.le_trans b1 b2,Nat.le_trans c1 c2,?_,?_,?_⟩
  ·intro he
   have he1 : ep1 = ep := by omega
   have he2 : ep2 = ep1 := by omega
   obtain ⟨x1,x2,x3⟩ := d1 he1
   obtain ⟨y1,y2,y3⟩ := d2 he2
   refine ⟨y1.trans x1,y2.trans x2,fun vs'' e'' f'' hv => ?_⟩
   rw [← x1] at hv
   obtain ⟨vs',e',f',hv',hs'⟩ := y3 vs'' e'' f'' hv
   rw [x1] at hv'
   obtain ⟨vs,e,f,hv,hs⟩ := x3 vs' e' f' hv'
   exact ⟨vs,e,f,hv,hs'.trans hs⟩
  ·intro hf hlt2
   by_cases he1 : ep1 = ep
   ·obtain ⟨x1,x2,_⟩ := d1 he1
    rcases e2 (by omega) (by omega) with y | ⟨yo,yc⟩
    ·exact .inl (y.trans x1)
    ·rw [x1] at yo yc
     exact .inr ⟨yo,fun j hj => yc j (by rw [x2]; exact hj)⟩
   ·have hC := f2 (by omega)
    rcases e1 (by omega) (by omega) with x | ⟨xo,xc⟩
    ·by_cases he2 : ep2 = ep1
     ·exact .inl ((d2 he2).1.trans x)
     ·rcases e2 (by omega) (by omega) with y | ⟨yo,yc⟩
      ·exact .inl (y.trans x)
      ·rw [x] at yo yc
       exact .inr ⟨yo,fun j hj => yc j (Nat.lt_of_lt_of_le hj (Nat.mul_le_mul_right _ c1))⟩
    ·obtain ⟨k1,k2⟩ := h2.keep (κ.loc id) (Nat.lt_of_lt_of_le hlt h1.size) xo
     exact .inr ⟨k2,fun j hj => by
      rw [cellAt_congr k1,xc j hj,hC j (Nat.lt_of_lt_of_le hj (Nat.mul_le_mul_right _ c1))]⟩
  ·intro hf j hj
   have A := f2 (by omega) j (Nat.lt_of_lt_of_le hj (Nat.mul_le_mul_right _ c1))
   have B := f1 (by omega) j hj
   exact A.trans B
structure K.Le (κ κ' : K) : Prop extends K.Lw κ κ' where
 hold : ∀ i,κ.pend i → κ'.pend i
instance {κ κ' : K} : Coe (κ.Le κ') (κ.Lw κ') := ⟨K.Le.toLw⟩
theorem K.Le.refl (κ : K) : κ.Le κ := ⟨K.Lw.refl κ,fun _ h => h⟩
theorem K.Le.trans {κ κ' κ'' : K} (h0 : κ.Lb) (h1 : κ.Le κ') (h2 : κ'.Le κ'') : κ.Le κ'' := ⟨K.Lw.trans h0 h1.toLw h2.toLw,fun i h => h2.hold i (h1.hold i h)⟩
section
variable {κ κ' : K} {E : Env} {cf : FuncId → FuncId}
theorem K.safe_le (hle : κ.Lw κ') (t b : Nat) (h : κ.safe E t b) : κ'.safe E t b ∧ κ'.h[b]? = κ.h[b]? :=
 ⟨⟨Nat.lt_of_lt_of_le h.1 hle.size,(hle.keep b h.1 h.2.1).2,h.2.2⟩,(hle.keep b h.1 h.2.1).1⟩
theorem K.At_le (hle : κ.Lw κ') {z : Prop} {id sz ep epo epo' b o off reach n : Nat} {fl' : Nat} {es : List AVal} (hes : κ.σ[id]? = some (.arr sz es epo n)) (hpd : ¬ κ.pend id)
  {es' : List AVal} (hes' : κ'.σ[id]? = some (.arr sz es' epo' fl')) (hlt : κ.base ≤ κ.loc id ∧ κ.loc id < κ.h.size) (hep : ep ≤ epo) (hfl : fl' ≤ ep) (hreach : off + reach ≤ es.length) (h : κ.At id sz ep epo b o off reach z) :
  κ'.At id sz ep epo' b o off reach z := by
 obtain ⟨es1,ep1,fl1,g1,a1,b1,c1,d1,e1,f1⟩ := hle.arr id sz es epo n hes hpd
 rw [hes'] at g1
 obtain ⟨_,rfl,rfl,rfl⟩ : sz = sz ∧ es' = es1 ∧ epo' = ep1 ∧ fl' = fl1 := by injection g1 with g1; injection g1 with a b c d; exact ⟨rfl,b,c,d⟩
 have hm : off * sz + reach * sz ≤ es.length * sz := by rw [← Nat.add_mul]; exact Nat.mul_le_mul_right _ hreach
 rcases h with ⟨rfl,hz⟩ | ⟨h1,h2,h3,h4⟩
 ·by_cases he : epo' = epo
  ·exact .inl ⟨(d1 he).1.symm,hz⟩
  ·rcases e1 (by omega) (by omega) with x | ⟨xo,xc⟩
   ·exact .inl ⟨x.symm,hz⟩
   ·exact .inr ⟨by omega,xo,⟨by rw [hle.base]; exact hlt.1,Nat.lt_of_lt_of_le hlt.2 hle.size⟩,hz.symm.imp (fun x => x) (fun ho j hj => by subst ho; exact xc _ (by omega))⟩
 ·obtain ⟨k1,k2⟩ := hle.keep b h3.2 h2
  exact .inr ⟨by omega,k2,⟨by rw [hle.base]; exact h3.1,Nat.lt_of_lt_of_le h3.2 hle.size⟩,h4.imp (fun x => x) (fun h4 j hj => by
   rw [cellAt_congr k1,h4 j hj,f1 (by omega) _ (by omega)])⟩
theorem K.ids_le (hR : κ.Lb) (hle : κ.Lw κ') : κ.ids.le κ'.ids where
 ptr := fun id b ⟨⟨⟨cs,h⟩,hp⟩,hl⟩ => ⟨⟨(hle.cells id cs h hp).1,fun hh => hp (hle.pend id (List.getElem?_eq_some_iff.1 h).1 hh).1⟩,(hle.cells id cs h hp).2.trans hl⟩
 mp := fun id b ⟨⟨⟨ks,vs,h⟩,hp⟩,hl⟩ => ⟨⟨(hle.map id ks vs h hp).1,fun hh => hp (hle.pend id (List.getElem?_eq_some_iff.1 h).1 hh).1⟩,(hle.map id ks vs h hp).2.trans hl⟩
 el := fun id ep i b o ⟨sz,es,epo,fl,h,⟨hep,hp⟩,hx⟩ => by
  obtain ⟨es1,ep1,fl1,g1,a1,b1,c1,d1,e1,f1⟩ := hle.arr id sz es epo fl h hp
  refine ⟨sz,es1,ep1,fl1,g1,⟨by omega,fun hh => hp (hle.pend id (List.getElem?_eq_some_iff.1 h).1 hh).1⟩,fun hf => ?_⟩
  obtain ⟨hi,hat⟩ := hx (by omega)
  exact ⟨by omega,K.At_le hle h hp g1 (hR id ⟨(List.getElem?_eq_some_iff.1 h).1,hp⟩) hep hf (by omega) hat⟩
 sl := fun sz id ep off len cap b o cap' ⟨⟨hl,hp⟩,hc,hsz,es,epo,fl,h,hep,hx⟩ => by
  obtain ⟨es1,ep1,fl1,g1,a1,b1,c1,d1,e1,f1⟩ := hle.arr id sz es epo fl h hp
  refine ⟨⟨hl,fun hh => hp (hle.pend id (List.getElem?_eq_some_iff.1 h).1 hh).1⟩,hc,hsz,es1,ep1,fl1,g1,by omega,fun hf => ?_⟩
  obtain ⟨hr,hat,hx2⟩ := hx (by omega)
  refine ⟨by omega,K.At_le hle h hp g1 (hR id ⟨(List.getElem?_eq_some_iff.1 h).1,hp⟩) hep hf (by omega) hat,fun he hn => ?_⟩
  have he1 : ep1 = epo := by omega
  obtain ⟨x1,x2,x3⟩ := d1 he1
  obtain ⟨y1,y2⟩ := hx2 (by omega) hn
  refine ⟨by omega,fun vs e f hv => ?_⟩
  rw [x1] at hv
  obtain ⟨vs0,e0,f0,hv0,hs⟩ := x3 vs e f hv
  rw [hs]
  exact y2 vs0 e0 f0 hv0
theorem K.V.lw (hR : κ.Lb) (hle : κ.Lw κ') {v : AVal} {cv : Value} (h : κ.V E cf v cv) : κ'.V E cf v cv :=
 VRel.mono (K.safe_le hle) (K.ids_le hR hle) h
theorem K.VL.lw (hR : κ.Lb) (hle : κ.Lw κ') {v : List AVal} {cv : List Value} (h : κ.VL E cf v cv) : κ'.VL E cf v cv :=
 VRelL.mono (K.safe_le hle) (K.ids_le hR hle) h
theorem K.V.le (hR : κ.Lb) (hle : κ.Le κ') {v : AVal} {cv : Value} (h : κ.V E cf v cv) : κ'.V E cf v cv := K.V.lw hR hle.toLw h
theorem K.VL.le (hR : κ.Lb) (hle : κ.Le κ') {v : List AVal} {cv : List Value} (h : κ.VL E cf v cv) : κ'.VL E cf v cv := K.VL.lw hR hle.toLw h
end
section
variable {κ κ' : K} {E : Env} {cf : FuncId → FuncId}
def K.OLe (κ κ' : K) (id : Nat) : AObj → Prop
 | .cells _ => (∃ cs',κ'.σ[id]? = some (.cells cs')) ∧ κ'.loc id = κ.loc id
 | .map _ _ => (∃ ks' vs',κ'.σ[id]? = some (.map ks' vs')) ∧ κ'.loc id = κ.loc id
 | .arr sz es ep fl => ∃ es' ep' fl',κ'.σ[id]? = some (.arr sz es' ep' fl') ∧ ep ≤ ep' ∧ fl ≤ fl' ∧ es.length ≤ es'.length ∧
  (ep' = ep → κ'.loc id = κ.loc id ∧ es'.length = es.length ∧ ∀ vs' e' f',κ'.h[κ.loc id]? = some (.cells vs' e' f') → ∃ vs e f,κ.h[κ.loc id]? = some (.cells vs e f) ∧ vs'.size = vs.size) ∧
  (fl' ≤ ep → ep < ep' → κ'.loc id = κ.loc id ∨ (¬ κ'.own (κ.loc id) ∧ ∀ j,j < es.length * sz → cellAt κ'.h (κ.loc id) j = cellAt κ'.h (κ'.loc id) j)) ∧
  (fl' < ep → ∀ j,j < es.length * sz → cellAt κ'.h (κ'.loc id) j = cellAt κ.h (κ.loc id) j)
theorem K.Lw.of (base : κ'.base = κ.base) (size : κ.h.size ≤ κ'.h.size) (keep : ∀ b,b < κ.h.size → ¬ κ.own b → κ'.h[b]? = κ.h[b]? ∧ ¬ κ'.own b) (len : κ.σ.length ≤ κ'.σ.length)
  (pend : ∀ i,i < κ.σ.length → κ'.pend i → κ.pend i ∧ κ'.σ[i]? = κ.σ[i]?) (obj : ∀ id o,κ.σ[id]? = some o → ¬ κ.pend id → κ.OLe κ' id o) : κ.Lw κ' where
 base := base
 size := size
 keep := keep
 len := len
 pend := pend
 cells := fun id cs h hp => obj id _ h hp
 map := fun id ks vs h hp => obj id _ h hp
 arr := fun id sz es ep fl h hp => obj id _ h hp
theorem K.Le.of (base : κ'.base = κ.base) (size : κ.h.size ≤ κ'.h.size) (keep : ∀ b,b < κ.h.size → ¬ κ.own b → κ'.h[b]? = κ.h[b]? ∧ ¬ κ'.own b) (len : κ.σ.length ≤ κ'.σ.length)
  (pend : ∀ i,i < κ.σ.length → κ'.pend i → κ.pend i ∧ κ'.σ[i]? = κ.σ[i]?) (hold : κ'.pend = κ.pend) (obj : ∀ id o,κ.σ[id]? = some o → ¬ κ.pend id → κ.OLe κ' id o) : κ.Le κ' :=
 ⟨K.Lw.of base size keep len pend obj,fun i h => by rw [hold]; exact h⟩
theorem K.OLe.same {id : Nat} {o : AObj} (h : κ'.σ[id]? = some o) (hl : κ'.loc id = κ.loc id) (hh : κ'.h[κ.loc id]? = κ.h[κ.loc id]?) : κ.OLe κ' id o := by
 cases o with
 | cells cs => exact ⟨⟨cs,h⟩,hl⟩
 | map ks vs => exact ⟨⟨ks,vs,h⟩,hl⟩
 | arr sz es ep fl => exact ⟨es,ep,fl,h,Nat.le_refl _,Nat.le_refl _,Nat.le_refl _,fun _ => ⟨hl,rfl,fun vs e f hv => ⟨vs,e,f,by rw [← hh]; exact hv,rfl⟩⟩,
   fun _ _ => .inl hl,fun _ j _ => by rw [hl]; exact cellAt_congr hh j⟩
theorem K.O.le (hR : κ.Lb) (hle : κ.Lw κ') {id : Nat} {o : AObj} (hl : κ'.loc id = κ.loc id) (hh : κ'.h[κ.loc id]? = κ.h[κ.loc id]?)
  (h : κ.O E cf id o) : κ'.O E cf id o := by
 cases o with
 | cells cs =>
  obtain ⟨h1,vs,e,h2,h3⟩ := h
  exact ⟨h1,vs,e,by rw [hl,hh]; exact h2,K.VL.lw hR hle h3⟩
 | map ks vs =>
  obtain ⟨es,clock,h2,h3,h4,h5⟩ := h
  exact ⟨es,clock,by rw [hl,hh]; exact h2,K.VL.lw hR hle h3,K.VL.lw hR hle h4,h5⟩
 | arr sz es ep fl =>
  obtain ⟨h1,h2,h3,vs,e,us,rest,h4,h5,h6⟩ := h
  exact ⟨h1,h2,h3,vs,e,us,rest,by rw [hl,hh]; exact h4,h5,K.VL.lw hR hle h6⟩
def K.push (κ : K) (o : Obj) : K := ⟨κ.h.push o,κ.σ,κ.loc,κ.base,κ.pend⟩
theorem K.push_le (hR : κ.R E cf) (o : Obj) : κ.Le (κ.push o) :=
 K.Le.of rfl (by simp [K.push]) (fun b hb ho => ⟨by simp [K.push,Array.getElem?_push,Nat.ne_of_lt hb],ho⟩) (Nat.le_refl _) (fun _ _ h => ⟨h,rfl⟩) rfl
  (fun id x hx hp => K.OLe.same hx rfl (by
   have hb := hR.hi id (K.live_of hx hp)
   simp [K.push,Array.getElem?_push,Nat.ne_of_lt hb]))
theorem K.push_R (hR : κ.R E cf) (o : Obj) (ho : ∀ c e f,o = .cells c e f → f = (0,0) := by intro c e f h; cases h; rfl) : (κ.push o).R E cf where
 ok := hR.ok
 obj := fun id x hx hp => K.O.le hR.lb (K.push_le hR o) rfl (by
   have hb := hR.hi id (K.live_of hx hp)
   simp [K.push,Array.getElem?_push,Nat.ne_of_lt hb]) (hR.obj id x hx hp)
 inj := hR.inj
 pl := hR.pl
 lb := fun i hi => ⟨hR.lo i hi,Nat.lt_of_lt_of_le (hR.hi i hi) (by simp [K.push])⟩
 base := Nat.le_trans hR.base (by simp [K.push])
theorem K.push_at (o : Obj) : (κ.push o).h[κ.h.size]? = some o := by simp [K.push]
theorem K.push_safe (hR : κ.R E cf) (o : Obj) (t : Nat) : (κ.push o).safe E t κ.h.size := by
 refine ⟨by simp [K.push],?_,fun k _ hk ho => ?_⟩
 ·rintro ⟨id,hid,hl⟩
  have := hR.hi id hid
  simp only [K.push] at hl
  omega
 ·have := hR.ok k _ hk ho
  have := hR.base
  omega
def K.new (κ : K) (o : Obj) (x : AObj) : K := ⟨κ.h.push o,κ.σ ++ [x],fun i => if i = κ.σ.length then κ.h.size else κ.loc i,κ.base,κ.pend⟩
theorem K.new_own (hR : κ.R E cf) (o : Obj) (x : AObj) (b : Nat) (hb : b < κ.h.size) (h : ¬ κ.own b) : ¬ (κ.new o x).own b := by
 rintro ⟨id,⟨hid,hp⟩,hl⟩
 simp only [K.new,List.length_append,List.length_singleton] at hid hl hp
 split at hl
 ·omega
 ·exact h ⟨id,⟨by omega,hp⟩,hl⟩
theorem K.new_le (hR : κ.R E cf) (o : Obj) (x : AObj) : κ.Le (κ.new o x) :=
 K.Le.of rfl (by simp [K.new]) (fun b hb ho => ⟨by simp [K.new,Array.getElem?_push,Nat.ne_of_lt hb],K.new_own hR o x b hb ho⟩) (by simp [K.new]) (fun i hi h => ⟨h,by simp only [K.new]; rw [List.getElem?_append_left hi]⟩) rfl
  (fun id y hy hp => by
   have hid := (List.getElem?_eq_some_iff.1 hy).1
   have hb := hR.hi id ⟨hid,hp⟩
   exact K.OLe.same (by simp only [K.new]; rw [List.getElem?_append_left hid]; exact hy) (by simp only [K.new]; rw [if_neg (by omega)])
    (by simp [K.new,Array.getElem?_push,Nat.ne_of_lt hb]))
theorem K.new_R (hR : κ.R E cf) (o : Obj) (x : AObj) (hO : (κ.new o x).O E cf κ.σ.length x) : (κ.new o x).R E cf where
 ok := hR.ok
 pl := fun i hi => by have := hR.pl i hi; simp only [K.new,List.length_append]; omega
 obj := fun id y hy hp => by
  simp only [K.new] at hy
  by_cases hid : id < κ.σ.length
  ·rw [List.getElem?_append_left hid] at hy
   have hb := hR.hi id ⟨hid,hp⟩
   exact K.O.le hR.lb (K.new_le hR o x) (by simp only [K.new]; rw [if_neg (by omega)]) (by simp [K.new,Array.getElem?_push,Nat.ne_of_lt hb]) (hR.obj id y hy hp)
  ·have hlt := (List.getElem?_eq_some_iff.1 hy).1
   simp only [List.length_append,List.length_singleton] at hlt
   obtain rfl : id = κ.σ.length := by omega
   rw [List.getElem?_append_right (Nat.le_refl _)] at hy
   simp at hy
   subst hy
   exact hO
 inj := fun i j ⟨hi,pi⟩ ⟨hj,pj⟩ h => by
  simp only [K.new,List.length_append,List.length_singleton] at hi hj h pi pj
  split at h <;> split at h
  ·omega
  ·have := hR.hi j ⟨by omega,pj⟩; omega
  ·have := hR.hi i ⟨by omega,pi⟩; omega
  ·exact hR.inj i j ⟨by omega,pi⟩ ⟨by omega,pj⟩ h
 lb := fun i ⟨hi,pi⟩ => by
  simp only [K.new,List.length_append,List.length_singleton,Array.size_push] at hi pi ⊢
  split
  ·exact ⟨hR.base,by omega⟩
  ·have := hR.hi i ⟨by omega,pi⟩
   exact ⟨hR.lo i ⟨by omega,pi⟩,by omega⟩
 base := Nat.le_trans hR.base (by simp [K.new])
def K.upd (κ : K) (id : Nat) (o : Obj) (x : AObj) : K := ⟨κ.h.setIfInBounds (κ.loc id) o,κ.σ.set id x,κ.loc,κ.base,κ.pend⟩
theorem K.upd_le (hR : κ.R E cf) (id : Nat) (o : Obj) (x y : AObj) (hy : κ.σ[id]? = some y) (hpd : ¬ κ.pend id) (hx : κ.OLe (κ.upd id o x) id y) : κ.Le (κ.upd id o x) :=
 K.Le.of rfl (by simp [K.upd]) (fun b hb ho => by
   have hid := (List.getElem?_eq_some_iff.1 hy).1
   refine ⟨?_,?_⟩
   ·simp only [K.upd]
    rw [Array.getElem?_setIfInBounds_ne]
    intro e
    exact ho ⟨id,⟨hid,hpd⟩,e⟩
   ·rintro ⟨i,⟨hi,pi⟩,hl⟩
    simp only [K.upd,List.length_set] at hi hl pi
    exact ho ⟨i,⟨hi,pi⟩,hl⟩) (by simp [K.upd]) (fun i hi h => ⟨h,by simp only [K.upd]; rw [List.getElem?_set_ne (fun e => hpd (by rw [e]; exact h))]⟩) rfl
  (fun i z hz hp => by
   by_cases h : i = id
   ·subst h
    rw [hy] at hz
    cases hz
    exact hx
   ·have hi := (List.getElem?_eq_some_iff.1 hz).1
    have hid := (List.getElem?_eq_some_iff.1 hy).1
    refine K.OLe.same ?_ rfl ?_
    ·simp only [K.upd]; rw [List.getElem?_set_ne (Ne.symm h)]; exact hz
    ·simp only [K.upd]
     rw [Array.getElem?_setIfInBounds_ne]
     intro e
     exact h (hR.inj _ _ ⟨hid,hpd⟩ ⟨hi,hp⟩ e).symm)
theorem K.upd_R (hR : κ.R E cf) (id : Nat) (o : Obj) (x y : AObj) (hy : κ.σ[id]? = some y) (hpd : ¬ κ.pend id) (hle : κ.Le (κ.upd id o x)) (hO : (κ.upd id o x).O E cf id x) : (κ.upd id o x).R E cf where
 ok := hR.ok
 pl := fun i hi => by have := hR.pl i hi; simpa [K.upd] using this
 obj := fun i z hz hp => by
  have hid := (List.getElem?_eq_some_iff.1 hy).1
  simp only [K.upd] at hz
  by_cases h : i = id
  ·subst h
   rw [List.getElem?_set_self hid] at hz
   cases hz
   exact hO
  ·rw [List.getElem?_set_ne (Ne.symm h)] at hz
   have hi := (List.getElem?_eq_some_iff.1 hz).1
   refine K.O.le hR.lb hle rfl ?_ (hR.obj i z hz hp)
   simp only [K.upd]
   rw [Array.getElem?_setIfInBounds_ne]
   intro e
   exact h (hR.inj _ _ ⟨hid,hpd⟩ ⟨hi,hp⟩ e).symm
 inj := fun i j hi hj h => hR.inj i j ⟨by simpa [K.upd] using hi.1,hi.2⟩ ⟨by simpa [K.upd] using hj.1,hj.2⟩ h
 lb := fun i hi => ⟨hR.lo i ⟨by simpa [K.upd] using hi.1,hi.2⟩,by simpa [K.upd] using hR.hi i ⟨by simpa [K.upd] using hi.1,hi.2⟩⟩
 base := by simpa [K.upd] using hR.base
theorem K.upd_at (hR : κ.R E cf) (id : Nat) (o : Obj) (x y : AObj) (hy : κ.σ[id]? = some y) (hpd : ¬ κ.pend id) : (κ.upd id o x).h[κ.loc id]? = some o := by
 have := hR.hi id (K.live_of hy hpd)
 simp [K.upd,Array.getElem?_setIfInBounds_self,this]
theorem K.upd_σ (id : Nat) (o : Obj) (x y : AObj) (hy : κ.σ[id]? = some y) : (κ.upd id o x).σ[id]? = some x := by
 have hid := (List.getElem?_eq_some_iff.1 hy).1
 simp [K.upd,List.getElem?_set_self hid]
def K.mov (κ : K) (id : Nat) (o : Obj) (x : AObj) : K := ⟨κ.h.push o,κ.σ.set id x,fun i => if i = id then κ.h.size else κ.loc i,κ.base,κ.pend⟩
theorem K.mov_own (hR : κ.R E cf) (id : Nat) (o : Obj) (x : AObj) (b : Nat) (hb : b < κ.h.size) (h : ∀ i,κ.live i → i ≠ id → κ.loc i ≠ b) : ¬ (κ.mov id o x).own b := by
 rintro ⟨i,⟨hi,pi⟩,hl⟩
 simp only [K.mov,List.length_set] at hi hl pi
 split at hl
 ·omega
 ·exact h i ⟨hi,pi⟩ ‹_› hl
theorem K.mov_le (hR : κ.R E cf) (id : Nat) (o : Obj) (x y : AObj) (hy : κ.σ[id]? = some y) (hpd : ¬ κ.pend id) (hx : κ.OLe (κ.mov id o x) id y) : κ.Le (κ.mov id o x) :=
 K.Le.of rfl (by simp [K.mov]) (fun b hb ho => ⟨by simp [K.mov,Array.getElem?_push,Nat.ne_of_lt hb],K.mov_own hR id o x b hb (fun i hi _ e => ho ⟨i,hi,e⟩)⟩) (by simp [K.mov]) (fun i hi h => ⟨h,by simp only [K.mov]; rw [List.getElem?_set_ne (fun e => hpd (by rw [e]; exact h))]⟩) rfl
  (fun i z hz hp => by
   by_cases h : i = id
   ·subst h
    rw [hy] at hz
    cases hz
    exact hx
   ·have hi := (List.getElem?_eq_some_iff.1 hz).1
    have hb := hR.hi i ⟨hi,hp⟩
    refine K.OLe.same ?_ ?_ ?_
    ·simp only [K.mov]; rw [List.getElem?_set_ne (Ne.symm h)]; exact hz
    ·simp only [K.mov]; rw [if_neg h]
    ·simp [K.mov,Array.getElem?_push,Nat.ne_of_lt hb])
theorem K.mov_R (hR : κ.R E cf) (id : Nat) (o : Obj) (x y : AObj) (hy : κ.σ[id]? = some y) (hle : κ.Le (κ.mov id o x)) (hO : (κ.mov id o x).O E cf id x) : (κ.mov id o x).R E cf where
 ok := hR.ok
 pl := fun i hi => by have := hR.pl i hi; simpa [K.mov] using this
 obj := fun i z hz hp => by
  have hid := (List.getElem?_eq_some_iff.1 hy).1
  simp only [K.mov] at hz
  by_cases h : i = id
  ·subst h
   rw [List.getElem?_set_self hid] at hz
   cases hz
   exact hO
  ·rw [List.getElem?_set_ne (Ne.symm h)] at hz
   have hi := (List.getElem?_eq_some_iff.1 hz).1
   have hb := hR.hi i ⟨hi,hp⟩
   refine K.O.le hR.lb hle (by simp only [K.mov]; rw [if_neg h]) (by simp [K.mov,Array.getElem?_push,Nat.ne_of_lt hb]) (hR.obj i z hz hp)
 inj := fun i j ⟨hi,pi⟩ ⟨hj,pj⟩ h => by
  simp only [K.mov,List.length_set] at hi hj h pi pj
  split at h <;> split at h
  ·omega
  ·have := hR.hi j ⟨hj,pj⟩; omega
  ·have := hR.hi i ⟨hi,pi⟩; omega
  ·exact hR.inj i j ⟨hi,pi⟩ ⟨hj,pj⟩ h
 lb := fun i ⟨hi,pi⟩ => by
  simp only [K.mov,List.length_set,Array.size_push] at hi pi ⊢
  split
  ·exact ⟨hR.base,by omega⟩
  ·have := hR.hi i ⟨hi,pi⟩
   exact ⟨hR.lo i ⟨hi,pi⟩,by omega⟩
 base := Nat.le_trans hR.base (by simp [K.mov])
def K.ahead (κ : K) (zs : Store) : K := ⟨κ.h,κ.σ ++ zs,κ.loc,κ.base,fun i => κ.pend i ∨ (κ.σ.length ≤ i ∧ i < κ.σ.length + zs.length)⟩
theorem K.ahead_live {zs : Store} {i : Nat} (h : (κ.ahead zs).live i) : κ.live i := by
 obtain ⟨h1,h2⟩ := h
 simp only [K.ahead,List.length_append,not_or,not_and] at h1 h2
 refine ⟨?_,h2.1⟩
 rcases Nat.lt_or_ge i κ.σ.length with h | h
 ·exact h
 ·exact absurd h1 (h2.2 h)
theorem K.ahead_le (hR : κ.R E cf) (zs : Store) : κ.Le (κ.ahead zs) :=
 ⟨K.Lw.of rfl (Nat.le_refl _) (fun b hb ho => ⟨rfl,fun ⟨i,hi,hl⟩ => ho ⟨i,K.ahead_live hi,hl⟩⟩) (by simp [K.ahead])
  (fun i hi h => ⟨h.resolve_right (by omega),by simp only [K.ahead]; rw [List.getElem?_append_left hi]⟩)
  (fun id y hy hp => by
   have hid := (List.getElem?_eq_some_iff.1 hy).1
   exact K.OLe.same (by simp only [K.ahead]; rw [List.getElem?_append_left hid]; exact hy) rfl rfl),fun i h => .inl h⟩
theorem K.ahead_R (hR : κ.R E cf) (zs : Store) : (κ.ahead zs).R E cf where
 ok := hR.ok
 pl := fun i hi => by
  simp only [K.ahead,List.length_append] at hi ⊢
  rcases hi with hi | hi
  ·have := hR.pl i hi; omega
  ·exact hi.2
 obj := fun id y hy hp => by
  have hl := K.ahead_live (K.live_of hy hp)
  simp only [K.ahead] at hy
  rw [List.getElem?_append_left hl.1] at hy
  exact K.O.le hR.lb (K.ahead_le hR zs) rfl rfl (hR.obj id y hy hl.2)
 inj := fun i j hi hj h => hR.inj i j (K.ahead_live hi) (K.ahead_live hj) h
 lb := fun i hi => hR.lb i (K.ahead_live hi)
 base := hR.base
def K.place (κ : K) (id : Nat) (o : Obj) : K := ⟨κ.h.push o,κ.σ,fun i => if i = id then κ.h.size else κ.loc i,κ.base,fun i => κ.pend i ∧ i ≠ id⟩
theorem K.place_live {id : Nat} {o : Obj} {i : Nat} (h : (κ.place id o).live i) (hne : i ≠ id) : κ.live i := by
 obtain ⟨h1,h2⟩ := h
 simp only [K.place,not_and] at h1 h2
 exact ⟨h1,fun hp => h2 hp hne⟩
theorem K.place_lw (hR : κ.R E cf) (id : Nat) (o : Obj) (hpd : κ.pend id) : κ.Lw (κ.place id o) :=
 K.Lw.of rfl (by simp [K.place]) (fun b hb ho => ⟨by simp [K.place,Array.getElem?_push,Nat.ne_of_lt hb],fun ⟨i,hi,hl⟩ => by
   simp only [K.place] at hl
   split at hl
   ·omega
   ·exact ho ⟨i,K.place_live hi ‹_›,hl⟩⟩) (Nat.le_refl _) (fun i hi h => ⟨h.1,rfl⟩)
  (fun i y hy hp => by
   have hne : i ≠ id := fun e => hp (by rw [e]; exact hpd)
   have hb := hR.hi i (K.live_of hy hp)
   exact K.OLe.same hy (by simp only [K.place]; rw [if_neg hne]) (by simp [K.place,Array.getElem?_push,Nat.ne_of_lt hb]))
theorem K.place_R (hR : κ.R E cf) (id : Nat) (o : Obj) (x : AObj) (hpd : κ.pend id) (hx : κ.σ[id]? = some x) (hO : (κ.place id o).O E cf id x) : (κ.place id o).R E cf where
 ok := hR.ok
 pl := fun i hi => hR.pl i hi.1
 obj := fun i y hy hp => by
  by_cases h : i = id
  ·subst h
   simp only [K.place] at hy
   rw [hx] at hy
   cases hy
   exact hO
  ·have hl := K.place_live (K.live_of hy hp) h
   have hb := hR.hi i hl
   exact K.O.le hR.lb (K.place_lw hR id o hpd) (by simp only [K.place]; rw [if_neg h]) (by simp [K.place,Array.getElem?_push,Nat.ne_of_lt hb]) (hR.obj i y hy hl.2)
 inj := fun i j hi hj h => by
  simp only [K.place] at h
  split at h <;> split at h
  ·omega
  ·have := hR.hi j (K.place_live hj ‹_›); omega
  ·have := hR.hi i (K.place_live hi ‹_›); omega
  ·exact hR.inj i j (K.place_live hi ‹_›) (K.place_live hj ‹_›) h
 lb := fun i hi => by
  simp only [K.place,Array.size_push]
  split
  ·exact ⟨hR.base,by omega⟩
  ·have := hR.lb i (K.place_live hi ‹_›)
   exact ⟨this.1,by omega⟩
 base := Nat.le_trans hR.base (by simp [K.place])
end
section inv
variable {cf : FuncId → FuncId} {hp : Array Obj} {S : Nat → Nat → Prop} {I : Ids}
theorem V_int {k : IntKind} {n : Int} {cv : Value} (h : VRel cf hp S I (.int k n) cv) : cv = .int k n := by cases h; rfl
theorem V_bool {b : Bool} {cv : Value} (h : VRel cf hp S I (.bool b) cv) : cv = .bool b := by cases h; rfl
theorem V_nilslice {cv : Value} (h : VRel cf hp S I .nilslice cv) : cv = .slice none 0 0 := by cases h; rfl
theorem V_str {s : List UInt8} {cv : Value} (h : VRel cf hp S I (.str s) cv) : ∃ b : ByteArray,cv = .string b ∧ b.data.toList = s := by
 generalize hx : AVal.str s = x at h
 cases h <;> cases hx
 exact ⟨_,rfl,rfl⟩
theorem V_agg {cs : List AVal} {cv : Value} (h : VRel cf hp S I (.agg cs) cv) : ∃ vs,cv = .agg vs.toArray ∧ VRelL cf hp S I cs vs ∧ AVal.allOne cs := by cases h; exact ⟨_,rfl,‹_›,‹_›⟩
theorem V_tuple {cs : List AVal} {cv : Value} (h : VRel cf hp S I (.tuple cs) cv) : ∃ vs,cv = .tuple vs.toArray ∧ VRelL cf hp S I cs vs := by cases h; exact ⟨_,rfl,‹_›⟩
theorem VL_len {cs : List AVal} {vs : List Value} (h : VRelL cf hp S I cs vs) : cs.length = vs.length := by
 induction cs generalizing vs with
 | nil => cases h; rfl
 | cons c cs ih => cases h with | cons _ _ _ _ _ h1 h2 => simp [ih h2]
theorem VL_get {cs : List AVal} {vs : List Value} (h : VRelL cf hp S I cs vs) : ∀ (i : Nat) (c : AVal),cs[i]? = some c → ∃ v,vs[i]? = some v ∧ VRel cf hp S I c v := by
 induction cs generalizing vs with
 | nil => intro i c hc; simp at hc
 | cons x cs ih =>
  cases h with
  | cons _ _ cv _ cvs h1 h2 =>
   intro i c hc
   cases i with
   | zero => simp at hc; subst hc; exact ⟨cv,by simp,h1⟩
   | succ i => obtain ⟨v,hv,hr⟩ := ih h2 i c (by simpa using hc); exact ⟨v,by simpa using hv,hr⟩
theorem VL_getv {cs : List AVal} {vs : List Value} (h : VRelL cf hp S I cs vs) : ∀ (i : Nat) (v : Value),vs[i]? = some v → ∃ c,cs[i]? = some c ∧ VRel cf hp S I c v := by
 intro i v hv
 have hl := VL_len h
 have hi : i < cs.length := by rw [hl]; exact (List.getElem?_eq_some_iff.1 hv).1
 obtain ⟨v',hv',hr⟩ := VL_get h i cs[i] (List.getElem?_eq_getElem hi)
 rw [hv] at hv'
 cases hv'
 exact ⟨_,List.getElem?_eq_getElem hi,hr⟩
theorem VL_append {a b : List AVal} {u v : List Value} (h1 : VRelL cf hp S I a u) (h2 : VRelL cf hp S I b v) : VRelL cf hp S I (a ++ b) (u ++ v) := by
 induction a generalizing u with
 | nil => cases h1; exact h2
 | cons x a ih => cases h1 with | cons _ _ cv _ cvs g1 g2 => exact .cons _ _ _ _ _ g1 (ih g2)
theorem VL_take {a : List AVal} {u : List Value} (n : Nat) (h : VRelL cf hp S I a u) : VRelL cf hp S I (a.take n) (u.take n) := by
 induction a generalizing u n with
 | nil => cases h; simp; exact .nil _
 | cons x a ih => cases h with | cons _ _ cv _ cvs g1 g2 => cases n with
  | zero => simp; exact .nil _
  | succ n => simp only [List.take_succ_cons]; exact .cons _ _ _ _ _ g1 (ih n g2)
theorem VL_drop {a : List AVal} {u : List Value} (n : Nat) (h : VRelL cf hp S I a u) : VRelL cf hp S I (a.drop n) (u.drop n) := by
 induction a generalizing u n with
 | nil => cases h; simp; exact .nil _
 | cons x a ih => cases h with | cons _ _ cv _ cvs g1 g2 => cases n with
  | zero => exact .cons _ _ _ _ _ g1 g2
  | succ n => simp only [List.drop_succ_cons]; exact ih n g2
theorem VL_set {a : List AVal} {u : List Value} (h : VRelL cf hp S I a u) (i : Nat) {x : AVal} {v : Value} (hx : VRel cf hp S I x v) : VRelL cf hp S I (a.set i x) (u.set i v) := by
 induction a generalizing u i with
 | nil => cases h; simp; exact .nil _
 | cons y a ih => cases h with | cons _ _ cv _ cvs g1 g2 => cases i with
  | zero => exact .cons _ _ _ _ _ hx g2
  | succ i => exact .cons _ _ _ _ _ g1 (ih g2 i)
theorem VL_one {x : AVal} {v : Value} (h : VRel cf hp S I x v) : VRelL cf hp S I [x] [v] := .cons _ _ _ _ _ h (.nil _)
theorem V_oneCell {x : AVal} {v : Value} (h : VRel cf hp S I x v) (h1 : x.one = true) : v.oneCell' = true := by
 cases h <;> first | rfl | (simp at h1; done)
theorem V_cells {x : AVal} {v : Value} (h : VRel cf hp S I x v) (hu : AVal.allOne x.cells) : VRelL cf hp S I x.cells v.cells.toList := by
 have h0 := h
 cases h <;> first
  | (simp only [AVal.cells,Value.cells]; exact VL_one h0)
  | (simp only [AVal.cells,Value.cells]; assumption)
  | (exact absurd (hu _ (List.mem_singleton.2 rfl)) (by simp))
end inv
end Go.Proofs.YtbbekbjcmnopjaaGreatDoor.Am
namespace Go.Proofs.YtbbekbjcmnopjaaGreatDoor.Am
open Go
def sizeT (P : Program) (t : TypeId) : Option Nat := (P.info? t).map (·.size)
def bytesT (P : Program) (t : TypeId) : Option Nat := (P.info? t).map (·.bytes)
def aggT (P : Program) (t : TypeId) : Option Bool := (P.underlying t).map fun d => match d with | .struct _ | .array .. => true | _ => false
def sliceE (P : Program) (t : TypeId) : Option TypeId := match P.underlying t with | some (.slice e) => some e | _ => none
def arrayE (P : Program) (t : TypeId) : Option (Nat × TypeId) := match P.underlying t with | some (.array n e) => some (n,e) | _ => none
def mapE (P : Program) (t : TypeId) : Option (TypeId × TypeId) := match P.underlying t with | some (.map k e) => some (k,e) | _ => none
def intT (P : Program) (t : TypeId) : Option IntKind := match P.underlying t with | some (.int k) => some k | _ => none
def isStrT (P : Program) (t : TypeId) : Bool := match P.underlying t with | some .string => true | _ => false
def isBoolT (P : Program) (t : TypeId) : Bool := match P.underlying t with | some .bool => true | _ => false
def notIfaceT (P : Program) (t : TypeId) : Bool := match P.underlying t with | some (.interface _) | none => false | _ => true
def fieldT (P : Program) (t : TypeId) (i : Nat) : Option (Nat × TypeId) := match P.underlying t with | some (.struct fs) => (fs[i]?).map fun f => (f.offset,f.type) | _ => none
def zeroT (P : Program) (t : TypeId) : Option (List Value) := ((P.info? t).bind (·.zero)).map (·.cells.toList)
theorem sliceE_eq {P : Program} {t e : TypeId} (h : sliceE P t = some e) : P.underlying t = some (.slice e) := by
 unfold sliceE at h; split at h <;> simp_all
theorem arrayE_eq {P : Program} {t : TypeId} {x : Nat × TypeId} (h : arrayE P t = some x) : P.underlying t = some (.array x.1 x.2) := by
 unfold arrayE at h; split at h <;> simp_all; subst h; exact ⟨rfl,rfl⟩
theorem mapE_eq {P : Program} {t : TypeId} {x : TypeId × TypeId} (h : mapE P t = some x) : P.underlying t = some (.map x.1 x.2) := by
 unfold mapE at h; split at h <;> simp_all; subst h; exact ⟨rfl,rfl⟩
theorem intT_eq {P : Program} {t : TypeId} {k : IntKind} (h : intT P t = some k) : P.underlying t = some (.int k) := by
 unfold intT at h; split at h <;> simp_all
theorem isStrT_eq {P : Program} {t : TypeId} (h : isStrT P t = true) : P.underlying t = some .string := by
 unfold isStrT at h; split at h <;> simp_all
theorem isBoolT_eq {P : Program} {t : TypeId} (h : isBoolT P t = true) : P.underlying t = some .bool := by
 unfold isBoolT at h; split at h <;> simp_all
theorem fieldT_eq {P : Program} {t : TypeId} {i : Nat} {x : Nat × TypeId} (h : fieldT P t i = some x) : ∃ fs f,P.underlying t = some (.struct fs) ∧ fs[i]? = some f ∧ f.offset = x.1 ∧ f.type = x.2 := by
 unfold fieldT at h
 split at h
 ·rename_i fs hu
  cases hf : fs[i]? with
  | none => simp [hf] at h
  | some f => simp [hf] at h; subst h; exact ⟨fs,f,hu,hf,rfl,rfl⟩
 ·simp at h
theorem sizeT_eq {P : Program} {t : TypeId} {n : Nat} (h : sizeT P t = some n) : ∃ i,P.info? t = some i ∧ i.size = n := by
 unfold sizeT at h; cases hi : P.info? t <;> simp_all
theorem zeroT_eq {P : Program} {t : TypeId} {cs : List Value} (h : zeroT P t = some cs) : ∃ i z,P.info? t = some i ∧ i.zero = some z ∧ z.cells.toList = cs := by
 unfold zeroT at h
 cases hi : P.info? t with
 | none => simp [hi] at h
 | some i =>
  simp only [hi,Option.bind_some] at h
  cases hz : i.zero with
  | none => simp [hz] at h
  | some z => simp [hz] at h; exact ⟨i,z,rfl,hz,h⟩
mutual
def chkC : AVal → Value → Bool
 | .bool b,.bool b' => b == b'
 | .int k n,.int k' n' => k == k' && n == n'
 | .str s,.string b => b.data.toList == s
 | .nilptr,.pointer none => true
 | .nilslice,.slice none 0 0 => true
 | .nilmap,.map none => true
 | .nilfunc,.nilFunc => true
 | .nilIface,.nilIface => true
 | .agg cs,.agg vs => chkCs cs vs.toList && cs.all AVal.one
 | .tuple cs,.tuple vs => chkCs cs vs.toList
 | _,_ => false
def chkCs : List AVal → List Value → Bool
 | [],[] => true
 | a :: azs,v :: vs => chkC a v && chkCs azs vs
 | _,_ => false
end
theorem allOne_of {cs : List AVal} (h : cs.all AVal.one = true) : AVal.allOne cs := by simpa [AVal.allOne] using h
section
variable {cf : FuncId → FuncId} {hp : Array Obj} {S : Nat → Nat → Prop} {I : Ids}
mutual
theorem chkC_ok : ∀ (a : AVal) (v : Value),chkC a v = true → VRel cf hp S I a v
 | .bool b,.bool b',h => by simp [chkC] at h; subst h; exact .bool _ _
 | .int k n,.int k' n',h => by simp [chkC] at h; obtain ⟨rfl,rfl⟩ := h; exact .int _ _ _
 | .str s,.string b,h => by simp [chkC] at h; subst h; exact .str _ _
 | .nilptr,.pointer none,_ => .nilptr _
 | .nilslice,.slice none 0 0,_ => .nilslice _
 | .nilmap,.map none,_ => .nilmap _
 | .nilfunc,.nilFunc,_ => .nilfunc _
 | .nilIface,.nilIface,_ => .nilIface _
 | .agg cs,.agg vs,h => by
  simp only [chkC,Bool.and_eq_true] at h
  have := VRel.agg (cf := cf) (h := hp) (S := S) I cs vs.toList (chkCs_ok cs vs.toList h.1) (allOne_of h.2)
  simpa using this
 | .tuple cs,.tuple vs,h => by
  simp only [chkC] at h
  have := VRel.tuple (cf := cf) (h := hp) (S := S) I cs vs.toList (chkCs_ok cs vs.toList h)
  simpa using this
theorem chkCs_ok : ∀ (a : List AVal) (v : List Value),chkCs a v = true → VRelL cf hp S I a v
 | [],[],_ => .nil _
 | a :: azs,v :: vs,h => by
  simp only [chkCs,Bool.and_eq_true] at h
  exact .cons _ _ _ _ _ (chkC_ok a v h.1) (chkCs_ok azs vs h.2)
end
end
def chkX (cfg : Cfg) : Opnd → Operand → Bool
 | .tmp t,.tmp t' => t == t'
 | .const (.func f [] []),.func g => cfg.conc f == g
 | .const a,.const v => chkC a v
 | .glob g,.global g' => g == g'
 | _,_ => false
def chkXO (cfg : Cfg) : Option Opnd → Option Operand → Bool
 | none,none => true
 | some x,some y => chkX cfg x y
 | _,_ => false
def chkXs (cfg : Cfg) : List Opnd → List Operand → Bool
 | [],[] => true
 | x :: xs,y :: ys => chkX cfg x y && chkXs cfg xs ys
 | _,_ => false
structure Fr (cfg : Cfg) (E : Env) (κ : K) (fr : List AVal) (a : Act) : Prop where
 len : fr.length ≤ a.tmps.size
 fr : ∀ i,κ.V E cfg.conc (fr.getD i .undef) (a.tmps.getD i undef)
 gl : ∀ g cs,cfg.glob g = some cs → VRel cfg.conc κ.h (κ.safe E) noIds (.fptr 0 cs 0) (.pointer (some ⟨g,0,none⟩))
section
variable {cfg : Cfg} {E : Env} {κ κ' : K} {fr : List AVal} {a : Act}
theorem Fr.le (hR : κ.Lb) (hle : κ.Lw κ') (h : Fr cfg E κ fr a) : Fr cfg E κ' fr a :=
 ⟨h.len,fun i => K.V.lw hR hle (h.fr i),fun g cs hg => VRel.mono (K.safe_le hle) (Ids.le_refl _) (h.gl g cs hg)⟩
theorem chkX_ok (hf : Fr cfg E κ fr a) {x : Opnd} {y : Operand} (h : chkX cfg x y = true) : κ.V E cfg.conc (ev cfg fr x) (a.eval y) := by
 unfold chkX at h
 split at h
 ·simp at h; subst h; exact hf.fr _
 ·simp at h; subst h; exact .func _ _ [] [] [] [] (.nil _) (.nil _)
 ·exact chkC_ok _ _ h
 ·simp at h; subst h
  simp only [ev,Act.eval]
  split
  ·exact VRel.mono (fun _ _ h => ⟨h,rfl⟩) (noIds_le _) (hf.gl _ _ ‹_›)
  ·exact .undef _ _
 ·simp at h
theorem chkXs_ok (hf : Fr cfg E κ fr a) : ∀ {xs : List Opnd} {ys : List Operand},chkXs cfg xs ys = true → κ.VL E cfg.conc (xs.map (ev cfg fr)) (ys.map a.eval)
 | [],[],_ => .nil _
 | x :: xs,y :: ys,h => by
  simp only [chkXs,Bool.and_eq_true] at h
  exact .cons _ _ _ _ _ (chkX_ok hf h.1) (chkXs_ok hf h.2)
end
def GV (P : Program) (E : Env) (cf : FuncId → FuncId) (κ : K) (s : Sem Value) (v : AVal) (σ' : Store) : Prop :=
 ∀ w : World,w.heap = κ.h → ∃ cv w' κ',s.run P w = .ok cv w' ∧ (w'.heap = κ'.h ∧ w'.os = w.os ∧ w'.output = w.output) ∧ κ'.σ = σ' ∧ κ.Le κ' ∧ κ'.R E cf ∧ κ'.V E cf v cv
def GU (P : Program) (E : Env) (cf : FuncId → FuncId) (κ : K) (s : Sem Unit) (σ' : Store) : Prop :=
 ∀ w : World,w.heap = κ.h → ∃ w' κ',s.run P w = .ok () w' ∧ (w'.heap = κ'.h ∧ w'.os = w.os ∧ w'.output = w.output) ∧ κ'.σ = σ' ∧ κ.Le κ' ∧ κ'.R E cf
def GN (P : Program) (E : Env) (cf : FuncId → FuncId) (κ : K) (s : Sem Next) (v : AVal) (σ' : Store) : Prop :=
 ∀ w : World,w.heap = κ.h → ∃ nx w' κ',s.run P w = .ok nx w' ∧ (w'.heap = κ'.h ∧ w'.os = w.os ∧ w'.output = w.output) ∧ κ'.σ = σ' ∧ κ.Le κ' ∧ κ'.R E cf ∧
  ((∃ cv,nx = .value cv ∧ κ'.V E cf v cv) ∨ (nx = .skip ∧ v = .tuple []))
section
variable {P : Program} {E : Env} {cf : FuncId → FuncId} {κ : K}
theorem GV.next {s : Sem Value} {v : AVal} {σ' : Store} (h : GV P E cf κ s v σ') : GN P E cf κ (do let x ← s; pure (.value x)) v σ' := by
 intro w hw
 obtain ⟨cv,w',κ',h1,h2,h3,h4,h5,h6⟩ := h w hw
 exact ⟨.value cv,w',κ',by simp [h1,Result.andThen],h2,h3,h4,h5,.inl ⟨cv,rfl,h6⟩⟩
theorem GU.next {s : Sem Unit} {σ' : Store} (h : GU P E cf κ s σ') : GN P E cf κ (do s; pure .skip) (.tuple []) σ' := by
 intro w hw
 obtain ⟨w',κ',h1,h2,h3,h4,h5⟩ := h w hw
 exact ⟨.skip,w',κ',by simp [h1,Result.andThen],h2,h3,h4,h5,.inr ⟨rfl,rfl⟩⟩
theorem GV.pure (hR : κ.R E cf) {s : Sem Value} {v : AVal} {cv : Value} (h : ∀ w : World,w.heap = κ.h → s.run P w = .ok cv w) (hv : κ.V E cf v cv) : GV P E cf κ s v κ.σ :=
 fun w hw => ⟨cv,w,κ,h w hw,⟨hw,rfl,rfl⟩,rfl,K.Le.refl _,hR,hv⟩
theorem GN.pure (hR : κ.R E cf) {s : Sem Next} {v : AVal} {cv : Value} (h : ∀ w : World,w.heap = κ.h → s.run P w = .ok (.value cv) w) (hv : κ.V E cf v cv) : GN P E cf κ s v κ.σ :=
 fun w hw => ⟨_,w,κ,h w hw,⟨hw,rfl,rfl⟩,rfl,K.Le.refl _,hR,.inl ⟨cv,rfl,hv⟩⟩
end
end Go.Proofs.YtbbekbjcmnopjaaGreatDoor.Am
namespace Go.Proofs.YtbbekbjcmnopjaaGreatDoor.Am
open Go
section
variable {P : Program} {E : Env} {cf : FuncId → FuncId} {κ : K}
theorem sz_of {t : TypeId} {i : TypeInfo} (h : P.info? t = some i) (w : World) : (sizeOf t).run P w = .ok i.size w := by
 simp [sizeOf,typeInfo,h]
theorem iop_run (op : BinOp) (t : TypeId) (x y : Operand) {a b : AVal} {ca cb : Value} {v : AVal} (ha : κ.V E cf a ca) (hb : κ.V E cf b cb) (h : iopV op a b = some v) (hR : κ.R E cf) :
  GV P E cf κ (do eqGuard op t x y ca cb; binOp op t ca cb) v κ.σ := by
 unfold iopV at h
 split at h
 ·rename_i k n k' m
  have e1 := V_int ha; have e2 := V_int hb
  subst e1; subst e2
  have hg : ∀ w : World,(eqGuard op t x y (.int k n) (.int k' m)).run P w = .ok () w := by
   intro w; unfold eqGuard; cases op <;> simp
  split at h
  ·rename_i hs
   unfold shOp at h
   split at h
   ·simp at h
   ·rename_i hm
    cases op <;> simp at hs h <;> subst h
    ·exact GV.pure hR (cv := .int k (k.wrap (n * 2 ^ (min m.toNat k.bits)))) (fun w _ => by simp [hg,Result.andThen,binOp,Op.shift,hm]) (.int _ _ _)
    ·exact GV.pure hR (cv := .int k (n.fdiv (2 ^ (min m.toNat k.bits)))) (fun w _ => by simp [hg,Result.andThen,binOp,Op.shift,hm]) (.int _ _ _)
  ·rename_i hs
   split at h
   ·rename_i hk
    subst hk
    cases op <;> simp [intOp] at hs h <;> first
     | (subst h; exact GV.pure hR (fun w _ => by simp [hg,Result.andThen,binOp,Op.intArith,Op.intBits,Op.intCmp]; rfl) (by constructor))
     | (obtain ⟨h1,rfl⟩ := h; exact GV.pure hR (fun w _ => by simp [hg,Result.andThen,binOp,Op.intDiv,h1]; rfl) (by constructor))
   ·simp at h
 ·simp at h
theorem sop_run (op : BinOp) (t : TypeId) (x y : Operand) {a b : AVal} {ca cb : Value} {v : AVal} (ha : κ.V E cf a ca) (hb : κ.V E cf b cb) (h : sopV op a b = some v) (hR : κ.R E cf) :
  GV P E cf κ (do eqGuard op t x y ca cb; binOp op t ca cb) v κ.σ := by
 unfold sopV at h
 split at h
 ·obtain ⟨s,rfl,rfl⟩ := V_str ha
  obtain ⟨s',rfl,rfl⟩ := V_str hb
  have hg : ∀ w : World,(eqGuard op t x y (.string s) (.string s')).run P w = .ok () w := by
   intro w; unfold eqGuard; cases op <;> simp
  cases op <;> simp at h <;> first
   | (subst h; exact GV.pure hR (fun w _ => by simp [hg,Result.andThen,binOp,Op.stringOp,ByteArray.toList_eq]; rfl) (by constructor))
   | skip
  obtain ⟨h1,rfl⟩ := h
  refine GV.pure hR (cv := .string (s ++ s')) (fun w _ => ?_) ?_
  ·have : ¬ (IntKind.i64.max < (s.size : Int) + (s'.size : Int)) := by
    have h2 : s.size + s'.size ≤ 70368744177664 := h1
    simp only [IntKind.max,IntKind.signed,IntKind.bits]
    omega
   have e : ∀ w : World,(binOp .add t (.string s) (.string s')).run P w = .ok (.string (s ++ s')) w := by
    intro w
    simp only [binOp,Op.stringOp]
    rw [if_neg]
    ·simp
    ·intro hh; exact this (by simpa using hh)
   simp [hg,Result.andThen,e]
  ·have : (s ++ s').data.toList = s.data.toList ++ s'.data.toList := by simp
   rw [← this]
   exact .str _ _
 ·simp at h
theorem not_run {a : AVal} {ca : Value} {b : Bool} (ha : κ.V E cf (.bool b) ca) (hR : κ.R E cf) : GV P E cf κ (Op.unary .not ca) (.bool !b) κ.σ := by
 have := V_bool ha; subst this
 exact GV.pure hR (fun w _ => by simp [Op.unary]) (.bool _ _)
theorem neg_run {ca : Value} {k : IntKind} {n : Int} (ha : κ.V E cf (.int k n) ca) (hR : κ.R E cf) : GV P E cf κ (Op.unary .neg ca) (.int k (k.wrap (0 - n))) κ.σ := by
 have := V_int ha; subst this
 exact GV.pure hR (cv := .int k (k.wrap (0 - n))) (fun w _ => by simp [Op.unary,Op.intArith]) (.int _ _ _)
theorem convI_run {src dst : TypeId} {k k0 : IntKind} {ca : Value} {k' : IntKind} {n : Int} (hs : P.underlying src = some (.int k0)) (hd : P.underlying dst = some (.int k)) (ha : κ.V E cf (.int k' n) ca) (hR : κ.R E cf) :
  GV P E cf κ (convert src dst ca) (.int k (k.wrap n)) κ.σ := by
 have := V_int ha; subst this
 exact GV.pure hR (cv := .int k (k.wrap n)) (fun w _ => by simp [convert,run_underlying hs,run_underlying hd,Conv.intToInt,Result.andThen]) (.int _ _ _)
theorem V_slice_shape {a : AVal} {ca : Value} {n : Nat} (ha : κ.V E cf a ca) (h : lenSV a = some n) : ∃ b c,ca = .slice b n c := by
 unfold lenSV at h
 split at h <;> simp at h <;> subst h
 ·cases ha; exact ⟨_,_,rfl⟩
 ·cases ha with
  | fslice _ _ _ _ _ b o len cap vs h1 h2 h3 h4 h5 h6 h7 h8 h9 => exact ⟨_,_,by rw [h7]⟩
  | zslice => exact ⟨_,_,rfl⟩
 ·cases ha; exact ⟨_,_,rfl⟩
 ·cases ha; exact ⟨_,_,rfl⟩
theorem lenS_run {t ty : TypeId} {e : TypeId} (ht : P.underlying t = some (.slice e)) {a : AVal} {ca : Value} {n : Nat} (ha : κ.V E cf a ca) (h : lenSV a = some n) (hR : κ.R E cf) :
  GV P E cf κ (Builtin.len_ #[t] ty #[ca]) (.int .i64 n) κ.σ := by
 obtain ⟨b,c,rfl⟩ := V_slice_shape ha h
 exact GV.pure hR (cv := .int .i64 n) (fun w _ => by simp [Builtin.len_,run_underlying ht,goInt,Result.andThen]) (.int _ _ _)
theorem lenStr_run {t ty : TypeId} (ht : P.underlying t = some .string) {s : List UInt8} {ca : Value} (ha : κ.V E cf (.str s) ca) (hR : κ.R E cf) :
  GV P E cf κ (Builtin.len_ #[t] ty #[ca]) (.int .i64 s.length) κ.σ := by
 obtain ⟨b,rfl,rfl⟩ := V_str ha
 exact GV.pure hR (cv := .int .i64 b.data.toList.length) (fun w _ => by simp [Builtin.len_,run_underlying ht,goInt,Result.andThen]) (.int _ _ _)
theorem lenA_run {t ty : TypeId} {e n} (ht : P.underlying t = some (.array n e) ∨ ∃ u,P.underlying t = some (.pointer u) ∧ P.underlying u = some (.array n e)) {ca : Value} (hR : κ.R E cf) :
  GV P E cf κ (Builtin.len_ #[t] ty #[ca]) (.int .i64 n) κ.σ := by
 rcases ht with ht | ⟨u,ht,hu⟩
 ·exact GV.pure hR (cv := .int .i64 n) (fun w _ => by cases ca <;> simp [Builtin.len_,run_underlying ht,goInt,Result.andThen]) (.int _ _ _)
 ·exact GV.pure hR (cv := .int .i64 n) (fun w _ => by cases ca <;> simp [Builtin.len_,run_underlying ht,run_underlying hu,goInt,Result.andThen]) (.int _ _ _)
theorem capS_run {t ty : TypeId} {e : TypeId} (ht : P.underlying t = some (.slice e)) {a : AVal} {ca : Value} {n : Nat} (ha : κ.V E cf a ca) (h : capSV a = some n) (hR : κ.R E cf) :
  GV P E cf κ (Builtin.cap_ #[t] ty #[ca]) (.int .i64 n) κ.σ := by
 have : ∃ b l,ca = .slice b l n := by
  unfold capSV at h
  split at h <;> simp at h <;> subst h
  ·cases ha; exact ⟨_,_,rfl⟩
  ·cases ha with
   | fslice _ _ _ _ _ b o len cap vs h1 h2 h3 h4 h5 h6 h7 h8 h9 => exact ⟨_,_,by rw [h9 rfl,h7]⟩
   | zslice => exact ⟨_,_,rfl⟩
  ·cases ha; rename_i h1; exact ⟨_,_,by rw [h1.2.1 _ rfl]⟩
 obtain ⟨b,l,rfl⟩ := this
 exact GV.pure hR (cv := .int .i64 n) (fun w _ => by simp [Builtin.cap_,run_underlying ht,goInt,Result.andThen]) (.int _ _ _)
theorem ld_part {cs : List AVal} {vs : List Value} {off n : Nat} {agg : Bool} {v : AVal} {t : TypeId} (hl : κ.VL E cf cs vs) (h1 : AVal.allOne cs) (hn : sizeT P t = some n) (ha : aggT P t = some agg)
  (h : ld cs off n agg = some v) : ∃ cv,(∀ w,(part t vs.toArray off).run P w = .ok cv w) ∧ κ.V E cf v cv := by
 obtain ⟨i,hi,hin⟩ := sizeT_eq hn
 unfold aggT at ha
 cases hu : P.underlying t with
 | none => simp [hu] at ha
 | some d =>
  simp only [hu,Option.map_some,Option.some.injEq] at ha
  have hag : ∀ w : World,(isAgg t).run P w = .ok agg w := by
   intro w
   simp only [isAgg,Sem.run_bind,run_underlying hu,Result.andThen]
   subst ha
   cases d <;> simp
  unfold ld at h
  cases agg
  ·simp at h
   obtain ⟨cv,hcv,hr⟩ := VL_get hl off v h
   exact ⟨cv,fun w => by simp [part,hag,Result.andThen,hcv],hr⟩
  ·simp at h
   obtain ⟨hlt,rfl⟩ := h
   refine ⟨.agg ((vs.drop off).take n).toArray,fun w => ?_,.agg _ _ _ (VL_take _ (VL_drop _ hl)) (fun c hc => h1 c (List.mem_of_mem_drop (List.mem_of_mem_take hc)))⟩
   have hlen := VL_len hl
   simp only [part,Sem.run_bind,hag,Result.andThen,if_true,sz_of hi,hin]
   simp
theorem field_run {t ft : TypeId} {fs : Array Field} {f : Field} {i off n : Nat} {agg : Bool} (ht : P.underlying t = some (.struct fs)) (hf : fs[i]? = some f) (ho : f.offset = off) (hft : f.type = ft)
  (hn : sizeT P ft = some n) (ha : aggT P ft = some agg) {cs : List AVal} {ca : Value} {v : AVal} (hv : κ.V E cf (.agg cs) ca) (h : ld cs off n agg = some v) (hR : κ.R E cf) :
  GV P E cf κ (Instr.field t ca i) v κ.σ := by
 obtain ⟨vs,rfl,hl,h1⟩ := V_agg hv
 obtain ⟨cv,hrun,hr⟩ := ld_part hl h1 hn ha h
 subst hft ho
 exact GV.pure hR (cv := cv) (fun w _ => by simp [Instr.field,run_underlying ht,Result.andThen,hf,asAgg,hrun]) hr
theorem arrIdx_run {t e : TypeId} {len n : Nat} {agg : Bool} (ht : P.underlying t = some (.array len e)) (hn : sizeT P e = some n) (ha : aggT P e = some agg) {a b : AVal} {ca cb : Value} {v : AVal}
  (hv : κ.V E cf a ca) (hb : κ.V E cf b cb) (h : arrIdxV len n agg a b = some v) (hR : κ.R E cf) : GV P E cf κ (Instr.index t ca cb) v κ.σ := by
 unfold arrIdxV at h
 split at h
 ·rename_i cs k i
  obtain ⟨vs,rfl,hl,h1⟩ := V_agg hv
  have := V_int hb; subst this
  split at h
  ·rename_i hi
   obtain ⟨cv,hrun,hr⟩ := ld_part hl h1 hn ha h
   obtain ⟨inf,hinf,hsz⟩ := sizeT_eq hn
   exact GV.pure hR (cv := cv) (fun w _ => by simp [Instr.index,asIntOf,run_underlying ht,Result.andThen,hi,sz_of hinf,hsz,hrun]) hr
  ·simp at h
 ·simp at h
theorem strIdx_run {t : TypeId} (ht : P.underlying t = some .string) {a b : AVal} {ca cb : Value} {v : AVal}
  (hv : κ.V E cf a ca) (hb : κ.V E cf b cb) (h : strIdxV a b = some v) (hR : κ.R E cf) : GV P E cf κ (Instr.index t ca cb) v κ.σ := by
 unfold strIdxV at h
 split at h
 ·rename_i s k i
  obtain ⟨s,rfl,rfl⟩ := V_str hv
  have := V_int hb; subst this
  split at h
  ·rename_i hi
   cases hs : s.data.toList[i.toNat]? with
   | none => simp [hs] at h
   | some x =>
    simp [hs] at h
    subst h
    have hlt : i.toNat < s.size := by have := (List.getElem?_eq_some_iff.1 hs).1; simpa using this
    refine GV.pure hR (cv := .int .u8 x.toNat) (fun w _ => ?_) (.int _ _ _)
    have hx : s[i.toNat]? = some x := by
     rw [ByteArray.getElem?_lt' s _ hlt]
     have := (List.getElem?_eq_some_iff.1 hs).2
     rw [← this]; rfl
    simp [Instr.index,asIntOf,run_underlying ht,Result.andThen,hi,hx]
  ·simp at h
 ·simp at h
theorem extract_run {vs : List AVal} {ca : Value} {i : Nat} {v : AVal} (hv : κ.V E cf (.tuple vs) ca) (h : vs[i]? = some v) (hR : κ.R E cf) : GV P E cf κ (Instr.extract ca i) v κ.σ := by
 obtain ⟨us,rfl,hl⟩ := V_tuple hv
 obtain ⟨cv,hcv,hr⟩ := VL_get hl i v h
 exact GV.pure hR (cv := cv) (fun w _ => by simp [Instr.extract,hcv]) hr
theorem mkiface_run {t : TypeId} {ca : Value} {v : AVal} (ht : notIfaceT P t = true) (hv : κ.V E cf v ca) (hR : κ.R E cf) : GV P E cf κ (Instr.makeInterface t ca) (.iface t v) κ.σ := by
 unfold notIfaceT at ht
 cases hu : P.underlying t with
 | none => simp [hu] at ht
 | some d => exact GV.pure hR (cv := .iface t ca) (fun w _ => by simp only [Instr.makeInterface,Sem.run_bind,run_underlying hu,Result.andThen]; cases d <;> simp_all) (.iface _ _ _ _ hv)
theorem mkfunc_run {f : FuncId} {a b : List AVal} {u v : List Value} (ha : κ.VL E cf a u) (hb : κ.VL E cf b v) (hR : κ.R E cf) :
  GV P E cf κ (Instr.makeFunc (.func (cf f)) u.toArray v.toArray) (.func f a b) κ.σ :=
 GV.pure hR (cv := .func (.func (cf f)) u.toArray v.toArray) (fun w _ => by simp [Instr.makeFunc]) (.func _ _ _ _ _ _ ha hb)
end
section
variable {P : Program} {E : Env} {cf : FuncId → FuncId} {κ : K}
theorem equal_of {t : TypeId} {a b : Value} {r : Bool} {w : World} (h : (Op.equalIn (9999 + 1) t a b).run P w = .ok r w) : (Op.equal t a b).run P w = .ok r w := h
theorem binOp_eq (neg : Bool) {t : TypeId} {x y : Operand} {a b : Value} {r : Bool} {w : World} (hg : (eqGuard (if neg then .neq else .eql) t x y a b).run P w = .ok () w)
  (h1 : binOp .eql t a b = (Op.equal t a b >>= fun r => pure (.bool r))) (h2 : binOp .neq t a b = (Op.equal t a b >>= fun r => pure (.bool !r)))
  (h : (Op.equal t a b).run P w = .ok r w) :
  (do eqGuard (if neg then .neq else .eql) t x y a b; binOp (if neg then .neq else .eql) t a b : Sem Value).run P w = .ok (.bool (if neg then !r else r)) w := by
 cases neg <;> simp only [Bool.false_eq_true,if_false,if_true] at hg ⊢
 ·rw [Sem.run_bind,hg]
  simp only [Result.andThen]
  rw [h1]
  simp [h,Result.andThen]
 ·rw [Sem.run_bind,hg]
  simp only [Result.andThen]
  rw [h2]
  simp [h,Result.andThen]
theorem equalIn_bool (d : Nat) {t : TypeId} (hb : P.underlying t = some .bool) (a b : Bool) (w : World) : (Op.equalIn (d + 1) t (.bool a) (.bool b)).run P w = .ok (a == b) w := by
 simp only [Op.equalIn,Sem.run_bind,run_underlying hb,Result.andThen,Sem.run_pure]
theorem bop_run (neg : Bool) {t : TypeId} (x y : Operand) (hb : P.underlying t = some .bool) {a b : Bool} {ca cb : Value} (ha : κ.V E cf (.bool a) ca) (hb' : κ.V E cf (.bool b) cb) (hR : κ.R E cf) :
  GV P E cf κ (do eqGuard (if neg then .neq else .eql) t x y ca cb; binOp (if neg then .neq else .eql) t ca cb) (.bool (if neg then !(a == b) else a == b)) κ.σ := by
 have := V_bool ha; subst this
 have := V_bool hb'; subst this
 refine GV.pure hR (cv := .bool (if neg then !(a == b) else a == b)) (fun w _ => ?_) (.bool _ _)
 refine binOp_eq neg ?_ ?_ ?_ (equal_of (equalIn_bool 9999 hb a b w))
 ·cases neg <;> simp [eqGuard]
 ·simp only [binOp]
 ·simp only [binOp]
mutual
def flatT (P : Program) : Nat → TypeId → Option (List EK)
 | 0,_ => none
 | d + 1,t => match P.underlying t with
  | some (.int _) => some [.i]
  | some .string => some [.s]
  | some .bool => some [.b]
  | some (.struct fs) => if P.stoodInHeld t then none else flatFs P d fs.toList 0
  | _ => none
def flatFs (P : Program) : Nat → List Field → Nat → Option (List EK)
 | 0,_,_ => none
 | _ + 1,[],_ => some []
 | d + 1, f :: fs, off => if f.offset = off ∧ f.name ≠ "_" then
   match flatT P d f.type with
   | some ks => if sizeT P f.type = some ks.length then (flatFs P d fs (off + ks.length)).map (ks ++ ·) else none
   | none => none
  else none
end
inductive CE : EK → Value → Value → Bool → Prop
 | i (k : IntKind) (a b : Int) : CE .i (.int k a) (.int k b) (a == b)
 | s (a b : ByteArray) : CE .s (.string a) (.string b) (a.toList == b.toList)
 | b (a b : Bool) : CE .b (.bool a) (.bool b) (a == b)
inductive CEs : List EK → List Value → List Value → Bool → Prop
 | nil : CEs [] [] [] true
 | cons (k : EK) (a b : Value) (r : Bool) (ks : List EK) (azs bs : List Value) (rs : Bool) : CE k a b r → CEs ks azs bs rs → CEs (k :: ks) (a :: azs) (b :: bs) (r && rs)
theorem CEs_append {ks ks' : List EK} : ∀ {azs bs : List Value} {r : Bool},CEs (ks ++ ks') azs bs r → ∃ r1 r2,CEs ks (azs.take ks.length) (bs.take ks.length) r1 ∧ CEs ks' (azs.drop ks.length) (bs.drop ks.length) r2 ∧ r = (r1 && r2) := by
 induction ks with
 | nil => intro azs bs r h; exact ⟨true,r,by simpa using CEs.nil,by simpa using h,by simp⟩
 | cons k ks ih =>
  intro azs bs r h
  cases h with
  | cons _ a b r _ azs bs rs h1 h2 =>
   obtain ⟨r1,r2,g1,g2,rfl⟩ := ih h2
   exact ⟨r && r1,r2,.cons _ _ _ _ _ _ _ _ h1 g1,g2,by simp [Bool.and_assoc]⟩
theorem CEs_len {ks : List EK} : ∀ {azs bs : List Value} {r : Bool},CEs ks azs bs r → azs.length = ks.length ∧ bs.length = ks.length := by
 induction ks with
 | nil => intro azs bs r h; cases h; exact ⟨rfl,rfl⟩
 | cons k ks ih => intro azs bs r h; cases h with | cons _ a b r _ azs bs rs h1 h2 => have := ih h2; simp [this]
def formed (P : Program) (t : TypeId) (cs : List Value) (v : Value) : Prop :=
 match P.underlying t with
 | some (.struct _) => v = .agg cs.toArray
 | _ => [v] = cs
theorem part_formed {t : TypeId} {n : Nat} {xs : List Value} {off : Nat} {ks : List EK} {d : Nat} (hk : flatT P d t = some ks) (hs : sizeT P t = some ks.length) (hlt : off + ks.length ≤ xs.length) (w : World) :
  ∃ v,(part t xs.toArray off).run P w = .ok v w ∧ formed P t ((xs.drop off).take ks.length) v := by
 obtain ⟨i,hi,hin⟩ := sizeT_eq hs
 cases d with
 | zero => simp [flatT] at hk
 | succ d =>
  unfold flatT at hk
  unfold formed
  split at hk
  ·rename_i k hu
   simp at hk; subst hk
   have : off < xs.length := by simp at hlt; omega
   refine ⟨xs[off],?_,?_⟩
   ·simp [part,isAgg,run_underlying hu,Result.andThen,this]
   ·simp only [hu]; show [xs[off]] = List.take 1 (xs.drop off); rw [List.drop_eq_getElem_cons this]; rfl
  ·rename_i hu
   simp at hk; subst hk
   have : off < xs.length := by simp at hlt; omega
   refine ⟨xs[off],?_,?_⟩
   ·simp [part,isAgg,run_underlying hu,Result.andThen,this]
   ·simp only [hu]; show [xs[off]] = List.take 1 (xs.drop off); rw [List.drop_eq_getElem_cons this]; rfl
  ·rename_i hu
   simp at hk; subst hk
   have : off < xs.length := by simp at hlt; omega
   refine ⟨xs[off],?_,?_⟩
   ·simp [part,isAgg,run_underlying hu,Result.andThen,this]
   ·simp only [hu]; show [xs[off]] = List.take 1 (xs.drop off); rw [List.drop_eq_getElem_cons this]; rfl
  ·rename_i fs hu
   refine ⟨.agg ((xs.drop off).take ks.length).toArray,?_,by simp only [hu]⟩
   simp only [part,isAgg,Sem.run_bind,run_underlying hu,Result.andThen,if_true,sz_of hi,hin,Sem.run_pure]
   simp
  ·simp at hk
mutual
theorem equalIn_flat : ∀ (d : Nat) {t : TypeId} {ks : List EK},flatT P d t = some ks → ∀ (D : Nat),d ≤ D → ∀ {azs bs : List Value} {a b : Value} {r : Bool} (w : World),CEs ks azs bs r → formed P t azs a → formed P t bs b →
  (Op.equalIn D t a b).run P w = .ok r w
 | 0,_,_,h,_,_,_,_,_,_,_,_,_,_,_ => by simp [flatT] at h
 | d + 1,t,ks,h,0,hD,_,_,_,_,_,_,_,_,_ => by omega
 | d + 1,t,ks,h,D + 1,hD,azs,bs,a,b,r,w,hc,ha,hb => by
  unfold flatT at h
  unfold formed at ha hb
  split at h
  ·rename_i k hu
   simp at h; subst h
   simp only [hu] at ha hb
   subst ha; subst hb
   cases hc with | cons _ _ _ r _ _ _ rs h1 h2 => cases h2; cases h1; rw [run_equalIn_int (P := P) w D t _ _ _ _ hu]; simp
  ·rename_i hu
   simp at h; subst h
   simp only [hu] at ha hb
   subst ha; subst hb
   cases hc with | cons _ _ _ r _ _ _ rs h1 h2 => cases h2; cases h1; rw [run_equalIn_string (P := P) w D t _ _ hu]; simp
  ·rename_i hu
   simp at h; subst h
   simp only [hu] at ha hb
   subst ha; subst hb
   cases hc with | cons _ _ _ r _ _ _ rs h1 h2 => cases h2; cases h1; rw [equalIn_bool D hu]; simp
  ·rename_i fs hu
   simp only [hu] at ha hb
   subst ha; subst hb
   split at h
   ·simp at h
   ·rename_i hst
    have hf : P.fieldsOf t = fs := by simp [Program.fieldsOf,hu]
    rw [run_equalIn_struct (P := P) w D t _ _ (by rw [hf]; exact hu) (by simpa using hst),hf]
    have hl := CEs_len hc
    exact eqFields_flat d h D (by omega) (azs := azs) (bs := bs) w (by simpa using hc) (by omega) (by omega)
  ·simp at h
theorem eqFields_flat : ∀ (d : Nat) {fs : List Field} {off : Nat} {ks : List EK},flatFs P d fs off = some ks → ∀ (D : Nat),d ≤ D → ∀ {azs bs : List Value} {r : Bool} (w : World),CEs ks (azs.drop off) (bs.drop off) r →
  off + ks.length ≤ azs.length → off + ks.length ≤ bs.length → (Op.eqFields D azs.toArray bs.toArray fs).run P w = .ok r w
 | 0,_,_,_,h,_,_,_,_,_,_,_,_,_ => by simp [flatFs] at h
 | d + 1,[],off,ks,h,D,_,azs,bs,r,w,hc,_,_ => by
  simp [flatFs] at h; subst h
  generalize List.drop off azs = azs' at hc
  generalize List.drop off bs = bs' at hc
  cases hc; simp [Op.eqFields]
 | d + 1,f :: fs,off,ks,h,D,hD,azs,bs,r,w,hc,h1,h2 => by
  unfold flatFs at h
  split at h
  ·rename_i hf
   obtain ⟨ho,hn⟩ := hf
   split at h
   ·rename_i ks1 hk1
    split at h
    ·rename_i hsz
     cases hk2 : flatFs P d fs (off + ks1.length) with
     | none => simp [hk2] at h
     | some ks2 =>
      simp [hk2] at h; subst h
      obtain ⟨r1,r2,g1,g2,rfl⟩ := CEs_append hc
      simp only [List.length_append] at h1 h2
      obtain ⟨va,hva,fa⟩ := part_formed (n := 0) (xs := azs) (off := off) hk1 hsz (by omega) w
      obtain ⟨vb,hvb,fb⟩ := part_formed (n := 0) (xs := bs) (off := off) hk1 hsz (by omega) w
      have e1 := equalIn_flat d hk1 D (by omega) w g1 fa fb
      simp only [List.drop_drop] at g2
      have e2 := eqFields_flat d hk2 D (by omega) (azs := azs) (bs := bs) w g2 (by omega) (by omega)
      rw [Op.eqFields,if_pos hn]
      subst ho
      simp only [Sem.run_bind,hva,hvb,e1,Result.andThen]
      cases r1
      ·simp
      ·simpa using e2
    ·simp at h
   ·simp at h
  ·simp at h
end
theorem CE_of {hp : Array Obj} {S : Nat → Nat → Prop} {I : Ids} {k : EK} {a b : AVal} {ca cb : Value} {r : Bool} (ha : VRel cf hp S I a ca) (hb : VRel cf hp S I b cb) (h : cellEq k a b = some r) : CE k ca cb r := by
 unfold cellEq at h
 split at h
 ·have e1 := V_int ha; have e2 := V_int hb
  subst e1; subst e2
  split at h
  ·rename_i hk; subst hk; simp at h; subst h; exact .i _ _ _
  ·simp at h
 ·obtain ⟨s,rfl,rfl⟩ := V_str ha
  obtain ⟨s',rfl,rfl⟩ := V_str hb
  injection h with h
  rw [← h,← ByteArray.toList_eq,← ByteArray.toList_eq]
  exact .s _ _
 ·have e1 := V_bool ha; have e2 := V_bool hb
  subst e1; subst e2
  simp at h; subst h
  exact .b _ _
 ·simp at h
theorem CEs_of {hp : Array Obj} {S : Nat → Nat → Prop} {I : Ids} : ∀ {ks : List EK} {azs bs : List AVal} {cas cbs : List Value} {r : Bool},VRelL cf hp S I azs cas → VRelL cf hp S I bs cbs → cellsEq ks azs bs = some r → CEs ks cas cbs r
 | [],[],[],_,_,r,.nil _,.nil _,h => by simp at h; subst h; exact .nil
 | k :: ks,a :: azs,b :: bs,_,_,r,.cons _ _ _ _ _ ha has,.cons _ _ _ _ _ hb hbs,h => by
  unfold cellsEq at h
  split at h
  ·rename_i x y hx hy
   simp at h; subst h
   exact .cons _ _ _ _ _ _ _ _ (CE_of ha hb hx) (CEs_of has hbs hy)
  ·simp at h
 | [],[],_ :: _,_,_,_,_,_,h => by simp at h
 | [],_ :: _,_,_,_,_,_,_,h => by simp at h
 | _ :: _,[],_,_,_,_,_,_,h => by simp at h
 | _ :: _,_ :: _,[],_,_,_,_,_,h => by simp at h
def isStructT (P : Program) (t : TypeId) : Bool := match P.underlying t with | some (.struct _) => true | _ => false
theorem eqs_run (neg : Bool) {t : TypeId} (x y : Operand) {ks : List EK} {d : Nat} (hd : d ≤ 10000) (hk : flatT P d t = some ks) (hst : isStructT P t = true) (hg : P.eqGuardType P.depth t = false) {a b : AVal} {ca cb : Value} {r : Bool}
  (ha : κ.V E cf a ca) (hb : κ.V E cf b cb) (h : eqsV ks a b = some r) (hR : κ.R E cf) :
  GV P E cf κ (do eqGuard (if neg then .neq else .eql) t x y ca cb; binOp (if neg then .neq else .eql) t ca cb) (.bool (if neg then !r else r)) κ.σ := by
 unfold eqsV at h
 split at h
 ·rename_i azs bs
  obtain ⟨us,rfl,hl,_⟩ := V_agg ha
  obtain ⟨vs,rfl,hl',_⟩ := V_agg hb
  refine GV.pure hR (cv := .bool (if neg then !r else r)) (fun w _ => ?_) (.bool _ _)
  refine binOp_eq neg ?_ ?_ ?_ ?_
  ·exact run_eqGuard_agg w _ t x y _ _ hg
  ·simp only [binOp]
  ·simp only [binOp]
  ·have hform : ∀ us : List Value,formed P t us (.agg us.toArray) := by
    intro us
    unfold isStructT at hst
    unfold formed
    split at hst <;> simp_all
   exact equalIn_flat d hk 10000 hd w (CEs_of hl hl' h) (hform _) (hform _)
 ·simp at h
end
section
variable {P : Program} {E : Env} {cf : FuncId → FuncId} {κ : K}
theorem flat_length {sz : Nat} {es : List AVal} (h : AVal.elemsOk sz es) : (es.flatMap AVal.cells).length = es.length * sz := by
 induction es with
 | nil => simp
 | cons e es ih =>
  have h1 := (h e List.mem_cons_self).1
  have h2 := ih (fun x hx => h x (List.mem_cons_of_mem _ hx))
  simp only [List.flatMap_cons,List.length_append,List.length_cons,h1,h2,Nat.add_mul]; omega
theorem flat_take {sz : Nat} {es : List AVal} (h : AVal.elemsOk sz es) (n : Nat) : (es.take n).flatMap AVal.cells = (es.flatMap AVal.cells).take (n * sz) := by
 induction es generalizing n with
 | nil => simp
 | cons e es ih =>
  have h1 := (h e List.mem_cons_self).1
  cases n with
  | zero => simp
  | succ n =>
   have h2 := ih (fun x hx => h x (List.mem_cons_of_mem _ hx)) n
   simp only [List.take_succ_cons,List.flatMap_cons,h2]
   rw [List.take_append,List.take_of_length_le (l := e.cells) (by rw [h1,Nat.add_mul]; omega),h1]
   congr 2
   rw [Nat.add_mul]; omega
theorem flat_drop {sz : Nat} {es : List AVal} (h : AVal.elemsOk sz es) (n : Nat) : (es.drop n).flatMap AVal.cells = (es.flatMap AVal.cells).drop (n * sz) := by
 induction es generalizing n with
 | nil => simp
 | cons e es ih =>
  have h1 := (h e List.mem_cons_self).1
  cases n with
  | zero => simp
  | succ n =>
   have h2 := ih (fun x hx => h x (List.mem_cons_of_mem _ hx)) n
   simp only [List.drop_succ_cons,List.flatMap_cons,h2]
   rw [List.drop_append,List.drop_of_length_le (l := e.cells) (by rw [h1,Nat.add_mul]; omega),h1,List.nil_append]
   congr 1
   rw [Nat.add_mul]; omega
theorem flat_get {sz : Nat} {es : List AVal} (h : AVal.elemsOk sz es) (i : Nat) (e : AVal) (he : es[i]? = some e) : e.cells = ((es.flatMap AVal.cells).drop (i * sz)).take sz := by
 have hd := flat_drop h i
 have hi := (List.getElem?_eq_some_iff.1 he)
 obtain ⟨hi,hei⟩ := hi
 rw [List.drop_eq_getElem_cons hi,hei] at hd
 rw [← hd]
 simp only [List.flatMap_cons]
 have h1 := (h e (List.mem_of_getElem? he)).1
 rw [List.take_append,h1,Nat.sub_self,List.take_zero,List.append_nil,List.take_of_length_le (by omega)]
theorem rowAt_take {hp : Array Obj} {b o n : Nat} {vs : List Value} (h : rowAt hp b o vs) : rowAt hp b o (vs.take n) := by
 intro j v hj
 have := List.getElem?_take (l := vs) (i := n) (j := j)
 rw [this] at hj
 split at hj
 ·exact h j v hj
 ·simp at hj
theorem rowAt_drop {hp : Array Obj} {b o n : Nat} {vs : List Value} (h : rowAt hp b o vs) : rowAt hp b (o + n) (vs.drop n) := by
 intro j v hj
 rw [List.getElem?_drop] at hj
 have := h (n + j) v hj
 rw [Nat.add_assoc]
 exact this
theorem elemsOk_take {sz n : Nat} {es : List AVal} (h : AVal.elemsOk sz es) : AVal.elemsOk sz (es.take n) := fun e he => h e (List.mem_of_mem_take he)
theorem elemsOk_drop {sz n : Nat} {es : List AVal} (h : AVal.elemsOk sz es) : AVal.elemsOk sz (es.drop n) := fun e he => h e (List.mem_of_mem_drop he)
theorem tagsLe_take {t n : Nat} {es : List AVal} (h : AVal.tagsLe t es) : AVal.tagsLe t (es.take n) := fun e he => h e (List.mem_of_mem_take he)
theorem tagsLe_drop {t n : Nat} {es : List AVal} (h : AVal.tagsLe t es) : AVal.tagsLe t (es.drop n) := fun e he => h e (List.mem_of_mem_drop he)
theorem add_spot (b o n : Nat) : (⟨b,o,none⟩ : Addr).add n = ⟨b,o + n,none⟩ := by
 unfold Addr.add; split <;> simp_all
theorem faddr_val {o : Nat} {a v : AVal} {ca : Value} (ha : κ.V E cf a ca) (h : faddrV o a = some v) : ∃ b c,ca = .pointer (some ⟨b,c,none⟩) ∧ κ.V E cf v (.pointer (some ⟨b,c + o,none⟩)) := by
 unfold faddrV at h
 split at h <;> simp at h <;> subst h
 ·cases ha; exact ⟨_,_,rfl,.ptr _ _ _ _ ‹_›⟩
 ·cases ha; exact ⟨_,_,rfl,by rw [Nat.add_assoc]; exact .eptr _ _ _ _ _ _ _ ‹_›⟩
 ·cases ha; exact ⟨_,_,rfl,by rw [Nat.add_assoc]; exact .fptr _ _ _ _ _ _ _ ‹_› ‹_› ‹_› ‹_› ‹_›⟩
theorem faddr_run {t ft : TypeId} {fs : Array Field} {f : Field} {i off n : Nat} (ht : P.underlying t = some (.struct fs)) (hf : fs[i]? = some f) (ho : f.offset = off) (hft : f.type = ft)
  (hn : sizeT P ft = some n) (hn0 : n ≠ 0) {a v : AVal} {ca : Value} (ha : κ.V E cf a ca) (h : faddrV off a = some v) (hR : κ.R E cf) : GV P E cf κ (Instr.fieldAt t ca i) v κ.σ := by
 obtain ⟨b,c,rfl,hv⟩ := faddr_val ha h
 obtain ⟨inf,hinf,hsz⟩ := sizeT_eq hn
 subst ho hft
 exact GV.pure hR (cv := .pointer (some ⟨b,c + f.offset,none⟩)) (fun w _ => by
  simp [Instr.fieldAt,run_underlying ht,Result.andThen,hf,Instr.sureAddr,fieldPlace,sz_of hinf,hsz,hn0,add_spot]) hv
theorem iaddr_run {t e : TypeId} {sz : Nat} (ht : P.underlying t = some (.slice e)) (hn : sizeT P e = some sz) (h0 : 0 < sz) {a b v : AVal} {ca cb : Value} (ha : κ.V E cf a ca) (hb : κ.V E cf b cb)
  (h : iaddrV sz a b = some v) (hR : κ.R E cf) : GV P E cf κ (Instr.indexAt t ca cb) v κ.σ := by
 obtain ⟨inf,hinf,hsz⟩ := sizeT_eq hn
 unfold iaddrV at h
 split at h
 ·rename_i tg fl sz' es k i
  have := V_int hb; subst this
  split at h
  ·rename_i hc
   obtain ⟨rfl,hi0⟩ := hc
   cases he : es[i.toNat]? with
   | none => simp [he] at h
   | some x =>
    simp [he] at h
    subst h
    cases ha with
    | zslice => simp at he
    | fslice _ _ _ _ _ bb oo len cap vs g1 g2 g3 g4 g5 g6 g7 g8 g9 =>
    have hlt := (List.getElem?_eq_some_iff.1 he).1
    have hi : 0 ≤ i ∧ i < (len : Int) := by omega
    refine GV.pure hR (cv := .pointer (some ⟨bb,oo + i.toNat * sz',none⟩)) (fun w _ => ?_) ?_
    ·simp [Instr.indexAt,asIntOf,run_underlying ht,Result.andThen,hi,sz_of hinf,hsz,add_spot]
    ·have hx := flat_get g3 _ _ he
     have := VRel.fptr (cf := cf) (h := κ.h) (S := κ.safe E) κ.ids tg x.cells 0 bb (oo + i.toNat * sz') ((vs.drop (i.toNat * sz')).take sz') g1
      (by rw [hx]; exact VL_take _ (VL_drop _ g2)) (g3 x (List.mem_of_getElem? he)).2 (fun c hc => Nat.le_trans (tag_le_of_cells hc) (g5 x (List.mem_of_getElem? he))) (rowAt_take (rowAt_drop g6))
     simpa using this
  ·simp at h
 ·rename_i sz' id ep off len cap k i
  have := V_int hb; subst this
  split at h
  ·rename_i hc
   obtain ⟨rfl,hi0,hi1⟩ := hc
   simp at h; subst h
   cases ha with
   | slice _ _ _ _ _ _ _ bb oo cap' hs =>
   obtain ⟨⟨s1,s1p⟩,s2,s3,es,epo,fl,s4,s5,s6⟩ := hs
   refine GV.pure hR (cv := .pointer (some ⟨bb,oo + i.toNat * sz',none⟩)) (fun w _ => ?_) ?_
   ·simp [Instr.indexAt,asIntOf,run_underlying ht,Result.andThen,hi0,hi1,sz_of hinf,hsz,add_spot]
   ·have := VRel.eptr (cf := cf) (h := κ.h) (S := κ.safe E) κ.ids id ep (off + i.toNat) 0 bb (oo + i.toNat * sz') ⟨sz',es,epo,fl,s4,⟨s5,s1p⟩,fun hf => by
     obtain ⟨q1,q2,q3⟩ := s6 hf
     have hr : len ≤ cap.getD len := by
      cases cap with
      | none => simp
      | some c => have := s2 c rfl; simp; omega
     refine ⟨by omega,?_⟩
     have hz : ¬ cap' = 0 := by omega
     rcases q2 with ⟨rfl,hz'⟩ | ⟨u1,u2,u3,u4⟩
     ·refine .inl ⟨rfl,.inl ?_⟩
      rcases hz' with rfl | hz'
      ·rw [Nat.add_mul]
      ·exact absurd hz' hz
     ·refine .inr ⟨u1,u2,u3,.inr fun j hj => ?_⟩
      rcases u4 with u4 | u4
      ·exact absurd u4 hz
      ·have hm : i.toNat * sz' + j < cap.getD len * sz' := by
        have : (i.toNat + 1) * sz' ≤ cap.getD len * sz' := Nat.mul_le_mul_right _ (by omega)
        rw [Nat.add_mul] at this
        omega
       have := u4 (i.toNat * sz' + j) hm
       rw [show oo + i.toNat * sz' + j = oo + (i.toNat * sz' + j) by omega,this]
       congr 1
       rw [Nat.add_mul]; omega⟩
    simpa using this
  ·simp at h
 ·rename_i id off sz' len k i
  have := V_int hb; subst this
  split at h
  ·rename_i hc
   obtain ⟨rfl,hi0,hi1⟩ := hc
   simp at h; subst h
   cases ha with
   | cslice _ _ _ _ _ bb hz hp =>
   refine GV.pure hR (cv := .pointer (some ⟨bb,off + i.toNat * sz',none⟩)) (fun w _ => ?_) (.ptr _ _ _ _ hp)
   simp [Instr.indexAt,asIntOf,run_underlying ht,Result.andThen,hi0,hi1,sz_of hinf,hsz,add_spot]
  ·simp at h
 ·simp at h
theorem aaddr_run {t e : TypeId} {len sz : Nat} (ht : P.underlying t = some (.array len e)) (hn : sizeT P e = some sz) {a b v : AVal} {ca cb : Value} (ha : κ.V E cf a ca) (hb : κ.V E cf b cb)
  (h : aaddrV len sz a b = some v) (hR : κ.R E cf) : GV P E cf κ (Instr.indexAt t ca cb) v κ.σ := by
 obtain ⟨inf,hinf,hsz⟩ := sizeT_eq hn
 unfold aaddrV at h
 split at h
 ·rename_i k i
  have := V_int hb; subst this
  split at h
  ·rename_i hi
   obtain ⟨b,c,rfl,hv⟩ := faddr_val ha h
   exact GV.pure hR (cv := .pointer (some ⟨b,c + i.toNat * sz,none⟩)) (fun w _ => by
    simp [Instr.indexAt,asIntOf,run_underlying ht,Result.andThen,Instr.sureAddr,hi,sz_of hinf,hsz,add_spot]) hv
  ·simp at h
 ·simp at h
theorem bnd_run {y y' : Nat} {v : AVal} {cv : Value} {n : Nat} (hv : κ.V E cf v cv) (h : bnd y v = some n) (hy : y ≤ y') (code : BoundsCode) (w : World) :
  (Instr.sliceBound cv y' code).run P w = .ok n w ∧ n ≤ y := by
 unfold bnd at h
 split at h
 ·rename_i k i
  have := V_int hv; subst this
  split at h
  ·rename_i hi
   simp at h; subst h
   exact ⟨run_sliceBound w k i y' code hi.1 (by omega),by omega⟩
  ·simp at h
 ·simp at h
def OV (κ : K) (E : Env) (cf : FuncId → FuncId) : Option AVal → Option Value → Prop
 | none,none => True
 | some a,some v => κ.V E cf a v
 | _,_ => False
theorem bounds_run {len cap y : Nat} {lo hi mx : Option AVal} {clo chi cmx : Option Value} {m h l : Nat} (hlo : OV κ E cf lo clo) (hhi : OV κ E cf hi chi) (hmx : OV κ E cf mx cmx)
  (hm3 : mx.isSome = true → hi.isSome = true) (hy : y ≤ cap) (hly : len ≤ y) (h1 : obnd y y mx = some m) (h2 : obnd len m hi = some h) (h3 : obnd 0 h lo = some l) (w : World) :
  (Instr.sliceBounds true len cap clo chi cmx).run P w = .ok (l,h,if mx.isNone then cap else m) w ∧ l ≤ h ∧ h ≤ m ∧ m ≤ y := by
 have key : ∀ mm,(∀ v cv,hi = some v → chi = some cv → ∀ code,(Instr.sliceBound cv mm code).run P w = .ok h w) → (hi = none → mx = none) → True := fun _ _ _ => trivial
 cases mx with
 | none =>
  cases cmx with
  | some _ => exact hmx.elim
  | none =>
  simp at h1; subst h1
  cases hi with
  | none =>
   cases chi with
   | some _ => exact hhi.elim
   | none =>
   simp at h2; subst h2
   cases lo with
   | none =>
    cases clo with
    | some _ => exact hlo.elim
    | none => simp at h3; subst h3; exact ⟨by simp [Instr.sliceBounds],by omega,hly,Nat.le_refl _⟩
   | some v =>
    cases clo with
    | none => exact hlo.elim
    | some cv =>
     simp only [obnd] at h3
     obtain ⟨r,hr⟩ := bnd_run (P := P) hlo h3 (Nat.le_refl _) .sliceB w
     exact ⟨by simp [Instr.sliceBounds,r,Result.andThen],hr,hly,Nat.le_refl _⟩
  | some hv =>
   cases chi with
   | none => exact hhi.elim
   | some hcv =>
   simp only [obnd] at h2
   obtain ⟨r2,hr2⟩ := bnd_run (P := P) hhi h2 hy .sliceAcap w
   cases lo with
   | none =>
    cases clo with
    | some _ => exact hlo.elim
    | none => simp at h3; subst h3; exact ⟨by simp [Instr.sliceBounds,r2,Result.andThen],by omega,hr2,Nat.le_refl _⟩
   | some v =>
    cases clo with
    | none => exact hlo.elim
    | some cv =>
     simp only [obnd] at h3
     obtain ⟨r,hr⟩ := bnd_run (P := P) hlo h3 (Nat.le_refl _) .sliceB w
     exact ⟨by simp [Instr.sliceBounds,r,r2,Result.andThen],hr,hr2,Nat.le_refl _⟩
 | some mv =>
  cases cmx with
  | none => exact hmx.elim
  | some mcv =>
  simp only [obnd] at h1
  obtain ⟨r1,hr1⟩ := bnd_run (P := P) hmx h1 hy .slice3Acap w
  cases hi with
  | none => simp at hm3
  | some hv =>
   cases chi with
   | none => exact hhi.elim
   | some hcv =>
   simp only [obnd] at h2
   obtain ⟨r2,hr2⟩ := bnd_run (P := P) hhi h2 (Nat.le_refl _) .slice3B w
   cases lo with
   | none =>
    cases clo with
    | some _ => exact hlo.elim
    | none => simp at h3; subst h3; exact ⟨by simp [Instr.sliceBounds,r1,r2,Result.andThen],by omega,hr2,hr1⟩
   | some v =>
    cases clo with
    | none => exact hlo.elim
    | some cv =>
     simp only [obnd] at h3
     obtain ⟨r,hr⟩ := bnd_run (P := P) hlo h3 (Nat.le_refl _) .slice3C w
     exact ⟨by simp [Instr.sliceBounds,r,r1,r2,Result.andThen],hr,hr2,hr1⟩
theorem elem_eq {t e : TypeId} (ht : P.underlying t = some (.slice e)) : P.elem t = e := by simp [Program.elem,ht]
theorem sliced_eq (b o l h m s : Nat) : sliced (some ⟨b,o,none⟩) l h m s = .slice (some ⟨b,if m = l then o else o + l * s,none⟩) (h - l) (m - l) := by
 unfold sliced
 split <;> simp [add_spot]
theorem sliceOp_run {t e : TypeId} {sz : Nat} (ht : P.underlying t = some (.slice e)) (hn : sizeT P e = some sz) {lo hi mx : Option AVal} {clo chi cmx : Option Value}
  (hlo : OV κ E cf lo clo) (hhi : OV κ E cf hi chi) (hmx : OV κ E cf mx cmx) (hm3 : mx.isSome = true → hi.isSome = true) {a v : AVal} {ca : Value} (ha : κ.V E cf a ca)
  (h : sliceV sz a lo hi mx = some v) (hR : κ.R E cf) : GV P E cf κ (Instr.sliceAt t ca clo chi cmx) v κ.σ := by
 obtain ⟨inf,hinf,hsz⟩ := sizeT_eq hn
 have hel := elem_eq ht
 have ht' : P.underlying t = some (.slice (P.elem t)) := by rw [hel]; exact ht
 have hrun : ∀ (w : World) (ad : Option Addr) (len cap l hh m : Nat),(Instr.sliceBounds true len cap clo chi cmx).run P w = .ok (l,hh,m) w →
   (Instr.sliceAt t (.slice ad len cap) clo chi cmx).run P w = .ok (sliced ad l hh m sz) w := by
  intro w ad len cap l hh m hb
  rw [run_sliceAt_slice w t _ _ _ _ ht',run_slice_any w t ad len cap ht',hb]
  simp only [Result.andThen]
  rw [hel,sz_of hinf,hsz]
 unfold sliceV at h
 split at h
 ·-- nil
  cases ha
  split at h
  ·rename_i m hh l h1 h2 h3
   simp at h; subst h
   have hm : m = 0 := by
    cases mx with
    | none => simpa using h1.symm
    | some q => simp only [obnd,bnd] at h1; split at h1 <;> simp at h1; omega
   have hh0 : hh = 0 := by
    cases hi with
    | none => simpa using h2.symm
    | some q => simp only [obnd,bnd] at h2; split at h2 <;> simp at h2; omega
   subst hm hh0
   refine GV.pure hR (cv := .slice none 0 0) (fun w _ => ?_) (.nilslice _)
   obtain ⟨hb,hl,_,_⟩ := bounds_run (P := P) (len := 0) (cap := 0) (y := 0) hlo hhi hmx hm3 (Nat.le_refl _) (Nat.le_refl _) h1 h2 h3 w
   have : l = 0 := by omega
   subst this
   have := hrun w none 0 0 0 0 _ hb
   rw [this]
   simp [sliced]
  ·simp at h
 ·rename_i tg full sz' es
  split at h
  ·rename_i hse
   subst hse
   split at h
   ·rename_i m h1
    split at h
    ·rename_i hh h2
     split at h
     ·rename_i l h3
      split at h
      ·rename_i hmm
       injection h with h
       subst h
       cases ha with
       | zslice _ _ _ _ ad g1 =>
        obtain ⟨_,q1,q2,q3⟩ := bounds_run (P := P) hlo hhi hmx hm3 (Nat.le_refl 0) (Nat.le_refl 0) h1 h2 h3 (default : World)
        have em : m = 0 := by omega
        have eh : hh = 0 := by omega
        have el : l = 0 := by omega
        refine GV.pure hR (cv := sliced (some ad) l hh (if mx.isNone then 0 else m) sz') (fun w _ => ?_) ?_
        ·exact hrun w _ _ _ _ _ _ (bounds_run (P := P) hlo hhi hmx hm3 (Nat.le_refl 0) (Nat.le_refl 0) h1 h2 h3 w).1
        ·have e1 : sliced (some ad) l hh (if mx.isNone then 0 else m) sz' = .slice (some ad) 0 0 := by
          subst em; subst eh; subst el
          simp [sliced]
         rw [e1]
         simpa using VRel.zslice κ.ids tg _ sz' ad g1
       | fslice _ _ _ _ _ bb oo len cap vs g1 g2 g3 g4 g5 g6 g7 g8 g9 =>
       subst g7
       refine GV.pure hR (cv := sliced (some ⟨bb,oo,none⟩) l hh (if mx.isNone then cap else m) sz') (fun w _ => ?_) ?_
       ·exact hrun w _ _ _ _ _ _ (bounds_run (P := P) hlo hhi hmx hm3 g8 (Nat.le_refl _) h1 h2 h3 w).1
       ·obtain ⟨_,q1,q2,q3⟩ := bounds_run (P := P) hlo hhi hmx hm3 g8 (Nat.le_refl _) h1 h2 h3 (default : World)
        have hMx : ∃ M,(if mx.isNone = true then cap else m) = M ∧ hh ≤ M ∧ ((if mx.isNone = true then full && hh == es.length else true) = true → M = hh) := by
         cases hmx' : mx.isNone with
         | true =>
          refine ⟨cap,by simp,by omega,fun hfull => ?_⟩
          simp only [if_true,Bool.and_eq_true,beq_iff_eq] at hfull
          have := g9 hfull.1
          omega
         | false =>
          rw [hmx'] at hmm
          simp only [Bool.false_or,beq_iff_eq] at hmm
          exact ⟨m,by simp,by omega,fun _ => hmm⟩
        obtain ⟨M,hM,hMh,hMf⟩ := hMx
        rw [hM,sliced_eq]
        refine VRel.fslice κ.ids tg _ sz' _ bb _ _ _ ((vs.take (hh * sz')).drop (l * sz')) g1 ?_ (elemsOk_drop (elemsOk_take g3)) g4 (tagsLe_drop (tagsLe_take g5)) ?_ (by simp; omega) (by omega) ?_
        ·rw [flat_drop (elemsOk_take g3),flat_take g3]
         exact VL_drop _ (VL_take _ g2)
        ·by_cases hMl : M = l
         ·have : hh = l := by omega
          subst this
          rw [List.drop_eq_nil_of_le (by simp; omega)]
          intro j v hj
          simp at hj
         ·rw [if_neg hMl]
          exact rowAt_drop (rowAt_take g6)
        ·intro hfull
         have := hMf hfull
         omega
      ·simp at h
     ·simp at h
    ·simp at h
   ·simp at h
  ·simp at h
 ·rename_i sz' id ep off len cap
  split at h
  ·rename_i hse
   subst hse
   split at h
   ·rename_i m h1
    split at h
    ·rename_i hh h2
     split at h
     ·rename_i l h3
      injection h with h
      subst h
      cases ha with
      | slice _ _ _ _ _ _ _ bb oo cap' hs =>
      obtain ⟨⟨s1,s1p⟩,s2,s3,es,epo,fl,s4,s5,s6⟩ := hs
      have hr : len ≤ cap.getD len ∧ cap.getD len ≤ cap' := by
       cases cap with
       | none => simp; exact s1
       | some c => have := s2 c rfl; simp; omega
      refine GV.pure hR (cv := sliced (some ⟨bb,oo,none⟩) l hh (if mx.isNone then cap' else m) sz') (fun w _ => ?_) ?_
      ·exact hrun w _ _ _ _ _ _ (bounds_run (P := P) hlo hhi hmx hm3 hr.2 hr.1 h1 h2 h3 w).1
      ·obtain ⟨_,q1,q2,q3⟩ := bounds_run (P := P) hlo hhi hmx hm3 hr.2 hr.1 h1 h2 h3 (default : World)
       rw [sliced_eq]
       have hM : ∃ M,(if mx.isNone = true then cap' else m) = M ∧ hh ≤ M ∧ M ≤ cap' ∧ (∀ c,(if mx.isNone = true then cap.map (· - l) else some (m - l)) = some c → M - l = c) ∧
         ((if mx.isNone = true then cap.map (· - l) else some (m - l)) = none → cap = none ∧ M = cap') ∧ l + ((if mx.isNone = true then cap.map (· - l) else some (m - l)) : Option Nat).getD (hh - l) ≤ cap.getD len := by
        cases hmx' : mx.isNone with
        | true =>
         refine ⟨cap',by simp,by omega,Nat.le_refl _,?_,?_,?_⟩
         ·intro c hc
          simp only [if_true] at hc
          cases cap with
          | none => simp at hc
          | some c0 => have := s2 c0 rfl; simp at hc; omega
         ·intro hc
          simp only [if_true] at hc
          cases cap with
          | none => exact ⟨rfl,rfl⟩
          | some c0 => simp at hc
         ·cases cap with
          | none => simp at q3 ⊢; omega
          | some c0 => have := s2 c0 rfl; simp at q3 ⊢; omega
        | false => exact ⟨m,by simp,q2,by omega,fun c hc => by simpa using hc,fun hc => by simp at hc,by simp; omega⟩
       obtain ⟨M,hM,hM1,hM2,hM3,hM4,hM5⟩ := hM
       rw [hM]
       refine VRel.slice κ.ids sz' id ep (off + l) (hh - l) _ bb _ _ ⟨⟨by omega,s1p⟩,hM3,s3,es,epo,fl,s4,s5,fun hf => ?_⟩
       obtain ⟨u1,u2,u3⟩ := s6 hf
       refine ⟨by omega,?_,?_⟩
       ·rcases u2 with ⟨rfl,hz⟩ | ⟨v1,v2,v3,v4⟩
        ·refine .inl ⟨rfl,?_⟩
         by_cases hMl : M = l
         ·exact .inr (by omega)
         ·rw [if_neg hMl]
          rcases hz with rfl | hz
          ·exact .inl (by rw [Nat.add_mul])
          ·exact .inr (by omega)
        ·refine .inr ⟨v1,v2,v3,?_⟩
         by_cases hMl : M = l
         ·exact .inl (by omega)
         ·rcases v4 with hz | v4
          ·exact .inl (by omega)
          ·refine .inr fun j hj => ?_
           rw [if_neg hMl]
           have hle : (l + ((if mx.isNone = true then cap.map (· - l) else some (m - l)) : Option Nat).getD (hh - l)) * sz' ≤ cap.getD len * sz' := Nat.mul_le_mul_right _ hM5
           rw [Nat.add_mul] at hle
           have := v4 (l * sz' + j) (by omega)
           rw [show oo + l * sz' + j = oo + (l * sz' + j) by omega,this]
           congr 1
           rw [Nat.add_mul]; omega
       ·intro he hcn
        obtain ⟨hc0,rfl⟩ := hM4 hcn
        obtain ⟨w1,w2⟩ := u3 he hc0
        refine ⟨by omega,fun vs e f hv => ?_⟩
        have := w2 vs e f hv
        rw [show off + l + (M - l) = off + M by omega]
        exact this
     ·simp at h
    ·simp at h
   ·simp at h
  ·simp at h
 ·simp at h
theorem substr_run {t : TypeId} (ht : P.underlying t = some .string) {lo hi : Option AVal} {clo chi : Option Value}
  (hlo : OV κ E cf lo clo) (hhi : OV κ E cf hi chi) {a v : AVal} {ca : Value} (ha : κ.V E cf a ca)
  (h : substrV a lo hi = some v) (hR : κ.R E cf) : GV P E cf κ (Instr.sliceAt t ca clo chi none) v κ.σ := by
 unfold substrV at h
 split at h
 ·rename_i s
  obtain ⟨s,rfl,rfl⟩ := V_str ha
  split at h
  ·rename_i hh h2
   split at h
   ·rename_i l h3
    injection h with h
    subst h
    have hlen : s.data.toList.length = s.size := by simp
    refine GV.pure hR (cv := .string (s.extract l hh)) (fun w _ => ?_) ?_
    ·rw [run_sliceAt_string w t _ _ _ _ ht]
     have hbnd : (Instr.sliceBounds false s.size s.size clo chi none).run P w = .ok (l,hh,s.size) w := by
      cases hi with
      | none =>
       cases chi with
       | some _ => exact hhi.elim
       | none =>
       simp only [obnd,Option.some.injEq] at h2
       rw [hlen] at h2
       subst h2
       cases lo with
       | none =>
        cases clo with
        | some _ => exact hlo.elim
        | none => simp at h3; subst h3; simp [Instr.sliceBounds]
       | some v =>
        cases clo with
        | none => exact hlo.elim
        | some cv =>
         simp only [obnd] at h3
         obtain ⟨r,hr⟩ := bnd_run (P := P) hlo h3 (Nat.le_refl _) .sliceB w
         simp [Instr.sliceBounds,r,Result.andThen]
      | some hv =>
       cases chi with
       | none => exact hhi.elim
       | some hcv =>
       simp only [obnd] at h2
       obtain ⟨r2,hr2⟩ := bnd_run (P := P) (y' := s.size) hhi h2 (by rw [hlen]; exact Nat.le_refl _) .sliceAlen w
       cases lo with
       | none =>
        cases clo with
        | some _ => exact hlo.elim
        | none => simp at h3; subst h3; simp [Instr.sliceBounds,r2,Result.andThen]
       | some v =>
        cases clo with
        | none => exact hlo.elim
        | some cv =>
         simp only [obnd] at h3
         obtain ⟨r,hr⟩ := bnd_run (P := P) hlo h3 (Nat.le_refl _) .sliceB w
         simp [Instr.sliceBounds,r,r2,Result.andThen]
     simp [Instr.slice,run_underlying ht,Result.andThen,hbnd]
    ·have : (s.extract l hh).data.toList = (s.data.toList.take hh).drop l := by
      simp [ByteArray.data_extract,List.drop_take]
     rw [← this]
     exact .str _ _
   ·simp at h
  ·simp at h
 ·simp at h
end
section
variable {P : Program} {E : Env} {cf : FuncId → FuncId} {κ : K}
def nilMatch (P : Program) (t : TypeId) (k : NK) (v : Value) : Bool :=
 match P.underlying t,k,v with
 | some (.pointer _),.p,.pointer none => true
 | some (.slice _),.s,.slice none 0 0 => true
 | some (.map ..),.m,.map none => true
 | some (.func ..),.f,.nilFunc => true
 | some (.interface _),.i,.nilIface => true
 | _,_,_ => false
def isConst : Operand → Bool
 | .const _ => true
 | _ => false
theorem nil_cases {t : TypeId} {k : NK} {nv ca : Value} {a : AVal} {b : Bool} (hn : nilMatch P t k nv = true) (ha : κ.V E cf a ca) (h : isNil k a = some b) :
  (∃ e,P.underlying t = some (.pointer e) ∧ nv = .pointer none ∧ ∃ p,ca = .pointer p ∧ b = p.isNone) ∨
  (∃ e,P.underlying t = some (.slice e) ∧ nv = .slice none 0 0 ∧ ∃ p l c,ca = .slice p l c ∧ b = p.isNone) ∨
  (∃ e f,P.underlying t = some (.map e f) ∧ nv = .map none ∧ ∃ p,ca = .map p ∧ b = p.isNone) ∨
  (∃ e f g,P.underlying t = some (.func e f g) ∧ nv = .nilFunc ∧ ((ca = .nilFunc ∧ b = true) ∨ ∃ x y z,ca = .func x y z ∧ b = false)) ∨
  (∃ e,P.underlying t = some (.interface e) ∧ nv = .nilIface ∧ ((ca = .nilIface ∧ b = true) ∨ ∃ x y,ca = .iface x y ∧ b = false)) := by
 unfold nilMatch at hn
 split at hn <;> first | (simp at hn; done) | skip
 ·rename_i hu
  cases a <;> simp only [isNil] at h <;> first | (simp at h; done) | skip
  all_goals (injection h with h; subst h; cases ha; exact .inl ⟨_,hu,rfl,_,rfl,rfl⟩)
 ·rename_i hu
  cases a <;> simp only [isNil] at h <;> first | (simp at h; done) | skip
  all_goals (injection h with h; subst h; cases ha <;> exact .inr (.inl ⟨_,hu,rfl,_,_,_,rfl,rfl⟩))
 ·rename_i hu
  cases a <;> simp only [isNil] at h <;> first | (simp at h; done) | skip
  all_goals (injection h with h; subst h; cases ha; exact .inr (.inr (.inl ⟨_,_,hu,rfl,_,rfl,rfl⟩)))
 ·rename_i hu
  cases a <;> simp only [isNil] at h <;> first | (simp at h; done) | skip
  ·injection h with h; subst h; cases ha; exact .inr (.inr (.inr (.inl ⟨_,_,_,hu,rfl,.inr ⟨_,_,_,rfl,rfl⟩⟩)))
  ·injection h with h; subst h; cases ha; exact .inr (.inr (.inr (.inl ⟨_,_,_,hu,rfl,.inl ⟨rfl,rfl⟩⟩)))
 ·rename_i hu
  cases a <;> simp only [isNil] at h <;> first | (simp at h; done) | skip
  ·injection h with h; subst h; cases ha; exact .inr (.inr (.inr (.inr ⟨_,hu,rfl,.inl ⟨rfl,rfl⟩⟩)))
  ·injection h with h; subst h; cases ha; exact .inr (.inr (.inr (.inr ⟨_,hu,rfl,.inr ⟨_,_,rfl,rfl⟩⟩)))
theorem equalIn_nil (d : Nat) {t : TypeId} {k : NK} {nv ca : Value} {a : AVal} {b : Bool} (hn : nilMatch P t k nv = true) (ha : κ.V E cf a ca) (h : isNil k a = some b) (w : World) :
  (Op.equalIn (d + 1) t ca nv).run P w = .ok b w ∧ (Op.equalIn (d + 1) t nv ca).run P w = .ok b w := by
 rcases nil_cases hn ha h with ⟨e,hu,rfl,p,rfl,rfl⟩ | ⟨e,hu,rfl,p,l,c,rfl,rfl⟩ | ⟨e,f,hu,rfl,p,rfl,rfl⟩ | ⟨e,f,g,hu,rfl,⟨rfl,rfl⟩ | ⟨x,y,z,rfl,rfl⟩⟩ | ⟨e,hu,rfl,⟨rfl,rfl⟩ | ⟨x,y,rfl,rfl⟩⟩
 all_goals first
  | (cases p <;> (constructor <;> simp [Op.equalIn,run_underlying hu,Result.andThen]))
  | (constructor <;> simp [Op.equalIn,run_underlying hu,Result.andThen])
theorem eqnil_run (neg : Bool) {t : TypeId} {x y : Operand} {k : NK} {nv ca : Value} {a : AVal} {b : Bool} (hn : nilMatch P t k nv = true) (hy : isConst y = true) (ha : κ.V E cf a ca) (h : isNil k a = some b) (hR : κ.R E cf) :
  GV P E cf κ (do eqGuard (if neg then .neq else .eql) t x y ca nv; binOp (if neg then .neq else .eql) t ca nv) (.bool (if neg then !b else b)) κ.σ := by
 refine GV.pure hR (cv := .bool (if neg then !b else b)) (fun w _ => ?_) (.bool _ _)
 obtain ⟨cy,rfl⟩ : ∃ c,y = .const c := by cases y <;> simp [isConst] at hy; exact ⟨_,rfl⟩
 refine binOp_eq neg ?_ ?_ ?_ (equal_of (equalIn_nil 9999 hn ha h w).1)
 all_goals
  rcases nil_cases hn ha h with ⟨e,hu,rfl,p,rfl,rfl⟩ | ⟨e,hu,rfl,p,l,c,rfl,rfl⟩ | ⟨e,f,hu,rfl,p,rfl,rfl⟩ | ⟨e,f,g,hu,rfl,⟨rfl,rfl⟩ | ⟨x,y,z,rfl,rfl⟩⟩ | ⟨e,hu,rfl,⟨rfl,rfl⟩ | ⟨x,y,rfl,rfl⟩⟩
  all_goals first
   | (cases neg <;> simp [eqGuard]; done)
   | (simp only [binOp]; done)
theorem eqnil_run' (neg : Bool) {t : TypeId} {x y : Operand} {k : NK} {nv ca : Value} {a : AVal} {b : Bool} (hn : nilMatch P t k nv = true) (hy : isConst x = true) (ha : κ.V E cf a ca) (h : isNil k a = some b) (hR : κ.R E cf) :
  GV P E cf κ (do eqGuard (if neg then .neq else .eql) t x y nv ca; binOp (if neg then .neq else .eql) t nv ca) (.bool (if neg then !b else b)) κ.σ := by
 refine GV.pure hR (cv := .bool (if neg then !b else b)) (fun w _ => ?_) (.bool _ _)
 obtain ⟨cy,rfl⟩ : ∃ c,x = .const c := by cases x <;> simp [isConst] at hy; exact ⟨_,rfl⟩
 refine binOp_eq neg ?_ ?_ ?_ (equal_of (equalIn_nil 9999 hn ha h w).2)
 all_goals
  rcases nil_cases hn ha h with ⟨e,hu,rfl,p,rfl,rfl⟩ | ⟨e,hu,rfl,p,l,c,rfl,rfl⟩ | ⟨e,f,hu,rfl,p,rfl,rfl⟩ | ⟨e,f,g,hu,rfl,⟨rfl,rfl⟩ | ⟨x,y,z,rfl,rfl⟩⟩ | ⟨e,hu,rfl,⟨rfl,rfl⟩ | ⟨x,y,rfl,rfl⟩⟩
  all_goals first
   | (cases neg <;> simp [eqGuard]; done)
   | (simp only [binOp]; done)
theorem fold_min {v : AVal} : ∀ {bs : List AVal} {cbs : List Value} {a : AVal} {ca : Value},κ.V E cf a ca → κ.VL E cf bs cbs → foldV minV a bs = some v →
  ∃ cv,(∀ w,(cbs.foldlM Builtin.min2 ca).run P w = .ok cv w) ∧ κ.V E cf v cv
 | [],_,a,ca,ha,.nil _,h => by simp at h; subst h; exact ⟨ca,fun w => by simp,ha⟩
 | b :: bs,_,a,ca,ha,.cons _ _ cb _ cbs hb hbs,h => by
  unfold foldV at h
  split at h
  ·rename_i c hc
   unfold minV at hc
   split at hc
   ·have := V_int ha; subst this
    have := V_int hb; subst this
    split at hc
    ·rename_i hk; subst hk
     simp at hc
     subst hc
     rename_i k x y
     obtain ⟨cv,h1,h2⟩ := fold_min (a := .int k (if y < x then y else x)) (ca := .int k (if y < x then y else x)) (VRel.int _ _ _) hbs h
     exact ⟨cv,fun w => by simp [List.foldlM,Builtin.min2,h1],h2⟩
    ·simp at hc
   ·simp at hc
  ·simp at h
theorem fold_max {v : AVal} : ∀ {bs : List AVal} {cbs : List Value} {a : AVal} {ca : Value},κ.V E cf a ca → κ.VL E cf bs cbs → foldV maxV a bs = some v →
  ∃ cv,(∀ w,(cbs.foldlM Builtin.max2 ca).run P w = .ok cv w) ∧ κ.V E cf v cv
 | [],_,a,ca,ha,.nil _,h => by simp at h; subst h; exact ⟨ca,fun w => by simp,ha⟩
 | b :: bs,_,a,ca,ha,.cons _ _ cb _ cbs hb hbs,h => by
  unfold foldV at h
  split at h
  ·rename_i c hc
   unfold maxV at hc
   split at hc
   ·have := V_int ha; subst this
    have := V_int hb; subst this
    split at hc
    ·rename_i hk; subst hk
     simp at hc
     subst hc
     rename_i k x y
     obtain ⟨cv,h1,h2⟩ := fold_max (a := .int k (if y > x then y else x)) (ca := .int k (if y > x then y else x)) (VRel.int _ _ _) hbs h
     exact ⟨cv,fun w => by simp [List.foldlM,Builtin.max2,h1],h2⟩
    ·simp at hc
   ·simp at hc
  ·simp at h
theorem pureL_app : ∀ {a b : List AVal},AVal.pureL a = true → AVal.pureL b = true → AVal.pureL (a ++ b) = true
 | [],_,_,hb => hb
 | y :: ys,_,ha,hb => by
  simp only [AVal.pureL,Bool.and_eq_true,List.cons_append] at ha ⊢
  exact ⟨ha.1,pureL_app ha.2 hb⟩
theorem pureL_cells : ∀ {es : List AVal},AVal.pureL es = true → AVal.pureL (es.flatMap AVal.cells) = true
 | [],_ => rfl
 | x :: xs,h => by
  simp only [AVal.pureL,Bool.and_eq_true] at h
  simp only [List.flatMap_cons]
  refine pureL_app ?_ (pureL_cells h.2)
  have := h.1
  cases x <;> simp_all [AVal.cells,AVal.pure,AVal.pureL]
mutual
theorem V_pure {hp : Array Obj} {S : Nat → Nat → Prop} : ∀ {I : Ids} {v : AVal} {cv : Value},VRel cf hp S I v cv → v.pure = true → ∀ I',VRel cf hp S I' v cv
 | _,_,_,.undef _ _,h,_ => by simp at h
 | _,_,_,.bool _ _,_,_ => .bool _ _
 | _,_,_,.int _ _ _,_,_ => .int _ _ _
 | _,_,_,.str _ _,_,_ => .str _ _
 | _,_,_,.nilptr _,_,_ => .nilptr _
 | _,_,_,.ptr _ _ _ _ _,h,_ => by simp at h
 | _,_,_,.eptr _ _ _ _ _ _ _ _,h,_ => by simp at h
 | _,_,_,.fptr _ t cs off b o vs hs hc h1 h2 hr,h,I' => by
  simp only [AVal.pure] at h
  exact .fptr _ t cs off b o vs hs (VL_pure hc h I') h1 h2 hr
 | _,_,_,.nilslice _,_,_ => .nilslice _
 | _,_,_,.slice _ _ _ _ _ _ _ _ _ _ _,h,_ => by simp at h
 | _,_,_,.cslice _ _ _ _ _ _ _ _,h,_ => by simp at h
 | _,_,_,.fslice _ t full sz es b o len cap vs hs hc h1 h2 h3 hr h4 h5 h6,h,I' => by
  simp only [AVal.pure] at h
  exact .fslice _ t full sz es b o len cap vs hs (VL_pure hc (pureL_cells h) I') h1 h2 h3 hr h4 h5 h6
 | _,_,_,.zslice _ t full sz a h,_,_ => .zslice _ t full sz a h
 | _,_,_,.nilmap _,_,_ => .nilmap _
 | _,_,_,.map _ _ _ _,h,_ => by simp at h
 | _,_,_,.eiter _ _ _ _ _ _ _ _ _ _ _,h,_ => by simp at h
 | _,_,_,.fmap _ t ks vs b clock es hs he hk hv h1 h2 hn,_,_ => .fmap _ t ks vs b clock es hs he hk hv h1 h2 hn
 | _,_,_,.func _ f a b vs us ha hb,h,I' => by
  simp only [AVal.pure,Bool.and_eq_true] at h
  exact .func _ f a b vs us (VL_pure ha h.1 I') (VL_pure hb h.2 I')
 | _,_,_,.nilfunc _,_,_ => .nilfunc _
 | _,_,_,.nilIface _,_,_ => .nilIface _
 | _,_,_,.iface _ t v cv hv,h,I' => by
  simp only [AVal.pure] at h
  exact .iface _ t v cv (V_pure hv h I')
 | _,_,_,.agg _ cs vs hc h1,h,I' => by
  simp only [AVal.pure] at h
  exact .agg _ cs vs (VL_pure hc h I') h1
 | _,_,_,.tuple _ cs vs hc,h,I' => by
  simp only [AVal.pure] at h
  exact .tuple _ cs vs (VL_pure hc h I')
theorem VL_pure {hp : Array Obj} {S : Nat → Nat → Prop} : ∀ {I : Ids} {vs : List AVal} {cvs : List Value},VRelL cf hp S I vs cvs → AVal.pureL vs = true → ∀ I',VRelL cf hp S I' vs cvs
 | _,_,_,.nil _,_,_ => .nil _
 | _,_,_,.cons _ v cv vs cvs hv hvs,h,I' => by
  simp only [AVal.pureL,Bool.and_eq_true] at h
  exact .cons _ _ _ _ _ (V_pure hv h.1 I') (VL_pure hvs h.2 I')
end
theorem VL_of_get {hp : Array Obj} {S : Nat → Nat → Prop} {I : Ids} : ∀ {cs : List AVal} {vs : List Value},cs.length = vs.length → (∀ (j : Nat) (c : AVal) (v : Value),cs[j]? = some c → vs[j]? = some v → VRel cf hp S I c v) → VRelL cf hp S I cs vs
 | [],[],_,_ => .nil _
 | c :: cs,v :: vs,hl,h => .cons _ _ _ _ _ (h 0 c v rfl rfl) (VL_of_get (by simpa using hl) (fun j c' v' hc hv => h (j + 1) c' v' (by simpa using hc) (by simpa using hv)))
 | [],_ :: _,hl,_ => by simp at hl
 | _ :: _,[],hl,_ => by simp at hl
theorem sets_eq (new : List Value) : ∀ (j : Nat) (cells : Array Value) (off : Nat),off + j + new.length ≤ cells.size →
  ((new.zipIdx j).foldl (fun cs (p : Value × Nat) => cs.setIfInBounds (off + p.2) p.1) cells).toList = cells.toList.take (off + j) ++ new ++ cells.toList.drop (off + j + new.length) := by
 induction new with
 | nil => intro j cells off h; simp
 | cons v new ih =>
  intro j cells off h
  simp only [List.zipIdx_cons,List.foldl_cons,List.length_cons] at h ⊢
  rw [ih (j + 1) (cells.setIfInBounds (off + j) v) off (by simp; omega)]
  have hlt : off + j < cells.toList.length := by simp; omega
  simp only [Array.toList_setIfInBounds]
  rw [show off + (j + 1) = off + j + 1 by omega,List.take_succ_eq_append_getElem (by simpa using hlt)]
  simp only [List.getElem_set_self,List.take_set_of_le (Nat.le_refl _),List.append_assoc,List.singleton_append,List.cons_append]
  rw [List.drop_set_of_lt (by omega)]
  simp [Nat.add_comm,Nat.add_left_comm]
theorem zipIdx_foldl (new : Array Value) (cells : Array Value) (off : Nat) (h : off + new.size ≤ cells.size) :
  (new.zipIdx.foldl (fun cs (c,j) => cs.setIfInBounds (off + j) c) cells).toList = cells.toList.take off ++ new.toList ++ cells.toList.drop (off + new.size) := by
 have := sets_eq new.toList 0 cells off (by simpa using h)
 rw [← Array.foldl_toList]
 simp only [Nat.add_zero,Array.length_toList] at this
 rw [← this]
 simp [Array.toList_zipIdx]
end
section
variable {P : Program} {E : Env} {cf : FuncId → FuncId} {κ : K}
inductive Parts (κ : K) (E : Env) (cf : FuncId → FuncId) (place : Nat → Option (Nat × Nat)) : List (Nat × Nat × AVal) → List (Nat × Value) → Prop
 | nil : Parts κ E cf place [] []
 | cons (off n i : Nat) (a : AVal) (v : Value) (r : List (Nat × Nat × AVal)) (q : List (Nat × Value)) : place i = some (off,n) → κ.V E cf a v → Parts κ E cf place r q → Parts κ E cf place ((off,n,a) :: r) ((i,v) :: q)
theorem VL_splice {hp : Array Obj} {S : Nat → Nat → Prop} {I : Ids} {cs new : List AVal} {vs newv : List Value} (h : VRelL cf hp S I cs vs) (hn : VRelL cf hp S I new newv) (off : Nat) :
  VRelL cf hp S I (cs.take off ++ new ++ cs.drop (off + new.length)) (vs.take off ++ newv ++ vs.drop (off + newv.length)) := by
 rw [VL_len hn]
 exact VL_append (VL_append (VL_take _ h) hn) (VL_drop _ h)
theorem allOne_splice {cs new : List AVal} (h : AVal.allOne cs) (hn : AVal.allOne new) (off k : Nat) : AVal.allOne (cs.take off ++ new ++ cs.drop k) := by
 intro c hc
 simp only [List.mem_append] at hc
 rcases hc with (hc | hc) | hc
 ·exact h c (List.mem_of_mem_take hc)
 ·exact hn c hc
 ·exact h c (List.mem_of_mem_drop hc)
theorem fill_ok {place : Nat → Option (Nat × Nat)} : ∀ {r : List (Nat × Nat × AVal)} {q : List (Nat × Value)} {cs cs' : List AVal} {cells : Array Value},Parts κ E cf place r q → κ.VL E cf cs cells.toList → AVal.allOne cs →
  fillA cs r = some cs' → ∃ cells',Instr.fill place cells q = some cells' ∧ κ.VL E cf cs' cells'.toList ∧ AVal.allOne cs' ∧ cells'.size = cells.size
 | [],[],cs,cs',cells,.nil,hl,h1,h => by simp at h; subst h; exact ⟨cells,rfl,hl,h1,rfl⟩
 | (off,n,a) :: r,(i,v) :: q,cs,cs',cells,.cons _ _ _ _ _ _ _ hp ha hr,hl,h1,h => by
  unfold fillA at h
  split at h
  ·rename_i hc
   obtain ⟨hc1,hc2,hc3⟩ := hc
   have hone := allOne_of hc2
   have hv := V_cells ha hone
   have hlen := VL_len hv
   have hlen2 := VL_len hl
   simp only [Array.length_toList] at hlen hlen2
   have hz := zipIdx_foldl v.cells cells off (by omega)
   have hl' : κ.VL E cf (cs.take off ++ a.cells ++ cs.drop (off + n)) (v.cells.zipIdx.foldl (fun cs (c,j) => cs.setIfInBounds (off + j) c) cells).toList := by
    rw [hz,← hc1]
    have := VL_splice (cf := cf) hl hv off
    simpa using this
   obtain ⟨cells',g1,g2,g3,g4⟩ := fill_ok hr hl' (allOne_splice h1 hone off _) h
   refine ⟨cells',?_,g2,g3,?_⟩
   ·simp only [Instr.fill,hp]
    rw [if_neg (by simp; omega)]
    exact g1
   ·have e1 := VL_len hl'
    simp at e1
    have e2 : (v.cells.zipIdx.foldl (fun cs (c,j) => cs.setIfInBounds (off + j) c) cells).size = cells.size := by
     rw [← Array.length_toList,hz]
     simp
     omega
    rw [g4,e2]
  ·simp at h
theorem build_run {t : TypeId} {fs : Array Field} {places : Array (Nat × Nat)} {z cs' : List AVal} {zc : List Value} (ht : P.underlying t = some (.struct fs)) (hz : zeroT P t = some zc) (hzc : chkCs z zc = true) (hz1 : z.all AVal.one = true)
  (hpl : ∀ w : World,(fs.mapM fun f => do pure (f.offset,← sizeOf f.type) : Sem (Array (Nat × Nat))).run P w = .ok places w)
  {r : List (Nat × Nat × AVal)} {q : Array (Nat × Value)} (hp : Parts κ E cf (fun i => places[i]?) r q.toList) (h : fillA z r = some cs') (hR : κ.R E cf) :
  GV P E cf κ (Instr.build t q) (.agg cs') κ.σ := by
 obtain ⟨i,zv,hi,hzv,hzc'⟩ := zeroT_eq hz
 have hl : κ.VL E cf z zv.cells.toList := by rw [hzc']; exact chkCs_ok _ _ hzc
 obtain ⟨cells',g1,g2,g3,_⟩ := fill_ok hp hl (allOne_of hz1) h
 refine GV.pure hR (cv := .agg cells') (fun w _ => ?_) (by have := VRel.agg (cf := cf) (h := κ.h) (S := κ.safe E) κ.ids cs' cells'.toList g2 g3; simpa using this)
 have hpl' := hpl w
 simp only [bind_pure_comp] at hpl'
 simp [Instr.build,zeroValue,typeInfo,hi,hzv,Result.andThen,run_underlying ht,hpl',g1]
theorem buildArr_run {t e : TypeId} {m sz : Nat} {z cs' : List AVal} {zc : List Value} (ht : P.underlying t = some (.array m e)) (hn : sizeT P e = some sz) (hz : zeroT P t = some zc) (hzc : chkCs z zc = true) (hz1 : z.all AVal.one = true)
  {r : List (Nat × Nat × AVal)} {q : Array (Nat × Value)} (hp : Parts κ E cf (fun i => some (i * sz,sz)) r q.toList) (h : fillA z r = some cs') (hR : κ.R E cf) :
  GV P E cf κ (Instr.build t q) (.agg cs') κ.σ := by
 obtain ⟨i,zv,hi,hzv,hzc'⟩ := zeroT_eq hz
 obtain ⟨i2,hi2,hsz⟩ := sizeT_eq hn
 have hl : κ.VL E cf z zv.cells.toList := by rw [hzc']; exact chkCs_ok _ _ hzc
 obtain ⟨cells',g1,g2,g3,_⟩ := fill_ok hp hl (allOne_of hz1) h
 refine GV.pure hR (cv := .agg cells') (fun w _ => ?_) (by have := VRel.agg (cf := cf) (h := κ.h) (S := κ.safe E) κ.ids cs' cells'.toList g2 g3; simpa using this)
 simp [Instr.build,zeroValue,typeInfo,hi,hzv,Result.andThen,run_underlying ht,sz_of hi2,hsz,g1]
theorem flat_set {sz : Nat} {es : List AVal} (h : AVal.elemsOk sz es) (i : Nat) (v : AVal) (hi : i < es.length) (hv : v.cells.length = sz) :
  (es.set i v).flatMap AVal.cells = (es.flatMap AVal.cells).take (i * sz) ++ v.cells ++ (es.flatMap AVal.cells).drop (i * sz + sz) := by
 have e1 : es.set i v = es.take i ++ v :: es.drop (i + 1) := by rw [List.set_eq_take_append_cons_drop,if_pos hi]
 rw [e1]
 simp only [List.flatMap_append,List.flatMap_cons]
 rw [flat_take h,flat_drop h]
 simp [Nat.add_mul]
theorem elemsOk_set {sz : Nat} {es : List AVal} (h : AVal.elemsOk sz es) (i : Nat) {v : AVal} (hv : v.cells.length = sz) (h1 : AVal.allOne v.cells) : AVal.elemsOk sz (es.set i v) := by
 intro e he
 rcases List.mem_or_eq_of_mem_set he with h' | rfl
 ·exact h e h'
 ·exact ⟨hv,h1⟩
inductive PartsE (κ : K) (E : Env) (cf : FuncId → FuncId) : List (Nat × AVal) → List (Nat × Value) → Prop
 | nil : PartsE κ E cf [] []
 | cons (i : Nat) (a : AVal) (v : Value) (r : List (Nat × AVal)) (q : List (Nat × Value)) : κ.V E cf a v → PartsE κ E cf r q → PartsE κ E cf ((i,a) :: r) ((i,v) :: q)
theorem fillL_ok {sz : Nat} {agg : Bool} : ∀ {r : List (Nat × AVal)} {q : List (Nat × Value)} {es es' : List AVal} {cells : Array Value},PartsE κ E cf r q → κ.VL E cf (es.flatMap AVal.cells) cells.toList → AVal.elemsOk sz es →
  fillL sz agg es r = some es' → ∃ cells',Instr.fill (fun i => some (i * sz,sz)) cells q = some cells' ∧ κ.VL E cf (es'.flatMap AVal.cells) cells'.toList ∧ AVal.elemsOk sz es' ∧ es'.length = es.length
 | [],[],es,es',cells,.nil,hl,h1,h => by simp at h; subst h; exact ⟨cells,rfl,hl,h1,rfl⟩
 | (i,a) :: r,(_,v) :: q,es,es',cells,.cons _ _ _ _ _ ha hr,hl,h1,h => by
  unfold fillL at h
  split at h
  ·rename_i hc
   obtain ⟨hc1,hc2,hc3,hc5⟩ := hc
   have hone := allOne_of hc3
   have hv := V_cells ha hone
   have hlen := VL_len hv
   have hlen2 := VL_len hl
   have hfl := flat_length h1
   simp only [Array.length_toList] at hlen hlen2
   have hm : i * sz + sz ≤ es.length * sz := by
    have : (i + 1) * sz ≤ es.length * sz := Nat.mul_le_mul_right _ hc5
    rw [Nat.add_mul] at this; omega
   have hz := zipIdx_foldl v.cells cells (i * sz) (by omega)
   have hl' : κ.VL E cf ((es.set i a).flatMap AVal.cells) (v.cells.zipIdx.foldl (fun cs (c,j) => cs.setIfInBounds (i * sz + j) c) cells).toList := by
    rw [hz,flat_set h1 i a hc5 hc1]
    have := VL_splice (cf := cf) hl hv (i * sz)
    rw [hc1] at this
    simpa using this
   obtain ⟨cells',g1,g2,g3,g5⟩ := fillL_ok hr hl' (elemsOk_set h1 i hc1 hone) h
   refine ⟨cells',?_,g2,g3,by simpa using g5⟩
   simp only [Instr.fill]
   rw [if_neg (by simp; omega)]
   exact g1
  ·simp at h
theorem zel_cells {z : List AVal} {agg : Bool} {sz : Nat} (hl : z.length = sz) (h1 : z.all AVal.one = true) (ha : agg = false → sz = 1) : (zel z agg).cells = z := by
 cases agg with
 | true => rfl
 | false =>
  have := ha rfl
  subst hl
  match z,this with
  | [c],_ =>
   simp at h1
   cases c <;> simp_all [AVal.one,zel,AVal.cells]
theorem flat_replicate (n : Nat) (e : AVal) : (List.replicate n e).flatMap AVal.cells = (List.replicate n e.cells).flatten := by
 simp [List.flatMap_replicate]
theorem rep_get {α : Type} (z : List α) (sz : Nat) (hz : z.length = sz) (h0 : 0 < sz) : ∀ (n j : Nat),j < n * sz → ((List.replicate n z).flatten)[j]? = z[j % sz]?
 | 0,j,h => by simp at h
 | n + 1,j,h => by
  rw [List.replicate_succ,List.flatten_cons]
  by_cases hj : j < sz
  ·rw [List.getElem?_append_left (by omega),Nat.mod_eq_of_lt hj]
  ·rw [List.getElem?_append_right (by omega),hz,rep_get z sz hz h0 n (j - sz) (by rw [Nat.add_mul] at h; omega)]
   rw [← Nat.mod_eq_sub_mod (by omega)]
theorem rep_len {α : Type} (z : List α) (n : Nat) : ((List.replicate n z).flatten).length = n * z.length := by
 simp
theorem zeros_VL {hp : Array Obj} {S : Nat → Nat → Prop} {I : Ids} {z : List AVal} {zc : Array Value} {sz n : Nat} (hz : chkCs z zc.toList = true) (hl : z.length = sz) (h0 : 0 < sz) :
  VRelL cf hp S I ((List.replicate n z).flatten) (((Array.range (n * sz)).map (zc[· % zc.size]!)).toList) := by
 have hzz : VRelL cf hp S I z zc.toList := chkCs_ok _ _ hz
 have hsz := VL_len hzz
 simp only [Array.length_toList] at hsz
 refine VL_of_get ?_ ?_
 ·rw [rep_len,hl]; simp
 ·intro j c v hc hv
  have hj : j < n * sz := by have := (List.getElem?_eq_some_iff.1 hc).1; rw [rep_len,hl] at this; exact this
  rw [rep_get z sz hl h0 n j hj] at hc
  obtain ⟨v',hv',hr⟩ := VL_get hzz _ _ hc
  have : v = v' := by
   simp only [Array.toList_map,List.getElem?_map,Array.toList_range] at hv
   rw [List.getElem?_range hj] at hv
   simp only [Option.map_some,Option.some.injEq] at hv
   rw [← hv,← hsz,hl]
   have hlt := (List.getElem?_eq_some_iff.1 hv').1
   simp only [Array.length_toList] at hlt
   rw [getElem!_pos zc (j % sz) hlt]
   have := (List.getElem?_eq_some_iff.1 hv').2
   simpa using this
  subst this
  exact hr
theorem lit_run {t e : TypeId} {sz n : Nat} {agg : Bool} {z : List AVal} {zc : List Value} {es' : List AVal} (ht : P.underlying t = some (.slice e)) (hn : sizeT P e = some sz) (h0 : 0 < sz) (hz : zeroT P e = some zc) (hzc : chkCs z zc = true)
  (hz1 : z.all AVal.one = true) (hzl : z.length = sz) (ha : agg = false → sz = 1) (hzp : (zel z agg).pure = true) (hlim : n * sz ≤ 2 ^ 24)
  {r : List (Nat × AVal)} {q : Array (Nat × Value)} (hp : PartsE κ E cf r q.toList) (h : fillL sz agg (List.replicate n (zel z agg)) r = some es') (hR : κ.R E cf) :
  GV P E cf κ (Instr.buildSlice t n q) (.fslice (AVal.tagL es') true sz es') κ.σ := by
 obtain ⟨i,hi,hsz⟩ := sizeT_eq hn
 obtain ⟨i',zv,hi',hzv,hzc'⟩ := zeroT_eq hz
 rw [hi] at hi'; cases hi'
 have hcells := zel_cells hzl hz1 ha
 have hl : κ.VL E cf ((List.replicate n (zel z agg)).flatMap AVal.cells) ((Array.range (n * sz)).map (zv.cells[· % zv.cells.size]!)).toList := by
  rw [flat_replicate,hcells]
  exact zeros_VL (by rw [hzc']; exact hzc) hzl h0
 have hel : AVal.elemsOk sz (List.replicate n (zel z agg)) := by
  intro x hx
  rw [List.eq_of_mem_replicate hx,hcells]
  exact ⟨hzl,allOne_of hz1⟩
 obtain ⟨cells',g1,g2,g3,g5⟩ := fillL_ok hp hl hel h
 intro w hw
 refine ⟨.slice (some ⟨w.heap.size,0,none⟩) n n,{ w with heap := w.heap.push (.cells cells' e) },κ.push (.cells cells' e),?_,by simp [K.push,hw],rfl,K.push_le hR _,K.push_R hR _,?_⟩
 ·simp only [Instr.buildSlice,Sem.run_bind,run_underlying ht,Result.andThen,sz_of hi,hsz]
  rw [Sem.run_ite,if_neg (by omega)]
  by_cases hns : n * sz = 0
  ·have hn0 : n = 0 := by
    rcases Nat.mul_eq_zero.1 hns with h | h
    ·exact h
    ·omega
   subst hn0
   simp only [Nat.zero_mul,if_true,Sem.run_pure,Sem.run_bind,Result.andThen]
   have : (Array.map (fun x => (#[] : Array Value)[x % (#[] : Array Value).size]!) (Array.range 0)) = (Array.range (0 * sz)).map (zv.cells[· % zv.cells.size]!) := by simp
   rw [this,g1]
   simp [newRow,newObj,Sem.run,Result.andThen]
  ·rw [if_neg hns]
   simp only [zeroValue,typeInfo,Sem.run_bind,run_program,Result.andThen,hi,Sem.run_pure,hzv]
   simp only [g1]
   simp [newRow,newObj,Sem.run,Result.andThen]
 ·rw [hw]
  refine VRel.fslice _ _ true sz es' _ 0 n n cells'.toList (K.push_safe hR _ _) ?_ g3 h0 (tagsLe_of_tagL (Nat.le_refl _)) ?_ (by simpa using g5) (Nat.le_refl _) (fun _ => rfl)
  ·exact K.VL.le hR.lb (K.push_le hR (.cells cells' e)) g2
  ·intro j v hj
   simp only [cellAt,K.push_at,Nat.zero_add]
   simpa using hj
end
section
variable {P : Program} {E : Env} {cf : FuncId → FuncId} {κ : K}
theorem newObj_ok (hR : κ.R E cf) {z : List AVal} {zv : Array Value} {e : TypeId} (h1 : AVal.allOne z) (hl : κ.VL E cf z zv.toList) :
  (κ.new (.cells zv e) (.cells z)).R E cf ∧ (κ.new (.cells zv e) (.cells z)).V E cf (.ptr κ.σ.length 0) (.pointer (some ⟨κ.h.size,0,none⟩)) := by
 refine ⟨K.new_R hR _ _ ⟨h1,zv,e,?_,K.VL.le hR.lb (K.new_le hR _ _) hl⟩,.ptr _ _ _ _ ⟨⟨⟨z,?_⟩,hR.fresh⟩,?_⟩⟩
 ·simp [K.new]
 ·simp [K.new,List.getElem?_append_right]
 ·simp [K.new]
theorem alloc_run {t : TypeId} {z : List AVal} {zc : List Value} (hz : zeroT P t = some zc) (hzc : chkCs z zc = true) (hz1 : z.all AVal.one = true) (hR : κ.R E cf) :
  GV P E cf κ (Instr.alloc t true (.tuple #[])) (.ptr κ.σ.length 0) (κ.σ ++ [.cells z]) := by
 obtain ⟨i,zv,hi,hzv,hzc'⟩ := zeroT_eq hz
 obtain ⟨g1,g2⟩ := newObj_ok (e := t) hR (allOne_of hz1) (zv := zv.cells) (by rw [hzc']; exact chkCs_ok _ _ hzc)
 intro w hw
 exact ⟨_,{ w with heap := w.heap.push (.cells zv.cells t) },_,by simp [Instr.alloc,zeroValue,typeInfo,hi,hzv,Result.andThen,newVar,newRow,newObj,Sem.run,hw],by simp [K.new,hw],by simp [K.new],K.new_le hR _ _,g1,g2⟩
theorem box_run {t : TypeId} {a : AVal} {ca : Value} (ha : κ.V E cf a ca) (h1 : a.cells.all AVal.one = true) (hR : κ.R E cf) :
  GV P E cf κ (Instr.box t ca) (.ptr κ.σ.length 0) (κ.σ ++ [.cells a.cells]) := by
 obtain ⟨g1,g2⟩ := newObj_ok (e := t) hR (allOne_of h1) (zv := ca.cells) (V_cells ha (allOne_of h1))
 intro w hw
 exact ⟨_,{ w with heap := w.heap.push (.cells ca.cells t) },_,by simp [Instr.box,Result.andThen,newVar,newRow,newObj,Sem.run,hw],by simp [K.new,hw],by simp [K.new],K.new_le hR _ _,g1,g2⟩
theorem mkmap_run {t : TypeId} {r : Option Value} (hr : ∀ w : World,(Instr.makeMap t r).run P w = (do pure (.map (some (← newObj (.map #[] 0)))) : Sem Value).run P w) (hR : κ.R E cf) :
  GV P E cf κ (Instr.makeMap t r) (.map κ.σ.length) (κ.σ ++ [.map [] []]) := by
 intro w hw
 refine ⟨.map (some w.heap.size),{ w with heap := w.heap.push (.map #[] 0) },κ.new (.map #[] 0) (.map [] []),by rw [hr]; simp [newObj,Sem.run,Result.andThen],by simp [K.new,hw],by simp [K.new],K.new_le hR _ _,
  K.new_R hR _ _ ⟨#[],0,by simp [K.new],.nil _,.nil _,Born.nil⟩,.map _ _ _ ⟨⟨⟨[],[],by simp [K.new,List.getElem?_append_right]⟩,hR.fresh⟩,by simp [K.new,hw]⟩⟩
theorem behind_ok (hR : κ.R E cf) {a : AVal} {ca : Value} {cs : List AVal} {off : Nat} (ha : κ.V E cf a ca) (h : behind κ.σ a = some (cs,off)) :
  ∃ b o vs,ca = .pointer (some ⟨b,o + off,none⟩) ∧ κ.VL E cf cs vs ∧ rowAt κ.h b o vs ∧ AVal.allOne cs := by
 unfold behind at h
 split at h
 ·rename_i id off'
  split at h
  ·rename_i cs' hid
   simp at h
   obtain ⟨rfl,rfl⟩ := h
   cases ha with
   | ptr _ _ _ b hp =>
   obtain ⟨⟨_,hpd⟩,rfl⟩ := hp
   obtain ⟨h1,vs,e,hb,hl⟩ := hR.obj id _ hid hpd
   exact ⟨κ.loc id,0,vs.toList,by simp,hl,fun j v hj => by simp only [cellAt,hb,Nat.zero_add]; simpa using hj,h1⟩
  ·simp at h
 ·rename_i id ep i off'
  split at h
  ·rename_i sz es epo fl hid
   split at h
   ·rename_i hf
    cases he : es[i]? with
    | none => simp [he] at h
    | some x =>
     simp only [he,Option.map_some,Option.some.injEq,Prod.mk.injEq] at h
     obtain ⟨rfl,rfl⟩ := h
     cases ha with
     | eptr _ _ _ _ _ b o hp =>
     obtain ⟨sz',es',epo',fl',hid',⟨hep,hpd⟩,hx⟩ := hp
     rw [hid] at hid'
     cases hid'
     obtain ⟨hi,hat⟩ := hx hf
     obtain ⟨g1,g2,g3,vs,e,us,rest,hb,hvs,hl⟩ := hR.obj id _ hid hpd
     have hxc := flat_get g3 _ _ he
     have hcur : rowAt κ.h (κ.loc id) (i * sz) ((us.drop (i * sz)).take sz) := by
      have : rowAt κ.h (κ.loc id) 0 us := fun j v hj => by
       simp only [cellAt,hb,Nat.zero_add]
       have : vs.toList[j]? = some v := by rw [hvs,List.getElem?_append_left (List.getElem?_eq_some_iff.1 hj).1]; exact hj
       simpa using this
      have := rowAt_take (n := sz) (rowAt_drop (n := i * sz) this)
      simpa using this
     refine ⟨b,o,(us.drop (i * sz)).take sz,rfl,by rw [hxc]; exact VL_take _ (VL_drop _ hl),?_,(g3 x (List.mem_of_getElem? he)).2⟩
     rcases hat with ⟨rfl,ho⟩ | ⟨u1,u2,u3,u4⟩
     ·rcases ho with rfl | hz
      ·exact hcur
      ·exact hz.elim
     ·rcases u4 with hz | u4
      ·exact hz.elim
      ·intro j v hj
       have hjlt : j < sz := by have := (List.getElem?_eq_some_iff.1 hj).1; simp at this; omega
       rw [u4 j (by omega)]
       exact hcur j v hj
   ·simp at h
  ·simp at h
 ·rename_i t cs' off'
  simp at h
  obtain ⟨rfl,rfl⟩ := h
  cases ha with
  | fptr _ _ _ _ b o vs g1 g2 g3 g4 g5 =>
  exact ⟨b,o,vs,rfl,g2,g5,g3⟩
 ·simp at h
theorem isAgg_run {t : TypeId} {agg : Bool} (ha : aggT P t = some agg) (w : World) : (isAgg t).run P w = .ok agg w := by
 unfold aggT at ha
 cases hu : P.underlying t with
 | none => simp [hu] at ha
 | some d =>
  simp only [hu,Option.map_some,Option.some.injEq] at ha
  simp only [isAgg,Sem.run_bind,run_underlying hu,Result.andThen]
  subst ha
  cases d <;> simp
theorem loadVar_run {t : TypeId} {n : Nat} {agg : Bool} (hn : sizeT P t = some n) (ha : aggT P t = some agg) {cs : List AVal} {vs : List Value} {off b o : Nat} {v : AVal} (hl : κ.VL E cf cs vs) (h1 : AVal.allOne cs)
  (hr : rowAt κ.h b o vs) (h : ld cs off n agg = some v) : ∃ cv,(∀ w : World,w.heap = κ.h → (loadVar t ⟨b,o + off,none⟩).run P w = .ok cv w) ∧ κ.V E cf v cv := by
 obtain ⟨i,hi,hsz⟩ := sizeT_eq hn
 unfold ld at h
 cases agg
 ·simp at h
  obtain ⟨cv,hcv,hv⟩ := VL_get hl off v h
  refine ⟨cv,fun w hw => ?_,hv⟩
  have hc : w.cell? ⟨b,o + off,none⟩ = some cv := by rw [cellAt_eq,hw]; exact hr off cv hcv
  simp [loadVar,isAgg_run ha,Result.andThen,run_load,hc]
 ·simp at h
  obtain ⟨hlt,rfl⟩ := h
  have hlen := VL_len hl
  refine ⟨.agg ((vs.drop off).take n).toArray,fun w hw => ?_,.agg _ _ _ (VL_take _ (VL_drop _ hl)) (fun c hc => h1 c (List.mem_of_mem_drop (List.mem_of_mem_take hc)))⟩
  have hrow : rowAt κ.h b (o + off) ((vs.drop off).take n) := rowAt_take (rowAt_drop hr)
  have := run_loadCells_list (P := P) w ⟨b,o + off,none⟩ ((vs.drop off).take n) (fun j v hj => by
   rw [add_spot,cellAt_eq,hw]; exact hrow j v hj)
  rw [show ((vs.drop off).take n).length = n by simp; omega] at this
  simp [loadVar,isAgg_run ha,Result.andThen,sz_of hi,hsz,this]
theorem load_run {t : TypeId} {n : Nat} {agg : Bool} (hn : sizeT P t = some n) (hag : aggT P t = some agg) {a v : AVal} {ca : Value} (ha : κ.V E cf a ca) (h : loadV κ.σ n agg a = some v) (hR : κ.R E cf) :
  GV P E cf κ (Instr.loadAt t ca) v κ.σ := by
 unfold loadV at h
 split at h
 ·rename_i cs off hb
  obtain ⟨b,o,vs,rfl,hl,hr,h1⟩ := behind_ok hR ha hb
  obtain ⟨cv,hrun,hv⟩ := loadVar_run hn hag hl h1 hr h
  exact GV.pure hR (cv := cv) (fun w hw => by simp [Instr.loadAt,Instr.sureAddr,hrun w hw]) hv
 ·simp at h
theorem setCell_heap (w : World) (b o : Nat) (v : Value) (vs : Array Value) (e : TypeId) (f : Nat × Nat) (h : w.heap[b]? = some (.cells vs e f)) :
  (w.setCell ⟨b,o,none⟩ v).heap = w.heap.setIfInBounds b (.cells (vs.setIfInBounds o v) e f) := by
 unfold World.setCell
 have hlt := (Array.getElem?_eq_some_iff.1 h).1
 apply Array.ext_getElem?
 intro i
 by_cases hi : i = b
 ·subst hi
  have hg := (Array.getElem?_eq_some_iff.1 h).2
  simp [hlt,Array.getElem_modify,hg]
 ·rw [Array.getElem?_setIfInBounds_ne (by omega)]
  simp [Array.getElem?_modify,Ne.symm hi]
theorem storeCells_run : ∀ (new : List Value) (i : Nat) (w : World) (b o : Nat) (vs : Array Value) (e : TypeId),w.heap[b]? = some (.cells vs e (0,0)) → (∀ v ∈ new,v.oneCell' = true) → o + i + new.length ≤ vs.size →
  ∃ w' vs',(storeCells ⟨b,o,none⟩ new i).run P w = .ok () w' ∧ w'.heap = w.heap.setIfInBounds b (.cells vs' e (0,0)) ∧ vs'.toList = vs.toList.take (o + i) ++ new ++ vs.toList.drop (o + i + new.length) ∧ w'.os = w.os ∧ w'.output = w.output := by
 intro new
 induction new with
 | nil =>
  intro i w b o vs e h _ hl
  refine ⟨w,vs,by simp [storeCells],?_,by simp,rfl,rfl⟩
  have hlt := (Array.getElem?_eq_some_iff.1 h).1
  apply Array.ext_getElem?
  intro j
  by_cases hj : j = b
  ·subst hj
   have hg := (Array.getElem?_eq_some_iff.1 h).2
   simp [hlt,hg]
  ·rw [Array.getElem?_setIfInBounds_ne (by omega)]
 | cons v new ih =>
  intro i w b o vs e h h1 hl
  simp only [List.length_cons] at hl
  have hlt := (Array.getElem?_eq_some_iff.1 h).1
  have hc : w.cell? ⟨b,o + i,none⟩ = some (vs[o + i]'(by omega)) := by
   rw [cellAt_eq]; simp [cellAt,h]
  have hf : w.frozen? ⟨b,o + i,none⟩ = false := by simp [World.frozen?,h]
  have hs := setCell_heap w b (o + i) v vs e (0,0) h
  have hb' : (w.setCell ⟨b,o + i,none⟩ v).heap[b]? = some (.cells (vs.setIfInBounds (o + i) v) e (0,0)) := by
   rw [hs]; simp [hlt]
  obtain ⟨w',vs',g1,g2,g3,g4⟩ := ih (i + 1) (w.setCell ⟨b,o + i,none⟩ v) b o (vs.setIfInBounds (o + i) v) e hb' (fun x hx => h1 x (List.mem_cons_of_mem _ hx)) (by simp; omega)
  refine ⟨w',vs',?_,?_,?_,g4⟩
  ·simp only [storeCells,add_spot,Sem.run_bind]
   rw [run_store P w _ v .plain (h1 v List.mem_cons_self)]
   simp [hc,hf,Result.andThen,g1]
  ·rw [g2,hs]
   apply Array.ext_getElem?
   intro j
   by_cases hj : j = b
   ·subst hj; simp [hlt]
   ·rw [Array.getElem?_setIfInBounds_ne (by omega),Array.getElem?_setIfInBounds_ne (by omega),Array.getElem?_setIfInBounds_ne (by omega)]
  ·rw [g3]
   have hlt2 : o + i < vs.toList.length := by simp; omega
   simp only [Array.toList_setIfInBounds,List.length_cons]
   rw [show o + (i + 1) = o + i + 1 by omega,List.take_succ_eq_append_getElem (by simpa using hlt2)]
   simp only [List.getElem_set_self,List.take_set_of_le (Nat.le_refl _),List.append_assoc,List.singleton_append,List.cons_append]
   rw [List.drop_set_of_lt (by omega)]
   simp [Nat.add_comm,Nat.add_left_comm]
theorem VL_oneCell {hp : Array Obj} {S : Nat → Nat → Prop} {I : Ids} {cs : List AVal} {vs : List Value} (h : VRelL cf hp S I cs vs) (h1 : AVal.allOne cs) : ∀ v ∈ vs,v.oneCell' = true := by
 intro v hv
 obtain ⟨j,hj⟩ := List.getElem?_of_mem hv
 obtain ⟨c,hc,hr⟩ := VL_getv h j v hj
 exact V_oneCell hr (h1 c (List.mem_of_getElem? hc))
end
section
variable {P : Program} {E : Env} {cf : FuncId → FuncId} {κ : K}
theorem splice_len {cs new : List AVal} {off : Nat} (h : off + new.length ≤ cs.length) : (splice cs off new).length = cs.length := by
 simp only [splice,List.length_append,List.length_take,List.length_drop]; omega
theorem splice_def (cs : List AVal) (off : Nat) (new : List AVal) : splice cs off new = cs.take off ++ new ++ cs.drop (off + new.length) := rfl
theorem reform_cells {e : AVal} {cs : List AVal} (hl : cs.length = e.cells.length) (h1 : AVal.allOne cs) : (e.reform cs).cells = cs := by
  cases e <;> simp only [AVal.cells, List.length_singleton] at hl <;> first
    | rfl
    | (match cs, hl with
       | [c], _ =>
         have := h1 c List.mem_cons_self
         cases c <;> simp_all [AVal.one, AVal.reform, AVal.cells])
theorem flat_splice {sz : Nat} {es : List AVal} (h : AVal.elemsOk sz es) (i off : Nat) (e : AVal) (new : List AVal) (he : es[i]? = some e) (hl : off + new.length ≤ sz) (h1 : AVal.allOne new) :
  (es.set i (e.reform (splice e.cells off new))).flatMap AVal.cells = splice (es.flatMap AVal.cells) (i * sz + off) new ∧ AVal.elemsOk sz (es.set i (e.reform (splice e.cells off new))) := by
 have hi := (List.getElem?_eq_some_iff.1 he).1
 have hok := h e (List.mem_of_getElem? he)
 have hall : AVal.allOne (splice e.cells off new) := allOne_splice hok.2 h1 _ _
 have hlen : (splice e.cells off new).length = e.cells.length := splice_len (by rw [hok.1]; exact hl)
 have hc := reform_cells hlen hall
 refine ⟨?_,elemsOk_set h i (by rw [hc,hlen]; exact hok.1) (by rw [hc]; exact hall)⟩
 rw [flat_set h i _ hi (by rw [hc,hlen]; exact hok.1),hc,flat_get h i e he]
 have hm : i * sz + sz ≤ es.length * sz := by
  have : (i + 1) * sz ≤ es.length * sz := Nat.mul_le_mul_right _ hi
  rw [Nat.add_mul] at this; omega
 have hfl := flat_length h
 generalize es.flatMap AVal.cells = F at *
 simp only [splice_def]
 apply List.ext_getElem?
 intro j
 simp only [List.getElem?_append,List.length_append,List.length_take,List.length_drop,List.getElem?_take,List.getElem?_drop]
 (repeat' split) <;> first | rfl | omega | (congr 1; omega) | skip
 all_goals (first | (simp_all; done) | omega | (congr 1; omega))
theorem store_run {t : TypeId} {n : Nat} (hn : sizeT P t = some n) {a v : AVal} {ca cv : Value} (ha : κ.V E cf a ca) (hv : κ.V E cf v cv) {σ' : Store} (h : storeV κ.σ n a v = some σ') (hR : κ.R E cf) :
  GU P E cf κ (Instr.storeAt t ca cv) σ' := by
 obtain ⟨inf,hi,hsz⟩ := sizeT_eq hn
 unfold storeV at h
 split at h
 ·rename_i hc
  obtain ⟨hc1,hc2⟩ := hc
  have hone := allOne_of hc2
  have hvl := V_cells hv hone
  have hvlen := VL_len hvl
  simp only [Array.length_toList] at hvlen
  split at h
  ·rename_i id off
   split at h
   ·rename_i cs hid
    split at h
    ·rename_i hlt
     injection h with h
     subst h
     cases ha with
     | ptr _ _ _ b hp =>
     obtain ⟨⟨_,hpd⟩,rfl⟩ := hp
     obtain ⟨h1,vs,e,hb,hl⟩ := hR.obj id _ hid hpd
     have hcl := VL_len hl
     simp only [Array.length_toList] at hcl
     intro w hw
     rw [← hw] at hb
     obtain ⟨w',vs',g1,g2,g3,gS⟩ := storeCells_run (P := P) cv.cells.toList 0 w (κ.loc id) off vs e hb (VL_oneCell hvl hone) (by simp; omega)
     have hle : κ.Le (κ.upd id (.cells vs' e (0,0)) (.cells (splice cs off v.cells))) := K.upd_le hR id _ _ _ hid hpd ⟨⟨_,K.upd_σ id _ _ _ hid⟩,rfl⟩
     refine ⟨w',_,?_,⟨by rw [g2,hw]; rfl,gS⟩,rfl,hle,K.upd_R hR id _ _ _ hid hpd hle ⟨allOne_splice h1 hone _ _,vs',e,K.upd_at hR id _ _ _ hid hpd,?_⟩⟩
     ·simp only [Instr.storeAt,Instr.sureAddr,Sem.run_bind,Sem.run_pure,Result.andThen,storeVar,sz_of hi,hsz]
      rw [Sem.run_ite,if_neg (by simp; omega)]
      simpa using g1
     ·rw [g3]
      have := VL_splice (cf := cf) (K.VL.le hR.lb hle hl) (K.VL.le hR.lb hle hvl) off
      simpa [splice_def] using this
    ·simp at h
   ·simp at h
  ·rename_i id ep i off
   split at h
   ·rename_i sz es ep' fl hid
    split at h
    ·rename_i x hx
     split at h
     ·rename_i hlt
      obtain ⟨rfl,hlt⟩ := hlt
      injection h with h
      subst h
      cases ha with
      | eptr _ _ _ _ _ b o hp =>
      obtain ⟨sz',es',epo',fl',hid',⟨hep,hpd⟩,hxx⟩ := hp
      rw [hid] at hid'
      cases hid'
      obtain ⟨g1,g2,g3,vs,e,us,rest,hb,hvs,hl⟩ := hR.obj id _ hid hpd
      have hok := g3 x (List.mem_of_getElem? hx)
      obtain ⟨hi',hat⟩ := hxx g1
      have hat' : b = κ.loc id ∧ o = i * sz := by
       rcases hat with ⟨q1,q2 | q2⟩ | ⟨q,_⟩
       ·exact ⟨q1,q2⟩
       ·exact q2.elim
       ·omega
      obtain ⟨rfl,rfl⟩ := hat'
      have hlen := VL_len hl
      have hfl := flat_length g3
      have hvl2 : vs.size = us.length + rest.length := by rw [← Array.length_toList,hvs]; simp
      have hm : i * sz + sz ≤ es.length * sz := by
       have : (i + 1) * sz ≤ es.length * sz := Nat.mul_le_mul_right _ hi'
       rw [Nat.add_mul] at this; omega
      rw [hok.1] at hlt
      intro w hw
      rw [← hw] at hb
      obtain ⟨w',vs',k1,k2,k3,gS⟩ := storeCells_run (P := P) cv.cells.toList 0 w (κ.loc id) (i * sz + off) vs e hb (VL_oneCell hvl hone) (by simp; omega)
      obtain ⟨f1,f2⟩ := flat_splice g3 i off x v.cells hx (by omega) hone
      have hsize : vs'.size = vs.size := by
       rw [← Array.length_toList,k3]; simp; omega
      have hle : κ.Le (κ.upd id (.cells vs' e (0,0)) (.arr sz (es.set i (x.reform (splice x.cells off v.cells))) ep ep)) := by
       refine K.upd_le hR id _ _ _ hid hpd ⟨_,ep,ep,K.upd_σ id _ _ _ hid,Nat.le_refl _,g1,by simp,fun _ => ⟨rfl,by simp,fun vs2 e2 f2 hv2 => ?_⟩,fun _ h => by omega,fun h => by omega⟩
       rw [K.upd_at hR id _ _ _ hid hpd] at hv2
       cases hv2
       exact ⟨vs,e,(0,0),by rw [← hw]; exact hb,hsize⟩
      refine ⟨w',_,?_,⟨by rw [k2,hw]; rfl,gS⟩,rfl,hle,K.upd_R hR id _ _ _ hid hpd hle ⟨Nat.le_refl _,g2,f2,vs',e,us.take (i * sz + off) ++ cv.cells.toList ++ us.drop (i * sz + off + cv.cells.toList.length),rest,K.upd_at hR id _ _ _ hid hpd,?_,?_⟩⟩
      ·simp only [Instr.storeAt,Instr.sureAddr,Sem.run_bind,Sem.run_pure,Result.andThen,storeVar,sz_of hi,hsz]
       rw [Sem.run_ite,if_neg (by simp; omega)]
       simpa using k1
      ·rw [k3,hvs]
       simp only [Nat.add_zero]
       rw [List.take_append_of_le_length (by omega),List.drop_append_of_le_length (by simp; omega)]
       simp
      ·rw [f1]
       have := VL_splice (cf := cf) (K.VL.le hR.lb hle hl) (K.VL.le hR.lb hle hvl) (i * sz + off)
       simpa [splice_def] using this
     ·simp at h
    ·simp at h
   ·simp at h
  ·simp at h
 ·simp at h
theorem mkslice_run {t e : TypeId} {inf : TypeInfo} {sz bytes : Nat} {agg : Bool} {z : List AVal} {zc : List Value} (ht : P.underlying t = some (.slice e)) (hi : P.info? e = some inf) (hsz : inf.size = sz) (hby : inf.bytes = bytes) (h0 : 0 < sz)
  (hz : zeroT P e = some zc) (hzc : chkCs z zc = true) (hz1 : z.all AVal.one = true) (hzl : z.length = sz) (ha : agg = false → sz = 1) {k1 k2 : IntKind} {n c : Int} {ca cb : Value} (hla : κ.V E cf (.int k1 n) ca) (hlb : κ.V E cf (.int k2 c) cb)
  (hn0 : 0 ≤ n) (hnc : n ≤ c) (hb0 : 0 < bytes) (hlim : c * bytes ≤ apLim) (hR : κ.R E cf) :
  GV P E cf κ (Instr.makeSlice t ca cb) (.slice sz κ.σ.length 0 0 n.toNat (if n = c then some n.toNat else none)) (κ.σ ++ [.arr sz (List.replicate n.toNat (zel z agg)) 0 0]) := by
 obtain ⟨i',zv,hi',hzv,hzc'⟩ := zeroT_eq hz
 rw [hi] at hi'; cases hi'
 have := V_int hla; subst this
 have := V_int hlb; subst this
 have hcells := zel_cells hzl hz1 ha
 have hclim : c ≤ 70368744177664 := by
  have h1 : (apLim : Int) = 70368744177664 := rfl
  have : c * 1 ≤ c * bytes := Int.mul_le_mul_of_nonneg_left (by omega) (by omega)
  omega
 have wn : IntKind.i64.wrap n = n := by unfold IntKind.wrap; simp [IntKind.bits,IntKind.signed]; omega
 have wc : IntKind.i64.wrap c = c := by unfold IntKind.wrap; simp [IntKind.bits,IntKind.signed]; omega
 have hlim2 : ¬ ((bytes : Int) * c > 2 ^ 48) := by
  have h1 : (apLim : Int) = 70368744177664 := rfl
  have : (bytes : Int) * c = c * bytes := Int.mul_comm _ _
  omega
 let cells : Array Value := (Array.range (c.toNat * sz)).map (zv.cells[· % zv.cells.size]!)
 intro w hw
 have hrun : (Instr.makeSlice t (.int k1 n) (.int k2 c)).run P w = .ok (.slice (some ⟨w.heap.size,0,none⟩) n.toNat c.toNat) { w with heap := w.heap.push (.cells cells e) } := by
  have hroom : (askRoom (c.toNat * bytes)).run P w = .ok () w := by
   unfold askRoom
   split <;> simp [mark,Sem.run]
  simp only [Instr.makeSlice,Sem.run_bind,run_underlying ht,Result.andThen,asInt,asIntOf,Sem.run_pure,typeInfo,run_program,hi,wn,wc,hby]
  rw [Sem.run_ite,if_neg]
  ·simp only [Sem.run_pure,Sem.run_bind,hroom,Result.andThen,sz_of hi,hsz]
   by_cases hns : c.toNat * sz = 0
   ·rw [if_pos hns]
    have hc0 : c.toNat = 0 := by
     rcases Nat.mul_eq_zero.1 hns with h | h
     ·exact h
     ·omega
    have er : Array.range 0 = #[] := rfl
    simp [newRow,newObj,Sem.run,Result.andThen,cells,hc0,er]
   ·rw [if_neg hns]
    simp [zeroValue,typeInfo,hi,hzv,newRow,newObj,Sem.run,Result.andThen,cells]
  ·have q1 : ¬ (n < 0) := by omega
   have q2 : ¬ (c < 0) := by omega
   have q3 : ¬ (c < n) := by omega
   have q4 : ¬ (2 ^ 48 < (bytes : Int) * c) := by omega
   simp [q1,q2,q3]
   omega
 have hsz' : cells.size = c.toNat * sz := by simp [cells]
 have hzero := zeros_VL (cf := cf) (hp := κ.h) (S := κ.safe E) (I := κ.ids) (z := z) (zc := zv.cells) (sz := sz) (n := c.toNat) (by rw [hzc']; exact hzc) hzl h0
 have hel : AVal.elemsOk sz (List.replicate n.toNat (zel z agg)) := by
  intro x hx
  rw [List.eq_of_mem_replicate hx,hcells]
  exact ⟨hzl,allOne_of hz1⟩
 have hat : (κ.new (.cells cells e) (.arr sz (List.replicate n.toNat (zel z agg)) 0 0)).h[(κ.new (.cells cells e) (.arr sz (List.replicate n.toNat (zel z agg)) 0 0)).loc κ.σ.length]? = some (.cells cells e (0,0)) := by simp [K.new]
 refine ⟨_,_,κ.new (.cells cells e) (.arr sz (List.replicate n.toNat (zel z agg)) 0 0),hrun,by simp [K.new,hw],by simp [K.new],K.new_le hR _ _,K.new_R hR _ _ ?_,?_⟩
 ·refine ⟨Nat.le_refl _,h0,hel,cells,e,cells.toList.take (n.toNat * sz),cells.toList.drop (n.toNat * sz),hat,by simp,?_⟩
  have h2 : κ.VL E cf ((List.replicate n.toNat (zel z agg)).flatMap AVal.cells) (cells.toList.take (n.toNat * sz)) := by
   have := VL_take (n.toNat * sz) hzero
   have he : (List.replicate c.toNat z).flatten.take (n.toNat * sz) = (List.replicate n.toNat (zel z agg)).flatMap AVal.cells := by
    rw [flat_replicate,hcells]
    have hnc' : c.toNat = n.toNat + (c.toNat - n.toNat) := by omega
    rw [hnc',← List.replicate_append_replicate,List.flatten_append,List.take_append_of_le_length (by rw [rep_len,hzl]; exact Nat.le_refl _),List.take_of_length_le (by rw [rep_len,hzl]; exact Nat.le_refl _)]
   rw [he] at this
   exact this
  exact K.VL.le hR.lb (K.new_le hR _ _) h2
 ·have hloc : (κ.new (.cells cells e) (.arr sz (List.replicate n.toNat (zel z agg)) 0 0)).loc κ.σ.length = w.heap.size := by simp [K.new,hw]
  refine .slice _ sz κ.σ.length 0 0 n.toNat _ w.heap.size 0 c.toNat ⟨⟨by omega,hR.fresh⟩,?_,h0,List.replicate n.toNat (zel z agg),0,0,by simp [K.new,List.getElem?_append_right],Nat.le_refl _,fun _ => ⟨?_,.inl ⟨hloc.symm,.inl (by simp)⟩,?_⟩⟩
  ·intro cc hcc
   split at hcc
   ·rename_i he; simp at hcc; omega
   ·simp at hcc
  ·split <;> simp
  ·intro _ hcn
   refine ⟨by simp; omega,fun vs e' f hv => ?_⟩
   rw [hat] at hv
   cases hv
   rw [hsz',Nat.zero_add]; exact Nat.le_refl _
end
section
variable {P : Program} {E : Env} {cf : FuncId → FuncId} {κ : K}
theorem elems_ok (hR : κ.R E cf) {sz : Nat} {a : AVal} {ca : Value} {ys : List AVal} (ha : κ.V E cf a ca) (h : elems sz κ.σ a = some ys) :
  ∃ p l c vs,ca = .slice p l c ∧ ys.length = l ∧ κ.VL E cf (ys.flatMap AVal.cells) vs ∧ AVal.elemsOk sz ys ∧ (p = none → ys = []) ∧ ∀ ad,p = some ad → (vs = [] ∧ ∃ t f s,a = .fslice t f s []) ∨ ∃ b o,ad = ⟨b,o,none⟩ ∧ rowAt κ.h b o vs := by
 unfold elems at h
 split at h
 ·cases ha
  simp at h; subst h
  exact ⟨none,0,0,[],rfl,rfl,.nil _,fun _ h => by simp at h,fun _ => rfl,fun _ h => by simp at h⟩
 ·rename_i t full sz' es
  split at h
  ·rename_i hsz
   subst hsz
   injection h with h
   subst h
   cases ha with
   | fslice _ _ _ _ _ b o len cap vs g1 g2 g3 g4 g5 g6 g7 g8 g9 =>
    exact ⟨_,len,cap,vs,rfl,g7,g2,g3,fun h => by simp at h,fun ad had => by cases had; exact .inr ⟨b,o,rfl,g6⟩⟩
   | zslice _ _ _ _ ad g1 =>
    exact ⟨_,0,0,[],rfl,rfl,.nil _,fun _ h => by simp at h,fun h => by simp at h,fun ad had => .inl ⟨rfl,_,_,_,rfl⟩⟩
  ·simp at h
 ·rename_i sz' id ep off len cap
  split at h
  ·rename_i sz2 es ep' fl hid
   split at h
   ·rename_i hc
    obtain ⟨rfl,hf⟩ := hc
    injection h with h
    subst h
    cases ha with
    | slice _ _ _ _ _ _ _ b o cap' hs =>
    obtain ⟨⟨s1,hpd⟩,s2,s3,es0,epo,fl0,s4,s5,s6⟩ := hs
    rw [hid] at s4
    cases s4
    obtain ⟨q1,q2,q3⟩ := s6 hf
    have hr : len ≤ cap.getD len := by
     cases cap with
     | none => simp
     | some c => have := s2 c rfl; simp; omega
    obtain ⟨g1,g2,g3,vs,e,us,rest,hb,hvs,hl⟩ := hR.obj id _ hid hpd
    have hlen := VL_len hl
    have hfl := flat_length g3
    have hcur : rowAt κ.h (κ.loc id) (off * sz') ((us.drop (off * sz')).take (len * sz')) := by
     have : rowAt κ.h (κ.loc id) 0 us := fun j v hj => by
      simp only [cellAt,hb,Nat.zero_add]
      have : vs.toList[j]? = some v := by rw [hvs,List.getElem?_append_left (List.getElem?_eq_some_iff.1 hj).1]; exact hj
      simpa using this
     have := rowAt_take (n := len * sz') (rowAt_drop (n := off * sz') this)
     simpa using this
    refine ⟨_,len,cap',(us.drop (off * sz')).take (len * sz'),rfl,by simp; omega,?_,elemsOk_take (elemsOk_drop g3),fun h => by simp at h,fun ad had => by
     cases had
     refine .inr ⟨b,o,rfl,?_⟩
     by_cases hz : cap' = 0
     ·have : len = 0 := by omega
      subst this
      intro j v hj
      simp at hj
     ·rcases q2 with ⟨rfl,ho⟩ | ⟨u1,u2,u3,u4⟩
      ·rcases ho with rfl | ho
       ·exact hcur
       ·exact absurd ho hz
      ·rcases u4 with u4 | u4
       ·exact absurd u4 hz
       ·intro j v hj
        have hjlt : j < len * sz' := by have := (List.getElem?_eq_some_iff.1 hj).1; simp at this; omega
        have : len * sz' ≤ cap.getD len * sz' := Nat.mul_le_mul_right _ hr
        rw [u4 j (by omega)]
        exact hcur j v hj⟩
    rw [flat_take (elemsOk_drop g3),flat_drop g3]
    exact VL_take _ (VL_drop _ hl)
   ·simp at h
  ·simp at h
 ·simp at h
theorem firstCells_run {sz : Nat} {p : Option Addr} {l c : Nat} {vs : List Value} (hl : vs.length = l * sz) (h : ∀ ad,p = some ad → l = 0 ∨ ∃ b o,ad = ⟨b,o,none⟩ ∧ rowAt κ.h b o vs) (hn : p = none → l = 0) (w : World) (hw : w.heap = κ.h) :
  (Builtin.firstCells sz l (.slice p l c)).run P w = .ok vs.toArray w := by
 cases p with
 | none =>
  have := hn rfl
  subst this
  have : vs = [] := by apply List.eq_nil_of_length_eq_zero; omega
  subst this
  simp [Builtin.firstCells]
 | some ad =>
  rcases h ad rfl with h0 | ⟨b,o,rfl,hr⟩
  ·subst h0
   have : vs = [] := by apply List.eq_nil_of_length_eq_zero; omega
   subst this
   simp [Builtin.firstCells,loadCells,loadCellsFrom]
  simp only [Builtin.firstCells]
  rw [← hl]
  exact run_loadCells_list w ⟨b,o,none⟩ vs (fun j v hj => by rw [add_spot,cellAt_eq,hw]; exact hr j v hj)
theorem growBy_le (need : Nat) : ∀ (r c : Nat),c ≤ 2 * need + 512 → c < need ∨ c ≤ need + need / 4 + 192 → Builtin.growBy need r c ≤ 2 * need + 512 := by
 intro r
 induction r with
 | zero => intro c h _; simpa [Builtin.growBy] using h
 | succ r ih =>
  intro c h h2
  unfold Builtin.growBy
  split
  ·exact h
  ·exact ih _ (by omega) (.inr (by omega))
theorem nextcap_le (need cap : Nat) (h : cap < need) : Builtin.nextslicecap need cap ≤ 2 * need + 512 := by
 unfold Builtin.nextslicecap
 split
 ·omega
 ·split
  ·omega
  ·exact growBy_le _ _ _ (by omega) (.inl h)
structure ElemT (P : Program) (t t2 e : TypeId) (sz bytes : Nat) : Prop where
 ht : P.underlying t = some (.slice e)
 ht2 : ∃ e2,P.underlying t2 = some (.slice e2)
 info : ∃ i z,P.info? e = some i ∧ i.size = sz ∧ i.bytes = bytes ∧ i.zero = some z ∧ z.cells.size = sz
 h0 : 0 < sz
 hb : 0 < bytes
 hb2 : bytes ≤ 1048576
theorem append_fits {t t2 e ty : TypeId} {sz bytes : Nat} (hT : ElemT P t t2 e sz bytes) {base p : Option Addr} {len cap l c : Nat} {vs : List Value} (hl : vs.length = l * sz) (hp : ∀ ad,p = some ad → l = 0 ∨ ∃ b o,ad = ⟨b,o,none⟩ ∧ rowAt κ.h b o vs)
  (hn : p = none → l = 0) (hfit : len + l ≤ cap) (w : World) (hw : w.heap = κ.h) :
  (Builtin.append_ #[t,t2] ty #[.slice base len cap,.slice p l c]).run P w =
   match base with
   | some a => ((storeCells (a.add (len * sz)) vs).run P w).andThen fun _ w' => .ok (.slice base (len + l) cap) w'
   | none => .ok (.slice base (len + l) cap) w := by
 obtain ⟨e2,ht2⟩ := hT.ht2
 obtain ⟨i,z,hi,hsz,hby,hz,hzs⟩ := hT.info
 have hf := firstCells_run (P := P) (c := c) hl hp hn w hw
 cases base with
 | none => simp [Builtin.append_,run_underlying hT.ht,run_underlying ht2,Result.andThen,sz_of hi,hsz,Builtin.lenOf,hfit,hf]
 | some a => simp [Builtin.append_,run_underlying hT.ht,run_underlying ht2,Result.andThen,sz_of hi,hsz,Builtin.lenOf,hfit,hf]
theorem append_grows {t t2 e ty : TypeId} {sz bytes : Nat} (hT : ElemT P t t2 e sz bytes) {base p : Option Addr} {len cap l c : Nat} {vs os : List Value} (hl : vs.length = l * sz) (hp : ∀ ad,p = some ad → l = 0 ∨ ∃ b o,ad = ⟨b,o,none⟩ ∧ rowAt κ.h b o vs)
  (hn : p = none → l = 0) (hol : os.length = len * sz) (hop : ∀ ad,base = some ad → len = 0 ∨ ∃ b o,ad = ⟨b,o,none⟩ ∧ rowAt κ.h b o os) (hon : base = none → len = 0) (hgrow : cap < len + l) (hlim : (len + l) * bytes ≤ apLim) (w : World) (hw : w.heap = κ.h) :
  ∃ newCap rest w',(Builtin.append_ #[t,t2] ty #[.slice base len cap,.slice p l c]).run P w = .ok (.slice (some ⟨w.heap.size,0,none⟩) (len + l) newCap) w' ∧
   w'.heap = w.heap.push (.cells ((os ++ vs).toArray ++ rest) e (0,0)) ∧ len + l ≤ newCap ∧ ((os ++ vs).toArray ++ rest).size = newCap * sz ∧ w'.os = w.os ∧ w'.output = w.output := by
 obtain ⟨e2,ht2⟩ := hT.ht2
 obtain ⟨i,z,hi,hsz,hby,hz,hzs⟩ := hT.info
 have hfit : ¬ (len + l ≤ cap) := by omega
 have hl63 : len + l ≤ 70368744177664 := by
  have : (len + l) * 1 ≤ (len + l) * bytes := Nat.mul_le_mul_left _ hT.hb
  unfold apLim at hlim
  omega
 have hby' : i.bytes ≠ 0 := by have := hT.hb; omega
 have hnext : ¬ (Builtin.nextslicecap (len + l) cap * i.bytes > 2 ^ 48) := by
  have h1 := nextcap_le (len + l) cap hgrow
  have h2 : Builtin.nextslicecap (len + l) cap * i.bytes ≤ (2 * (len + l) + 512) * bytes := by rw [hby]; exact Nat.mul_le_mul_right _ h1
  have h3 : (2 * (len + l) + 512) * bytes = 2 * ((len + l) * bytes) + 512 * bytes := by rw [Nat.add_mul,Nat.mul_assoc]
  have := hT.hb2
  unfold apLim at hlim
  omega
 let q : Question := .appendCap (len + l) cap e
 let w1 : World := { w with drawn := w.drawn + 1 }
 let newCap : Nat := q.cut (w.tape w.drawn q)
 have hnc : len + l ≤ newCap := by simp only [newCap,q,Question.cut]; omega
 have hf := firstCells_run (P := P) (c := c) hl hp hn w1 hw
 have hof := firstCells_run (P := P) (c := cap) hol hop hon w1 hw
 have hch : (choose q).run P w = .ok newCap w1 := by
  simp [choose,Sem.run,Question.forced,q,newCap,w1]
 have hroom : (askRoom (newCap * i.bytes)).run P w1 = .ok () w1 := by
  unfold askRoom
  split <;> simp [mark,Sem.run]
 refine ⟨newCap,Builtin.zeroCells z.cells (newCap - (len + l)),{ w1 with heap := w1.heap.push (.cells ((os ++ vs).toArray ++ Builtin.zeroCells z.cells (newCap - (len + l))) e) },?_,rfl,hnc,?_,rfl,rfl⟩
 ·have hch' := hch
  simp only [q] at hch'
  have hle63 : ¬ ((len : Int) + (l : Int) > IntKind.i64.max) := by
   simp only [IntKind.max,IntKind.signed,IntKind.bits]
   omega
  have hhuge : ¬ (IntKind.i64.max < (len : Int) + (l : Int) ∧ i.bytes = 0) := fun h => hby' h.2
  simp only [gt_iff_lt,Nat.not_lt] at hnext
  have hn' : ¬ (2 ^ 48 < Builtin.nextslicecap (len + l) cap * i.bytes) := by omega
  simp [Builtin.append_,run_underlying hT.ht,run_underlying ht2,Result.andThen,sz_of hi,hsz,Builtin.lenOf,hfit,typeInfo,hi,hby',hch',hroom,hof,hf,zeroValue,hz,newRow,newObj,Sem.run]
  have hn2 : ¬ (281474976710656 < Builtin.nextslicecap (len + l) cap * i.bytes) := by omega
  have ea : os.toArray ++ (vs.toArray ++ Builtin.zeroCells z.cells (newCap - (len + l))) = (os ++ vs).toArray ++ Builtin.zeroCells z.cells (newCap - (len + l)) := Array.ext' (by simp)
  rw [if_neg hn2,ea]
 ·simp only [Array.size_append,List.size_toArray,List.length_append,Builtin.zeroCells,Array.size_map,Array.size_range,hzs,hol,hl]
  rw [← Nat.add_mul,← Nat.add_mul]
  congr 1
  omega
theorem row_of {h : Array Obj} {b o : Nat} {cells : Array Value} {e : TypeId} {f : Nat × Nat} (hb : h[b]? = some (.cells cells e f)) (vs : List Value) (hv : ∀ (j : Nat) (v : Value),vs[j]? = some v → cells[o + j]? = some v) : rowAt h b o vs := by
 intro j v hj
 simp only [cellAt,hb]
 exact hv j v hj
theorem newArr_ok (hR : κ.R E cf) {sz : Nat} {es : List AVal} {vs : List Value} {rest : Array Value} {e : TypeId} {newCap : Nat} (h0 : 0 < sz) (hel : AVal.elemsOk sz es) (hl : κ.VL E cf (es.flatMap AVal.cells) vs) (hcap : es.length ≤ newCap)
  (hsize : (vs.toArray ++ rest).size = newCap * sz) :
  (κ.new (.cells (vs.toArray ++ rest) e) (.arr sz es 0 0)).R E cf ∧
  (κ.new (.cells (vs.toArray ++ rest) e) (.arr sz es 0 0)).V E cf (.slice sz κ.σ.length 0 0 es.length none) (.slice (some ⟨κ.h.size,0,none⟩) es.length newCap) := by
 have hat : (κ.new (.cells (vs.toArray ++ rest) e) (.arr sz es 0 0)).h[(κ.new (.cells (vs.toArray ++ rest) e) (.arr sz es 0 0)).loc κ.σ.length]? = some (.cells (vs.toArray ++ rest) e (0,0)) := by simp [K.new]
 refine ⟨K.new_R hR _ _ ⟨Nat.le_refl _,h0,hel,_,e,vs,rest.toList,hat,by simp,K.VL.le hR.lb (K.new_le hR _ _) hl⟩,?_⟩
 refine .slice _ sz κ.σ.length 0 0 es.length none κ.h.size 0 newCap ⟨⟨hcap,hR.fresh⟩,by simp,h0,es,0,0,by simp [K.new,List.getElem?_append_right],Nat.le_refl _,fun _ => ⟨by simp,.inl ⟨by simp [K.new],.inl (by simp)⟩,fun _ _ => ⟨by omega,fun vs' e' f hv => ?_⟩⟩⟩
 rw [hat] at hv
 cases hv
 rw [hsize]; simp
theorem elemsOk_append {sz : Nat} {a b : List AVal} (ha : AVal.elemsOk sz a) (hb : AVal.elemsOk sz b) : AVal.elemsOk sz (a ++ b) := fun x hx => by
 rcases List.mem_append.1 hx with h | h
 ·exact ha x h
 ·exact hb x h
structure Src (κ : K) (E : Env) (cf : FuncId → FuncId) (sz : Nat) (ys : List AVal) (p : Option Addr) (l : Nat) (vs : List Value) : Prop where
 yl : ys.length = l
 vl : κ.VL E cf (ys.flatMap AVal.cells) vs
 yo : AVal.elemsOk sz ys
 len : vs.length = l * sz
 pn : p = none → l = 0
 pr : ∀ ad,p = some ad → l = 0 ∨ ∃ b o,ad = ⟨b,o,none⟩ ∧ rowAt κ.h b o vs
theorem append_new {t t2 e ty : TypeId} {sz bytes : Nat} (hT : ElemT P t t2 e sz bytes) {base p : Option Addr} {len cap l c : Nat} {es ys : List AVal} {os vs : List Value} (hS : Src κ E cf sz ys p l vs) (hO : Src κ E cf sz es base len os)
  (hgrow : cap < len + l) (hlim : (len + l) * bytes ≤ apLim) (hR : κ.R E cf) :
  GV P E cf κ (Builtin.append_ #[t,t2] ty #[.slice base len cap,.slice p l c]) (.slice sz κ.σ.length 0 0 (len + l) none) (κ.σ ++ [.arr sz (es ++ ys) 0 0]) := by
 intro w hw
 obtain ⟨newCap,rest,w',g1,g2,g3,g4,gS⟩ := append_grows (P := P) (c := c) (ty := ty) hT hS.len hS.pr hS.pn hO.len hO.pr hO.pn hgrow hlim w hw
 have hl2 : (es ++ ys).length = len + l := by rw [List.length_append,hO.yl,hS.yl]
 have hvl : κ.VL E cf ((es ++ ys).flatMap AVal.cells) (os ++ vs) := by rw [List.flatMap_append]; exact VL_append hO.vl hS.vl
 obtain ⟨k1,k2⟩ := newArr_ok (rest := rest) (e := e) (newCap := newCap) hR hT.h0 (elemsOk_append hO.yo hS.yo) hvl (by rw [hl2]; exact g3) g4
 rw [hl2] at k2
 refine ⟨_,w',_,g1,?_,?_,K.new_le hR _ _,k1,?_⟩
 ·exact ⟨by rw [g2,hw]; rfl,gS⟩
 ·rfl
 ·rw [hw]; exact k2
theorem append_here {t t2 e ty : TypeId} {sz bytes : Nat} (hT : ElemT P t t2 e sz bytes) {p : Option Addr} {cap l c id ep fl : Nat} {es ys : List AVal} {vs us rest : List Value} {cells : Array Value} {e0 : TypeId} (hS : Src κ E cf sz ys p l vs)
  (hid : κ.σ[id]? = some (.arr sz es ep fl)) (hpd : ¬ κ.pend id) (hf : fl ≤ ep) (hel : AVal.elemsOk sz es) (hb : κ.h[κ.loc id]? = some (.cells cells e0 (0,0))) (hus : cells.toList = us ++ rest) (hul : κ.VL E cf (es.flatMap AVal.cells) us) (hfit : es.length + l ≤ cap) (hsz : cap * sz ≤ cells.size) (hl0 : 0 < l) (hR : κ.R E cf) :
  GV P E cf κ (Builtin.append_ #[t,t2] ty #[.slice (some ⟨κ.loc id,0,none⟩) es.length cap,.slice p l c]) (.slice sz id (ep + 1) 0 (es.length + l) none) (κ.σ.set id (.arr sz (es ++ ys) (ep + 1) fl)) := by
 intro w hw
 have hulen : us.length = es.length * sz := by rw [← VL_len hul,flat_length hel]
 have hone : ∀ v ∈ vs,v.oneCell' = true := VL_oneCell hS.vl (fun c hc => by
  obtain ⟨x,hx,hcx⟩ := List.mem_flatMap.1 hc
  exact (hS.yo x hx).2 c hcx)
 have hb' : w.heap[κ.loc id]? = some (.cells cells e0 (0,0)) := by rw [hw]; exact hb
 have hroom : es.length * sz + l * sz ≤ cells.size := by rw [← Nat.add_mul]; exact Nat.le_trans (Nat.mul_le_mul_right _ hfit) hsz
 have hcl : cells.size = us.length + rest.length := by rw [← Array.length_toList,hus,List.length_append]
 obtain ⟨w',cells',g1,g2,g3,gS⟩ := storeCells_run (P := P) vs 0 w (κ.loc id) (es.length * sz) cells e0 hb' hone (by rw [hS.len]; omega)
 have hsize : cells'.size = cells.size := by rw [← Array.length_toList,g3]; simp; rw [hS.len]; omega
 have hc' : cells'.toList = us ++ vs ++ rest.drop (l * sz) := by
  rw [g3,hus]
  simp only [Nat.add_zero]
  rw [List.take_append_of_le_length (by omega),List.take_of_length_le (by omega),hS.len]
  congr 1
  rw [List.drop_append,List.drop_of_length_le (by omega),List.nil_append]
  congr 1; omega
 have hle : κ.Le (κ.upd id (.cells cells' e0 (0,0)) (.arr sz (es ++ ys) (ep + 1) fl)) := by
  refine K.upd_le hR id _ _ _ hid hpd ⟨_,ep + 1,fl,K.upd_σ id _ _ _ hid,Nat.le_succ _,Nat.le_refl _,by simp,fun h => by omega,fun _ _ => .inl rfl,fun _ j hj => ?_⟩
  have hat := K.upd_at hR id (.cells cells' e0 (0,0)) (.arr sz (es ++ ys) (ep + 1) fl) _ hid hpd
  have : (κ.upd id (.cells cells' e0 (0,0)) (.arr sz (es ++ ys) (ep + 1) fl)).loc id = κ.loc id := rfl
  rw [this]
  simp only [cellAt,hat,hb]
  rw [← Array.getElem?_toList,← Array.getElem?_toList,hc',hus,List.append_assoc,List.getElem?_append_left (by omega),List.getElem?_append_left (by omega)]
 have hat := K.upd_at hR id (.cells cells' e0 (0,0)) (.arr sz (es ++ ys) (ep + 1) fl) _ hid hpd
 refine ⟨.slice (some ⟨κ.loc id,0,none⟩) (es.length + l) cap,w',_,?_,⟨by rw [g2,hw]; rfl,gS⟩,rfl,hle,K.upd_R hR id _ _ _ hid hpd hle ⟨by omega,hT.h0,elemsOk_append hel hS.yo,cells',e0,us ++ vs,rest.drop (l * sz),hat,hc',?_⟩,?_⟩
 ·rw [append_fits (P := P) hT hS.len hS.pr hS.pn hfit w hw]
  simp only [add_spot,Nat.zero_add,g1,Result.andThen]
 ·rw [List.flatMap_append]
  exact VL_append (K.VL.le hR.lb hle hul) (K.VL.le hR.lb hle hS.vl)
 ·refine .slice _ sz id (ep + 1) 0 (es.length + l) none (κ.loc id) 0 cap ⟨⟨hfit,hpd⟩,by simp,hT.h0,es ++ ys,ep + 1,fl,K.upd_σ id _ _ _ hid,Nat.le_refl _,fun _ => ⟨by simp [hS.yl],.inl ⟨rfl,.inl (by simp)⟩,fun _ _ => ⟨by simp [hS.yl]; omega,fun vs2 e2 f2 hv2 => ?_⟩⟩⟩
  have : (κ.upd id (.cells cells' e0 (0,0)) (.arr sz (es ++ ys) (ep + 1) fl)).loc id = κ.loc id := rfl
  rw [this,hat] at hv2
  cases hv2
  rw [hsize,Nat.zero_add]; exact hsz
theorem append_move {t t2 e ty : TypeId} {sz bytes : Nat} (hT : ElemT P t t2 e sz bytes) {base p : Option Addr} {cap l c id ep fl : Nat} {es ys : List AVal} {vs us rest os : List Value} {cells : Array Value} {e0 : TypeId} (hS : Src κ E cf sz ys p l vs) (hO : Src κ E cf sz es base es.length os)
  (hid : κ.σ[id]? = some (.arr sz es ep fl)) (hpd : ¬ κ.pend id) (hf : fl ≤ ep) (hb : κ.h[κ.loc id]? = some (.cells cells e0 (0,0))) (hus : cells.toList = us ++ rest) (hul : κ.VL E cf (es.flatMap AVal.cells) us) (hcur : es ≠ [] → base = some ⟨κ.loc id,0,none⟩) (hgrow : cap < es.length + l) (hlim : (es.length + l) * bytes ≤ apLim) (hl0 : 0 < l) (hR : κ.R E cf) :
  GV P E cf κ (Builtin.append_ #[t,t2] ty #[.slice base es.length cap,.slice p l c]) (.slice sz id (ep + 1) 0 (es.length + l) none) (κ.σ.set id (.arr sz (es ++ ys) (ep + 1) fl)) := by
 intro w hw
 obtain ⟨newCap,nrest,w',g1,g2,g3,g4,gS⟩ := append_grows (P := P) (c := c) (ty := ty) hT hS.len hS.pr hS.pn hO.len hO.pr hO.pn hgrow hlim w hw
 have hulen : us.length = es.length * sz := by rw [← VL_len hul,flat_length hO.yo]
 have hou : os = us := by
  by_cases hes : es = []
  ·subst hes
   simp at hulen
   have := hO.len
   simp at this
   rw [this,hulen]
  ·obtain ⟨b,o,hbo,hrow⟩ := (hO.pr _ (hcur hes)).resolve_left (fun h0 => hes (List.eq_nil_of_length_eq_zero h0))
   cases hbo
   apply List.ext_getElem?
   intro j
   by_cases hj : j < os.length
   ·have h1 := hrow j _ (List.getElem?_eq_getElem hj)
    simp only [cellAt,hb,Nat.zero_add] at h1
    rw [← Array.getElem?_toList,hus,List.getElem?_append_left (by rw [hulen,← hO.len]; exact hj)] at h1
    rw [h1,List.getElem?_eq_getElem hj]
   ·rw [List.getElem?_eq_none (by omega),List.getElem?_eq_none (by rw [hulen,← hO.len]; omega)]
 subst hou
 have hlt := hR.hi id (K.live_of hid hpd)
 let nc : Array Value := (os ++ vs).toArray ++ nrest
 have hat : (κ.mov id (.cells nc e (0,0)) (.arr sz (es ++ ys) (ep + 1) fl)).h[κ.h.size]? = some (.cells nc e (0,0)) := by simp [K.mov]
 have hloc : (κ.mov id (.cells nc e (0,0)) (.arr sz (es ++ ys) (ep + 1) fl)).loc id = κ.h.size := by simp [K.mov]
 have hsig : (κ.mov id (.cells nc e (0,0)) (.arr sz (es ++ ys) (ep + 1) fl)).σ[id]? = some (.arr sz (es ++ ys) (ep + 1) fl) := by
  have hi := (List.getElem?_eq_some_iff.1 hid).1
  simp [K.mov,List.getElem?_set_self hi]
 have hold : ∀ j,j < es.length * sz → cellAt (κ.mov id (.cells nc e (0,0)) (.arr sz (es ++ ys) (ep + 1) fl)).h κ.h.size j = cellAt κ.h (κ.loc id) j := by
  intro j hj
  have e1 : nc.toList[j]? = os[j]? := by
   simp only [nc,Array.toList_append,List.append_assoc]
   rw [List.getElem?_append_left (by omega)]
  have e2 : cells.toList[j]? = os[j]? := by rw [hus,List.getElem?_append_left (by omega)]
  simp only [cellAt,hat,hb]
  rw [← Array.getElem?_toList,← Array.getElem?_toList,e1,e2]
 have hle : κ.Le (κ.mov id (.cells nc e (0,0)) (.arr sz (es ++ ys) (ep + 1) fl)) := by
  refine K.mov_le hR id _ _ _ hid hpd ⟨_,ep + 1,fl,hsig,Nat.le_succ _,Nat.le_refl _,by simp,fun h => by omega,fun _ _ => .inr ⟨K.mov_own hR id _ _ _ hlt (fun i hi hne he => hne (hR.inj i id hi (K.live_of hid hpd) he)),fun j hj => ?_⟩,fun _ j hj => ?_⟩
  ·rw [hloc,hold j hj]
   exact cellAt_congr (by simp [K.mov,Array.getElem?_push,Nat.ne_of_lt hlt]) j
  ·rw [hloc]; exact hold j hj
 refine ⟨_,w',_,g1,⟨by rw [g2,hw]; rfl,gS⟩,rfl,hle,K.mov_R hR id _ _ _ hid hle ⟨by omega,hT.h0,elemsOk_append hO.yo hS.yo,nc,e,os ++ vs,nrest.toList,by rw [hloc]; exact hat,by simp [nc],?_⟩,?_⟩
 ·rw [List.flatMap_append]
  exact VL_append (K.VL.le hR.lb hle hul) (K.VL.le hR.lb hle hS.vl)
 ·refine .slice _ sz id (ep + 1) 0 (es.length + l) none w.heap.size 0 newCap ⟨⟨g3,hpd⟩,by simp,hT.h0,es ++ ys,ep + 1,fl,hsig,Nat.le_refl _,fun _ => ⟨by simp [hS.yl],.inl ⟨by rw [hloc,hw],.inl (by simp)⟩,fun _ _ => ⟨by simp [hS.yl]; omega,fun vs2 e2 f2 hv2 => ?_⟩⟩⟩
  rw [hloc,hat] at hv2
  cases hv2
  rw [Nat.zero_add,g4]; exact Nat.le_refl _
theorem append_over {t t2 e ty : TypeId} {sz bytes : Nat} (hT : ElemT P t t2 e sz bytes) {p : Option Addr} {cap' l c id ep fl off len : Nat} {cap : Option Nat} {es ys : List AVal} {vs us rest : List Value} {cells : Array Value} {e0 : TypeId} (hS : Src κ E cf sz ys p l vs)
  (hid : κ.σ[id]? = some (.arr sz es ep fl)) (hpd : ¬ κ.pend id) (hf : fl ≤ ep) (hel : AVal.elemsOk sz es) (hb : κ.h[κ.loc id]? = some (.cells cells e0 (0,0))) (hus : cells.toList = us ++ rest) (hul : κ.VL E cf (es.flatMap AVal.cells) us) (hfit : len + l ≤ cap') (hin : off + len + l ≤ es.length)
  (hc : ∀ c,cap = some c → cap' = c ∧ off + c ≤ es.length) (hcn : cap = none → es.length ≤ off + cap' ∧ (off + cap') * sz ≤ cells.size) (hR : κ.R E cf) :
  GV P E cf κ (Builtin.append_ #[t,t2] ty #[.slice (some ⟨κ.loc id,off * sz,none⟩) len cap',.slice p l c]) (.slice sz id ep off (len + l) cap) (κ.σ.set id (.arr sz (es.take (off + len) ++ ys ++ es.drop (off + len + l)) ep ep)) := by
 intro w hw
 have hulen : us.length = es.length * sz := by rw [← VL_len hul,flat_length hel]
 have hone : ∀ v ∈ vs,v.oneCell' = true := VL_oneCell hS.vl (fun c hc => by
  obtain ⟨x,hx,hcx⟩ := List.mem_flatMap.1 hc
  exact (hS.yo x hx).2 c hcx)
 have hb' : w.heap[κ.loc id]? = some (.cells cells e0 (0,0)) := by rw [hw]; exact hb
 have hcl : cells.size = us.length + rest.length := by rw [← Array.length_toList,hus,List.length_append]
 have hroom : (off + len) * sz + l * sz ≤ es.length * sz := by rw [← Nat.add_mul]; exact Nat.mul_le_mul_right _ hin
 obtain ⟨w',cells',g1,g2,g3,gS⟩ := storeCells_run (P := P) vs 0 w (κ.loc id) ((off + len) * sz) cells e0 hb' hone (by rw [hS.len]; omega)
 have hsize : cells'.size = cells.size := by rw [← Array.length_toList,g3]; simp; rw [hS.len]; omega
 let es' := es.take (off + len) ++ ys ++ es.drop (off + len + l)
 have hes' : es'.length = es.length := by simp [es',hS.yl]; omega
 have hel' : AVal.elemsOk sz es' := elemsOk_append (elemsOk_append (elemsOk_take hel) hS.yo) (elemsOk_drop hel)
 have hflat : es'.flatMap AVal.cells = (es.flatMap AVal.cells).take ((off + len) * sz) ++ ys.flatMap AVal.cells ++ (es.flatMap AVal.cells).drop ((off + len) * sz + l * sz) := by
  simp only [es',List.flatMap_append]
  rw [flat_take hel,flat_drop hel,Nat.add_mul (off + len) l]
 have hc' : cells'.toList = (us.take ((off + len) * sz) ++ vs ++ us.drop ((off + len) * sz + l * sz)) ++ rest := by
  rw [g3,hus]
  simp only [Nat.add_zero]
  rw [List.take_append_of_le_length (by omega),hS.len,List.drop_append_of_le_length (by omega)]
  simp
 have hle : κ.Le (κ.upd id (.cells cells' e0 (0,0)) (.arr sz es' ep ep)) := by
  refine K.upd_le hR id _ _ _ hid hpd ⟨_,ep,ep,K.upd_σ id _ _ _ hid,Nat.le_refl _,hf,by omega,fun _ => ⟨rfl,hes',fun vs2 e2 f2 hv2 => ?_⟩,fun _ h => by omega,fun h => by omega⟩
  rw [K.upd_at hR id _ _ _ hid hpd] at hv2
  cases hv2
  exact ⟨cells,e0,(0,0),hb,hsize⟩
 have hat := K.upd_at hR id (.cells cells' e0 (0,0)) (.arr sz es' ep ep) _ hid hpd
 refine ⟨.slice (some ⟨κ.loc id,off * sz,none⟩) (len + l) cap',w',_,?_,⟨by rw [g2,hw]; rfl,gS⟩,rfl,hle,K.upd_R hR id _ _ _ hid hpd hle ⟨Nat.le_refl _,hT.h0,hel',cells',e0,_,rest,hat,hc',?_⟩,?_⟩
 ·rw [append_fits (P := P) hT hS.len hS.pr hS.pn hfit w hw]
  simp only [add_spot,← Nat.add_mul,g1,Result.andThen]
 ·rw [hflat]
  exact VL_append (VL_append (VL_take _ (K.VL.le hR.lb hle hul)) (K.VL.le hR.lb hle hS.vl)) (VL_drop _ (K.VL.le hR.lb hle hul))
 ·refine .slice _ sz id ep off (len + l) cap (κ.loc id) (off * sz) cap' ⟨⟨hfit,hpd⟩,fun c h => (hc c h).1,hT.h0,es',ep,ep,K.upd_σ id _ _ _ hid,Nat.le_refl _,fun _ => ⟨?_,.inl ⟨rfl,.inl rfl⟩,fun _ hn => ⟨by rw [hes']; exact (hcn hn).1,fun vs2 e2 f2 hv2 => ?_⟩⟩⟩
  ·rw [hes']
   cases cap with
   | none => simp; omega
   | some cc => simp; exact (hc cc rfl).2
  ·have : (κ.upd id (.cells cells' e0 (0,0)) (.arr sz es' ep ep)).loc id = κ.loc id := rfl
   rw [this,hat] at hv2
   cases hv2
   rw [hsize]; exact (hcn hn).2
theorem append_run {t t2 e ty : TypeId} {sz bytes : Nat} (hT : ElemT P t t2 e sz bytes) {x y v : AVal} {cx cy : Value} {ys : List AVal} {σ' : Store} (hx : κ.V E cf x cx) (hy : κ.V E cf y cy) (hys : elems sz κ.σ y = some ys)
  (h : appendV κ.σ sz bytes x ys = some (v,σ')) (hR : κ.R E cf) : GV P E cf κ (Builtin.append_ #[t,t2] ty #[cx,cy]) v σ' := by
 obtain ⟨p,l,c,vs,rfl,hyl,hvl,hyo,hpn,hpr⟩ := elems_ok hR hy hys
 have hvs : vs.length = l * sz := by rw [← VL_len hvl,flat_length hyo,hyl]
 have hpn' : p = none → l = 0 := fun h => by have := hpn h; subst this; simpa using hyl.symm
 have hpr : ∀ ad,p = some ad → l = 0 ∨ ∃ b o,ad = ⟨b,o,none⟩ ∧ rowAt κ.h b o vs := fun ad had => (hpr ad had).imp (fun h => by
  obtain ⟨_,t,f,s,h⟩ := h
  rw [h] at hys
  simp only [elems] at hys
  split at hys
  ·injection hys with hys
   rw [← hyl,← hys]; rfl
  ·cases hys) (fun h => h)
 have hS : Src κ E cf sz ys p l vs := ⟨hyl,hvl,hyo,hvs,hpn',hpr⟩
 unfold appendV at h
 split at h
 ·rename_i hemp
  have hy0 : ys = [] := by simpa using hemp
  subst hy0
  simp at hyl
  subst hyl
  split at h
  ·rename_i hs
   injection h with h
   injection h with h1 h2
   subst h1; subst h2
   have hsh : ∃ base len cap,cx = .slice base len cap ∧ len ≤ cap := by
    cases x <;> simp [isSlice] at hs
    ·cases hx; exact ⟨_,_,_,rfl,Nat.le_refl _⟩
    ·cases hx; rename_i g; exact ⟨_,_,_,rfl,g.1.1⟩
    ·cases hx with
     | fslice => exact ⟨_,_,_,rfl,‹_›⟩
     | zslice => exact ⟨_,_,_,rfl,Nat.le_refl _⟩
   obtain ⟨base,len,cap,rfl,hle⟩ := hsh
   have hvs0 : vs = [] := by apply List.eq_nil_of_length_eq_zero; omega
   subst hvs0
   refine GV.pure hR (cv := .slice base len cap) (fun w hw => ?_) hx
   rw [append_fits (P := P) hT hS.len hpr hpn' (by omega) w hw]
   cases base <;> simp [storeCells,Result.andThen]
  ·simp at h
 ·rename_i hemp
  have hne : ys ≠ [] := by intro h; subst h; simp at hemp
  have hl0 : 0 < l := by rw [← hyl]; exact List.length_pos_iff.2 hne
  unfold growV at h
  split at h
  ·split at h
   ·rename_i hlim
    injection h with h
    injection h with h1 h2
    subst h1; subst h2
    cases hx
    have := append_new (P := P) (c := c) (cap := 0) (es := []) (os := []) (base := none) (len := 0) (ty := ty) hT hS ⟨rfl,.nil _,fun _ h => by simp at h,by simp,fun _ => rfl,fun _ h => by simp at h⟩ (by omega) (by rw [hyl] at hlim; simpa using hlim) hR
    simpa [hyl] using this
   ·simp at h
  ·rename_i tg full sz' es
   split at h
   ·rename_i hc
    obtain ⟨rfl,rfl,hlim⟩ := hc
    injection h with h
    injection h with h1 h2
    subst h1; subst h2
    obtain ⟨p0,l0,c0,os,hcx,hel0,hol,heo,hpn0,hpr0⟩ := elems_ok hR hx (ys := es) (sz := sz') (by simp)
    have hcl : c0 = l0 := by
     cases hx with
     | fslice _ _ _ _ _ b o len cap vs0 q1 q2 q3 q4 q5 q6 q7 q8 q9 => injection hcx with e1 e2 e3; rw [← e2,← e3]; exact q9 rfl
     | zslice _ _ _ _ ad q1 => injection hcx with e1 e2 e3; rw [← e2,← e3]
    subst hcx
    subst hcl
    have hO : Src κ E cf sz' es p0 c0 os := ⟨hel0,hol,heo,by rw [← VL_len hol,flat_length heo,hel0],fun h => by rw [← hel0,hpn0 h]; rfl,fun ad had => (hpr0 ad had).imp (fun h => by
     obtain ⟨_,t,f,s,h⟩ := h
     injection h with _ _ _ h
     rw [← hel0,h]; rfl) (fun h => h)⟩
    have := append_new (P := P) (c := c) (cap := c0) (ty := ty) hT hS hO (by omega) (by rw [hyl,hel0] at hlim; exact hlim) hR
    rw [hyl,hel0]
    exact this
   ·simp at h
  ·rename_i sz2 id ep off len cap
   split at h
   ·rename_i sz' es ep' fl hid
    split at h
    ·rename_i hc
     obtain ⟨rfl,rfl,hlim,hf⟩ := hc
     obtain ⟨p0,l0,c0,os,hcx,hel0,hol,heo,hpn0,hpr0⟩ := elems_ok hR hx (ys := (es.drop off).take len) (sz := sz') (by simp [hid,hf])
     cases hx with
     | slice _ _ _ _ _ _ _ b o cap' hs =>
     injection hcx with e1 e2 e3
     subst e1; subst e2
     obtain ⟨⟨s1,hpd⟩,s2,s3,es0,epo,fl0,s4,s5,s6⟩ := hs
     rw [hid] at s4
     cases s4
     obtain ⟨q1,q2,q3⟩ := s6 hf
     have hO : Src κ E cf sz' ((es.drop off).take len) _ len os := ⟨hel0,hol,heo,by rw [← VL_len hol,flat_length heo,hel0],(fun h => by cases h),fun ad had => .inr ((hpr0 ad had).resolve_left (fun h => by obtain ⟨_,_,_,_,h⟩ := h; cases h))⟩
     obtain ⟨g1',g2',g3',vs0,e0,us,rest0,hb0,hvs0,hl0'⟩ := hR.obj id _ hid hpd
     rw [hyl] at hlim h
     split at h
     ·rename_i hgrow
      split at h
      ·rename_i cc
       have hcc := s2 cc rfl
       subst hcc
       simp only [Option.getD_some] at hgrow
       injection h with h
       injection h with h1 h2
       subst h1; subst h2
       exact append_new (P := P) (c := c) (ty := ty) hT hS hO (by omega) hlim hR
      ·split at h
       ·rename_i hcond
        obtain ⟨rfl,rfl,rfl⟩ := hcond
        injection h with h
        injection h with h1 h2
        subst h1; subst h2
        obtain ⟨q3a,q3b⟩ := q3 rfl rfl
        have q3c := q3b _ _ _ hb0
        simp only [Nat.zero_add] at q3a q3c
        have hO' : Src κ E cf sz' es (some ⟨b,o,none⟩) es.length os := by simpa using hO
        by_cases hfit : es.length + l ≤ cap'
        ·have hat : b = κ.loc id ∧ o = 0 := by
          rcases q2 with ⟨u1,u2 | u2⟩ | ⟨u,_⟩
          ·exact ⟨u1,by simpa using u2⟩
          ·omega
          ·omega
         obtain ⟨rfl,rfl⟩ := hat
         exact append_here (P := P) (c := c) (ty := ty) hT hS hid hpd g1' g3' hb0 hvs0 hl0' hfit q3c hl0 hR
        ·refine append_move (P := P) (c := c) (ty := ty) hT hS hO' hid hpd g1' hb0 hvs0 hl0' (fun hes => ?_) (by omega) hlim hl0 hR
         have hpos : 0 < es.length := List.length_pos_iff.2 hes
         rcases q2 with ⟨u1,u2 | u2⟩ | ⟨u,_⟩
         ·simp at u2; rw [u1,u2]
         ·omega
         ·omega
       ·simp at h
     ·rename_i hin
      split at h
      ·rename_i hep
       subst hep
       injection h with h
       injection h with h1 h2
       subst h1; subst h2
       have hcn : cap = none → es.length ≤ off + cap' ∧ (off + cap') * sz' ≤ vs0.size := fun hn => by
        obtain ⟨u1,u2⟩ := q3 rfl hn
        exact ⟨u1,u2 _ _ _ hb0⟩
       have hc' : ∀ c,cap = some c → cap' = c ∧ off + c ≤ es.length := fun cc hcc => by
        subst hcc
        exact ⟨s2 cc rfl,by simpa using q1⟩
       have hfit : len + l ≤ cap' ∧ off + len + l ≤ es.length := by
        cases cap with
        | none => have := hcn rfl; simp at hin q1; omega
        | some cc => have := hc' cc rfl; simp at hin; omega
       have hat : b = κ.loc id ∧ o = off * sz' := by
        rcases q2 with ⟨u1,u2 | u2⟩ | ⟨u,_⟩
        ·exact ⟨u1,u2⟩
        ·omega
        ·omega
       obtain ⟨rfl,rfl⟩ := hat
       exact append_over (P := P) (c := c) (ty := ty) hT hS hid hpd g1' g3' hb0 hvs0 hl0' hfit.1 hfit.2 hc' hcn hR
      ·simp at h
    ·simp at h
   ·simp at h
  ·simp at h
end
section
variable {P : Program} {E : Env} {cf : FuncId → FuncId} {κ : K} {S : Nat → Nat → Prop}
theorem V_formed {hp : Array Obj} {I : Ids} {v : AVal} {cv : Value} (h : VRel cf hp S I v cv) (hu : v ≠ .undef) : (cv.oneCell' = true → v.one = true) ∧ (AVal.allOne v.cells ∨ ∃ us,v = .tuple us) := by
 cases h <;> first
  | exact absurd rfl hu
  | exact ⟨fun _ => rfl,.inl (fun c hc => by simp at hc; subst hc; rfl)⟩
  | (refine ⟨fun h => by simp [Value.oneCell'] at h,?_⟩; first | exact .inl ‹AVal.allOne _› | exact .inr ⟨_,rfl⟩)
theorem frz_ne (σ : Store) (t : Nat) : ∀ (n : Nat) (v v' : AVal),frz σ t n v = some v' → v' ≠ .undef
 | 0,v,v',h => by simp [frz] at h
 | n + 1,v,v',h => by
  unfold frz at h
  split at h <;> (repeat' split at h) <;> first
   | (simp at h; done)
   | (injection h with h; subst h; intro hh; cases hh; done)
   | (simp only [Option.map_eq_some_iff] at h; obtain ⟨_,_,rfl⟩ := h; intro hh; cases hh; done)
   | skip
  all_goals (rename_i hx; injection h with h; subst h; exact fun hh => hx hh)
theorem elem_V {hp : Array Obj} {I : Ids} {e : AVal} {vs : List Value} (h1 : AVal.allOne e.cells) (h : VRelL cf hp S I e.cells vs) : ∃ cv,VRel cf hp S I e cv ∧ cv.cells.toList = vs := by
 cases e with
 | agg cs => exact ⟨.agg vs.toArray,.agg _ _ _ h h1,by simp [Value.cells]⟩
 | tuple cs => exact absurd (h1 _ (List.mem_singleton.2 rfl)) (by simp)
 | undef => exact absurd (h1 _ (List.mem_singleton.2 rfl)) (by simp)
 | _ =>
  simp only [AVal.cells] at h
  cases h with
  | cons _ _ v _ vs' hv hvs =>
   cases hvs
   refine ⟨v,hv,?_⟩
   have := V_oneCell hv rfl
   cases v <;> simp_all [Value.cells,Value.oneCell']
theorem mapO_len {α β : Type} (f : α → Option β) : ∀ {l : List α} {r : List β},mapO f l = some r → r.length = l.length
 | [],r,h => by simp at h; subst h; rfl
 | a :: l,r,h => by
  unfold mapO at h
  split at h
  ·rename_i b bs h1 h2
   injection h with h
   subst h
   simp [mapO_len f h2]
  ·simp at h
structure FrzOk (E : Env) (cf : FuncId → FuncId) (κ : K) (t0 : Nat) (S' : Nat → Nat → Prop) (f : AVal → Option AVal) : Prop where
 ok : ∀ v cv v',κ.V E cf v cv → f v = some v' → VRel cf κ.h S' noIds v' cv
 ne : ∀ v v',f v = some v' → v' ≠ .undef
theorem FrzOk.list {t0 : Nat} {S' : Nat → Nat → Prop} {f : AVal → Option AVal} (hf : FrzOk E cf κ t0 S' f) : ∀ {vs vs' : List AVal} {cvs : List Value},κ.VL E cf vs cvs → mapO f vs = some vs' → VRelL cf κ.h S' noIds vs' cvs
 | [],_,_,.nil _,h => by simp at h; subst h; exact .nil _
 | v :: vs,_,_,.cons _ _ _ _ _ hv hvs,h => by
  unfold mapO at h
  split at h
  ·rename_i b bs h1 h2
   injection h with h
   subst h
   exact .cons _ _ _ _ _ (hf.ok _ _ _ hv h1) (hf.list hvs h2)
  ·simp at h
theorem FrzOk.one {t0 : Nat} {S' : Nat → Nat → Prop} {f : AVal → Option AVal} (hf : FrzOk E cf κ t0 S' f) : ∀ {vs vs' : List AVal} {cvs : List Value},κ.VL E cf vs cvs → AVal.allOne vs → mapO f vs = some vs' → AVal.allOne vs'
 | [],_,_,.nil _,_,h => by simp at h; subst h; intro c hc; simp at hc
 | v :: vs,_,_,.cons _ _ cv _ _ hv hvs,h1,h => by
  unfold mapO at h
  split at h
  ·rename_i b bs g1 g2
   injection h with h
   subst h
   intro c hc
   rcases List.mem_cons.1 hc with rfl | hc
   ·exact (V_formed (hf.ok _ _ _ hv g1) (hf.ne _ _ g1)).1 (V_oneCell hv (h1 v List.mem_cons_self))
   ·exact hf.one hvs (fun c hc => h1 c (List.mem_cons_of_mem _ hc)) g2 c hc
  ·simp at h
theorem FrzOk.elems {t0 : Nat} {S' : Nat → Nat → Prop} {f : AVal → Option AVal} (hf : FrzOk E cf κ t0 S' f) {sz : Nat} : ∀ {es es' : List AVal} {vs : List Value},AVal.elemsOk sz es → κ.VL E cf (es.flatMap AVal.cells) vs → mapO f es = some es' →
  VRelL cf κ.h S' noIds (es'.flatMap AVal.cells) vs ∧ AVal.elemsOk sz es'
 | [],_,vs,_,hl,h => by simp at h; subst h; cases hl; exact ⟨.nil _,fun _ h => by simp at h⟩
 | e :: es,_,vs,hok,hl,h => by
  unfold mapO at h
  split at h
  ·rename_i b bs g1 g2
   injection h with h
   subst h
   have he := hok e List.mem_cons_self
   simp only [List.flatMap_cons] at hl
   have hlen := VL_len hl
   simp only [List.length_append] at hlen
   have hl1 : κ.VL E cf e.cells (vs.take e.cells.length) := by
    have := VL_take e.cells.length hl
    rwa [List.take_left' rfl] at this
   have hl2 : κ.VL E cf (es.flatMap AVal.cells) (vs.drop e.cells.length) := by
    have := VL_drop e.cells.length hl
    rwa [List.drop_left' rfl] at this
   obtain ⟨cv,hv,hcv⟩ := elem_V he.2 hl1
   have hv' := hf.ok _ _ _ hv g1
   have hb : AVal.allOne b.cells := by
    rcases (V_formed hv' (hf.ne _ _ g1)).2 with h | ⟨us,rfl⟩
    ·exact h
    ·cases hv'
     cases hv
     all_goals exact absurd (he.2 _ (List.mem_singleton.2 rfl)) (by simp)
   have hbc := V_cells hv' hb
   rw [hcv] at hbc
   have hbl := VL_len hbc
   obtain ⟨r1,r2⟩ := hf.elems (fun x hx => hok x (List.mem_cons_of_mem _ hx)) hl2 g2
   refine ⟨?_,?_⟩
   ·simp only [List.flatMap_cons]
    have := VL_append hbc r1
    rwa [List.take_append_drop] at this
   ·intro x hx
    rcases List.mem_cons.1 hx with rfl | hx
    ·refine ⟨?_,hb⟩
     rw [hbl,List.length_take]
     have := he.1
     omega
    ·exact r2 x hx
  ·simp at h
theorem frz_ok (hR : κ.R E cf) {t0 : Nat} {S' : Nat → Nat → Prop} (hS : ∀ t b,κ.safe E t b → S' t b) (hN : ∀ b,κ.base ≤ b → b < κ.h.size → S' t0 b) (hM : ∀ t t' b,t ≤ t' → S' t b → S' t' b) :
  ∀ n,FrzOk E cf κ t0 S' (frz κ.σ t0 n)
 | 0 => ⟨fun v cv v' _ h => by simp [frz] at h,fun v v' h => by simp [frz] at h⟩
 | n + 1 => by
  have ih := frz_ok hR hS hN hM n
  refine ⟨fun v cv v' hv h => ?_,frz_ne _ _ _⟩
  have hobj : ∀ {id : Nat} {cs : List AVal},κ.σ[id]? = some (.cells cs) → ¬ κ.pend id → ∀ {cs'},mapO (frz κ.σ t0 n) cs = some cs' → ∀ off,VRel cf κ.h S' noIds (.fptr (max t0 (AVal.tagL cs')) cs' off) (.pointer (some ⟨κ.loc id,off,none⟩)) := by
   intro id cs hid hpd cs' hcs off
   obtain ⟨h1,vs,e,hb,hl⟩ := hR.obj id _ hid hpd
   have hi := K.live_of hid hpd
   have := VRel.fptr (cf := cf) (h := κ.h) (S := S') noIds (max t0 (AVal.tagL cs')) cs' off (κ.loc id) 0 vs.toList (hM _ _ _ (Nat.le_max_left _ _) (hN _ (hR.lo id hi) (hR.hi id hi)))
    (ih.list hl hcs) (ih.one hl h1 hcs) (tagsLe_of_tagL (Nat.le_max_right _ _)) (row_of hb _ (fun j v hj => by simpa using hj))
   simpa using this
  have hpass : ∀ {v : AVal},κ.V E cf v cv → v.pure = true → VRel cf κ.h S' noIds v cv := fun hv hp => by
   have := V_pure hv hp noIds
   exact VRel.mono (fun t b h => ⟨hS t b h,rfl⟩) (Ids.le_refl _) this
  unfold frz at h
  split at h
  ·rename_i id off
   split at h
   ·rename_i cs hid
    split at h
    ·rename_i cs' hcs
     injection h with h
     subst h
     cases hv with
     | ptr _ _ _ b hp =>
     obtain ⟨⟨_,hpd⟩,rfl⟩ := hp
     exact hobj hid hpd hcs off
    ·simp at h
   ·simp at h
  ·rename_i id ep i off
   split at h
   ·rename_i sz es epo fl hid
    split at h
    ·rename_i hf
     split at h
     ·rename_i x hx
      split at h
      ·rename_i cs' hcs
       injection h with h
       subst h
       have hbb : ∃ b o,cv = .pointer (some ⟨b,o,none⟩) ∧ κ.base ≤ b ∧ b < κ.h.size := by
        cases hv with
        | eptr _ _ _ _ _ b' o' hp =>
        obtain ⟨sz',es',epo',fl',hid',⟨hep,hpd⟩,hxx⟩ := hp
        rw [hid] at hid'
        cases hid'
        rcases (hxx hf).2 with ⟨rfl,_⟩ | ⟨_,_,u,_⟩
        ·have hi := K.live_of hid hpd
         exact ⟨_,_,rfl,hR.lo id hi,hR.hi id hi⟩
        ·exact ⟨_,_,rfl,u⟩
       obtain ⟨b,o,vs,hcv,hl,hrow,h1⟩ := behind_ok hR hv (cs := x.cells) (off := off) (by simp [behind,hid,hf,hx])
       obtain ⟨b0,o0,hcv0,hb⟩ := hbb
       rw [hcv] at hcv0
       injection hcv0 with hcv0
       injection hcv0 with hcv0
       injection hcv0 with e1 e2 e3
       subst e1
       subst hcv
       exact .fptr _ _ _ _ b o vs (hM _ _ _ (Nat.le_max_left _ _) (hN b hb.1 hb.2)) (ih.list hl hcs) (ih.one hl h1 hcs) (tagsLe_of_tagL (Nat.le_max_right _ _)) hrow
      ·simp at h
     ·simp at h
    ·simp at h
   ·simp at h
  ·rename_i sz0 id ep off len cap
   split at h
   ·rename_i sz es epo fl hid
    split at h
    ·rename_i hf
     split at h
     ·rename_i es' hes
      injection h with h
      subst h
      have hsz : sz0 = sz := by
       cases hv with
       | slice _ _ _ _ _ _ _ b o cap' hs => obtain ⟨s1,s2,s3,es0,epo',fl0,s4,_⟩ := hs; rw [hid] at s4; cases s4; rfl
      subst hsz
      obtain ⟨p,l,c,vs,hcv,hyl,hvl,hyo,hpn,hpr⟩ := elems_ok hR hv (sz := sz0) (ys := (es.drop off).take len) (by simp [hid,hf])
      cases hv with
      | slice _ _ _ _ _ _ _ b o cap' hs =>
      injection hcv with e1 e2 e3
      subst e1; subst e2
      obtain ⟨⟨s1,hpd⟩,s2,s3,es0,epo',fl0,s4,s5,s6⟩ := hs
      rw [hid] at s4
      cases s4
      have hb : κ.base ≤ b ∧ b < κ.h.size := by
       rcases (s6 hf).2.1 with ⟨rfl,_⟩ | ⟨_,_,u,_⟩
       ·have hi := K.live_of hid hpd
        exact ⟨hR.lo id hi,hR.hi id hi⟩
       ·exact u
      obtain ⟨b',o',hbo,hrow⟩ := (hpr _ rfl).resolve_left (fun h => by obtain ⟨_,_,_,_,h⟩ := h; cases h)
      cases hbo
      obtain ⟨r1,r2⟩ := ih.elems hyo hvl hes
      refine .fslice _ _ _ sz0 es' b o len cap' vs (hM _ _ _ (Nat.le_max_left _ _) (hN b hb.1 hb.2)) r1 r2 s3 (tagsLe_of_tagL (Nat.le_max_right _ _)) hrow (by rw [mapO_len _ hes,hyl]) s1 (fun hfull => ?_)
      have : cap = some len := by simpa using hfull
      exact s2 _ this
     ·simp at h
    ·simp at h
   ·simp at h
  ·rename_i id
   split at h
   ·rename_i ks vs hid
    split at h
    ·rename_i ks' vs' hk hvv
     injection h with h
     subst h
     cases hv with
     | map _ _ b hp =>
     obtain ⟨⟨_,hpd⟩,rfl⟩ := hp
     obtain ⟨es,clock,hb,hkl,hvl,hbn⟩ := hR.obj id _ hid hpd
     have hi := K.live_of hid hpd
     exact .fmap _ _ _ _ _ clock es (hM _ _ _ (Nat.le_max_left _ _) (hN _ (hR.lo id hi) (hR.hi id hi))) hb (ih.list hkl hk) (ih.list hvl hvv)
      (tagsLe_of_tagL (Nat.le_trans (Nat.le_max_left _ _) (Nat.le_max_right _ _))) (tagsLe_of_tagL (Nat.le_trans (Nat.le_max_right _ _) (Nat.le_max_right _ _))) hbn
    ·simp at h
   ·simp at h
  ·rename_i cs
   simp only [Option.map_eq_some_iff] at h
   obtain ⟨cs',hcs,rfl⟩ := h
   obtain ⟨vs,rfl,hl,h1⟩ := V_agg hv
   exact .agg _ _ _ (ih.list hl hcs) (ih.one hl h1 hcs)
  ·rename_i cs
   simp only [Option.map_eq_some_iff] at h
   obtain ⟨cs',hcs,rfl⟩ := h
   obtain ⟨vs,rfl,hl⟩ := V_tuple hv
   exact .tuple _ _ _ (ih.list hl hcs)
  ·rename_i ty u
   simp only [Option.map_eq_some_iff] at h
   obtain ⟨u',hu,rfl⟩ := h
   cases hv with
   | iface _ _ _ cu hcu => exact .iface _ _ _ _ (ih.ok _ _ _ hcu hu)
  ·rename_i f a b
   split at h
   ·rename_i a' b' ha hb
    injection h with h
    subst h
    cases hv with
    | func _ _ _ _ us ws hu hw => exact .func _ _ _ _ _ _ (ih.list hu ha) (ih.list hw hb)
   ·simp at h
  ·rename_i t' cs off
   split at h
   ·rename_i cs' hcs
    injection h with h
    subst h
    cases hv with
    | fptr _ _ _ _ b o vs hs hl h1 h2 hr =>
     exact .fptr _ _ _ _ b o vs (hM _ _ _ (Nat.le_max_left _ _) (hS _ _ hs)) (ih.list hl hcs) (ih.one hl h1 hcs) (tagsLe_of_tagL (Nat.le_max_right _ _)) hr
   ·simp at h
  ·rename_i t' full sz es
   split at h
   ·rename_i es' hes
    injection h with h
    subst h
    cases hv with
    | fslice _ _ _ _ _ b o len cap vs hs hl h1 h2 h3 hr h4 h5 h6 =>
     obtain ⟨r1,r2⟩ := ih.elems h1 hl hes
     exact .fslice _ _ _ _ es' b o len cap vs (hM _ _ _ (Nat.le_max_left _ _) (hS _ _ hs)) r1 r2 h2 (tagsLe_of_tagL (Nat.le_max_right _ _)) hr (by rw [mapO_len _ hes,h4]) h5 h6
    | zslice _ _ _ _ a h0 =>
     simp only [mapO,Option.some.injEq] at hes
     subst hes
     exact .zslice _ _ _ _ _ h0
   ·simp at h
  ·simp at h
  ·simp at h
  ·simp at h
  ·injection h with h
   subst h
   rename_i h1 h2 h3 h4 h5 h6 h7 h8 h9 h10 h11 h12 h13
   refine hpass hv ?_
   cases v <;> first | rfl | exact (h1 _ _ rfl).elim | exact (h2 _ _ _ _ rfl).elim | exact (h3 _ _ _ _ _ _ rfl).elim | exact (h4 _ rfl).elim | exact (h5 _ rfl).elim | exact (h6 _ rfl).elim | exact (h7 _ _ rfl).elim | exact (h8 _ _ _ rfl).elim | exact (h9 _ _ _ rfl).elim | exact (h10 _ _ _ _ rfl).elim | exact (h11 _ _ _ _ rfl).elim | exact (h12 _ rfl).elim | exact (h13 rfl).elim
end
section
variable {P : Program} {E : Env} {cf : FuncId → FuncId} {κ : K}
mutual
theorem checkKey_flat (empty : Bool) : ∀ (d : Nat) {t : TypeId} {ks : List EK},flatT P d t = some ks → ∀ (D : Nat),d ≤ D → ∀ {azs : List Value} {v : Value} (w : World),azs.length = ks.length → formed P t azs v →
  (Instr.checkKey empty D t v).run P w = .ok () w
 | 0,_,_,h,_,_,_,_,_,_,_ => by simp [flatT] at h
 | d + 1,_,_,_,0,hD,_,_,_,_,_ => by omega
 | d + 1,t,ks,h,D + 1,hD,azs,v,w,hl,hf => by
  unfold flatT at h
  unfold formed at hf
  split at h
  ·rename_i k hu
   simp only [hu] at hf
   simp only [Instr.checkKey,Sem.run_bind,run_underlying hu,Result.andThen,Sem.run_pure]
  ·rename_i hu
   simp only [Instr.checkKey,Sem.run_bind,run_underlying hu,Result.andThen,Sem.run_pure]
  ·rename_i hu
   simp only [Instr.checkKey,Sem.run_bind,run_underlying hu,Result.andThen,Sem.run_pure]
  ·rename_i fs hu
   simp only [hu] at hf
   subst hf
   split at h
   ·simp at h
   ·have := checkFields_flat empty d h D (by omega) (azs := azs) w (by omega)
    simp only [Instr.checkKey,Sem.run_bind,run_underlying hu,Result.andThen]
    rw [← Array.forIn_toList]
    simp only [bind_pure_comp] at this ⊢
    rw [this]
    simp
  ·simp at h
theorem checkFields_flat (empty : Bool) : ∀ (d : Nat) {fs : List Field} {off : Nat} {ks : List EK},flatFs P d fs off = some ks → ∀ (D : Nat),d ≤ D → ∀ {azs : List Value} (w : World),off + ks.length ≤ azs.length →
  (forIn fs PUnit.unit (fun f _ => (if f.name ≠ "_" then do Instr.checkKey empty D f.type (← part f.type azs.toArray f.offset); pure (.yield PUnit.unit) else pure (.yield PUnit.unit) : Sem (ForInStep PUnit)))).run P w = .ok PUnit.unit w
 | 0,_,_,_,h,_,_,_,_,_ => by simp [flatFs] at h
 | d + 1,[],off,ks,h,_,_,_,w,_ => by simp
 | d + 1,f :: fs,off,ks,h,D,hD,azs,w,hl => by
  unfold flatFs at h
  split at h
  ·rename_i hf
   obtain ⟨ho,hn⟩ := hf
   split at h
   ·rename_i ks1 hk1
    split at h
    ·rename_i hsz
     cases hk2 : flatFs P d fs (off + ks1.length) with
     | none => simp [hk2] at h
     | some ks2 =>
      simp [hk2] at h; subst h
      simp only [List.length_append] at hl
      obtain ⟨va,hva,fa⟩ := part_formed (n := 0) (xs := azs) (off := off) hk1 hsz (by omega) w
      subst ho
      have h1 := checkKey_flat empty d hk1 D (by omega) w (by simp; omega) fa
      have h2 := checkFields_flat empty d hk2 D (by omega) (azs := azs) w (by omega)
      rw [List.forIn_cons]
      simp only [if_pos hn,Sem.run_bind,hva,h1,Result.andThen,Sem.run_pure]
      exact h2
    ·simp at h
   ·simp at h
  ·simp at h
end
structure KeyT (P : Program) (kt : TypeId) (agg : Bool) (q : List EK) : Prop where
 flat : ∃ d,d ≤ 10000 ∧ flatT P d kt = some q
 agg : isStructT P kt = agg
theorem key_formed {kt : TypeId} {agg : Bool} {q : List EK} (hK : KeyT P kt agg q) {k : AVal} {ck : Value} (hk : κ.V E cf k ck) {r : Bool} {e : AVal} {ce : Value} (he : κ.V E cf e ce) (h : keyEq agg q k e = some r) :
    CEs q ck.cells.toList ce.cells.toList r ∧ formed P kt ck.cells.toList ck ∧ formed P kt ce.cells.toList ce := by
  unfold keyEq at h
  split at h
  · rename_i hc
    obtain ⟨hka, hea⟩ := hc
    have hform : ∀ {x : AVal} {cx : Value}, κ.V E cf x cx → isAggK x = agg → (∃ q' y, cellsEq q' x.cells y = some r ∨ cellsEq q' y x.cells = some r) → formed P kt cx.cells.toList cx ∧ κ.VL E cf x.cells cx.cells.toList := by
      intro x cx hx ha hq
      have hst := hK.agg
      unfold isStructT at hst
      cases x <;> simp only [isAggK] at ha <;> first
        | (subst ha
           obtain ⟨vs, rfl, hl, h1⟩ := V_agg hx
           refine ⟨?_, by simpa [Value.cells] using hl⟩
           unfold formed
           split at hst <;> simp_all [Value.cells])
        | (subst ha
           refine ⟨?_, ?_⟩
           · unfold formed
             split
             · rename_i hu; simp [hu] at hst
             · cases hx <;> first
                 | rfl
                 | (obtain ⟨q', y, hq | hq⟩ := hq <;> (cases q' <;> cases y <;> simp at hq) <;> (rename_i a b c d; cases a <;> cases c <;> simp at hq))
           · cases hx <;> first
               | (simp only [AVal.cells, Value.cells]; exact VL_one (by constructor <;> assumption))
               | (obtain ⟨q', y, hq | hq⟩ := hq <;> (cases q' <;> cases y <;> simp at hq) <;> (rename_i a b c d; cases a <;> cases c <;> simp at hq)))
    obtain ⟨f1, l1⟩ := hform hk hka ⟨q, e.cells, .inl h⟩
    obtain ⟨f2, l2⟩ := hform he hea ⟨q, k.cells, .inr h⟩
    exact ⟨CEs_of l1 l2 h, f1, f2⟩
  · simp at h
theorem key_equal {kt : TypeId} {agg : Bool} {q : List EK} (hK : KeyT P kt agg q) {k : AVal} {ck : Value} (hk : κ.V E cf k ck) {r : Bool} {e : AVal} {ce : Value} (he : κ.V E cf e ce) (h : keyEq agg q k e = some r) (w : World) :
  (Op.equal kt ck ce).run P w = .ok r w := by
 obtain ⟨h1,h2,h3⟩ := key_formed hK hk he h
 obtain ⟨d,hd,hf⟩ := hK.flat
 exact equalIn_flat d hf 10000 hd w h1 h2 h3
theorem key_check {kt : TypeId} {agg : Bool} {q : List EK} (hK : KeyT P kt agg q) {k : AVal} {ck : Value} (hk : κ.V E cf k ck) (h : (keyEq agg q k k).isSome = true) (empty : Bool) (w : World) :
  (Instr.checkKey empty 10000 kt ck).run P w = .ok () w := by
 obtain ⟨r,hr⟩ := Option.isSome_iff_exists.1 h
 obtain ⟨h1,h2,h3⟩ := key_formed hK hk hk hr
 obtain ⟨d,hd,hf⟩ := hK.flat
 exact checkKey_flat empty d hf 10000 hd w (CEs_len h1).1 h2
def found (es : List MapEntry) (i0 : Nat) : Option Nat → Option (Nat × Value)
 | none => none
 | some i => (es[i]?).map fun e => (i0 + i,e.val)
theorem findAsking_run {kt : TypeId} {agg : Bool} {q : List EK} (hK : KeyT P kt agg q) {k : AVal} {ck : Value} (hk : κ.V E cf k ck) : ∀ {ks : List AVal} {es : List MapEntry} {r : Option Nat} (i0 : Nat) (w : World),κ.VL E cf ks (es.map (·.key)) →
  findK agg q k ks = some r → (Instr.findAsking kt ck es i0).run P w = .ok (found es i0 r) w
 | [],[],r,i0,w,_,h => by simp at h; subst h; simp [Instr.findAsking,found]
 | x :: ks,e :: es,r,i0,w,.cons _ _ _ _ _ hx hks,h => by
  unfold findK at h
  split at h
  ·rename_i hkey
   injection h with h
   subst h
   have := key_equal (P := P) hK hk hx hkey w
   simp [Instr.findAsking,this,Result.andThen,found]
  ·rename_i hkey
   have hne := key_equal (P := P) hK hk hx hkey w
   split at h
   ·rename_i i hi
    injection h with h
    subst h
    have ih := findAsking_run hK hk (i0 + 1) w hks hi
    simp [Instr.findAsking,hne,Result.andThen,ih,found]
    cases es[i]? <;> simp
    omega
   ·rename_i hi
    injection h with h
    subst h
    have ih := findAsking_run hK hk (i0 + 1) w hks hi
    simp [Instr.findAsking,hne,Result.andThen,ih,found]
   ·simp at h
  ·simp at h
theorem sameNow_CE {d : TypeDesc} {q : EK} {a b : Value} {r : Bool} (h : CE q a b r) (hd : (∃ k,d = .int k ∧ q = .i) ∨ (d = .string ∧ q = .s) ∨ (d = .bool ∧ q = .b)) : Instr.sameNow d a b = some r := by
 rcases hd with ⟨k,rfl,rfl⟩ | ⟨rfl,rfl⟩ | ⟨rfl,rfl⟩ <;> cases h <;> simp [Instr.sameNow]
 rename_i a b
 exact beq_toListBytes a b
theorem findNow_run {d : TypeDesc} {kt : TypeId} {q : EK} (hK : KeyT P kt false [q]) (hd : (∃ k,d = .int k ∧ q = .i) ∨ (d = .string ∧ q = .s) ∨ (d = .bool ∧ q = .b)) (hu : P.underlying kt = some d) {k : AVal} {ck : Value} (hk : κ.V E cf k ck) : ∀ {ks : List AVal} {es : List MapEntry} {r : Option Nat} (i0 : Nat),κ.VL E cf ks (es.map (·.key)) →
  findK false [q] k ks = some r → Instr.findNow d ck es i0 = some (found es i0 r)
 | [],[],r,i0,_,h => by simp at h; subst h; simp [Instr.findNow,found]
 | x :: ks,e :: es,r,i0,.cons _ _ _ _ _ hx hks,h => by
  have hcell : ∀ {b : Bool},keyEq false [q] k x = some b → Instr.sameNow d ck e.key = some b := by
   intro b hb
   obtain ⟨h1,h2,h3⟩ := key_formed (P := P) hK hk hx hb
   have f1 : [ck] = ck.cells.toList := by
    unfold formed at h2
    rcases hd with ⟨kk,rfl,_⟩ | ⟨rfl,_⟩ | ⟨rfl,_⟩ <;> simpa [hu] using h2
   have f2 : [e.key] = e.key.cells.toList := by
    unfold formed at h3
    rcases hd with ⟨kk,rfl,_⟩ | ⟨rfl,_⟩ | ⟨rfl,_⟩ <;> simpa [hu] using h3
   rw [← f1,← f2] at h1
   cases h1 with
   | cons _ _ _ r1 _ _ _ rs c1 c2 =>
    cases c2
    rw [Bool.and_true]
    exact sameNow_CE c1 hd
  unfold findK at h
  split at h
  ·rename_i hkey
   injection h with h
   subst h
   simp [Instr.findNow,hcell hkey,found]
  ·rename_i hkey
   split at h
   ·rename_i i hi
    injection h with h
    subst h
    have ih := findNow_run hK hd hu hk (i0 + 1) hks hi
    simp [Instr.findNow,hcell hkey,ih,found]
    cases es[i]? <;> simp
    omega
   ·rename_i hi
    injection h with h
    subst h
    have ih := findNow_run hK hd hu hk (i0 + 1) hks hi
    simp [Instr.findNow,hcell hkey,ih,found]
   ·simp at h
  ·simp at h
theorem findNow_struct {d : TypeDesc} (hd : ∃ fs,d = .struct fs) (ck : Value) (e : MapEntry) (es : List MapEntry) (i0 : Nat) : Instr.findNow d ck (e :: es) i0 = none := by
 obtain ⟨fs,rfl⟩ := hd
 simp [Instr.findNow,Instr.sameNow]
theorem findKey_run {kt : TypeId} {agg : Bool} {q : List EK} (hK : KeyT P kt agg q) {k : AVal} {ck : Value} (hk : κ.V E cf k ck) {ks : List AVal} {es : List MapEntry} {r : Option Nat} (w : World) (hks : κ.VL E cf ks (es.map (·.key)))
  (h : findK agg q k ks = some r) : (Instr.findKey kt ck es).run P w = .ok (found es 0 r) w := by
 obtain ⟨d,hd,hf⟩ := hK.flat
 have hag := hK.agg
 cases d with
 | zero => simp [flatT] at hf
 | succ d =>
  unfold flatT at hf
  split at hf
  ·rename_i k0 hu
   simp at hf; subst hf
   have : agg = false := by rw [← hag]; simp [isStructT,hu]
   subst this
   have := findNow_run (P := P) hK (.inl ⟨k0,rfl,rfl⟩) hu hk 0 hks h
   simp [Instr.findKey,run_underlying hu,Result.andThen,this]
  ·rename_i hu
   simp at hf; subst hf
   have : agg = false := by rw [← hag]; simp [isStructT,hu]
   subst this
   have := findNow_run (P := P) hK (.inr (.inl ⟨rfl,rfl⟩)) hu hk 0 hks h
   simp [Instr.findKey,run_underlying hu,Result.andThen,this]
  ·rename_i hu
   simp at hf; subst hf
   have : agg = false := by rw [← hag]; simp [isStructT,hu]
   subst this
   have := findNow_run (P := P) hK (.inr (.inr ⟨rfl,rfl⟩)) hu hk 0 hks h
   simp [Instr.findKey,run_underlying hu,Result.andThen,this]
  ·rename_i fs hu
   cases es with
   | nil =>
    cases hks
    simp at h; subst h
    simp [Instr.findKey,run_underlying hu,Result.andThen,Instr.findNow,found]
   | cons e es =>
    have h1 := findNow_struct ⟨fs,rfl⟩ ck e es 0
    have h2 := findAsking_run (P := P) hK hk 0 w hks h
    simp [Instr.findKey,run_underlying hu,Result.andThen,h1,h2]
  ·simp at hf
theorem mapOf_ok (hR : κ.R E cf) {x : AVal} {cx : Value} {ks vs : List AVal} (hx : κ.V E cf x cx) (h : mapOf κ.σ x = some (ks,vs)) :
  (cx = .map none ∧ ks = [] ∧ vs = []) ∨ ∃ b es clock,cx = .map (some b) ∧ κ.h[b]? = some (.map es clock) ∧ κ.VL E cf ks (es.toList.map (·.key)) ∧ κ.VL E cf vs (es.toList.map (·.val)) := by
 unfold mapOf at h
 split at h
 ·cases hx; simp at h; exact .inl ⟨rfl,h.1,h.2⟩
 ·simp at h
  obtain ⟨rfl,rfl⟩ := h
  cases hx with
  | fmap _ t _ _ b clock es h1 h2 h3 h4 h5 h6 h7 =>
  exact .inr ⟨b,es,clock,rfl,h2,VRelL.mono (fun _ _ h => ⟨h,rfl⟩) (noIds_le _) h3,VRelL.mono (fun _ _ h => ⟨h,rfl⟩) (noIds_le _) h4⟩
 ·rename_i id
  split at h
  ·rename_i ks' vs' hid
   simp at h
   obtain ⟨rfl,rfl⟩ := h
   cases hx with
   | map _ _ b hp =>
   obtain ⟨⟨_,hpd⟩,rfl⟩ := hp
   obtain ⟨es,clock,hb,h1,h2,h3⟩ := hR.obj id _ hid hpd
   exact .inr ⟨_,es,clock,rfl,hb,h1,h2⟩
  ·simp at h
 ·simp at h
theorem getObj_map {w : World} {b : Nat} {es : Array MapEntry} {clock : Nat} (h : w.heap[b]? = some (.map es clock)) : (getObj b).run P w = .ok (.map es clock) w := by
 simp [getObj,Sem.run,h]
theorem findK_lt {agg : Bool} {q : List EK} {k : AVal} : ∀ {ks : List AVal} {i : Nat},findK agg q k ks = some (some i) → i < ks.length ∧ ∃ e,ks[i]? = some e ∧ keyEq agg q k e = some true
 | [],i,h => by simp at h
 | x :: ks,i,h => by
  unfold findK at h
  split at h
  ·rename_i hk
   simp at h; subst h
   exact ⟨by simp,x,by simp,hk⟩
  ·split at h
   ·rename_i j hj
    simp at h; subst h
    obtain ⟨h1,e,h2,h3⟩ := findK_lt hj
    exact ⟨by simp; omega,e,by simpa using h2,h3⟩
   ·simp at h
   ·simp at h
  ·simp at h
theorem lookup_run {t kt et : TypeId} {agg : Bool} {q : List EK} {z : AVal} (ht : P.underlying t = some (.map kt et)) (hK : KeyT P kt agg q) {i0 : TypeInfo} {zv : Value} (hi : P.info? et = some i0) (hz : i0.zero = some zv) (hzc : chkC z zv = true)
  {x k v : AVal} {cx ck : Value} {ok : Bool} (hx : κ.V E cf x cx) (hk : κ.V E cf k ck) (h : lookupV κ.σ agg q z x k ok = some v) (hR : κ.R E cf) : GV P E cf κ (Instr.lookup t cx ck ok) v κ.σ := by
 unfold lookupV at h
 split at h
 ·rename_i ks vs hm
  have hfk : ∃ r,findK agg q k ks = some r ∧ (keyEq agg q k k).isSome = true ∧ (match r with | some i => (vs[i]?).map fun v => if ok then AVal.tuple [v,.bool true] else v | none => some (if ok then .tuple [z,.bool false] else z)) = some v := by
   unfold findKK at h
   by_cases hc : (keyEq agg q k k).isSome = true
   ·simp only [hc,if_true] at h
    cases hf : findK agg q k ks with
    | none => simp [hf] at h
    | some r => exact ⟨r,rfl,hc,by rw [hf] at h; cases r <;> exact h⟩
   ·rw [if_neg hc] at h; simp at h
  obtain ⟨r,hf,hself,hv⟩ := hfk
  have hzero : ∀ w : World,(zeroValue et).run P w = .ok zv w := fun w => by simp [zeroValue,typeInfo,hi,hz]
  have hzV : κ.V E cf z zv := chkC_ok _ _ hzc
  rcases mapOf_ok hR hx hm with ⟨rfl,rfl,rfl⟩ | ⟨b,es,clock,rfl,hb,hkl,hvl⟩
  ·simp at hf; subst hf
   simp only [Option.some.injEq] at hv
   have hrun := findKey_run (P := P) hK hk (ks := []) (es := []) (r := none)
   refine GV.pure hR (cv := if ok then .tuple #[zv,.bool false] else zv) (fun w _ => ?_) ?_
   ·have h1 := hrun w (.nil _) (by simp)
    simp [Instr.lookup,run_underlying ht,Result.andThen,key_check (P := P) hK hk hself,h1,found,hzero]
   ·subst hv
    cases ok
    ·exact hzV
    ·have := VRel.tuple (cf := cf) (h := κ.h) (S := κ.safe E) κ.ids [z,.bool false] [zv,.bool false] (.cons _ _ _ _ _ hzV (.cons _ _ _ _ _ (.bool _ _) (.nil _)))
     simpa using this
  ·have hrun : ∀ w : World,w.heap = κ.h → (Instr.findKey kt ck es.toList).run P w = .ok (found es.toList 0 r) w := fun w hw => findKey_run (P := P) hK hk w hkl hf
   cases r with
   | none =>
    simp only [Option.some.injEq] at hv
    refine GV.pure hR (cv := if ok then .tuple #[zv,.bool false] else zv) (fun w hw => ?_) ?_
    ·have h1 := hrun w hw
     have h2 := getObj_map (P := P) (w := w) (by rw [hw]; exact hb)
     simp [Instr.lookup,run_underlying ht,Result.andThen,key_check (P := P) hK hk hself,h1,h2,found,hzero]
    ·subst hv
     cases ok
     ·exact hzV
     ·have := VRel.tuple (cf := cf) (h := κ.h) (S := κ.safe E) κ.ids [z,.bool false] [zv,.bool false] (.cons _ _ _ _ _ hzV (.cons _ _ _ _ _ (.bool _ _) (.nil _)))
      simpa using this
   | some i =>
    simp only at hv
    cases hvi : vs[i]? with
    | none => simp [hvi] at hv
    | some y =>
     simp only [hvi,Option.map_some,Option.some.injEq] at hv
     obtain ⟨cy,hcy,hyV⟩ := VL_get hvl i y hvi
     rw [List.getElem?_map] at hcy
     cases hei : es.toList[i]? with
     | none => simp [hei] at hcy
     | some e =>
      simp only [hei,Option.map_some,Option.some.injEq] at hcy
      refine GV.pure hR (cv := if ok then .tuple #[cy,.bool true] else cy) (fun w hw => ?_) ?_
      ·have h1 := hrun w hw
       have h2 := getObj_map (P := P) (w := w) (by rw [hw]; exact hb)
       simp only [found,hei,Option.map_some,hcy] at h1
       simp [Instr.lookup,run_underlying ht,Result.andThen,key_check (P := P) hK hk hself,h1,h2]
      ·subst hv
       cases ok
       ·exact hyV
       ·have := VRel.tuple (cf := cf) (h := κ.h) (S := κ.safe E) κ.ids [y,.bool true] [cy,.bool true] (.cons _ _ _ _ _ hyV (.cons _ _ _ _ _ (.bool _ _) (.nil _)))
        simpa using this
 ·simp at h
theorem lenM_run {t ty kt et : TypeId} (ht : P.underlying t = some (.map kt et)) {x : AVal} {cx : Value} {n : Nat} (hx : κ.V E cf x cx) (h : lenMV κ.σ x = some n) (hR : κ.R E cf) : GV P E cf κ (Builtin.len_ #[t] ty #[cx]) (.int .i64 n) κ.σ := by
 have hm : ∃ ks vs,mapOf κ.σ x = some (ks,vs) ∧ ks.length = n := by
  unfold lenMV at h
  split at h
  ·simp at h; exact ⟨[],[],rfl,h⟩
  ·simp at h; exact ⟨_,_,rfl,h⟩
  ·split at h
   ·rename_i ks vs hid
    simp at h
    exact ⟨ks,vs,by simp [mapOf,hid],h⟩
   ·simp at h
  ·simp at h
 obtain ⟨ks,vs,hm,hn⟩ := hm
 rcases mapOf_ok hR hx hm with ⟨rfl,rfl,rfl⟩ | ⟨b,es,clock,rfl,hb,hkl,hvl⟩
 ·simp at hn; subst hn
  exact GV.pure hR (cv := .int .i64 0) (fun w _ => by simp [Builtin.len_,run_underlying ht,goInt,Result.andThen]) (.int _ _ _)
 ·have hl := VL_len hkl
  simp at hl
  refine GV.pure hR (cv := .int .i64 n) (fun w hw => ?_) (.int _ _ _)
  have h2 := getObj_map (P := P) (w := w) (by rw [hw]; exact hb)
  simp [Builtin.len_,run_underlying ht,goInt,Result.andThen,h2]
  omega
theorem cellEq_true {q : EK} {a b : AVal} (h : cellEq q a b = some true) : a = b := by
 unfold cellEq at h
 split at h
 ·split at h
  ·rename_i hk; subst hk; simp at h; subst h; rfl
  ·simp at h
 ·simp at h; subst h; rfl
 ·simp at h; subst h; rfl
 ·simp at h
theorem cellsEq_true : ∀ {q : List EK} {a b : List AVal},cellsEq q a b = some true → a = b
 | [],[],[],_ => rfl
 | k :: q,a :: azs,b :: bs,h => by
  unfold cellsEq at h
  split at h
  ·rename_i x y hx hy
   simp at h
   obtain ⟨rfl,rfl⟩ := h
   rw [cellEq_true hx,cellsEq_true hy]
  ·simp at h
 | [],[],_ :: _,h => by simp at h
 | [],_ :: _,_,h => by simp at h
 | _ :: _,[],_,h => by simp at h
 | _ :: _,_ :: _,[],h => by simp at h
theorem cells_scalar {a : AVal} (h : isAggK a = false) : a.cells = [a] := by
 cases a <;> first | rfl | (simp at h)
theorem cells_inj {a b : AVal} (h : a.cells = b.cells) (hk : isAggK a = isAggK b) : a = b := by
 cases hb : isAggK b with
 | false =>
  rw [hb] at hk
  rw [cells_scalar hk,cells_scalar hb] at h
  exact (List.cons.inj h).1
 | true =>
  rw [hb] at hk
  cases a <;> simp [isAggK] at hk
  cases b <;> simp [isAggK] at hb
  simp only [AVal.cells] at h
  rw [h]
theorem keyEq_true {agg : Bool} {q : List EK} {a b : AVal} (h : keyEq agg q a b = some true) : a = b := by
 unfold keyEq at h
 split at h
 ·rename_i hc
  exact cells_inj (cellsEq_true h) (hc.1.trans hc.2.symm)
 ·simp at h
theorem sameBits_CE {q : EK} {a b : Value} (h : CE q a b true) (n : Nat) : Instr.sameBits (n + 1) a b = true := by
 generalize hr : true = r at h
 cases h with
 | i k x y => simp only [Instr.sameBits,BEq.rfl,Bool.true_and,← hr]
 | s x y => simp only [Instr.sameBits,beq_toListBytes,← hr]
 | b x y => simp only [Instr.sameBits,← hr]
theorem sameBits_cells : ∀ {q : List EK} {azs bs : List Value} (n : Nat),CEs q azs bs true → azs.length = bs.length ∧ (azs.zip bs).all (fun (x,y) => Instr.sameBits (n + 1) x y) = true
 | [],_,_,n,h => by cases h; simp
 | k :: q,_,_,n,h => by
  generalize hr : true = r at h
  cases h with
  | cons _ a b r1 _ azs bs rs h1 h2 =>
   have h3 : r1 = true ∧ rs = true := by simpa using hr.symm
   obtain ⟨rfl,rfl⟩ := h3
   obtain ⟨h4,h5⟩ := sameBits_cells n h2
   simp only [List.length_cons,h4,List.zip_cons_cons,List.all_cons,sameBits_CE h1 n,Bool.true_and,h5,and_self]
theorem sameBits_key {kt : TypeId} {agg : Bool} {q : List EK} (hK : KeyT P kt agg q) {k : AVal} {ck : Value} (hk : κ.V E cf k ck) {e : AVal} {ce : Value} (he : κ.V E cf e ce) (h : keyEq agg q k e = some true) : Instr.sameBits 10000 ce ck = true := by
 have hke := keyEq_true h
 subst hke
 obtain ⟨h1,h2,h3⟩ := key_formed (P := P) hK he hk h
 have hgoal : Instr.sameBits (9999 + 1) ce ck = true := by
  unfold formed at h2 h3
  split at h2
  ·rename_i hu
   simp only [hu] at h3
   rw [h2,h3]
   obtain ⟨h4,h5⟩ := sameBits_cells 9998 h1
   simp only [Instr.sameBits,List.size_toArray,h4,BEq.rfl,Bool.true_and]
   exact h5
  ·rename_i hu
   split at h3
   ·rename_i hu2; exact absurd hu2 (hu _)
   ·rw [← h2,← h3] at h1
    generalize hr : true = r at h1
    cases h1 with
    | cons _ a b r1 _ azs bs rs g1 g2 =>
     cases g2
     have : r1 = true := by simpa using hr.symm
     subst this
     exact sameBits_CE g1 9999
 exact hgoal
theorem setObj_map {w : World} {b : Nat} {es : Array MapEntry} {clock : Nat} (h : w.heap[b]? = some (.map es clock)) (o : Obj) : (setObj b o).run P w = .ok () { w with heap := w.heap.setIfInBounds b o } := by
 simp [setObj,Sem.run,h]
theorem findKK_some {agg : Bool} {q : List EK} {k : AVal} {ks : List AVal} {r : Option Nat} (h : findKK agg q k ks = some r) : (keyEq agg q k k).isSome = true ∧ findK agg q k ks = some r := by
 unfold findKK at h
 by_cases hc : (keyEq agg q k k).isSome = true
 ·rw [if_pos hc] at h; exact ⟨hc,h⟩
 ·rw [if_neg hc] at h; simp at h
theorem mapset_run {t kt et : TypeId} {agg : Bool} {q : List EK} (ht : P.underlying t = some (.map kt et)) (hK : KeyT P kt agg q)
  {m k v : AVal} {cm ck cv : Value} {σ' : Store} (hm : κ.V E cf m cm) (hk : κ.V E cf k ck) (hv : κ.V E cf v cv) (h : mapsetV κ.σ agg q m k v = some σ') (hR : κ.R E cf) : GU P E cf κ (Instr.mapUpdate t cm ck cv) σ' := by
 unfold mapsetV at h
 split at h
 ·rename_i id
  split at h
  ·rename_i ks vs hid
   cases hm with
   | map _ _ b hp =>
   obtain ⟨⟨_,hpd⟩,rfl⟩ := hp
   obtain ⟨es,clock,hb,hkl,hvl,hbn⟩ := hR.obj id _ hid hpd
   split at h
   ·rename_i i hfk
    injection h with h
    subst h
    obtain ⟨hself,hf⟩ := findKK_some hfk
    obtain ⟨hlt,e,hke,hkeq⟩ := findK_lt hf
    have heq := keyEq_true hkeq
    subst heq
    obtain ⟨cek,hcek,hekV⟩ := VL_get hkl i _ hke
    rw [List.getElem?_map] at hcek
    cases hei : es.toList[i]? with
    | none => simp [hei] at hcek
    | some en =>
     simp only [hei,Option.map_some,Option.some.injEq] at hcek
     subst hcek
     have hsb := sameBits_key (P := P) hK hk hekV hkeq
     have hei' : es[i]? = some en := by simpa using hei
     let es' := es.modify i fun e => { e with key := ck,val := cv }
     have hle : κ.Le (κ.upd id (.map es' clock) (.map ks (vs.set i v))) := K.upd_le hR id _ _ _ hid hpd ⟨⟨_,_,K.upd_σ id _ _ _ hid⟩,rfl⟩
     have hes' : es'.toList = es.toList.set i { en with key := ck,val := cv } := by
      apply List.ext_getElem?
      intro j
      simp only [es',Array.getElem?_toList,Array.getElem?_modify,List.getElem?_set]
      by_cases hj : i = j
      ·subst hj
       have hi := (Array.getElem?_eq_some_iff.1 hei').1
       simp [hi]
       exact congrArg MapEntry.born (Array.getElem?_eq_some_iff.1 hei').2
      ·simp [hj]
     intro w hw
     have hb' : w.heap[κ.loc id]? = some (.map es clock) := by rw [hw]; exact hb
     refine ⟨{ w with heap := w.heap.setIfInBounds (κ.loc id) (.map es' clock) },_,?_,by simp [K.upd,hw],rfl,hle,K.upd_R hR id _ _ _ hid hpd hle ⟨es',clock,K.upd_at hR id _ _ _ hid hpd,?_,?_,hbn.set hei hes'⟩⟩
     ·have h1 := findKey_run (P := P) hK hk w hkl hf
      simp only [found,hei,Option.map_some] at h1
      simp only [Instr.mapUpdate,Sem.run_bind,run_underlying ht,Result.andThen,getObj_map (P := P) hb',key_check (P := P) hK hk hself,h1]
      simp [hei',Instr.keyThatStays,hsb,Result.andThen,setObj_map (P := P) hb']
      rfl
     ·rw [hes',List.map_set]
      have := VL_set (K.VL.le hR.lb hle hkl) i (K.V.le hR.lb hle hk)
      have e1 : ks.set i k = ks := by
       apply List.ext_getElem?
       intro j
       rw [List.getElem?_set]
       by_cases hj : i = j
       ·subst hj
        have hg := (List.getElem?_eq_some_iff.1 hke).2
        simp [hlt,hg]
       ·simp [hj]
      rwa [e1] at this
     ·rw [hes',List.map_set]
      exact VL_set (K.VL.le hR.lb hle hvl) i (K.V.le hR.lb hle hv)
   ·rename_i hfk
    injection h with h
    subst h
    obtain ⟨hself,hf⟩ := findKK_some hfk
    let es' := es.push { key := ck,val := cv,born := clock }
    have hle : κ.Le (κ.upd id (.map es' (clock + 1)) (.map (ks ++ [k]) (vs ++ [v]))) := K.upd_le hR id _ _ _ hid hpd ⟨⟨_,_,K.upd_σ id _ _ _ hid⟩,rfl⟩
    intro w hw
    have hb' : w.heap[κ.loc id]? = some (.map es clock) := by rw [hw]; exact hb
    refine ⟨{ w with heap := w.heap.setIfInBounds (κ.loc id) (.map es' (clock + 1)) },_,?_,by simp [K.upd,hw],rfl,hle,K.upd_R hR id _ _ _ hid hpd hle ⟨es',clock + 1,K.upd_at hR id _ _ _ hid hpd,?_,?_,hbn.push⟩⟩
    ·have h1 := findKey_run (P := P) hK hk w hkl hf
     simp only [found] at h1
     simp [Instr.mapUpdate,run_underlying ht,Result.andThen,getObj_map (P := P) hb',key_check (P := P) hK hk hself,h1,setObj_map (P := P) hb',es']
    ·simp only [es',Array.toList_push,List.map_append,List.map_cons,List.map_nil]
     exact VL_append (K.VL.le hR.lb hle hkl) (VL_one (K.V.le hR.lb hle hk))
    ·simp only [es',Array.toList_push,List.map_append,List.map_cons,List.map_nil]
     exact VL_append (K.VL.le hR.lb hle hvl) (VL_one (K.V.le hR.lb hle hv))
   ·simp at h
  ·simp at h
 ·simp at h
theorem VL_erase {hp : Array Obj} {S : Nat → Nat → Prop} {I : Ids} : ∀ {cs : List AVal} {vs : List Value} (i : Nat),VRelL cf hp S I cs vs → VRelL cf hp S I (cs.eraseIdx i) (vs.eraseIdx i)
 | [],_,i,h => by cases h; simp; exact .nil _
 | c :: cs,_,i,.cons _ _ v _ vs h1 h2 => by
  cases i with
  | zero => exact h2
  | succ i => exact .cons _ _ _ _ _ h1 (VL_erase i h2)
theorem map_erase {α β : Type} (f : α → β) : ∀ (l : List α) (i : Nat),(l.eraseIdx i).map f = (l.map f).eraseIdx i
 | [],i => by simp
 | a :: l,0 => rfl
 | a :: l,i + 1 => by simp [map_erase f l i]
theorem mapdel_run {t t2 ty kt et : TypeId} {agg : Bool} {q : List EK} (ht : P.underlying t = some (.map kt et)) (hK : KeyT P kt agg q)
  {m k : AVal} {cm ck : Value} {σ' : Store} (hm : κ.V E cf m cm) (hk : κ.V E cf k ck) (h : mapdelV κ.σ agg q m k = some σ') (hR : κ.R E cf) : GV P E cf κ (Builtin.delete_ #[t,t2] ty #[cm,ck]) (.tuple []) σ' := by
 have hV : ∀ κ' : K,κ'.V E cf (.tuple []) (.tuple #[]) := fun κ' => .tuple _ [] [] (.nil _)
 unfold mapdelV at h
 split at h
 ·cases hm
  split at h
  ·rename_i r hfk
   injection h with h
   subst h
   obtain ⟨hself,hf⟩ := findKK_some hfk
   exact GV.pure hR (cv := .tuple #[]) (fun w _ => by simp [Builtin.delete_,run_underlying ht,Result.andThen,key_check (P := P) hK hk hself]) (hV _)
  ·simp at h
 ·rename_i id
  split at h
  ·rename_i ks vs hid
   cases hm with
   | map _ _ b hp =>
   obtain ⟨⟨_,hpd⟩,rfl⟩ := hp
   obtain ⟨es,clock,hb,hkl,hvl,hbn⟩ := hR.obj id _ hid hpd
   split at h
   ·rename_i i hfk
    injection h with h
    subst h
    obtain ⟨hself,hf⟩ := findKK_some hfk
    obtain ⟨hlt,e,hke,hkeq⟩ := findK_lt hf
    have hl := VL_len hkl
    simp at hl
    have hi : i < es.size := by omega
    let es' := es.eraseIdxIfInBounds i
    have hes' : es'.toList = es.toList.eraseIdx i := by simp [es',Array.eraseIdxIfInBounds,hi]
    have hle : κ.Le (κ.upd id (.map es' clock) (.map (ks.eraseIdx i) (vs.eraseIdx i))) := K.upd_le hR id _ _ _ hid hpd ⟨⟨_,_,K.upd_σ id _ _ _ hid⟩,rfl⟩
    intro w hw
    have hb' : w.heap[κ.loc id]? = some (.map es clock) := by rw [hw]; exact hb
    refine ⟨.tuple #[],{ w with heap := w.heap.setIfInBounds (κ.loc id) (.map es' clock) },_,?_,by simp [K.upd,hw],rfl,hle,K.upd_R hR id _ _ _ hid hpd hle ⟨es',clock,K.upd_at hR id _ _ _ hid hpd,?_,?_,hbn.erase hes'⟩,hV _⟩
    ·have h1 := findKey_run (P := P) hK hk w hkl hf
     have hei : es.toList[i]? = some es[i] := by simp [hi]
     simp only [found,hei,Option.map_some] at h1
     simp [Builtin.delete_,run_underlying ht,Result.andThen,getObj_map (P := P) hb',key_check (P := P) hK hk hself,h1,setObj_map (P := P) hb',es']
    ·rw [hes',map_erase]
     exact VL_erase i (K.VL.le hR.lb hle hkl)
    ·rw [hes',map_erase]
     exact VL_erase i (K.VL.le hR.lb hle hvl)
   ·rename_i hfk
    injection h with h
    subst h
    obtain ⟨hself,hf⟩ := findKK_some hfk
    intro w hw
    have hb' : w.heap[κ.loc id]? = some (.map es clock) := by rw [hw]; exact hb
    have hsame : w.heap.setIfInBounds (κ.loc id) (.map es clock) = w.heap := by
     have hlt := (Array.getElem?_eq_some_iff.1 hb').1
     have hg := (Array.getElem?_eq_some_iff.1 hb').2
     apply Array.ext_getElem?
     intro j
     by_cases hj : j = κ.loc id
     ·subst hj; simp [hlt,hg]
     ·rw [Array.getElem?_setIfInBounds_ne (by omega)]
    refine ⟨.tuple #[],w,κ,?_,⟨hw,rfl,rfl⟩,rfl,K.Le.refl _,hR,hV _⟩
    have h1 := findKey_run (P := P) hK hk w hkl hf
    simp only [found] at h1
    simp [Builtin.delete_,run_underlying ht,Result.andThen,getObj_map (P := P) hb',key_check (P := P) hK hk hself,h1,setObj_map (P := P) hb',hsame]
   ·simp at h
  ·simp at h
 ·simp at h
end
section
variable {P : Program} {E : Env} {cf : FuncId → FuncId} {κ : K}
theorem appendz_run {t t2 e ty : TypeId} {inf : TypeInfo} {k2 : IntKind} {sz bytes : Nat} {agg : Bool} {z : List AVal} {zc : List Value} (ht : P.underlying t = some (.slice e)) (ht2 : P.underlying t2 = some (.int k2)) (hi : P.info? e = some inf) (hsz : inf.size = sz) (hby : inf.bytes = bytes) (h0 : 0 < sz)
  (hz : zeroT P e = some zc) (hzc : chkCs z zc = true) (hz1 : z.all AVal.one = true) (hzl : z.length = sz) (ha : agg = false → sz = 1) (hb0 : 0 < bytes) (hb2 : bytes ≤ 1048576) {n : Int} {ca : Value} (hla : κ.V E cf (.int .i64 n) ca)
  (hn0 : 0 ≤ n) (hlim : n * bytes ≤ apLim) (hR : κ.R E cf) {v : AVal} {σ' : Store} (h : (if n = 0 then some (AVal.nilslice,κ.σ) else some (.slice sz κ.σ.length 0 0 n.toNat none,κ.σ ++ [.arr sz (List.replicate n.toNat (zel z agg)) 0 0])) = some (v,σ')) :
  GV P E cf κ (Builtin.append_ #[t,t2] ty #[.slice none 0 0,ca]) v σ' := by
 obtain ⟨i',zv,hi',hzv,hzc'⟩ := zeroT_eq hz
 rw [hi] at hi'; cases hi'
 have := V_int hla; subst this
 have hcells := zel_cells hzl hz1 ha
 have hzs : zv.cells.size = sz := by rw [← Array.length_toList,hzc',← hzl]; exact (VL_len (chkCs_ok (cf := cf) (hp := κ.h) (S := κ.safe E) (I := κ.ids) _ _ hzc)).symm
 have hclim : n ≤ 70368744177664 := by
  have h1 : (apLim : Int) = 70368744177664 := rfl
  have : n * 1 ≤ n * bytes := Int.mul_le_mul_of_nonneg_left (by omega) (by omega)
  omega
 have wn : IntKind.i64.wrap n = n := by unfold IntKind.wrap; simp [IntKind.bits,IntKind.signed]; omega
 have h1 : (apLim : Int) = 70368744177664 := rfl
 have hl48 : ¬ (n * (bytes : Int) > 2 ^ 48) := by omega
 have hneg : ¬ (n < 0) := by omega
 split at h
 ·rename_i hn
  subst hn
  injection h with h
  injection h with e1 e2
  subst e1; subst e2
  refine GV.pure hR (cv := .slice none 0 0) (fun w hw => ?_) (.nilslice _)
  simp [Builtin.append_,run_underlying ht,run_underlying ht2,Result.andThen,sz_of hi,hsz,asInt,asIntOf,wn,typeInfo,hi,hby]
 ·rename_i hn
  injection h with h
  injection h with e1 e2
  subst e1; subst e2
  intro w hw
  obtain ⟨m,rfl⟩ := Int.eq_ofNat_of_zero_le hn0
  simp only [Int.toNat_natCast] at *
  have hm0 : 0 < m := by omega
  let q : Question := .appendCap m 0 e
  let w1 : World := { w with drawn := w.drawn + 1 }
  let newCap : Nat := q.cut (w.tape w.drawn q)
  have hnc : m ≤ newCap := by simp only [newCap,q,Question.cut]; omega
  have hch : (choose q).run P w = .ok newCap w1 := by
   simp [choose,Sem.run,Question.forced,q,newCap,w1]
  have hroom : (askRoom (newCap * inf.bytes)).run P w1 = .ok () w1 := by
   unfold askRoom
   split <;> simp [mark,Sem.run]
  have hnext : ¬ (281474976710656 < Builtin.nextslicecap m 0 * inf.bytes) := by
   have h1 := nextcap_le m 0 hm0
   have h2 : Builtin.nextslicecap m 0 * inf.bytes ≤ (2 * m + 512) * bytes := by rw [hby]; exact Nat.mul_le_mul_right _ h1
   have h3 : (2 * m + 512) * bytes = 2 * (m * bytes) + 512 * bytes := by rw [Nat.add_mul,Nat.mul_assoc]
   have h4 : ((m * bytes : Nat) : Int) ≤ 70368744177664 := by push_cast; omega
   omega
  let cells : Array Value := Builtin.zeroCells zv.cells m ++ Builtin.zeroCells zv.cells (newCap - m)
  have hsize : cells.size = newCap * sz := by
   simp only [cells,Array.size_append,Builtin.zeroCells,Array.size_map,Array.size_range,hzs]
   rw [← Nat.add_mul]; congr 1; omega
  have hrun : (Builtin.append_ #[t,t2] ty #[.slice none 0 0,.int .i64 (m : Int)]).run P w = .ok (.slice (some ⟨w.heap.size,0,none⟩) m newCap) { w1 with heap := w1.heap.push (.cells cells e) } := by
   have hch' := hch
   simp only [q] at hch'
   have hm63 : ¬ (IntKind.i64.max < (m : Int)) := by simp only [IntKind.max,IntKind.signed,IntKind.bits]; omega
   have hns : ¬ (m * sz = 0) := by
    intro h
    rcases Nat.mul_eq_zero.1 h with h | h <;> omega
   have hm1 : ¬ (m = 0) := by omega
   have hsz0 : ¬ (sz = 0) := by omega
   have hl48' : ¬ (281474976710656 < (m : Int) * (bytes : Int)) := by omega
   have e1 : (Builtin.firstCells sz 0 (.slice none 0 0)).run P w1 = .ok #[] w1 := by simp [Builtin.firstCells]
   have hq : (Question.appendCap m 0 e).forced = false := rfl
   have hneg' : ¬ ((m : Int) < 0) := by omega
   have hm63' : ¬ (9223372036854775807 < (m : Int)) := by omega
   have hw1 : w.drew = w1 := rfl
   have hcut : (Question.appendCap m 0 e).cut (w.tape w.drawn (Question.appendCap m 0 e)) = newCap := rfl
   rw [hby] at hnext hroom
   simp [Builtin.append_,run_underlying ht,run_underlying ht2,Result.andThen,sz_of hi,hsz,asInt,asIntOf,wn,typeInfo,hi,hby,hl48',hm1,hsz0,hm63',hneg',hq,hnext,hw1,hcut,hroom,e1,zeroValue,hzv,newRow,newObj,Sem.run,hns]
   exact ⟨rfl,rfl⟩
  obtain ⟨k1,k2⟩ := newArr_ok (κ := κ) (E := E) (cf := cf) (es := List.replicate m (zel z agg)) (vs := (Builtin.zeroCells zv.cells m).toList) (rest := Builtin.zeroCells zv.cells (newCap - m)) (e := e) (newCap := newCap) hR h0 (fun x hx => by
   rw [List.eq_of_mem_replicate hx,hcells]; exact ⟨hzl,allOne_of hz1⟩) (by
    rw [flat_replicate,hcells]
    have := zeros_VL (cf := cf) (hp := κ.h) (S := κ.safe E) (I := κ.ids) (z := z) (zc := zv.cells) (sz := sz) (n := m) (by rw [hzc']; exact hzc) hzl h0
    simp only [Builtin.zeroCells,hzs]
    simp only [hzs] at this
    exact this) (by simpa using hnc) (by simpa [cells] using hsize)
  refine ⟨_,_,κ.new (.cells ((Builtin.zeroCells zv.cells m).toList.toArray ++ Builtin.zeroCells zv.cells (newCap - m)) e) (.arr sz (List.replicate m (zel z agg)) 0 0),hrun,by simp [K.new,hw,w1,cells],by simp [K.new],K.new_le hR _ _,k1,?_⟩
  rw [hw]
  simpa using k2
end
section
variable {P : Program} {E : Env} {cf : FuncId → FuncId} {κ : K}
theorem litA_run {t e : TypeId} {sz n : Nat} {agg : Bool} {z : List AVal} {zc : List Value} {es' : List AVal} (ht : P.underlying t = some (.slice e)) (hn : sizeT P e = some sz) (h0 : 0 < sz) (hz : zeroT P e = some zc) (hzc : chkCs z zc = true)
  (hz1 : z.all AVal.one = true) (hzl : z.length = sz) (ha : agg = false → sz = 1) (hlim : n * sz ≤ 2 ^ 24)
  {r : List (Nat × AVal)} {q : Array (Nat × Value)} (hp : PartsE κ E cf r q.toList) (h : fillL sz agg (List.replicate n (zel z agg)) r = some es') (hR : κ.R E cf) :
  GV P E cf κ (Instr.buildSlice t n q) (.slice sz κ.σ.length 0 0 n (some n)) (κ.σ ++ [.arr sz es' 0 0]) := by
 obtain ⟨i,hi,hsz⟩ := sizeT_eq hn
 obtain ⟨i',zv,hi',hzv,hzc'⟩ := zeroT_eq hz
 rw [hi] at hi'; cases hi'
 have hcells := zel_cells hzl hz1 ha
 have hl : κ.VL E cf ((List.replicate n (zel z agg)).flatMap AVal.cells) ((Array.range (n * sz)).map (zv.cells[· % zv.cells.size]!)).toList := by
  rw [flat_replicate,hcells]
  exact zeros_VL (by rw [hzc']; exact hzc) hzl h0
 have hel : AVal.elemsOk sz (List.replicate n (zel z agg)) := by
  intro x hx
  rw [List.eq_of_mem_replicate hx,hcells]
  exact ⟨hzl,allOne_of hz1⟩
 obtain ⟨cells',g1,g2,g3,g5⟩ := fillL_ok hp hl hel h
 simp only [List.length_replicate] at g5
 have hat : (κ.new (.cells cells' e) (.arr sz es' 0 0)).h[(κ.new (.cells cells' e) (.arr sz es' 0 0)).loc κ.σ.length]? = some (.cells cells' e (0,0)) := by simp [K.new]
 have hcz : cells'.size = n * sz := by
  have := VL_len g2
  rw [flat_length g3,g5,Array.length_toList] at this
  exact this.symm
 intro w hw
 refine ⟨.slice (some ⟨w.heap.size,0,none⟩) n n,{ w with heap := w.heap.push (.cells cells' e) },κ.new (.cells cells' e) (.arr sz es' 0 0),?_,by simp [K.new,hw],by simp [K.new],K.new_le hR _ _,K.new_R hR _ _ ?_,?_⟩
 ·simp only [Instr.buildSlice,Sem.run_bind,run_underlying ht,Result.andThen,sz_of hi,hsz]
  rw [Sem.run_ite,if_neg (by omega)]
  by_cases hns : n * sz = 0
  ·have hn0 : n = 0 := by
    rcases Nat.mul_eq_zero.1 hns with h | h
    ·exact h
    ·omega
   subst hn0
   simp only [Nat.zero_mul,if_true,Sem.run_pure,Sem.run_bind,Result.andThen]
   have : (Array.map (fun x => (#[] : Array Value)[x % (#[] : Array Value).size]!) (Array.range 0)) = (Array.range (0 * sz)).map (zv.cells[· % zv.cells.size]!) := by simp
   rw [this,g1]
   simp [newRow,newObj,Sem.run,Result.andThen]
  ·rw [if_neg hns]
   simp only [zeroValue,typeInfo,Sem.run_bind,run_program,Result.andThen,hi,Sem.run_pure,hzv]
   simp only [g1]
   simp [newRow,newObj,Sem.run,Result.andThen]
 ·exact ⟨Nat.le_refl _,h0,g3,cells',e,cells'.toList,[],hat,by simp,K.VL.le hR.lb (K.new_le hR _ _) g2⟩
 ·have hloc : (κ.new (.cells cells' e) (.arr sz es' 0 0)).loc κ.σ.length = w.heap.size := by simp [K.new,hw]
  refine .slice _ sz κ.σ.length 0 0 n _ w.heap.size 0 n ⟨⟨Nat.le_refl _,hR.fresh⟩,?_,h0,es',0,0,by simp [K.new,List.getElem?_append_right],Nat.le_refl _,fun _ => ⟨?_,.inl ⟨hloc.symm,.inl (by simp)⟩,?_⟩⟩
  ·intro cc hcc
   injection hcc
  ·simp only [Option.getD_some]; omega
  ·intro _ hcn
   cases hcn
end
end Go.Proofs.YtbbekbjcmnopjaaGreatDoor.Am
