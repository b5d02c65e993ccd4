/-
  THE ABSTRACT MACHINE, part 2: operands, operations, code, calls.
-/
import Derived.Test.YtmocplkpnickgaaAmBase
namespace Go.Proofs.Ytmocplkpnickgaa.Am
open Go
set_option linter.unusedVariables false
set_option linter.unusedSimpArgs false

structure Cfg where
  ir : FuncId → Option AFunc
  conc : FuncId → FuncId
  glob : Nat → Option (List AVal)

abbrev CallF := Nat → FuncId → List AVal → Store → Option (AVal × Store)

def frzFuel : Nat := 16

@[simp] def ev (cfg : Cfg) (fr : List AVal) : Opnd → AVal
  | .tmp t => fr.getD t .undef
  | .const v => v
  | .glob g => match cfg.glob g with
    | some cs => .fptr 0 cs 0
    | none => .undef

@[simp] def oev (cfg : Cfg) (fr : List AVal) : Option Opnd → Option AVal
  | none => none
  | some x => some (ev cfg fr x)

/-- a call, by its mode -/
@[simp] def doCall (callF : CallF) (d : Nat) (m : Mode) (f : FuncId) (args : List AVal) (σ : Store) : Option (AVal × Store) :=
  match m with
  | .shared => callF d f args σ
  | .iso =>
    match mapO (frz σ (d + 1) frzFuel) args with
    | some args' =>
      match callF (d + 1) f args' [] with
      | some (v, σ1) =>
        match frz σ1 0 frzFuel v with
        | some v' => if v'.tag ≤ d then some (v', σ) else none
        | none => none
      | none => none
    | none => none

@[simp] def withσ (σ : Store) : Option AVal → Option (AVal × Store)
  | some v => some (v, σ)
  | none => none

@[simp] def unitσ : Option Store → Option (AVal × Store)
  | some σ => some (.tuple [], σ)
  | none => none

@[simp] def opStep (cfg : Cfg) (callF : CallF) (d : Nat) (fr : List AVal) (σ : Store) : AOp → Option (AVal × Store)
  | .move x => some (ev cfg fr x, σ)
  | .pick c a b => match ev cfg fr c with
    | .bool t => some (if t then ev cfg fr a else ev cfg fr b, σ)
    | _ => none
  | .alloc z => some (.ptr σ.length 0, σ ++ [.cells z])
  | .box x => if (ev cfg fr x).cells.all AVal.one then some (.ptr σ.length 0, σ ++ [.cells (ev cfg fr x).cells]) else none
  | .build z parts => match fillA z (parts.map fun p => (p.1, p.2.1, ev cfg fr p.2.2)) with
    | some cs => some (.agg cs, σ)
    | none => none
  | .lit sz z agg n parts => match fillE sz agg (List.replicate n (zel z agg)) (parts.map fun p => (p.1, ev cfg fr p.2)) with
    | some es => some (.fslice (AVal.tagL es) true sz es, σ)
    | none => none
  | .litA sz z agg n parts => match fillL sz agg (List.replicate n (zel z agg)) (parts.map fun p => (p.1, ev cfg fr p.2)) with
    | some es => some (.slice sz σ.length 0 0 n (some n), σ ++ [.arr sz es 0 0])
    | none => none
  | .load n agg a => withσ σ (loadV σ n agg (ev cfg fr a))
  | .store n a v => unitσ (storeV σ n (ev cfg fr a) (ev cfg fr v))
  | .nilCheck x => match ev cfg fr x with
    | .ptr id off => some (.ptr id off, σ)
    | .eptr id ep i off => some (.eptr id ep i off, σ)
    | .fptr t cs off => some (.fptr t cs off, σ)
    | .func f a b => some (.func f a b, σ)
    | _ => none
  | .iop op x y => withσ σ (iopV op (ev cfg fr x) (ev cfg fr y))
  | .sop op x y => withσ σ (sopV op (ev cfg fr x) (ev cfg fr y))
  | .bop neg x y => match ev cfg fr x, ev cfg fr y with
    | .bool a, .bool b => some (.bool (if neg then !(a == b) else a == b), σ)
    | _, _ => none
  | .eqs neg ks x y => match eqsV ks (ev cfg fr x) (ev cfg fr y) with
    | some b => some (.bool (if neg then !b else b), σ)
    | none => none
  | .eqnil neg k x => match isNil k (ev cfg fr x) with
    | some b => some (.bool (if neg then !b else b), σ)
    | none => none
  | .not x => match ev cfg fr x with
    | .bool b => some (.bool !b, σ)
    | _ => none
  | .neg x => match ev cfg fr x with
    | .int k n => some (.int k (k.wrap (0 - n)), σ)
    | _ => none
  | .convI k x => match ev cfg fr x with
    | .int _ n => some (.int k (k.wrap n), σ)
    | _ => none
  | .sliceOp sz x lo hi mx => withσ σ (sliceV sz (ev cfg fr x) (oev cfg fr lo) (oev cfg fr hi) (oev cfg fr mx))
  | .substr x lo hi => withσ σ (substrV (ev cfg fr x) (oev cfg fr lo) (oev cfg fr hi))
  | .faddr off x => withσ σ (faddrV off (ev cfg fr x))
  | .field off n agg x => match ev cfg fr x with
    | .agg cs => withσ σ (ld cs off n agg)
    | _ => none
  | .iaddr sz x i => withσ σ (iaddrV sz (ev cfg fr x) (ev cfg fr i))
  | .aaddr len sz x i => withσ σ (aaddrV len sz (ev cfg fr x) (ev cfg fr i))
  | .strIdx x i => withσ σ (strIdxV (ev cfg fr x) (ev cfg fr i))
  | .arrIdx len sz agg x i => withσ σ (arrIdxV len sz agg (ev cfg fr x) (ev cfg fr i))
  | .lenS x => match lenSV (ev cfg fr x) with
    | some n => some (.int .i64 n, σ)
    | none => none
  | .lenStr x => match ev cfg fr x with
    | .str s => some (.int .i64 s.length, σ)
    | _ => none
  | .lenM x => match lenMV σ (ev cfg fr x) with
    | some n => some (.int .i64 n, σ)
    | none => none
  | .lenA n => some (.int .i64 n, σ)
  | .capS x => match capSV (ev cfg fr x) with
    | some n => some (.int .i64 n, σ)
    | none => none
  | .minI xs => match xs with
    | x :: r => withσ σ (foldV minV (ev cfg fr x) (r.map (ev cfg fr)))
    | [] => none
  | .maxI xs => match xs with
    | x :: r => withσ σ (foldV maxV (ev cfg fr x) (r.map (ev cfg fr)))
    | [] => none
  | .append sz bytes x y => match elems sz σ (ev cfg fr y) with
    | some ys => appendV σ sz bytes (ev cfg fr x) ys
    | none => none
  | .appendz sz bytes z agg x y => match ev cfg fr x, ev cfg fr y with
    | .nilslice, .int .i64 n => if 0 ≤ n ∧ n * bytes ≤ apLim then
        (if n = 0 then some (.nilslice, σ) else some (.slice sz σ.length 0 0 n.toNat none, σ ++ [.arr sz (List.replicate n.toNat (zel z agg)) 0 0])) else none
    | _, _ => none
  | .mkslice sz bytes z agg len cap => match ev cfg fr len, ev cfg fr cap with
    | .int .i64 n, .int .i64 c => if 0 ≤ n ∧ n ≤ c ∧ c * bytes ≤ apLim then
        some (.slice sz σ.length 0 0 n.toNat (if n = c then some n.toNat else none), σ ++ [.arr sz (List.replicate n.toNat (zel z agg)) 0 0]) else none
    | _, _ => none
  | .extract x i => match ev cfg fr x with
    | .tuple vs => withσ σ (vs[i]?)
    | _ => none
  | .mkfunc f first caps => some (.func f (first.map (ev cfg fr)) (caps.map (ev cfg fr)), σ)
  | .mkmap => some (.map σ.length, σ ++ [.map [] []])
  | .lookup g q z x k ok => withσ σ (lookupV σ g q z (ev cfg fr x) (ev cfg fr k) ok)
  | .mapset g q m k v => unitσ (mapsetV σ g q (ev cfg fr m) (ev cfg fr k) (ev cfg fr v))
  | .mapdel g q m k => unitσ (mapdelV σ g q (ev cfg fr m) (ev cfg fr k))
  | .mkiface t x => some (.iface t (ev cfg fr x), σ)
  | .call m f args => doCall callF d m f (args.map (ev cfg fr)) σ
  | .callv m f args => match ev cfg fr f with
    | .func g first caps => doCall callF d m g (first ++ args.map (ev cfg fr) ++ caps) σ
    | _ => none
  | .fail => none

abbrev FS := List AVal × Store

@[simp] def put (fr : List AVal) : Option Nat → AVal → List AVal
  | some t, v => fr.set t v
  | none, _ => fr

/-- is the operation wanted? none: it is not known -/
@[simp] def wantedA (fr : List AVal) : Option (Nat × Bool) → Option Bool
  | none => some true
  | some (t, want) => match fr.getD t .undef with
    | .bool b => some (b == want)
    | .tuple [] => some false
    | _ => none

@[simp] def stepO (cfg : Cfg) (callF : CallF) (d : Nat) (o : AOper) (s : FS) : Option FS :=
  match wantedA s.1 o.guard with
  | some true => match opStep cfg callF d s.1 s.2 o.op with
    | some (v, σ) => some (put s.1 o.dst v, σ)
    | none => none
  | some false => some (put s.1 o.dst (.tuple []), s.2)
  | none => none

@[simp] def stepOs (cfg : Cfg) (callF : CallF) (d : Nat) : List AOper → FS → Option FS
  | [], s => some s
  | o :: os, s => match stepO cfg callF d o s with
    | some s' => stepOs cfg callF d os s'
    | none => none

/-! ### are two values the same -/
mutual
def AVal.beq : AVal → AVal → Bool
  | .undef, .undef => true
  | .bool a, .bool b => a == b
  | .int k a, .int k' b => k == k' && a == b
  | .str a, .str b => a == b
  | .nilptr, .nilptr => true
  | .ptr a b, .ptr a' b' => a == a' && b == b'
  | .eptr a b c d, .eptr a' b' c' d' => a == a' && b == b' && c == c' && d == d'
  | .fptr t cs o, .fptr t' cs' o' => t == t' && o == o' && AVal.beqL cs cs'
  | .nilslice, .nilslice => true
  | .slice a b c d e f, .slice a' b' c' d' e' f' => a == a' && b == b' && c == c' && d == d' && e == e' && f == f'
  | .fslice t b sz es, .fslice t' b' sz' es' => t == t' && b == b' && sz == sz' && AVal.beqL es es'
  | .nilmap, .nilmap => true
  | .map a, .map b => a == b
  | .fmap t a b, .fmap t' a' b' => t == t' && AVal.beqL a a' && AVal.beqL b b'
  | .func f a b, .func f' a' b' => f == f' && AVal.beqL a a' && AVal.beqL b b'
  | .nilfunc, .nilfunc => true
  | .nilIface, .nilIface => true
  | .iface t v, .iface t' v' => t == t' && AVal.beq v v'
  | .agg a, .agg b => AVal.beqL a b
  | .tuple a, .tuple b => AVal.beqL a b
  | _, _ => false
def AVal.beqL : List AVal → List AVal → Bool
  | [], [] => true
  | a :: as, b :: bs => AVal.beq a b && AVal.beqL as bs
  | _, _ => false
end

mutual
theorem AVal.beq_eq : ∀ (a b : AVal), AVal.beq a b = true → a = b := by
  intro a b h
  cases a <;> cases b <;> simp only [AVal.beq, Bool.and_eq_true, beq_iff_eq, Bool.false_eq_true] at h <;> first
    | rfl
    | (subst h; rfl)
    | (obtain ⟨rfl, rfl⟩ := h; rfl)
    | (obtain ⟨⟨⟨rfl, rfl⟩, rfl⟩, rfl⟩ := h; rfl)
    | (obtain ⟨⟨⟨⟨⟨rfl, rfl⟩, rfl⟩, rfl⟩, rfl⟩, rfl⟩ := h; rfl)
    | (obtain ⟨⟨rfl, rfl⟩, h⟩ := h; rw [AVal.beqL_eq _ _ h])
    | (obtain ⟨⟨⟨rfl, rfl⟩, rfl⟩, h⟩ := h; rw [AVal.beqL_eq _ _ h])
    | (obtain ⟨⟨rfl, h1⟩, h2⟩ := h; rw [AVal.beqL_eq _ _ h1, AVal.beqL_eq _ _ h2])
    | (obtain ⟨rfl, h⟩ := h; rw [AVal.beq_eq _ _ h])
    | (rw [AVal.beqL_eq _ _ h])
theorem AVal.beqL_eq : ∀ (a b : List AVal), AVal.beqL a b = true → a = b
  | [], [], _ => rfl
  | a :: as, b :: bs, h => by
    simp only [AVal.beqL, Bool.and_eq_true] at h
    rw [AVal.beq_eq _ _ h.1, AVal.beqL_eq _ _ h.2]
end

/-- the states that a run of operations goes through -/
@[simp] def traceOs (cfg : Cfg) (callF : CallF) (d : Nat) : List AOper → FS → List FS
  | [], s => [s]
  | o :: os, s => s :: match stepO cfg callF d o s with
    | some s' => traceOs cfg callF d os s'
    | none => []

/-- operation i, that reads the store, gives the same before and after operation k -/
@[simp] def steady (cfg : Cfg) (callF : CallF) (d : Nat) (ops : List AOper) (tr : List FS) (p : Nat × Nat) : Bool :=
  match ops[p.1]?, tr[p.1]?, tr[if p.2 < p.1 then p.2 else p.2 + 1]? with
  | some o, some s, some s' => match wantedA s.1 o.guard with
    | some true => match opStep cfg callF d s.1 s.2 o.op, opStep cfg callF d s.1 s'.2 o.op with
      | some (v, _), some (v', _) => AVal.beq v v'
      | _, _ => false
    | _ => true
  | _, _, _ => false

inductive AExit where
  | normal
  | exit (id : Nat)
  | ret
  deriving Inhabited

/-- what is not named is forgotten -/
@[simp] def cleanFrom (live : List Nat) : Nat → List AVal → List AVal
  | _, [] => []
  | i, v :: vs => (if live.contains i then v else .undef) :: cleanFrom live (i + 1) vs

@[simp] def iter (live : List Nat) (body : FS → Option (AExit × FS)) : Nat → FS → Option (AExit × FS)
  | 0, _ => none
  | n + 1, s => match body (cleanFrom live 0 s.1, s.2) with
    | some (.normal, s') => iter live body n s'
    | r => r

@[simp] def evC (cfg : Cfg) (callF : CallF) (d n : Nat) : ACode → FS → Option (AExit × FS)
  | .skip, s => some (.normal, s)
  | .region ops, s => match stepOs cfg callF d ops s with
    | some s' => some (.normal, s')
    | none => none
  | .drawn ops pairs, s => match stepOs cfg callF d ops s with
    | some s' => if pairs.all (steady cfg callF d ops (traceOs cfg callF d ops s)) then some (.normal, s') else none
    | none => none
  | .seq a b, s => match evC cfg callF d n a s with
    | some (.normal, s') => evC cfg callF d n b s'
    | r => r
  | .cond c a b, s => match ev cfg s.1 c with
    | .bool true => evC cfg callF d n a s
    | .bool false => evC cfg callF d n b s
    | _ => none
  | .block id c, s => match evC cfg callF d n c s with
    | some (.exit id', s') => some (if id' = id then .normal else .exit id', s')
    | r => r
  | .loop live c, s => iter live (evC cfg callF d n c) n s
  | .exit id, s => some (.exit id, s)
  | .ret, s => some (.ret, s)
  | .stop, _ => none

@[simp] def resOf (s : FS) : ARes → Option AVal
  | .tmp t => some (s.1.getD t .undef)
  | .cell t n agg => loadV s.2 n agg (s.1.getD t .undef)

@[simp] def resultsA (rs : List ARes) (s : FS) : Option AVal :=
  match mapO (resOf s) rs with
  | some [v] => some v
  | some vs => some (.tuple vs)
  | none => none

def run (cfg : Cfg) : Nat → CallF
  | 0, _, _, _, _ => none
  | n + 1, d, f, args, σ =>
    match cfg.ir f with
    | none => none
    | some fn =>
      match evC cfg (run cfg n) d n fn.body (args ++ List.replicate (fn.ntmps - args.length) (.tuple []), σ) with
      | some (.normal, s) | some (.ret, s) => match resultsA fn.results s with
        | some v => some (v, s.2)
        | none => none
      | _ => none

end Go.Proofs.Ytmocplkpnickgaa.Am
