/-
  THE ABSTRACT MACHINE, part 19: every operation, but calls.
-/
import Derived.Test.YtmocplkpnickgaaAmAppz
import Derived.Test.YtmocplkpnickgaaAmMem4
namespace Go.Proofs.Ytmocplkpnickgaa.Am
open Go
set_option linter.unusedVariables false
set_option linter.unusedSimpArgs false

def placesT (P : Program) (fs : List Field) : Option (List (Nat × Nat)) :=
  match fs with
  | [] => some []
  | f :: r => match sizeT P f.type, placesT P r with
    | some n, some l => some ((f.offset, n) :: l)
    | _, _ => none

theorem places_list {P : Program} (w : World) : ∀ {fs : List Field} {l : List (Nat × Nat)}, placesT P fs = some l → (fs.mapM fun f => do pure (f.offset, ← sizeOf f.type) : Sem (List (Nat × Nat))).run P w = .ok l w
  | [], l, h => by simp [placesT] at h; subst h; simp
  | f :: r, l, h => by
    unfold placesT at h
    split at h
    · rename_i n l' h1 h2
      injection h with h
      subst h
      obtain ⟨i, hi, hsz⟩ := sizeT_eq h1
      have ih := places_list w h2
      simp only [bind_pure_comp] at ih
      simp [List.mapM_cons, sz_of hi, hsz, Result.andThen, ih]
    · simp at h

theorem places_run {P : Program} {fs : Array Field} {l : List (Nat × Nat)} (h : placesT P fs.toList = some l) (w : World) : (fs.mapM fun f => do pure (f.offset, ← sizeOf f.type) : Sem (Array (Nat × Nat))).run P w = .ok l.toArray w := by
  have := places_list (P := P) w h
  rw [Array.mapM_eq_mapM_toList]
  simp only [bind_pure_comp] at this ⊢
  simp [this, Result.andThen]

def structFs (P : Program) (t : TypeId) : Option (List Field) := match P.underlying t with | some (.struct fs) => some fs.toList | _ => none

theorem structFs_eq {P : Program} {t : TypeId} {fs : List Field} (h : structFs P t = some fs) : P.underlying t = some (.struct fs.toArray) := by
  unfold structFs at h; split at h <;> simp_all; subst h; simp

/-- parts of a literal -/
def chkParts (cfg : Cfg) (pl : List (Nat × Nat)) : List (Nat × Nat × Opnd) → List (Nat × Operand) → Bool
  | [], [] => true
  | (off, n, x) :: r, (i, y) :: q => pl[i]? == some (off, n) && chkX cfg x y && chkParts cfg pl r q
  | _, _ => false
def chkPartsA (cfg : Cfg) (sz : Nat) : List (Nat × Nat × Opnd) → List (Nat × Operand) → Bool
  | [], [] => true
  | (off, n, x) :: r, (i, y) :: q => off == i * sz && n == sz && chkX cfg x y && chkPartsA cfg sz r q
  | _, _ => false
def chkPartsE (cfg : Cfg) : List (Nat × Opnd) → List (Nat × Operand) → Bool
  | [], [] => true
  | (i, x) :: r, (j, y) :: q => i == j && chkX cfg x y && chkPartsE cfg r q
  | _, _ => false

def eqOp : Bool → BinOp → Bool
  | true, .neq => true
  | false, .eql => true
  | _, _ => false

theorem eqOp_eq {neg : Bool} {op : BinOp} (h : eqOp neg op = true) : op = (if neg then .neq else .eql) := by
  cases neg <;> cases op <;> simp_all [eqOp]

def constOf : Operand → Option Value
  | .const v => some v
  | _ => none

/-- elements that can be made anew -/
def chkZ (P : Program) (e : TypeId) (sz : Nat) (z : List AVal) (agg : Bool) : Bool :=
  (match zeroT P e with | some zc => chkCs z zc | none => false) && z.all AVal.one && z.length == sz && (agg || sz == 1) && sizeT P e == some sz && decide (0 < sz)

theorem chkZ_ok {P : Program} {e : TypeId} {sz : Nat} {z : List AVal} {agg : Bool} (h : chkZ P e sz z agg = true) :
    ∃ zc, zeroT P e = some zc ∧ chkCs z zc = true ∧ z.all AVal.one = true ∧ z.length = sz ∧ (agg = false → sz = 1) ∧ sizeT P e = some sz ∧ 0 < sz := by
  unfold chkZ at h
  simp only [Bool.and_eq_true] at h
  obtain ⟨⟨⟨⟨⟨h1, h2⟩, h3⟩, h4⟩, h5⟩, h6⟩ := h
  cases hz : zeroT P e with
  | none => simp [hz] at h1
  | some zc =>
    simp only [hz] at h1
    refine ⟨zc, rfl, h1, h2, by simpa using h3, fun ha => ?_, by simpa using h5, by simpa using h6⟩
    subst ha
    simpa using h4

def chkMapKey (P : Program) (kt : TypeId) (agg : Bool) (q : List EK) : Bool := flatT P 40 kt == some q && isStructT P kt == agg

theorem chkMapKey_ok {P : Program} {kt : TypeId} {agg : Bool} {q : List EK} (h : chkMapKey P kt agg q = true) : KeyT P kt agg q := by
  unfold chkMapKey at h
  simp only [Bool.and_eq_true, beq_iff_eq] at h
  exact ⟨⟨40, by decide, h.1⟩, h.2⟩

/-- a builtin's operands -/
def biN (b : Builtin) (o : Op) : Option (List Operand × List TypeId) :=
  match o with
  | .call c => (match c.callee with
    | .builtin b' => if b = b' then some (c.args.toList, c.argTypes.toList) else none
    | _ => none)
  | _ => none
def bi1 (b : Builtin) (o : Op) : Option (Operand × TypeId) :=
  match biN b o with
  | some ([y], [t]) => some (y, t)
  | _ => none
def bi2 (b : Builtin) (o : Op) : Option (Operand × Operand × TypeId × TypeId) :=
  match biN b o with
  | some ([x, y], [t, u]) => some (x, y, t, u)
  | _ => none

theorem biN_eq {b : Builtin} {o : Op} {l : List Operand} {ts : List TypeId} (h : biN b o = some (l, ts)) : ∃ c, o = .call c ∧ c.callee = .builtin b ∧ c.args = l.toArray ∧ c.argTypes = ts.toArray := by
  unfold biN at h
  split at h
  · rename_i c
    split at h
    · rename_i b' hb
      split at h
      · rename_i he
        subst he
        simp at h
        exact ⟨c, rfl, hb, by rw [← h.1], by rw [← h.2]⟩
      · simp at h
    · simp at h
  · simp at h
theorem bi1_eq {b : Builtin} {o : Op} {y : Operand} {t : TypeId} (h : bi1 b o = some (y, t)) : ∃ c, o = .call c ∧ c.callee = .builtin b ∧ c.args = #[y] ∧ c.argTypes = #[t] := by
  unfold bi1 at h
  split at h
  · rename_i h1
    simp at h
    obtain ⟨rfl, rfl⟩ := h
    exact biN_eq h1
  · simp at h
theorem bi2_eq {b : Builtin} {o : Op} {x y : Operand} {t u : TypeId} (h : bi2 b o = some (x, y, t, u)) : ∃ c, o = .call c ∧ c.callee = .builtin b ∧ c.args = #[x, y] ∧ c.argTypes = #[t, u] := by
  unfold bi2 at h
  split at h
  · rename_i h1
    simp at h
    obtain ⟨rfl, rfl, rfl, rfl⟩ := h
    exact biN_eq h1
  · simp at h

/-- does an operation stand for the model's? -/
def chkOp (cfg : Cfg) (P : Program) (ao : AOp) (o : Op) : Bool :=
  match ao with
  | .move x => (match o with
    | .move y => chkX cfg x y
    | .assign y => chkX cfg x y
    | _ => false)
  | .pick c a b => (match o with
    | .pick c' a' b' => chkX cfg c c' && chkX cfg a a' && chkX cfg b b'
    | _ => false)
  | .alloc z => (match o with
    | .alloc t => (match zeroT P t with | some zc => chkCs z zc | none => false) && z.all AVal.one
    | _ => false)
  | .box x => (match o with
    | .box _ y => chkX cfg x y
    | _ => false)
  | .build z parts => (match o with
    | .build t ps => (match zeroT P t with | some zc => chkCs z zc | none => false) && z.all AVal.one &&
          ((match structFs P t with | some fs => (match placesT P fs with | some pl => chkParts cfg pl parts ps.toList | none => false) | none => false) ||
           (match arrayE P t with | some (_, e) => (match sizeT P e with | some sz => chkPartsA cfg sz parts ps.toList | none => false) | none => false))
    | _ => false)
  | .lit sz z agg n parts => (match o with
    | .buildSlice t len ps => (match sliceE P t with | some e => chkZ P e sz z agg && (zel z agg).pure | none => false) && n == len && decide (n * sz ≤ 2 ^ 24) && chkPartsE cfg parts ps.toList
    | _ => false)
  | .litA sz z agg n parts => (match o with
    | .buildSlice t len ps => (match sliceE P t with | some e => chkZ P e sz z agg | none => false) && n == len && decide (n * sz ≤ 2 ^ 24) && chkPartsE cfg parts ps.toList
    | _ => false)
  | .load n agg a => (match o with
    | .load t a' => sizeT P t == some n && aggT P t == some agg && chkX cfg a a'
    | _ => false)
  | .store n a v => (match o with
    | .store t a' v' => sizeT P t == some n && chkX cfg a a' && chkX cfg v v'
    | _ => false)
  | .nilCheck x => (match o with
    | .nilCheck y => chkX cfg x y
    | _ => false)
  | .iop op x y => (match o with
    | .binOp op' _ x' y' _ => decide (op = op') && chkX cfg x x' && chkX cfg y y'
    | _ => false)
  | .sop op x y => (match o with
    | .binOp op' _ x' y' _ => decide (op = op') && chkX cfg x x' && chkX cfg y y'
    | _ => false)
  | .bop neg x y => (match o with
    | .binOp op t x' y' _ => eqOp neg op && isBoolT P t && chkX cfg x x' && chkX cfg y y'
    | _ => false)
  | .eqs neg ks x y => (match o with
    | .binOp op t x' y' _ => eqOp neg op && flatT P 40 t == some ks && isStructT P t && !(P.eqGuardType P.depth t) && chkX cfg x x' && chkX cfg y y'
    | _ => false)
  | .eqnil neg k x => (match o with
    | .binOp op t x' y' _ => eqOp neg op &&
          ((match constOf y' with | some v => nilMatch P t k v && chkX cfg x x' | none => false) || (match constOf x' with | some v => nilMatch P t k v && chkX cfg x y' | none => false))
    | _ => false)
  | .not x => (match o with
    | .unOp .not _ y => chkX cfg x y
    | _ => false)
  | .neg x => (match o with
    | .unOp .neg _ y => chkX cfg x y
    | _ => false)
  | .convI k x => (match o with
    | .convert src dst y => (intT P src).isSome && intT P dst == some k && chkX cfg x y
    | _ => false)
  | .sliceOp sz x lo hi mx => (match o with
    | .slice t x' lo' hi' mx' => (match sliceE P t with | some e => sizeT P e == some sz | none => false) && chkX cfg x x' && chkXO cfg lo lo' && chkXO cfg hi hi' && chkXO cfg mx mx' && (mx.isNone || hi.isSome)
    | _ => false)
  | .substr x lo hi => (match o with
    | .slice t x' lo' hi' none => isStrT P t && chkX cfg x x' && chkXO cfg lo lo' && chkXO cfg hi hi'
    | _ => false)
  | .faddr off x => (match o with
    | .fieldAddr t y i => (match fieldT P t i with | some (o, ft) => o == off && (match sizeT P ft with | some n => n != 0 | none => false) | none => false) && chkX cfg x y
    | _ => false)
  | .field off n agg x => (match o with
    | .field t y i => (match fieldT P t i with | some (o, ft) => o == off && sizeT P ft == some n && aggT P ft == some agg | none => false) && chkX cfg x y
    | _ => false)
  | .iaddr sz x i => (match o with
    | .indexAddr t x' i' => (match sliceE P t with | some e => sizeT P e == some sz | none => false) && decide (0 < sz) && chkX cfg x x' && chkX cfg i i'
    | _ => false)
  | .aaddr len sz x i => (match o with
    | .indexAddr t x' i' => (match arrayE P t with | some (n, e) => n == len && sizeT P e == some sz | none => false) && chkX cfg x x' && chkX cfg i i'
    | _ => false)
  | .strIdx x i => (match o with
    | .index t x' i' => isStrT P t && chkX cfg x x' && chkX cfg i i'
    | _ => false)
  | .arrIdx len sz agg x i => (match o with
    | .index t x' i' => (match arrayE P t with | some (n, e) => n == len && sizeT P e == some sz && aggT P e == some agg | none => false) && chkX cfg x x' && chkX cfg i i'
    | _ => false)
  | .lenS x => (match bi1 .len o with
    | some (y, t) => (sliceE P t).isSome && chkX cfg x y
    | _ => false)
  | .lenStr x => (match bi1 .len o with
    | some (y, t) => isStrT P t && chkX cfg x y
    | _ => false)
  | .lenM x => (match bi1 .len o with
    | some (y, t) => (mapE P t).isSome && chkX cfg x y
    | _ => false)
  | .lenA n => (match bi1 .len o with
    | some (_, t) => (match arrayE P t with | some (m, _) => m == n | none => false)
    | _ => false)
  | .capS x => (match bi1 .cap o with
    | some (y, t) => (sliceE P t).isSome && chkX cfg x y
    | _ => false)
  | .minI xs => (match biN .min o with
    | some (ys, _) => chkXs cfg xs ys
    | _ => false)
  | .maxI xs => (match biN .max o with
    | some (ys, _) => chkXs cfg xs ys
    | _ => false)
  | .append sz bytes x y => (match bi2 .append o with
    | some (x', y', t, t2) => (match sliceE P t with
          | some e => sizeT P e == some sz && bytesT P e == some bytes && (match zeroT P e with | some zc => zc.length == sz | none => false)
          | none => false) && (sliceE P t2).isSome && decide (0 < sz) && decide (0 < bytes) && decide (bytes ≤ 1048576) && chkX cfg x x' && chkX cfg y y'
    | _ => false)
  | .appendz sz bytes z agg x y => (match bi2 .append o with
    | some (x', y', t, t2) => (match sliceE P t with | some e => chkZ P e sz z agg && bytesT P e == some bytes | none => false) && (intT P t2).isSome && decide (0 < bytes) && decide (bytes ≤ 1048576) && chkX cfg x x' && chkX cfg y y'
    | _ => false)
  | .mkslice sz bytes z agg l c => (match o with
    | .makeSlice t l' c' => (match sliceE P t with | some e => chkZ P e sz z agg && bytesT P e == some bytes | none => false) && decide (0 < bytes) && chkX cfg l l' && chkX cfg c c'
    | _ => false)
  | .extract x i => (match o with
    | .extract y j => i == j && chkX cfg x y
    | _ => false)
  | .mkfunc f first caps => (match o with
    | .makeFunc (.func g) first' caps' => cfg.conc f == g && chkXs cfg first first'.toList && chkXs cfg caps caps'.toList
    | _ => false)
  | .mkmap => (match o with
    | .makeMap _ none => true
    | _ => false)
  | .lookup agg q z x k ok => (match o with
    | .lookup t x' k' ok' => (match mapE P t with | some (kt, et) => chkMapKey P kt agg q && (match (P.info? et).bind (·.zero) with | some zv => chkC z zv | none => false) | none => false) && ok == ok' && chkX cfg x x' && chkX cfg k k'
    | _ => false)
  | .mapset agg q m k v => (match o with
    | .mapUpdate t m' k' v' => (match mapE P t with | some (kt, _) => chkMapKey P kt agg q | none => false) && chkX cfg m m' && chkX cfg k k' && chkX cfg v v'
    | .insert t m' k' v' => (match mapE P t with | some (kt, _) => chkMapKey P kt agg q | none => false) && chkX cfg m m' && chkX cfg k k' && chkX cfg v v'
    | _ => false)
  | .mapdel agg q m k => (match bi2 .delete o with
    | some (m', k', t, t2) => (match mapE P t with | some (kt, _) => chkMapKey P kt agg q | none => false) && chkX cfg m m' && chkX cfg k k'
    | _ => false)
  | .fail => true
  | .mkiface t x => (match o with
    | .makeInterface t' y => t == t' && notIfaceT P t && chkX cfg x y
    | _ => false)
  | _ => false

end Go.Proofs.Ytmocplkpnickgaa.Am
