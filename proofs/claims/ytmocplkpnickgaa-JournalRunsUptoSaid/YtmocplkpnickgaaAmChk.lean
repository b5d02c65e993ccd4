/-
  THE ABSTRACT MACHINE, part 7: does an operation (a code, a function) stand for the model's? By program.
-/
import Derived.Test.YtmocplkpnickgaaAmOps1
namespace Go.Proofs.Ytmocplkpnickgaa.Am
open Go
set_option linter.unusedVariables false
set_option linter.unusedSimpArgs false

def sizeT (P : Program) (t : TypeId) : Option Nat := (P.info? t).map (·.size)
def bytesT (P : Program) (t : TypeId) : Option Nat := (P.info? t).map (·.bytes)
def aggT (P : Program) (t : TypeId) : Option Bool := (P.underlying t).map fun d => match d with | .struct _ | .array .. => true | _ => false
def sliceE (P : Program) (t : TypeId) : Option TypeId := match P.underlying t with | some (.slice e) => some e | _ => none
def arrayE (P : Program) (t : TypeId) : Option (Nat × TypeId) := match P.underlying t with | some (.array n e) => some (n, e) | _ => none
def mapE (P : Program) (t : TypeId) : Option (TypeId × TypeId) := match P.underlying t with | some (.map k e) => some (k, e) | _ => none
def intT (P : Program) (t : TypeId) : Option IntKind := match P.underlying t with | some (.int k) => some k | _ => none
def isStrT (P : Program) (t : TypeId) : Bool := match P.underlying t with | some .string => true | _ => false
def isBoolT (P : Program) (t : TypeId) : Bool := match P.underlying t with | some .bool => true | _ => false
def nilT (P : Program) (t : TypeId) : Bool := match P.underlying t with | some (.pointer _) | some (.slice _) | some (.map ..) | some (.func ..) | some (.interface _) => true | _ => false
def notIfaceT (P : Program) (t : TypeId) : Bool := match P.underlying t with | some (.interface _) | none => false | _ => true
def fieldT (P : Program) (t : TypeId) (i : Nat) : Option (Nat × TypeId) := match P.underlying t with | some (.struct fs) => (fs[i]?).map fun f => (f.offset, f.type) | _ => none
def zeroT (P : Program) (t : TypeId) : Option (List Value) := ((P.info? t).bind (·.zero)).map (·.cells.toList)

theorem sliceE_eq {P : Program} {t e : TypeId} (h : sliceE P t = some e) : P.underlying t = some (.slice e) := by
  unfold sliceE at h; split at h <;> simp_all
theorem arrayE_eq {P : Program} {t : TypeId} {x : Nat × TypeId} (h : arrayE P t = some x) : P.underlying t = some (.array x.1 x.2) := by
  unfold arrayE at h; split at h <;> simp_all; subst h; exact ⟨rfl, rfl⟩
theorem mapE_eq {P : Program} {t : TypeId} {x : TypeId × TypeId} (h : mapE P t = some x) : P.underlying t = some (.map x.1 x.2) := by
  unfold mapE at h; split at h <;> simp_all; subst h; exact ⟨rfl, rfl⟩
theorem intT_eq {P : Program} {t : TypeId} {k : IntKind} (h : intT P t = some k) : P.underlying t = some (.int k) := by
  unfold intT at h; split at h <;> simp_all
theorem isStrT_eq {P : Program} {t : TypeId} (h : isStrT P t = true) : P.underlying t = some .string := by
  unfold isStrT at h; split at h <;> simp_all
theorem isBoolT_eq {P : Program} {t : TypeId} (h : isBoolT P t = true) : P.underlying t = some .bool := by
  unfold isBoolT at h; split at h <;> simp_all
theorem fieldT_eq {P : Program} {t : TypeId} {i : Nat} {x : Nat × TypeId} (h : fieldT P t i = some x) : ∃ fs f, P.underlying t = some (.struct fs) ∧ fs[i]? = some f ∧ f.offset = x.1 ∧ f.type = x.2 := by
  unfold fieldT at h
  split at h
  · rename_i fs hu
    cases hf : fs[i]? with
    | none => simp [hf] at h
    | some f => simp [hf] at h; subst h; exact ⟨fs, f, hu, hf, rfl, rfl⟩
  · simp at h
theorem sizeT_eq {P : Program} {t : TypeId} {n : Nat} (h : sizeT P t = some n) : ∃ i, P.info? t = some i ∧ i.size = n := by
  unfold sizeT at h; cases hi : P.info? t <;> simp_all
theorem zeroT_eq {P : Program} {t : TypeId} {cs : List Value} (h : zeroT P t = some cs) : ∃ i z, P.info? t = some i ∧ i.zero = some z ∧ z.cells.toList = cs := by
  unfold zeroT at h
  cases hi : P.info? t with
  | none => simp [hi] at h
  | some i =>
    simp only [hi, Option.bind_some] at h
    cases hz : i.zero with
    | none => simp [hz] at h
    | some z => simp [hz] at h; exact ⟨i, z, rfl, hz, h⟩

/-! constants -/
mutual
def chkC : AVal → Value → Bool
  | .bool b, .bool b' => b == b'
  | .int k n, .int k' n' => k == k' && n == n'
  | .str s, .string b => b.data.toList == s
  | .nilptr, .pointer none => true
  | .nilslice, .slice none 0 0 => true
  | .nilmap, .map none => true
  | .nilfunc, .nilFunc => true
  | .nilIface, .nilIface => true
  | .agg cs, .agg vs => chkCs cs vs.toList && cs.all AVal.one
  | .tuple cs, .tuple vs => chkCs cs vs.toList
  | _, _ => false
def chkCs : List AVal → List Value → Bool
  | [], [] => true
  | a :: as, v :: vs => chkC a v && chkCs as vs
  | _, _ => false
end

theorem allOne_of {cs : List AVal} (h : cs.all AVal.one = true) : AVal.allOne cs := by simpa [AVal.allOne] using h

section
variable {cf : FuncId → FuncId} {hp : Array Obj} {S : Nat → Nat → Prop} {I : Ids}
mutual
theorem chkC_ok : ∀ (a : AVal) (v : Value), chkC a v = true → VRel cf hp S I a v
  | .bool b, .bool b', h => by simp [chkC] at h; subst h; exact .bool _ _
  | .int k n, .int k' n', h => by simp [chkC] at h; obtain ⟨rfl, rfl⟩ := h; exact .int _ _ _
  | .str s, .string b, h => by simp [chkC] at h; subst h; exact .str _ _
  | .nilptr, .pointer none, _ => .nilptr _
  | .nilslice, .slice none 0 0, _ => .nilslice _
  | .nilmap, .map none, _ => .nilmap _
  | .nilfunc, .nilFunc, _ => .nilfunc _
  | .nilIface, .nilIface, _ => .nilIface _
  | .agg cs, .agg vs, h => by
    simp only [chkC, Bool.and_eq_true] at h
    have := VRel.agg (cf := cf) (h := hp) (S := S) I cs vs.toList (chkCs_ok cs vs.toList h.1) (allOne_of h.2)
    simpa using this
  | .tuple cs, .tuple vs, h => by
    simp only [chkC] at h
    have := VRel.tuple (cf := cf) (h := hp) (S := S) I cs vs.toList (chkCs_ok cs vs.toList h)
    simpa using this
theorem chkCs_ok : ∀ (a : List AVal) (v : List Value), chkCs a v = true → VRelL cf hp S I a v
  | [], [], _ => .nil _
  | a :: as, v :: vs, h => by
    simp only [chkCs, Bool.and_eq_true] at h
    exact .cons _ _ _ _ _ (chkC_ok a v h.1) (chkCs_ok as vs h.2)
end
end

/-! operands -/
def chkX (cfg : Cfg) : Opnd → Operand → Bool
  | .tmp t, .tmp t' => t == t'
  | .const (.func f [] []), .func g => cfg.conc f == g
  | .const a, .const v => chkC a v
  | .glob g, .global g' => g == g'
  | _, _ => false
def chkXO (cfg : Cfg) : Option Opnd → Option Operand → Bool
  | none, none => true
  | some x, some y => chkX cfg x y
  | _, _ => false
def chkXs (cfg : Cfg) : List Opnd → List Operand → Bool
  | [], [] => true
  | x :: xs, y :: ys => chkX cfg x y && chkXs cfg xs ys
  | _, _ => false

/-- the frame, the globals -/
structure Fr (cfg : Cfg) (E : Env) (κ : K) (fr : List AVal) (a : Act) : Prop where
  len : fr.length ≤ a.tmps.size
  fr : ∀ i, κ.V E cfg.conc (fr.getD i .undef) (a.tmps.getD i undef)
  gl : ∀ g cs, cfg.glob g = some cs → κ.V E cfg.conc (.fptr 0 cs 0) (.pointer (some ⟨g, 0, none⟩))

section
variable {cfg : Cfg} {E : Env} {κ κ' : K} {fr : List AVal} {a : Act}
theorem Fr.le (hR : κ.Lb) (hle : κ.Le κ') (h : Fr cfg E κ fr a) : Fr cfg E κ' fr a :=
  ⟨h.len, fun i => K.V.le hR hle (h.fr i), fun g cs hg => K.V.le hR hle (h.gl g cs hg)⟩

theorem chkX_ok (hf : Fr cfg E κ fr a) {x : Opnd} {y : Operand} (h : chkX cfg x y = true) : κ.V E cfg.conc (ev cfg fr x) (a.eval y) := by
  unfold chkX at h
  split at h
  · simp at h; subst h; exact hf.fr _
  · simp at h; subst h; exact .func _ _ [] [] [] [] (.nil _) (.nil _)
  · exact chkC_ok _ _ h
  · simp at h; subst h
    simp only [ev, Act.eval]
    split
    · exact hf.gl _ _ ‹_›
    · exact .undef _ _
  · simp at h
theorem chkXs_ok (hf : Fr cfg E κ fr a) : ∀ {xs : List Opnd} {ys : List Operand}, chkXs cfg xs ys = true → κ.VL E cfg.conc (xs.map (ev cfg fr)) (ys.map a.eval)
  | [], [], _ => .nil _
  | x :: xs, y :: ys, h => by
    simp only [chkXs, Bool.and_eq_true] at h
    exact .cons _ _ _ _ _ (chkX_ok hf h.1) (chkXs_ok hf h.2)
end

/-! ### what an operation must come to -/
def GV (P : Program) (E : Env) (cf : FuncId → FuncId) (κ : K) (s : Sem Value) (v : AVal) (σ' : Store) : Prop :=
  ∀ w : World, w.heap = κ.h → ∃ cv w' κ', s.run P w = .ok cv w' ∧ (w'.heap = κ'.h ∧ w'.os = w.os ∧ w'.output = w.output) ∧ κ'.σ = σ' ∧ κ.Le κ' ∧ κ'.R E cf ∧ κ'.V E cf v cv
def GU (P : Program) (E : Env) (cf : FuncId → FuncId) (κ : K) (s : Sem Unit) (σ' : Store) : Prop :=
  ∀ w : World, w.heap = κ.h → ∃ w' κ', s.run P w = .ok () w' ∧ (w'.heap = κ'.h ∧ w'.os = w.os ∧ w'.output = w.output) ∧ κ'.σ = σ' ∧ κ.Le κ' ∧ κ'.R E cf
def GN (P : Program) (E : Env) (cf : FuncId → FuncId) (κ : K) (s : Sem Next) (v : AVal) (σ' : Store) : Prop :=
  ∀ w : World, w.heap = κ.h → ∃ nx w' κ', s.run P w = .ok nx w' ∧ (w'.heap = κ'.h ∧ w'.os = w.os ∧ w'.output = w.output) ∧ κ'.σ = σ' ∧ κ.Le κ' ∧ κ'.R E cf ∧
    ((∃ cv, nx = .value cv ∧ κ'.V E cf v cv) ∨ (nx = .skip ∧ v = .tuple []))

section
variable {P : Program} {E : Env} {cf : FuncId → FuncId} {κ : K}
theorem GV.next {s : Sem Value} {v : AVal} {σ' : Store} (h : GV P E cf κ s v σ') : GN P E cf κ (do let x ← s; pure (.value x)) v σ' := by
  intro w hw
  obtain ⟨cv, w', κ', h1, h2, h3, h4, h5, h6⟩ := h w hw
  exact ⟨.value cv, w', κ', by simp [h1, Result.andThen], h2, h3, h4, h5, .inl ⟨cv, rfl, h6⟩⟩
theorem GU.next {s : Sem Unit} {σ' : Store} (h : GU P E cf κ s σ') : GN P E cf κ (do s; pure .skip) (.tuple []) σ' := by
  intro w hw
  obtain ⟨w', κ', h1, h2, h3, h4, h5⟩ := h w hw
  exact ⟨.skip, w', κ', by simp [h1, Result.andThen], h2, h3, h4, h5, .inr ⟨rfl, rfl⟩⟩
theorem GV.pure (hR : κ.R E cf) {s : Sem Value} {v : AVal} {cv : Value} (h : ∀ w : World, w.heap = κ.h → s.run P w = .ok cv w) (hv : κ.V E cf v cv) : GV P E cf κ s v κ.σ :=
  fun w hw => ⟨cv, w, κ, h w hw, ⟨hw, rfl, rfl⟩, rfl, K.Le.refl _, hR, hv⟩
theorem GN.pure (hR : κ.R E cf) {s : Sem Next} {v : AVal} {cv : Value} (h : ∀ w : World, w.heap = κ.h → s.run P w = .ok (.value cv) w) (hv : κ.V E cf v cv) : GN P E cf κ s v κ.σ :=
  fun w hw => ⟨_, w, κ, h w hw, ⟨hw, rfl, rfl⟩, rfl, K.Le.refl _, hR, .inl ⟨cv, rfl, hv⟩⟩
end

end Go.Proofs.Ytmocplkpnickgaa.Am
