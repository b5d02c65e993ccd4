/-
  THE ABSTRACT MACHINE, part 6: operations that touch no memory: what they compute is what the model computes.
-/
import Derived.Test.YtmocplkpnickgaaAmSteps
import Derived.Laws.Cells
import Derived.Laws.Entries
namespace Go.Proofs.Ytmocplkpnickgaa.Am
open Go
set_option linter.unusedVariables false
set_option linter.unusedSimpArgs false

section inv
variable {cf : FuncId → FuncId} {hp : Array Obj} {S : Nat → Nat → Prop} {I : Ids}
theorem V_int {k : IntKind} {n : Int} {cv : Value} (h : VRel cf hp S I (.int k n) cv) : cv = .int k n := by cases h; rfl
theorem V_bool {b : Bool} {cv : Value} (h : VRel cf hp S I (.bool b) cv) : cv = .bool b := by cases h; rfl
theorem V_nilslice {cv : Value} (h : VRel cf hp S I .nilslice cv) : cv = .slice none 0 0 := by cases h; rfl
theorem V_str {s : List UInt8} {cv : Value} (h : VRel cf hp S I (.str s) cv) : ∃ b : ByteArray, cv = .string b ∧ b.data.toList = s := by
  generalize hx : AVal.str s = x at h
  cases h <;> cases hx
  exact ⟨_, rfl, rfl⟩
theorem V_agg {cs : List AVal} {cv : Value} (h : VRel cf hp S I (.agg cs) cv) : ∃ vs, cv = .agg vs.toArray ∧ VRelL cf hp S I cs vs ∧ AVal.allOne cs := by cases h; exact ⟨_, rfl, ‹_›, ‹_›⟩
theorem V_tuple {cs : List AVal} {cv : Value} (h : VRel cf hp S I (.tuple cs) cv) : ∃ vs, cv = .tuple vs.toArray ∧ VRelL cf hp S I cs vs := by cases h; exact ⟨_, rfl, ‹_›⟩
theorem VL_len {cs : List AVal} {vs : List Value} (h : VRelL cf hp S I cs vs) : cs.length = vs.length := by
  induction cs generalizing vs with
  | nil => cases h; rfl
  | cons c cs ih => cases h with | cons _ _ _ _ _ h1 h2 => simp [ih h2]
theorem VL_get {cs : List AVal} {vs : List Value} (h : VRelL cf hp S I cs vs) : ∀ (i : Nat) (c : AVal), cs[i]? = some c → ∃ v, vs[i]? = some v ∧ VRel cf hp S I c v := by
  induction cs generalizing vs with
  | nil => intro i c hc; simp at hc
  | cons x cs ih =>
    cases h with
    | cons _ _ cv _ cvs h1 h2 =>
      intro i c hc
      cases i with
      | zero => simp at hc; subst hc; exact ⟨cv, by simp, h1⟩
      | succ i => obtain ⟨v, hv, hr⟩ := ih h2 i c (by simpa using hc); exact ⟨v, by simpa using hv, hr⟩
theorem VL_getv {cs : List AVal} {vs : List Value} (h : VRelL cf hp S I cs vs) : ∀ (i : Nat) (v : Value), vs[i]? = some v → ∃ c, cs[i]? = some c ∧ VRel cf hp S I c v := by
  intro i v hv
  have hl := VL_len h
  have hi : i < cs.length := by rw [hl]; exact (List.getElem?_eq_some_iff.1 hv).1
  obtain ⟨v', hv', hr⟩ := VL_get h i cs[i] (List.getElem?_eq_getElem hi)
  rw [hv] at hv'
  cases hv'
  exact ⟨_, List.getElem?_eq_getElem hi, hr⟩
theorem VL_append {a b : List AVal} {u v : List Value} (h1 : VRelL cf hp S I a u) (h2 : VRelL cf hp S I b v) : VRelL cf hp S I (a ++ b) (u ++ v) := by
  induction a generalizing u with
  | nil => cases h1; exact h2
  | cons x a ih => cases h1 with | cons _ _ cv _ cvs g1 g2 => exact .cons _ _ _ _ _ g1 (ih g2)
theorem VL_take {a : List AVal} {u : List Value} (n : Nat) (h : VRelL cf hp S I a u) : VRelL cf hp S I (a.take n) (u.take n) := by
  induction a generalizing u n with
  | nil => cases h; simp; exact .nil _
  | cons x a ih => cases h with | cons _ _ cv _ cvs g1 g2 => cases n with
    | zero => simp; exact .nil _
    | succ n => simp only [List.take_succ_cons]; exact .cons _ _ _ _ _ g1 (ih n g2)
theorem VL_drop {a : List AVal} {u : List Value} (n : Nat) (h : VRelL cf hp S I a u) : VRelL cf hp S I (a.drop n) (u.drop n) := by
  induction a generalizing u n with
  | nil => cases h; simp; exact .nil _
  | cons x a ih => cases h with | cons _ _ cv _ cvs g1 g2 => cases n with
    | zero => exact .cons _ _ _ _ _ g1 g2
    | succ n => simp only [List.drop_succ_cons]; exact ih n g2
theorem VL_set {a : List AVal} {u : List Value} (h : VRelL cf hp S I a u) (i : Nat) {x : AVal} {v : Value} (hx : VRel cf hp S I x v) : VRelL cf hp S I (a.set i x) (u.set i v) := by
  induction a generalizing u i with
  | nil => cases h; simp; exact .nil _
  | cons y a ih => cases h with | cons _ _ cv _ cvs g1 g2 => cases i with
    | zero => exact .cons _ _ _ _ _ hx g2
    | succ i => exact .cons _ _ _ _ _ g1 (ih g2 i)
theorem VL_one {x : AVal} {v : Value} (h : VRel cf hp S I x v) : VRelL cf hp S I [x] [v] := .cons _ _ _ _ _ h (.nil _)
theorem V_oneCell {x : AVal} {v : Value} (h : VRel cf hp S I x v) (h1 : x.one = true) : v.oneCell' = true := by
  cases h <;> first | rfl | (simp at h1; done)
/-- a value's cells -/
theorem V_cells {x : AVal} {v : Value} (h : VRel cf hp S I x v) (hu : AVal.allOne x.cells) : VRelL cf hp S I x.cells v.cells.toList := by
  have h0 := h
  cases h <;> first
    | (simp only [AVal.cells, Value.cells]; exact VL_one h0)
    | (simp only [AVal.cells, Value.cells]; assumption)
    | (exact absurd (hu _ (List.mem_singleton.2 rfl)) (by simp))
end inv
end Go.Proofs.Ytmocplkpnickgaa.Am
