/-
  THE ABSTRACT MACHINE, part 11: against nil; the least and the greatest; values put together.
-/
import Derived.Test.YtmocplkpnickgaaAmSlc
namespace Go.Proofs.Ytmocplkpnickgaa.Am
open Go
set_option linter.unusedVariables false
set_option linter.unusedSimpArgs false

section
variable {P : Program} {E : Env} {cf : FuncId → FuncId} {κ : K}

def nilMatch (P : Program) (t : TypeId) (k : NK) (v : Value) : Bool :=
  match P.underlying t, k, v with
  | some (.pointer _), .p, .pointer none => true
  | some (.slice _), .s, .slice none 0 0 => true
  | some (.map ..), .m, .map none => true
  | some (.func ..), .f, .nilFunc => true
  | some (.interface _), .i, .nilIface => true
  | _, _, _ => false

def isConst : Operand → Bool
  | .const _ => true
  | _ => false

theorem nil_cases {t : TypeId} {k : NK} {nv ca : Value} {a : AVal} {b : Bool} (hn : nilMatch P t k nv = true) (ha : κ.V E cf a ca) (h : isNil k a = some b) :
    (∃ e, P.underlying t = some (.pointer e) ∧ nv = .pointer none ∧ ∃ p, ca = .pointer p ∧ b = p.isNone) ∨
    (∃ e, P.underlying t = some (.slice e) ∧ nv = .slice none 0 0 ∧ ∃ p l c, ca = .slice p l c ∧ b = p.isNone) ∨
    (∃ e f, P.underlying t = some (.map e f) ∧ nv = .map none ∧ ∃ p, ca = .map p ∧ b = p.isNone) ∨
    (∃ e f g, P.underlying t = some (.func e f g) ∧ nv = .nilFunc ∧ ((ca = .nilFunc ∧ b = true) ∨ ∃ x y z, ca = .func x y z ∧ b = false)) ∨
    (∃ e, P.underlying t = some (.interface e) ∧ nv = .nilIface ∧ ((ca = .nilIface ∧ b = true) ∨ ∃ x y, ca = .iface x y ∧ b = false)) := by
  unfold nilMatch at hn
  split at hn <;> first | (simp at hn; done) | skip
  · rename_i hu
    cases a <;> simp only [isNil] at h <;> first | (simp at h; done) | skip
    all_goals (injection h with h; subst h; cases ha; exact .inl ⟨_, hu, rfl, _, rfl, rfl⟩)
  · rename_i hu
    cases a <;> simp only [isNil] at h <;> first | (simp at h; done) | skip
    all_goals (injection h with h; subst h; cases ha <;> exact .inr (.inl ⟨_, hu, rfl, _, _, _, rfl, rfl⟩))
  · rename_i hu
    cases a <;> simp only [isNil] at h <;> first | (simp at h; done) | skip
    all_goals (injection h with h; subst h; cases ha; exact .inr (.inr (.inl ⟨_, _, hu, rfl, _, rfl, rfl⟩)))
  · rename_i hu
    cases a <;> simp only [isNil] at h <;> first | (simp at h; done) | skip
    · injection h with h; subst h; cases ha; exact .inr (.inr (.inr (.inl ⟨_, _, _, hu, rfl, .inr ⟨_, _, _, rfl, rfl⟩⟩)))
    · injection h with h; subst h; cases ha; exact .inr (.inr (.inr (.inl ⟨_, _, _, hu, rfl, .inl ⟨rfl, rfl⟩⟩)))
  · rename_i hu
    cases a <;> simp only [isNil] at h <;> first | (simp at h; done) | skip
    · injection h with h; subst h; cases ha; exact .inr (.inr (.inr (.inr ⟨_, hu, rfl, .inl ⟨rfl, rfl⟩⟩)))
    · injection h with h; subst h; cases ha; exact .inr (.inr (.inr (.inr ⟨_, hu, rfl, .inr ⟨_, _, rfl, rfl⟩⟩)))

theorem equalIn_nil (d : Nat) {t : TypeId} {k : NK} {nv ca : Value} {a : AVal} {b : Bool} (hn : nilMatch P t k nv = true) (ha : κ.V E cf a ca) (h : isNil k a = some b) (w : World) :
    (Op.equalIn (d + 1) t ca nv).run P w = .ok b w ∧ (Op.equalIn (d + 1) t nv ca).run P w = .ok b w := by
  rcases nil_cases hn ha h with ⟨e, hu, rfl, p, rfl, rfl⟩ | ⟨e, hu, rfl, p, l, c, rfl, rfl⟩ | ⟨e, f, hu, rfl, p, rfl, rfl⟩ | ⟨e, f, g, hu, rfl, ⟨rfl, rfl⟩ | ⟨x, y, z, rfl, rfl⟩⟩ | ⟨e, hu, rfl, ⟨rfl, rfl⟩ | ⟨x, y, rfl, rfl⟩⟩
  all_goals first
    | (cases p <;> (constructor <;> simp [Op.equalIn, run_underlying hu, Result.andThen]))
    | (constructor <;> simp [Op.equalIn, run_underlying hu, Result.andThen])

theorem eqnil_run (neg : Bool) {t : TypeId} {x y : Operand} {k : NK} {nv ca : Value} {a : AVal} {b : Bool} (hn : nilMatch P t k nv = true) (hy : isConst y = true) (ha : κ.V E cf a ca) (h : isNil k a = some b) (hR : κ.R E cf) :
    GV P E cf κ (do eqGuard (if neg then .neq else .eql) t x y ca nv; binOp (if neg then .neq else .eql) t ca nv) (.bool (if neg then !b else b)) κ.σ := by
  refine GV.pure hR (cv := .bool (if neg then !b else b)) (fun w _ => ?_) (.bool _ _)
  obtain ⟨cy, rfl⟩ : ∃ c, y = .const c := by cases y <;> simp [isConst] at hy; exact ⟨_, rfl⟩
  refine binOp_eq neg ?_ ?_ ?_ (equal_of (equalIn_nil 9999 hn ha h w).1)
  all_goals
    rcases nil_cases hn ha h with ⟨e, hu, rfl, p, rfl, rfl⟩ | ⟨e, hu, rfl, p, l, c, rfl, rfl⟩ | ⟨e, f, hu, rfl, p, rfl, rfl⟩ | ⟨e, f, g, hu, rfl, ⟨rfl, rfl⟩ | ⟨x, y, z, rfl, rfl⟩⟩ | ⟨e, hu, rfl, ⟨rfl, rfl⟩ | ⟨x, y, rfl, rfl⟩⟩
    all_goals first
      | (cases neg <;> simp [eqGuard]; done)
      | (simp only [binOp]; done)

theorem eqnil_run' (neg : Bool) {t : TypeId} {x y : Operand} {k : NK} {nv ca : Value} {a : AVal} {b : Bool} (hn : nilMatch P t k nv = true) (hy : isConst x = true) (ha : κ.V E cf a ca) (h : isNil k a = some b) (hR : κ.R E cf) :
    GV P E cf κ (do eqGuard (if neg then .neq else .eql) t x y nv ca; binOp (if neg then .neq else .eql) t nv ca) (.bool (if neg then !b else b)) κ.σ := by
  refine GV.pure hR (cv := .bool (if neg then !b else b)) (fun w _ => ?_) (.bool _ _)
  obtain ⟨cy, rfl⟩ : ∃ c, x = .const c := by cases x <;> simp [isConst] at hy; exact ⟨_, rfl⟩
  refine binOp_eq neg ?_ ?_ ?_ (equal_of (equalIn_nil 9999 hn ha h w).2)
  all_goals
    rcases nil_cases hn ha h with ⟨e, hu, rfl, p, rfl, rfl⟩ | ⟨e, hu, rfl, p, l, c, rfl, rfl⟩ | ⟨e, f, hu, rfl, p, rfl, rfl⟩ | ⟨e, f, g, hu, rfl, ⟨rfl, rfl⟩ | ⟨x, y, z, rfl, rfl⟩⟩ | ⟨e, hu, rfl, ⟨rfl, rfl⟩ | ⟨x, y, rfl, rfl⟩⟩
    all_goals first
      | (cases neg <;> simp [eqGuard]; done)
      | (simp only [binOp]; done)

/-! least, greatest -/
theorem fold_min {v : AVal} : ∀ {bs : List AVal} {cbs : List Value} {a : AVal} {ca : Value}, κ.V E cf a ca → κ.VL E cf bs cbs → foldV minV a bs = some v →
    ∃ cv, (∀ w, (cbs.foldlM Builtin.min2 ca).run P w = .ok cv w) ∧ κ.V E cf v cv
  | [], _, a, ca, ha, .nil _, h => by simp at h; subst h; exact ⟨ca, fun w => by simp, ha⟩
  | b :: bs, _, a, ca, ha, .cons _ _ cb _ cbs hb hbs, h => by
    unfold foldV at h
    split at h
    · rename_i c hc
      unfold minV at hc
      split at hc
      · have := V_int ha; subst this
        have := V_int hb; subst this
        split at hc
        · rename_i hk; subst hk
          simp at hc
          subst hc
          rename_i k x y
          obtain ⟨cv, h1, h2⟩ := fold_min (a := .int k (if y < x then y else x)) (ca := .int k (if y < x then y else x)) (VRel.int _ _ _) hbs h
          exact ⟨cv, fun w => by simp [List.foldlM, Builtin.min2, h1], h2⟩
        · simp at hc
      · simp at hc
    · simp at h
theorem fold_max {v : AVal} : ∀ {bs : List AVal} {cbs : List Value} {a : AVal} {ca : Value}, κ.V E cf a ca → κ.VL E cf bs cbs → foldV maxV a bs = some v →
    ∃ cv, (∀ w, (cbs.foldlM Builtin.max2 ca).run P w = .ok cv w) ∧ κ.V E cf v cv
  | [], _, a, ca, ha, .nil _, h => by simp at h; subst h; exact ⟨ca, fun w => by simp, ha⟩
  | b :: bs, _, a, ca, ha, .cons _ _ cb _ cbs hb hbs, h => by
    unfold foldV at h
    split at h
    · rename_i c hc
      unfold maxV at hc
      split at hc
      · have := V_int ha; subst this
        have := V_int hb; subst this
        split at hc
        · rename_i hk; subst hk
          simp at hc
          subst hc
          rename_i k x y
          obtain ⟨cv, h1, h2⟩ := fold_max (a := .int k (if y > x then y else x)) (ca := .int k (if y > x then y else x)) (VRel.int _ _ _) hbs h
          exact ⟨cv, fun w => by simp [List.foldlM, Builtin.max2, h1], h2⟩
        · simp at hc
      · simp at hc
    · simp at h

/-! put together -/
mutual
theorem V_pure {hp : Array Obj} {S : Nat → Nat → Prop} : ∀ {I : Ids} {v : AVal} {cv : Value}, VRel cf hp S I v cv → v.pure = true → ∀ I', VRel cf hp S I' v cv
  | _, _, _, .undef _ _, h, _ => by simp at h
  | _, _, _, .bool _ _, _, _ => .bool _ _
  | _, _, _, .int _ _ _, _, _ => .int _ _ _
  | _, _, _, .str _ _, _, _ => .str _ _
  | _, _, _, .nilptr _, _, _ => .nilptr _
  | _, _, _, .ptr _ _ _ _ _, h, _ => by simp at h
  | _, _, _, .eptr _ _ _ _ _ _ _ _, h, _ => by simp at h
  | _, _, _, .fptr _ t cs off b o vs hs hc h1 h2 hr, _, _ => .fptr _ t cs off b o vs hs hc h1 h2 hr
  | _, _, _, .nilslice _, _, _ => .nilslice _
  | _, _, _, .slice _ _ _ _ _ _ _ _ _ _ _, h, _ => by simp at h
  | _, _, _, .fslice _ t full sz es b o len cap vs hs hc h1 h2 h3 hr h4 h5 h6, _, _ => .fslice _ t full sz es b o len cap vs hs hc h1 h2 h3 hr h4 h5 h6
  | _, _, _, .zslice _ t full sz a h, _, _ => .zslice _ t full sz a h
  | _, _, _, .nilmap _, _, _ => .nilmap _
  | _, _, _, .map _ _ _ _, h, _ => by simp at h
  | _, _, _, .fmap _ t ks vs b clock es hs he hk hv h1 h2, _, _ => .fmap _ t ks vs b clock es hs he hk hv h1 h2
  | _, _, _, .func _ f a b vs us ha hb, h, I' => by
    simp only [AVal.pure, Bool.and_eq_true] at h
    exact .func _ f a b vs us (VL_pure ha h.1 I') (VL_pure hb h.2 I')
  | _, _, _, .nilfunc _, _, _ => .nilfunc _
  | _, _, _, .nilIface _, _, _ => .nilIface _
  | _, _, _, .iface _ t v cv hv, h, I' => by
    simp only [AVal.pure] at h
    exact .iface _ t v cv (V_pure hv h I')
  | _, _, _, .agg _ cs vs hc h1, h, I' => by
    simp only [AVal.pure] at h
    exact .agg _ cs vs (VL_pure hc h I') h1
  | _, _, _, .tuple _ cs vs hc, h, I' => by
    simp only [AVal.pure] at h
    exact .tuple _ cs vs (VL_pure hc h I')
theorem VL_pure {hp : Array Obj} {S : Nat → Nat → Prop} : ∀ {I : Ids} {vs : List AVal} {cvs : List Value}, VRelL cf hp S I vs cvs → AVal.pureL vs = true → ∀ I', VRelL cf hp S I' vs cvs
  | _, _, _, .nil _, _, _ => .nil _
  | _, _, _, .cons _ v cv vs cvs hv hvs, h, I' => by
    simp only [AVal.pureL, Bool.and_eq_true] at h
    exact .cons _ _ _ _ _ (V_pure hv h.1 I') (VL_pure hvs h.2 I')
end

theorem VL_of_get {hp : Array Obj} {S : Nat → Nat → Prop} {I : Ids} : ∀ {cs : List AVal} {vs : List Value}, cs.length = vs.length → (∀ (j : Nat) (c : AVal) (v : Value), cs[j]? = some c → vs[j]? = some v → VRel cf hp S I c v) → VRelL cf hp S I cs vs
  | [], [], _, _ => .nil _
  | c :: cs, v :: vs, hl, h => .cons _ _ _ _ _ (h 0 c v rfl rfl) (VL_of_get (by simpa using hl) (fun j c' v' hc hv => h (j + 1) c' v' (by simpa using hc) (by simpa using hv)))
  | [], _ :: _, hl, _ => by simp at hl
  | _ :: _, [], hl, _ => by simp at hl

theorem sets_eq (new : List Value) : ∀ (j : Nat) (cells : Array Value) (off : Nat), off + j + new.length ≤ cells.size →
    ((new.zipIdx j).foldl (fun cs (p : Value × Nat) => cs.setIfInBounds (off + p.2) p.1) cells).toList = cells.toList.take (off + j) ++ new ++ cells.toList.drop (off + j + new.length) := by
  induction new with
  | nil => intro j cells off h; simp
  | cons v new ih =>
    intro j cells off h
    simp only [List.zipIdx_cons, List.foldl_cons, List.length_cons] at h ⊢
    rw [ih (j + 1) (cells.setIfInBounds (off + j) v) off (by simp; omega)]
    have hlt : off + j < cells.toList.length := by simp; omega
    simp only [Array.toList_setIfInBounds]
    rw [show off + (j + 1) = off + j + 1 by omega, List.take_succ_eq_append_getElem (by simpa using hlt)]
    simp only [List.getElem_set_self, List.take_set_of_le (Nat.le_refl _), List.append_assoc, List.singleton_append, List.cons_append]
    rw [List.drop_set_of_lt (by omega)]
    simp [Nat.add_comm, Nat.add_left_comm]

theorem zipIdx_foldl (new : Array Value) (cells : Array Value) (off : Nat) (h : off + new.size ≤ cells.size) :
    (new.zipIdx.foldl (fun cs (c, j) => cs.setIfInBounds (off + j) c) cells).toList = cells.toList.take off ++ new.toList ++ cells.toList.drop (off + new.size) := by
  have := sets_eq new.toList 0 cells off (by simpa using h)
  rw [← Array.foldl_toList]
  simp only [Nat.add_zero, Array.length_toList] at this
  rw [← this]
  simp [Array.toList_zipIdx]

end
end Go.Proofs.Ytmocplkpnickgaa.Am
