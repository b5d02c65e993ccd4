/-
  THE ABSTRACT MACHINE, part 5: single turns of memory and store.
-/
import Derived.Test.YtmocplkpnickgaaAmKr
namespace Go.Proofs.Ytmocplkpnickgaa.Am
open Go
set_option linter.unusedVariables false
set_option linter.unusedSimpArgs false

section
variable {κ κ' : K} {E : Env} {cf : FuncId → FuncId}

/-- what 'Le' says of one object -/
def K.OLe (κ κ' : K) (id : Nat) : AObj → Prop
  | .cells _ => (∃ cs', κ'.σ[id]? = some (.cells cs')) ∧ κ'.loc id = κ.loc id
  | .map _ _ => (∃ ks' vs', κ'.σ[id]? = some (.map ks' vs')) ∧ κ'.loc id = κ.loc id
  | .arr sz es ep fl => ∃ es' ep' fl', κ'.σ[id]? = some (.arr sz es' ep' fl') ∧ ep ≤ ep' ∧ fl ≤ fl' ∧ es.length ≤ es'.length ∧
    (ep' = ep → κ'.loc id = κ.loc id ∧ es'.length = es.length ∧ ∀ vs' e' f', κ'.h[κ.loc id]? = some (.cells vs' e' f') → ∃ vs e f, κ.h[κ.loc id]? = some (.cells vs e f) ∧ vs'.size = vs.size) ∧
    (fl' ≤ ep → ep < ep' → κ'.loc id = κ.loc id ∨ (¬ κ'.own (κ.loc id) ∧ ∀ j, j < es.length * sz → cellAt κ'.h (κ.loc id) j = cellAt κ'.h (κ'.loc id) j)) ∧
    (fl' < ep → ∀ j, j < es.length * sz → cellAt κ'.h (κ'.loc id) j = cellAt κ.h (κ.loc id) j)

theorem K.Le.of (base : κ'.base = κ.base) (size : κ.h.size ≤ κ'.h.size) (keep : ∀ b, b < κ.h.size → ¬ κ.own b → κ'.h[b]? = κ.h[b]? ∧ ¬ κ'.own b) (len : κ.σ.length ≤ κ'.σ.length)
    (obj : ∀ id o, κ.σ[id]? = some o → κ.OLe κ' id o) : κ.Le κ' where
  base := base
  size := size
  keep := keep
  len := len
  cells := fun id cs h => obj id _ h
  map := fun id ks vs h => obj id _ h
  arr := fun id sz es ep fl h => obj id _ h

theorem K.OLe.same {id : Nat} {o : AObj} (h : κ'.σ[id]? = some o) (hl : κ'.loc id = κ.loc id) (hh : κ'.h[κ.loc id]? = κ.h[κ.loc id]?) : κ.OLe κ' id o := by
  cases o with
  | cells cs => exact ⟨⟨cs, h⟩, hl⟩
  | map ks vs => exact ⟨⟨ks, vs, h⟩, hl⟩
  | arr sz es ep fl => exact ⟨es, ep, fl, h, Nat.le_refl _, Nat.le_refl _, Nat.le_refl _, fun _ => ⟨hl, rfl, fun vs e f hv => ⟨vs, e, f, by rw [← hh]; exact hv, rfl⟩⟩,
      fun _ _ => .inl hl, fun _ j _ => by rw [hl]; exact cellAt_congr hh j⟩

theorem K.O.le (hR : κ.Lb) (hle : κ.Le κ') {id : Nat} {o : AObj} (hl : κ'.loc id = κ.loc id) (hh : κ'.h[κ.loc id]? = κ.h[κ.loc id]?)
    (h : κ.O E cf id o) : κ'.O E cf id o := by
  cases o with
  | cells cs =>
    obtain ⟨h1, vs, e, h2, h3⟩ := h
    exact ⟨h1, vs, e, by rw [hl, hh]; exact h2, K.VL.le hR hle h3⟩
  | map ks vs =>
    obtain ⟨es, clock, h2, h3, h4⟩ := h
    exact ⟨es, clock, by rw [hl, hh]; exact h2, K.VL.le hR hle h3, K.VL.le hR hle h4⟩
  | arr sz es ep fl =>
    obtain ⟨h1, h2, h3, vs, e, us, rest, h4, h5, h6⟩ := h
    exact ⟨h1, h2, h3, vs, e, us, rest, by rw [hl, hh]; exact h4, h5, K.VL.le hR hle h6⟩

/-- the same memory, the tape alone has gone on -/
theorem K.eta (κ : K) : (⟨κ.h, κ.σ, κ.loc, κ.base⟩ : K) = κ := rfl

/-! ### a block that nobody writes -/
def K.push (κ : K) (o : Obj) : K := ⟨κ.h.push o, κ.σ, κ.loc, κ.base⟩

theorem K.push_le (hR : κ.R E cf) (o : Obj) : κ.Le (κ.push o) :=
  K.Le.of rfl (by simp [K.push]) (fun b hb ho => ⟨by simp [K.push, Array.getElem?_push, Nat.ne_of_lt hb], ho⟩) (Nat.le_refl _)
    (fun id x hx => K.OLe.same hx rfl (by
      have hb := hR.hi id (List.getElem?_eq_some_iff.1 hx).1
      simp [K.push, Array.getElem?_push, Nat.ne_of_lt hb]))

theorem K.push_R (hR : κ.R E cf) (o : Obj) (ho : ∀ c e f, o = .cells c e f → f = (0, 0) := by intro c e f h; cases h; rfl) : (κ.push o).R E cf where
  ok := hR.ok
  obj := fun id x hx => K.O.le hR.lb (K.push_le hR o) rfl (by
      have hb := hR.hi id (List.getElem?_eq_some_iff.1 hx).1
      simp [K.push, Array.getElem?_push, Nat.ne_of_lt hb]) (hR.obj id x hx)
  inj := hR.inj
  lb := fun i hi => ⟨hR.lo i hi, Nat.lt_of_lt_of_le (hR.hi i hi) (by simp [K.push])⟩
  base := Nat.le_trans hR.base (by simp [K.push])
  fz := fun b c e f hb hc => by
    simp only [K.push, Array.getElem?_push] at hc
    split at hc
    · injection hc with hc; exact ho _ _ _ hc
    · exact hR.fz b c e f hb hc

theorem K.push_at (o : Obj) : (κ.push o).h[κ.h.size]? = some o := by simp [K.push]

theorem K.push_safe (hR : κ.R E cf) (o : Obj) (t : Nat) : (κ.push o).safe E t κ.h.size := by
  refine ⟨by simp [K.push], ?_, fun k _ hk ho => ?_⟩
  · rintro ⟨id, hid, hl⟩
    have := hR.hi id hid
    simp only [K.push] at hl
    omega
  · have := hR.ok k _ hk ho
    have := hR.base
    omega

/-! ### a new object -/
def K.new (κ : K) (o : Obj) (x : AObj) : K := ⟨κ.h.push o, κ.σ ++ [x], fun i => if i = κ.σ.length then κ.h.size else κ.loc i, κ.base⟩

theorem K.new_own (hR : κ.R E cf) (o : Obj) (x : AObj) (b : Nat) (hb : b < κ.h.size) (h : ¬ κ.own b) : ¬ (κ.new o x).own b := by
  rintro ⟨id, hid, hl⟩
  simp only [K.new, List.length_append, List.length_singleton] at hid hl
  split at hl
  · omega
  · exact h ⟨id, by omega, hl⟩

theorem K.new_le (hR : κ.R E cf) (o : Obj) (x : AObj) : κ.Le (κ.new o x) :=
  K.Le.of rfl (by simp [K.new]) (fun b hb ho => ⟨by simp [K.new, Array.getElem?_push, Nat.ne_of_lt hb], K.new_own hR o x b hb ho⟩) (by simp [K.new])
    (fun id y hy => by
      have hid := (List.getElem?_eq_some_iff.1 hy).1
      have hb := hR.hi id hid
      exact K.OLe.same (by simp only [K.new]; rw [List.getElem?_append_left hid]; exact hy) (by simp only [K.new]; rw [if_neg (by omega)])
        (by simp [K.new, Array.getElem?_push, Nat.ne_of_lt hb]))

theorem K.new_R (hR : κ.R E cf) (o : Obj) (x : AObj) (hO : (κ.new o x).O E cf κ.σ.length x) : (κ.new o x).R E cf where
  ok := hR.ok
  obj := fun id y hy => by
    simp only [K.new] at hy
    by_cases hid : id < κ.σ.length
    · rw [List.getElem?_append_left hid] at hy
      have hb := hR.hi id hid
      exact K.O.le hR.lb (K.new_le hR o x) (by simp only [K.new]; rw [if_neg (by omega)]) (by simp [K.new, Array.getElem?_push, Nat.ne_of_lt hb]) (hR.obj id y hy)
    · have hlt := (List.getElem?_eq_some_iff.1 hy).1
      simp only [List.length_append, List.length_singleton] at hlt
      obtain rfl : id = κ.σ.length := by omega
      rw [List.getElem?_append_right (Nat.le_refl _)] at hy
      simp at hy
      subst hy
      exact hO
  inj := fun i j hi hj h => by
    simp only [K.new, List.length_append, List.length_singleton] at hi hj h
    split at h <;> split at h
    · omega
    · have := hR.hi j (by omega); omega
    · have := hR.hi i (by omega); omega
    · exact hR.inj i j (by omega) (by omega) h
  lb := fun i hi => by
    simp only [K.new, List.length_append, List.length_singleton, Array.size_push] at hi ⊢
    split
    · exact ⟨hR.base, by omega⟩
    · have := hR.hi i (by omega)
      exact ⟨hR.lo i (by omega), by omega⟩
  base := Nat.le_trans hR.base (by simp [K.new])
  fz := fun b c e f hb hc => by
    by_cases hbb : b = κ.h.size
    · subst hbb
      have : (κ.new o x).loc κ.σ.length = κ.h.size := by simp [K.new]
      exact K.O_fz hO (by rw [this]; exact hc)
    · simp only [K.new, Array.getElem?_push, if_neg hbb] at hc
      exact hR.fz b c e f hb hc

/-! ### an object turned in its block -/
def K.upd (κ : K) (id : Nat) (o : Obj) (x : AObj) : K := ⟨κ.h.setIfInBounds (κ.loc id) o, κ.σ.set id x, κ.loc, κ.base⟩

theorem K.upd_le (hR : κ.R E cf) (id : Nat) (o : Obj) (x y : AObj) (hy : κ.σ[id]? = some y) (hx : κ.OLe (κ.upd id o x) id y) : κ.Le (κ.upd id o x) :=
  K.Le.of rfl (by simp [K.upd]) (fun b hb ho => by
      have hid := (List.getElem?_eq_some_iff.1 hy).1
      refine ⟨?_, ?_⟩
      · simp only [K.upd]
        rw [Array.getElem?_setIfInBounds_ne]
        intro e
        exact ho ⟨id, hid, e⟩
      · rintro ⟨i, hi, hl⟩
        simp only [K.upd, List.length_set] at hi hl
        exact ho ⟨i, hi, hl⟩) (by simp [K.upd])
    (fun i z hz => by
      by_cases h : i = id
      · subst h
        rw [hy] at hz
        cases hz
        exact hx
      · have hi := (List.getElem?_eq_some_iff.1 hz).1
        have hid := (List.getElem?_eq_some_iff.1 hy).1
        refine K.OLe.same ?_ rfl ?_
        · simp only [K.upd]; rw [List.getElem?_set_ne (Ne.symm h)]; exact hz
        · simp only [K.upd]
          rw [Array.getElem?_setIfInBounds_ne]
          intro e
          exact h (hR.inj _ _ hid hi e).symm)

theorem K.upd_R (hR : κ.R E cf) (id : Nat) (o : Obj) (x y : AObj) (hy : κ.σ[id]? = some y) (hle : κ.Le (κ.upd id o x)) (hO : (κ.upd id o x).O E cf id x) : (κ.upd id o x).R E cf where
  ok := hR.ok
  obj := fun i z hz => by
    have hid := (List.getElem?_eq_some_iff.1 hy).1
    simp only [K.upd] at hz
    by_cases h : i = id
    · subst h
      rw [List.getElem?_set_self hid] at hz
      cases hz
      exact hO
    · rw [List.getElem?_set_ne (Ne.symm h)] at hz
      have hi := (List.getElem?_eq_some_iff.1 hz).1
      refine K.O.le hR.lb hle rfl ?_ (hR.obj i z hz)
      simp only [K.upd]
      rw [Array.getElem?_setIfInBounds_ne]
      intro e
      exact h (hR.inj _ _ hid hi e).symm
  inj := fun i j hi hj h => hR.inj i j (by simpa [K.upd] using hi) (by simpa [K.upd] using hj) h
  lb := fun i hi => ⟨hR.lo i (by simpa [K.upd] using hi), by simpa [K.upd] using hR.hi i (by simpa [K.upd] using hi)⟩
  base := by simpa [K.upd] using hR.base
  fz := fun b c e f hb hc => by
    by_cases hbb : b = κ.loc id
    · subst hbb
      exact K.O_fz hO hc
    · simp only [K.upd] at hc
      rw [Array.getElem?_setIfInBounds_ne (fun h => hbb h.symm)] at hc
      exact hR.fz b c e f hb hc

theorem K.upd_at (hR : κ.R E cf) (id : Nat) (o : Obj) (x y : AObj) (hy : κ.σ[id]? = some y) : (κ.upd id o x).h[κ.loc id]? = some o := by
  have := hR.hi id (List.getElem?_eq_some_iff.1 hy).1
  simp [K.upd, Array.getElem?_setIfInBounds_self, this]

theorem K.upd_σ (id : Nat) (o : Obj) (x y : AObj) (hy : κ.σ[id]? = some y) : (κ.upd id o x).σ[id]? = some x := by
  have hid := (List.getElem?_eq_some_iff.1 hy).1
  simp [K.upd, List.getElem?_set_self hid]

/-! ### an object that moves into a new block -/
def K.mov (κ : K) (id : Nat) (o : Obj) (x : AObj) : K := ⟨κ.h.push o, κ.σ.set id x, fun i => if i = id then κ.h.size else κ.loc i, κ.base⟩

theorem K.mov_own (hR : κ.R E cf) (id : Nat) (o : Obj) (x : AObj) (b : Nat) (hb : b < κ.h.size) (h : ∀ i, i < κ.σ.length → i ≠ id → κ.loc i ≠ b) : ¬ (κ.mov id o x).own b := by
  rintro ⟨i, hi, hl⟩
  simp only [K.mov, List.length_set] at hi hl
  split at hl
  · omega
  · exact h i hi ‹_› hl

theorem K.mov_le (hR : κ.R E cf) (id : Nat) (o : Obj) (x y : AObj) (hy : κ.σ[id]? = some y) (hx : κ.OLe (κ.mov id o x) id y) : κ.Le (κ.mov id o x) :=
  K.Le.of rfl (by simp [K.mov]) (fun b hb ho => ⟨by simp [K.mov, Array.getElem?_push, Nat.ne_of_lt hb], K.mov_own hR id o x b hb (fun i hi _ e => ho ⟨i, hi, e⟩)⟩) (by simp [K.mov])
    (fun i z hz => by
      by_cases h : i = id
      · subst h
        rw [hy] at hz
        cases hz
        exact hx
      · have hi := (List.getElem?_eq_some_iff.1 hz).1
        have hb := hR.hi i hi
        refine K.OLe.same ?_ ?_ ?_
        · simp only [K.mov]; rw [List.getElem?_set_ne (Ne.symm h)]; exact hz
        · simp only [K.mov]; rw [if_neg h]
        · simp [K.mov, Array.getElem?_push, Nat.ne_of_lt hb])

theorem K.mov_R (hR : κ.R E cf) (id : Nat) (o : Obj) (x y : AObj) (hy : κ.σ[id]? = some y) (hle : κ.Le (κ.mov id o x)) (hO : (κ.mov id o x).O E cf id x) : (κ.mov id o x).R E cf where
  ok := hR.ok
  obj := fun i z hz => by
    have hid := (List.getElem?_eq_some_iff.1 hy).1
    simp only [K.mov] at hz
    by_cases h : i = id
    · subst h
      rw [List.getElem?_set_self hid] at hz
      cases hz
      exact hO
    · rw [List.getElem?_set_ne (Ne.symm h)] at hz
      have hi := (List.getElem?_eq_some_iff.1 hz).1
      have hb := hR.hi i hi
      refine K.O.le hR.lb hle (by simp only [K.mov]; rw [if_neg h]) (by simp [K.mov, Array.getElem?_push, Nat.ne_of_lt hb]) (hR.obj i z hz)
  inj := fun i j hi hj h => by
    simp only [K.mov, List.length_set] at hi hj h
    split at h <;> split at h
    · omega
    · have := hR.hi j hj; omega
    · have := hR.hi i hi; omega
    · exact hR.inj i j hi hj h
  lb := fun i hi => by
    simp only [K.mov, List.length_set, Array.size_push] at hi ⊢
    split
    · exact ⟨hR.base, by omega⟩
    · have := hR.hi i hi
      exact ⟨hR.lo i hi, by omega⟩
  base := Nat.le_trans hR.base (by simp [K.mov])
  fz := fun b c e f hb hc => by
    by_cases hbb : b = κ.h.size
    · subst hbb
      have : (κ.mov id o x).loc id = κ.h.size := by simp [K.mov]
      exact K.O_fz hO (by rw [this]; exact hc)
    · simp only [K.mov, Array.getElem?_push, if_neg hbb] at hc
      exact hR.fz b c e f hb hc

end
end Go.Proofs.Ytmocplkpnickgaa.Am
