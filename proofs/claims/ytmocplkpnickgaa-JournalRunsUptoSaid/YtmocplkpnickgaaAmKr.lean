/-
  THE ABSTRACT MACHINE, part 4: the store in memory, and how both go on.
-/
import Derived.Test.YtmocplkpnickgaaAmRel
namespace Go.Proofs.Ytmocplkpnickgaa.Am
open Go
set_option linter.unusedVariables false
set_option linter.unusedSimpArgs false

/-- the memory, the store, and where its objects lie -/
structure K where
  h : Array Obj
  σ : Store
  loc : Nat → Nat
  base : Nat

/-- what stays through a call: how deep it is, and which blocks the calls around it may write -/
structure Env where
  d : Nat
  out : Nat → Nat → Prop

def K.own (κ : K) (b : Nat) : Prop := ∃ id, id < κ.σ.length ∧ κ.loc id = b

def K.safe (κ : K) (E : Env) (t b : Nat) : Prop := b < κ.h.size ∧ ¬ κ.own b ∧ ∀ k, t ≤ k → k < E.d → ¬ E.out k b

/-- the place of an array's elements from off on, as one sees it who saw the array when it had grown ep times -/
def K.At (κ : K) (id sz ep epo b o off reach : Nat) (z : Prop) : Prop :=
  (b = κ.loc id ∧ (o = off * sz ∨ z)) ∨
  (ep < epo ∧ ¬ κ.own b ∧ (κ.base ≤ b ∧ b < κ.h.size) ∧ (z ∨ ∀ j, j < reach * sz → cellAt κ.h b (o + j) = cellAt κ.h (κ.loc id) (off * sz + j)))

def K.Sl (κ : K) (sz id ep off len : Nat) (cap : Option Nat) (b o cap' : Nat) : Prop :=
  len ≤ cap' ∧ (∀ c, cap = some c → cap' = c) ∧ 0 < sz ∧
    ∃ es epo fl, κ.σ[id]? = some (.arr sz es epo fl) ∧ ep ≤ epo ∧
      (fl ≤ ep → off + cap.getD len ≤ es.length ∧ κ.At id sz ep epo b o off (cap.getD len) (cap' = 0) ∧
        (ep = epo → cap = none → es.length ≤ off + cap' ∧ ∀ vs e f, κ.h[κ.loc id]? = some (.cells vs e f) → (off + cap') * sz ≤ vs.size))

def K.El (κ : K) (id ep i b o : Nat) : Prop :=
  ∃ sz es epo fl, κ.σ[id]? = some (.arr sz es epo fl) ∧ ep ≤ epo ∧ (fl ≤ ep → i < es.length ∧ κ.At id sz ep epo b o i 1 False)

def K.ids (κ : K) : Ids where
  ptr id b := (∃ cs, κ.σ[id]? = some (.cells cs)) ∧ κ.loc id = b
  sl sz id ep off len cap b o cap' := κ.Sl sz id ep off len cap b o cap'
  el id ep i b o := κ.El id ep i b o
  mp id b := (∃ ks vs, κ.σ[id]? = some (.map ks vs)) ∧ κ.loc id = b

abbrev K.V (κ : K) (E : Env) (cf : FuncId → FuncId) (v : AVal) (cv : Value) : Prop := VRel cf κ.h (κ.safe E) κ.ids v cv
abbrev K.VL (κ : K) (E : Env) (cf : FuncId → FuncId) (v : List AVal) (cv : List Value) : Prop := VRelL cf κ.h (κ.safe E) κ.ids v cv

def K.O (κ : K) (E : Env) (cf : FuncId → FuncId) (id : Nat) : AObj → Prop
  | .cells cs => AVal.allOne cs ∧ ∃ vs e, κ.h[κ.loc id]? = some (.cells vs e (0, 0)) ∧ κ.VL E cf cs vs.toList
  | .arr sz es ep fl => fl ≤ ep ∧ 0 < sz ∧ AVal.elemsOk sz es ∧ ∃ vs e us rest, κ.h[κ.loc id]? = some (.cells vs e (0, 0)) ∧ vs.toList = us ++ rest ∧ κ.VL E cf (es.flatMap AVal.cells) us
  | .map ks vs => ∃ es clock, κ.h[κ.loc id]? = some (.map es clock) ∧ κ.VL E cf ks (es.toList.map (·.key)) ∧ κ.VL E cf vs (es.toList.map (·.val))

/-- its own blocks are those made since the call began -/
def K.Lb (κ : K) : Prop := ∀ i, i < κ.σ.length → κ.base ≤ κ.loc i ∧ κ.loc i < κ.h.size

structure K.R (κ : K) (E : Env) (cf : FuncId → FuncId) : Prop where
  ok : ∀ k b, k < E.d → E.out k b → b < κ.base
  obj : ∀ id o, κ.σ[id]? = some o → κ.O E cf id o
  inj : ∀ i j, i < κ.σ.length → j < κ.σ.length → κ.loc i = κ.loc j → i = j
  lb : κ.Lb
  base : κ.base ≤ κ.h.size
  fz : ∀ b c e f, κ.base ≤ b → κ.h[b]? = some (.cells c e f) → f = (0, 0)

theorem K.O_fz {κ : K} {E : Env} {cf : FuncId → FuncId} {id : Nat} {x : AObj} (h : κ.O E cf id x) {c : Array Value} {e : TypeId} {f : Nat × Nat} (hc : κ.h[κ.loc id]? = some (.cells c e f)) : f = (0, 0) := by
  cases x with
  | cells cs =>
    obtain ⟨_, vs, e', h2, _⟩ := h
    rw [h2] at hc; injection hc with hc; injection hc with _ _ h3; exact h3.symm
  | arr sz es ep fl =>
    obtain ⟨_, _, _, vs, e', us, rest, h2, _⟩ := h
    rw [h2] at hc; injection hc with hc; injection hc with _ _ h3; exact h3.symm
  | map ks vs =>
    obtain ⟨es, clock, h2, _⟩ := h
    rw [h2] at hc; injection hc with hc; cases hc

theorem K.R.hi {κ : K} {E : Env} {cf : FuncId → FuncId} (h : κ.R E cf) (i : Nat) (hi : i < κ.σ.length) : κ.loc i < κ.h.size := (h.lb i hi).2
theorem K.R.lo {κ : K} {E : Env} {cf : FuncId → FuncId} (h : κ.R E cf) (i : Nat) (hi : i < κ.σ.length) : κ.base ≤ κ.loc i := (h.lb i hi).1

structure K.Le (κ κ' : K) : Prop where
  base : κ'.base = κ.base
  size : κ.h.size ≤ κ'.h.size
  keep : ∀ b, b < κ.h.size → ¬ κ.own b → κ'.h[b]? = κ.h[b]? ∧ ¬ κ'.own b
  len : κ.σ.length ≤ κ'.σ.length
  cells : ∀ id cs, κ.σ[id]? = some (.cells cs) → (∃ cs', κ'.σ[id]? = some (.cells cs')) ∧ κ'.loc id = κ.loc id
  map : ∀ id ks vs, κ.σ[id]? = some (.map ks vs) → (∃ ks' vs', κ'.σ[id]? = some (.map ks' vs')) ∧ κ'.loc id = κ.loc id
  arr : ∀ id sz es ep fl, κ.σ[id]? = some (.arr sz es ep fl) → ∃ es' ep' fl', κ'.σ[id]? = some (.arr sz es' ep' fl') ∧ ep ≤ ep' ∧ fl ≤ fl' ∧ es.length ≤ es'.length ∧
    (ep' = ep → κ'.loc id = κ.loc id ∧ es'.length = es.length ∧ ∀ vs' e' f', κ'.h[κ.loc id]? = some (.cells vs' e' f') → ∃ vs e f, κ.h[κ.loc id]? = some (.cells vs e f) ∧ vs'.size = vs.size) ∧
    (fl' ≤ ep → ep < ep' → κ'.loc id = κ.loc id ∨ (¬ κ'.own (κ.loc id) ∧ ∀ j, j < es.length * sz → cellAt κ'.h (κ.loc id) j = cellAt κ'.h (κ'.loc id) j)) ∧
    (fl' < ep → ∀ j, j < es.length * sz → cellAt κ'.h (κ'.loc id) j = cellAt κ.h (κ.loc id) j)

theorem K.Le.refl (κ : K) : κ.Le κ where
  base := rfl
  size := Nat.le_refl _
  keep := fun _ _ h => ⟨rfl, h⟩
  len := Nat.le_refl _
  cells := fun _ cs h => ⟨⟨cs, h⟩, rfl⟩
  map := fun _ ks vs h => ⟨⟨ks, vs, h⟩, rfl⟩
  arr := fun _ _ es ep fl h => ⟨es, ep, fl, h, Nat.le_refl _, Nat.le_refl _, Nat.le_refl _, fun _ => ⟨rfl, rfl, fun vs e f hv => ⟨vs, e, f, hv, rfl⟩⟩, fun _ _ => .inl rfl, fun _ _ _ => rfl⟩

theorem K.Le.trans {κ κ' κ'' : K} (h0 : κ.Lb) (h1 : κ.Le κ') (h2 : κ'.Le κ'') : κ.Le κ'' where
  base := h2.base.trans h1.base
  size := Nat.le_trans h1.size h2.size
  keep := fun b hb ho => by
    obtain ⟨e1, o1⟩ := h1.keep b hb ho
    obtain ⟨e2, o2⟩ := h2.keep b (Nat.lt_of_lt_of_le hb h1.size) o1
    exact ⟨e2.trans e1, o2⟩
  len := Nat.le_trans h1.len h2.len
  cells := fun id cs h => by
    obtain ⟨⟨cs', h'⟩, l1⟩ := h1.cells id cs h
    obtain ⟨hc, l2⟩ := h2.cells id cs' h'
    exact ⟨hc, l2.trans l1⟩
  map := fun id ks vs h => by
    obtain ⟨⟨ks', vs', h'⟩, l1⟩ := h1.map id ks vs h
    obtain ⟨hc, l2⟩ := h2.map id ks' vs' h'
    exact ⟨hc, l2.trans l1⟩
  arr := fun id sz es ep fl h => by
    obtain ⟨es1, ep1, fl1, g1, a1, b1, c1, d1, e1, f1⟩ := h1.arr id sz es ep fl h
    obtain ⟨es2, ep2, fl2, g2, a2, b2, c2, d2, e2, f2⟩ := h2.arr id sz es1 ep1 fl1 g1
    have hid : id < κ.σ.length := (List.getElem?_eq_some_iff.1 h).1
    have hlt := (h0 id hid).2
    refine ⟨es2, ep2, fl2, g2, Nat.le_trans a1 a2, Nat.le_trans b1 b2, Nat.le_trans c1 c2, ?_, ?_, ?_⟩
    · intro he
      have he1 : ep1 = ep := by omega
      have he2 : ep2 = ep1 := by omega
      obtain ⟨x1, x2, x3⟩ := d1 he1
      obtain ⟨y1, y2, y3⟩ := d2 he2
      refine ⟨y1.trans x1, y2.trans x2, fun vs'' e'' f'' hv => ?_⟩
      rw [← x1] at hv
      obtain ⟨vs', e', f', hv', hs'⟩ := y3 vs'' e'' f'' hv
      rw [x1] at hv'
      obtain ⟨vs, e, f, hv, hs⟩ := x3 vs' e' f' hv'
      exact ⟨vs, e, f, hv, hs'.trans hs⟩
    · intro hf hlt2
      by_cases he1 : ep1 = ep
      · obtain ⟨x1, x2, _⟩ := d1 he1
        rcases e2 (by omega) (by omega) with y | ⟨yo, yc⟩
        · exact .inl (y.trans x1)
        · rw [x1] at yo yc
          exact .inr ⟨yo, fun j hj => yc j (by rw [x2]; exact hj)⟩
      · have hC := f2 (by omega)
        rcases e1 (by omega) (by omega) with x | ⟨xo, xc⟩
        · by_cases he2 : ep2 = ep1
          · exact .inl ((d2 he2).1.trans x)
          · rcases e2 (by omega) (by omega) with y | ⟨yo, yc⟩
            · exact .inl (y.trans x)
            · rw [x] at yo yc
              exact .inr ⟨yo, fun j hj => yc j (Nat.lt_of_lt_of_le hj (Nat.mul_le_mul_right _ c1))⟩
        · obtain ⟨k1, k2⟩ := h2.keep (κ.loc id) (Nat.lt_of_lt_of_le hlt h1.size) xo
          exact .inr ⟨k2, fun j hj => by
            rw [cellAt_congr k1, xc j hj, hC j (Nat.lt_of_lt_of_le hj (Nat.mul_le_mul_right _ c1))]⟩
    · intro hf j hj
      have A := f2 (by omega) j (Nat.lt_of_lt_of_le hj (Nat.mul_le_mul_right _ c1))
      have B := f1 (by omega) j hj
      exact A.trans B

section
variable {κ κ' : K} {E : Env} {cf : FuncId → FuncId}

theorem K.safe_le (hle : κ.Le κ') (t b : Nat) (h : κ.safe E t b) : κ'.safe E t b ∧ κ'.h[b]? = κ.h[b]? :=
  ⟨⟨Nat.lt_of_lt_of_le h.1 hle.size, (hle.keep b h.1 h.2.1).2, h.2.2⟩, (hle.keep b h.1 h.2.1).1⟩

theorem K.At_le (hle : κ.Le κ') {z : Prop} {id sz ep epo epo' b o off reach n : Nat} {fl' : Nat} {es : List AVal} (hes : κ.σ[id]? = some (.arr sz es epo n))
    {es' : List AVal} (hes' : κ'.σ[id]? = some (.arr sz es' epo' fl')) (hlt : κ.base ≤ κ.loc id ∧ κ.loc id < κ.h.size) (hep : ep ≤ epo) (hfl : fl' ≤ ep) (hreach : off + reach ≤ es.length) (h : κ.At id sz ep epo b o off reach z) :
    κ'.At id sz ep epo' b o off reach z := by
  obtain ⟨es1, ep1, fl1, g1, a1, b1, c1, d1, e1, f1⟩ := hle.arr id sz es epo n hes
  rw [hes'] at g1
  obtain ⟨_, rfl, rfl, rfl⟩ : sz = sz ∧ es' = es1 ∧ epo' = ep1 ∧ fl' = fl1 := by injection g1 with g1; injection g1 with a b c d; exact ⟨rfl, b, c, d⟩
  have hm : off * sz + reach * sz ≤ es.length * sz := by rw [← Nat.add_mul]; exact Nat.mul_le_mul_right _ hreach
  rcases h with ⟨rfl, hz⟩ | ⟨h1, h2, h3, h4⟩
  · by_cases he : epo' = epo
    · exact .inl ⟨(d1 he).1.symm, hz⟩
    · rcases e1 (by omega) (by omega) with x | ⟨xo, xc⟩
      · exact .inl ⟨x.symm, hz⟩
      · exact .inr ⟨by omega, xo, ⟨by rw [hle.base]; exact hlt.1, Nat.lt_of_lt_of_le hlt.2 hle.size⟩, hz.symm.imp (fun x => x) (fun ho j hj => by subst ho; exact xc _ (by omega))⟩
  · obtain ⟨k1, k2⟩ := hle.keep b h3.2 h2
    exact .inr ⟨by omega, k2, ⟨by rw [hle.base]; exact h3.1, Nat.lt_of_lt_of_le h3.2 hle.size⟩, h4.imp (fun x => x) (fun h4 j hj => by
      rw [cellAt_congr k1, h4 j hj, f1 (by omega) _ (by omega)])⟩

theorem K.ids_le (hR : κ.Lb) (hle : κ.Le κ') : κ.ids.le κ'.ids where
  ptr := fun id b ⟨⟨cs, h⟩, hl⟩ => ⟨(hle.cells id cs h).1, (hle.cells id cs h).2.trans hl⟩
  mp := fun id b ⟨⟨ks, vs, h⟩, hl⟩ => ⟨(hle.map id ks vs h).1, (hle.map id ks vs h).2.trans hl⟩
  el := fun id ep i b o ⟨sz, es, epo, fl, h, hep, hx⟩ => by
    obtain ⟨es1, ep1, fl1, g1, a1, b1, c1, d1, e1, f1⟩ := hle.arr id sz es epo fl h
    refine ⟨sz, es1, ep1, fl1, g1, by omega, fun hf => ?_⟩
    obtain ⟨hi, hat⟩ := hx (by omega)
    exact ⟨by omega, K.At_le hle h g1 (hR id (List.getElem?_eq_some_iff.1 h).1) hep hf (by omega) hat⟩
  sl := fun sz id ep off len cap b o cap' ⟨hl, hc, hsz, es, epo, fl, h, hep, hx⟩ => by
    obtain ⟨es1, ep1, fl1, g1, a1, b1, c1, d1, e1, f1⟩ := hle.arr id sz es epo fl h
    refine ⟨hl, hc, hsz, es1, ep1, fl1, g1, by omega, fun hf => ?_⟩
    obtain ⟨hr, hat, hx2⟩ := hx (by omega)
    refine ⟨by omega, K.At_le hle h g1 (hR id (List.getElem?_eq_some_iff.1 h).1) hep hf (by omega) hat, fun he hn => ?_⟩
    have he1 : ep1 = epo := by omega
    obtain ⟨x1, x2, x3⟩ := d1 he1
    obtain ⟨y1, y2⟩ := hx2 (by omega) hn
    refine ⟨by omega, fun vs e f hv => ?_⟩
    rw [x1] at hv
    obtain ⟨vs0, e0, f0, hv0, hs⟩ := x3 vs e f hv
    rw [hs]
    exact y2 vs0 e0 f0 hv0

theorem K.V.le (hR : κ.Lb) (hle : κ.Le κ') {v : AVal} {cv : Value} (h : κ.V E cf v cv) : κ'.V E cf v cv :=
  VRel.mono (K.safe_le hle) (K.ids_le hR hle) h

theorem K.VL.le (hR : κ.Lb) (hle : κ.Le κ') {v : List AVal} {cv : List Value} (h : κ.VL E cf v cv) : κ'.VL E cf v cv :=
  VRelL.mono (K.safe_le hle) (K.ids_le hR hle) h
end

end Go.Proofs.Ytmocplkpnickgaa.Am
