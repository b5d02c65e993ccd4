/-
  THE ABSTRACT MACHINE, part 33: slices by their elements, stores that keep what they had.
-/
import Derived.Test.YtmocplkpnickgaaAmSp
namespace Go.Proofs.Ytmocplkpnickgaa.Am
open Go
set_option linter.unusedVariables false
set_option linter.unusedSimpArgs false

/-- the object a slice lies in -/
def AVal.sid : AVal → Option Nat
  | .slice _ id _ _ _ _ => some id
  | _ => none

structure SlOf (σ : Store) (sz : Nat) (v : AVal) (es : List AVal) : Prop where
  els : elems sz σ v = some es
  len : lenSV v = some es.length
  cap : ∀ s id ep off len c, v = .slice s id ep off len (some c) → len ≤ c

def addrOf (sz : Nat) (v : AVal) (i : Nat) : AVal := (iaddrV sz v (.int .i64 i)).getD .undef

def Keeps (M : Nat → Prop) (σ σ' : Store) : Prop := σ.length ≤ σ'.length ∧ ∀ i, i < σ.length → ¬ M i → σ'[i]? = σ[i]?
abbrev Grows (σ σ' : Store) : Prop := Keeps (fun _ => False) σ σ'

theorem Keeps.refl (M : Nat → Prop) (σ : Store) : Keeps M σ σ := ⟨Nat.le_refl _, fun _ _ _ => rfl⟩
theorem Keeps.trans {M M' : Nat → Prop} {σ σ1 σ2 : Store} (h : Keeps M σ σ1) (h' : Keeps M' σ1 σ2) (hm : ∀ i, i < σ.length → M' i → M i) : Keeps M σ σ2 :=
  ⟨Nat.le_trans h.1 h'.1, fun i hi hn => (h'.2 i (Nat.lt_of_lt_of_le hi h.1) (fun hx => hn (hm i hi hx))).trans (h.2 i hi hn)⟩
theorem Keeps.mono {M M' : Nat → Prop} {σ σ' : Store} (h : Keeps M σ σ') (hm : ∀ i, i < σ.length → M i → M' i) : Keeps M' σ σ' := ⟨h.1, fun i hi hn => h.2 i hi fun hx => hn (hm i hi hx)⟩
theorem Grows.trans {σ σ1 σ2 : Store} (h : Grows σ σ1) (h' : Grows σ1 σ2) : Grows σ σ2 := Keeps.trans h h' fun _ _ h => h
theorem Grows.any {M : Nat → Prop} {σ σ' : Store} (h : Grows σ σ') : Keeps M σ σ' := h.mono fun _ _ h => h.elim
theorem Grows.app (σ : Store) (xs : List AObj) : Grows σ (σ ++ xs) := ⟨by simp, fun i hi _ => List.getElem?_append_left hi⟩
theorem Grows.get {σ σ' : Store} (h : Grows σ σ') {i : Nat} {o : AObj} (ho : σ[i]? = some o) : σ'[i]? = some o := by
  rw [h.2 i (List.getElem?_eq_some_iff.1 ho).1 (fun h => h)]; exact ho
theorem Keeps.get {M : Nat → Prop} {σ σ' : Store} (h : Keeps M σ σ') {i : Nat} {o : AObj} (ho : σ[i]? = some o) (hm : ¬ M i) : σ'[i]? = some o := by
  rw [h.2 i (List.getElem?_eq_some_iff.1 ho).1 hm]; exact ho
theorem Keeps.set (σ : Store) (id : Nat) (o : AObj) : Keeps (fun i => i = id) σ (σ.set id o) :=
  ⟨by simp, fun i hi hn => List.getElem?_set_ne (fun h => hn h.symm)⟩

section
variable {σ σ' : Store} {sz : Nat} {v : AVal} {es : List AVal}

theorem SlOf.nil (σ : Store) (sz : Nat) : SlOf σ sz .nilslice [] := ⟨rfl, rfl, fun _ _ _ _ _ _ h => by cases h⟩
theorem SlOf.fs (σ : Store) (sz t : Nat) (full : Bool) (es : List AVal) : SlOf σ sz (.fslice t full sz es) es := ⟨by simp, rfl, fun _ _ _ _ _ _ h => by cases h⟩

theorem SlOf.cases (h : SlOf σ sz v es) : (v = .nilslice ∧ es = []) ∨ (∃ t full, v = .fslice t full sz es) ∨
    ∃ id ep off cap sz' as epo fl, v = .slice sz id ep off es.length cap ∧ σ[id]? = some (.arr sz' as epo fl) ∧ fl ≤ ep ∧ es = (as.drop off).take es.length ∧ (0 < es.length → off + es.length ≤ as.length) ∧ es.length ≤ cap.getD es.length := by
  obtain ⟨h1, h2, h3⟩ := h
  cases v <;> simp only [elems, reduceCtorEq] at h1
  · left; simp at h1; exact ⟨rfl, h1⟩
  · rename_i s id ep off len cap
    right; right
    simp only [lenSV, Option.some.injEq] at h2
    subst h2
    split at h1
    · rename_i s' as epo fl ho
      split at h1
      · rename_i hc
        injection h1 with h1
        obtain ⟨rfl, hf⟩ := hc
        refine ⟨id, ep, off, cap, s', as, epo, fl, rfl, ho, hf, h1.symm, fun h0 => ?_, ?_⟩
        · have := congrArg List.length h1
          simp only [List.length_take, List.length_drop] at this
          omega
        · cases cap with
          | none => exact Nat.le_refl _
          | some c => exact h3 _ _ _ _ _ _ rfl
      · cases h1
    · cases h1
  · rename_i t full s es'
    right; left
    split at h1
    · rename_i hc; subst hc; injection h1 with h1; subst h1; exact ⟨t, full, rfl⟩
    · cases h1

theorem SlOf.keep (h : SlOf σ sz v es) (hk : ∀ id, v.sid = some id → σ'[id]? = σ[id]?) : SlOf σ' sz v es := by
  refine ⟨?_, h.len, h.cap⟩
  rw [← h.els]
  cases v <;> try rfl
  rename_i s id ep off len cap
  simp only [elems, hk id rfl]

theorem SlOf.grow (h : SlOf σ sz v es) (hk : Grows σ σ') : SlOf σ' sz v es := by
  refine h.keep fun id hid => ?_
  rcases h.cases with ⟨rfl, _⟩ | ⟨t, full, rfl⟩ | ⟨id', ep, off, cap, sz', as, epo, fl, rfl, ho, _⟩
  · cases hid
  · cases hid
  · injection hid with hid; subst hid
    rw [hk.get ho, ho]

theorem SlOf.lt (h : SlOf σ sz v es) {id : Nat} (hid : v.sid = some id) : id < σ.length := by
  rcases h.cases with ⟨rfl, _⟩ | ⟨t, full, rfl⟩ | ⟨id', ep, off, cap, sz', as, epo, fl, rfl, ho, _⟩
  · cases hid
  · cases hid
  · injection hid with hid; subst hid; exact (List.getElem?_eq_some_iff.1 ho).1

theorem SlOf.keeps {M : Nat → Prop} (h : SlOf σ sz v es) (hk : Keeps M σ σ') (hm : ∀ id, v.sid = some id → ¬ M id) : SlOf σ' sz v es :=
  h.keep fun id hid => hk.2 id (h.lt hid) (hm id hid)

/-- an element's place, and what lies there -/
theorem SlOf.addr (h : SlOf σ sz v es) {i : Nat} (hi : i < es.length) (k : IntKind) : iaddrV sz v (.int k i) = some (addrOf sz v i) ∧ behind σ (addrOf sz v i) = some ((es[i]).cells, 0) := by
  rcases h.cases with ⟨rfl, rfl⟩ | ⟨t, full, rfl⟩ | ⟨id, ep, off, cap, sz', as, epo, fl, rfl, ho, hf, he, hl, hcp⟩
  · simp at hi
  · simp [addrOf, iaddrV, List.getElem?_eq_getElem hi]
  · have h2 : off + i < as.length := by have := hl (by omega); omega
    have h3 : es[i] = as[off + i] := by
      have h4 : es[i]? = as[off + i]? := by rw [he, List.getElem?_take_of_lt hi, List.getElem?_drop]
      rw [List.getElem?_eq_getElem hi, List.getElem?_eq_getElem h2] at h4
      exact Option.some.inj h4
    simp [addrOf, iaddrV, hi, ho, hf, List.getElem?_eq_getElem h2, h3]

theorem SlOf.iaddr (h : SlOf σ sz v es) {i : Nat} (hi : i < es.length) (k : IntKind) : iaddrV sz v (.int k i) = some (addrOf sz v i) := (h.addr hi k).1
theorem SlOf.load (h : SlOf σ sz v es) {i : Nat} (hi : i < es.length) (n : Nat) (agg : Bool) : loadV σ n agg (addrOf sz v i) = ld (es[i]).cells 0 n agg := by
  simp only [loadV, (h.addr hi .i64).2]
theorem SlOf.load1 (h : SlOf σ sz v es) {i : Nat} (hi : i < es.length) (h1 : (es[i]).one = true) (n : Nat) : loadV σ n false (addrOf sz v i) = some es[i] := by
  rw [h.load hi]
  cases he : es[i] <;> simp_all [AVal.one]
theorem SlOf.loadA (h : SlOf σ sz v es) {i : Nat} (hi : i < es.length) {cs : List AVal} (h1 : es[i] = .agg cs) : loadV σ cs.length true (addrOf sz v i) = some (.agg cs) := by
  rw [h.load hi, h1]; simp

/-- a part of a slice -/
theorem SlOf.sub (h : SlOf σ sz v es) {lo hi : Nat} (h1 : lo ≤ hi) (h2 : hi ≤ es.length) (k j : IntKind) : ∃ v', sliceV sz v (some (.int k lo)) (some (.int j hi)) none = some v' ∧ SlOf σ sz v' ((es.take hi).drop lo) ∧ (∀ id, v'.sid = some id → v.sid = some id) := by
  rcases h.cases with ⟨rfl, rfl⟩ | ⟨t, full, rfl⟩ | ⟨id, ep, off, cap, sz', as, epo, fl, rfl, ho, hf, he, hl, hcp⟩
  · have : hi = 0 := by simpa using h2
    subst this
    have : lo = 0 := by omega
    subst this
    exact ⟨.nilslice, by simp, by simpa using SlOf.nil σ sz, fun id h => by cases h⟩
  · refine ⟨.fslice t (full && hi == es.length) sz ((es.take hi).drop lo), ?_, SlOf.fs _ _ _ _ _, fun id h => by cases h⟩
    have e1 : (0 : Int) ≤ (lo : Int) ∧ (lo : Int) ≤ (hi : Int) := by omega
    have e2 : (0 : Int) ≤ (hi : Int) ∧ (hi : Int) ≤ (es.length : Int) := by omega
    simp [sliceV, e1, e2]
  · refine ⟨.slice sz id ep (off + lo) (hi - lo) (cap.map (· - lo)), ?_, ⟨?_, ?_, ?_⟩, fun i hid => by simpa [AVal.sid] using hid⟩
    · have e1 : (0 : Int) ≤ (lo : Int) ∧ (lo : Int) ≤ (hi : Int) := by omega
      have e2 : (0 : Int) ≤ (hi : Int) ∧ (hi : Int) ≤ (es.length : Int) := by omega
      have e3 : (0 : Int) ≤ (hi : Int) ∧ (hi : Int) ≤ ((cap.getD es.length : Nat) : Int) := by omega
      simp [sliceV, e1, e2, e3]
    · simp only [elems, ho, hf, and_self, if_true]
      congr 1
      conv => rhs; rw [he]
      rw [List.take_take, Nat.min_eq_left h2, List.drop_take, List.drop_drop]
    · simp [lenSV]; omega
    · intro s id' ep' off' len c hc
      injection hc with _ _ _ _ e5 e6
      cases cap with
      | none => cases e6
      | some c' =>
        simp only [Option.map_some, Option.some.injEq] at e6
        simp only [Option.getD_some] at hcp
        omega

theorem obnd_some (d y : Nat) {n : Nat} (k : IntKind) (h : n ≤ y) : obnd d y (some (.int k n)) = some n := by
  have e : (0 : Int) ≤ (n : Int) ∧ (n : Int) ≤ (y : Int) := by omega
  simp [obnd, bnd, e]

theorem obnd_none (d y : Nat) : obnd d y none = some d := rfl

theorem SlOf.sub_lo (h : SlOf σ sz v es) {lo : Nat} (h1 : lo ≤ es.length) (k : IntKind) : ∃ v', sliceV sz v (some (.int k lo)) none none = some v' ∧ SlOf σ sz v' (es.drop lo) ∧ (∀ id, v'.sid = some id → v.sid = some id) := by
  obtain ⟨v', h2, h3, h4⟩ := h.sub h1 (Nat.le_refl _) k .i64
  refine ⟨v', ?_, by simpa using h3, h4⟩
  rw [← h2]
  rcases h.cases with ⟨rfl, rfl⟩ | ⟨t, full, rfl⟩ | ⟨id, ep, off, cap, sz', as, epo, fl, rfl, ho, hf, he, hl, hcp⟩
  · simp [sliceV]
  · simp only [sliceV, obnd_none, obnd_some _ _ _ (Nat.le_refl es.length)]
  · simp only [sliceV, obnd_none, obnd_some _ _ _ hcp]

theorem SlOf.sub_hi (h : SlOf σ sz v es) {hi : Nat} (h1 : hi ≤ es.length) (k : IntKind) : ∃ v', sliceV sz v none (some (.int k hi)) none = some v' ∧ SlOf σ sz v' (es.take hi) ∧ (∀ id, v'.sid = some id → v.sid = some id) := by
  obtain ⟨v', h2, h3, h4⟩ := h.sub (Nat.zero_le hi) h1 .i64 k
  refine ⟨v', ?_, by simpa using h3, h4⟩
  rw [← h2]
  rcases h.cases with ⟨rfl, rfl⟩ | ⟨t, full, rfl⟩ | ⟨id, ep, off, cap, sz', as, epo, fl, rfl, ho, hf, he, hl, hcp⟩ <;> simp [sliceV]

/-- .. with its capacity cut to its length -/
theorem SlOf.sub3 (h : SlOf σ sz v es) {lo hi : Nat} (h1 : lo ≤ hi) (h2 : hi ≤ es.length) (k j l : IntKind) : ∃ v', sliceV sz v (some (.int k lo)) (some (.int j hi)) (some (.int l hi)) = some v' ∧ SlOf σ sz v' ((es.take hi).drop lo) ∧ (∀ id, v'.sid = some id → v.sid = some id) := by
  rcases h.cases with ⟨rfl, rfl⟩ | ⟨t, full, rfl⟩ | ⟨id, ep, off, cap, sz', as, epo, fl, rfl, ho, hf, he, hl, hcp⟩
  · have : hi = 0 := by simpa using h2
    subst this
    have : lo = 0 := by omega
    subst this
    exact ⟨.nilslice, by simp, by simpa using SlOf.nil σ sz, fun id h => by cases h⟩
  · refine ⟨.fslice t true sz ((es.take hi).drop lo), ?_, SlOf.fs _ _ _ _ _, fun id h => by cases h⟩
    simp only [sliceV, if_true, obnd_some _ _ _ h2, obnd_some _ _ _ h1, obnd_some _ _ _ (Nat.le_refl hi)]
    simp
  · refine ⟨.slice sz id ep (off + lo) (hi - lo) (some (hi - lo)), ?_, ⟨?_, ?_, ?_⟩, fun i hid => by simpa [AVal.sid] using hid⟩
    · simp only [sliceV, if_true, obnd_some _ _ _ (Nat.le_trans h2 hcp), obnd_some _ _ _ h1, obnd_some _ _ _ (Nat.le_refl hi)]
      simp
    · simp only [elems, ho, hf, and_self, if_true]
      congr 1
      conv => rhs; rw [he]
      rw [List.take_take, Nat.min_eq_left h2, List.drop_take, List.drop_drop]
    · simp [lenSV]; omega
    · intro s id' ep' off' len c hc
      injection hc with _ _ _ _ e5 e6
      injection e6 with e6
      omega

/-- a slice that can be appended to: it is a whole array of its own, or has no room behind it -/
structure Own (σ : Store) (sz : Nat) (v : AVal) (es : List AVal) : Prop where
  own : (v = .nilslice ∧ es = []) ∨ (∃ t, v = .fslice t true sz es) ∨
    ∃ id ep off cap as' epo fl, v = .slice sz id ep off es.length cap ∧ σ[id]? = some (.arr sz as' epo fl) ∧ fl ≤ ep ∧ es = (as'.drop off).take es.length ∧ (0 < es.length → off + es.length ≤ as'.length) ∧
      ((cap = none ∧ off = 0 ∧ as' = es ∧ epo = ep) ∨ cap = some es.length)

theorem Own.nil (σ : Store) (sz : Nat) : Own σ sz .nilslice [] := ⟨.inl ⟨rfl, rfl⟩⟩
theorem Own.lit (σ : Store) (sz t : Nat) (es : List AVal) : Own σ sz (.fslice t true sz es) es := ⟨.inr (.inl ⟨t, rfl⟩)⟩
theorem Own.whole {σ : Store} {sz id ep fl : Nat} {es : List AVal} (h : σ[id]? = some (.arr sz es ep fl)) (hf : fl ≤ ep) : Own σ sz (.slice sz id ep 0 es.length none) es :=
  ⟨.inr (.inr ⟨id, ep, 0, none, es, ep, fl, rfl, h, hf, by simp, fun _ => by simp, .inl ⟨rfl, rfl, rfl, rfl⟩⟩)⟩
theorem Own.sl (h : Own σ sz v es) : SlOf σ sz v es := by
  rcases h.own with ⟨rfl, rfl⟩ | ⟨t, rfl⟩ | ⟨id, ep, off, cap, xs, epo, fl, rfl, ho, hf, he, hl, hc⟩
  · exact SlOf.nil _ _
  · exact SlOf.fs _ _ _ _ _
  · refine ⟨by simp [ho, hf]; exact he.symm, rfl, fun s id' ep' off' len c hc' => ?_⟩
    injection hc' with _ _ _ _ e5 e6
    rcases hc with ⟨rfl, _⟩ | rfl
    · cases e6
    · injection e6 with e6; omega
theorem Own.keep (h : Own σ sz v es) (hk : ∀ id, v.sid = some id → σ'[id]? = σ[id]?) : Own σ' sz v es := by
  rcases h.own with ⟨rfl, rfl⟩ | ⟨t, rfl⟩ | ⟨id, ep, off, cap, xs, epo, fl, rfl, ho, hr⟩
  · exact ⟨.inl ⟨rfl, rfl⟩⟩
  · exact ⟨.inr (.inl ⟨t, rfl⟩)⟩
  · exact ⟨.inr (.inr ⟨id, ep, off, cap, xs, epo, fl, rfl, by rw [hk id rfl]; exact ho, hr⟩)⟩
theorem Own.keeps {M : Nat → Prop} (h : Own σ sz v es) (hk : Keeps M σ σ') (hm : ∀ id, v.sid = some id → ¬ M id) : Own σ' sz v es :=
  h.keep fun id hid => hk.2 id (h.sl.lt hid) (hm id hid)
theorem Own.grow (h : Own σ sz v es) (hk : Grows σ σ') : Own σ' sz v es := h.keeps hk fun _ _ h => h

/-- not a literal that holds something, and of no capacity that is told: it can be written to -/
def NoLit : AVal → Prop
  | .fslice _ _ _ es => es = []
  | .slice _ _ _ _ _ (some _) => False
  | _ => True

theorem Own.append (h : Own σ sz v es) (ys : List AVal) (bytes : Nat) (hb : (es.length + ys.length) * bytes ≤ 70368744177664) :
    ∃ v' σ', appendV σ sz bytes v ys = some (v', σ') ∧ Own σ' sz v' (es ++ ys) ∧ Keeps (fun i => v.sid = some i) σ σ' ∧ (∀ id, v'.sid = some id → v.sid = some id ∨ id = σ.length) ∧ (NoLit v ∨ ys ≠ [] → NoLit v') := by
  cases ys with
  | nil =>
    refine ⟨v, σ, ?_, by simpa using h, Keeps.refl _ _, fun id h => .inl h, fun h => h.resolve_right (fun h => h rfl)⟩
    rcases h.own with ⟨rfl, rfl⟩ | ⟨t, rfl⟩ | ⟨id, ep, off, cap, xs, epo, fl, rfl, _⟩ <;> simp
  | cons y ys =>
    have hb' : (es.length + (y :: ys).length) * bytes ≤ apLim := hb
    have new : ∀ zs : List AVal, zs = es ++ y :: ys → Own (σ ++ [.arr sz zs 0 0]) sz (.slice sz σ.length 0 0 zs.length none) (es ++ y :: ys) := fun zs hz => by
      subst hz; exact Own.whole (by simp) (Nat.le_refl 0)
    have frs : ∀ {len : Nat} (id : Nat), (AVal.slice sz σ.length 0 0 len none).sid = some id → v.sid = some id ∨ id = σ.length := fun id h => .inr (by simpa [AVal.sid] using h.symm)
    rcases h.own with ⟨rfl, rfl⟩ | ⟨t, rfl⟩ | ⟨id, ep, off, cap, xs, epo, fl, rfl, ho, hf, he, hl, hc⟩
    · refine ⟨.slice sz σ.length 0 0 (y :: ys).length none, σ ++ [.arr sz (y :: ys) 0 0], ?_, new _ rfl, (Grows.app _ _).any, frs, fun _ => trivial⟩
      simp only [List.length_nil, Nat.zero_add] at hb'
      simp only [appendV, growV, List.isEmpty_cons, Bool.false_eq_true, if_false, if_pos hb']
    · refine ⟨.slice sz σ.length 0 0 (es ++ y :: ys).length none, σ ++ [.arr sz (es ++ y :: ys) 0 0], ?_, new _ rfl, (Grows.app _ _).any, frs, fun _ => trivial⟩
      simp only [appendV, growV, List.isEmpty_cons, Bool.false_eq_true, if_false, hb', and_self, if_true, List.length_append]
    · rcases hc with ⟨rfl, rfl, rfl, rfl⟩ | rfl
      · refine ⟨.slice sz id (epo + 1) 0 (xs ++ y :: ys).length none, σ.set id (.arr sz (xs ++ y :: ys) (epo + 1) fl), ?_, Own.whole (by rw [List.getElem?_set_self (List.getElem?_eq_some_iff.1 ho).1]) (by omega), (Keeps.set _ _ _).mono fun i _ h => by rw [h]; rfl, fun i h => .inl (by simpa [AVal.sid] using h), fun _ => trivial⟩
        have e1 : (Option.none.getD (xs.length - 0)) < xs.length + (y :: ys).length := by simp
        simp only [appendV, growV, List.isEmpty_cons, Bool.false_eq_true, if_false, ho, hb', hf, and_self, if_true, e1, List.length_append]
      · have ht : ((xs.drop off).take es.length ++ y :: ys) = es ++ y :: ys := by rw [← he]
        refine ⟨.slice sz σ.length 0 0 (es ++ y :: ys).length none, σ ++ [.arr sz (es ++ y :: ys) 0 0], ?_, new _ rfl, (Grows.app _ _).any, frs, fun _ => trivial⟩
        have e1 : ((some es.length).getD (xs.length - off)) < es.length + (y :: ys).length := by simp
        simp only [appendV, growV, List.isEmpty_cons, Bool.false_eq_true, if_false, ho, hb', hf, and_self, if_true, e1, ht, List.length_append]

/-- what is looked at stays as it is when something is appended -/
theorem Own.append_view (h : Own σ sz v es) {ys : List AVal} {bytes : Nat} {v' : AVal} {σ' : Store} (ha : appendV σ sz bytes v ys = some (v', σ')) {sz' : Nat} {u : AVal} {us : List AVal} (hu : SlOf σ sz' u us) : SlOf σ' sz' u us := by
  cases ys with
  | nil =>
    have : σ' = σ := by
      simp only [appendV, List.isEmpty_nil, if_true] at ha
      split at ha
      · injection ha with ha; injection ha with _ h2; exact h2.symm
      · cases ha
    rw [this]; exact hu
  | cons y ys =>
    rcases h.own with ⟨rfl, rfl⟩ | ⟨t, rfl⟩ | ⟨id, ep, off, cap, xs, epo, fl, rfl, ho, hf, he, hl, hc⟩
    · simp only [appendV, growV, List.isEmpty_cons, Bool.false_eq_true, if_false] at ha
      split at ha
      · injection ha with ha; injection ha with _ h2; subst h2; exact hu.grow (Grows.app _ _)
      · cases ha
    · simp only [appendV, growV, List.isEmpty_cons, Bool.false_eq_true, if_false] at ha
      split at ha
      · injection ha with ha; injection ha with _ h2; subst h2; exact hu.grow (Grows.app _ _)
      · cases ha
    · simp only [appendV, growV, List.isEmpty_cons, Bool.false_eq_true, if_false, ho] at ha
      have hlt := (List.getElem?_eq_some_iff.1 ho).1
      rcases hc with ⟨rfl, rfl, rfl, rfl⟩ | rfl
      · split at ha
        · have e1 : (Option.none.getD (xs.length - 0)) < xs.length + (y :: ys).length := by simp
          rw [if_pos e1] at ha
          simp only [and_self, if_true] at ha
          injection ha with ha; injection ha with _ h2
          subst h2
          by_cases hs : u.sid = some id
          · rcases hu.cases with ⟨rfl, rfl⟩ | ⟨t, full, rfl⟩ | ⟨id', ep', off', cap', sz2, zs, epo', fl', rfl, ho', hf', he', hl', hcp'⟩
            · exact SlOf.nil _ _
            · exact SlOf.fs _ _ _ _ _
            · injection hs with hs
              subst hs
              rw [ho] at ho'
              injection ho' with ho'
              injection ho' with _ e2 _ e4
              subst e2; subst e4
              refine ⟨?_, rfl, hu.cap⟩
              simp only [elems, List.getElem?_set_self hlt, hf', and_self, if_true]
              congr 1
              rw [he']
              by_cases h0 : us.length = 0
              · rw [h0]; simp
              · have := hl' (by omega)
                simp only [List.length_take, List.length_drop]
                rw [List.drop_append_of_le_length (by omega), List.take_append_of_le_length (by simp; omega), Nat.min_eq_left (by omega)]
          · exact hu.keeps (Keeps.set _ _ _) fun i hi e => hs (by rw [hi, e])
        · cases ha
      · split at ha
        · have e1 : ((some es.length).getD (xs.length - off)) < es.length + (y :: ys).length := by simp
          rw [if_pos e1] at ha
          simp only at ha
          injection ha with ha; injection ha with _ h2
          subst h2
          exact hu.grow (Grows.app _ _)
        · cases ha

theorem Own.store (h : Own σ sz v es) (hn : NoLit v) {i : Nat} (hi : i < es.length) {x : AVal} (hx : x.cells.all AVal.one = true) (hxl : x.cells.length = sz) (hel : (es[i]).cells.length = sz) (hre : (es[i]).reform x.cells = x) :
    ∃ σ', storeV σ sz (addrOf sz v i) x = some σ' ∧ Own σ' sz v (es.set i x) ∧ Keeps (fun j => v.sid = some j) σ σ' ∧ σ'.length = σ.length := by
  rcases h.own with ⟨rfl, rfl⟩ | ⟨t, rfl⟩ | ⟨id, ep, off, cap, xs, epo, fl, rfl, ho, hf, he, hl, hc⟩
  · simp at hi
  · have : es = [] := hn
    subst this; simp at hi
  · rcases hc with ⟨rfl, rfl, rfl, rfl⟩ | rfl
    · have ha : addrOf sz (.slice sz id epo 0 xs.length none) i = .eptr id epo i 0 := by
        have e : (0 : Int) ≤ (i : Int) ∧ (i : Int) < (xs.length : Int) := by omega
        simp [addrOf, iaddrV, e]
      have hsp : splice (xs[i]).cells 0 x.cells = x.cells := by
        simp only [splice, List.take_zero, List.nil_append, Nat.zero_add]
        rw [List.drop_eq_nil_of_le (by omega), List.append_nil]
      refine ⟨σ.set id (.arr sz (xs.set i x) epo epo), ?_, ?_, (Keeps.set _ _ _).mono fun j _ h => by rw [h]; rfl, by simp⟩
      · rw [ha]
        simp only [storeV, hxl, hx, and_self, if_true, ho, List.getElem?_eq_getElem hi, hsp, hre, Nat.zero_add]
        rw [if_pos ⟨trivial, by omega⟩]
      · have := Own.whole (σ := σ.set id (.arr sz (xs.set i x) epo epo)) (sz := sz) (id := id) (ep := epo) (fl := epo) (es := xs.set i x) (by rw [List.getElem?_set_self (List.getElem?_eq_some_iff.1 ho).1]) (Nat.le_refl _)
        simpa using this
    · exact hn.elim

/-- a slice whose capacity is cut to its length -/
theorem Own.sub3 (h : Own σ sz v es) {lo hi : Nat} (h1 : lo ≤ hi) (h2 : hi ≤ es.length) (k j l : IntKind) (lo' : Option AVal) (hlo : lo' = some (.int k lo) ∨ (lo' = none ∧ lo = 0)) :
    ∃ v', sliceV sz v lo' (some (.int j hi)) (some (.int l hi)) = some v' ∧ Own σ sz v' ((es.take hi).drop lo) ∧ (∀ id, v'.sid = some id → v.sid = some id) := by
  have hob : ∀ y, lo ≤ y → obnd 0 y lo' = some lo := fun y hy => by
    rcases hlo with rfl | ⟨rfl, rfl⟩
    · exact obnd_some _ _ _ hy
    · rfl
  rcases h.own with ⟨rfl, rfl⟩ | ⟨t, rfl⟩ | ⟨id, ep, off, cap, xs, epo, fl, rfl, ho, hf, he, hl, hc⟩
  · have : hi = 0 := by simpa using h2
    subst this
    have : lo = 0 := by omega
    subst this
    refine ⟨.nilslice, ?_, by simpa using Own.nil σ sz, fun id h => by cases h⟩
    simp only [sliceV, obnd_some _ _ _ (Nat.le_refl 0), hob 0 (Nat.le_refl 0)]
  · refine ⟨.fslice t true sz ((es.take hi).drop lo), ?_, Own.lit _ _ _ _, fun id h => by cases h⟩
    simp only [sliceV, if_true, obnd_some _ _ _ h2, hob _ h1, obnd_some _ _ _ (Nat.le_refl hi)]
    simp
  · have hcp : es.length ≤ cap.getD es.length := by rcases hc with ⟨rfl, _⟩ | rfl <;> simp
    have hlen : ((es.take hi).drop lo).length = hi - lo := by simp; omega
    refine ⟨.slice sz id ep (off + lo) (hi - lo) (some (hi - lo)), ?_, ⟨.inr (.inr ⟨id, ep, off + lo, some (hi - lo), xs, epo, fl, by rw [hlen], ho, hf, ?_, fun hp => ?_, .inr (by rw [hlen])⟩)⟩, fun i hid => by simpa [AVal.sid] using hid⟩
    · simp only [sliceV, if_true, obnd_some _ _ _ (Nat.le_trans h2 hcp), hob _ h1, obnd_some _ _ _ (Nat.le_refl hi)]
      simp
    · rw [hlen]
      conv => lhs; rw [he]
      rw [List.take_take, Nat.min_eq_left h2, List.drop_take, List.drop_drop]
    · rw [hlen] at hp ⊢
      have := hl (by omega)
      omega
end
end Go.Proofs.Ytmocplkpnickgaa.Am
