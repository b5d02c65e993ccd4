/-
  The abstract machine and the functions of the law, 3: texts put together.
-/
import Derived.Test.YtmocplkpnickgaaNetOwnPkB
import Derived.Test.YtmocplkpnickgaaRows
/-
  THE ABSTRACT MACHINE, part 33: slices by their elements, stores that keep what they had.
-/
namespace Go.Proofs.Ytmocplkpnickgaa.Am
open Go
set_option linter.unusedVariables false
set_option linter.unusedSimpArgs false

/-- the object a slice lies in -/
def AVal.sid : AVal → Option Nat
  | .slice _ id _ _ _ _ => some id
  | _ => none

structure SlOf (σ : Store) (sz : Nat) (v : AVal) (es : List AVal) : Prop where
  els : elems sz σ v = some es
  len : lenSV v = some es.length
  cap : ∀ s id ep off len c, v = .slice s id ep off len (some c) → len ≤ c

def addrOf (sz : Nat) (v : AVal) (i : Nat) : AVal := (iaddrV sz v (.int .i64 i)).getD .undef

def Keeps (M : Nat → Prop) (σ σ' : Store) : Prop := σ.length ≤ σ'.length ∧ ∀ i, i < σ.length → ¬ M i → σ'[i]? = σ[i]?
abbrev Grows (σ σ' : Store) : Prop := Keeps (fun _ => False) σ σ'

theorem Keeps.refl (M : Nat → Prop) (σ : Store) : Keeps M σ σ := ⟨Nat.le_refl _, fun _ _ _ => rfl⟩
theorem Keeps.trans {M M' : Nat → Prop} {σ σ1 σ2 : Store} (h : Keeps M σ σ1) (h' : Keeps M' σ1 σ2) (hm : ∀ i, i < σ.length → M' i → M i) : Keeps M σ σ2 :=
  ⟨Nat.le_trans h.1 h'.1, fun i hi hn => (h'.2 i (Nat.lt_of_lt_of_le hi h.1) (fun hx => hn (hm i hi hx))).trans (h.2 i hi hn)⟩
theorem Keeps.mono {M M' : Nat → Prop} {σ σ' : Store} (h : Keeps M σ σ') (hm : ∀ i, i < σ.length → M i → M' i) : Keeps M' σ σ' := ⟨h.1, fun i hi hn => h.2 i hi fun hx => hn (hm i hi hx)⟩
theorem Grows.trans {σ σ1 σ2 : Store} (h : Grows σ σ1) (h' : Grows σ1 σ2) : Grows σ σ2 := Keeps.trans h h' fun _ _ h => h
theorem Grows.any {M : Nat → Prop} {σ σ' : Store} (h : Grows σ σ') : Keeps M σ σ' := h.mono fun _ _ h => h.elim
theorem Grows.app (σ : Store) (xs : List AObj) : Grows σ (σ ++ xs) := ⟨by simp, fun i hi _ => List.getElem?_append_left hi⟩
theorem Grows.get {σ σ' : Store} (h : Grows σ σ') {i : Nat} {o : AObj} (ho : σ[i]? = some o) : σ'[i]? = some o := by
  rw [h.2 i (List.getElem?_eq_some_iff.1 ho).1 (fun h => h)]; exact ho
theorem Keeps.get {M : Nat → Prop} {σ σ' : Store} (h : Keeps M σ σ') {i : Nat} {o : AObj} (ho : σ[i]? = some o) (hm : ¬ M i) : σ'[i]? = some o := by
  rw [h.2 i (List.getElem?_eq_some_iff.1 ho).1 hm]; exact ho
theorem Keeps.set (σ : Store) (id : Nat) (o : AObj) : Keeps (fun i => i = id) σ (σ.set id o) :=
  ⟨by simp, fun i hi hn => List.getElem?_set_ne (fun h => hn h.symm)⟩

section
variable {σ σ' : Store} {sz : Nat} {v : AVal} {es : List AVal}

theorem SlOf.nil (σ : Store) (sz : Nat) : SlOf σ sz .nilslice [] := ⟨rfl, rfl, fun _ _ _ _ _ _ h => by cases h⟩
theorem SlOf.fs (σ : Store) (sz t : Nat) (full : Bool) (es : List AVal) : SlOf σ sz (.fslice t full sz es) es := ⟨by simp, rfl, fun _ _ _ _ _ _ h => by cases h⟩

theorem SlOf.cases (h : SlOf σ sz v es) : (v = .nilslice ∧ es = []) ∨ (∃ t full, v = .fslice t full sz es) ∨
    ∃ id ep off cap sz' azs epo fl, v = .slice sz id ep off es.length cap ∧ σ[id]? = some (.arr sz' azs epo fl) ∧ fl ≤ ep ∧ es = (azs.drop off).take es.length ∧ (0 < es.length → off + es.length ≤ azs.length) ∧ es.length ≤ cap.getD es.length := by
  obtain ⟨h1, h2, h3⟩ := h
  cases v <;> simp only [elems, reduceCtorEq] at h1
  · left; simp at h1; exact ⟨rfl, h1⟩
  · rename_i s id ep off len cap
    right; right
    simp only [lenSV, Option.some.injEq] at h2
    subst h2
    split at h1
    · rename_i s' azs epo fl ho
      split at h1
      · rename_i hc
        injection h1 with h1
        obtain ⟨rfl, hf⟩ := hc
        refine ⟨id, ep, off, cap, s', azs, epo, fl, rfl, ho, hf, h1.symm, fun h0 => ?_, ?_⟩
        · have := congrArg List.length h1
          simp only [List.length_take, List.length_drop] at this
          omega
        · cases cap with
          | none => exact Nat.le_refl _
          | some c => exact h3 _ _ _ _ _ _ rfl
      · cases h1
    · cases h1
  · rename_i t full s es'
    right; left
    split at h1
    · rename_i hc; subst hc; injection h1 with h1; subst h1; exact ⟨t, full, rfl⟩
    · cases h1

theorem SlOf.keep (h : SlOf σ sz v es) (hk : ∀ id, v.sid = some id → σ'[id]? = σ[id]?) : SlOf σ' sz v es := by
  refine ⟨?_, h.len, h.cap⟩
  rw [← h.els]
  cases v <;> try rfl
  rename_i s id ep off len cap
  simp only [elems, hk id rfl]

theorem SlOf.grow (h : SlOf σ sz v es) (hk : Grows σ σ') : SlOf σ' sz v es := by
  refine h.keep fun id hid => ?_
  rcases h.cases with ⟨rfl, _⟩ | ⟨t, full, rfl⟩ | ⟨id', ep, off, cap, sz', azs, epo, fl, rfl, ho, _⟩
  · cases hid
  · cases hid
  · injection hid with hid; subst hid
    rw [hk.get ho, ho]

theorem SlOf.lt (h : SlOf σ sz v es) {id : Nat} (hid : v.sid = some id) : id < σ.length := by
  rcases h.cases with ⟨rfl, _⟩ | ⟨t, full, rfl⟩ | ⟨id', ep, off, cap, sz', azs, epo, fl, rfl, ho, _⟩
  · cases hid
  · cases hid
  · injection hid with hid; subst hid; exact (List.getElem?_eq_some_iff.1 ho).1

theorem SlOf.keeps {M : Nat → Prop} (h : SlOf σ sz v es) (hk : Keeps M σ σ') (hm : ∀ id, v.sid = some id → ¬ M id) : SlOf σ' sz v es :=
  h.keep fun id hid => hk.2 id (h.lt hid) (hm id hid)

/-- an element's place, and what lies there -/
theorem SlOf.addr (h : SlOf σ sz v es) {i : Nat} (hi : i < es.length) (k : IntKind) : iaddrV sz v (.int k i) = some (addrOf sz v i) ∧ behind σ (addrOf sz v i) = some ((es[i]).cells, 0) := by
  rcases h.cases with ⟨rfl, rfl⟩ | ⟨t, full, rfl⟩ | ⟨id, ep, off, cap, sz', azs, epo, fl, rfl, ho, hf, he, hl, hcp⟩
  · simp at hi
  · simp [addrOf, iaddrV, List.getElem?_eq_getElem hi]
  · have h2 : off + i < azs.length := by have := hl (by omega); omega
    have h3 : es[i] = azs[off + i] := by
      have h4 : es[i]? = azs[off + i]? := by rw [he, List.getElem?_take_of_lt hi, List.getElem?_drop]
      rw [List.getElem?_eq_getElem hi, List.getElem?_eq_getElem h2] at h4
      exact Option.some.inj h4
    simp [addrOf, iaddrV, hi, ho, hf, List.getElem?_eq_getElem h2, h3]

theorem SlOf.iaddr (h : SlOf σ sz v es) {i : Nat} (hi : i < es.length) (k : IntKind) : iaddrV sz v (.int k i) = some (addrOf sz v i) := (h.addr hi k).1
theorem SlOf.load (h : SlOf σ sz v es) {i : Nat} (hi : i < es.length) (n : Nat) (agg : Bool) : loadV σ n agg (addrOf sz v i) = ld (es[i]).cells 0 n agg := by
  simp only [loadV, (h.addr hi .i64).2]
theorem SlOf.load1 (h : SlOf σ sz v es) {i : Nat} (hi : i < es.length) (h1 : (es[i]).one = true) (n : Nat) : loadV σ n false (addrOf sz v i) = some es[i] := by
  rw [h.load hi]
  cases he : es[i] <;> simp_all [AVal.one]
theorem SlOf.loadA (h : SlOf σ sz v es) {i : Nat} (hi : i < es.length) {cs : List AVal} (h1 : es[i] = .agg cs) : loadV σ cs.length true (addrOf sz v i) = some (.agg cs) := by
  rw [h.load hi, h1]; simp

/-- a part of a slice -/
theorem SlOf.sub (h : SlOf σ sz v es) {lo hi : Nat} (h1 : lo ≤ hi) (h2 : hi ≤ es.length) (k j : IntKind) : ∃ v', sliceV sz v (some (.int k lo)) (some (.int j hi)) none = some v' ∧ SlOf σ sz v' ((es.take hi).drop lo) ∧ (∀ id, v'.sid = some id → v.sid = some id) := by
  rcases h.cases with ⟨rfl, rfl⟩ | ⟨t, full, rfl⟩ | ⟨id, ep, off, cap, sz', azs, epo, fl, rfl, ho, hf, he, hl, hcp⟩
  · have : hi = 0 := by simpa using h2
    subst this
    have : lo = 0 := by omega
    subst this
    exact ⟨.nilslice, by simp, by simpa using SlOf.nil σ sz, fun id h => by cases h⟩
  · refine ⟨.fslice t (full && hi == es.length) sz ((es.take hi).drop lo), ?_, SlOf.fs _ _ _ _ _, fun id h => by cases h⟩
    have e1 : (0 : Int) ≤ (lo : Int) ∧ (lo : Int) ≤ (hi : Int) := by omega
    have e2 : (0 : Int) ≤ (hi : Int) ∧ (hi : Int) ≤ (es.length : Int) := by omega
    simp [sliceV, e1, e2]
  · refine ⟨.slice sz id ep (off + lo) (hi - lo) (cap.map (· - lo)), ?_, ⟨?_, ?_, ?_⟩, fun i hid => by simpa [AVal.sid] using hid⟩
    · have e1 : (0 : Int) ≤ (lo : Int) ∧ (lo : Int) ≤ (hi : Int) := by omega
      have e2 : (0 : Int) ≤ (hi : Int) ∧ (hi : Int) ≤ (es.length : Int) := by omega
      have e3 : (0 : Int) ≤ (hi : Int) ∧ (hi : Int) ≤ ((cap.getD es.length : Nat) : Int) := by omega
      simp [sliceV, e1, e2, e3]
    · simp only [elems, ho, hf, and_self, if_true]
      congr 1
      conv => rhs; rw [he]
      rw [List.take_take, Nat.min_eq_left h2, List.drop_take, List.drop_drop]
    · simp [lenSV]; omega
    · intro s id' ep' off' len c hc
      injection hc with _ _ _ _ e5 e6
      cases cap with
      | none => cases e6
      | some c' =>
        simp only [Option.map_some, Option.some.injEq] at e6
        simp only [Option.getD_some] at hcp
        omega

theorem obnd_some (d y : Nat) {n : Nat} (k : IntKind) (h : n ≤ y) : obnd d y (some (.int k n)) = some n := by
  have e : (0 : Int) ≤ (n : Int) ∧ (n : Int) ≤ (y : Int) := by omega
  simp [obnd, bnd, e]

theorem obnd_none (d y : Nat) : obnd d y none = some d := rfl

theorem SlOf.sub_lo (h : SlOf σ sz v es) {lo : Nat} (h1 : lo ≤ es.length) (k : IntKind) : ∃ v', sliceV sz v (some (.int k lo)) none none = some v' ∧ SlOf σ sz v' (es.drop lo) ∧ (∀ id, v'.sid = some id → v.sid = some id) := by
  obtain ⟨v', h2, h3, h4⟩ := h.sub h1 (Nat.le_refl _) k .i64
  refine ⟨v', ?_, by simpa using h3, h4⟩
  rw [← h2]
  rcases h.cases with ⟨rfl, rfl⟩ | ⟨t, full, rfl⟩ | ⟨id, ep, off, cap, sz', azs, epo, fl, rfl, ho, hf, he, hl, hcp⟩
  · simp [sliceV]
  · simp only [sliceV, obnd_none, obnd_some _ _ _ (Nat.le_refl es.length)]
  · simp only [sliceV, obnd_none, obnd_some _ _ _ hcp]

theorem SlOf.sub_hi (h : SlOf σ sz v es) {hi : Nat} (h1 : hi ≤ es.length) (k : IntKind) : ∃ v', sliceV sz v none (some (.int k hi)) none = some v' ∧ SlOf σ sz v' (es.take hi) ∧ (∀ id, v'.sid = some id → v.sid = some id) := by
  obtain ⟨v', h2, h3, h4⟩ := h.sub (Nat.zero_le hi) h1 .i64 k
  refine ⟨v', ?_, by simpa using h3, h4⟩
  rw [← h2]
  rcases h.cases with ⟨rfl, rfl⟩ | ⟨t, full, rfl⟩ | ⟨id, ep, off, cap, sz', azs, epo, fl, rfl, ho, hf, he, hl, hcp⟩ <;> simp [sliceV]

/-- .. with its capacity cut to its length -/
theorem SlOf.sub3 (h : SlOf σ sz v es) {lo hi : Nat} (h1 : lo ≤ hi) (h2 : hi ≤ es.length) (k j l : IntKind) : ∃ v', sliceV sz v (some (.int k lo)) (some (.int j hi)) (some (.int l hi)) = some v' ∧ SlOf σ sz v' ((es.take hi).drop lo) ∧ (∀ id, v'.sid = some id → v.sid = some id) := by
  rcases h.cases with ⟨rfl, rfl⟩ | ⟨t, full, rfl⟩ | ⟨id, ep, off, cap, sz', azs, epo, fl, rfl, ho, hf, he, hl, hcp⟩
  · have : hi = 0 := by simpa using h2
    subst this
    have : lo = 0 := by omega
    subst this
    exact ⟨.nilslice, by simp, by simpa using SlOf.nil σ sz, fun id h => by cases h⟩
  · refine ⟨.fslice t true sz ((es.take hi).drop lo), ?_, SlOf.fs _ _ _ _ _, fun id h => by cases h⟩
    simp only [sliceV, if_true, obnd_some _ _ _ h2, obnd_some _ _ _ h1, obnd_some _ _ _ (Nat.le_refl hi)]
    simp
  · refine ⟨.slice sz id ep (off + lo) (hi - lo) (some (hi - lo)), ?_, ⟨?_, ?_, ?_⟩, fun i hid => by simpa [AVal.sid] using hid⟩
    · simp only [sliceV, if_true, obnd_some _ _ _ (Nat.le_trans h2 hcp), obnd_some _ _ _ h1, obnd_some _ _ _ (Nat.le_refl hi)]
      simp
    · simp only [elems, ho, hf, and_self, if_true]
      congr 1
      conv => rhs; rw [he]
      rw [List.take_take, Nat.min_eq_left h2, List.drop_take, List.drop_drop]
    · simp [lenSV]; omega
    · intro s id' ep' off' len c hc
      injection hc with _ _ _ _ e5 e6
      injection e6 with e6
      omega

/-- a slice that can be appended to: it is a whole array of its own, or has no room behind it -/
structure Own (σ : Store) (sz : Nat) (v : AVal) (es : List AVal) : Prop where
  own : (v = .nilslice ∧ es = []) ∨ (∃ t, v = .fslice t true sz es) ∨
    ∃ id ep off cap azs' epo fl, v = .slice sz id ep off es.length cap ∧ σ[id]? = some (.arr sz azs' epo fl) ∧ fl ≤ ep ∧ es = (azs'.drop off).take es.length ∧ (0 < es.length → off + es.length ≤ azs'.length) ∧
      ((cap = none ∧ off = 0 ∧ azs' = es ∧ epo = ep) ∨ cap = some es.length)

theorem Own.nil (σ : Store) (sz : Nat) : Own σ sz .nilslice [] := ⟨.inl ⟨rfl, rfl⟩⟩
theorem Own.lit (σ : Store) (sz t : Nat) (es : List AVal) : Own σ sz (.fslice t true sz es) es := ⟨.inr (.inl ⟨t, rfl⟩)⟩
theorem Own.whole {σ : Store} {sz id ep fl : Nat} {es : List AVal} (h : σ[id]? = some (.arr sz es ep fl)) (hf : fl ≤ ep) : Own σ sz (.slice sz id ep 0 es.length none) es :=
  ⟨.inr (.inr ⟨id, ep, 0, none, es, ep, fl, rfl, h, hf, by simp, fun _ => by simp, .inl ⟨rfl, rfl, rfl, rfl⟩⟩)⟩
theorem Own.sl (h : Own σ sz v es) : SlOf σ sz v es := by
  rcases h.own with ⟨rfl, rfl⟩ | ⟨t, rfl⟩ | ⟨id, ep, off, cap, xs, epo, fl, rfl, ho, hf, he, hl, hc⟩
  · exact SlOf.nil _ _
  · exact SlOf.fs _ _ _ _ _
  · refine ⟨by simp [ho, hf]; exact he.symm, rfl, fun s id' ep' off' len c hc' => ?_⟩
    injection hc' with _ _ _ _ e5 e6
    rcases hc with ⟨rfl, _⟩ | rfl
    · cases e6
    · injection e6 with e6; omega
theorem Own.keep (h : Own σ sz v es) (hk : ∀ id, v.sid = some id → σ'[id]? = σ[id]?) : Own σ' sz v es := by
  rcases h.own with ⟨rfl, rfl⟩ | ⟨t, rfl⟩ | ⟨id, ep, off, cap, xs, epo, fl, rfl, ho, hr⟩
  · exact ⟨.inl ⟨rfl, rfl⟩⟩
  · exact ⟨.inr (.inl ⟨t, rfl⟩)⟩
  · exact ⟨.inr (.inr ⟨id, ep, off, cap, xs, epo, fl, rfl, by rw [hk id rfl]; exact ho, hr⟩)⟩
theorem Own.keeps {M : Nat → Prop} (h : Own σ sz v es) (hk : Keeps M σ σ') (hm : ∀ id, v.sid = some id → ¬ M id) : Own σ' sz v es :=
  h.keep fun id hid => hk.2 id (h.sl.lt hid) (hm id hid)
theorem Own.grow (h : Own σ sz v es) (hk : Grows σ σ') : Own σ' sz v es := h.keeps hk fun _ _ h => h

/-- not a literal that holds something, and of no capacity that is told: it can be written to -/
def NoLit : AVal → Prop
  | .fslice _ _ _ es => es = []
  | .slice _ _ _ _ _ (some _) => False
  | _ => True

theorem Own.append (h : Own σ sz v es) (ys : List AVal) (bytes : Nat) (hb : (es.length + ys.length) * bytes ≤ 70368744177664) :
    ∃ v' σ', appendV σ sz bytes v ys = some (v', σ') ∧ Own σ' sz v' (es ++ ys) ∧ Keeps (fun i => v.sid = some i) σ σ' ∧ (∀ id, v'.sid = some id → v.sid = some id ∨ id = σ.length) ∧ (NoLit v ∨ ys ≠ [] → NoLit v') := by
  cases ys with
  | nil =>
    refine ⟨v, σ, ?_, by simpa using h, Keeps.refl _ _, fun id h => .inl h, fun h => h.resolve_right (fun h => h rfl)⟩
    rcases h.own with ⟨rfl, rfl⟩ | ⟨t, rfl⟩ | ⟨id, ep, off, cap, xs, epo, fl, rfl, _⟩ <;> simp
  | cons y ys =>
    have hb' : (es.length + (y :: ys).length) * bytes ≤ apLim := hb
    have new : ∀ zs : List AVal, zs = es ++ y :: ys → Own (σ ++ [.arr sz zs 0 0]) sz (.slice sz σ.length 0 0 zs.length none) (es ++ y :: ys) := fun zs hz => by
      subst hz; exact Own.whole (by simp) (Nat.le_refl 0)
    have frs : ∀ {len : Nat} (id : Nat), (AVal.slice sz σ.length 0 0 len none).sid = some id → v.sid = some id ∨ id = σ.length := fun id h => .inr (by simpa [AVal.sid] using h.symm)
    rcases h.own with ⟨rfl, rfl⟩ | ⟨t, rfl⟩ | ⟨id, ep, off, cap, xs, epo, fl, rfl, ho, hf, he, hl, hc⟩
    · refine ⟨.slice sz σ.length 0 0 (y :: ys).length none, σ ++ [.arr sz (y :: ys) 0 0], ?_, new _ rfl, (Grows.app _ _).any, frs, fun _ => trivial⟩
      simp only [List.length_nil, Nat.zero_add] at hb'
      simp only [appendV, growV, List.isEmpty_cons, Bool.false_eq_true, if_false, if_pos hb']
    · refine ⟨.slice sz σ.length 0 0 (es ++ y :: ys).length none, σ ++ [.arr sz (es ++ y :: ys) 0 0], ?_, new _ rfl, (Grows.app _ _).any, frs, fun _ => trivial⟩
      simp only [appendV, growV, List.isEmpty_cons, Bool.false_eq_true, if_false, hb', and_self, if_true, List.length_append]
    · rcases hc with ⟨rfl, rfl, rfl, rfl⟩ | rfl
      · refine ⟨.slice sz id (epo + 1) 0 (xs ++ y :: ys).length none, σ.set id (.arr sz (xs ++ y :: ys) (epo + 1) fl), ?_, Own.whole (by rw [List.getElem?_set_self (List.getElem?_eq_some_iff.1 ho).1]) (by omega), (Keeps.set _ _ _).mono fun i _ h => by rw [h]; rfl, fun i h => .inl (by simpa [AVal.sid] using h), fun _ => trivial⟩
        have e1 : (Option.none.getD (xs.length - 0)) < xs.length + (y :: ys).length := by simp
        simp only [appendV, growV, List.isEmpty_cons, Bool.false_eq_true, if_false, ho, hb', hf, and_self, if_true, e1, List.length_append]
      · have ht : ((xs.drop off).take es.length ++ y :: ys) = es ++ y :: ys := by rw [← he]
        refine ⟨.slice sz σ.length 0 0 (es ++ y :: ys).length none, σ ++ [.arr sz (es ++ y :: ys) 0 0], ?_, new _ rfl, (Grows.app _ _).any, frs, fun _ => trivial⟩
        have e1 : ((some es.length).getD (xs.length - off)) < es.length + (y :: ys).length := by simp
        simp only [appendV, growV, List.isEmpty_cons, Bool.false_eq_true, if_false, ho, hb', hf, and_self, if_true, e1, ht, List.length_append]

/-- what is looked at stays as it is when something is appended -/
theorem Own.append_view (h : Own σ sz v es) {ys : List AVal} {bytes : Nat} {v' : AVal} {σ' : Store} (ha : appendV σ sz bytes v ys = some (v', σ')) {sz' : Nat} {u : AVal} {us : List AVal} (hu : SlOf σ sz' u us) : SlOf σ' sz' u us := by
  cases ys with
  | nil =>
    have : σ' = σ := by
      simp only [appendV, List.isEmpty_nil, if_true] at ha
      split at ha
      · injection ha with ha; injection ha with _ h2; exact h2.symm
      · cases ha
    rw [this]; exact hu
  | cons y ys =>
    rcases h.own with ⟨rfl, rfl⟩ | ⟨t, rfl⟩ | ⟨id, ep, off, cap, xs, epo, fl, rfl, ho, hf, he, hl, hc⟩
    · simp only [appendV, growV, List.isEmpty_cons, Bool.false_eq_true, if_false] at ha
      split at ha
      · injection ha with ha; injection ha with _ h2; subst h2; exact hu.grow (Grows.app _ _)
      · cases ha
    · simp only [appendV, growV, List.isEmpty_cons, Bool.false_eq_true, if_false] at ha
      split at ha
      · injection ha with ha; injection ha with _ h2; subst h2; exact hu.grow (Grows.app _ _)
      · cases ha
    · simp only [appendV, growV, List.isEmpty_cons, Bool.false_eq_true, if_false, ho] at ha
      have hlt := (List.getElem?_eq_some_iff.1 ho).1
      rcases hc with ⟨rfl, rfl, rfl, rfl⟩ | rfl
      · split at ha
        · have e1 : (Option.none.getD (xs.length - 0)) < xs.length + (y :: ys).length := by simp
          rw [if_pos e1] at ha
          simp only [and_self, if_true] at ha
          injection ha with ha; injection ha with _ h2
          subst h2
          by_cases hs : u.sid = some id
          · rcases hu.cases with ⟨rfl, rfl⟩ | ⟨t, full, rfl⟩ | ⟨id', ep', off', cap', sz2, zs, epo', fl', rfl, ho', hf', he', hl', hcp'⟩
            · exact SlOf.nil _ _
            · exact SlOf.fs _ _ _ _ _
            · injection hs with hs
              subst hs
              rw [ho] at ho'
              injection ho' with ho'
              injection ho' with _ e2 _ e4
              subst e2; subst e4
              refine ⟨?_, rfl, hu.cap⟩
              simp only [elems, List.getElem?_set_self hlt, hf', and_self, if_true]
              congr 1
              rw [he']
              by_cases h0 : us.length = 0
              · rw [h0]; simp
              · have := hl' (by omega)
                simp only [List.length_take, List.length_drop]
                rw [List.drop_append_of_le_length (by omega), List.take_append_of_le_length (by simp; omega), Nat.min_eq_left (by omega)]
          · exact hu.keeps (Keeps.set _ _ _) fun i hi e => hs (by rw [hi, e])
        · cases ha
      · split at ha
        · have e1 : ((some es.length).getD (xs.length - off)) < es.length + (y :: ys).length := by simp
          rw [if_pos e1] at ha
          simp only at ha
          injection ha with ha; injection ha with _ h2
          subst h2
          exact hu.grow (Grows.app _ _)
        · cases ha

theorem Own.store (h : Own σ sz v es) (hn : NoLit v) {i : Nat} (hi : i < es.length) {x : AVal} (hx : x.cells.all AVal.one = true) (hxl : x.cells.length = sz) (hel : (es[i]).cells.length = sz) (hre : (es[i]).reform x.cells = x) :
    ∃ σ', storeV σ sz (addrOf sz v i) x = some σ' ∧ Own σ' sz v (es.set i x) ∧ Keeps (fun j => v.sid = some j) σ σ' ∧ σ'.length = σ.length := by
  rcases h.own with ⟨rfl, rfl⟩ | ⟨t, rfl⟩ | ⟨id, ep, off, cap, xs, epo, fl, rfl, ho, hf, he, hl, hc⟩
  · simp at hi
  · have : es = [] := hn
    subst this; simp at hi
  · rcases hc with ⟨rfl, rfl, rfl, rfl⟩ | rfl
    · have ha : addrOf sz (.slice sz id epo 0 xs.length none) i = .eptr id epo i 0 := by
        have e : (0 : Int) ≤ (i : Int) ∧ (i : Int) < (xs.length : Int) := by omega
        simp [addrOf, iaddrV, e]
      have hsp : splice (xs[i]).cells 0 x.cells = x.cells := by
        simp only [splice, List.take_zero, List.nil_append, Nat.zero_add]
        rw [List.drop_eq_nil_of_le (by omega), List.append_nil]
      refine ⟨σ.set id (.arr sz (xs.set i x) epo epo), ?_, ?_, (Keeps.set _ _ _).mono fun j _ h => by rw [h]; rfl, by simp⟩
      · rw [ha]
        simp only [storeV, hxl, hx, and_self, if_true, ho, List.getElem?_eq_getElem hi, hsp, hre, Nat.zero_add]
        rw [if_pos ⟨trivial, by omega⟩]
      · have := Own.whole (σ := σ.set id (.arr sz (xs.set i x) epo epo)) (sz := sz) (id := id) (ep := epo) (fl := epo) (es := xs.set i x) (by rw [List.getElem?_set_self (List.getElem?_eq_some_iff.1 ho).1]) (Nat.le_refl _)
        simpa using this
    · exact hn.elim

/-- a slice whose capacity is cut to its length -/
theorem Own.sub3 (h : Own σ sz v es) {lo hi : Nat} (h1 : lo ≤ hi) (h2 : hi ≤ es.length) (k j l : IntKind) (lo' : Option AVal) (hlo : lo' = some (.int k lo) ∨ (lo' = none ∧ lo = 0)) :
    ∃ v', sliceV sz v lo' (some (.int j hi)) (some (.int l hi)) = some v' ∧ Own σ sz v' ((es.take hi).drop lo) ∧ (∀ id, v'.sid = some id → v.sid = some id) := by
  have hob : ∀ y, lo ≤ y → obnd 0 y lo' = some lo := fun y hy => by
    rcases hlo with rfl | ⟨rfl, rfl⟩
    · exact obnd_some _ _ _ hy
    · rfl
  rcases h.own with ⟨rfl, rfl⟩ | ⟨t, rfl⟩ | ⟨id, ep, off, cap, xs, epo, fl, rfl, ho, hf, he, hl, hc⟩
  · have : hi = 0 := by simpa using h2
    subst this
    have : lo = 0 := by omega
    subst this
    refine ⟨.nilslice, ?_, by simpa using Own.nil σ sz, fun id h => by cases h⟩
    simp only [sliceV, obnd_some _ _ _ (Nat.le_refl 0), hob 0 (Nat.le_refl 0)]
  · refine ⟨.fslice t true sz ((es.take hi).drop lo), ?_, Own.lit _ _ _ _, fun id h => by cases h⟩
    simp only [sliceV, if_true, obnd_some _ _ _ h2, hob _ h1, obnd_some _ _ _ (Nat.le_refl hi)]
    simp
  · have hcp : es.length ≤ cap.getD es.length := by rcases hc with ⟨rfl, _⟩ | rfl <;> simp
    have hlen : ((es.take hi).drop lo).length = hi - lo := by simp; omega
    refine ⟨.slice sz id ep (off + lo) (hi - lo) (some (hi - lo)), ?_, ⟨.inr (.inr ⟨id, ep, off + lo, some (hi - lo), xs, epo, fl, by rw [hlen], ho, hf, ?_, fun hp => ?_, .inr (by rw [hlen])⟩)⟩, fun i hid => by simpa [AVal.sid] using hid⟩
    · simp only [sliceV, if_true, obnd_some _ _ _ (Nat.le_trans h2 hcp), hob _ h1, obnd_some _ _ _ (Nat.le_refl hi)]
      simp
    · rw [hlen]
      conv => lhs; rw [he]
      rw [List.take_take, Nat.min_eq_left h2, List.drop_take, List.drop_drop]
    · rw [hlen] at hp ⊢
      have := hl (by omega)
      omega
end
end Go.Proofs.Ytmocplkpnickgaa.Am

/-
  THE ABSTRACT MACHINE, part 34: rows of lists, each its own.
-/
namespace Go.Proofs.Ytmocplkpnickgaa.Am
open Go
set_option linter.unusedVariables false
set_option linter.unusedSimpArgs false

def Fresh (n : Nat) (v : AVal) : Prop := ∀ id, v.sid = some id → n ≤ id
theorem Fresh.le {n m : Nat} {v : AVal} (h : Fresh n v) (hm : m ≤ n) : Fresh m v := fun id hid => Nat.le_trans hm (h id hid)
theorem Fresh.nil (n : Nat) : Fresh n .nilslice := fun id h => by cases h

/-- a row of lists: the row, and each of its lists, is its own, and made since lo; es: the lists as values; ps: what they hold -/
structure ORows (σ : Store) (lo sz : Nat) (l : AVal) (es : List AVal) (ps : List (List AVal)) : Prop where
  row : Own σ 1 l es
  len : es.length = ps.length
  one : ∀ (i : Nat) (e : AVal) (p : List AVal), es[i]? = some e → ps[i]? = some p → Own σ sz e p
  frs : ∀ (i : Nat) (e : AVal), es[i]? = some e → Fresh lo e
  frl : Fresh lo l
  apart : ∀ (i j : Nat) (e e' : AVal) (id : Nat), es[i]? = some e → es[j]? = some e' → e.sid = some id → e'.sid = some id → i = j
  off : ∀ (i : Nat) (e : AVal) (id : Nat), es[i]? = some e → e.sid = some id → l.sid ≠ some id
  lit : ∀ (i : Nat) (e : AVal), es[i]? = some e → NoLit e
  litl : NoLit l

theorem ORows.nil (σ : Store) (lo sz : Nat) : ORows σ lo sz .nilslice [] [] :=
  ⟨Own.nil _ _, rfl, fun i e p h => by simp at h, fun i e h => by simp at h, Fresh.nil _, fun i j e e' id h => by simp at h, fun i e id h => by simp at h, fun i e h => by simp at h, trivial⟩

theorem ORows.lt {σ : Store} {lo sz : Nat} {l : AVal} {es : List AVal} {ps : List (List AVal)} (h : ORows σ lo sz l es ps) {i : Nat} {e : AVal} (hi : es[i]? = some e) {id : Nat} (hid : e.sid = some id) : id < σ.length := by
  have hlt := (List.getElem?_eq_some_iff.1 hi).1
  have := h.one i e (ps[i]'(by rw [← h.len]; exact hlt)) hi (List.getElem?_eq_getElem _)
  exact this.sl.lt hid

theorem ORows.grow {σ σ' : Store} {lo sz : Nat} {l : AVal} {es : List AVal} {ps : List (List AVal)} (h : ORows σ lo sz l es ps) (g : Grows σ σ') : ORows σ' lo sz l es ps :=
  ⟨h.row.grow g, h.len, fun i e p h1 h2 => (h.one i e p h1 h2).grow g, h.frs, h.frl, h.apart, h.off, h.lit, h.litl⟩

theorem ORows.push {σ σ1 : Store} {lo sz : Nat} {l : AVal} {es : List AVal} {ps : List (List AVal)} (h : ORows σ lo sz l es ps) (hlo : lo ≤ σ.length) (g : Grows σ σ1) {e : AVal} {p : List AVal} (he : Own σ1 sz e p) (fe : Fresh σ.length e) (le : NoLit e)
    (bytes : Nat) (hb : (es.length + 1) * bytes ≤ 70368744177664) :
    ∃ l' σ2, appendV σ1 1 bytes l [e] = some (l', σ2) ∧ ORows σ2 lo sz l' (es ++ [e]) (ps ++ [p]) ∧ Keeps (fun i => lo ≤ i) σ1 σ2 := by
  obtain ⟨l', σ2, h1, h2, h3, h4, h5⟩ := (h.row.grow g).append [e] bytes hb
  have old : ∀ (i : Nat) (x : AVal), (es ++ [e])[i]? = some x → (es[i]? = some x ∧ i < es.length) ∨ (i = es.length ∧ x = e) := by
    intro i x hx
    rw [List.getElem?_append] at hx
    split at hx
    · rename_i hlt; exact .inl ⟨hx, hlt⟩
    · rename_i hlt
      rw [List.getElem?_singleton] at hx
      split at hx
      · injection hx with hx; exact .inr ⟨by omega, hx.symm⟩
      · cases hx
  have hll : ∀ id, l.sid = some id → id < σ.length := fun id hid => h.row.sl.lt hid
  have hx1 : ∀ (i : Nat) (x : AVal) (id : Nat), (es ++ [e])[i]? = some x → x.sid = some id → id < σ1.length ∧ l.sid ≠ some id := by
    intro i x id hx hid
    rcases old i x hx with ⟨hx, _⟩ | ⟨_, rfl⟩
    · exact ⟨Nat.lt_of_lt_of_le (h.lt hx hid) g.1, h.off i x id hx hid⟩
    · exact ⟨he.sl.lt hid, fun hl => by have := fe id hid; have := hll id hl; omega⟩
  refine ⟨l', σ2, h1, ⟨h2, by simp [h.len], ?_, ?_, ?_, ?_, ?_, ?_, h5 (.inr (by simp))⟩, h3.mono fun i hi hs => h.frl i hs⟩
  · intro i x q hx hq
    refine Own.keeps (σ := σ1) ?_ h3 fun id hid => (hx1 i x id hx hid).2
    rcases old i x hx with ⟨hx, hlt⟩ | ⟨rfl, rfl⟩
    · rw [List.getElem?_append_left (by rw [← h.len]; exact hlt)] at hq
      exact (h.one i x q hx hq).grow g
    · rw [h.len, List.getElem?_append_right (Nat.le_refl _), Nat.sub_self] at hq
      simp at hq; subst hq; exact he
  · intro i x hx
    rcases old i x hx with ⟨hx, _⟩ | ⟨_, rfl⟩
    · exact h.frs i x hx
    · exact fe.le hlo
  · intro id hid
    rcases h4 id hid with hh | hh
    · exact h.frl id hh
    · have := g.1; omega
  · intro i j x y id hx hy hxi hyi
    rcases old i x hx with ⟨hx', hil⟩ | ⟨hi, hxe⟩ <;> rcases old j y hy with ⟨hy', hjl⟩ | ⟨hj, hye⟩
    · exact h.apart i j x y id hx' hy' hxi hyi
    · rw [hye] at hyi; have := h.lt hx' hxi; have := fe id hyi; omega
    · rw [hxe] at hxi; have := h.lt hy' hyi; have := fe id hxi; omega
    · omega
  · intro i x id hx hid hl
    obtain ⟨k1, k2⟩ := hx1 i x id hx hid
    rcases h4 id hl with hh | hh
    · exact k2 hh
    · omega
  · intro i x hx
    rcases old i x hx with ⟨hx, _⟩ | ⟨_, rfl⟩
    · exact h.lit i x hx
    · exact le

theorem lit_elems (σ : Store) (sz : Nat) (es : List AVal) (n : Nat) (h : es.length = n) : elems sz (σ ++ [.arr sz es 0 0]) (.slice sz σ.length 0 0 n (some n)) = some es := by
  subst h; simp

/-- bytes as elements -/
def B (bs : List UInt8) : List AVal := bs.map fun b => .int .u8 b.toNat
theorem B_len (bs : List UInt8) : (B bs).length = bs.length := by simp [B]
theorem B_get (bs : List UInt8) (i : Nat) (h : i < (B bs).length) : (B bs)[i] = .int .u8 (bs[i]'(by simpa [B] using h)).toNat := by simp [B]
theorem B_drop (bs : List UInt8) (n : Nat) : (B bs).drop n = B (bs.drop n) := by simp [B, List.map_drop]
theorem B_take (bs : List UInt8) (n : Nat) : (B bs).take n = B (bs.take n) := by simp [B, List.map_take]
theorem B_app (a b : List UInt8) : B a ++ B b = B (a ++ b) := by simp [B]

theorem B_inj {a b : List UInt8} (h : B a = B b) : a = b := by
  have e : ∀ (a b : UInt8), AVal.int .u8 a.toNat = AVal.int .u8 b.toNat → a = b := fun a b h => by
    injection h with _ h
    exact UInt8.toNat_inj.1 (by omega)
  exact List.map_inj_right (fun x y h => e x y h) |>.1 h



/-- a row of lists, to be looked at -/
structure SRows (σ : Store) (sz : Nat) (l : AVal) (es : List AVal) (ps : List (List AVal)) : Prop where
  row : SlOf σ 1 l es
  len : es.length = ps.length
  one : ∀ (i : Nat) (e : AVal) (p : List AVal), es[i]? = some e → ps[i]? = some p → SlOf σ sz e p

theorem ORows.srows {σ : Store} {lo sz : Nat} {l : AVal} {es : List AVal} {ps : List (List AVal)} (h : ORows σ lo sz l es ps) : SRows σ sz l es ps :=
  ⟨h.row.sl, h.len, fun i e p h1 h2 => (h.one i e p h1 h2).sl⟩
theorem SRows.grow {σ σ' : Store} {sz : Nat} {l : AVal} {es : List AVal} {ps : List (List AVal)} (h : SRows σ sz l es ps) (g : Grows σ σ') : SRows σ' sz l es ps :=
  ⟨h.row.grow g, h.len, fun i e p h1 h2 => (h.one i e p h1 h2).grow g⟩
theorem SlOf.one {σ : Store} {sz : Nat} {v : AVal} {es : List AVal} (h : SlOf σ sz v es) : v.one = true := by
  rcases h.cases with ⟨rfl, rfl⟩ | ⟨t, full, rfl⟩ | ⟨id, ep, off, cap, sz', xs, epo, fl, rfl, _⟩ <;> rfl
theorem SRows.at {σ : Store} {sz : Nat} {l : AVal} {es : List AVal} {ps : List (List UInt8)} (h : SRows σ sz l es (ps.map B)) {i : Nat} (hi : i < ps.length) :
    ∃ e, iaddrV 1 l (.int .i64 i) = some (addrOf 1 l i) ∧ loadV σ 1 false (addrOf 1 l i) = some e ∧ SlOf σ sz e (B (ps[i])) := by
  have hl : i < es.length := by rw [h.len]; simpa using hi
  have ho := h.one i es[i] (B ps[i]) (List.getElem?_eq_getElem hl) (by simp [List.getElem?_eq_getElem hi])
  exact ⟨es[i], h.row.iaddr hl .i64, h.row.load1 hl ho.one 1, ho⟩
theorem SRows.take {σ : Store} {sz : Nat} {l : AVal} {es : List AVal} {ps : List (List AVal)} (h : SRows σ sz l es ps) {n : Nat} (hn : n ≤ ps.length) (k : IntKind) :
    ∃ l', sliceV 1 l none (some (.int k n)) none = some l' ∧ SRows σ sz l' (es.take n) (ps.take n) := by
  obtain ⟨l', h1, h2, _⟩ := h.row.sub_hi (hi := n) (by rw [h.len]; exact hn) k
  refine ⟨l', h1, h2, by simp [h.len], fun i e p he hp => ?_⟩
  rw [List.getElem?_take] at he hp
  split at he
  · rename_i hi
    rw [if_pos hi] at hp
    exact h.one i e p he hp
  · cases he

end Go.Proofs.Ytmocplkpnickgaa.Am

/-
  THE ABSTRACT MACHINE, part 36: a law's arguments, by their types.
-/
namespace Go.Proofs.Ytmocplkpnickgaa.Am
open Go Go.RowKit Go.ChangeShapes Go.WideShapes Go.ChangeAt Go.Proofs.Ytmocplkpnickgaa.Rows
set_option linter.unusedVariables false
set_option linter.unusedSimpArgs false

def argV {H : Type} (P : Program) (n : Nat) (t : TypeId) (d : DataW H) : AVal := elv P t (dec P n t d)

section
variable {P : Program} {cf : FuncId → FuncId} {W : World} {H : Type} {enc : TypeId × Value → H} {base : Nat}

theorem arg_read {n : Nat} {t : TypeId} {v : Value} {d : DataW H} {ps : List MemPlace} (hr : rdT P n t = true) (hval : Value.okWide P W .any base t v) (h : DataW.Trod enc P W 0 (fun _ => true) true t v d ps) :
    (startK W).V startE cf (argV P n t d) v ∧ Typed P n t d := by
  obtain ⟨fuel, hf⟩ := h
  obtain ⟨g, gt⟩ := read_dec (cf := cf) n hr hf
  refine ⟨?_, gt⟩
  have up : ∀ {a : AVal} {c : Value}, VRel cf W.heap ((startK W).safe startE) noIds a c → (startK W).V startE cf a c := fun h => VRel.mono (fun _ _ h => ⟨h, rfl⟩) (noIds_le _) h
  unfold argV elv
  cases ha : aggB P t with
  | true =>
    have hag : ∃ cs, v = .agg cs := by
      unfold Value.okWide at hval
      unfold aggB at ha
      split at hval
      · obtain ⟨cs, h, _⟩ := hval; exact ⟨cs, h⟩
      · obtain ⟨cs, h, _⟩ := hval; exact ⟨cs, h⟩
      · rename_i h1 h2
        split at ha
        · rename_i fs hfs; exact absurd hfs (h1 fs)
        · rename_i m e hm; exact absurd hm (h2 m e)
        · cases ha
    obtain ⟨cs, rfl⟩ := hag
    simp only [if_true]
    have := VRel.agg (cf := cf) (h := W.heap) (S := (startK W).safe startE) noIds _ _ g.rel g.one
    rw [Array.toArray_toList] at this
    exact up this
  | false =>
    simp only [Bool.false_eq_true, if_false]
    have hl : (dec P n t d).length = 1 := by rw [g.len, rdT_len hr ha]
    have hc : v.cells.toList = [v] := by
      have hcell : Cell.okWide P W .any base t v := by
        unfold Value.okWide at hval
        unfold aggB at ha
        split at hval
        · rename_i fs hfs; rw [hfs] at ha; cases ha
        · rename_i m e hm; rw [hm] at ha; cases ha
        · exact hval
      cases n with
      | zero => simp [rdT] at hr
      | succ n =>
        cases v with
        | agg cs =>
          exfalso
          unfold rdT at hr
          unfold Cell.okWide Cell.ok at hcell
          unfold aggB at ha
          split at hr
          · rename_i k hu; simp only [hu] at hcell
          · rename_i hu; simp only [hu] at hcell
          · rename_i hu; simp only [hu] at hcell
          · rename_i e hu; simp only [hu] at hcell
          · rename_i fs hu; simp only [hu] at ha; cases ha
          · rename_i m e hu; simp only [hu] at ha; cases ha
          · cases hr
        | _ => rfl
    have gr := g.rel
    rw [hc] at gr
    match hd : dec P n t d, hl with
    | [x], _ =>
      rw [hd] at gr
      cases gr with
      | cons _ _ _ _ _ hx _ => exact up hx

theorem ints_of {n : Nat} {t : TypeId} {k : IntKind} (ht : P.underlying t = some (.int k)) {d : DataW H} (h : Typed P (n + 1) t d) : ∃ i, argV P (n + 1) t d = .int k i ∧ (Lit.int k i).wf = true := by
  simp only [Typed, ht] at h
  obtain ⟨i, rfl, hw⟩ := h
  have ha : aggB P t = false := by simp [aggB, ht]
  exact ⟨i, by simp [argV, elv, ha, dec, ht], hw⟩

theorem wf_i64 {i : Int} (h : (Lit.int .i64 i).wf = true) : -9223372036854775808 ≤ i ∧ i < 9223372036854775808 := by
  simp [Lit.wf, IntKind.min, IntKind.max, IntKind.signed, IntKind.bits] at h
  omega
theorem wf_u8 {i : Int} (h : (Lit.int .u8 i).wf = true) : 0 ≤ i ∧ i < 256 := by
  simp [Lit.wf, IntKind.min, IntKind.max, IntKind.signed, IntKind.bits] at h
  omega

theorem argV_slice {n : Nat} {t e : TypeId} (ht : P.underlying t = some (.slice e)) (ds rest : List (DataW H)) : argV P (n + 1) t (.slice ds rest) = .fslice 0 false (P.cellsOf e) (ds.map fun x => argV P n e x) := by
  have ha : aggB P t = false := by simp [aggB, ht]
  simp only [argV, elv, ha, dec, ht, Bool.false_eq_true, if_false, List.headD_cons]
theorem argV_nil {n : Nat} {t e : TypeId} (ht : P.underlying t = some (.slice e)) : argV P (n + 1) t (.nil : DataW H) = .nilslice := by
  have ha : aggB P t = false := by simp [aggB, ht]
  simp only [argV, elv, ha, dec, ht, Bool.false_eq_true, if_false, List.headD_cons]
theorem argV_int {n : Nat} {t : TypeId} {k : IntKind} (ht : P.underlying t = some (.int k)) (i : Int) : argV P (n + 1) t (.lit (.int k i) : DataW H) = .int k i := by
  have ha : aggB P t = false := by simp [aggB, ht]
  simp only [argV, elv, ha, dec, ht, Bool.false_eq_true, if_false, List.headD_cons]

/-- a slice of whatever: the elements one by one -/
theorem list_of {α : Type} {n : Nat} {s : TypeId} {R : AVal → α → Prop} {size : α → Nat} (one : ∀ d : DataW H, Typed P n s d → ∃ a : α, R (argV P n s d) a ∧ size a ≤ uptoBulk d) : ∀ ds : List (DataW H), (∀ x ∈ ds, Typed P n s x) →
    ∃ xs : List α, xs.length = ds.length ∧ (∀ (i : Nat) (e : AVal) (a : α), (ds.map fun x => argV P n s x)[i]? = some e → xs[i]? = some a → R e a) ∧ (xs.map size).sum ≤ uptoBulkAll ds ∧ ds.length ≤ uptoBulkAll ds
  | [], _ => ⟨[], rfl, fun i e a h => by simp at h, Nat.zero_le _, Nat.zero_le _⟩
  | d :: ds, h => by
    obtain ⟨a, h1, h2⟩ := one d (h d (by simp))
    obtain ⟨xs, g1, g2, g3, g4⟩ := list_of one ds (fun x hx => h x (by simp [hx]))
    have h3 : 1 ≤ uptoBulk d := by cases d <;> first | (simp only [uptoBulk]; omega) | (rename_i l; cases l <;> simp only [uptoBulk] <;> omega)
    refine ⟨a :: xs, by simp [g1], fun i e b he hb => ?_, by simp only [List.map_cons, List.sum_cons, uptoBulkAll]; omega, by simp only [List.length_cons, uptoBulkAll]; omega⟩
    cases i with
    | zero =>
      simp only [List.map_cons, List.getElem?_cons_zero, Option.some.injEq] at he hb
      subst he; subst hb; exact h1
    | succ i => exact g2 i e b (by simpa using he) (by simpa using hb)

theorem slice_of {n : Nat} {t e : TypeId} (ht : P.underlying t = some (.slice e)) {d : DataW H} (h : Typed P (n + 1) t d) : (d = .nil) ∨ ∃ ds rest, d = .slice ds rest ∧ (∀ x ∈ ds, Typed P n e x) ∧ argV P (n + 1) t d = .fslice 0 false (P.cellsOf e) (ds.map fun x => argV P n e x) ∧ uptoBulkAll ds + 1 ≤ uptoBulk d := by
  simp only [Typed, ht] at h
  rcases h with rfl | ⟨ds, rest, rfl, hd⟩
  · exact .inl rfl
  · exact .inr ⟨ds, rest, rfl, hd, argV_slice ht ds rest, by simp only [uptoBulk]; omega⟩

theorem byte_of {n : Nat} {e : TypeId} (he : P.underlying e = some (.int .u8)) (d : DataW H) (h : Typed P (n + 1) e d) : ∃ b : UInt8, argV P (n + 1) e d = .int .u8 b.toNat ∧ 0 ≤ uptoBulk d := by
  obtain ⟨i, h1, h2⟩ := ints_of he h
  have := wf_u8 h2
  refine ⟨UInt8.ofNat i.toNat, ?_, Nat.zero_le _⟩
  have e1 : ((UInt8.ofNat i.toNat).toNat : Int) = i := by rw [UInt8.toNat_ofNat']; omega
  rw [h1, e1]

theorem bytes_of {n : Nat} {t e : TypeId} (ht : P.underlying t = some (.slice e)) (he : P.underlying e = some (.int .u8)) (hc : P.cellsOf e = 1) {d : DataW H} (h : Typed P (n + 2) t d) :
    ∃ bs : List UInt8, (∀ σ, SlOf σ 1 (argV P (n + 2) t d) (B bs)) ∧ bs.length ≤ uptoBulk d := by
  rcases slice_of ht h with rfl | ⟨ds, rest, rfl, hd, ha, hb⟩
  · exact ⟨[], fun σ => by rw [argV_nil ht]; exact SlOf.nil σ 1, Nat.zero_le _⟩
  · obtain ⟨bs, h1, h2, _, h4⟩ := list_of (R := fun a (b : UInt8) => a = .int .u8 b.toNat) (size := fun _ => 0) (fun d h => byte_of he d h) ds hd
    refine ⟨bs, fun σ => ?_, by omega⟩
    rw [ha, hc]
    have : (ds.map fun x => argV P (n + 1) e x) = B bs := by
      refine List.ext_getElem? fun i => ?_
      by_cases hi : i < ds.length
      · have e1 : (ds.map fun x => argV P (n + 1) e x)[i]? = some (argV P (n + 1) e ds[i]) := by simp [List.getElem?_eq_getElem hi]
        have e2 : bs[i]? = some (bs[i]'(by omega)) := List.getElem?_eq_getElem _
        have := h2 i _ _ e1 e2
        rw [e1, this, B, List.getElem?_map, e2]; rfl
      · rw [List.getElem?_eq_none (by simp; omega), List.getElem?_eq_none (by simp [B]; omega)]
    rw [this]
    exact SlOf.fs _ _ _ _ _

theorem rows_of {n : Nat} {t s e : TypeId} (ht : P.underlying t = some (.slice s)) (hs : P.underlying s = some (.slice e)) (hcs : P.cellsOf s = 1) (he : P.underlying e = some (.int .u8)) (hc : P.cellsOf e = 1) {d : DataW H} (h : Typed P (n + 3) t d) :
    ∃ (ps : List (List UInt8)) (es : List AVal), (∀ σ, SRows σ 1 (argV P (n + 3) t d) es (ps.map B)) ∧ ps.length ≤ uptoBulk d ∧ (ps.map List.length).sum ≤ uptoBulk d := by
  rcases slice_of ht h with rfl | ⟨ds, rest, rfl, hd, ha, hb⟩
  · exact ⟨[], [], fun σ => ⟨by rw [argV_nil ht]; exact SlOf.nil σ 1, rfl, fun i e p h => by simp at h⟩, Nat.zero_le _, Nat.zero_le _⟩
  · obtain ⟨ps, h1, h2, h3, h4⟩ := list_of (R := fun a (p : List UInt8) => ∀ σ, SlOf σ 1 a (B p)) (size := List.length) (fun d h => bytes_of hs he hc h) ds hd
    refine ⟨ps, ds.map fun x => argV P (n + 2) s x, fun σ => ⟨?_, by simp [h1], fun i a p hi hp => ?_⟩, by omega, by omega⟩
    · rw [ha, hcs]; exact SlOf.fs _ _ _ _ _
    · rw [List.getElem?_map, Option.map_eq_some_iff] at hp
      obtain ⟨q, hq, rfl⟩ := hp
      exact h2 i a q hi hq σ

theorem dec_one {n : Nat} {t : TypeId} {d : DataW H} (h : Typed P (n + 1) t d) (ha : aggB P t = false) : dec P (n + 1) t d = [argV P (n + 1) t d] := by
  unfold argV elv
  rw [ha]
  simp only [Bool.false_eq_true, if_false]
  unfold Typed at h
  split at h
  · rename_i k hu; obtain ⟨i, rfl, _⟩ := h; simp [dec, hu]
  · rename_i hu; obtain ⟨b, rfl⟩ := h; simp [dec, hu]
  · rename_i hu; obtain ⟨b, rfl⟩ := h; simp [dec, hu]
  · rename_i e hu
    rcases h with rfl | ⟨ds, rest, rfl, _⟩ <;> simp [dec, hu]
  · rename_i fs hu; unfold aggB at ha; rw [hu] at ha; cases ha
  · rename_i m e hu; unfold aggB at ha; rw [hu] at ha; cases ha
  · exact h.elim

theorem struct_of {n : Nat} {t : TypeId} {fs : Array Field} (ht : P.underlying t = some (.struct fs)) {d : DataW H} (h : Typed P (n + 1) t d) :
    ∃ ds, d = .agg ds ∧ ds.length = fs.size ∧ (∀ (i : Nat) (f : Field) (x : DataW H), fs[i]? = some f → ds[i]? = some x → Typed P n f.type x) ∧
      argV P (n + 1) t d = .agg (List.zipWith (fun (f : Field) x => dec P n f.type x) fs.toList ds).flatten ∧ uptoBulkAll ds + 1 ≤ uptoBulk d := by
  have ha : aggB P t = true := by simp [aggB, ht]
  unfold Typed at h
  rw [ht] at h
  obtain ⟨ds, rfl, h1, h2⟩ := h
  refine ⟨ds, rfl, h1, h2, ?_, by simp only [uptoBulk]; omega⟩
  unfold argV elv
  rw [ha, if_pos rfl]
  conv => lhs; unfold dec
  rw [ht]
end
end Go.Proofs.Ytmocplkpnickgaa.Am

/-
  THE ABSTRACT MACHINE, part 37: the calculus, for regions in any order.
-/
namespace Go.Proofs.Ytmocplkpnickgaa.Am
open Go
set_option linter.unusedVariables false
set_option linter.unusedSimpArgs false

mutual
theorem AVal.beq_self : ∀ v : AVal, AVal.beq v v = true
  | .undef | .nilptr | .nilslice | .nilmap | .nilfunc | .nilIface => rfl
  | .bool b => by simp [AVal.beq]
  | .int k n => by simp [AVal.beq]
  | .str s => by simp [AVal.beq]
  | .ptr a b => by simp [AVal.beq]
  | .eptr a b c e => by simp [AVal.beq]
  | .fptr t cs o => by simp [AVal.beq, AVal.beqL_self cs]
  | .slice a b c e f g => by simp [AVal.beq]
  | .fslice t b sz es => by simp [AVal.beq, AVal.beqL_self es]
  | .map a => by simp [AVal.beq]
  | .fmap t a b => by simp [AVal.beq, AVal.beqL_self a, AVal.beqL_self b]
  | .func f a b => by simp [AVal.beq, AVal.beqL_self a, AVal.beqL_self b]
  | .iface t v => by simp [AVal.beq, AVal.beq_self v]
  | .agg cs => by simp [AVal.beq, AVal.beqL_self cs]
  | .tuple cs => by simp [AVal.beq, AVal.beqL_self cs]
theorem AVal.beqL_self : ∀ v : List AVal, AVal.beqL v v = true
  | [] => rfl
  | v :: vs => by simp [AVal.beqL, AVal.beq_self v, AVal.beqL_self vs]
end

section
variable {cfg : Cfg} {d : Nat}

/-- the operations one by one; the states are kept, and what is asked of the readers is asked in the end -/
def wpD (cfg : Cfg) (d : Nat) (ops : List AOper) (pairs : List (Nat × Nat)) : List AOper → List FS → List AVal → Store → PostF → Prop
  | [], hist, fr, σ, Q => (∀ p ∈ pairs, steady cfg noCall d ops (hist ++ [(fr, σ)]) p = true) ∧ Q fr σ
  | o :: os, hist, fr, σ, Q => wpOs cfg d [o] fr σ (fun fr' σ' => wpD cfg d ops pairs os (hist ++ [(fr, σ)]) fr' σ' Q)

theorem wpD_sound {ops : List AOper} {pairs : List (Nat × Nat)} {Q : PostF} : ∀ (os : List AOper) (hist : List FS) (fr : List AVal) (σ : Store), wpD cfg d ops pairs os hist fr σ Q →
    ∃ n s', stepOs cfg (run cfg n) d os (fr, σ) = some s' ∧ Q s'.1 s'.2 ∧ ∀ p ∈ pairs, steady cfg noCall d ops (hist ++ traceOs cfg (run cfg n) d os (fr, σ)) p = true
  | [], hist, fr, σ, h => ⟨0, (fr, σ), rfl, h.2, h.1⟩
  | o :: os, hist, fr, σ, h => by
    unfold wpD at h
    obtain ⟨n1, s1, e1, h2⟩ := wpOs_sound h
    obtain ⟨n2, s2, e2, hq, hst⟩ := wpD_sound os _ _ _ h2
    have e1' : stepO cfg (run cfg n1) d o (fr, σ) = some s1 := by
      simp only [stepOs] at e1
      split at e1
      · rename_i s hs; rw [hs]; exact e1
      · cases e1
    have f1 := stepO_mono (run_le cfg (Nat.le_max_left n1 n2)) e1'
    obtain ⟨f2, f3⟩ := stepOs_mono (run_le cfg (Nat.le_max_right n1 n2)) e2
    refine ⟨max n1 n2, s2, ?_, hq, fun p hp => ?_⟩
    · simp only [stepOs]; rw [f1]; exact f2
    · have := hst p hp
      rw [List.append_assoc] at this
      simp only [traceOs]
      rw [f1]
      dsimp only
      have e3 : traceOs cfg (run cfg (max n1 n2)) d os s1 = traceOs cfg (run cfg n2) d os (s1.1, s1.2) := f3
      rw [e3]
      exact this

theorem drawnP_eq {ops : List AOper} {pairs : List (Nat × Nat)} {fr : List AVal} {σ : Store} {Q : PostF} {w : Wit Q} (h : wpD cfg d ops pairs ops [] fr σ Q) : drawnP cfg d ops pairs fr σ Q w := by
  obtain ⟨n, s', h1, h2, h3⟩ := wpD_sound ops [] fr σ h
  unfold drawnP
  refine ⟨n, s', h1, ?_, h2⟩
  rw [List.all_eq_true]
  intro p hp
  exact steady_mono (noCall_le _) (by simpa using h3 p hp)

theorem wpD_nil {ops : List AOper} {pairs : List (Nat × Nat)} {hist : List FS} {fr : List AVal} {σ : Store} {Q : PostF} : wpD cfg d ops pairs [] hist fr σ Q = ((∀ p ∈ pairs, steady cfg noCall d ops (hist ++ [(fr, σ)]) p = true) ∧ Q fr σ) := propext Iff.rfl
theorem wpD_cons {ops : List AOper} {pairs : List (Nat × Nat)} {o : AOper} {os : List AOper} {hist : List FS} {fr : List AVal} {σ : Store} {Q : PostF} : wpD cfg d ops pairs (o :: os) hist fr σ Q = wpOs cfg d [o] fr σ (fun fr' σ' => wpD cfg d ops pairs os (hist ++ [(fr, σ)]) fr' σ' Q) := propext Iff.rfl

/-- a reader that reads the same in both stores -/
theorem steady_same {ops : List AOper} {i k : Nat} {T : List FS} {s τ : FS} {o : AOper} {v : AVal} (h1 : ops[i]? = some o) (h2 : T[i]? = some s) (h3 : T[if k < i then k else k + 1]? = some τ) (hg : o.guard = none)
    (e1 : opStep cfg noCall d s.1 s.2 o.op = some (v, s.2)) (e2 : opStep cfg noCall d s.1 τ.2 o.op = some (v, τ.2)) : steady cfg noCall d ops T (i, k) = true := by
  unfold steady
  rw [h1, h2, h3]
  dsimp only
  rw [hg]
  simp only [wantedA]
  rw [e1, e2]
  exact AVal.beq_self v
end
attribute [irreducible] wpD
end Go.Proofs.Ytmocplkpnickgaa.Am

/-
  THE ABSTRACT MACHINE, part 38: the calculus, for regions in any order, when every reader stands behind what it could be drawn ahead of.
-/
namespace Go.Proofs.Ytmocplkpnickgaa.Am
open Go
set_option linter.unusedVariables false
set_option linter.unusedSimpArgs false

def heldP (C : Prop) (fr : List AVal) (σ : Store) (K : List AVal → Store → Prop) (w : Wit K) : Prop := C ∧ K fr σ
theorem heldP_true (fr : List AVal) (σ : Store) (K : List AVal → Store → Prop) (w : Wit K) : heldP True fr σ K w = K fr σ := by simp [heldP]
theorem heldP_of {C : Prop} {fr : List AVal} {σ : Store} {K : List AVal → Store → Prop} {w : Wit K} (h : C) (hk : K fr σ) : heldP C fr σ K w := ⟨h, hk⟩

def hupd (h : Nat → Store) (k : Nat) (σ : Store) : Nat → Store := fun t => if t = k then σ else h t
theorem hupd_apply (h : Nat → Store) (k : Nat) (σ : Store) (t : Nat) : hupd h k σ t = if t = k then σ else h t := by simp only [hupd]

def ksOf : List (Nat × Nat) → Nat → List Nat
  | [], _ => []
  | (a, k) :: ps, i => if a = i then (if k < i then k :: ksOf ps i else ksOf ps i) else ksOf ps i
theorem ksOf_nil (i : Nat) : ksOf [] i = [] := by simp [ksOf]
theorem ksOf_cons (a k : Nat) (ps : List (Nat × Nat)) (i : Nat) : ksOf ((a, k) :: ps) i = if a = i then (if k < i then k :: ksOf ps i else ksOf ps i) else ksOf ps i := by simp [ksOf]
theorem mem_ksOf {ps : List (Nat × Nat)} {i k : Nat} (hk : k < i) : (i, k) ∈ ps → k ∈ ksOf ps i := by
  induction ps with
  | nil => intro h; cases h
  | cons p ps ih =>
    obtain ⟨a, k'⟩ := p
    intro h
    rw [ksOf_cons]
    rcases List.mem_cons.1 h with h | h
    · injection h with h1 h2; subst h1; subst h2; rw [if_pos rfl, if_pos hk]; exact List.mem_cons_self
    · split
      · split
        · exact List.mem_cons_of_mem _ (ih h)
        · exact ih h
      · exact ih h

/-- what is to be seen behind a later operation -/
def addP (P : Store → Prop) : List (Nat × Nat) → Nat → List (Nat × (Store → Prop)) → List (Nat × (Store → Prop))
  | [], _, pe => pe
  | (a, k) :: ps, i, pe => if a = i then (if i < k then (k, P) :: addP P ps i pe else addP P ps i pe) else addP P ps i pe
theorem addP_nil (P : Store → Prop) (i : Nat) (pe : List (Nat × (Store → Prop))) : addP P [] i pe = pe := by simp [addP]
theorem addP_cons (P : Store → Prop) (a k : Nat) (ps : List (Nat × Nat)) (i : Nat) (pe : List (Nat × (Store → Prop))) : addP P ((a, k) :: ps) i pe = if a = i then (if i < k then (k, P) :: addP P ps i pe else addP P ps i pe) else addP P ps i pe := by simp [addP]
theorem mem_addP {P : Store → Prop} {ps : List (Nat × Nat)} {i k : Nat} (hk : i < k) {pe : List (Nat × (Store → Prop))} : (i, k) ∈ ps → (k, P) ∈ addP P ps i pe := by
  induction ps with
  | nil => intro h; cases h
  | cons p ps ih =>
    obtain ⟨a, k'⟩ := p
    intro h
    rw [addP_cons]
    rcases List.mem_cons.1 h with h | h
    · injection h with h1 h2; subst h1; subst h2; rw [if_pos rfl, if_pos hk]; exact List.mem_cons_self
    · split
      · split
        · exact List.mem_cons_of_mem _ (ih h)
        · exact ih h
      · exact ih h
theorem old_addP {P : Store → Prop} {ps : List (Nat × Nat)} {i : Nat} {pe : List (Nat × (Store → Prop))} {x : Nat × (Store → Prop)} (hx : x ∈ pe) : x ∈ addP P ps i pe := by
  induction ps with
  | nil => rw [addP_nil]; exact hx
  | cons p ps ih =>
    obtain ⟨a, k'⟩ := p
    rw [addP_cons]
    split
    · split
      · exact List.mem_cons_of_mem _ ih
      · exact ih
    · exact ih
def dueP (i : Nat) (σ : Store) : List (Nat × (Store → Prop)) → Prop
  | [] => True
  | (k, P) :: r => (if k = i then P σ else True) ∧ dueP i σ r
theorem dueP_nil (i : Nat) (σ : Store) : dueP i σ [] = True := by simp [dueP]
theorem dueP_cons (i : Nat) (σ : Store) (k : Nat) (P : Store → Prop) (r : List (Nat × (Store → Prop))) : dueP i σ ((k, P) :: r) = ((if k = i then P σ else True) ∧ dueP i σ r) := by simp [dueP]
theorem dueP_mem {i : Nat} {σ : Store} {pe : List (Nat × (Store → Prop))} (h : dueP i σ pe) {P : Store → Prop} (hm : (i, P) ∈ pe) : P σ := by
  induction pe with
  | nil => cases hm
  | cons x r ih =>
    obtain ⟨k, P'⟩ := x
    rw [dueP_cons] at h
    rcases List.mem_cons.1 hm with e | e
    · injection e with e1 e2; subst e1; subst e2
      have := h.1
      rwa [if_pos rfl] at this
    · exact ih h.2 e

def guardS (g : Option Bool) (P : Prop) : Prop := match g with
  | some true => P
  | _ => True
theorem guardS_true (P : Prop) : guardS (some true) P = P := propext Iff.rfl
theorem guardS_false (P : Prop) : guardS (some false) P = True := propext Iff.rfl

section
variable {cfg : Cfg} {d : Nat}

def sameP (cfg : Cfg) (d : Nat) (o : AOper) (fr : List AVal) (σ τ : Store) : Prop := guardS (wantedA fr o.guard) (match o.op with
  | .load n agg a => loadV τ n agg (ev cfg fr a) = loadV σ n agg (ev cfg fr a)
  | op => ∃ v σ1 σ2, opStep cfg noCall d fr σ op = some (v, σ1) ∧ opStep cfg noCall d fr τ op = some (v, σ2))
theorem sameP_load (dst : Option Nat) (n : Nat) (agg : Bool) (a : Opnd) (g : Option (Nat × Bool)) (fr : List AVal) (σ τ : Store) :
    sameP cfg d ⟨dst, .load n agg a, g⟩ fr σ τ = guardS (wantedA fr g) (loadV τ n agg (ev cfg fr a) = loadV σ n agg (ev cfg fr a)) := propext Iff.rfl
theorem wantedA_none (fr : List AVal) : wantedA fr none = some true := by simp [wantedA]

def sameAll (cfg : Cfg) (d : Nat) (o : AOper) (fr : List AVal) (σ : Store) (H : Nat → Store) : List Nat → Prop
  | [] => True
  | k :: ks => sameP cfg d o fr σ (H k) ∧ sameAll cfg d o fr σ H ks
theorem sameAll_nil (o : AOper) (fr : List AVal) (σ : Store) (H : Nat → Store) : sameAll cfg d o fr σ H [] = True := propext Iff.rfl
theorem sameAll_cons (o : AOper) (fr : List AVal) (σ : Store) (H : Nat → Store) (k : Nat) (ks : List Nat) : sameAll cfg d o fr σ H (k :: ks) = (sameP cfg d o fr σ (H k) ∧ sameAll cfg d o fr σ H ks) := propext Iff.rfl
theorem sameAll_mem {o : AOper} {fr : List AVal} {σ : Store} {H : Nat → Store} {ks : List Nat} (h : sameAll cfg d o fr σ H ks) {k : Nat} (hk : k ∈ ks) : sameP cfg d o fr σ (H k) := by
  induction ks with
  | nil => cases hk
  | cons a ks ih =>
    rw [sameAll_cons] at h
    rcases List.mem_cons.1 hk with e | e
    · subst e; exact h.1
    · exact ih h.2 e

def wpE (cfg : Cfg) (d : Nat) (pairs : List (Nat × Nat)) : Nat → List AOper → (Nat → Store) → List (Nat × (Store → Prop)) → List AVal → Store → PostF → Prop
  | _, [], _, _, fr, σ, Q => Q fr σ
  | i, o :: os, H, pe, fr, σ, Q => heldP (sameAll cfg d o fr σ H (ksOf pairs i)) fr σ (fun fr σ => wpOs cfg d [o] fr σ (fun fr' σ' => heldP (dueP i σ' (addP (sameP cfg d o fr σ) pairs i pe)) fr' σ' (fun fr' σ' => wpE cfg d pairs (i + 1) os (hupd H i σ) (addP (sameP cfg d o fr σ) pairs i pe) fr' σ' Q) .mk)) .mk
theorem wpE_nil (pairs : List (Nat × Nat)) (i : Nat) (H : Nat → Store) (pe : List (Nat × (Store → Prop))) (fr : List AVal) (σ : Store) (Q : PostF) : wpE cfg d pairs i [] H pe fr σ Q = Q fr σ := propext Iff.rfl
theorem wpE_cons (pairs : List (Nat × Nat)) (i : Nat) (o : AOper) (os : List AOper) (H : Nat → Store) (pe : List (Nat × (Store → Prop))) (fr : List AVal) (σ : Store) (Q : PostF) :
    wpE cfg d pairs i (o :: os) H pe fr σ Q = heldP (sameAll cfg d o fr σ H (ksOf pairs i)) fr σ (fun fr σ => wpOs cfg d [o] fr σ (fun fr' σ' => heldP (dueP i σ' (addP (sameP cfg d o fr σ) pairs i pe)) fr' σ' (fun fr' σ' => wpE cfg d pairs (i + 1) os (hupd H i σ) (addP (sameP cfg d o fr σ) pairs i pe) fr' σ' Q) .mk)) .mk := propext Iff.rfl

theorem same_steady {ops : List AOper} {i k j : Nat} {T : List FS} {fr : List AVal} {σ : Store} {τ : FS} {o : AOper} {n : Nat} {s' : FS} (h1 : ops[i]? = some o) (h2 : T[i]? = some (fr, σ)) (hj : (if k < i then k else k + 1) = j) (h3 : T[j]? = some τ)
    (hs : sameP cfg d o fr σ τ.2) (hr : stepO cfg (run cfg n) d o (fr, σ) = some s') : steady cfg noCall d ops T (i, k) = true := by
  unfold steady
  dsimp only
  rw [h1, h2, hj, h3]
  dsimp only
  cases hw : wantedA fr o.guard with
  | none => rfl
  | some b =>
    cases b with
    | false => rfl
    | true =>
      dsimp only
      unfold sameP at hs
      rw [hw, guardS_true] at hs
      simp only [stepO, hw] at hr
      obtain ⟨dst, op, g⟩ := o
      cases op with
      | load m agg a =>
        dsimp only at hs hr ⊢
        simp only [opStep] at hr ⊢
        rw [hs]
        cases hl : loadV σ m agg (ev cfg fr a) with
        | none => rw [hl] at hr; simp at hr
        | some v => simp [AVal.beq_self]
      | _ =>
        obtain ⟨v, σ1, σ2, e1, e2⟩ := hs
        dsimp only at e1 e2 ⊢
        rw [e1, e2]
        exact AVal.beq_self v

/-- what is still to be seen -/
def Due (cfg : Cfg) (d : Nat) (ops : List AOper) (pairs : List (Nat × Nat)) (hist : List FS) (pe : List (Nat × (Store → Prop))) (i : Nat) : Prop :=
  ∀ p ∈ pairs, p.1 < i → i ≤ p.2 → ∃ (o : AOper) (s s' : FS) (n : Nat), ops[p.1]? = some o ∧ hist[p.1]? = some s ∧ stepO cfg (run cfg n) d o s = some s' ∧ (p.2, sameP cfg d o s.1 s.2) ∈ pe

theorem wpE_sound {ops : List AOper} {pairs : List (Nat × Nat)} {Q : PostF} : ∀ (os : List AOper) (i : Nat) (H : Nat → Store) (pe : List (Nat × (Store → Prop))) (hist : List FS) (fr : List AVal) (σ : Store), hist.length = i → (∀ k, k < i → ∃ τ, hist[k]? = some τ ∧ τ.2 = H k) →
    Due cfg d ops pairs hist pe i → ops.drop i = os → wpE cfg d pairs i os H pe fr σ Q →
    ∃ n s', stepOs cfg (run cfg n) d os (fr, σ) = some s' ∧ Q s'.1 s'.2 ∧ (∀ p ∈ pairs, i ≤ p.1 → p.1 < ops.length → p.2 < p.1 → steady cfg noCall d ops (hist ++ traceOs cfg (run cfg n) d os (fr, σ)) p = true) ∧
      ∀ p ∈ pairs, i ≤ p.2 → p.2 < ops.length → p.1 < p.2 → steady cfg noCall d ops (hist ++ traceOs cfg (run cfg n) d os (fr, σ)) p = true
  | [], i, H, pe, hist, fr, σ, hl, hh, hd, ho, h => ⟨0, (fr, σ), rfl, h, fun p hp h1 h2 h3 => by
      have := congrArg List.length ho
      simp only [List.length_drop, List.length_nil] at this
      omega, fun p hp h1 h2 h3 => by
      have := congrArg List.length ho
      simp only [List.length_drop, List.length_nil] at this
      omega⟩
  | o :: os, i, H, pe, hist, fr, σ, hl, hh, hd, ho, h => by
    rw [wpE_cons] at h
    obtain ⟨hc, h⟩ := h
    obtain ⟨n1, s1, e1, hdu, h2⟩ := wpOs_sound h
    have hi : i < ops.length := by
      have := congrArg List.length ho
      simp only [List.length_drop, List.length_cons] at this
      omega
    have hoi : ops[i]? = some o := by
      have := congrArg (fun l => l[0]?) ho
      simpa using this
    have hos : ops.drop (i + 1) = os := by
      have := congrArg List.tail ho
      simpa using this
    have e1' : stepO cfg (run cfg n1) d o (fr, σ) = some s1 := by
      simp only [stepOs] at e1
      split at e1
      · rename_i s hs; rw [hs]; exact e1
      · cases e1
    have hd' : Due cfg d ops pairs (hist ++ [(fr, σ)]) (addP (sameP cfg d o fr σ) pairs i pe) (i + 1) := by
      intro p hp h1 h2
      by_cases e : p.1 = i
      · obtain ⟨a, k⟩ := p
        dsimp only at e h2 ⊢
        subst e
        exact ⟨o, (fr, σ), s1, n1, hoi, by rw [← hl]; simp, e1', mem_addP (by omega) hp⟩
      · obtain ⟨o', s, s', n, a1, a2, a3, a4⟩ := hd p hp (by omega) (by omega)
        exact ⟨o', s, s', n, a1, by rw [List.getElem?_append_left (by omega)]; exact a2, a3, old_addP a4⟩
    obtain ⟨n2, s2, e2, hq, hst, hst2⟩ := wpE_sound os (i + 1) (hupd H i σ) _ (hist ++ [(fr, σ)]) s1.1 s1.2 (by simp [hl]) (fun k hk => by
      by_cases e : k = i
      · subst e
        exact ⟨(fr, σ), by rw [← hl]; simp, by simp [hupd]⟩
      · obtain ⟨τ, t1, t2⟩ := hh k (by omega)
        exact ⟨τ, by rw [List.getElem?_append_left (by omega)]; exact t1, by simp [hupd, e, t2]⟩) hd' hos h2
    have f1 := stepO_mono (run_le cfg (Nat.le_max_left n1 n2)) e1'
    obtain ⟨f2, f3⟩ := stepOs_mono (run_le cfg (Nat.le_max_right n1 n2)) e2
    have et : traceOs cfg (run cfg (max n1 n2)) d (o :: os) (fr, σ) = (fr, σ) :: traceOs cfg (run cfg n2) d os (s1.1, s1.2) := by
      simp only [traceOs]
      rw [f1]
      dsimp only
      have e3 : traceOs cfg (run cfg (max n1 n2)) d os s1 = traceOs cfg (run cfg n2) d os (s1.1, s1.2) := f3
      rw [e3]
    have th : (traceOs cfg (run cfg n2) d os (s1.1, s1.2))[0]? = some (s1.1, s1.2) := by
      cases os <;> simp [traceOs]
    refine ⟨max n1 n2, s2, ?_, hq, fun p hp hp1 hp2 hp3 => ?_, fun p hp hp1 hp2 hp3 => ?_⟩
    · simp only [stepOs]; rw [f1]; exact f2
    · rw [et]
      by_cases e : p.1 = i
      · obtain ⟨a, k⟩ := p
        dsimp only at e hp3
        subst e
        obtain ⟨τ, t1, t2⟩ := hh k hp3
        refine same_steady hoi (by rw [← hl]; simp) (if_pos hp3) (by rw [List.getElem?_append_left (by omega)]; exact t1) ?_ e1'
        rw [t2]
        exact sameAll_mem hc (mem_ksOf hp3 hp)
      · have := hst p hp (by omega) hp2 hp3
        rw [List.append_assoc] at this
        exact this
    · rw [et]
      by_cases e : p.2 = i
      · obtain ⟨a, k⟩ := p
        dsimp only at e hp3
        subst e
        obtain ⟨o', s, s', n, a1, a2, a3, a4⟩ := hd (a, k) hp hp3 (Nat.le_refl _)
        have hsame := dueP_mem hdu (old_addP a4)
        refine same_steady (τ := (s1.1, s1.2)) a1 (fr := s.1) (σ := s.2) (by rw [List.getElem?_append_left (by omega)]; exact a2) (if_neg (by omega)) ?_ hsame a3
        rw [List.getElem?_append_right (by omega), show k + 1 - hist.length = 1 by omega]
        simpa using th
      · have := hst2 p hp (by omega) hp2 hp3
        rw [List.append_assoc] at this
        exact this

/-- a drawn region, one operation behind the other -/
theorem drawnP_of {ops : List AOper} {pairs : List (Nat × Nat)} {fr : List AVal} {σ : Store} {Q : PostF} {w : Wit Q} (hp : pairs.all (fun p => decide (p.1 < ops.length) && decide (p.2 < ops.length) && !(p.1 == p.2)) = true) (h : wpE cfg d pairs 0 ops (fun _ => []) [] fr σ Q) : drawnP cfg d ops pairs fr σ Q w := by
  obtain ⟨n, s', h1, h2, h3, h4⟩ := wpE_sound (ops := ops) ops 0 (fun _ => []) [] [] fr σ rfl (fun k hk => by omega) (fun p hp h => by omega) rfl h
  unfold drawnP
  refine ⟨n, s', h1, ?_, h2⟩
  rw [List.all_eq_true]
  intro p hp'
  have := List.all_eq_true.1 hp p hp'
  simp only [Bool.and_eq_true, decide_eq_true_eq, Bool.not_eq_true', beq_eq_false_iff_ne] at this
  rcases Nat.lt_or_gt_of_ne this.2 with hlt | hlt
  · have h5 := h4 p hp' (Nat.zero_le _) this.1.2 hlt
    rw [List.nil_append] at h5
    exact steady_mono (noCall_le _) h5
  · have h5 := h3 p hp' (Nat.zero_le _) this.1.1 hlt
    rw [List.nil_append] at h5
    exact steady_mono (noCall_le _) h5
end
attribute [irreducible] wpE heldP sameAll guardS hupd ksOf sameP addP dueP
end Go.Proofs.Ytmocplkpnickgaa.Am

/-
  THE ABSTRACT MACHINE, part 39: the calculus: what holds behind a text may be forgotten in part.
-/
namespace Go.Proofs.Ytmocplkpnickgaa.Am
open Go
set_option linter.unusedVariables false
set_option linter.unusedSimpArgs false

section
variable {cfg : Cfg} {d : Nat}

theorem callP_mono {m : Mode} {f : FuncId} {args : List AVal} {σ : Store} {Q Q' : AVal → Store → Prop} (h : callP cfg d m f args σ Q) (hq : ∀ v σ', Q v σ' → Q' v σ') : callP cfg d m f args σ Q' := by
  cases m with
  | shared => exact Called.mono h hq
  | iso =>
    obtain ⟨a, h1, h2⟩ := h
    exact ⟨a, h1, h2.mono fun v σ1 ⟨v', h3, h4, h5⟩ => ⟨v', h3, h4, hq _ _ h5⟩⟩
theorem opP_wp_mono {fr : List AVal} {σ : Store} {op : AOp} {Q Q' : AVal → Store → Prop} (h : opP cfg d fr σ op Q) (hq : ∀ v σ', Q v σ' → Q' v σ') : opP cfg d fr σ op Q' := by
  have key : opE cfg d fr σ op Q → opE cfg d fr σ op Q' := by
    intro h
    unfold opE optP at h ⊢
    split at h
    · exact hq _ _ h
    · exact h.elim
  cases op with
  | call m f args => exact callP_mono h hq
  | callv m f args =>
    simp only [opP] at h ⊢
    split at h
    · exact callP_mono h hq
    · exact h.elim
  | _ => exact key h
theorem wpOs_mono : ∀ {os : List AOper} {fr : List AVal} {σ : Store} {Q Q' : PostF}, wpOs cfg d os fr σ Q → (∀ fr σ, Q fr σ → Q' fr σ) → wpOs cfg d os fr σ Q'
  | [], fr, σ, Q, Q', h, hq => by unfold wpOs at h ⊢; exact hq _ _ h
  | o :: os, fr, σ, Q, Q', h, hq => by
    unfold wpOs guardP at h ⊢
    split at h
    · rename_i hw; exact opP_wp_mono h fun v σ' h => wpOs_mono h hq
    · rename_i hw; exact wpOs_mono h hq
    · exact h.elim
theorem wpC_mono : ∀ {c : ACode} {fr : List AVal} {σ : Store} {Q Q' : PostC}, wpC cfg d c fr σ Q → (∀ x fr σ, Q x fr σ → Q' x fr σ) → wpC cfg d c fr σ Q'
  | .skip, fr, σ, Q, Q', h, hq => by unfold wpC at h ⊢; exact hq _ _ _ h
  | .region ops, fr, σ, Q, Q', h, hq => by unfold wpC at h ⊢; exact wpOs_mono h fun fr σ => hq _ _ _
  | .drawn ops pairs, fr, σ, Q, Q', h, hq => by
    unfold wpC drawnP at h ⊢
    obtain ⟨n, s', h1, h2, h3⟩ := h
    exact ⟨n, s', h1, h2, hq _ _ _ h3⟩
  | .seq a b, fr, σ, Q, Q', h, hq => by
    unfold wpC at h ⊢
    refine wpC_mono h fun x fr σ h => ?_
    unfold seqQ at h ⊢
    cases x with
    | normal => exact wpC_mono h hq
    | exit id => exact hq _ _ _ h
    | ret => exact hq _ _ _ h
  | .cond c a b, fr, σ, Q, Q', h, hq => by
    unfold wpC condP at h ⊢
    split at h
    · exact wpC_mono h hq
    · exact wpC_mono h hq
    · exact h.elim
  | .block id c, fr, σ, Q, Q', h, hq => by
    unfold wpC at h ⊢
    refine wpC_mono h fun x fr σ h => ?_
    unfold blockQ at h ⊢
    cases x <;> exact hq _ _ _ h
  | .loop live c, fr, σ, Q, Q', h, hq => by
    unfold wpC loopP at h ⊢
    obtain ⟨n, x, s', h1, h2⟩ := h
    exact ⟨n, x, s', h1, hq _ _ _ h2⟩
  | .exit id, fr, σ, Q, Q', h, hq => by unfold wpC at h ⊢; exact hq _ _ _ h
  | .ret, fr, σ, Q, Q', h, hq => by unfold wpC at h ⊢; exact hq _ _ _ h
  | .stop, fr, σ, Q, Q', h, hq => by unfold wpC at h; exact h.elim

/-- a block: what is live behind it, and what holds of it -/
theorem block_rule {id : Nat} {c : ACode} {n : Nat} {e : Nat → AVal} {σ : Store} {Q : PostC} (lo : List Nat) (J : AExit → List AVal → Store → Prop)
    (h : wpC cfg d c (Fr' n e) σ (blockQ id fun x fr σ => fr.length = n ∧ J x (lo.map fun t => fr.getD t .undef) σ))
    (post : ∀ x σ (e : Nat → AVal), J x (lo.map e) σ → Q x (Fr' n e) σ) : wpC cfg d c (Fr' n e) σ (blockQ id Q) := by
  refine wpC_mono h fun x fr σ h => ?_
  have key : ∀ x, (fr.length = n ∧ J x (lo.map fun t => fr.getD t .undef) σ) → Q x fr σ := fun x ⟨hl, h2⟩ => by
    have := post x σ (fun t => fr.getD t .undef) h2
    rw [← hl, ← Fr_of] at this
    exact this
  unfold blockQ at h ⊢
  cases x <;> exact key _ h
theorem block_rule' {id : Nat} {c : ACode} {n : Nat} {e : Nat → AVal} {σ : Store} {Q : PostC} (lo : List Nat) (J : AExit → List AVal → Store → Prop)
    (h : wpC cfg d c (Fr' n e) σ (blockQ id fun x fr σ => fr.length = n ∧ J x (lo.map fun t => fr.getD t .undef) σ))
    (post : ∀ x σ (e : Nat → AVal), J x (lo.map e) σ → Q x (Fr' n e) σ) : wpC cfg d (.block id c) (Fr' n e) σ Q := by
  rw [wpC_block]; exact block_rule lo J h post
/-- .. any text -/
theorem cut_rule {c : ACode} {n : Nat} {e : Nat → AVal} {σ : Store} {Q : PostC} (lo : List Nat) (J : AExit → List AVal → Store → Prop)
    (h : wpC cfg d c (Fr' n e) σ (fun x fr σ => fr.length = n ∧ J x (lo.map fun t => fr.getD t .undef) σ))
    (post : ∀ x σ (e : Nat → AVal), J x (lo.map e) σ → Q x (Fr' n e) σ) : wpC cfg d c (Fr' n e) σ Q := by
  refine wpC_mono h fun x fr σ ⟨hl, h2⟩ => ?_
  have := post x σ (fun t => fr.getD t .undef) h2
  rw [← hl, ← Fr_of] at this
  exact this
end
end Go.Proofs.Ytmocplkpnickgaa.Am

/-
  THE ABSTRACT MACHINE, part 40: the calculus' rules in bundles, to be used by one name each.
-/
namespace Go.Proofs.Ytmocplkpnickgaa.Am
open Go

/-- the rules that are used from the outside in -/
theorem WPd : type_of% (And.intro (And.intro (And.intro (And.intro (And.intro (And.intro @wpC_skip @wpC_region) (And.intro @wpC_drawn @wpC_seq)) (And.intro (And.intro @wpC_loop @wpC_exit) (And.intro @wpC_ret @wpOs_nil))) (And.intro (And.intro (And.intro @wpOs_guard @seqQ_normal) (And.intro @seqQ_exit @seqQ_ret)) (And.intro (And.intro @blockQ_normal @blockQ_hit) (And.intro @blockQ_miss @blockQ_ret)))) (And.intro (And.intro (And.intro (And.intro @endQ_normal @endQ_ret) (And.intro @loopQ_exit @loopQ_ret)) (And.intro (And.intro @wpO_move @wpO_pick) (And.intro @wpO_alloc @wpO_box))) (And.intro (And.intro (And.intro @wpO_build @wpO_lit) (And.intro @wpO_litA @wpO_load)) (And.intro (And.intro @wpO_store @wpO_nilCheck) (And.intro @wpO_iop (And.intro @wpO_sop @wpO_bop)))))) (And.intro (And.intro (And.intro (And.intro (And.intro @wpO_eqs @wpO_eqnil) (And.intro @wpO_not @wpO_neg)) (And.intro (And.intro @wpO_convI @wpO_sliceOp) (And.intro @wpO_substr @wpO_faddr))) (And.intro (And.intro (And.intro @wpO_field @wpO_iaddr) (And.intro @wpO_aaddr @wpO_strIdx)) (And.intro (And.intro @wpO_arrIdx @wpO_lenS) (And.intro @wpO_lenStr @wpO_lenM)))) (And.intro (And.intro (And.intro (And.intro @wpO_lenA @wpO_capS) (And.intro @wpO_minI @wpO_maxI)) (And.intro (And.intro @wpO_append @wpO_appendz) (And.intro @wpO_mkslice @wpO_extract))) (And.intro (And.intro (And.intro @wpO_mkfunc @wpO_mkmap) (And.intro @wpO_lookup @wpO_mapset)) (And.intro (And.intro @wpO_mapdel @wpO_mkiface) (And.intro @wpO_callS (And.intro @wpO_callI @wpO_callv))))))) := (And.intro (And.intro (And.intro (And.intro (And.intro (And.intro @wpC_skip @wpC_region) (And.intro @wpC_drawn @wpC_seq)) (And.intro (And.intro @wpC_loop @wpC_exit) (And.intro @wpC_ret @wpOs_nil))) (And.intro (And.intro (And.intro @wpOs_guard @seqQ_normal) (And.intro @seqQ_exit @seqQ_ret)) (And.intro (And.intro @blockQ_normal @blockQ_hit) (And.intro @blockQ_miss @blockQ_ret)))) (And.intro (And.intro (And.intro (And.intro @endQ_normal @endQ_ret) (And.intro @loopQ_exit @loopQ_ret)) (And.intro (And.intro @wpO_move @wpO_pick) (And.intro @wpO_alloc @wpO_box))) (And.intro (And.intro (And.intro @wpO_build @wpO_lit) (And.intro @wpO_litA @wpO_load)) (And.intro (And.intro @wpO_store @wpO_nilCheck) (And.intro @wpO_iop (And.intro @wpO_sop @wpO_bop)))))) (And.intro (And.intro (And.intro (And.intro (And.intro @wpO_eqs @wpO_eqnil) (And.intro @wpO_not @wpO_neg)) (And.intro (And.intro @wpO_convI @wpO_sliceOp) (And.intro @wpO_substr @wpO_faddr))) (And.intro (And.intro (And.intro @wpO_field @wpO_iaddr) (And.intro @wpO_aaddr @wpO_strIdx)) (And.intro (And.intro @wpO_arrIdx @wpO_lenS) (And.intro @wpO_lenStr @wpO_lenM)))) (And.intro (And.intro (And.intro (And.intro @wpO_lenA @wpO_capS) (And.intro @wpO_minI @wpO_maxI)) (And.intro (And.intro @wpO_append @wpO_appendz) (And.intro @wpO_mkslice @wpO_extract))) (And.intro (And.intro (And.intro @wpO_mkfunc @wpO_mkmap) (And.intro @wpO_lookup @wpO_mapset)) (And.intro (And.intro @wpO_mapdel @wpO_mkiface) (And.intro @wpO_callS (And.intro @wpO_callI @wpO_callv)))))))
/-- the others -/
theorem WPu : type_of% (And.intro (And.intro (And.intro (And.intro (And.intro @wantedA_eq (And.intro @wantV_bool @wantV_hole)) (And.intro @bq_tt (And.intro @bq_ff @bq_tf))) (And.intro (And.intro @bq_ft (And.intro @loopQ_normal @res_one)) (And.intro @res2_tmp (And.intro @res3_tmp @res4_tmp)))) (And.intro (And.intro (And.intro @res_tmp (And.intro @res_cell @pickV_bool)) (And.intro @ncV_ptr (And.intro @ncV_eptr @ncV_fptr))) (And.intro (And.intro @ncV_func (And.intro @bopV_bool @notV_bool)) (And.intro (And.intro @negV_int @fieldV_agg) (And.intro @lenStrV_str @extrV_tuple))))) (And.intro (And.intro (And.intro (And.intro @callvP_func (And.intro @iop_add @iop_sub)) (And.intro @iop_eql (And.intro @iop_neq @iop_lss))) (And.intro (And.intro @iop_leq (And.intro @iop_gtr @iop_geq)) (And.intro (And.intro @Fr_ev @Fr_get) (And.intro @Fr_put @Fr_len)))) (And.intro (And.intro (And.intro @put_none (And.intro @ev_const @upd_apply)) (And.intro @argE_zero (And.intro @argE_succ @argE_nil))) (And.intro (And.intro @liveE_cons (And.intro @stepP_some @optP_some)) (And.intro (And.intro @guardP_true @guardP_false) (And.intro @condP_true @condP_false)))))) := (And.intro (And.intro (And.intro (And.intro (And.intro @wantedA_eq (And.intro @wantV_bool @wantV_hole)) (And.intro @bq_tt (And.intro @bq_ff @bq_tf))) (And.intro (And.intro @bq_ft (And.intro @loopQ_normal @res_one)) (And.intro @res2_tmp (And.intro @res3_tmp @res4_tmp)))) (And.intro (And.intro (And.intro @res_tmp (And.intro @res_cell @pickV_bool)) (And.intro @ncV_ptr (And.intro @ncV_eptr @ncV_fptr))) (And.intro (And.intro @ncV_func (And.intro @bopV_bool @notV_bool)) (And.intro (And.intro @negV_int @fieldV_agg) (And.intro @lenStrV_str @extrV_tuple))))) (And.intro (And.intro (And.intro (And.intro @callvP_func (And.intro @iop_add @iop_sub)) (And.intro @iop_eql (And.intro @iop_neq @iop_lss))) (And.intro (And.intro @iop_leq (And.intro @iop_gtr @iop_geq)) (And.intro (And.intro @Fr_ev @Fr_get) (And.intro @Fr_put @Fr_len)))) (And.intro (And.intro (And.intro @put_none (And.intro @ev_const @upd_apply)) (And.intro @argE_zero (And.intro @argE_succ @argE_nil))) (And.intro (And.intro @liveE_cons (And.intro @stepP_some @optP_some)) (And.intro (And.intro @guardP_true @guardP_false) (And.intro @condP_true @condP_false))))))
/-- for regions in any order -/
theorem WPed : type_of% (And.intro @wpE_cons (And.intro @wpE_nil @sameAll_cons)) := (And.intro @wpE_cons (And.intro @wpE_nil @sameAll_cons))
theorem WPeu : type_of% (And.intro (And.intro (And.intro @addP_nil (And.intro @addP_cons @dueP_nil)) (And.intro @dueP_cons (And.intro @heldP_true @sameAll_nil))) (And.intro (And.intro @sameP_load (And.intro @wantedA_none @guardS_true)) (And.intro (And.intro @guardS_false @ksOf_nil) (And.intro @ksOf_cons @hupd_apply)))) := (And.intro (And.intro (And.intro @addP_nil (And.intro @addP_cons @dueP_nil)) (And.intro @dueP_cons (And.intro @heldP_true @sameAll_nil))) (And.intro (And.intro @sameP_load (And.intro @wantedA_none @guardS_true)) (And.intro (And.intro @guardS_false @ksOf_nil) (And.intro @ksOf_cons @hupd_apply))))
end Go.Proofs.Ytmocplkpnickgaa.Am

/-
  THE ABSTRACT MACHINE, part 41: two rows, alike place by place.
-/
namespace Go.Proofs.Ytmocplkpnickgaa.Am
open Go
set_option linter.unusedVariables false
set_option linter.unusedSimpArgs false

/-- the same once more -/
theorem cp {p : Prop} (h : p) : p := h
inductive Two {α β : Type} (R : α → β → Prop) : List α → List β → Prop
  | nil : Two R [] []
  | cons {a : α} {b : β} {us : List α} {ws : List β} (h : R a b) (t : Two R us ws) : Two R (a :: us) (b :: ws)

section
variable {α β : Type} {R R' : α → β → Prop} {us vs : List α} {ws ys : List β}
theorem Two.len (h : Two R us ws) : us.length = ws.length := by
  induction h with
  | nil => rfl
  | cons _ _ ih => simp [ih]
theorem Two.get (h : Two R us ws) : ∀ {i : Nat} (hi : i < ws.length), ∃ a, us[i]? = some a ∧ R a ws[i] := by
  induction h with
  | nil => intro i hi; simp at hi
  | cons h t ih =>
    intro i hi
    cases i with
    | zero => exact ⟨_, rfl, h⟩
    | succ i => obtain ⟨a, h1, h2⟩ := ih (i := i) (by simpa using hi); exact ⟨a, by simpa using h1, by simpa using h2⟩
theorem Two.at (h : Two R us ws) {i : Nat} {a : α} {b : β} (ha : us[i]? = some a) (hb : ws[i]? = some b) : R a b := by
  obtain ⟨hi, rfl⟩ := List.getElem?_eq_some_iff.1 hb
  obtain ⟨a', h1, h2⟩ := h.get hi
  rw [ha] at h1; injection h1 with h1; subst h1; exact h2
theorem Two.mono (h : Two R us ws) (hm : ∀ a b, R a b → R' a b) : Two R' us ws := by
  induction h with
  | nil => exact .nil
  | cons h _ ih => exact .cons (hm _ _ h) ih
theorem Two.mono_mem (h : Two R us ws) (hm : ∀ a b, a ∈ us → b ∈ ws → R a b → R' a b) : Two R' us ws := by
  induction h with
  | nil => exact .nil
  | cons h _ ih => exact .cons (hm _ _ List.mem_cons_self List.mem_cons_self h) (ih fun a b ha hb => hm a b (List.mem_cons_of_mem _ ha) (List.mem_cons_of_mem _ hb))
theorem Two.append (h : Two R us ws) (h' : Two R vs ys) : Two R (us ++ vs) (ws ++ ys) := by
  induction h with
  | nil => exact h'
  | cons h _ ih => exact .cons h ih
theorem Two.one {a : α} {b : β} (h : R a b) : Two R [a] [b] := .cons h .nil
theorem Two.push (h : Two R us ws) {a : α} {b : β} (h' : R a b) : Two R (us ++ [a]) (ws ++ [b]) := h.append (.one h')
theorem Two.take (h : Two R us ws) : ∀ (n : Nat), Two R (us.take n) (ws.take n) := by
  induction h with
  | nil => intro n; simp; exact .nil
  | cons h _ ih =>
    intro n
    cases n with
    | zero => exact .nil
    | succ n => exact .cons h (ih n)
theorem Two.drop (h : Two R us ws) : ∀ (n : Nat), Two R (us.drop n) (ws.drop n) := by
  induction h with
  | nil => intro n; simp; exact .nil
  | cons h t ih =>
    intro n
    cases n with
    | zero => exact .cons h t
    | succ n => exact ih n
theorem Two.of_get (hl : us.length = ws.length) (h : ∀ (i : Nat) (a : α) (b : β), us[i]? = some a → ws[i]? = some b → R a b) : Two R us ws := by
  induction us generalizing ws with
  | nil => cases ws with
    | nil => exact .nil
    | cons b ws => simp at hl
  | cons a us ih => cases ws with
    | nil => simp at hl
    | cons b ws => exact .cons (h 0 a b rfl rfl) (ih (by simpa using hl) fun i x y hx hy => h (i + 1) x y (by simpa using hx) (by simpa using hy))
theorem Two.mem_left (h : Two R us ws) {a : α} (ha : a ∈ us) : ∃ b, b ∈ ws ∧ R a b := by
  induction h with
  | nil => cases ha
  | cons h _ ih =>
    rcases List.mem_cons.1 ha with rfl | ha
    · exact ⟨_, List.mem_cons_self, h⟩
    · obtain ⟨b, h1, h2⟩ := ih ha; exact ⟨b, List.mem_cons_of_mem _ h1, h2⟩
end

/-- a literal that nobody writes -/
theorem elems_fs (sz t : Nat) (b : Bool) (σ : Store) (es : List AVal) : elems sz σ (.fslice t b sz es) = some es := by simp
end Go.Proofs.Ytmocplkpnickgaa.Am

/-
  THE ABSTRACT MACHINE, part 42: what texts of whatever code need.
-/
namespace Go.Proofs.Ytmocplkpnickgaa.Am
open Go
set_option linter.unusedVariables false
set_option linter.unusedSimpArgs false

theorem load_cells {σ : Store} {id : Nat} {cs : List AVal} (h : σ[id]? = some (.cells cs)) (off : Nat) : loadV σ 1 false (.ptr id off) = cs[off]? := by
  simp [loadV, behind, h]
theorem store_cells {σ : Store} {id : Nat} {cs : List AVal} (h : σ[id]? = some (.cells cs)) {off : Nat} (ho : off < cs.length) {v : AVal} (hv : v.one = true) : storeV σ 1 (.ptr id off) v = some (σ.set id (.cells (cs.set off v))) := by
  have hc : v.cells = [v] := by cases v <;> simp_all [AVal.one]
  have e : splice cs off [v] = cs.set off v := by
    rw [List.set_eq_take_append_cons_drop, if_pos ho]; simp [splice]
  simp only [storeV, hc, h, e, List.length_singleton, List.all_cons, List.all_nil, hv, Bool.and_true, and_self, if_true]
  rw [if_pos (by omega)]
theorem faddr_ptr (o id off : Nat) : faddrV o (.ptr id off) = some (.ptr id (off + o)) := rfl
theorem isnil_ptr (id off : Nat) : isNil .p (.ptr id off) = some false := rfl
theorem set_same {σ : Store} {id : Nat} {o : AObj} (h : σ[id]? = some o) : σ.set id o = σ := by
  refine List.ext_getElem? fun i => ?_
  rw [List.getElem?_set]
  split
  · rename_i hi; subst hi
    have := (List.getElem?_eq_some_iff.1 h).1
    rw [if_pos this, h]
  · rfl
theorem get_set {σ : Store} {id : Nat} {o o' : AObj} (h : σ[id]? = some o) : (σ.set id o')[id]? = some o' := List.getElem?_set_self (List.getElem?_eq_some_iff.1 h).1
theorem cells_agg (cs : List AVal) : (AVal.agg cs).cells = cs := rfl
theorem Own.one {σ : Store} {sz : Nat} {v : AVal} {es : List AVal} (h : Own σ sz v es) : v.one = true := h.sl.one
theorem grows_nil (σ : Store) : Grows [] σ := ⟨Nat.zero_le _, fun i hi => absurd hi (Nat.not_lt_zero _)⟩
theorem SlOf.isnil {σ : Store} {sz : Nat} {v : AVal} {es : List AVal} (h : SlOf σ sz v es) : ∃ b, isNil .s v = some b ∧ (b = true → v = .nilslice ∧ es = []) := by
  rcases h.cases with ⟨rfl, rfl⟩ | ⟨t, full, rfl⟩ | ⟨id, ep, off, cap, sz', xs, epo, fl, rfl, _⟩
  · exact ⟨true, rfl, fun _ => ⟨rfl, rfl⟩⟩
  · exact ⟨false, rfl, fun h => by cases h⟩
  · exact ⟨false, rfl, fun h => by cases h⟩
theorem byte_neq (a b : UInt8) : ((a.toNat : Int) != (b.toNat : Int)) = decide (a ≠ b) := by
  by_cases h : a = b
  · subst h; simp
  · have : (a.toNat : Int) ≠ (b.toNat : Int) := fun e => h (UInt8.toNat_inj.1 (by omega))
    simp [h, this]
theorem take_succ_eq {α : Type} {x y : List α} {k : Nat} (hx : k < x.length) (hy : k < y.length) (h : x.take k = y.take k) (e : x[k] = y[k]) : x.take (k + 1) = y.take (k + 1) := by
  rw [List.take_add_one, List.take_add_one, h, List.getElem?_eq_getElem hx, List.getElem?_eq_getElem hy, e]
theorem lit_addr {l : AVal} {es cs : List AVal} {sz i : Nat} (hl : SlOf [] sz l es) (hi : i < es.length) (he : es[i] = .agg cs) (k : IntKind) : ∃ t, iaddrV sz l (.int k i) = some (.fptr t cs 0) := by
  rcases hl.cases with ⟨rfl, rfl⟩ | ⟨t, full, rfl⟩ | ⟨id, ep, off, cap, sz', xs, epo, fl, rfl, ho, _⟩
  · simp at hi
  · exact ⟨t, by simp [iaddrV, List.getElem?_eq_getElem hi, he, AVal.cells]⟩
  · cases ho
theorem faddr_f (o t off : Nat) (cs : List AVal) : faddrV o (.fptr t cs off) = some (.fptr t cs (off + o)) := rfl
theorem load_f {σ : Store} (t off : Nat) (cs : List AVal) : loadV σ 1 false (.fptr t cs off) = cs[off]? := by simp [loadV, behind]
theorem store2_cells {σ : Store} {ic : Nat} {a b x y : AVal} (h : σ[ic]? = some (.cells [a, b])) (hx : x.one = true) (hy : y.one = true) : storeV σ 2 (.ptr ic 0) (.agg [x, y]) = some (σ.set ic (.cells [x, y])) := by
  have ha : [x, y].all AVal.one = true := by rw [List.all_cons, hx, List.all_cons, hy]; rfl
  simp only [storeV, AVal.cells, List.length_cons, List.length_nil, ha, h]
  simp [splice]
theorem load2_cells {σ : Store} {ic : Nat} {a b : AVal} (h : σ[ic]? = some (.cells [a, b])) : loadV σ 2 true (.ptr ic 0) = some (.agg [a, b]) := by
  simp [loadV, behind, h]
theorem arr_iaddr {sz id ep off len : Nat} {cap : Option Nat} {i : Nat} (hi : i < len) (k : IntKind) : iaddrV sz (.slice sz id ep off len cap) (.int k i) = some (.eptr id ep (off + i) 0) := by
  have e : (0 : Int) ≤ (i : Int) ∧ (i : Int) < (len : Int) := by omega
  simp [iaddrV, e]
theorem arr_store1 {σ : Store} {id ep fl i : Nat} {es : List AVal} (h : σ[id]? = some (.arr 1 es ep fl)) (hi : i < es.length) {x : AVal} (hx : x.one = true) (he : (es[i]).one = true) :
    storeV σ 1 (.eptr id ep i 0) x = some (σ.set id (.arr 1 (es.set i x) ep ep)) := by
  have hc : x.cells = [x] := by cases x <;> simp_all [AVal.one]
  have hc2 : (es[i]).cells = [es[i]] := by generalize es[i] = y at he; cases y <;> simp_all [AVal.one]
  have hr : (es[i]).reform [x] = x := by generalize es[i] = y at he; cases y <;> simp_all [AVal.one, AVal.reform]
  simp only [storeV, hc, List.length_singleton, List.all_cons, List.all_nil, hx, Bool.and_true, and_self, if_true, h, List.getElem?_eq_getElem hi, hc2, splice, List.take_zero, List.nil_append, Nat.zero_add, List.drop_one, List.tail_cons, List.append_nil, hr]
  rw [if_pos ⟨trivial, Nat.le_refl _⟩]
theorem arr_load1 {σ : Store} {id ep epo fl i : Nat} {es : List AVal} (h : σ[id]? = some (.arr 1 es epo fl)) (hf : fl ≤ ep) (hi : i < es.length) (he : (es[i]).one = true) : loadV σ 1 false (.eptr id ep i 0) = some es[i] := by
  have hc2 : (es[i]).cells = [es[i]] := by generalize es[i] = y at he; cases y <;> simp_all [AVal.one]
  simp only [loadV, behind, h, hf, if_true, List.getElem?_eq_getElem hi, Option.map_some, hc2, ld]; rfl
theorem take_set_succ {α : Type} {l y : List α} {k : Nat} (hk : k < l.length) (hy : k < y.length) (h : l.take k = y.take k) : (l.set k y[k]).take (k + 1) = y.take (k + 1) := by
  refine List.ext_getElem? fun i => ?_
  rw [List.getElem?_take, List.getElem?_take, List.getElem?_set]
  split
  · rename_i hi
    by_cases e : k = i
    · subst e; simp [hk, List.getElem?_eq_getElem hy]
    · rw [if_neg e]
      have := congrArg (fun z => z[i]?) h
      simp only [List.getElem?_take] at this
      rwa [if_pos (by omega), if_pos (by omega)] at this
  · rfl
theorem Own.noCell {σ : Store} {sz : Nat} {v : AVal} {es cs : List AVal} {id : Nat} (h : Own σ sz v es) (ho : σ[id]? = some (.cells cs)) : v.sid ≠ some id := by
  intro hs
  rcases h.own with ⟨rfl, _⟩ | ⟨t, rfl⟩ | ⟨id', ep, off, cap, xs, epo, fl, rfl, h1, _⟩
  · cases hs
  · cases hs
  · injection hs with hs; subst hs; rw [ho] at h1; cases h1
theorem SlOf.noCell {σ : Store} {sz : Nat} {v : AVal} {es cs : List AVal} {id : Nat} (h : SlOf σ sz v es) (ho : σ[id]? = some (.cells cs)) : v.sid ≠ some id := by
  intro hs
  rcases h.cases with ⟨rfl, _⟩ | ⟨t, f, rfl⟩ | ⟨id', ep, off, cap, sz', xs, epo, fl, rfl, h1, _⟩
  · cases hs
  · cases hs
  · injection hs with hs; subst hs; rw [ho] at h1; cases h1
/-- slices of elements of two sizes lie apart -/
theorem Own.sizes {σ : Store} {sz sz' : Nat} {u v : AVal} {a b : List AVal} (h : Own σ sz u a) (h' : Own σ sz' v b) (hn : sz ≠ sz') {i : Nat} (hu : u.sid = some i) : v.sid ≠ some i := by
  intro hv
  rcases h.own with ⟨rfl, _⟩ | ⟨t, rfl⟩ | ⟨id, ep, off, cap, xs, epo, fl, rfl, h1, _⟩
  · cases hu
  · cases hu
  · rcases h'.own with ⟨rfl, _⟩ | ⟨t, rfl⟩ | ⟨id', ep', off', cap', xs', epo', fl', rfl, h2, _⟩
    · cases hv
    · cases hv
    · injection hu with hu; injection hv with hv
      subst hu; subst hv
      rw [h1] at h2; injection h2 with h2; injection h2 with h2; exact hn h2
theorem loadN_cells {σ : Store} {id : Nat} {cs : List AVal} (h : σ[id]? = some (.cells cs)) {n : Nat} (hn : cs.length = n) : loadV σ n true (.ptr id 0) = some (.agg cs) := by
  subst hn; simp [loadV, behind, h]
theorem storeN_cells {σ : Store} {id : Nat} {cs cs' : List AVal} (h : σ[id]? = some (.cells cs)) {n : Nat} (hn : cs.length = n) (hn' : cs'.length = n) (h1 : cs'.all AVal.one = true) : storeV σ n (.ptr id 0) (.agg cs') = some (σ.set id (.cells cs')) := by
  have e : splice cs 0 cs' = cs' := by
    simp only [splice, List.take_zero, List.nil_append, Nat.zero_add]
    rw [List.drop_eq_nil_of_le (by omega), List.append_nil]
  simp only [storeV, AVal.cells, hn', h1, h, e, Nat.zero_add, hn, Nat.le_refl, and_self, if_true]
theorem set_last (σ : Store) (o o' : AObj) : (σ ++ [o]).set σ.length o' = σ ++ [o'] := by simp
/-- a cell of what a pointer leads to -/
theorem faddr_load {σ : Store} {p : AVal} {cs : List AVal} {off : Nat} (h : behind σ p = some (cs, off)) (o : Nat) : ∃ q, faddrV o p = some q ∧ loadV σ 1 false q = cs[off + o]? := by
  cases p with
  | ptr i k =>
    simp only [behind] at h
    split at h
    · rename_i cs' ho
      injection h with h; injection h with h1 h2; subst h1; subst h2
      exact ⟨.ptr i (k + o), rfl, load_cells ho _⟩
    · cases h
  | eptr i ep j k =>
    simp only [behind] at h
    split at h
    · rename_i sz es epo fl ho
      split at h
      · rename_i hf
        rw [Option.map_eq_some_iff] at h
        obtain ⟨e, he, h⟩ := h
        injection h with h1 h2; subst h1; subst h2
        exact ⟨.eptr i ep j (k + o), rfl, by simp only [loadV, behind, ho, if_pos hf, he, Option.map_some]; rfl⟩
      · cases h
    · cases h
  | fptr t cs' k =>
    simp only [behind, Option.some.injEq, Prod.mk.injEq] at h
    obtain ⟨rfl, rfl⟩ := h
    exact ⟨.fptr t cs' (k + o), rfl, by simp [loadV, behind]⟩
  | _ => simp [behind] at h
/-- int(uint(k) % uint(n)) -/
theorem umod (k : Int) (n : Nat) (h0 : 0 < n) (hn : n < 2 ^ 62) : ∃ u r : Nat, r < n ∧ convV .u64 (.int .i64 k) = some (.int .u64 (u : Int)) ∧ convV .u64 (.int .i64 (n : Int)) = some (.int .u64 (n : Int)) ∧
    iopV .rem (.int .u64 (u : Int)) (.int .u64 (n : Int)) = some (.int .u64 (r : Int)) ∧ convV .i64 (.int .u64 (r : Int)) = some (.int .i64 (r : Int)) := by
  refine ⟨(k % 18446744073709551616).toNat, (k % 18446744073709551616).toNat % n, Nat.mod_lt _ h0, ?_, ?_, ?_, ?_⟩
  · rw [convV_int]
    have : IntKind.u64.wrap k = k % 18446744073709551616 := by simp [IntKind.wrap, IntKind.signed, IntKind.bits]
    rw [this, Int.toNat_of_nonneg (by omega)]
  · rw [convV_int, wrap_u64 (by omega) (by omega)]
  · rw [iop_rem, if_neg (by omega), Int.tmod_eq_emod_of_nonneg (by omega)]; rfl
  · have := Nat.mod_lt (k % 18446744073709551616).toNat h0
    rw [convV_int, wrap_i64 (by omega) (by omega)]
end Go.Proofs.Ytmocplkpnickgaa.Am

