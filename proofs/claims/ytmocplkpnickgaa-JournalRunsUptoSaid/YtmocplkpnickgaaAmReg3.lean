/-
  THE ABSTRACT MACHINE, part 24: a region's operations in any order that its edges let through.
-/
import Derived.Test.YtmocplkpnickgaaAmReg2
namespace Go.Proofs.Ytmocplkpnickgaa.Am
open Go
set_option linter.unusedVariables false
set_option linter.unusedSimpArgs false

/-! ### which operation comes ahead of which: a row of bits for each -/
def dirs (o : Oper) : List Nat := (o.after.toList.filter (Region.binds .any)).map (·.on)
def orAll (tab : List Nat) : List Nat → Nat
  | [] => 0
  | e :: es => ((1 <<< e) ||| tab.getD e 0) ||| orAll tab es
def mkTab : List Nat → List Oper → List Nat
  | acc, [] => acc
  | acc, o :: os => mkTab (acc ++ [orAll acc (dirs o)]) os
def tabOk (tab : List Nat) : Nat → List Oper → Bool
  | _, [] => true
  | i, o :: os => (tab.getD i 0 == orAll tab (dirs o)) && (dirs o).all (· < i) && tabOk tab (i + 1) os

theorem orAll_bit {tab : List Nat} {j : Nat} : ∀ {es : List Nat}, (orAll tab es).testBit j = true → ∃ e ∈ es, e = j ∨ (tab.getD e 0).testBit j = true
  | [], h => by simp [orAll] at h
  | e :: es, h => by
    simp only [orAll, Nat.testBit_or, Bool.or_eq_true] at h
    rcases h with (h | h) | h
    · rw [Nat.one_shiftLeft, Nat.testBit_two_pow] at h
      exact ⟨e, List.mem_cons_self, .inl (by simpa using h)⟩
    · exact ⟨e, List.mem_cons_self, .inr h⟩
    · obtain ⟨e', he, hh⟩ := orAll_bit h
      exact ⟨e', List.mem_cons_of_mem _ he, hh⟩

theorem tabOk_get {tab : List Nat} : ∀ {os : List Oper} {i : Nat}, tabOk tab i os = true → ∀ (k : Nat) (o : Oper), os[k]? = some o → tab.getD (i + k) 0 = orAll tab (dirs o) ∧ ∀ e ∈ dirs o, e < i + k
  | [], i, _, k, o, hk => by simp at hk
  | x :: xs, i, h, k, o, hk => by
    simp only [tabOk, Bool.and_eq_true, beq_iff_eq, List.all_eq_true, decide_eq_true_eq] at h
    cases k with
    | zero => simp at hk; subst hk; exact ⟨h.1.1, h.1.2⟩
    | succ k =>
      have := tabOk_get h.2 k o (by simpa using hk)
      rw [show i + (k + 1) = i + 1 + k by omega]
      exact this

def apartO (x y : AOper) : Bool := match x.dst with
  | some d => !(y.looks.contains d) && y.dst != some d
  | none => true
def okPair (pairs : List (Nat × Nat)) (j i : Nat) (x y : AOper) : Bool :=
  apartO x y && apartO y x && !(x.op.cls == 2 && y.op.cls == 2) && (!(x.op.cls == 2 && y.op.cls == 1) || pairs.contains (i, j)) && (!(x.op.cls == 1 && y.op.cls == 2) || pairs.contains (j, i))
def pairsOk (tab : List Nat) (pairs : List (Nat × Nat)) (l : List AOper) : Bool :=
  (List.range l.length).all fun i => match l[i]? with
    | some y => (List.range i).all fun j => match l[j]? with
      | some x => (tab.getD i 0).testBit j || okPair pairs j i x y
      | none => true
    | none => true

def drawOk (pairs : List (Nat × Nat)) (l : List AOper) (ops : List Oper) : Bool :=
  tabOk (mkTab [] ops) 0 ops && pairsOk (mkTab [] ops) pairs l

theorem apartO_eq {x y : AOper} (h : apartO x y = true) {d : Nat} (hd : x.dst = some d) : d ∉ y.looks ∧ y.dst ≠ some d := by
  simp only [apartO, hd, Bool.and_eq_true, Bool.not_eq_true', bne_iff_ne] at h
  exact ⟨fun hm => by simp [hm] at h, h.2⟩

section
variable {P : Program} {cfg : Cfg} {callF : CallF} {E : Env}

/-! ### what a run went through -/
def Went (cfg : Cfg) (callF : CallF) (d : Nat) (l : List AOper) (st : Nat → FS) (vs : Nat → AVal) : Prop :=
  ∀ (i : Nat) (o : AOper), l[i]? = some o → ∃ b, wantedA (st i).1 o.guard = some b ∧ (st (i + 1)).1 = put (st i).1 o.dst (vs i) ∧
    (b = true → opStep cfg callF d (st i).1 (st i).2 o.op = some (vs i, (st (i + 1)).2)) ∧ (b = false → vs i = .tuple [] ∧ (st (i + 1)).2 = (st i).2)

theorem went_of {d : Nat} : ∀ {l : List AOper} {s s' : FS}, stepOs cfg callF d l s = some s' →
    ∃ st vs, st 0 = s ∧ st l.length = s' ∧ Went cfg callF d l st vs ∧ ∀ i, i ≤ l.length → (traceOs cfg callF d l s)[i]? = some (st i)
  | [], s, s', h => by
    simp only [stepOs] at h
    injection h with h; subst h
    exact ⟨fun _ => s, fun _ => .undef, rfl, rfl, fun i o hi => by simp at hi, fun i hi => by simp at hi; subst hi; simp⟩
  | o :: os, s, s', h => by
    simp only [stepOs] at h
    split at h
    · rename_i s1 hs1
      obtain ⟨st, vs, h0, hn, hw, ht⟩ := went_of h
      obtain ⟨b, v, hwt, e1, g1, g2⟩ := stepO_inv hs1
      refine ⟨fun i => match i with | 0 => s | i + 1 => st i, fun i => match i with | 0 => v | i + 1 => vs i, rfl, by simpa using hn, fun i o' hi => ?_, fun i hi => ?_⟩
      · cases i with
        | zero =>
          simp at hi; subst hi
          refine ⟨b, hwt, ?_, fun hb => ?_, fun hb => ?_⟩
          · dsimp only; rw [h0]; exact e1
          · dsimp only; rw [h0]; exact g1 hb
          · dsimp only; rw [h0]; exact g2 hb
        | succ i => exact hw i o' (by simpa using hi)
      · simp only [traceOs, hs1]
        cases i with
        | zero => rfl
        | succ i => simpa using ht i (by simpa using hi)
    · simp at h

section went
variable {d : Nat} (l : List AOper) (st : Nat → FS) (vs : Nat → AVal) (b : Nat → Bool)

def dstOf (k : Nat) : Option Nat := (l[k]?).bind (·.dst)
def isE (k : Nat) : Bool := match l[k]? with
  | some o => o.op.cls == 2
  | none => false
/-- the frame, and the store, once those have run that b names -/
def frB : Nat → List AVal
  | 0 => (st 0).1
  | m + 1 => if b m then put (frB m) (dstOf l m) (vs m) else frB m
def sgB : Nat → Store
  | 0 => (st 0).2
  | m + 1 => if b m && isE l m then (st (m + 1)).2 else sgB m

variable {l st vs b} (hw : Went cfg callF d l st vs)
include hw

theorem went_keep {k : Nat} (hk : k < l.length) (he : isE l k = false) : (st (k + 1)).2 = (st k).2 := by
  obtain ⟨c, h1, h2, h3, h4⟩ := hw k l[k] (List.getElem?_eq_getElem hk)
  cases c with
  | false => exact (h4 rfl).2
  | true =>
    refine cls_keep ?_ (h3 rfl)
    simp only [isE, List.getElem?_eq_getElem hk, beq_eq_false_iff_ne] at he
    have : l[k].op.cls ≤ 2 := by
      generalize l[k].op = op
      cases op <;> simp [AOp.cls] <;> (rename_i m _ _; cases m <;> simp)
    omega

theorem frB_all : ∀ {m : Nat}, m ≤ l.length → frB l st vs (fun _ => true) m = (st m).1
  | 0, _ => rfl
  | m + 1, hm => by
    obtain ⟨c, h1, h2, h3, h4⟩ := hw m l[m] (List.getElem?_eq_getElem (by omega))
    simp only [frB, if_true]
    rw [frB_all (by omega), h2]
    simp [dstOf, List.getElem?_eq_getElem (show m < l.length by omega)]

theorem sgB_full : ∀ {m : Nat}, m ≤ l.length → (∀ k, k < m → isE l k = true → b k = true) → sgB l st b m = (st m).2
  | 0, _, _ => rfl
  | m + 1, hm, hb => by
    simp only [sgB]
    cases he : isE l m with
    | true => simp [hb m (by omega) he]
    | false =>
      simp only [Bool.and_false, Bool.false_eq_true, if_false]
      rw [sgB_full (by omega) (fun k hk => hb k (by omega)), went_keep hw (by omega) he]
omit hw

theorem sgB_top (m : Nat) : ∀ {m' : Nat}, m ≤ m' → sgB l st b m' = sgB l st b m ∨ ∃ k, m ≤ k ∧ k < m' ∧ b k = true ∧ isE l k = true ∧ sgB l st b m' = (st (k + 1)).2
  | 0, h => by have : m = 0 := by omega
               subst this; exact .inl rfl
  | m' + 1, h => by
    rcases Nat.lt_or_ge m' m with hlt | hge
    · have : m = m' + 1 := by omega
      subst this; exact .inl rfl
    · simp only [sgB]
      by_cases hb : (b m' && isE l m') = true
      · simp only [hb, if_true]
        simp only [Bool.and_eq_true] at hb
        exact .inr ⟨m', hge, by omega, hb.1, hb.2, rfl⟩
      · simp only [hb, if_false, Bool.false_eq_true]
        rcases sgB_top m hge with h1 | ⟨k, k1, k2, k3⟩
        · exact .inl h1
        · exact .inr ⟨k, k1, by omega, k3⟩

theorem first_out (l : List AOper) (b : Nat → Bool) : ∀ (m : Nat), (∀ k, k < m → isE l k = true → b k = true) ∨ ∃ k, k < m ∧ isE l k = true ∧ b k = false ∧ ∀ k', k' < k → isE l k' = true → b k' = true
  | 0 => .inl fun k hk => by omega
  | m + 1 => by
    rcases first_out l b m with h | ⟨k, k1, k2, k3, k4⟩
    · by_cases hm : isE l m = true ∧ b m = false
      · exact .inr ⟨m, by omega, hm.1, hm.2, h⟩
      · refine .inl fun k hk he => ?_
        rcases Nat.lt_or_ge k m with h1 | h1
        · exact h k h1 he
        · have : k = m := by omega
          subst this
          cases hb : b k with
          | true => rfl
          | false => exact absurd ⟨he, hb⟩ hm
    · exact .inr ⟨k, by omega, k2, k3, k4⟩

theorem frB_len (m : Nat) : (frB l st vs b m).length = (st 0).1.length := by
  induction m with
  | zero => rfl
  | succ m ih =>
    simp only [frB]
    split
    · cases hd : dstOf l m with
      | none => simpa using ih
      | some t => simpa using ih
    · exact ih

theorem frB_skip {t : Nat} (m : Nat) : ∀ {m' : Nat}, m ≤ m' → (∀ k, m ≤ k → k < m' → b k = true → dstOf l k ≠ some t) → (frB l st vs b m').getD t .undef = (frB l st vs b m).getD t .undef
  | 0, h, _ => by have : m = 0 := by omega
                  subst this; rfl
  | m' + 1, h, hd => by
    rcases Nat.lt_or_ge m' m with hlt | hge
    · have : m = m' + 1 := by omega
      subst this; rfl
    · simp only [frB]
      have ih := frB_skip m hge (fun k h1 h2 => hd k h1 (by omega))
      split
      · rename_i hb
        have := hd m' hge (by omega) hb
        cases hx : dstOf l m' with
        | none => simpa using ih
        | some s =>
          have hne : s ≠ t := fun e => this (by rw [hx, e])
          simp only [put]
          rw [← ih]
          simp [List.getD_eq_getElem?_getD, List.getElem?_set_ne hne]
      · exact ih

theorem frB_same {b' : Nat → Bool} {t : Nat} : ∀ {m : Nat}, (∀ k, k < m → dstOf l k = some t → b k = b' k) → (frB l st vs b m).getD t .undef = (frB l st vs b' m).getD t .undef
  | 0, _ => rfl
  | m + 1, h => by
    have ih := frB_same (m := m) (fun k hk => h k (by omega))
    have hl := frB_len (l := l) (st := st) (vs := vs) (b := b) m
    have hl' := frB_len (l := l) (st := st) (vs := vs) (b := b') m
    simp only [frB]
    by_cases hd : dstOf l m = some t
    · have hb := h m (by omega) hd
      rw [hb]
      split
      · rw [hd]
        simp only [put]
        simp only [List.getD_eq_getElem?_getD, List.getElem?_set_self', hl, hl'] at ih ⊢
        by_cases ht : t < (st 0).1.length
        · rw [List.getElem?_eq_getElem (by omega), List.getElem?_eq_getElem (by omega)]; rfl
        · rw [List.getElem?_eq_none (by omega), List.getElem?_eq_none (by omega)]
      · exact ih
    · have other : ∀ (fr : List AVal), (put fr (dstOf l m) (vs m)).getD t .undef = fr.getD t .undef := by
        intro fr
        cases hx : dstOf l m with
        | none => rfl
        | some s =>
          have hne : s ≠ t := fun e => hd (by rw [hx, e])
          simp [put, List.getD_eq_getElem?_getD, List.getElem?_set_ne hne]
      split <;> split <;> simp only [other, ih]

theorem put_comm {fr : List AVal} {x y : Option Nat} {v u : AVal} (h : ∀ d, x = some d → y ≠ some d) : put (put fr x v) y u = put (put fr y u) x v := by
  cases x with
  | none => rfl
  | some d =>
    cases y with
    | none => rfl
    | some e =>
      have hne : d ≠ e := fun he => h d rfl (by rw [he])
      simp only [put]
      exact List.set_comm _ _ hne

def with_ (b : Nat → Bool) (i : Nat) : Nat → Bool := fun k => k == i || b k

theorem frB_with {i : Nat} (hi : b i = false) (hd : ∀ k, i < k → b k = true → ∀ t, dstOf l i = some t → dstOf l k ≠ some t) : ∀ (m : Nat),
    frB l st vs (with_ b i) m = if i < m then put (frB l st vs b m) (dstOf l i) (vs i) else frB l st vs b m
  | 0 => by simp [frB]
  | m + 1 => by
    have ih := frB_with hi hd m
    simp only [frB]
    rcases Nat.lt_trichotomy i m with h | h | h
    · have e : with_ b i m = b m := by simp [with_, Nat.ne_of_gt h]
      rw [e, ih]
      simp only [h, show i < m + 1 by omega, if_true]
      split
      · rename_i hb
        exact put_comm (hd m h hb)
      · rfl
    · subst h
      have e : with_ b i i = true := by simp [with_]
      rw [e, ih, hi]
      simp
    · have e : with_ b i m = b m := by simp [with_, Nat.ne_of_lt h]
      rw [e, ih]
      simp only [show ¬ i < m by omega, show ¬ i < m + 1 by omega, if_false]

theorem sgB_with {i : Nat} (hi : b i = false) : ∀ (m : Nat), (isE l i = false → sgB l st (with_ b i) m = sgB l st b m) ∧
    (isE l i = true → (∀ k, i < k → b k = true → isE l k = false) → i < m → sgB l st (with_ b i) m = (st (i + 1)).2)
  | 0 => ⟨fun _ => rfl, fun _ _ h => by omega⟩
  | m + 1 => by
    obtain ⟨ih1, ih2⟩ := sgB_with (i := i) hi m
    refine ⟨fun he => ?_, fun he hk hm => ?_⟩
    · simp only [sgB]
      rw [ih1 he]
      by_cases h : m = i
      · subst h; simp [he]
      · have e : with_ b i m = b m := by simp [with_, h]
        rw [e]
    · simp only [sgB]
      by_cases h : m = i
      · subst h
        simp [with_, he]
      · have e : with_ b i m = b m := by simp [with_, h]
        rw [e]
        have : (b m && isE l m) = false := by
          cases hb : b m with
          | false => rfl
          | true => simp [hk m (by omega) hb]
        simp only [this, Bool.false_eq_true, if_false]
        exact ih2 he hk (by omega)

def cnt (b : Nat → Bool) : Nat → Nat
  | 0 => 0
  | m + 1 => cnt b m + if b m then 0 else 1

theorem cnt_with {i : Nat} (hi : b i = false) : ∀ (m : Nat), cnt (with_ b i) m + (if i < m then 1 else 0) = cnt b m
  | 0 => by simp [cnt]
  | m + 1 => by
    have ih := cnt_with (i := i) hi m
    simp only [cnt]
    rcases Nat.lt_trichotomy i m with h | h | h
    · have e : with_ b i m = b m := by simp [with_, Nat.ne_of_gt h]
      rw [e]
      simp only [h, show i < m + 1 by omega, if_true] at ih ⊢
      omega
    · subst h
      have e : with_ b i i = true := by simp [with_]
      rw [e, hi]
      simp only [Nat.lt_irrefl, if_false, Nat.lt_succ_self, if_true] at ih ⊢
      simp at ih ⊢
      omega
    · have e : with_ b i m = b m := by simp [with_, Nat.ne_of_lt h]
      rw [e]
      simp only [show ¬ i < m by omega, show ¬ i < m + 1 by omega, if_false] at ih ⊢
      omega

theorem cnt_zero : ∀ {m : Nat}, cnt b m = 0 → ∀ k, k < m → b k = true
  | 0, _, k, hk => by omega
  | m + 1, h, k, hk => by
    simp only [cnt] at h
    rcases Nat.lt_or_ge k m with h1 | h1
    · exact cnt_zero (by omega) k h1
    · have : k = m := by omega
      subst this
      cases hb : b k with
      | true => rfl
      | false => simp [hb] at h

theorem cnt_pos : ∀ {m : Nat}, cnt b m ≠ 0 → ∃ k, k < m ∧ b k = false ∧ ∀ k', k' < k → b k' = true
  | 0, h => by simp [cnt] at h
  | m + 1, h => by
    by_cases h0 : cnt b m = 0
    · have hall := cnt_zero h0
      refine ⟨m, by omega, ?_, hall⟩
      cases hb : b m with
      | false => rfl
      | true => simp [cnt, hb, h0] at h
    · obtain ⟨k, k1, k2, k3⟩ := cnt_pos h0
      exact ⟨k, by omega, k2, k3⟩

theorem cnt_none (m : Nat) (h : ∀ k, b k = false) : cnt b m = m := by
  induction m with
  | zero => rfl
  | succ m ih => simp [cnt, ih, h m]
end went
end
end Go.Proofs.Ytmocplkpnickgaa.Am
