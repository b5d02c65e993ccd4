/-
  THE ABSTRACT MACHINE, part 26: code, functions, runs.
-/
import Derived.Test.YtmocplkpnickgaaAmReg4
namespace Go.Proofs.Ytmocplkpnickgaa.Am
open Go
set_option linter.unusedVariables false
set_option linter.unusedSimpArgs false

def chkCode (cfg : Cfg) (P : Program) : ACode → Code → Bool
  | .skip, .skip => true
  | .region ops, .region _ xs draw => chkOpers cfg P xs ops xs.toList && (!draw || drawOk [] ops xs.toList)
  | .drawn ops pairs, .region _ xs true => chkOpers cfg P xs ops xs.toList && drawOk pairs ops xs.toList
  | .seq a b, .seq x y => chkCode cfg P a x && chkCode cfg P b y
  | .cond c a b, .cond z x y => chkX cfg c z && chkCode cfg P a x && chkCode cfg P b y
  | .block id c, .block id' x => id == id' && chkCode cfg P c x
  | .loop _ c, .loop x => chkCode cfg P c x
  | .exit id, .exit id' => id == id'
  | .ret, .ret => true
  | .stop, _ => true
  | _, _ => false

def toExit : AExit → Exit
  | .normal => .normal
  | .exit id => .exit id
  | .ret => .ret

theorem exists_least {p : Nat → Prop} : ∀ {n : Nat}, p n → ∃ m, p m ∧ ∀ k, p k → m ≤ k := by
  intro n
  induction n using Nat.strongRecOn with
  | _ n ih =>
    intro h
    by_cases hex : ∃ k, k < n ∧ p k
    · obtain ⟨k, hk, hp⟩ := hex
      exact ih k hk hp
    · exact ⟨n, h, fun k hk => Nat.le_of_not_lt fun hlt => hex ⟨k, hlt, hk⟩⟩

open Classical in
noncomputable def least (p : Nat → Prop) : Nat := if h : ∃ m, p m ∧ ∀ k, p k → m ≤ k then Classical.choose h else 0

theorem least_spec {p : Nat → Prop} {n : Nat} (h : p n) : p (least p) ∧ least p ≤ n := by
  have hex := exists_least h
  unfold least
  rw [dif_pos hex]
  exact ⟨(Classical.choose_spec hex).1, (Classical.choose_spec hex).2 n h⟩

section
variable {P : Program} {cfg : Cfg} {callF : CallF} {E : Env} {d : Nat} {r : Rest}

theorem cleanFrom_get (live : List Nat) : ∀ (fr : List AVal) (j i : Nat), (cleanFrom live j fr).getD i .undef = fr.getD i .undef ∨ (cleanFrom live j fr).getD i .undef = .undef
  | [], j, i => .inl rfl
  | v :: vs, j, i => by
    simp only [cleanFrom]
    cases i with
    | zero =>
      simp only [List.getD_cons_zero]
      split
      · exact .inl rfl
      · exact .inr rfl
    | succ i => simpa only [List.getD_cons_succ] using cleanFrom_get live vs (j + 1) i

theorem cleanFrom_len (live : List Nat) : ∀ (fr : List AVal) (j : Nat), (cleanFrom live j fr).length = fr.length
  | [], j => rfl
  | v :: vs, j => by simp [cleanFrom, cleanFrom_len live vs (j + 1)]

theorem Fr.clean {κ : K} {fr : List AVal} {a : Act} (h : Fr cfg E κ fr a) (live : List Nat) : Fr cfg E κ (cleanFrom live 0 fr) a :=
  ⟨by rw [cleanFrom_len]; exact h.len, fun i => by
    rcases cleanFrom_get live fr 0 i with e | e
    · rw [e]; exact h.fr i
    · rw [e]; exact .undef _ _, h.gl⟩

theorem code_sound (hm : P.follows .mixedOrders = true) (hcall : CallOk P cfg callF) (hd : E.d = d) (n : Nat) : ∀ (c : ACode) (x : Code), chkCode cfg P c x = true →
    ∀ (fr : List AVal) (a : Act) (κ : K) (w : World) (e : AExit) (s' : FS), evC cfg callF d n c (fr, κ.σ) = some (e, s') → Fr cfg E κ fr a → κ.R E cfg.conc → Wh r w κ.h →
      ∀ Q : Exit → Act → World → Prop, (∀ a' w' (κ' : K), Wh r w' κ'.h → κ'.σ = s'.2 → κ.Le κ' → κ'.R E cfg.conc → Fr cfg E κ' s'.1 a' → a'.defers = a.defers → Q (toExit e) a' w') → x.wp P Q a w
  | .skip, x, hc, fr, a, κ, w, e, s', h, hf, hR, hh, Q, hQ => by
    cases x <;> simp [chkCode] at hc
    simp only [evC] at h
    injection h with h; injection h with h1 h2; subst h1; subst h2
    exact wp_skip (hQ a w κ hh rfl (K.Le.refl _) hR hf rfl)
  | .region ops, x, hc, fr, a, κ, w, e, s', h, hf, hR, hh, Q, hQ => by
    cases x with
    | region id xs draw =>
      simp only [chkCode, Bool.and_eq_true] at hc
      simp only [evC] at h
      split at h
      · rename_i s1 hs
        injection h with h; injection h with h1 h2; subst h1; subst h2
        cases draw with
        | false => exact region_seq hcall hd hc.1 hs hf hR hh hQ
        | true => exact region_any hm hcall hd hc.1 (by simpa using hc.2) hs (fun p hp => by simp at hp) hf hR hh hQ
      · simp at h
    | _ => simp [chkCode] at hc
  | .drawn ops pairs, x, hc, fr, a, κ, w, e, s', h, hf, hR, hh, Q, hQ => by
    cases x with
    | region id xs draw =>
      cases draw with
      | false => simp [chkCode] at hc
      | true =>
        simp only [chkCode, Bool.and_eq_true] at hc
        simp only [evC] at h
        split at h
        · rename_i s1 hs
          split at h
          · rename_i hst
            injection h with h; injection h with h1 h2; subst h1; subst h2
            exact region_any hm hcall hd hc.1 hc.2 hs (fun p hp => List.all_eq_true.1 hst p hp) hf hR hh hQ
          · simp at h
        · simp at h
    | _ => simp [chkCode] at hc
  | .seq b c, x, hc, fr, a, κ, w, e, s', h, hf, hR, hh, Q, hQ => by
    cases x with
    | seq y z =>
      simp only [chkCode, Bool.and_eq_true] at hc
      simp only [evC] at h
      refine wp_seq ?_
      split at h
      · rename_i s1 hs
        refine code_sound hm hcall hd n b y hc.1 fr a κ w _ _ hs hf hR hh _ fun a' w' κ' k1 k2 k3 k4 k5 k6 => ?_
        simp only [toExit, Exit.then]
        refine code_sound hm hcall hd n c z hc.2 s1.1 a' κ' w' e s' (by rw [k2]; exact h) k5 k4 k1 Q fun a'' w'' κ'' l1 l2 l3 l4 l5 l6 => ?_
        exact hQ a'' w'' κ'' l1 l2 (K.Le.trans hR.lb k3 l3) l4 l5 (l6.trans k6)
      · rename_i r hne
        cases e with
        | normal => exact absurd h (hne s')
        | exit id => exact code_sound hm hcall hd n b y hc.1 fr a κ w _ _ h hf hR hh _ fun a' w' κ' k1 k2 k3 k4 k5 k6 => hQ a' w' κ' k1 k2 k3 k4 k5 k6
        | ret => exact code_sound hm hcall hd n b y hc.1 fr a κ w _ _ h hf hR hh _ fun a' w' κ' k1 k2 k3 k4 k5 k6 => hQ a' w' κ' k1 k2 k3 k4 k5 k6
    | _ => simp [chkCode] at hc
  | .cond t b c, x, hc, fr, a, κ, w, e, s', h, hf, hR, hh, Q, hQ => by
    cases x with
    | cond z y y' =>
      simp only [chkCode, Bool.and_eq_true] at hc
      have hv := chkX_ok hf hc.1.1
      simp only [evC] at h
      split at h
      · rename_i ht
        rw [ht] at hv
        exact wp_cond_true (V_bool hv) (code_sound hm hcall hd n b y hc.1.2 fr a κ w e s' h hf hR hh Q hQ)
      · rename_i ht
        rw [ht] at hv
        exact wp_cond_false (V_bool hv) (code_sound hm hcall hd n c y' hc.2 fr a κ w e s' h hf hR hh Q hQ)
      · simp at h
    | _ => simp [chkCode] at hc
  | .block id c, x, hc, fr, a, κ, w, e, s', h, hf, hR, hh, Q, hQ => by
    cases x with
    | block id' y =>
      simp only [chkCode, Bool.and_eq_true, beq_iff_eq] at hc
      obtain ⟨rfl, hc⟩ := hc
      simp only [evC] at h
      refine wp_block ?_
      split at h
      · rename_i i s1 hs
        injection h with h; injection h with h1 h2; subst h1; subst h2
        refine code_sound hm hcall hd n c y hc fr a κ w _ _ hs hf hR hh _ fun a' w' κ' k1 k2 k3 k4 k5 k6 => ?_
        have := hQ a' w' κ' k1 k2 k3 k4 k5 k6
        simp only [toExit, Exit.inBlock]
        by_cases hi : i = id
        · simp only [hi, if_true, toExit] at this ⊢; exact this
        · simp only [hi, if_false, toExit] at this ⊢; exact this
      · rename_i r hne
        cases e with
        | exit i => exact absurd h (hne i s')
        | normal => exact code_sound hm hcall hd n c y hc fr a κ w _ _ h hf hR hh _ fun a' w' κ' k1 k2 k3 k4 k5 k6 => hQ a' w' κ' k1 k2 k3 k4 k5 k6
        | ret => exact code_sound hm hcall hd n c y hc fr a κ w _ _ h hf hR hh _ fun a' w' κ' k1 k2 k3 k4 k5 k6 => hQ a' w' κ' k1 k2 k3 k4 k5 k6
    | _ => simp [chkCode] at hc
  | .loop live c, x, hc, fr, a, κ, w, e, s', h, hf, hR, hh, Q, hQ => by
    cases x with
    | loop y =>
      simp only [chkCode] at hc
      simp only [evC] at h
      let J : Act → World → Nat → Prop := fun a1 w1 m => ∃ (κ1 : K) (fr1 : List AVal), Wh r w1 κ1.h ∧ κ.Le κ1 ∧ κ1.R E cfg.conc ∧ Fr cfg E κ1 fr1 a1 ∧ a1.defers = a.defers ∧
        iter live (evC cfg callF d n c) m (fr1, κ1.σ) = some (e, s')
      refine wp_loop (fun a1 w1 => ∃ m, J a1 w1 m) (fun a1 w1 => least (J a1 w1)) ⟨n, κ, fr, hh, K.Le.refl _, hR, hf, rfl, h⟩ fun a1 w1 hI => ?_
      obtain ⟨m, hm0⟩ := hI
      have hl := (least_spec hm0).1
      generalize hmu : least (J a1 w1) = μ at hl
      obtain ⟨κ1, fr1, h1, h2, h3, h4, h5, h6⟩ := hl
      cases μ with
      | zero => simp [iter] at h6
      | succ μ =>
        simp only [iter] at h6
        split at h6
        · rename_i s1 hs
          refine code_sound hm hcall hd n c y hc _ a1 κ1 w1 _ _ hs (h4.clean live) h3 h1 _ fun a' w' κ' k1 k2 k3 k4 k5 k6 => ?_
          simp only [toExit, Exit.then]
          have hJ : J a' w' μ := ⟨κ', s1.1, k1, K.Le.trans hR.lb h2 k3, k4, k5, k6.trans h5, by rw [k2]; exact h6⟩
          exact ⟨⟨μ, hJ⟩, by have := (least_spec hJ).2; omega⟩
        · rename_i r hne
          refine code_sound hm hcall hd n c y hc _ a1 κ1 w1 _ _ h6 (h4.clean live) h3 h1 _ fun a' w' κ' k1 k2 k3 k4 k5 k6 => ?_
          have := hQ a' w' κ' k1 k2 (K.Le.trans hR.lb h2 k3) k4 k5 (k6.trans h5)
          cases e with
          | normal => exact absurd h6 (hne s')
          | exit i => exact this
          | ret => exact this
    | _ => simp [chkCode] at hc
  | .exit id, x, hc, fr, a, κ, w, e, s', h, hf, hR, hh, Q, hQ => by
    cases x with
    | exit id' =>
      simp only [chkCode, beq_iff_eq] at hc
      subst hc
      simp only [evC] at h
      injection h with h; injection h with h1 h2; subst h1; subst h2
      exact wp_exit (hQ a w κ hh rfl (K.Le.refl _) hR hf rfl)
    | _ => simp [chkCode] at hc
  | .ret, x, hc, fr, a, κ, w, e, s', h, hf, hR, hh, Q, hQ => by
    cases x with
    | ret =>
      simp only [evC] at h
      injection h with h; injection h with h1 h2; subst h1; subst h2
      exact wp_ret (hQ a w κ hh rfl (K.Le.refl _) hR hf rfl)
    | _ => simp [chkCode] at hc
  | .stop, x, hc, fr, a, κ, w, e, s', h, hf, hR, hh, Q, hQ => by simp [evC] at h
end
end Go.Proofs.Ytmocplkpnickgaa.Am
