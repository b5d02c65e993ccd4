/-
  THE ABSTRACT MACHINE, part 39: the calculus: what holds behind a text may be forgotten in part.
-/
import Derived.Test.YtmocplkpnickgaaAmSe
namespace Go.Proofs.Ytmocplkpnickgaa.Am
open Go
set_option linter.unusedVariables false
set_option linter.unusedSimpArgs false

section
variable {cfg : Cfg} {d : Nat}

theorem callP_mono {m : Mode} {f : FuncId} {args : List AVal} {σ : Store} {Q Q' : AVal → Store → Prop} (h : callP cfg d m f args σ Q) (hq : ∀ v σ', Q v σ' → Q' v σ') : callP cfg d m f args σ Q' := by
  cases m with
  | shared => exact Called.mono h hq
  | iso =>
    obtain ⟨a, h1, h2⟩ := h
    exact ⟨a, h1, h2.mono fun v σ1 ⟨v', h3, h4, h5⟩ => ⟨v', h3, h4, hq _ _ h5⟩⟩
theorem opP_wp_mono {fr : List AVal} {σ : Store} {op : AOp} {Q Q' : AVal → Store → Prop} (h : opP cfg d fr σ op Q) (hq : ∀ v σ', Q v σ' → Q' v σ') : opP cfg d fr σ op Q' := by
  have key : opE cfg d fr σ op Q → opE cfg d fr σ op Q' := by
    intro h
    unfold opE optP at h ⊢
    split at h
    · exact hq _ _ h
    · exact h.elim
  cases op with
  | call m f args => exact callP_mono h hq
  | callv m f args =>
    simp only [opP] at h ⊢
    split at h
    · exact callP_mono h hq
    · exact h.elim
  | _ => exact key h
theorem wpOs_mono : ∀ {os : List AOper} {fr : List AVal} {σ : Store} {Q Q' : PostF}, wpOs cfg d os fr σ Q → (∀ fr σ, Q fr σ → Q' fr σ) → wpOs cfg d os fr σ Q'
  | [], fr, σ, Q, Q', h, hq => by unfold wpOs at h ⊢; exact hq _ _ h
  | o :: os, fr, σ, Q, Q', h, hq => by
    unfold wpOs guardP at h ⊢
    split at h
    · rename_i hw; exact opP_wp_mono h fun v σ' h => wpOs_mono h hq
    · rename_i hw; exact wpOs_mono h hq
    · exact h.elim
theorem wpC_mono : ∀ {c : ACode} {fr : List AVal} {σ : Store} {Q Q' : PostC}, wpC cfg d c fr σ Q → (∀ x fr σ, Q x fr σ → Q' x fr σ) → wpC cfg d c fr σ Q'
  | .skip, fr, σ, Q, Q', h, hq => by unfold wpC at h ⊢; exact hq _ _ _ h
  | .region ops, fr, σ, Q, Q', h, hq => by unfold wpC at h ⊢; exact wpOs_mono h fun fr σ => hq _ _ _
  | .drawn ops pairs, fr, σ, Q, Q', h, hq => by
    unfold wpC drawnP at h ⊢
    obtain ⟨n, s', h1, h2, h3⟩ := h
    exact ⟨n, s', h1, h2, hq _ _ _ h3⟩
  | .seq a b, fr, σ, Q, Q', h, hq => by
    unfold wpC at h ⊢
    refine wpC_mono h fun x fr σ h => ?_
    unfold seqQ at h ⊢
    cases x with
    | normal => exact wpC_mono h hq
    | exit id => exact hq _ _ _ h
    | ret => exact hq _ _ _ h
  | .cond c a b, fr, σ, Q, Q', h, hq => by
    unfold wpC condP at h ⊢
    split at h
    · exact wpC_mono h hq
    · exact wpC_mono h hq
    · exact h.elim
  | .block id c, fr, σ, Q, Q', h, hq => by
    unfold wpC at h ⊢
    refine wpC_mono h fun x fr σ h => ?_
    unfold blockQ at h ⊢
    cases x <;> exact hq _ _ _ h
  | .loop live c, fr, σ, Q, Q', h, hq => by
    unfold wpC loopP at h ⊢
    obtain ⟨n, x, s', h1, h2⟩ := h
    exact ⟨n, x, s', h1, hq _ _ _ h2⟩
  | .exit id, fr, σ, Q, Q', h, hq => by unfold wpC at h ⊢; exact hq _ _ _ h
  | .ret, fr, σ, Q, Q', h, hq => by unfold wpC at h ⊢; exact hq _ _ _ h
  | .stop, fr, σ, Q, Q', h, hq => by unfold wpC at h; exact h.elim

/-- a block: what is live behind it, and what holds of it -/
theorem block_rule {id : Nat} {c : ACode} {n : Nat} {e : Nat → AVal} {σ : Store} {Q : PostC} (lo : List Nat) (J : AExit → List AVal → Store → Prop)
    (h : wpC cfg d c (Fr' n e) σ (blockQ id fun x fr σ => fr.length = n ∧ J x (lo.map fun t => fr.getD t .undef) σ))
    (post : ∀ x σ (e : Nat → AVal), J x (lo.map e) σ → Q x (Fr' n e) σ) : wpC cfg d c (Fr' n e) σ (blockQ id Q) := by
  refine wpC_mono h fun x fr σ h => ?_
  have key : ∀ x, (fr.length = n ∧ J x (lo.map fun t => fr.getD t .undef) σ) → Q x fr σ := fun x ⟨hl, h2⟩ => by
    have := post x σ (fun t => fr.getD t .undef) h2
    rw [← hl, ← Fr_of] at this
    exact this
  unfold blockQ at h ⊢
  cases x <;> exact key _ h
theorem block_rule' {id : Nat} {c : ACode} {n : Nat} {e : Nat → AVal} {σ : Store} {Q : PostC} (lo : List Nat) (J : AExit → List AVal → Store → Prop)
    (h : wpC cfg d c (Fr' n e) σ (blockQ id fun x fr σ => fr.length = n ∧ J x (lo.map fun t => fr.getD t .undef) σ))
    (post : ∀ x σ (e : Nat → AVal), J x (lo.map e) σ → Q x (Fr' n e) σ) : wpC cfg d (.block id c) (Fr' n e) σ Q := by
  rw [wpC_block]; exact block_rule lo J h post
/-- .. any text -/
theorem cut_rule {c : ACode} {n : Nat} {e : Nat → AVal} {σ : Store} {Q : PostC} (lo : List Nat) (J : AExit → List AVal → Store → Prop)
    (h : wpC cfg d c (Fr' n e) σ (fun x fr σ => fr.length = n ∧ J x (lo.map fun t => fr.getD t .undef) σ))
    (post : ∀ x σ (e : Nat → AVal), J x (lo.map e) σ → Q x (Fr' n e) σ) : wpC cfg d c (Fr' n e) σ Q := by
  refine wpC_mono h fun x fr σ ⟨hl, h2⟩ => ?_
  have := post x σ (fun t => fr.getD t .undef) h2
  rw [← hl, ← Fr_of] at this
  exact this
end
end Go.Proofs.Ytmocplkpnickgaa.Am
