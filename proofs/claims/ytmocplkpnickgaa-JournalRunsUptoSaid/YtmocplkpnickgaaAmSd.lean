/-
  THE ABSTRACT MACHINE, part 37: the calculus, for regions in any order.
-/
import Derived.Test.YtmocplkpnickgaaAmSp
namespace Go.Proofs.Ytmocplkpnickgaa.Am
open Go
set_option linter.unusedVariables false
set_option linter.unusedSimpArgs false

mutual
theorem AVal.beq_self : ∀ v : AVal, AVal.beq v v = true
  | .undef | .nilptr | .nilslice | .nilmap | .nilfunc | .nilIface => rfl
  | .bool b => by simp [AVal.beq]
  | .int k n => by simp [AVal.beq]
  | .str s => by simp [AVal.beq]
  | .ptr a b => by simp [AVal.beq]
  | .eptr a b c e => by simp [AVal.beq]
  | .fptr t cs o => by simp [AVal.beq, AVal.beqL_self cs]
  | .slice a b c e f g => by simp [AVal.beq]
  | .fslice t b sz es => by simp [AVal.beq, AVal.beqL_self es]
  | .map a => by simp [AVal.beq]
  | .fmap t a b => by simp [AVal.beq, AVal.beqL_self a, AVal.beqL_self b]
  | .func f a b => by simp [AVal.beq, AVal.beqL_self a, AVal.beqL_self b]
  | .iface t v => by simp [AVal.beq, AVal.beq_self v]
  | .agg cs => by simp [AVal.beq, AVal.beqL_self cs]
  | .tuple cs => by simp [AVal.beq, AVal.beqL_self cs]
theorem AVal.beqL_self : ∀ v : List AVal, AVal.beqL v v = true
  | [] => rfl
  | v :: vs => by simp [AVal.beqL, AVal.beq_self v, AVal.beqL_self vs]
end

section
variable {cfg : Cfg} {d : Nat}

/-- the operations one by one; the states are kept, and what is asked of the readers is asked in the end -/
def wpD (cfg : Cfg) (d : Nat) (ops : List AOper) (pairs : List (Nat × Nat)) : List AOper → List FS → List AVal → Store → PostF → Prop
  | [], hist, fr, σ, Q => (∀ p ∈ pairs, steady cfg noCall d ops (hist ++ [(fr, σ)]) p = true) ∧ Q fr σ
  | o :: os, hist, fr, σ, Q => wpOs cfg d [o] fr σ (fun fr' σ' => wpD cfg d ops pairs os (hist ++ [(fr, σ)]) fr' σ' Q)

theorem wpD_sound {ops : List AOper} {pairs : List (Nat × Nat)} {Q : PostF} : ∀ (os : List AOper) (hist : List FS) (fr : List AVal) (σ : Store), wpD cfg d ops pairs os hist fr σ Q →
    ∃ n s', stepOs cfg (run cfg n) d os (fr, σ) = some s' ∧ Q s'.1 s'.2 ∧ ∀ p ∈ pairs, steady cfg noCall d ops (hist ++ traceOs cfg (run cfg n) d os (fr, σ)) p = true
  | [], hist, fr, σ, h => ⟨0, (fr, σ), rfl, h.2, h.1⟩
  | o :: os, hist, fr, σ, h => by
    unfold wpD at h
    obtain ⟨n1, s1, e1, h2⟩ := wpOs_sound h
    obtain ⟨n2, s2, e2, hq, hst⟩ := wpD_sound os _ _ _ h2
    have e1' : stepO cfg (run cfg n1) d o (fr, σ) = some s1 := by
      simp only [stepOs] at e1
      split at e1
      · rename_i s hs; rw [hs]; exact e1
      · cases e1
    have f1 := stepO_mono (run_le cfg (Nat.le_max_left n1 n2)) e1'
    obtain ⟨f2, f3⟩ := stepOs_mono (run_le cfg (Nat.le_max_right n1 n2)) e2
    refine ⟨max n1 n2, s2, ?_, hq, fun p hp => ?_⟩
    · simp only [stepOs]; rw [f1]; exact f2
    · have := hst p hp
      rw [List.append_assoc] at this
      simp only [traceOs]
      rw [f1]
      dsimp only
      have e3 : traceOs cfg (run cfg (max n1 n2)) d os s1 = traceOs cfg (run cfg n2) d os (s1.1, s1.2) := f3
      rw [e3]
      exact this

theorem drawnP_eq {ops : List AOper} {pairs : List (Nat × Nat)} {fr : List AVal} {σ : Store} {Q : PostF} {w : Wit Q} (h : wpD cfg d ops pairs ops [] fr σ Q) : drawnP cfg d ops pairs fr σ Q w := by
  obtain ⟨n, s', h1, h2, h3⟩ := wpD_sound ops [] fr σ h
  unfold drawnP
  refine ⟨n, s', h1, ?_, h2⟩
  rw [List.all_eq_true]
  intro p hp
  exact steady_mono (noCall_le _) (by simpa using h3 p hp)

theorem wpD_nil {ops : List AOper} {pairs : List (Nat × Nat)} {hist : List FS} {fr : List AVal} {σ : Store} {Q : PostF} : wpD cfg d ops pairs [] hist fr σ Q = ((∀ p ∈ pairs, steady cfg noCall d ops (hist ++ [(fr, σ)]) p = true) ∧ Q fr σ) := propext Iff.rfl
theorem wpD_cons {ops : List AOper} {pairs : List (Nat × Nat)} {o : AOper} {os : List AOper} {hist : List FS} {fr : List AVal} {σ : Store} {Q : PostF} : wpD cfg d ops pairs (o :: os) hist fr σ Q = wpOs cfg d [o] fr σ (fun fr' σ' => wpD cfg d ops pairs os (hist ++ [(fr, σ)]) fr' σ' Q) := propext Iff.rfl

/-- a reader that reads the same in both stores -/
theorem steady_same {ops : List AOper} {i k : Nat} {T : List FS} {s τ : FS} {o : AOper} {v : AVal} (h1 : ops[i]? = some o) (h2 : T[i]? = some s) (h3 : T[if k < i then k else k + 1]? = some τ) (hg : o.guard = none)
    (e1 : opStep cfg noCall d s.1 s.2 o.op = some (v, s.2)) (e2 : opStep cfg noCall d s.1 τ.2 o.op = some (v, τ.2)) : steady cfg noCall d ops T (i, k) = true := by
  unfold steady
  rw [h1, h2, h3]
  dsimp only
  rw [hg]
  simp only [wantedA]
  rw [e1, e2]
  exact AVal.beq_self v
end
attribute [irreducible] wpD
end Go.Proofs.Ytmocplkpnickgaa.Am
