/-
  THE ABSTRACT MACHINE, part 30: more fuel, the same answer.
-/
import Derived.Test.YtmocplkpnickgaaAmRun
namespace Go.Proofs.Ytmocplkpnickgaa.Am
open Go
set_option linter.unusedVariables false
set_option linter.unusedSimpArgs false

def CallF.le (F G : CallF) : Prop := ∀ d f a σ r, F d f a σ = some r → G d f a σ = some r

section
variable {cfg : Cfg} {F G : CallF} {d : Nat} (hFG : F.le G)
include hFG

theorem doCall_mono {m : Mode} {f : FuncId} {args : List AVal} {σ : Store} {r : AVal × Store} (h : doCall F d m f args σ = some r) : doCall G d m f args σ = some r := by
  cases m with
  | shared => exact hFG _ _ _ _ _ h
  | iso =>
    simp only [doCall] at h ⊢
    split at h
    · rename_i a ha
      split at h
      · rename_i v σ1 hv
        rw [hFG _ _ _ _ _ hv]
        exact h
      · cases h
    · cases h

theorem opStep_mono {fr : List AVal} {σ : Store} {op : AOp} {r : AVal × Store} (h : opStep cfg F d fr σ op = some r) : opStep cfg G d fr σ op = some r := by
  cases op with
  | call m f args => exact doCall_mono hFG h
  | callv m f args =>
    simp only [opStep] at h ⊢
    split at h
    · exact doCall_mono hFG h
    · cases h
  | _ => exact h

theorem stepO_mono {o : AOper} {s r : FS} (h : stepO cfg F d o s = some r) : stepO cfg G d o s = some r := by
  unfold stepO at h ⊢
  split at h
  · split at h
    · rename_i v σ hv
      rw [opStep_mono hFG hv]; exact h
    · cases h
  · exact h
  · cases h

theorem stepOs_mono : ∀ {os : List AOper} {s r : FS}, stepOs cfg F d os s = some r → stepOs cfg G d os s = some r ∧ traceOs cfg G d os s = traceOs cfg F d os s
  | [], s, r, h => ⟨h, rfl⟩
  | o :: os, s, r, h => by
    simp only [stepOs] at h
    split at h
    · rename_i s1 hs1
      have e := stepO_mono hFG hs1
      obtain ⟨h1, h2⟩ := stepOs_mono h
      simp only [stepOs, traceOs, e, hs1, h1, h2, and_self]
    · cases h

theorem steady_mono {ops : List AOper} {tr : List FS} {p : Nat × Nat} (h : steady cfg F d ops tr p = true) : steady cfg G d ops tr p = true := by
  unfold steady at h ⊢
  split at h
  · rename_i o s s' h1 h2 h3
    split at h
    · split at h
      · rename_i v u v' u' g1 g2
        rw [opStep_mono hFG g1, opStep_mono hFG g2]
        exact h
      · cases h
    · exact h
  · cases h

omit hFG in
theorem iter_mono {live : List Nat} {b b' : FS → Option (AExit × FS)} (hb : ∀ s r, b s = some r → b' s = some r) : ∀ {n n' : Nat} {s : FS} {r : AExit × FS}, n ≤ n' → iter live b n s = some r → iter live b' n' s = some r
  | 0, _, s, r, _, h => by simp [iter] at h
  | n + 1, 0, s, r, hn, _ => by omega
  | n + 1, n' + 1, s, r, hn, h => by
    simp only [iter] at h ⊢
    cases hbs : b (cleanFrom live 0 s.1, s.2) with
    | none => rw [hbs] at h; cases h
    | some p =>
      rw [hbs] at h
      rw [hb _ _ hbs]
      obtain ⟨x, s'⟩ := p
      cases x with
      | normal => exact iter_mono hb (by omega) h
      | exit id => exact h
      | ret => exact h

theorem evC_mono {n n' : Nat} (hn : n ≤ n') : ∀ {c : ACode} {s : FS} {r : AExit × FS}, evC cfg F d n c s = some r → evC cfg G d n' c s = some r
  | .skip, s, r, h => h
  | .region ops, s, r, h => by
    simp only [evC] at h ⊢
    split at h
    · rename_i s' hs; rw [(stepOs_mono hFG hs).1]; exact h
    · cases h
  | .drawn ops pairs, s, r, h => by
    simp only [evC] at h ⊢
    split at h
    · rename_i s' hs
      obtain ⟨h1, h2⟩ := stepOs_mono hFG hs
      rw [h1, h2]
      dsimp only
      split at h
      · rename_i hp
        have : (pairs.all (steady cfg G d ops (traceOs cfg F d ops s))) = true := by
          rw [List.all_eq_true] at hp ⊢
          exact fun p hpm => steady_mono hFG (hp p hpm)
        rw [if_pos this]; exact h
      · cases h
    · cases h
  | .seq a b, s, r, h => by
    simp only [evC] at h ⊢
    cases ha : evC cfg F d n a s with
    | none => rw [ha] at h; cases h
    | some p =>
      rw [ha] at h
      rw [evC_mono hn ha]
      obtain ⟨x, s'⟩ := p
      cases x with
      | normal => exact evC_mono hn h
      | exit id => exact h
      | ret => exact h
  | .cond c a b, s, r, h => by
    simp only [evC] at h ⊢
    split at h
    · exact evC_mono hn h
    · exact evC_mono hn h
    · cases h
  | .block id c, s, r, h => by
    simp only [evC] at h ⊢
    cases hc : evC cfg F d n c s with
    | none => rw [hc] at h; cases h
    | some p => rw [hc] at h; rw [evC_mono hn hc]; exact h
  | .loop live c, s, r, h => by
    simp only [evC] at h ⊢
    exact iter_mono (fun s r h => evC_mono hn h) hn h
  | .exit id, s, r, h => h
  | .ret, s, r, h => h
  | .stop, s, r, h => h
end

theorem run_le (cfg : Cfg) : ∀ {n n' : Nat}, n ≤ n' → CallF.le (run cfg n) (run cfg n')
  | 0, _, _, d, f, a, σ, r, h => by simp [run] at h
  | n + 1, 0, hn, d, f, a, σ, r, h => by omega
  | n + 1, n' + 1, hn, d, f, a, σ, r, h => by
    simp only [run] at h ⊢
    split at h
    · cases h
    · rename_i fn hfn
      have ih := run_le cfg (n := n) (n' := n') (by omega)
      cases he : evC cfg (run cfg n) d n fn.body (a ++ List.replicate (fn.ntmps - a.length) (.tuple []), σ) with
      | none => rw [he] at h; cases h
      | some p =>
        rw [he] at h
        rw [evC_mono ih (by omega) he]
        exact h

theorem evC_run_mono {cfg : Cfg} {d n n' : Nat} (hn : n ≤ n') {c : ACode} {s : FS} {r : AExit × FS} (h : evC cfg (run cfg n) d n c s = some r) : evC cfg (run cfg n') d n' c s = some r :=
  evC_mono (run_le cfg hn) hn h

end Go.Proofs.Ytmocplkpnickgaa.Am
