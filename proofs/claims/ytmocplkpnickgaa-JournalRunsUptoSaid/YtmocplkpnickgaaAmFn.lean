/-
  THE ABSTRACT MACHINE, part 27: functions.
-/
import Derived.Test.YtmocplkpnickgaaAmCode
namespace Go.Proofs.Ytmocplkpnickgaa.Am
open Go
set_option linter.unusedVariables false
set_option linter.unusedSimpArgs false

def chkRes (P : Program) : List ARes → List ResultVar → Bool
  | [], [] => true
  | .tmp t :: rs, .tmp t' :: xs => t == t' && chkRes P rs xs
  | .cell t n agg :: rs, .cell t' ty :: xs => t == t' && sizeT P ty == some n && aggT P ty == some agg && chkRes P rs xs
  | _, _ => false

/-- a function and the model's -/
structure FnOk (cfg : Cfg) (P : Program) (f : FuncId) (fn : AFunc) : Prop where
  ok : ∃ F c, P.funcs[cfg.conc f]? = some F ∧ F.name ≠ "runtime.NumGoroutine" ∧ F.body = some c ∧ F.ntmps = fn.ntmps ∧ chkRes P fn.results F.results.toList = true ∧ chkCode cfg P fn.body c = true

section
variable {P : Program} {cfg : Cfg} {E : Env}

def resF (tmps : Array Value) (r : ResultVar) : Sem Value :=
  match r with
  | .tmp t => pure (tmps.getD t undef)
  | .cell b t => do loadVar t (← asAddr (tmps.getD b undef))

theorem resF_tmp (tmps : Array Value) (t : Tmp) : resF tmps (.tmp t) = pure (tmps.getD t undef) := rfl
theorem resF_cell (tmps : Array Value) (b : Tmp) (t : TypeId) : resF tmps (.cell b t) = (do loadVar t (← asAddr (tmps.getD b undef))) := rfl

theorem results_eq (F : Func) (tmps : Array Value) : results F tmps = (do let vs ← F.results.mapM (resF tmps); pure (if h : vs.size = 1 then vs[0] else .tuple vs)) := by
  unfold results
  congr 1

theorem res_run {κ : K} {fr : List AVal} {a : Act} (hf : Fr cfg E κ fr a) (hR : κ.R E cfg.conc) : ∀ {rs : List ARes} {xs : List ResultVar} {vs : List AVal}, chkRes P rs xs = true → mapO (resOf (fr, κ.σ)) rs = some vs →
    ∃ cvs, (∀ w : World, w.heap = κ.h → (xs.mapM (resF a.tmps) : Sem (List Value)).run P w = .ok cvs w) ∧ κ.VL E cfg.conc vs cvs
  | [], [], vs, hc, h => by simp at h; subst h; exact ⟨[], fun w _ => by simp, .nil _⟩
  | .tmp t :: rs, .tmp t' :: xs, vs, hc, h => by
    simp only [chkRes, Bool.and_eq_true, beq_iff_eq] at hc
    obtain ⟨rfl, hc⟩ := hc
    simp only [mapO, resOf] at h
    split at h
    · rename_i v' vs' h1 h2
      injection h with h; subst h
      injection h1 with h1; subst h1
      obtain ⟨cvs, g1, g2⟩ := res_run hf hR hc h2
      refine ⟨_ :: cvs, fun w hw => ?_, .cons _ _ _ _ _ (hf.fr t) g2⟩
      simp only [List.mapM_cons, resF_tmp, Sem.run_bind, Sem.run_pure, Result.andThen, g1 w hw]
    · simp at h
  | .cell t n agg :: rs, .cell t' ty :: xs, vs, hc, h => by
    simp only [chkRes, Bool.and_eq_true, beq_iff_eq] at hc
    obtain ⟨⟨⟨rfl, hn⟩, hag⟩, hc⟩ := hc
    simp only [mapO, resOf] at h
    split at h
    · rename_i v' vs' h1 h2
      injection h with h; subst h
      obtain ⟨cvs, g1, g2⟩ := res_run hf hR hc h2
      unfold loadV at h1
      split at h1
      · rename_i cs off hb
        obtain ⟨b, o, us, hp, hl, hr, ho⟩ := behind_ok hR (hf.fr t) hb
        obtain ⟨cv, hrun, hv⟩ := loadVar_run (P := P) hn hag hl ho hr h1
        refine ⟨cv :: cvs, fun w hw => ?_, .cons _ _ _ _ _ hv g2⟩
        have ea : ∀ A, asAddr (.pointer (some A)) = pure A := fun _ => rfl
        simp only [List.mapM_cons, resF_cell, Sem.run_bind, Sem.run_pure, Result.andThen, hp, ea, hrun w hw, g1 w hw]
      · simp at h1
    · simp at h
  | [], _ :: _, vs, hc, h => by simp [chkRes] at hc
  | _ :: _, [], vs, hc, h => by rename_i r rs; cases r <;> simp [chkRes] at hc
  | .tmp _ :: _, .cell _ _ :: _, vs, hc, h => by simp [chkRes] at hc
  | .cell _ _ _ :: _, .tmp _ :: _, vs, hc, h => by simp [chkRes] at hc

theorem results_run {κ : K} {fr : List AVal} {a : Act} (hf : Fr cfg E κ fr a) (hR : κ.R E cfg.conc) {F : Func} {rs : List ARes} {v : AVal} (hc : chkRes P rs F.results.toList = true) (h : resultsA rs (fr, κ.σ) = some v) :
    ∃ cv, (∀ w : World, w.heap = κ.h → (results F a.tmps).run P w = .ok cv w) ∧ κ.V E cfg.conc v cv := by
  unfold resultsA at h
  have key : ∀ {vs : List AVal}, mapO (resOf (fr, κ.σ)) rs = some vs → ∃ cvs : List Value, (∀ w : World, w.heap = κ.h → (results F a.tmps).run P w = .ok (if h : cvs.toArray.size = 1 then cvs.toArray[0] else .tuple cvs.toArray) w) ∧ κ.VL E cfg.conc vs cvs := by
    intro vs hvs
    obtain ⟨cvs, g1, g2⟩ := res_run hf hR hc hvs
    refine ⟨cvs, fun w hw => ?_, g2⟩
    have := g1 w hw
    rw [results_eq, Array.mapM_eq_mapM_toList]
    simp only [Sem.run_bind, Sem.run_pure, Sem.run_map, map_eq_pure_bind, Result.andThen]
    rw [this]
  split at h
  · rename_i v' hvs
    injection h with h; subst h
    obtain ⟨cvs, g1, g2⟩ := key hvs
    cases g2 with
    | cons _ _ cv _ cvs' hv hvs' =>
      cases hvs'
      exact ⟨cv, fun w hw => by rw [g1 w hw]; rfl, hv⟩
  · rename_i vs hne hvs
    injection h with h; subst h
    obtain ⟨cvs, g1, g2⟩ := key hvs
    refine ⟨.tuple cvs.toArray, fun w hw => ?_, .tuple _ _ _ g2⟩
    rw [g1 w hw]
    have hlen : cvs.toArray.size ≠ 1 := by
      intro h1
      have := VL_len g2
      simp only [List.size_toArray] at h1
      rw [h1] at this
      match vs, this with
      | [x], _ => exact hne x rfl
    rw [dif_neg hlen]
  · simp at h

theorem VL_getD {κ : K} {vs : List AVal} {cvs : List Value} (h : κ.VL E cfg.conc vs cvs) (i : Nat) : κ.V E cfg.conc (vs.getD i .undef) (cvs.getD i undef) := by
  by_cases hi : i < vs.length
  · obtain ⟨v, hv, hr⟩ := VL_get h i vs[i] (List.getElem?_eq_getElem hi)
    simp only [List.getD_eq_getElem?_getD, List.getElem?_eq_getElem hi, hv, Option.getD_some]
    exact hr
  · have e : vs.getD i .undef = .undef := by simp [List.getD_eq_getElem?_getD, List.getElem?_eq_none (show vs.length ≤ i by omega)]
    rw [e]; exact .undef _ _

theorem VL_holes {κ : K} : ∀ (n : Nat), κ.VL E cfg.conc (List.replicate n (.tuple [])) (List.replicate n undef)
  | 0 => .nil _
  | n + 1 => by
    simp only [List.replicate_succ]
    exact .cons _ _ _ _ _ (.tuple _ [] [] (.nil _)) (VL_holes n)

theorem run_ok (hm : P.follows .mixedOrders = true) (hall : ∀ f fn, cfg.ir f = some fn → FnOk cfg P f fn) : ∀ n, CallOk P cfg (run cfg n)
  | 0 => fun d f args σ v σ' h => by simp [run] at h
  | n + 1 => by
    have ih := run_ok hm hall n
    intro d f args σ v σ' h
    simp only [run] at h
    split at h
    · simp at h
    · rename_i fn hfn
      obtain ⟨F, c, h1, h2, h3, h4, h5, h6⟩ := (hall f fn hfn).ok
      refine ⟨⟨F, h1, h2, by simp [h3]⟩, fun E κ cargs hd hσ hR hg ha r w hw => ?_⟩
      subst hσ
      have hlen := VL_len ha
      refine calls_of_wp h1 h3 ?_
      have hvl : κ.VL E cfg.conc (args ++ List.replicate (fn.ntmps - args.length) (.tuple [])) (cargs ++ List.replicate (fn.ntmps - args.length) undef) := VL_append ha (VL_holes _)
      have htm : (cargs.toArray ++ Array.replicate (F.ntmps - cargs.toArray.size) undef) = (cargs ++ List.replicate (fn.ntmps - args.length) undef).toArray := by
        rw [h4, hlen]; simp
      have hf : Fr cfg E κ (args ++ List.replicate (fn.ntmps - args.length) (.tuple [])) { tmps := cargs.toArray ++ Array.replicate (F.ntmps - cargs.toArray.size) undef, defers := [] } := by
        refine ⟨?_, fun i => ?_, hg⟩
        · simp only; rw [htm]; simp [hlen]
        · simp only; rw [htm]; simpa using VL_getD hvl i
      split at h
      · rename_i s hs
        split at h
        · rename_i v' hres
          injection h with h; injection h with e1 e2; subst e1; subst e2
          refine code_sound hm ih hd n fn.body c h6 _ _ κ w _ _ hs hf hR hw _ fun a' w' κ' k1 k2 k3 k4 k5 k6 => ?_
          obtain ⟨cv, r1, r2⟩ := results_run k5 k4 h5 (by rw [k2]; exact hres)
          exact ⟨k6, cv, r1 w' k1.1, κ', k1, k2, k3, k4, r2⟩
        · simp at h
      · rename_i s hs
        split at h
        · rename_i v' hres
          injection h with h; injection h with e1 e2; subst e1; subst e2
          refine code_sound hm ih hd n fn.body c h6 _ _ κ w _ _ hs hf hR hw _ fun a' w' κ' k1 k2 k3 k4 k5 k6 => ?_
          obtain ⟨cv, r1, r2⟩ := results_run k5 k4 h5 (by rw [k2]; exact hres)
          exact ⟨k6, cv, r1 w' k1.1, κ', k1, k2, k3, k4, r2⟩
        · simp at h
      · simp at h
end
end Go.Proofs.Ytmocplkpnickgaa.Am
