/-
  THE ABSTRACT MACHINE, part 23: a region's operations, in their order and in any order.
-/
import Derived.Test.YtmocplkpnickgaaAmReg
namespace Go.Proofs.Ytmocplkpnickgaa.Am
open Go
set_option linter.unusedVariables false
set_option linter.unusedSimpArgs false

/-! ### the checks -/
def chkOper (cfg : Cfg) (P : Program) (ops : Array Oper) (o : AOper) (x : Oper) : Bool :=
  (o.dst == x.dst) && chkO cfg P o.op x.op &&
  match o.guard, x.guard with
  | none, none => true
  | some (t, b), some (g, b') => b == b' && (ops[g]?).bind (·.dst) == some t
  | _, _ => false

def chkOpers (cfg : Cfg) (P : Program) (ops : Array Oper) : List AOper → List Oper → Bool
  | [], [] => true
  | o :: os, x :: xs => chkOper cfg P ops o x && chkOpers cfg P ops os xs
  | _, _ => false

theorem chkOpers_get {cfg : Cfg} {P : Program} {ops : Array Oper} : ∀ {l : List AOper} {xs : List Oper}, chkOpers cfg P ops l xs = true →
    l.length = xs.length ∧ ∀ (i : Nat) (o : AOper), l[i]? = some o → ∃ x, xs[i]? = some x ∧ chkOper cfg P ops o x = true
  | [], [], _ => ⟨rfl, fun i o h => by simp at h⟩
  | o :: os, x :: xs, h => by
    simp only [chkOpers, Bool.and_eq_true] at h
    obtain ⟨h1, h2⟩ := chkOpers_get h.2
    refine ⟨by simp [h1], fun i o' hi => ?_⟩
    cases i with
    | zero => simp at hi; subst hi; exact ⟨x, by simp, h.1⟩
    | succ i => obtain ⟨y, hy, hc⟩ := h2 i o' (by simpa using hi); exact ⟨y, by simpa using hy, hc⟩
  | [], _ :: _, h => by simp [chkOpers] at h
  | _ :: _, [], h => by simp [chkOpers] at h

section
variable {P : Program} {cfg : Cfg} {callF : CallF} {E : Env} {r : Rest}

theorem Fr.put {κ : K} {fr : List AVal} {a : Act} (h : Fr cfg E κ fr a) {dst : Option Nat} {v : AVal} {cv : Value} (hv : κ.V E cfg.conc v cv) : Fr cfg E κ (Go.Proofs.Ytmocplkpnickgaa.Am.put fr dst v) (a.put dst cv) := by
  cases dst with
  | none => exact h
  | some t =>
    refine ⟨by simpa [Go.Proofs.Ytmocplkpnickgaa.Am.put, Act.put] using h.len, fun i => ?_, h.gl⟩
    simp only [Go.Proofs.Ytmocplkpnickgaa.Am.put, Act.put]
    by_cases hi : i = t
    · subst hi
      by_cases hl : i < fr.length
      · have hl' : i < a.tmps.size := Nat.lt_of_lt_of_le hl h.len
        have e1 : (fr.set i v).getD i .undef = v := by simp [List.getD_eq_getElem?_getD, hl]
        have e2 : (a.tmps.setIfInBounds i cv).getD i undef = cv := by simp [Array.getElem?_setIfInBounds_self_of_lt hl']
        rw [e1, e2]; exact hv
      · have e1 : (fr.set i v).getD i .undef = .undef := by simp [List.getD_eq_getElem?_getD, hl]
        rw [e1]; exact .undef _ _
    · have e1 : (fr.set t v).getD i .undef = fr.getD i .undef := by simp [List.getD_eq_getElem?_getD, List.getElem?_set_ne (fun e => hi e.symm)]
      have e2 : (a.tmps.setIfInBounds t cv).getD i undef = a.tmps.getD i undef := by simp [Array.getElem?_setIfInBounds_ne (fun e => hi e.symm)]
      rw [e1, e2]; exact h.fr i

theorem put_defers {a : Act} {dst : Option Tmp} {cv : Value} : (a.put dst cv).defers = a.defers := by cases dst <;> rfl

theorem wanted_ok {κ : K} {fr : List AVal} {a : Act} (hf : Fr cfg E κ fr a) {ops : Array Oper} {o : AOper} {x : Oper} (hc : chkOper cfg P ops o x = true) {b : Bool} (h : wantedA fr o.guard = some b) :
    Region.wanted x (yielded ops a.tmps) = b := by
  simp only [chkOper, Bool.and_eq_true] at hc
  obtain ⟨_, hc⟩ := hc
  unfold Region.wanted
  cases hg : o.guard with
  | none =>
    cases hx : x.guard with
    | none => rw [hg] at h; simp at h; subst h; rfl
    | some p => simp [hg, hx] at hc
  | some p =>
    obtain ⟨t, want⟩ := p
    cases hx : x.guard with
    | none => simp [hg, hx] at hc
    | some q =>
      obtain ⟨g, want'⟩ := q
      simp only [hg, hx, Bool.and_eq_true, beq_iff_eq] at hc
      obtain ⟨rfl, hd⟩ := hc
      rw [hg] at h
      simp only [wantedA] at h
      have hv := hf.fr t
      have hy : yielded ops a.tmps g = (match a.tmps[t]? with | some (.bool b) => some b | _ => none) := by
        unfold yielded; rw [hd]; rfl
      dsimp only
      rw [hy]
      split at h
      · rename_i c hc'
        injection h with h
        subst h
        rw [hc'] at hv
        have := V_bool hv
        have h2 : a.tmps[t]? = some (.bool c) := by
          cases ht : a.tmps[t]? with
          | none => simp [ht, undef] at this
          | some y => simp [ht] at this; rw [this]
        rw [h2]
        cases c <;> cases want <;> rfl
      · rename_i hc'
        injection h with h
        subst h
        rw [hc'] at hv
        obtain ⟨vs, h2, h3⟩ := V_tuple hv
        have h4 : ∀ c, a.tmps[t]? ≠ some (.bool c) := by
          intro c hcc
          simp [hcc] at h2
        split
        · rename_i c hcc; exact absurd hcc (h4 c)
        · rfl
      · simp at h

/-- one operation of a region -/
theorem oper_step (hcall : CallOk P cfg callF) {d : Nat} (hd : E.d = d) {κ : K} {fr : List AVal} {a : Act} {ops : Array Oper} {i : Nat} {o : AOper} {x : Oper} (hi : ops[i]? = some x) (hc : chkOper cfg P ops o x = true)
    (hf : Fr cfg E κ fr a) (hR : κ.R E cfg.conc) {b : Bool} {v : AVal} {σ' : Store} (hw : wantedA fr o.guard = some b) (h1 : b = true → opStep cfg callF d fr κ.σ o.op = some (v, σ')) (h2 : b = false → v = .tuple [] ∧ σ' = κ.σ)
    {Q : Exit → Act → World → Prop} {next : Act → World → Prop} {w : World} (hh : Wh r w κ.h)
    (hn : ∀ a' w' (κ' : K), Wh r w' κ'.h → κ'.σ = σ' → κ.Le κ' → κ'.R E cfg.conc → Fr cfg E κ' (put fr o.dst v) a' → a'.defers = a.defers → next a' w') :
    wpOp P ops Q i next a w := by
  have hdst : o.dst = x.dst := by simp only [chkOper, Bool.and_eq_true, beq_iff_eq] at hc; exact hc.1.1
  have hop : chkO cfg P o.op x.op = true := by simp only [chkOper, Bool.and_eq_true, beq_iff_eq] at hc; exact hc.1.2
  unfold wpOp
  simp only [hi]
  rw [wanted_ok hf hc hw]
  cases b with
  | true =>
    simp only [if_true]
    refine .inl (op1_sound hcall hd hf hR hop (h1 rfl) r w Q next hh fun cv w' κ' k1 k2 k3 k4 k5 => ?_)
    exact hn _ w' κ' k1 k2 k3 k4 (by rw [hdst]; exact Fr.put (Fr.le hR.lb k3 hf) k5) put_defers
  | false =>
    simp only [Bool.false_eq_true, if_false]
    obtain ⟨rfl, rfl⟩ := h2 rfl
    exact hn _ w κ hh rfl (K.Le.refl _) hR (by rw [hdst]; exact Fr.put hf (.tuple _ [] [] (.nil _))) put_defers

/-- a region that is not drawn -/
theorem ops_seq (hcall : CallOk P cfg callF) {d : Nat} (hd : E.d = d) {ops : Array Oper} {Q : Exit → Act → World → Prop} : ∀ (l : List AOper) (k : Nat) (fr : List AVal) (a : Act) (κ : K) (w : World) (s' : FS),
    (∀ (j : Nat) (o : AOper), l[j]? = some o → ∃ x, ops[k + j]? = some x ∧ chkOper cfg P ops o x = true) → stepOs cfg callF d l (fr, κ.σ) = some s' →
    Fr cfg E κ fr a → κ.R E cfg.conc → Wh r w κ.h →
    (∀ a' w' (κ' : K), Wh r w' κ'.h → κ'.σ = s'.2 → κ.Le κ' → κ'.R E cfg.conc → Fr cfg E κ' s'.1 a' → a'.defers = a.defers → Q .normal a' w') →
    wpOps P ops Q (List.range' k l.length) a w
  | [], k, fr, a, κ, w, s', hc, h, hf, hR, hh, hQ => by
    simp only [stepOs] at h
    injection h with h; subst h
    simp only [List.length_nil, List.range'_zero, wpOps]
    exact hQ a w κ hh rfl (K.Le.refl _) hR hf rfl
  | o :: os, k, fr, a, κ, w, s', hc, h, hf, hR, hh, hQ => by
    simp only [stepOs] at h
    split at h
    · rename_i s1 hs1
      obtain ⟨b, v, hw, e1, g1, g2⟩ := stepO_inv hs1
      obtain ⟨x, hx, hcx⟩ := hc 0 o (by simp)
      simp only [List.length_cons, List.range'_succ]
      rw [wpOps_cons]
      refine oper_step hcall hd (by simpa using hx) hcx hf hR hw g1 g2 hh fun a' w' κ' k1 k2 k3 k4 k5 k6 => ?_
      refine ops_seq hcall hd os (k + 1) s1.1 a' κ' w' s' (fun j o' hj => ?_) (by rw [k2]; exact h) (by rw [e1]; exact k5) k4 k1 fun a'' w'' κ'' l1 l2 l3 l4 l5 l6 => ?_
      · obtain ⟨y, hy, hcy⟩ := hc (j + 1) o' (by simpa using hj)
        exact ⟨y, by rw [← hy]; congr 1; omega, hcy⟩
      · exact hQ a'' w'' κ'' l1 l2 (K.Le.trans hR.lb k3 l3) l4 l5 (l6.trans k6)
    · simp at h

theorem region_seq (hcall : CallOk P cfg callF) {d : Nat} (hd : E.d = d) {id : Nat} {ops : Array Oper} {Q : Exit → Act → World → Prop} {l : List AOper} {fr : List AVal} {a : Act} {κ : K} {w : World} {s' : FS}
    (hc : chkOpers cfg P ops l ops.toList = true) (h : stepOs cfg callF d l (fr, κ.σ) = some s') (hf : Fr cfg E κ fr a) (hR : κ.R E cfg.conc) (hh : Wh r w κ.h)
    (hQ : ∀ a' w' (κ' : K), Wh r w' κ'.h → κ'.σ = s'.2 → κ.Le κ' → κ'.R E cfg.conc → Fr cfg E κ' s'.1 a' → a'.defers = a.defers → Q .normal a' w') :
    (Code.region id ops false).wp P Q a w := by
  obtain ⟨h1, h2⟩ := chkOpers_get hc
  refine wp_region ?_
  have e : List.range ops.size = List.range' 0 l.length := by rw [List.range_eq_range', h1]; simp
  rw [e]
  exact ops_seq hcall hd l 0 fr a κ w s' (fun j o hj => by simpa using h2 j o hj) h hf hR hh hQ
end
end Go.Proofs.Ytmocplkpnickgaa.Am
