/-
  THE ABSTRACT MACHINE, part 38: the calculus, for regions in any order, when every reader stands behind what it could be drawn ahead of.
-/
import Derived.Test.YtmocplkpnickgaaAmSd
namespace Go.Proofs.Ytmocplkpnickgaa.Am
open Go
set_option linter.unusedVariables false
set_option linter.unusedSimpArgs false

def heldP (C : Prop) (fr : List AVal) (σ : Store) (K : List AVal → Store → Prop) (w : Wit K) : Prop := C ∧ K fr σ
theorem heldP_true (fr : List AVal) (σ : Store) (K : List AVal → Store → Prop) (w : Wit K) : heldP True fr σ K w = K fr σ := by simp [heldP]
theorem heldP_of {C : Prop} {fr : List AVal} {σ : Store} {K : List AVal → Store → Prop} {w : Wit K} (h : C) (hk : K fr σ) : heldP C fr σ K w := ⟨h, hk⟩

def hupd (h : Nat → Store) (k : Nat) (σ : Store) : Nat → Store := fun t => if t = k then σ else h t
theorem hupd_apply (h : Nat → Store) (k : Nat) (σ : Store) (t : Nat) : hupd h k σ t = if t = k then σ else h t := by simp only [hupd]

def ksOf : List (Nat × Nat) → Nat → List Nat
  | [], _ => []
  | (a, k) :: ps, i => if a = i then k :: ksOf ps i else ksOf ps i
theorem ksOf_nil (i : Nat) : ksOf [] i = [] := by simp [ksOf]
theorem ksOf_cons (a k : Nat) (ps : List (Nat × Nat)) (i : Nat) : ksOf ((a, k) :: ps) i = if a = i then k :: ksOf ps i else ksOf ps i := by simp [ksOf]
theorem mem_ksOf {ps : List (Nat × Nat)} {i k : Nat} : (i, k) ∈ ps → k ∈ ksOf ps i := by
  induction ps with
  | nil => intro h; cases h
  | cons p ps ih =>
    obtain ⟨a, k'⟩ := p
    intro h
    rw [ksOf_cons]
    rcases List.mem_cons.1 h with h | h
    · injection h with h1 h2; subst h1; subst h2; rw [if_pos rfl]; exact List.mem_cons_self
    · split
      · exact List.mem_cons_of_mem _ (ih h)
      · exact ih h

def guardS (g : Option Bool) (P : Prop) : Prop := match g with
  | some true => P
  | _ => True
theorem guardS_true (P : Prop) : guardS (some true) P = P := propext Iff.rfl
theorem guardS_false (P : Prop) : guardS (some false) P = True := propext Iff.rfl

section
variable {cfg : Cfg} {d : Nat}

def sameP (cfg : Cfg) (d : Nat) (o : AOper) (fr : List AVal) (σ τ : Store) : Prop := guardS (wantedA fr o.guard) (match o.op with
  | .load n agg a => loadV τ n agg (ev cfg fr a) = loadV σ n agg (ev cfg fr a)
  | op => ∃ v σ1 σ2, opStep cfg noCall d fr σ op = some (v, σ1) ∧ opStep cfg noCall d fr τ op = some (v, σ2))
theorem sameP_load (dst : Option Nat) (n : Nat) (agg : Bool) (a : Opnd) (g : Option (Nat × Bool)) (fr : List AVal) (σ τ : Store) :
    sameP cfg d ⟨dst, .load n agg a, g⟩ fr σ τ = guardS (wantedA fr g) (loadV τ n agg (ev cfg fr a) = loadV σ n agg (ev cfg fr a)) := propext Iff.rfl
theorem wantedA_none (fr : List AVal) : wantedA fr none = some true := by simp [wantedA]

def sameAll (cfg : Cfg) (d : Nat) (o : AOper) (fr : List AVal) (σ : Store) (H : Nat → Store) : List Nat → Prop
  | [] => True
  | k :: ks => sameP cfg d o fr σ (H k) ∧ sameAll cfg d o fr σ H ks
theorem sameAll_nil (o : AOper) (fr : List AVal) (σ : Store) (H : Nat → Store) : sameAll cfg d o fr σ H [] = True := propext Iff.rfl
theorem sameAll_cons (o : AOper) (fr : List AVal) (σ : Store) (H : Nat → Store) (k : Nat) (ks : List Nat) : sameAll cfg d o fr σ H (k :: ks) = (sameP cfg d o fr σ (H k) ∧ sameAll cfg d o fr σ H ks) := propext Iff.rfl
theorem sameAll_mem {o : AOper} {fr : List AVal} {σ : Store} {H : Nat → Store} {ks : List Nat} (h : sameAll cfg d o fr σ H ks) {k : Nat} (hk : k ∈ ks) : sameP cfg d o fr σ (H k) := by
  induction ks with
  | nil => cases hk
  | cons a ks ih =>
    rw [sameAll_cons] at h
    rcases List.mem_cons.1 hk with e | e
    · subst e; exact h.1
    · exact ih h.2 e

def wpE (cfg : Cfg) (d : Nat) (pairs : List (Nat × Nat)) : Nat → List AOper → (Nat → Store) → List AVal → Store → PostF → Prop
  | _, [], _, fr, σ, Q => Q fr σ
  | i, o :: os, H, fr, σ, Q => heldP (sameAll cfg d o fr σ H (ksOf pairs i)) fr σ (fun fr σ => wpOs cfg d [o] fr σ (fun fr' σ' => wpE cfg d pairs (i + 1) os (hupd H i σ) fr' σ' Q)) .mk
theorem wpE_nil (pairs : List (Nat × Nat)) (i : Nat) (H : Nat → Store) (fr : List AVal) (σ : Store) (Q : PostF) : wpE cfg d pairs i [] H fr σ Q = Q fr σ := propext Iff.rfl
theorem wpE_cons (pairs : List (Nat × Nat)) (i : Nat) (o : AOper) (os : List AOper) (H : Nat → Store) (fr : List AVal) (σ : Store) (Q : PostF) :
    wpE cfg d pairs i (o :: os) H fr σ Q = heldP (sameAll cfg d o fr σ H (ksOf pairs i)) fr σ (fun fr σ => wpOs cfg d [o] fr σ (fun fr' σ' => wpE cfg d pairs (i + 1) os (hupd H i σ) fr' σ' Q)) .mk := propext Iff.rfl

theorem same_steady {ops : List AOper} {i k : Nat} {T : List FS} {fr : List AVal} {σ : Store} {τ : FS} {o : AOper} {n : Nat} {s' : FS} (h1 : ops[i]? = some o) (h2 : T[i]? = some (fr, σ)) (hk : k < i) (h3 : T[k]? = some τ)
    (hs : sameP cfg d o fr σ τ.2) (hr : stepO cfg (run cfg n) d o (fr, σ) = some s') : steady cfg noCall d ops T (i, k) = true := by
  unfold steady
  rw [h1, h2, if_pos hk, h3]
  dsimp only
  cases hw : wantedA fr o.guard with
  | none => rfl
  | some b =>
    cases b with
    | false => rfl
    | true =>
      dsimp only
      unfold sameP at hs
      rw [hw, guardS_true] at hs
      simp only [stepO, hw] at hr
      obtain ⟨dst, op, g⟩ := o
      cases op with
      | load m agg a =>
        dsimp only at hs hr ⊢
        simp only [opStep] at hr ⊢
        rw [hs]
        cases hl : loadV σ m agg (ev cfg fr a) with
        | none => rw [hl] at hr; simp at hr
        | some v => simp [AVal.beq_self]
      | _ =>
        obtain ⟨v, σ1, σ2, e1, e2⟩ := hs
        dsimp only at e1 e2 ⊢
        rw [e1, e2]
        exact AVal.beq_self v

theorem wpE_sound {ops : List AOper} {pairs : List (Nat × Nat)} {Q : PostF} : ∀ (os : List AOper) (i : Nat) (H : Nat → Store) (hist : List FS) (fr : List AVal) (σ : Store), hist.length = i → (∀ k, k < i → ∃ τ, hist[k]? = some τ ∧ τ.2 = H k) →
    ops.drop i = os → wpE cfg d pairs i os H fr σ Q →
    ∃ n s', stepOs cfg (run cfg n) d os (fr, σ) = some s' ∧ Q s'.1 s'.2 ∧ ∀ p ∈ pairs, i ≤ p.1 → p.1 < ops.length → p.2 < p.1 → steady cfg noCall d ops (hist ++ traceOs cfg (run cfg n) d os (fr, σ)) p = true
  | [], i, H, hist, fr, σ, hl, hh, ho, h => ⟨0, (fr, σ), rfl, h, fun p hp h1 h2 h3 => by
      have := congrArg List.length ho
      simp only [List.length_drop, List.length_nil] at this
      omega⟩
  | o :: os, i, H, hist, fr, σ, hl, hh, ho, h => by
    rw [wpE_cons] at h
    obtain ⟨hc, h⟩ := h
    obtain ⟨n1, s1, e1, h2⟩ := wpOs_sound h
    have hi : i < ops.length := by
      have := congrArg List.length ho
      simp only [List.length_drop, List.length_cons] at this
      omega
    have hoi : ops[i]? = some o := by
      have := congrArg (fun l => l[0]?) ho
      simpa using this
    have hos : ops.drop (i + 1) = os := by
      have := congrArg List.tail ho
      simpa using this
    obtain ⟨n2, s2, e2, hq, hst⟩ := wpE_sound os (i + 1) (hupd H i σ) (hist ++ [(fr, σ)]) s1.1 s1.2 (by simp [hl]) (fun k hk => by
      by_cases e : k = i
      · subst e
        exact ⟨(fr, σ), by rw [← hl]; simp, by simp [hupd]⟩
      · obtain ⟨τ, t1, t2⟩ := hh k (by omega)
        exact ⟨τ, by rw [List.getElem?_append_left (by omega)]; exact t1, by simp [hupd, e, t2]⟩) hos h2
    have e1' : stepO cfg (run cfg n1) d o (fr, σ) = some s1 := by
      simp only [stepOs] at e1
      split at e1
      · rename_i s hs; rw [hs]; exact e1
      · cases e1
    have f1 := stepO_mono (run_le cfg (Nat.le_max_left n1 n2)) e1'
    obtain ⟨f2, f3⟩ := stepOs_mono (run_le cfg (Nat.le_max_right n1 n2)) e2
    have et : traceOs cfg (run cfg (max n1 n2)) d (o :: os) (fr, σ) = (fr, σ) :: traceOs cfg (run cfg n2) d os (s1.1, s1.2) := by
      simp only [traceOs]
      rw [f1]
      dsimp only
      have e3 : traceOs cfg (run cfg (max n1 n2)) d os s1 = traceOs cfg (run cfg n2) d os (s1.1, s1.2) := f3
      rw [e3]
    refine ⟨max n1 n2, s2, ?_, hq, fun p hp hp1 hp2 hp3 => ?_⟩
    · simp only [stepOs]; rw [f1]; exact f2
    · rw [et]
      by_cases e : p.1 = i
      · obtain ⟨a, k⟩ := p
        dsimp only at e hp3
        subst e
        obtain ⟨τ, t1, t2⟩ := hh k hp3
        refine same_steady hoi (by rw [← hl]; simp) hp3 (by rw [List.getElem?_append_left (by omega)]; exact t1) ?_ e1'
        rw [t2]
        exact sameAll_mem hc (mem_ksOf hp)
      · have := hst p hp (by omega) hp2 hp3
        rw [List.append_assoc] at this
        exact this

/-- a drawn region, one operation behind the other -/
theorem drawnP_of {ops : List AOper} {pairs : List (Nat × Nat)} {fr : List AVal} {σ : Store} {Q : PostF} {w : Wit Q} (hp : pairs.all (fun p => decide (p.1 < ops.length) && decide (p.2 < p.1)) = true) (h : wpE cfg d pairs 0 ops (fun _ => []) fr σ Q) : drawnP cfg d ops pairs fr σ Q w := by
  obtain ⟨n, s', h1, h2, h3⟩ := wpE_sound (ops := ops) ops 0 (fun _ => []) [] fr σ rfl (fun k hk => by omega) rfl h
  unfold drawnP
  refine ⟨n, s', h1, ?_, h2⟩
  rw [List.all_eq_true]
  intro p hp'
  have := List.all_eq_true.1 hp p hp'
  simp only [Bool.and_eq_true, decide_eq_true_eq] at this
  exact steady_mono (noCall_le _) (by simpa using h3 p hp' (Nat.zero_le _) this.1 this.2)
end
attribute [irreducible] wpE heldP sameAll guardS hupd ksOf sameP
end Go.Proofs.Ytmocplkpnickgaa.Am
