/-
  THE ABSTRACT MACHINE, part 20: what an operation does is what the model's does.
-/
import Derived.Test.YtmocplkpnickgaaAmOp
namespace Go.Proofs.Ytmocplkpnickgaa.Am
open Go
set_option linter.unusedVariables false
set_option linter.unusedSimpArgs false

section
variable {cfg : Cfg} {P : Program} {E : Env} {κ : K} {fr : List AVal} {a : Act} {callF : CallF} {d : Nat}

theorem chkXO_ok (hf : Fr cfg E κ fr a) {x : Option Opnd} {y : Option Operand} (h : chkXO cfg x y = true) : OV κ E cfg.conc (oev cfg fr x) (y.map a.eval) := by
  cases x <;> cases y <;> simp only [chkXO] at h <;> first
    | trivial
    | (simp at h; done)
    | exact chkX_ok hf h

theorem chkParts_ok (hf : Fr cfg E κ fr a) {pl : List (Nat × Nat)} : ∀ {r : List (Nat × Nat × Opnd)} {q : List (Nat × Operand)}, chkParts cfg pl r q = true →
    Parts κ E cfg.conc (fun i => pl.toArray[i]?) (r.map fun p => (p.1, p.2.1, ev cfg fr p.2.2)) (q.map fun p => (p.1, a.eval p.2))
  | [], [], _ => .nil
  | (off, n, x) :: r, (i, y) :: q, h => by
    simp only [chkParts, Bool.and_eq_true, beq_iff_eq] at h
    exact .cons _ _ _ _ _ _ _ (by simpa using h.1.1) (chkX_ok hf h.1.2) (chkParts_ok hf h.2)
  | [], _ :: _, h => by simp [chkParts] at h
  | _ :: _, [], h => by simp [chkParts] at h

theorem chkPartsA_ok (hf : Fr cfg E κ fr a) {sz : Nat} : ∀ {r : List (Nat × Nat × Opnd)} {q : List (Nat × Operand)}, chkPartsA cfg sz r q = true →
    Parts κ E cfg.conc (fun i => some (i * sz, sz)) (r.map fun p => (p.1, p.2.1, ev cfg fr p.2.2)) (q.map fun p => (p.1, a.eval p.2))
  | [], [], _ => .nil
  | (off, n, x) :: r, (i, y) :: q, h => by
    simp only [chkPartsA, Bool.and_eq_true, beq_iff_eq] at h
    exact .cons _ _ _ _ _ _ _ (by rw [h.1.1.1, h.1.1.2]) (chkX_ok hf h.1.2) (chkPartsA_ok hf h.2)
  | [], _ :: _, h => by simp [chkPartsA] at h
  | _ :: _, [], h => by simp [chkPartsA] at h

theorem chkPartsE_ok (hf : Fr cfg E κ fr a) : ∀ {r : List (Nat × Opnd)} {q : List (Nat × Operand)}, chkPartsE cfg r q = true →
    PartsE κ E cfg.conc (r.map fun p => (p.1, ev cfg fr p.2)) (q.map fun p => (p.1, a.eval p.2))
  | [], [], _ => .nil
  | (i, x) :: r, (j, y) :: q, h => by
    simp only [chkPartsE, Bool.and_eq_true, beq_iff_eq] at h
    obtain ⟨⟨rfl, h2⟩, h3⟩ := h
    exact .cons _ _ _ _ _ (chkX_ok hf h2) (chkPartsE_ok hf h3)
  | [], _ :: _, h => by simp [chkPartsE] at h
  | _ :: _, [], h => by simp [chkPartsE] at h

theorem withσ_some {σ σ' : Store} {x : Option AVal} {v : AVal} (h : withσ σ x = some (v, σ')) : x = some v ∧ σ' = σ := by
  cases x <;> simp at h; exact ⟨by rw [h.1], h.2.symm⟩
theorem unitσ_some {σ' : Store} {x : Option Store} {v : AVal} (h : unitσ x = some (v, σ')) : x = some σ' ∧ v = .tuple [] := by
  cases x <;> simp at h; exact ⟨by rw [h.2], h.1.symm⟩

def isCall : AOp → Bool
  | .call .. | .callv .. => true
  | _ => false

theorem builtin_next {t : Builtin} {ty : TypeId} {s : Sem Value} {c : Call} {ρ : Operand → Value} {v : AVal} {σ' : Store} (hc : c.callee = .builtin t) (hs : ∀ consts, builtin t c.argTypes ty consts (c.args.map ρ) = (do let x ← s; pure (.value x)))
    (h : GV P E cfg.conc κ s v σ') : GN P E cfg.conc κ (do let d ← resolve ρ c ty; invoke d.target d.args) v σ' := by
  have : ∀ w, (do let d ← resolve ρ c ty; invoke d.target d.args : Sem Next).run P w = (do let x ← s; pure (.value x) : Sem Next).run P w := by
    intro w
    simp only [resolve, hc, Sem.run_bind, Sem.run_pure, Result.andThen, invoke, hs]
  intro w hw
  rw [this]
  exact h.next w hw

theorem os_move (hf : Fr cfg E κ fr a) (hR : κ.R E cfg.conc) {x : Opnd} {dst : Option Tmp} {oop : Op} {ty : TypeId} {pos : String} {after : Array Edge} {guard : Option (Nat × Bool)} (hchk : chkOp cfg P (.move x) oop = true) {v : AVal} {σ' : Store} (h : opStep cfg callF d fr κ.σ (.move x) = some (v, σ')) :
    GN P E cfg.conc κ (execOp a.eval ⟨dst, oop, ty, pos, after, guard⟩) v σ' := by
  simp only [chkOp] at hchk
  simp only [opStep] at h
  injection h with h; injection h with e1 e2; subst e1; subst e2
  split at hchk
  · exact GN.pure hR (fun w _ => by simp [execOp]) (chkX_ok hf hchk)
  · exact GN.pure hR (fun w _ => by simp [execOp]) (chkX_ok hf hchk)
  · simp at hchk

theorem os_pick (hf : Fr cfg E κ fr a) (hR : κ.R E cfg.conc) {c x y : Opnd} {dst : Option Tmp} {oop : Op} {ty : TypeId} {pos : String} {after : Array Edge} {guard : Option (Nat × Bool)} (hchk : chkOp cfg P (.pick c x y) oop = true) {v : AVal} {σ' : Store} (h : opStep cfg callF d fr κ.σ (.pick c x y) = some (v, σ')) :
    GN P E cfg.conc κ (execOp a.eval ⟨dst, oop, ty, pos, after, guard⟩) v σ' := by
  simp only [chkOp] at hchk
  split at hchk
  · rename_i c' x' y'
    simp only [Bool.and_eq_true, beq_iff_eq, decide_eq_true_eq] at hchk
    obtain ⟨⟨h1, h2⟩, h3⟩ := hchk
    simp only [opStep] at h
    have hc := chkX_ok hf h1
    split at h
    · rename_i t ht
      rw [ht] at hc
      have hcb := V_bool hc
      injection h with h; injection h with e1 e2; subst e1; subst e2
      cases t
      · exact GN.pure hR (fun w _ => by simp [execOp, hcb, asBool, Result.andThen]) (chkX_ok hf h3)
      · exact GN.pure hR (fun w _ => by simp [execOp, hcb, asBool, Result.andThen]) (chkX_ok hf h2)
    · simp at h
  · simp at hchk

theorem os_alloc (hf : Fr cfg E κ fr a) (hR : κ.R E cfg.conc) {z : List AVal} {dst : Option Tmp} {oop : Op} {ty : TypeId} {pos : String} {after : Array Edge} {guard : Option (Nat × Bool)} (hchk : chkOp cfg P (.alloc z) oop = true) {v : AVal} {σ' : Store} (h : opStep cfg callF d fr κ.σ (.alloc z) = some (v, σ')) :
    GN P E cfg.conc κ (execOp a.eval ⟨dst, oop, ty, pos, after, guard⟩) v σ' := by
  simp only [chkOp] at hchk
  split at hchk
  · rename_i t
    simp only [Bool.and_eq_true, beq_iff_eq, decide_eq_true_eq] at hchk
    obtain ⟨h1, h2⟩ := hchk
    simp only [opStep] at h
    injection h with h; injection h with e1 e2; subst e1; subst e2
    cases hz : zeroT P t with
    | none => simp [hz] at h1
    | some zc =>
      simp only [hz] at h1
      exact GV.next (alloc_run hz h1 h2 hR)
  · simp at hchk

theorem os_box (hf : Fr cfg E κ fr a) (hR : κ.R E cfg.conc) {x : Opnd} {dst : Option Tmp} {oop : Op} {ty : TypeId} {pos : String} {after : Array Edge} {guard : Option (Nat × Bool)} (hchk : chkOp cfg P (.box x) oop = true) {v : AVal} {σ' : Store} (h : opStep cfg callF d fr κ.σ (.box x) = some (v, σ')) :
    GN P E cfg.conc κ (execOp a.eval ⟨dst, oop, ty, pos, after, guard⟩) v σ' := by
  simp only [chkOp] at hchk
  split at hchk
  · rename_i t y
    simp only [opStep] at h
    split at h
    · rename_i hone
      injection h with h; injection h with e1 e2; subst e1; subst e2
      exact GV.next (box_run (t := t) (chkX_ok hf hchk) hone hR)
    · simp at h
  · simp at hchk

theorem os_build (hf : Fr cfg E κ fr a) (hR : κ.R E cfg.conc) {z : List AVal} {parts : List (Nat × Nat × Opnd)} {dst : Option Tmp} {oop : Op} {ty : TypeId} {pos : String} {after : Array Edge} {guard : Option (Nat × Bool)} (hchk : chkOp cfg P (.build z parts) oop = true) {v : AVal} {σ' : Store} (h : opStep cfg callF d fr κ.σ (.build z parts) = some (v, σ')) :
    GN P E cfg.conc κ (execOp a.eval ⟨dst, oop, ty, pos, after, guard⟩) v σ' := by
  simp only [chkOp] at hchk
  split at hchk
  · rename_i t ps
    simp only [Bool.and_eq_true, beq_iff_eq, decide_eq_true_eq] at hchk
    obtain ⟨⟨h1, h2⟩, h3⟩ := hchk
    simp only [opStep] at h
    cases hz : zeroT P t with
    | none => simp [hz] at h1
    | some zc =>
      simp only [hz] at h1
      rw [Bool.or_eq_true] at h3
      rcases h3 with h3 | h3
      case inr =>
        split at h3
        · rename_i m e he
          split at h3
          · rename_i sz hsz
            split at h
            · rename_i cs hfill
              injection h with h; injection h with e1 e2; subst e1; subst e2
              have hpp := chkPartsA_ok hf h3
              refine GV.next (buildArr_run (arrayE_eq he) hsz hz h1 h2 (q := ps.map fun (i, x) => (i, a.eval x)) ?_ hfill hR)
              simpa using hpp
            · simp at h
          · simp at h3
        · simp at h3
      cases hs : structFs P t with
      | none => simp [hs] at h3
      | some fs =>
        simp only [hs] at h3
        cases hp : placesT P fs with
        | none => simp [hp] at h3
        | some pl =>
          simp only [hp] at h3
          split at h
          · rename_i cs hfill
            injection h with h; injection h with e1 e2; subst e1; subst e2
            have hpp := chkParts_ok hf h3
            refine GV.next (build_run (structFs_eq hs) hz h1 h2 (places_run (P := P) (fs := fs.toArray) (by simpa using hp)) (q := ps.map fun (i, x) => (i, a.eval x)) ?_ hfill hR)
            simpa using hpp
          · simp at h
  · simp at hchk

theorem os_lit (hf : Fr cfg E κ fr a) (hR : κ.R E cfg.conc) {sz : Nat} {z : List AVal} {agg : Bool} {n : Nat} {parts : List (Nat × Opnd)} {dst : Option Tmp} {oop : Op} {ty : TypeId} {pos : String} {after : Array Edge} {guard : Option (Nat × Bool)} (hchk : chkOp cfg P (.lit sz z agg n parts) oop = true) {v : AVal} {σ' : Store} (h : opStep cfg callF d fr κ.σ (.lit sz z agg n parts) = some (v, σ')) :
    GN P E cfg.conc κ (execOp a.eval ⟨dst, oop, ty, pos, after, guard⟩) v σ' := by
  simp only [chkOp] at hchk
  split at hchk
  · rename_i t len ps
    simp only [Bool.and_eq_true, beq_iff_eq, decide_eq_true_eq] at hchk
    obtain ⟨⟨⟨h1, h2⟩, h3⟩, h4⟩ := hchk
    simp only [opStep] at h
    subst h2
    cases hs : sliceE P t with
    | none => simp [hs] at h1
    | some e =>
      simp only [hs, Bool.and_eq_true] at h1
      obtain ⟨zc, z1, z2, z3, z4, z5, z6, z7⟩ := chkZ_ok h1.1
      split at h
      · rename_i es hfill
        injection h with h; injection h with e1 e2; subst e1; subst e2
        have hpp := chkPartsE_ok hf h4
        have hq : PartsE κ E cfg.conc (parts.map fun p => (p.1, ev cfg fr p.2)) (ps.map fun (i, x) => (i, a.eval x)).toList := by simpa using hpp
        exact GV.next (lit_run (sliceE_eq hs) z6 z7 z1 z2 z3 z4 z5 h1.2 h3 hq hfill hR)
      · simp at h
  · simp at hchk

theorem os_litA (hf : Fr cfg E κ fr a) (hR : κ.R E cfg.conc) {sz : Nat} {z : List AVal} {agg : Bool} {n : Nat} {parts : List (Nat × Opnd)} {dst : Option Tmp} {oop : Op} {ty : TypeId} {pos : String} {after : Array Edge} {guard : Option (Nat × Bool)} (hchk : chkOp cfg P (.litA sz z agg n parts) oop = true) {v : AVal} {σ' : Store} (h : opStep cfg callF d fr κ.σ (.litA sz z agg n parts) = some (v, σ')) :
    GN P E cfg.conc κ (execOp a.eval ⟨dst, oop, ty, pos, after, guard⟩) v σ' := by
  simp only [chkOp] at hchk
  split at hchk
  · rename_i t len ps
    simp only [Bool.and_eq_true, beq_iff_eq, decide_eq_true_eq] at hchk
    obtain ⟨⟨⟨h1, h2⟩, h3⟩, h4⟩ := hchk
    simp only [opStep] at h
    subst h2
    cases hs : sliceE P t with
    | none => simp [hs] at h1
    | some e =>
      simp only [hs] at h1
      obtain ⟨zc, z1, z2, z3, z4, z5, z6, z7⟩ := chkZ_ok h1
      split at h
      · rename_i es hfill
        injection h with h; injection h with e1 e2; subst e1; subst e2
        have hpp := chkPartsE_ok hf h4
        have hq : PartsE κ E cfg.conc (parts.map fun p => (p.1, ev cfg fr p.2)) (ps.map fun (i, x) => (i, a.eval x)).toList := by simpa using hpp
        exact GV.next (litA_run (sliceE_eq hs) z6 z7 z1 z2 z3 z4 z5 h3 hq hfill hR)
      · simp at h
  · simp at hchk

theorem os_load (hf : Fr cfg E κ fr a) (hR : κ.R E cfg.conc) {n : Nat} {agg : Bool} {x : Opnd} {dst : Option Tmp} {oop : Op} {ty : TypeId} {pos : String} {after : Array Edge} {guard : Option (Nat × Bool)} (hchk : chkOp cfg P (.load n agg x) oop = true) {v : AVal} {σ' : Store} (h : opStep cfg callF d fr κ.σ (.load n agg x) = some (v, σ')) :
    GN P E cfg.conc κ (execOp a.eval ⟨dst, oop, ty, pos, after, guard⟩) v σ' := by
  simp only [chkOp] at hchk
  split at hchk
  · rename_i t x'
    simp only [Bool.and_eq_true, beq_iff_eq, decide_eq_true_eq] at hchk
    obtain ⟨⟨h1, h2⟩, h3⟩ := hchk
    simp only [opStep] at h
    obtain ⟨h0, rfl⟩ := withσ_some h; clear h; have h := h0
    exact GV.next (load_run h1 h2 (chkX_ok hf h3) h hR)
  · simp at hchk

theorem os_store (hf : Fr cfg E κ fr a) (hR : κ.R E cfg.conc) {n : Nat} {x y : Opnd} {dst : Option Tmp} {oop : Op} {ty : TypeId} {pos : String} {after : Array Edge} {guard : Option (Nat × Bool)} (hchk : chkOp cfg P (.store n x y) oop = true) {v : AVal} {σ' : Store} (h : opStep cfg callF d fr κ.σ (.store n x y) = some (v, σ')) :
    GN P E cfg.conc κ (execOp a.eval ⟨dst, oop, ty, pos, after, guard⟩) v σ' := by
  simp only [chkOp] at hchk
  split at hchk
  · rename_i t x' y'
    simp only [Bool.and_eq_true, beq_iff_eq, decide_eq_true_eq] at hchk
    obtain ⟨⟨h1, h2⟩, h3⟩ := hchk
    simp only [opStep] at h
    obtain ⟨h0, rfl⟩ := unitσ_some h; clear h; have h := h0
    exact GU.next (store_run h1 (chkX_ok hf h2) (chkX_ok hf h3) h hR)
  · simp at hchk

theorem os_nilCheck (hf : Fr cfg E κ fr a) (hR : κ.R E cfg.conc) {x : Opnd} {dst : Option Tmp} {oop : Op} {ty : TypeId} {pos : String} {after : Array Edge} {guard : Option (Nat × Bool)} (hchk : chkOp cfg P (.nilCheck x) oop = true) {v : AVal} {σ' : Store} (h : opStep cfg callF d fr κ.σ (.nilCheck x) = some (v, σ')) :
    GN P E cfg.conc κ (execOp a.eval ⟨dst, oop, ty, pos, after, guard⟩) v σ' := by
  simp only [chkOp] at hchk
  split at hchk
  · rename_i y
    simp only [opStep] at h
    have hx := chkX_ok hf hchk
    split at h <;> first | (simp at h; done) | skip
    all_goals
      rename_i hev
      injection h with h; injection h with e1 e2; subst e1; subst e2
      rw [hev] at hx
      generalize hcy : a.eval y = cy at hx
      have hx0 := hx
      cases hx
      exact GN.pure hR (fun w _ => by simp only [execOp, hcy]; rfl) hx0
  · simp at hchk

theorem os_iop (hf : Fr cfg E κ fr a) (hR : κ.R E cfg.conc) {op : BinOp} {x y : Opnd} {dst : Option Tmp} {oop : Op} {ty : TypeId} {pos : String} {after : Array Edge} {guard : Option (Nat × Bool)} (hchk : chkOp cfg P (.iop op x y) oop = true) {v : AVal} {σ' : Store} (h : opStep cfg callF d fr κ.σ (.iop op x y) = some (v, σ')) :
    GN P E cfg.conc κ (execOp a.eval ⟨dst, oop, ty, pos, after, guard⟩) v σ' := by
  simp only [chkOp] at hchk
  split at hchk
  · rename_i op' t x' y' t2
    simp only [Bool.and_eq_true, beq_iff_eq, decide_eq_true_eq] at hchk
    obtain ⟨⟨rfl, h2⟩, h3⟩ := hchk
    simp only [opStep] at h
    obtain ⟨h0, rfl⟩ := withσ_some h; clear h; have h := h0
    exact GV.next (iop_run op t x' y' (chkX_ok hf h2) (chkX_ok hf h3) h hR)
  · simp at hchk

theorem os_sop (hf : Fr cfg E κ fr a) (hR : κ.R E cfg.conc) {op : BinOp} {x y : Opnd} {dst : Option Tmp} {oop : Op} {ty : TypeId} {pos : String} {after : Array Edge} {guard : Option (Nat × Bool)} (hchk : chkOp cfg P (.sop op x y) oop = true) {v : AVal} {σ' : Store} (h : opStep cfg callF d fr κ.σ (.sop op x y) = some (v, σ')) :
    GN P E cfg.conc κ (execOp a.eval ⟨dst, oop, ty, pos, after, guard⟩) v σ' := by
  simp only [chkOp] at hchk
  split at hchk
  · rename_i op' t x' y' t2
    simp only [Bool.and_eq_true, beq_iff_eq, decide_eq_true_eq] at hchk
    obtain ⟨⟨rfl, h2⟩, h3⟩ := hchk
    simp only [opStep] at h
    obtain ⟨h0, rfl⟩ := withσ_some h; clear h; have h := h0
    exact GV.next (sop_run op t x' y' (chkX_ok hf h2) (chkX_ok hf h3) h hR)
  · simp at hchk

theorem os_bop (hf : Fr cfg E κ fr a) (hR : κ.R E cfg.conc) {neg : Bool} {x y : Opnd} {dst : Option Tmp} {oop : Op} {ty : TypeId} {pos : String} {after : Array Edge} {guard : Option (Nat × Bool)} (hchk : chkOp cfg P (.bop neg x y) oop = true) {v : AVal} {σ' : Store} (h : opStep cfg callF d fr κ.σ (.bop neg x y) = some (v, σ')) :
    GN P E cfg.conc κ (execOp a.eval ⟨dst, oop, ty, pos, after, guard⟩) v σ' := by
  simp only [chkOp] at hchk
  split at hchk
  · rename_i op' t x' y' t2
    simp only [Bool.and_eq_true, beq_iff_eq, decide_eq_true_eq] at hchk
    obtain ⟨⟨⟨h1, h2⟩, h3⟩, h4⟩ := hchk
    simp only [opStep] at h
    have hx := chkX_ok hf h3
    have hy := chkX_ok hf h4
    have := eqOp_eq h1
    subst this
    split at h
    · rename_i b1 b2 e1 e2
      injection h with h; injection h with q1 q2; subst q1; subst q2
      rw [e1] at hx
      rw [e2] at hy
      exact GV.next (bop_run neg x' y' (isBoolT_eq h2) hx hy hR)
    · simp at h
  · simp at hchk

theorem os_eqs (hf : Fr cfg E κ fr a) (hR : κ.R E cfg.conc) {neg : Bool} {ks : List EK} {x y : Opnd} {dst : Option Tmp} {oop : Op} {ty : TypeId} {pos : String} {after : Array Edge} {guard : Option (Nat × Bool)} (hchk : chkOp cfg P (.eqs neg ks x y) oop = true) {v : AVal} {σ' : Store} (h : opStep cfg callF d fr κ.σ (.eqs neg ks x y) = some (v, σ')) :
    GN P E cfg.conc κ (execOp a.eval ⟨dst, oop, ty, pos, after, guard⟩) v σ' := by
  simp only [chkOp] at hchk
  split at hchk
  · rename_i op' t x' y' t2
    simp only [Bool.and_eq_true, beq_iff_eq, decide_eq_true_eq] at hchk
    obtain ⟨⟨⟨⟨⟨h1, h2⟩, h3⟩, h4⟩, h5⟩, h6⟩ := hchk
    simp only [opStep] at h
    have := eqOp_eq h1
    subst this
    split at h
    · rename_i b hb
      injection h with h; injection h with e1 e2; subst e1; subst e2
      exact GV.next (eqs_run neg x' y' (by decide) h2 h3 (by simpa using h4) (chkX_ok hf h5) (chkX_ok hf h6) hb hR)
    · simp at h
  · simp at hchk

theorem os_eqnil (hf : Fr cfg E κ fr a) (hR : κ.R E cfg.conc) {neg : Bool} {k : NK} {x : Opnd} {dst : Option Tmp} {oop : Op} {ty : TypeId} {pos : String} {after : Array Edge} {guard : Option (Nat × Bool)} (hchk : chkOp cfg P (.eqnil neg k x) oop = true) {v : AVal} {σ' : Store} (h : opStep cfg callF d fr κ.σ (.eqnil neg k x) = some (v, σ')) :
    GN P E cfg.conc κ (execOp a.eval ⟨dst, oop, ty, pos, after, guard⟩) v σ' := by
  simp only [chkOp] at hchk
  split at hchk
  · rename_i op' t x' y' t2
    simp only [Bool.and_eq_true, beq_iff_eq, decide_eq_true_eq] at hchk
    obtain ⟨h1, h2⟩ := hchk
    simp only [opStep] at h
    have := eqOp_eq h1
    subst this
    split at h
    · rename_i b hb
      injection h with h; injection h with e1 e2; subst e1; subst e2
      rcases Bool.or_eq_true _ _ ▸ h2 with h2 | h2
      · cases hc : constOf y' with
        | none => simp [hc] at h2
        | some nv =>
          simp only [hc, Bool.and_eq_true] at h2
          obtain ⟨y0, rfl⟩ : ∃ v, y' = .const v := by cases y' <;> simp [constOf] at hc; exact ⟨_, rfl⟩
          simp [constOf] at hc; subst hc
          exact GV.next (eqnil_run neg h2.1 rfl (chkX_ok hf h2.2) hb hR)
      · cases hc : constOf x' with
        | none => simp [hc] at h2
        | some nv =>
          simp only [hc, Bool.and_eq_true] at h2
          obtain ⟨y0, rfl⟩ : ∃ v, x' = .const v := by cases x' <;> simp [constOf] at hc; exact ⟨_, rfl⟩
          simp [constOf] at hc; subst hc
          exact GV.next (eqnil_run' neg h2.1 rfl (chkX_ok hf h2.2) hb hR)
    · simp at h
  · simp at hchk

theorem os_not (hf : Fr cfg E κ fr a) (hR : κ.R E cfg.conc) {x : Opnd} {dst : Option Tmp} {oop : Op} {ty : TypeId} {pos : String} {after : Array Edge} {guard : Option (Nat × Bool)} (hchk : chkOp cfg P (.not x) oop = true) {v : AVal} {σ' : Store} (h : opStep cfg callF d fr κ.σ (.not x) = some (v, σ')) :
    GN P E cfg.conc κ (execOp a.eval ⟨dst, oop, ty, pos, after, guard⟩) v σ' := by
  simp only [chkOp] at hchk
  split at hchk
  · rename_i t y
    simp only [opStep] at h
    have hx := chkX_ok hf hchk
    split at h
    · rename_i b hb
      injection h with h; injection h with e1 e2; subst e1; subst e2
      rw [hb] at hx
      exact GV.next (not_run (a := .bool b) hx hR)
    · simp at h
  · simp at hchk

theorem os_neg (hf : Fr cfg E κ fr a) (hR : κ.R E cfg.conc) {x : Opnd} {dst : Option Tmp} {oop : Op} {ty : TypeId} {pos : String} {after : Array Edge} {guard : Option (Nat × Bool)} (hchk : chkOp cfg P (.neg x) oop = true) {v : AVal} {σ' : Store} (h : opStep cfg callF d fr κ.σ (.neg x) = some (v, σ')) :
    GN P E cfg.conc κ (execOp a.eval ⟨dst, oop, ty, pos, after, guard⟩) v σ' := by
  simp only [chkOp] at hchk
  split at hchk
  · rename_i t y
    simp only [opStep] at h
    have hx := chkX_ok hf hchk
    split at h
    · rename_i k n hb
      injection h with h; injection h with e1 e2; subst e1; subst e2
      rw [hb] at hx
      exact GV.next (neg_run hx hR)
    · simp at h
  · simp at hchk

theorem os_convI (hf : Fr cfg E κ fr a) (hR : κ.R E cfg.conc) {k : IntKind} {x : Opnd} {dst : Option Tmp} {oop : Op} {ty : TypeId} {pos : String} {after : Array Edge} {guard : Option (Nat × Bool)} (hchk : chkOp cfg P (.convI k x) oop = true) {v : AVal} {σ' : Store} (h : opStep cfg callF d fr κ.σ (.convI k x) = some (v, σ')) :
    GN P E cfg.conc κ (execOp a.eval ⟨dst, oop, ty, pos, after, guard⟩) v σ' := by
  simp only [chkOp] at hchk
  split at hchk
  · rename_i src dst y
    simp only [Bool.and_eq_true, beq_iff_eq, decide_eq_true_eq] at hchk
    obtain ⟨⟨h1, h2⟩, h3⟩ := hchk
    simp only [opStep] at h
    have hx := chkX_ok hf h3
    obtain ⟨k0, hk0⟩ := Option.isSome_iff_exists.1 h1
    split at h
    · rename_i k1 n hb
      injection h with h; injection h with e1 e2; subst e1; subst e2
      rw [hb] at hx
      exact GV.next (convI_run (intT_eq hk0) (intT_eq h2) hx hR)
    · simp at h
  · simp at hchk

theorem os_sliceOp (hf : Fr cfg E κ fr a) (hR : κ.R E cfg.conc) {sz : Nat} {x : Opnd} {lo hi mx : Option Opnd} {dst : Option Tmp} {oop : Op} {ty : TypeId} {pos : String} {after : Array Edge} {guard : Option (Nat × Bool)} (hchk : chkOp cfg P (.sliceOp sz x lo hi mx) oop = true) {v : AVal} {σ' : Store} (h : opStep cfg callF d fr κ.σ (.sliceOp sz x lo hi mx) = some (v, σ')) :
    GN P E cfg.conc κ (execOp a.eval ⟨dst, oop, ty, pos, after, guard⟩) v σ' := by
  simp only [chkOp] at hchk
  split at hchk
  · rename_i t x' lo' hi' mx'
    simp only [Bool.and_eq_true, beq_iff_eq, decide_eq_true_eq] at hchk
    obtain ⟨⟨⟨⟨⟨h1, h2⟩, h3⟩, h4⟩, h5⟩, h6⟩ := hchk
    simp only [opStep] at h
    obtain ⟨h0, rfl⟩ := withσ_some h; clear h; have h := h0
    cases hs : sliceE P t with
    | none => simp [hs] at h1
    | some e =>
      simp only [hs, beq_iff_eq] at h1
      refine GV.next (sliceOp_run (sliceE_eq hs) h1 (chkXO_ok hf h3) (chkXO_ok hf h4) (chkXO_ok hf h5) (fun hm => ?_) (chkX_ok hf h2) h hR)
      cases mx <;> simp at hm
      cases hi <;> simp at h6 ⊢
  · simp at hchk

theorem os_substr (hf : Fr cfg E κ fr a) (hR : κ.R E cfg.conc) {x : Opnd} {lo hi : Option Opnd} {dst : Option Tmp} {oop : Op} {ty : TypeId} {pos : String} {after : Array Edge} {guard : Option (Nat × Bool)} (hchk : chkOp cfg P (.substr x lo hi) oop = true) {v : AVal} {σ' : Store} (h : opStep cfg callF d fr κ.σ (.substr x lo hi) = some (v, σ')) :
    GN P E cfg.conc κ (execOp a.eval ⟨dst, oop, ty, pos, after, guard⟩) v σ' := by
  simp only [chkOp] at hchk
  split at hchk
  · rename_i t x' lo' hi'
    simp only [Bool.and_eq_true, beq_iff_eq, decide_eq_true_eq] at hchk
    obtain ⟨⟨⟨h1, h2⟩, h3⟩, h4⟩ := hchk
    simp only [opStep] at h
    obtain ⟨h0, rfl⟩ := withσ_some h; clear h; have h := h0
    exact GV.next (substr_run (isStrT_eq h1) (chkXO_ok hf h3) (chkXO_ok hf h4) (chkX_ok hf h2) h hR)
  · simp at hchk

theorem os_faddr (hf : Fr cfg E κ fr a) (hR : κ.R E cfg.conc) {off : Nat} {x : Opnd} {dst : Option Tmp} {oop : Op} {ty : TypeId} {pos : String} {after : Array Edge} {guard : Option (Nat × Bool)} (hchk : chkOp cfg P (.faddr off x) oop = true) {v : AVal} {σ' : Store} (h : opStep cfg callF d fr κ.σ (.faddr off x) = some (v, σ')) :
    GN P E cfg.conc κ (execOp a.eval ⟨dst, oop, ty, pos, after, guard⟩) v σ' := by
  simp only [chkOp] at hchk
  split at hchk
  · rename_i t y i
    simp only [Bool.and_eq_true, beq_iff_eq, decide_eq_true_eq] at hchk
    obtain ⟨h1, h2⟩ := hchk
    simp only [opStep] at h
    obtain ⟨h0, rfl⟩ := withσ_some h; clear h; have h := h0
    cases hs : fieldT P t i with
    | none => simp [hs] at h1
    | some p =>
      obtain ⟨o, ft⟩ := p
      simp only [hs, Bool.and_eq_true, beq_iff_eq] at h1
      obtain ⟨rfl, h1⟩ := h1
      cases hz : sizeT P ft with
      | none => simp [hz] at h1
      | some n =>
        simp only [hz, bne_iff_ne] at h1
        obtain ⟨fs, f, g1, g2, g3, g4⟩ := fieldT_eq hs
        exact GV.next (faddr_run g1 g2 g3 g4 hz h1 (chkX_ok hf h2) h hR)
  · simp at hchk

theorem os_field (hf : Fr cfg E κ fr a) (hR : κ.R E cfg.conc) {off n : Nat} {agg : Bool} {x : Opnd} {dst : Option Tmp} {oop : Op} {ty : TypeId} {pos : String} {after : Array Edge} {guard : Option (Nat × Bool)} (hchk : chkOp cfg P (.field off n agg x) oop = true) {v : AVal} {σ' : Store} (h : opStep cfg callF d fr κ.σ (.field off n agg x) = some (v, σ')) :
    GN P E cfg.conc κ (execOp a.eval ⟨dst, oop, ty, pos, after, guard⟩) v σ' := by
  simp only [chkOp] at hchk
  split at hchk
  · rename_i t y i
    simp only [Bool.and_eq_true, beq_iff_eq, decide_eq_true_eq] at hchk
    obtain ⟨h1, h2⟩ := hchk
    simp only [opStep] at h
    have hx := chkX_ok hf h2
    cases hs : fieldT P t i with
    | none => simp [hs] at h1
    | some p =>
      obtain ⟨o, ft⟩ := p
      simp only [hs, Bool.and_eq_true, beq_iff_eq] at h1
      obtain ⟨⟨rfl, h1⟩, h3⟩ := h1
      obtain ⟨fs, f, g1, g2, g3, g4⟩ := fieldT_eq hs
      split at h
      · rename_i cs hcs
        rw [hcs] at hx
        obtain ⟨h0, rfl⟩ := withσ_some h; clear h; have h := h0
        exact GV.next (field_run g1 g2 g3 g4 h1 h3 hx h hR)
      · simp at h
  · simp at hchk

theorem os_iaddr (hf : Fr cfg E κ fr a) (hR : κ.R E cfg.conc) {sz : Nat} {x i : Opnd} {dst : Option Tmp} {oop : Op} {ty : TypeId} {pos : String} {after : Array Edge} {guard : Option (Nat × Bool)} (hchk : chkOp cfg P (.iaddr sz x i) oop = true) {v : AVal} {σ' : Store} (h : opStep cfg callF d fr κ.σ (.iaddr sz x i) = some (v, σ')) :
    GN P E cfg.conc κ (execOp a.eval ⟨dst, oop, ty, pos, after, guard⟩) v σ' := by
  simp only [chkOp] at hchk
  split at hchk
  · rename_i t x' i'
    simp only [Bool.and_eq_true, beq_iff_eq, decide_eq_true_eq] at hchk
    obtain ⟨⟨⟨h1, h2⟩, h3⟩, h4⟩ := hchk
    simp only [opStep] at h
    obtain ⟨h0, rfl⟩ := withσ_some h; clear h; have h := h0
    cases hs : sliceE P t with
    | none => simp [hs] at h1
    | some e =>
      simp only [hs, beq_iff_eq] at h1
      exact GV.next (iaddr_run (sliceE_eq hs) h1 h2 (chkX_ok hf h3) (chkX_ok hf h4) h hR)
  · simp at hchk

theorem os_aaddr (hf : Fr cfg E κ fr a) (hR : κ.R E cfg.conc) {len sz : Nat} {x i : Opnd} {dst : Option Tmp} {oop : Op} {ty : TypeId} {pos : String} {after : Array Edge} {guard : Option (Nat × Bool)} (hchk : chkOp cfg P (.aaddr len sz x i) oop = true) {v : AVal} {σ' : Store} (h : opStep cfg callF d fr κ.σ (.aaddr len sz x i) = some (v, σ')) :
    GN P E cfg.conc κ (execOp a.eval ⟨dst, oop, ty, pos, after, guard⟩) v σ' := by
  simp only [chkOp] at hchk
  split at hchk
  · rename_i t x' i'
    simp only [Bool.and_eq_true, beq_iff_eq, decide_eq_true_eq] at hchk
    obtain ⟨⟨h1, h3⟩, h4⟩ := hchk
    simp only [opStep] at h
    obtain ⟨h0, rfl⟩ := withσ_some h; clear h; have h := h0
    cases hs : arrayE P t with
    | none => simp [hs] at h1
    | some e =>
      obtain ⟨n, e⟩ := e
      simp only [hs, Bool.and_eq_true, beq_iff_eq] at h1
      obtain ⟨rfl, h1⟩ := h1
      exact GV.next (aaddr_run (arrayE_eq hs) h1 (chkX_ok hf h3) (chkX_ok hf h4) h hR)
  · simp at hchk

theorem os_strIdx (hf : Fr cfg E κ fr a) (hR : κ.R E cfg.conc) {x i : Opnd} {dst : Option Tmp} {oop : Op} {ty : TypeId} {pos : String} {after : Array Edge} {guard : Option (Nat × Bool)} (hchk : chkOp cfg P (.strIdx x i) oop = true) {v : AVal} {σ' : Store} (h : opStep cfg callF d fr κ.σ (.strIdx x i) = some (v, σ')) :
    GN P E cfg.conc κ (execOp a.eval ⟨dst, oop, ty, pos, after, guard⟩) v σ' := by
  simp only [chkOp] at hchk
  split at hchk
  · rename_i t x' i'
    simp only [Bool.and_eq_true, beq_iff_eq, decide_eq_true_eq] at hchk
    obtain ⟨⟨h1, h3⟩, h4⟩ := hchk
    simp only [opStep] at h
    obtain ⟨h0, rfl⟩ := withσ_some h; clear h; have h := h0
    exact GV.next (strIdx_run (isStrT_eq h1) (chkX_ok hf h3) (chkX_ok hf h4) h hR)
  · simp at hchk

theorem os_arrIdx (hf : Fr cfg E κ fr a) (hR : κ.R E cfg.conc) {len sz : Nat} {agg : Bool} {x i : Opnd} {dst : Option Tmp} {oop : Op} {ty : TypeId} {pos : String} {after : Array Edge} {guard : Option (Nat × Bool)} (hchk : chkOp cfg P (.arrIdx len sz agg x i) oop = true) {v : AVal} {σ' : Store} (h : opStep cfg callF d fr κ.σ (.arrIdx len sz agg x i) = some (v, σ')) :
    GN P E cfg.conc κ (execOp a.eval ⟨dst, oop, ty, pos, after, guard⟩) v σ' := by
  simp only [chkOp] at hchk
  split at hchk
  · rename_i t x' i'
    simp only [Bool.and_eq_true, beq_iff_eq, decide_eq_true_eq] at hchk
    obtain ⟨⟨h1, h3⟩, h4⟩ := hchk
    simp only [opStep] at h
    obtain ⟨h0, rfl⟩ := withσ_some h; clear h; have h := h0
    cases hs : arrayE P t with
    | none => simp [hs] at h1
    | some e =>
      obtain ⟨n, e⟩ := e
      simp only [hs, Bool.and_eq_true, beq_iff_eq] at h1
      obtain ⟨⟨rfl, h1⟩, h2⟩ := h1
      exact GV.next (arrIdx_run (arrayE_eq hs) h1 h2 (chkX_ok hf h3) (chkX_ok hf h4) h hR)
  · simp at hchk

theorem os_lenS (hf : Fr cfg E κ fr a) (hR : κ.R E cfg.conc) {x : Opnd} {dst : Option Tmp} {oop : Op} {ty : TypeId} {pos : String} {after : Array Edge} {guard : Option (Nat × Bool)} (hchk : chkOp cfg P (.lenS x) oop = true) {v : AVal} {σ' : Store} (h : opStep cfg callF d fr κ.σ (.lenS x) = some (v, σ')) :
    GN P E cfg.conc κ (execOp a.eval ⟨dst, oop, ty, pos, after, guard⟩) v σ' := by
  simp only [chkOp] at hchk
  split at hchk
  · rename_i y t hb
    simp only [Bool.and_eq_true, beq_iff_eq, decide_eq_true_eq] at hchk
    obtain ⟨h1, h2⟩ := hchk
    obtain ⟨c, rfl, hc, hca, hct⟩ := bi1_eq hb
    simp only [opStep] at h
    obtain ⟨e, he⟩ := Option.isSome_iff_exists.1 h1
    split at h
    · rename_i n hn
      injection h with h; injection h with e1 e2; subst e1; subst e2
      refine builtin_next hc (fun consts => by simp only [builtin, hct, hca]; rfl) ?_
      simpa using lenS_run (ty := ty) (sliceE_eq he) (chkX_ok hf h2) hn hR
    · simp at h
  · simp at hchk

theorem os_lenStr (hf : Fr cfg E κ fr a) (hR : κ.R E cfg.conc) {x : Opnd} {dst : Option Tmp} {oop : Op} {ty : TypeId} {pos : String} {after : Array Edge} {guard : Option (Nat × Bool)} (hchk : chkOp cfg P (.lenStr x) oop = true) {v : AVal} {σ' : Store} (h : opStep cfg callF d fr κ.σ (.lenStr x) = some (v, σ')) :
    GN P E cfg.conc κ (execOp a.eval ⟨dst, oop, ty, pos, after, guard⟩) v σ' := by
  simp only [chkOp] at hchk
  split at hchk
  · rename_i y t hb
    simp only [Bool.and_eq_true, beq_iff_eq, decide_eq_true_eq] at hchk
    obtain ⟨h1, h2⟩ := hchk
    obtain ⟨c, rfl, hc, hca, hct⟩ := bi1_eq hb
    simp only [opStep] at h
    have hx := chkX_ok hf h2
    split at h
    · rename_i s hn
      injection h with h; injection h with e1 e2; subst e1; subst e2
      rw [hn] at hx
      refine builtin_next hc (fun consts => by simp only [builtin, hct, hca]; rfl) ?_
      simpa using lenStr_run (ty := ty) (isStrT_eq h1) hx hR
    · simp at h
  · simp at hchk

theorem os_lenM (hf : Fr cfg E κ fr a) (hR : κ.R E cfg.conc) {x : Opnd} {dst : Option Tmp} {oop : Op} {ty : TypeId} {pos : String} {after : Array Edge} {guard : Option (Nat × Bool)} (hchk : chkOp cfg P (.lenM x) oop = true) {v : AVal} {σ' : Store} (h : opStep cfg callF d fr κ.σ (.lenM x) = some (v, σ')) :
    GN P E cfg.conc κ (execOp a.eval ⟨dst, oop, ty, pos, after, guard⟩) v σ' := by
  simp only [chkOp] at hchk
  split at hchk
  · rename_i y t hb
    simp only [Bool.and_eq_true, beq_iff_eq, decide_eq_true_eq] at hchk
    obtain ⟨h1, h2⟩ := hchk
    obtain ⟨c, rfl, hc, hca, hct⟩ := bi1_eq hb
    simp only [opStep] at h
    obtain ⟨e, he⟩ := Option.isSome_iff_exists.1 h1
    split at h
    · rename_i n hn
      injection h with h; injection h with e1 e2; subst e1; subst e2
      refine builtin_next hc (fun consts => by simp only [builtin, hct, hca]; rfl) ?_
      simpa using lenM_run (ty := ty) (mapE_eq he) (chkX_ok hf h2) hn hR
    · simp at h
  · simp at hchk

theorem os_lenA (hf : Fr cfg E κ fr a) (hR : κ.R E cfg.conc) {n : Nat} {dst : Option Tmp} {oop : Op} {ty : TypeId} {pos : String} {after : Array Edge} {guard : Option (Nat × Bool)} (hchk : chkOp cfg P (.lenA n) oop = true) {v : AVal} {σ' : Store} (h : opStep cfg callF d fr κ.σ (.lenA n) = some (v, σ')) :
    GN P E cfg.conc κ (execOp a.eval ⟨dst, oop, ty, pos, after, guard⟩) v σ' := by
  simp only [chkOp] at hchk
  split at hchk
  · rename_i y t hb
    cases hs : arrayE P t with
    | none => simp [hs] at hchk
    | some e =>
      obtain ⟨m, e⟩ := e
      simp only [hs, beq_iff_eq] at hchk
      subst hchk
      obtain ⟨c, rfl, hc, hca, hct⟩ := bi1_eq hb
      simp only [opStep] at h
      injection h with h; injection h with e1 e2; subst e1; subst e2
      refine builtin_next hc (fun consts => by simp only [builtin, hct, hca]; rfl) ?_
      simpa using lenA_run (ty := ty) (ca := a.eval y) (.inl (arrayE_eq hs)) hR
  · simp at hchk

theorem os_capS (hf : Fr cfg E κ fr a) (hR : κ.R E cfg.conc) {x : Opnd} {dst : Option Tmp} {oop : Op} {ty : TypeId} {pos : String} {after : Array Edge} {guard : Option (Nat × Bool)} (hchk : chkOp cfg P (.capS x) oop = true) {v : AVal} {σ' : Store} (h : opStep cfg callF d fr κ.σ (.capS x) = some (v, σ')) :
    GN P E cfg.conc κ (execOp a.eval ⟨dst, oop, ty, pos, after, guard⟩) v σ' := by
  simp only [chkOp] at hchk
  split at hchk
  · rename_i y t hb
    simp only [Bool.and_eq_true, beq_iff_eq, decide_eq_true_eq] at hchk
    obtain ⟨h1, h2⟩ := hchk
    obtain ⟨c, rfl, hc, hca, hct⟩ := bi1_eq hb
    simp only [opStep] at h
    obtain ⟨e, he⟩ := Option.isSome_iff_exists.1 h1
    split at h
    · rename_i n hn
      injection h with h; injection h with e1 e2; subst e1; subst e2
      refine builtin_next hc (fun consts => by simp only [builtin, hct, hca]; rfl) ?_
      simpa using capS_run (ty := ty) (sliceE_eq he) (chkX_ok hf h2) hn hR
    · simp at h
  · simp at hchk

theorem os_minI (hf : Fr cfg E κ fr a) (hR : κ.R E cfg.conc) {xs : List Opnd} {dst : Option Tmp} {oop : Op} {ty : TypeId} {pos : String} {after : Array Edge} {guard : Option (Nat × Bool)} (hchk : chkOp cfg P (.minI xs) oop = true) {v : AVal} {σ' : Store} (h : opStep cfg callF d fr κ.σ (.minI xs) = some (v, σ')) :
    GN P E cfg.conc κ (execOp a.eval ⟨dst, oop, ty, pos, after, guard⟩) v σ' := by
  simp only [chkOp] at hchk
  split at hchk
  · rename_i ys ts hb
    obtain ⟨c, rfl, hc, hca, hct⟩ := biN_eq hb
    simp only [opStep] at h
    split at h
    · rename_i x r
      obtain ⟨h0, rfl⟩ := withσ_some h; clear h; have h := h0
      cases ys with
      | nil => simp [chkXs] at hchk
      | cons y ys =>
        simp only [chkXs, Bool.and_eq_true] at hchk
        obtain ⟨cv, hrun, hcv⟩ := fold_min (P := P) (chkX_ok hf hchk.1) (chkXs_ok hf hchk.2) h
        refine builtin_next hc (fun consts => by simp only [builtin, hca]) (s := Builtin.min_ c.argTypes ty (((y :: ys).toArray).map a.eval)) ?_
        exact GV.pure hR (cv := cv) (fun w _ => by simp only [Builtin.min_, List.map_toArray, List.map_cons]; exact hrun w) hcv
    · simp at h
  · simp at hchk

theorem os_maxI (hf : Fr cfg E κ fr a) (hR : κ.R E cfg.conc) {xs : List Opnd} {dst : Option Tmp} {oop : Op} {ty : TypeId} {pos : String} {after : Array Edge} {guard : Option (Nat × Bool)} (hchk : chkOp cfg P (.maxI xs) oop = true) {v : AVal} {σ' : Store} (h : opStep cfg callF d fr κ.σ (.maxI xs) = some (v, σ')) :
    GN P E cfg.conc κ (execOp a.eval ⟨dst, oop, ty, pos, after, guard⟩) v σ' := by
  simp only [chkOp] at hchk
  split at hchk
  · rename_i ys ts hb
    obtain ⟨c, rfl, hc, hca, hct⟩ := biN_eq hb
    simp only [opStep] at h
    split at h
    · rename_i x r
      obtain ⟨h0, rfl⟩ := withσ_some h; clear h; have h := h0
      cases ys with
      | nil => simp [chkXs] at hchk
      | cons y ys =>
        simp only [chkXs, Bool.and_eq_true] at hchk
        obtain ⟨cv, hrun, hcv⟩ := fold_max (P := P) (chkX_ok hf hchk.1) (chkXs_ok hf hchk.2) h
        refine builtin_next hc (fun consts => by simp only [builtin, hca]) (s := Builtin.max_ c.argTypes ty (((y :: ys).toArray).map a.eval)) ?_
        exact GV.pure hR (cv := cv) (fun w _ => by simp only [Builtin.max_, List.map_toArray, List.map_cons]; exact hrun w) hcv
    · simp at h
  · simp at hchk

theorem os_append (hf : Fr cfg E κ fr a) (hR : κ.R E cfg.conc) {sz bytes : Nat} {x y : Opnd} {dst : Option Tmp} {oop : Op} {ty : TypeId} {pos : String} {after : Array Edge} {guard : Option (Nat × Bool)} (hchk : chkOp cfg P (.append sz bytes x y) oop = true) {v : AVal} {σ' : Store} (h : opStep cfg callF d fr κ.σ (.append sz bytes x y) = some (v, σ')) :
    GN P E cfg.conc κ (execOp a.eval ⟨dst, oop, ty, pos, after, guard⟩) v σ' := by
  simp only [chkOp] at hchk
  split at hchk
  · rename_i x' y' t t2 hb
    simp only [Bool.and_eq_true, beq_iff_eq, decide_eq_true_eq] at hchk
    obtain ⟨⟨⟨⟨⟨⟨h1, h2⟩, h3⟩, h4⟩, h5⟩, h6⟩, h7⟩ := hchk
    obtain ⟨c, rfl, hc, hca, hct⟩ := bi2_eq hb
    simp only [opStep] at h
    obtain ⟨e2, he2⟩ := Option.isSome_iff_exists.1 h2
    cases hs : sliceE P t with
    | none => simp [hs] at h1
    | some e =>
      simp only [hs, Bool.and_eq_true, beq_iff_eq] at h1
      obtain ⟨⟨g1, g2⟩, g3⟩ := h1
      cases hz : zeroT P e with
      | none => simp [hz] at g3
      | some zc =>
        simp only [hz, beq_iff_eq] at g3
        obtain ⟨i, z, i1, i2, i3⟩ := zeroT_eq hz
        have hT : ElemT P t t2 e sz bytes := ⟨sliceE_eq hs, ⟨e2, sliceE_eq he2⟩, ⟨i, z, i1, by unfold sizeT at g1; simpa [i1] using g1, by unfold bytesT at g2; simpa [i1] using g2, i2, by rw [← Array.length_toList, i3]; exact g3⟩, h3, h4, h5⟩
        split at h
        · rename_i ys hys
          refine builtin_next hc (fun consts => by simp only [builtin, hct, hca]; rfl) ?_
          simpa using append_run (ty := ty) hT (chkX_ok hf h6) (chkX_ok hf h7) hys h hR
        · simp at h
  · simp at hchk

theorem os_appendz (hf : Fr cfg E κ fr a) (hR : κ.R E cfg.conc) {sz bytes : Nat} {z : List AVal} {agg : Bool} {x y : Opnd} {dst : Option Tmp} {oop : Op} {ty : TypeId} {pos : String} {after : Array Edge} {guard : Option (Nat × Bool)} (hchk : chkOp cfg P (.appendz sz bytes z agg x y) oop = true) {v : AVal} {σ' : Store} (h : opStep cfg callF d fr κ.σ (.appendz sz bytes z agg x y) = some (v, σ')) :
    GN P E cfg.conc κ (execOp a.eval ⟨dst, oop, ty, pos, after, guard⟩) v σ' := by
  simp only [chkOp] at hchk
  split at hchk
  · rename_i x' y' t t2 hb
    simp only [Bool.and_eq_true, beq_iff_eq, decide_eq_true_eq] at hchk
    obtain ⟨⟨⟨⟨⟨h1, h2⟩, h4⟩, h5⟩, h6⟩, h7⟩ := hchk
    obtain ⟨c, rfl, hc, hca, hct⟩ := bi2_eq hb
    simp only [opStep] at h
    have hx := chkX_ok hf h6
    have hy := chkX_ok hf h7
    obtain ⟨k2, hk2⟩ := Option.isSome_iff_exists.1 h2
    cases hs : sliceE P t with
    | none => simp [hs] at h1
    | some e =>
      simp only [hs, Bool.and_eq_true, beq_iff_eq] at h1
      obtain ⟨zc, z1, z2, z3, z4, z5, z6, z7⟩ := chkZ_ok h1.1
      obtain ⟨i, i1, i2⟩ := sizeT_eq z6
      have hby : i.bytes = bytes := by have := h1.2; unfold bytesT at this; simpa [i1] using this
      split at h
      · rename_i n e1 e2
        rw [e1] at hx
        rw [e2] at hy
        split at h
        · rename_i hn
          have hnil : a.eval x' = .slice none 0 0 := V_nilslice hx
          refine builtin_next hc (fun consts => by simp only [builtin, hct, hca]; rfl) ?_
          have := appendz_run (ty := ty) (sliceE_eq hs) (intT_eq hk2) i1 i2 hby z7 z1 z2 z3 z4 z5 h4 h5 hy hn.1 hn.2 hR h
          simpa [hnil] using this
        · simp at h
      · simp at h
  · simp at hchk

theorem os_mkslice (hf : Fr cfg E κ fr a) (hR : κ.R E cfg.conc) {sz bytes : Nat} {z : List AVal} {agg : Bool} {l c : Opnd} {dst : Option Tmp} {oop : Op} {ty : TypeId} {pos : String} {after : Array Edge} {guard : Option (Nat × Bool)} (hchk : chkOp cfg P (.mkslice sz bytes z agg l c) oop = true) {v : AVal} {σ' : Store} (h : opStep cfg callF d fr κ.σ (.mkslice sz bytes z agg l c) = some (v, σ')) :
    GN P E cfg.conc κ (execOp a.eval ⟨dst, oop, ty, pos, after, guard⟩) v σ' := by
  simp only [chkOp] at hchk
  split at hchk
  · rename_i t l' c'
    simp only [Bool.and_eq_true, beq_iff_eq, decide_eq_true_eq] at hchk
    obtain ⟨⟨⟨h1, h2⟩, h3⟩, h4⟩ := hchk
    simp only [opStep] at h
    have hx := chkX_ok hf h3
    have hy := chkX_ok hf h4
    cases hs : sliceE P t with
    | none => simp [hs] at h1
    | some e =>
      simp only [hs, Bool.and_eq_true, beq_iff_eq] at h1
      obtain ⟨zc, z1, z2, z3, z4, z5, z6, z7⟩ := chkZ_ok h1.1
      obtain ⟨i, i1, i2⟩ := sizeT_eq z6
      have hby : i.bytes = bytes := by have := h1.2; unfold bytesT at this; simpa [i1] using this
      split at h
      · rename_i n c0 e1 e2
        rw [e1] at hx
        rw [e2] at hy
        split at h
        · rename_i hn
          injection h with h; injection h with q1 q2; subst q1; subst q2
          exact GV.next (mkslice_run (sliceE_eq hs) i1 i2 hby z7 z1 z2 z3 z4 z5 hx hy hn.1 hn.2.1 h2 hn.2.2 hR)
        · simp at h
      · simp at h
  · simp at hchk

theorem os_extract (hf : Fr cfg E κ fr a) (hR : κ.R E cfg.conc) {x : Opnd} {i : Nat} {dst : Option Tmp} {oop : Op} {ty : TypeId} {pos : String} {after : Array Edge} {guard : Option (Nat × Bool)} (hchk : chkOp cfg P (.extract x i) oop = true) {v : AVal} {σ' : Store} (h : opStep cfg callF d fr κ.σ (.extract x i) = some (v, σ')) :
    GN P E cfg.conc κ (execOp a.eval ⟨dst, oop, ty, pos, after, guard⟩) v σ' := by
  simp only [chkOp] at hchk
  split at hchk
  · rename_i y j
    simp only [Bool.and_eq_true, beq_iff_eq, decide_eq_true_eq] at hchk
    obtain ⟨rfl, h2⟩ := hchk
    simp only [opStep] at h
    have hx := chkX_ok hf h2
    split at h
    · rename_i vs hv
      rw [hv] at hx
      obtain ⟨h0, rfl⟩ := withσ_some h; clear h; have h := h0
      exact GV.next (extract_run hx h hR)
    · simp at h
  · simp at hchk

theorem os_mkfunc (hf : Fr cfg E κ fr a) (hR : κ.R E cfg.conc) {f : FuncId} {first caps : List Opnd} {dst : Option Tmp} {oop : Op} {ty : TypeId} {pos : String} {after : Array Edge} {guard : Option (Nat × Bool)} (hchk : chkOp cfg P (.mkfunc f first caps) oop = true) {v : AVal} {σ' : Store} (h : opStep cfg callF d fr κ.σ (.mkfunc f first caps) = some (v, σ')) :
    GN P E cfg.conc κ (execOp a.eval ⟨dst, oop, ty, pos, after, guard⟩) v σ' := by
  simp only [chkOp] at hchk
  split at hchk
  · rename_i g first' caps'
    simp only [Bool.and_eq_true, beq_iff_eq, decide_eq_true_eq] at hchk
    obtain ⟨⟨rfl, h2⟩, h3⟩ := hchk
    simp only [opStep] at h
    injection h with h; injection h with e1 e2; subst e1; subst e2
    have := mkfunc_run (f := f) (chkXs_ok hf h2) (chkXs_ok hf h3) hR (P := P)
    have e1 : first'.toList.map a.eval = (first'.map a.eval).toList := by simp
    have e2 : caps'.toList.map a.eval = (caps'.map a.eval).toList := by simp
    rw [e1, e2, Array.toArray_toList, Array.toArray_toList] at this
    exact GV.next this
  · simp at hchk

theorem os_mkmap (hf : Fr cfg E κ fr a) (hR : κ.R E cfg.conc) {dst : Option Tmp} {oop : Op} {ty : TypeId} {pos : String} {after : Array Edge} {guard : Option (Nat × Bool)} (hchk : chkOp cfg P (.mkmap ) oop = true) {v : AVal} {σ' : Store} (h : opStep cfg callF d fr κ.σ (.mkmap ) = some (v, σ')) :
    GN P E cfg.conc κ (execOp a.eval ⟨dst, oop, ty, pos, after, guard⟩) v σ' := by
  simp only [chkOp] at hchk
  split at hchk
  · rename_i t
    simp only [opStep] at h
    injection h with h; injection h with e1 e2; subst e1; subst e2
    exact GV.next (mkmap_run (t := t) (r := none) (fun w => by simp [Instr.makeMap]) hR)
  · simp at hchk

theorem os_lookup (hf : Fr cfg E κ fr a) (hR : κ.R E cfg.conc) {agg : Bool} {q : List EK} {z : AVal} {x k : Opnd} {ok : Bool} {dst : Option Tmp} {oop : Op} {ty : TypeId} {pos : String} {after : Array Edge} {guard : Option (Nat × Bool)} (hchk : chkOp cfg P (.lookup agg q z x k ok) oop = true) {v : AVal} {σ' : Store} (h : opStep cfg callF d fr κ.σ (.lookup agg q z x k ok) = some (v, σ')) :
    GN P E cfg.conc κ (execOp a.eval ⟨dst, oop, ty, pos, after, guard⟩) v σ' := by
  simp only [chkOp] at hchk
  split at hchk
  · rename_i t x' k' ok'
    simp only [Bool.and_eq_true, beq_iff_eq, decide_eq_true_eq] at hchk
    obtain ⟨⟨⟨h1, rfl⟩, h3⟩, h4⟩ := hchk
    simp only [opStep] at h
    obtain ⟨h0, rfl⟩ := withσ_some h; clear h; have h := h0
    cases hs : mapE P t with
    | none => simp [hs] at h1
    | some e =>
      obtain ⟨kt, et⟩ := e
      simp only [hs, Bool.and_eq_true] at h1
      obtain ⟨g1, g2⟩ := h1
      cases hi : P.info? et with
      | none => simp [hi] at g2
      | some i =>
        simp only [hi, Option.bind_some] at g2
        cases hz : i.zero with
        | none => simp [hz] at g2
        | some zv =>
          simp only [hz] at g2
          exact GV.next (lookup_run (mapE_eq hs) (chkMapKey_ok g1) hi hz g2 (chkX_ok hf h3) (chkX_ok hf h4) h hR)
  · simp at hchk

theorem os_mapset (hf : Fr cfg E κ fr a) (hR : κ.R E cfg.conc) {agg : Bool} {q : List EK} {m k x : Opnd} {dst : Option Tmp} {oop : Op} {ty : TypeId} {pos : String} {after : Array Edge} {guard : Option (Nat × Bool)} (hchk : chkOp cfg P (.mapset agg q m k x) oop = true) {v : AVal} {σ' : Store} (h : opStep cfg callF d fr κ.σ (.mapset agg q m k x) = some (v, σ')) :
    GN P E cfg.conc κ (execOp a.eval ⟨dst, oop, ty, pos, after, guard⟩) v σ' := by
  simp only [chkOp] at hchk
  simp only [opStep] at h
  obtain ⟨h0, rfl⟩ := unitσ_some h; clear h; have h := h0
  split at hchk
  · rename_i t m' k' v'
    simp only [Bool.and_eq_true] at hchk
    obtain ⟨⟨⟨h1, h2⟩, h3⟩, h4⟩ := hchk
    cases hs : mapE P t with
    | none => simp [hs] at h1
    | some e =>
      simp only [hs] at h1
      exact GU.next (mapset_run (mapE_eq hs) (chkMapKey_ok h1) (chkX_ok hf h2) (chkX_ok hf h3) (chkX_ok hf h4) h hR)
  · rename_i t m' k' v'
    simp only [Bool.and_eq_true] at hchk
    obtain ⟨⟨⟨h1, h2⟩, h3⟩, h4⟩ := hchk
    cases hs : mapE P t with
    | none => simp [hs] at h1
    | some e =>
      simp only [hs] at h1
      exact GU.next (mapset_run (mapE_eq hs) (chkMapKey_ok h1) (chkX_ok hf h2) (chkX_ok hf h3) (chkX_ok hf h4) h hR)
  · simp at hchk

theorem os_mapdel (hf : Fr cfg E κ fr a) (hR : κ.R E cfg.conc) {agg : Bool} {q : List EK} {m k : Opnd} {dst : Option Tmp} {oop : Op} {ty : TypeId} {pos : String} {after : Array Edge} {guard : Option (Nat × Bool)} (hchk : chkOp cfg P (.mapdel agg q m k) oop = true) {v : AVal} {σ' : Store} (h : opStep cfg callF d fr κ.σ (.mapdel agg q m k) = some (v, σ')) :
    GN P E cfg.conc κ (execOp a.eval ⟨dst, oop, ty, pos, after, guard⟩) v σ' := by
  simp only [chkOp] at hchk
  split at hchk
  · rename_i m' k' t t2 hb
    simp only [Bool.and_eq_true, beq_iff_eq, decide_eq_true_eq] at hchk
    obtain ⟨⟨h1, h2⟩, h3⟩ := hchk
    obtain ⟨c, rfl, hc, hca, hct⟩ := bi2_eq hb
    simp only [opStep] at h
    obtain ⟨h0, rfl⟩ := unitσ_some h; clear h; have h := h0
    cases hs : mapE P t with
    | none => simp [hs] at h1
    | some e =>
      simp only [hs] at h1
      refine builtin_next hc (fun consts => by simp only [builtin, hct, hca]; rfl) ?_
      simpa using mapdel_run (ty := ty) (t2 := t2) (mapE_eq hs) (chkMapKey_ok h1) (chkX_ok hf h2) (chkX_ok hf h3) h hR
  · simp at hchk

theorem os_mkiface (hf : Fr cfg E κ fr a) (hR : κ.R E cfg.conc) {t : TypeId} {x : Opnd} {dst : Option Tmp} {oop : Op} {ty : TypeId} {pos : String} {after : Array Edge} {guard : Option (Nat × Bool)} (hchk : chkOp cfg P (.mkiface t x) oop = true) {v : AVal} {σ' : Store} (h : opStep cfg callF d fr κ.σ (.mkiface t x) = some (v, σ')) :
    GN P E cfg.conc κ (execOp a.eval ⟨dst, oop, ty, pos, after, guard⟩) v σ' := by
  simp only [chkOp] at hchk
  split at hchk
  · rename_i t' y
    simp only [Bool.and_eq_true, beq_iff_eq, decide_eq_true_eq] at hchk
    obtain ⟨⟨rfl, h2⟩, h3⟩ := hchk
    simp only [opStep] at h
    injection h with h; injection h with e1 e2; subst e1; subst e2
    exact GV.next (mkiface_run h2 (chkX_ok hf h3) hR)
  · simp at hchk

theorem op_sound (hf : Fr cfg E κ fr a) (hR : κ.R E cfg.conc) {op : AOp} {o : Oper} (hnc : isCall op = false) (hchk : chkOp cfg P op o.op = true) {v : AVal} {σ' : Store} (h : opStep cfg callF d fr κ.σ op = some (v, σ')) :
    GN P E cfg.conc κ (execOp a.eval o) v σ' := by
  obtain ⟨dst, oop, ty, pos, after, guard⟩ := o
  cases op with
  | move => exact os_move hf hR hchk h
  | pick => exact os_pick hf hR hchk h
  | alloc => exact os_alloc hf hR hchk h
  | box => exact os_box hf hR hchk h
  | build => exact os_build hf hR hchk h
  | lit => exact os_lit hf hR hchk h
  | litA => exact os_litA hf hR hchk h
  | load => exact os_load hf hR hchk h
  | store => exact os_store hf hR hchk h
  | nilCheck => exact os_nilCheck hf hR hchk h
  | iop => exact os_iop hf hR hchk h
  | sop => exact os_sop hf hR hchk h
  | bop => exact os_bop hf hR hchk h
  | eqs => exact os_eqs hf hR hchk h
  | eqnil => exact os_eqnil hf hR hchk h
  | not => exact os_not hf hR hchk h
  | neg => exact os_neg hf hR hchk h
  | convI => exact os_convI hf hR hchk h
  | sliceOp => exact os_sliceOp hf hR hchk h
  | substr => exact os_substr hf hR hchk h
  | faddr => exact os_faddr hf hR hchk h
  | field => exact os_field hf hR hchk h
  | iaddr => exact os_iaddr hf hR hchk h
  | aaddr => exact os_aaddr hf hR hchk h
  | strIdx => exact os_strIdx hf hR hchk h
  | arrIdx => exact os_arrIdx hf hR hchk h
  | lenS => exact os_lenS hf hR hchk h
  | lenStr => exact os_lenStr hf hR hchk h
  | lenM => exact os_lenM hf hR hchk h
  | lenA => exact os_lenA hf hR hchk h
  | capS => exact os_capS hf hR hchk h
  | minI => exact os_minI hf hR hchk h
  | maxI => exact os_maxI hf hR hchk h
  | append => exact os_append hf hR hchk h
  | appendz => exact os_appendz hf hR hchk h
  | mkslice => exact os_mkslice hf hR hchk h
  | extract => exact os_extract hf hR hchk h
  | mkfunc => exact os_mkfunc hf hR hchk h
  | mkmap => exact os_mkmap hf hR hchk h
  | lookup => exact os_lookup hf hR hchk h
  | mapset => exact os_mapset hf hR hchk h
  | mapdel => exact os_mapdel hf hR hchk h
  | mkiface => exact os_mkiface hf hR hchk h
  | fail => simp at h
  | call => simp [isCall] at hnc
  | callv => simp [isCall] at hnc

end
end Go.Proofs.Ytmocplkpnickgaa.Am
