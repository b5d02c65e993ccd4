/-
  THE ABSTRACT MACHINE, part 22: regions, in their order and in any order.
-/
import Derived.Test.YtmocplkpnickgaaAmCall
import Derived.Orders
namespace Go.Proofs.Ytmocplkpnickgaa.Am
open Go
set_option linter.unusedVariables false
set_option linter.unusedSimpArgs false

/-! ### what an operation looks at -/
def Opnd.slots : Opnd → List Nat
  | .tmp t => [t]
  | _ => []
def Opnd.slotsO : Option Opnd → List Nat
  | some x => x.slots
  | none => []

def AOp.reads : AOp → List Nat
  | .move x | .box x | .load _ _ x | .nilCheck x | .eqnil _ _ x | .not x | .neg x | .convI _ x | .faddr _ x | .field _ _ _ x | .lenS x | .lenStr x | .lenM x | .capS x | .extract x _ | .mkiface _ x => x.slots
  | .pick c a b => c.slots ++ (a.slots ++ b.slots)
  | .alloc _ | .lenA _ | .mkmap | .fail => []
  | .build _ parts => parts.flatMap fun p => p.2.2.slots
  | .lit _ _ _ _ parts | .litA _ _ _ _ parts => parts.flatMap fun p => p.2.slots
  | .store _ a v => a.slots ++ v.slots
  | .iop _ x y | .sop _ x y | .bop _ x y | .eqs _ _ x y | .iaddr _ x y | .aaddr _ _ x y | .strIdx x y | .arrIdx _ _ _ x y | .append _ _ x y | .appendz _ _ _ _ x y | .mkslice _ _ _ _ x y | .lookup _ _ _ x y _ | .mapdel _ _ x y => x.slots ++ y.slots
  | .sliceOp _ x a b c => x.slots ++ (Opnd.slotsO a ++ (Opnd.slotsO b ++ Opnd.slotsO c))
  | .substr x a b => x.slots ++ (Opnd.slotsO a ++ Opnd.slotsO b)
  | .minI xs | .maxI xs => xs.flatMap Opnd.slots
  | .mkfunc _ a b => a.flatMap Opnd.slots ++ b.flatMap Opnd.slots
  | .mapset _ _ m k v => m.slots ++ (k.slots ++ v.slots)
  | .call _ _ args => args.flatMap Opnd.slots
  | .callv _ f args => f.slots ++ args.flatMap Opnd.slots

def AOper.looks (o : AOper) : List Nat := (match o.guard with | some (t, _) => [t] | none => []) ++ o.op.reads

/-- 0: it has nothing to do with the store. 1: it reads it. 2: it writes it. -/
def AOp.cls : AOp → Nat
  | .load .. | .lenM .. | .lookup .. | .call .iso _ _ | .callv .iso _ _ => 1
  | .alloc _ | .box _ | .litA .. | .store .. | .append .. | .appendz .. | .mkslice .. | .mkmap | .mapset .. | .mapdel .. | .call .shared _ _ | .callv .shared _ _ => 2
  | _ => 0

section
variable {cfg : Cfg} {callF : CallF} {d : Nat}

def SameAt (fr fr' : List AVal) (l : List Nat) : Prop := ∀ t, t ∈ l → fr.getD t .undef = fr'.getD t .undef

theorem SameAt.left {fr fr' : List AVal} {a b : List Nat} (h : SameAt fr fr' (a ++ b)) : SameAt fr fr' a := fun t ht => h t (List.mem_append_left _ ht)
theorem SameAt.right {fr fr' : List AVal} {a b : List Nat} (h : SameAt fr fr' (a ++ b)) : SameAt fr fr' b := fun t ht => h t (List.mem_append_right _ ht)
theorem ev_same {fr fr' : List AVal} {x : Opnd} (h : SameAt fr fr' x.slots) : ev cfg fr x = ev cfg fr' x := by
  cases x with
  | tmp t => exact h t (List.mem_singleton.2 rfl)
  | const v => rfl
  | glob g => rfl
theorem oev_same {fr fr' : List AVal} {x : Option Opnd} (h : SameAt fr fr' (Opnd.slotsO x)) : oev cfg fr x = oev cfg fr' x := by
  cases x with
  | none => rfl
  | some x => simp only [oev]; rw [ev_same h]
theorem evs_same {fr fr' : List AVal} : ∀ {xs : List Opnd}, SameAt fr fr' (xs.flatMap Opnd.slots) → xs.map (ev cfg fr) = xs.map (ev cfg fr')
  | [], _ => rfl
  | x :: xs, h => by
    simp only [List.flatMap_cons] at h
    simp only [List.map_cons]
    rw [ev_same h.left, evs_same h.right]
theorem part3_same {fr fr' : List AVal} : ∀ {ps : List (Nat × Nat × Opnd)}, SameAt fr fr' (ps.flatMap fun p => p.2.2.slots) → (ps.map fun p => (p.1, p.2.1, ev cfg fr p.2.2)) = ps.map fun p => (p.1, p.2.1, ev cfg fr' p.2.2)
  | [], _ => rfl
  | x :: xs, h => by
    simp only [List.flatMap_cons] at h
    simp only [List.map_cons]
    rw [ev_same h.left, part3_same h.right]
theorem part2_same {fr fr' : List AVal} : ∀ {ps : List (Nat × Opnd)}, SameAt fr fr' (ps.flatMap fun p => p.2.slots) → (ps.map fun p => (p.1, ev cfg fr p.2)) = ps.map fun p => (p.1, ev cfg fr' p.2)
  | [], _ => rfl
  | x :: xs, h => by
    simp only [List.flatMap_cons] at h
    simp only [List.map_cons]
    rw [ev_same h.left, part2_same h.right]

theorem reads_same {fr fr' : List AVal} {σ : Store} {op : AOp} (h : SameAt fr fr' op.reads) : opStep cfg callF d fr σ op = opStep cfg callF d fr' σ op := by
  cases op with
  | pick c a b =>
    simp only [AOp.reads] at h
    simp only [opStep]
    rw [ev_same h.left, ev_same h.right.left, ev_same h.right.right]
  | alloc z => rfl
  | lenA n => rfl
  | mkmap => rfl
  | fail => rfl
  | build z parts => simp only [AOp.reads] at h; simp only [opStep]; rw [part3_same h]
  | lit sz z agg n parts => simp only [AOp.reads] at h; simp only [opStep]; rw [part2_same h]
  | litA sz z agg n parts => simp only [AOp.reads] at h; simp only [opStep]; rw [part2_same h]
  | sliceOp sz x lo hi mx =>
    simp only [AOp.reads] at h
    simp only [opStep]
    rw [ev_same h.left, oev_same h.right.left, oev_same h.right.right.left, oev_same h.right.right.right]
  | substr x lo hi =>
    simp only [AOp.reads] at h
    simp only [opStep]
    rw [ev_same h.left, oev_same h.right.left, oev_same h.right.right]
  | minI xs =>
    cases xs with
    | nil => rfl
    | cons x r =>
      simp only [AOp.reads, List.flatMap_cons] at h
      simp only [opStep]
      rw [ev_same h.left, evs_same h.right]
  | maxI xs =>
    cases xs with
    | nil => rfl
    | cons x r =>
      simp only [AOp.reads, List.flatMap_cons] at h
      simp only [opStep]
      rw [ev_same h.left, evs_same h.right]
  | mkfunc f a b => simp only [AOp.reads] at h; simp only [opStep]; rw [evs_same h.left, evs_same h.right]
  | mapset g q m k v =>
    simp only [AOp.reads] at h
    simp only [opStep]
    rw [ev_same h.left, ev_same h.right.left, ev_same h.right.right]
  | call m f args => simp only [AOp.reads] at h; simp only [opStep]; rw [evs_same h]
  | callv m f args => simp only [AOp.reads] at h; simp only [opStep]; rw [ev_same h.left, evs_same h.right]
  | store | iop | sop | bop | eqs | iaddr | aaddr | strIdx | arrIdx | append | appendz | mkslice | lookup | mapdel =>
    simp only [AOp.reads] at h
    simp only [opStep]
    rw [ev_same h.left, ev_same h.right]
  | move | box | load | nilCheck | eqnil | not | neg | convI | faddr | field | lenS | lenStr | lenM | capS | extract | mkiface =>
    simp only [AOp.reads] at h
    simp only [opStep]
    rw [ev_same h]

theorem cls_keep {fr : List AVal} {σ σ' : Store} {op : AOp} {v : AVal} (hc : op.cls ≤ 1) (h : opStep cfg callF d fr σ op = some (v, σ')) : σ' = σ := by
  have cc : ∀ {f : FuncId} {args : List AVal}, doCall callF d .iso f args σ = some (v, σ') → σ' = σ := by
    intro f args h
    simp only [doCall] at h
    repeat' split at h
    all_goals first | (simp at h; done) | (injection h with h; injection h with _ e; exact e.symm)
  cases op with
  | call m f args => cases m with | iso => exact cc (by simpa only [opStep] using h) | shared => simp [AOp.cls] at hc
  | callv m f args =>
    cases m with
    | iso =>
      simp only [opStep] at h
      split at h
      · exact cc h
      · simp at h
    | shared => simp [AOp.cls] at hc
  | alloc | box | litA | store | append | appendz | mkslice | mkmap | mapset | mapdel => simp [AOp.cls] at hc
  | _ =>
    simp only [opStep] at h
    repeat' split at h
    all_goals first
      | (simp at h; done)
      | exact (withσ_some h).2
      | (injection h with h; injection h with _ e; exact e.symm)

theorem cls_pure {fr : List AVal} {σ σ' τ : Store} {op : AOp} {v : AVal} (hc : op.cls = 0) (h : opStep cfg callF d fr σ op = some (v, σ')) : opStep cfg callF d fr τ op = some (v, τ) := by
  have ww : ∀ {x : Option AVal}, withσ σ x = some (v, σ') → withσ τ x = some (v, τ) := by
    intro x hx
    rw [(withσ_some hx).1]; rfl
  cases op with
  | call m f args => cases m <;> simp [AOp.cls] at hc
  | callv m f args => cases m <;> simp [AOp.cls] at hc
  | alloc | box | litA | store | append | appendz | mkslice | mkmap | mapset | mapdel | load | lenM | lookup => simp [AOp.cls] at hc
  | fail => simp at h
  | _ =>
    simp only [opStep] at h ⊢
    first
      | exact ww h
      | (split at h
         all_goals first
           | (simp at h; done)
           | exact ww h
           | (injection h with h; injection h with e _; subst e; rfl))
      | (injection h with h; injection h with e _; subst e; rfl)

theorem stepO_inv {o : AOper} {s s' : FS} (h : stepO cfg callF d o s = some s') :
    ∃ b v, wantedA s.1 o.guard = some b ∧ s'.1 = put s.1 o.dst v ∧ (b = true → opStep cfg callF d s.1 s.2 o.op = some (v, s'.2)) ∧ (b = false → v = .tuple [] ∧ s'.2 = s.2) := by
  unfold stepO at h
  split at h
  · rename_i hw
    split at h
    · rename_i v σ hv
      injection h with h; subst h
      exact ⟨true, v, hw, rfl, fun _ => hv, fun h => by simp at h⟩
    · simp at h
  · rename_i hw
    injection h with h; subst h
    exact ⟨false, .tuple [], hw, rfl, fun h => by simp at h, fun _ => ⟨rfl, rfl⟩⟩
  · simp at h

theorem wanted_same {fr fr' : List AVal} {g : Option (Nat × Bool)} (h : SameAt fr fr' (match g with | some (t, _) => [t] | none => [])) : wantedA fr g = wantedA fr' g := by
  cases g with
  | none => rfl
  | some p =>
    obtain ⟨t, b⟩ := p
    simp only [wantedA]
    rw [h t (List.mem_singleton.2 rfl)]
end
end Go.Proofs.Ytmocplkpnickgaa.Am
