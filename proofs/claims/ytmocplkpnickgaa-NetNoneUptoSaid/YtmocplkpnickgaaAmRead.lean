/-
  THE ABSTRACT MACHINE, part 29: the arguments of a law, read as values of it.
-/
import Derived.Test.YtmocplkpnickgaaAmLaw
import Derived.ChangeSlices
namespace Go.Proofs.Ytmocplkpnickgaa.Am
open Go Go.RowKit Go.ChangeShapes Go.WideShapes Go.ChangeAt
set_option linter.unusedVariables false
set_option linter.unusedSimpArgs false

section
variable {P : Program} {cf : FuncId → FuncId} {W : World} {H : Type} {enc : TypeId × Value → H} {base : Nat}

theorem start_safe {b : Nat} (h : b < W.heap.size) (t : Nat) : (startK W).safe startE t b := ⟨h, start_own W b, fun k _ hk => by simp [startE] at hk⟩

theorem ints_rel {hp : Array Obj} {S : Nat → Nat → Prop} {I : Ids} (k : IntKind) : ∀ zs : List Int, VRelL cf hp S I (zs.map (AVal.int k)) (zs.map (Value.int k))
  | [] => .nil _
  | z :: zs => .cons _ _ _ _ _ (.int _ _ _) (ints_rel k zs)

/-- a slice of numbers, handed in -/
theorem read_ints {t e : TypeId} {k : IntKind} {v : Value} {d : DataW H} {ps : List MemPlace} (ht : P.underlying t = some (.slice e)) (he : P.underlying e = some (.int k)) (hc : P.cellsOf e = 1)
    (hval : Value.okWide P W .any base t v) (h : DataW.Trod enc P W 0 (fun _ => true) true t v d ps) :
    (v = .slice none 0 0 ∧ d = .nil ∧ ps = []) ∨ ∃ zs us : List Int, d = .slice (lits k zs) (lits k us) ∧ (∀ n ∈ zs, (Lit.int k n).wf = true) ∧ (startK W).V startE cf (.fslice 0 false 1 (zs.map (.int k))) v := by
  obtain ⟨fuel, hf⟩ := h
  have hok : Cell.ok P W .any base t v := by
    unfold Value.okWide at hval
    rw [ht] at hval
    unfold Cell.okWide at hval
    rw [ht] at hval
    exact hval
  unfold Cell.ok at hok
  rw [ht] at hok
  have hv : v.cells.toList = [v] := by
    cases v <;> first | rfl | exact hok.elim
  rw [hv] at hf
  rcases open_ints ht he hc hf with ⟨h1, h2⟩ | ⟨a, len, cap, zs, h1, hb, hl, hm, hlen, hx, hcell, hwf⟩
  · left
    simp only [List.cons.injEq, and_true] at h1
    simp only [Prod.mk.injEq] at h2
    exact ⟨h1, h2.1, h2.2⟩
  · right
    simp only [List.cons.injEq, and_true] at h1
    subst h1
    simp only at hok
    obtain ⟨_, _, _, hsp, row, cells, hsh, _⟩ := hok
    simp only [Prod.mk.injEq] at hx
    simp only [if_true] at hlen
    have hblk : a.block < W.heap.size := by
      unfold World.shape? at hsh
      rcases Nat.lt_or_ge a.block W.heap.size with h | h
      · exact h
      · rw [Array.getElem?_eq_none h] at hsh; simp at hsh
    refine ⟨zs.take len, zs.drop len, hx.1, fun n hn => hwf n (List.mem_of_mem_take hn), ?_⟩
    obtain ⟨b, o, sp⟩ := a
    simp only at hsp hblk
    subst hsp
    refine .fslice _ 0 false 1 _ b o len cap ((zs.take len).map (.int k)) (start_safe hblk 0) ?_ ?_ (by omega) ?_ ?_ (by simp; omega) hl (fun h => by cases h)
    · have e : ((zs.take len).map (AVal.int k)).flatMap AVal.cells = (zs.take len).map (AVal.int k) := by
        generalize zs.take len = l
        induction l with
        | nil => rfl
        | cons x l ih => simp only [List.map_cons, List.flatMap_cons, AVal.cells, ih]; rfl
      rw [e]; exact ints_rel k _
    · intro x hx
      obtain ⟨n, _, rfl⟩ := List.mem_map.1 hx
      exact ⟨rfl, fun c hc => by simp at hc; subst hc; rfl⟩
    · intro x hx
      obtain ⟨n, _, rfl⟩ := List.mem_map.1 hx
      exact Nat.zero_le _
    · intro j x hj
      rw [List.getElem?_map, Option.map_eq_some_iff] at hj
      obtain ⟨n, hn, rfl⟩ := hj
      have hj2 : j < len ∧ zs[j]? = some n := by
        rw [List.getElem?_take] at hn
        split at hn
        · exact ⟨by assumption, hn⟩
        · cases hn
      have hjl : j < zs.length := (List.getElem?_eq_some_iff.1 hj2.2).1
      have := hcell j hjl
      have e : zs.getD j 0 = n := by simp [List.getD_eq_getElem?_getD, hj2.2]
      rw [e] at this
      rw [← this]
      rw [add_spot, cellAt_eq]
      rfl

theorem read_int {t : TypeId} {k : IntKind} {v : Value} {d : DataW H} {ps : List MemPlace} (ht : P.underlying t = some (.int k)) (hval : Value.okWide P W .any base t v) (h : DataW.Trod enc P W 0 (fun _ => true) true t v d ps) :
    ∃ n, d = .lit (.int k n) ∧ (Lit.int k n).wf = true ∧ (startK W).V startE cf (.int k n) v := by
  obtain ⟨n, rfl, hd, _, hw⟩ := open_int ht hval h
  exact ⟨n, hd, hw, .int _ _ _⟩
end
end Go.Proofs.Ytmocplkpnickgaa.Am
