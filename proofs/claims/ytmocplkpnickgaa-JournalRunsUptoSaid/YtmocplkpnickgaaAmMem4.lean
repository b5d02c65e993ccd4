/-
  THE ABSTRACT MACHINE, part 18b: a literal of a slice whose elements may lie in the store.
-/
import Derived.Test.YtmocplkpnickgaaAmMem3
namespace Go.Proofs.Ytmocplkpnickgaa.Am
open Go
set_option linter.unusedVariables false
set_option linter.unusedSimpArgs false

section
variable {P : Program} {E : Env} {cf : FuncId → FuncId} {κ : K}

theorem fillL_ok {sz : Nat} {agg : Bool} : ∀ {r : List (Nat × AVal)} {q : List (Nat × Value)} {es es' : List AVal} {cells : Array Value}, PartsE κ E cf r q → κ.VL E cf (es.flatMap AVal.cells) cells.toList → AVal.elemsOk sz es →
    fillL sz agg es r = some es' → ∃ cells', Instr.fill (fun i => some (i * sz, sz)) cells q = some cells' ∧ κ.VL E cf (es'.flatMap AVal.cells) cells'.toList ∧ AVal.elemsOk sz es' ∧ es'.length = es.length
  | [], [], es, es', cells, .nil, hl, h1, h => by simp at h; subst h; exact ⟨cells, rfl, hl, h1, rfl⟩
  | (i, a) :: r, (_, v) :: q, es, es', cells, .cons _ _ _ _ _ ha hr, hl, h1, h => by
    unfold fillL at h
    split at h
    · rename_i hc
      obtain ⟨hc1, hc2, hc3, hc5⟩ := hc
      have hone := allOne_of hc3
      have hv := V_cells ha hone
      have hlen := VL_len hv
      have hlen2 := VL_len hl
      have hfl := flat_length h1
      simp only [Array.length_toList] at hlen hlen2
      have hm : i * sz + sz ≤ es.length * sz := by
        have : (i + 1) * sz ≤ es.length * sz := Nat.mul_le_mul_right _ hc5
        rw [Nat.add_mul] at this; omega
      have hz := zipIdx_foldl v.cells cells (i * sz) (by omega)
      have hl' : κ.VL E cf ((es.set i a).flatMap AVal.cells) (v.cells.zipIdx.foldl (fun cs (c, j) => cs.setIfInBounds (i * sz + j) c) cells).toList := by
        rw [hz, flat_set h1 i a hc5 hc1]
        have := VL_splice (cf := cf) hl hv (i * sz)
        rw [hc1] at this
        simpa using this
      obtain ⟨cells', g1, g2, g3, g5⟩ := fillL_ok hr hl' (elemsOk_set h1 i hc1 hone) h
      refine ⟨cells', ?_, g2, g3, by simpa using g5⟩
      simp only [Instr.fill]
      rw [if_neg (by simp; omega)]
      exact g1
    · simp at h

theorem litA_run {t e : TypeId} {sz n : Nat} {agg : Bool} {z : List AVal} {zc : List Value} {es' : List AVal} (ht : P.underlying t = some (.slice e)) (hn : sizeT P e = some sz) (h0 : 0 < sz) (hz : zeroT P e = some zc) (hzc : chkCs z zc = true)
    (hz1 : z.all AVal.one = true) (hzl : z.length = sz) (ha : agg = false → sz = 1) (hlim : n * sz ≤ 2 ^ 24)
    {r : List (Nat × AVal)} {q : Array (Nat × Value)} (hp : PartsE κ E cf r q.toList) (h : fillL sz agg (List.replicate n (zel z agg)) r = some es') (hR : κ.R E cf) :
    GV P E cf κ (Instr.buildSlice t n q) (.slice sz κ.σ.length 0 0 n (some n)) (κ.σ ++ [.arr sz es' 0 0]) := by
  obtain ⟨i, hi, hsz⟩ := sizeT_eq hn
  obtain ⟨i', zv, hi', hzv, hzc'⟩ := zeroT_eq hz
  rw [hi] at hi'; cases hi'
  have hcells := zel_cells hzl hz1 ha
  have hl : κ.VL E cf ((List.replicate n (zel z agg)).flatMap AVal.cells) ((Array.range (n * sz)).map (zv.cells[· % zv.cells.size]!)).toList := by
    rw [flat_replicate, hcells]
    exact zeros_VL (by rw [hzc']; exact hzc) hzl h0
  have hel : AVal.elemsOk sz (List.replicate n (zel z agg)) := by
    intro x hx
    rw [List.eq_of_mem_replicate hx, hcells]
    exact ⟨hzl, allOne_of hz1⟩
  obtain ⟨cells', g1, g2, g3, g5⟩ := fillL_ok hp hl hel h
  simp only [List.length_replicate] at g5
  have hat : (κ.new (.cells cells' e) (.arr sz es' 0 0)).h[(κ.new (.cells cells' e) (.arr sz es' 0 0)).loc κ.σ.length]? = some (.cells cells' e (0, 0)) := by simp [K.new]
  have hcz : cells'.size = n * sz := by
    have := VL_len g2
    rw [flat_length g3, g5, Array.length_toList] at this
    exact this.symm
  intro w hw
  refine ⟨.slice (some ⟨w.heap.size, 0, none⟩) n n, { w with heap := w.heap.push (.cells cells' e) }, κ.new (.cells cells' e) (.arr sz es' 0 0), ?_, by simp [K.new, hw], by simp [K.new], K.new_le hR _ _, K.new_R hR _ _ ?_, ?_⟩
  · simp only [Instr.buildSlice, Sem.run_bind, run_underlying ht, Result.andThen, sz_of hi, hsz]
    rw [Sem.run_ite, if_neg (by omega)]
    by_cases hns : n * sz = 0
    · have hn0 : n = 0 := by
        rcases Nat.mul_eq_zero.1 hns with h | h
        · exact h
        · omega
      subst hn0
      simp only [Nat.zero_mul, if_true, Sem.run_pure, Sem.run_bind, Result.andThen]
      have : (Array.map (fun x => (#[] : Array Value)[x % (#[] : Array Value).size]!) (Array.range 0)) = (Array.range (0 * sz)).map (zv.cells[· % zv.cells.size]!) := by simp
      rw [this, g1]
      simp [newRow, newObj, Sem.run, Result.andThen]
    · rw [if_neg hns]
      simp only [zeroValue, typeInfo, Sem.run_bind, run_program, Result.andThen, hi, Sem.run_pure, hzv]
      simp only [g1]
      simp [newRow, newObj, Sem.run, Result.andThen]
  · exact ⟨Nat.le_refl _, h0, g3, cells', e, cells'.toList, [], hat, by simp, K.VL.le hR.lb (K.new_le hR _ _) g2⟩
  · have hloc : (κ.new (.cells cells' e) (.arr sz es' 0 0)).loc κ.σ.length = w.heap.size := by simp [K.new, hw]
    refine .slice _ sz κ.σ.length 0 0 n _ w.heap.size 0 n ⟨Nat.le_refl _, ?_, h0, es', 0, 0, by simp [K.new, List.getElem?_append_right], Nat.le_refl _, fun _ => ⟨?_, .inl ⟨hloc.symm, .inl (by simp)⟩, ?_⟩⟩
    · intro cc hcc
      injection hcc
    · simp only [Option.getD_some]; omega
    · intro _ hcn
      cases hcn

end
end Go.Proofs.Ytmocplkpnickgaa.Am
