/-
  The abstract machine and the functions of the law, 5: texts put together.
-/
import Derived.Test.YtkjnanfkclijcaaDoorMatchBodiesPkD
import Derived.Test.YtkjnanfkclijcaaDoorMatchBodiesPkC
namespace Go.Proofs.YtkjnanfkclijcaaDoor.Am
open Go
set_option linter.unusedVariables false
set_option linter.unusedSimpArgs false
set_option linter.unusedSectionVars false
set_option maxRecDepth 100000
def clC (hv gv bv : AVal) (n : Int) : List AVal := [hv, gv, bv, .int .i64 n]
theorem clC_one {hv gv bv : AVal} {n : Int} (h1 : hv.one = true) (h2 : gv.one = true) (h3 : bv.one = true) : (clC hv gv bv n).all AVal.one = true := by
  simp only [clC, List.all_cons, List.all_nil, h1, h2, h3]; rfl
abbrev II (l : List Nat) : List AVal := l.map fun (i : Nat) => AVal.int .i64 (i : Int)
theorem int_lit (k : Int) : fillL 1 false (List.replicate 1 (zel [AVal.int IntKind.i64 0] false)) [(0, AVal.int .i64 k)] = some [.int .i64 k] := rfl
theorem loc_build (k : Int) : fillA [AVal.int IntKind.i64 0, AVal.int IntKind.i64 0] [(0, 1, AVal.int .i64 (-1)), (1, 1, AVal.int .i64 k)] = some (nmC (-1, k)) := rfl
theorem count_min (n : Int) : foldV minV (.int .i64 n) [.int .i64 16] = some (.int .i64 (if (16 : Int) < n then 16 else n)) := by
  simp only [foldV, minV, if_true]
theorem count_maxi (n : Int) : foldV maxV (.int .i64 0) [.int .i64 (if (16 : Int) < n then 16 else n)] = some (.int .i64 (countC n : Nat)) := by
  have e : (if (if (16 : Int) < n then 16 else n) > (0 : Int) then (if (16 : Int) < n then 16 else n) else (0 : Int)) = ((countC n : Nat) : Int) := by
    unfold countC
    split <;> (repeat (split <;> try omega)) <;> omega
  simp only [foldV, maxV, if_true, e]
theorem freeF_zero (ws : List Nm) : freeF ws 0 = [] := rfl
section
variable (d : Nat) (σ : Store)
theorem count_ok (hv gv bv : AVal) (n : Int) (h1 : hv.one = true) (h2 : gv.one = true) (h3 : bv.one = true) : Called CU.cfg d 89 [.agg (clC hv gv bv n)] σ fun r σ' => r = .int .i64 (countC n : Nat) ∧ Grows σ σ' := by
  refine called_of (fn := CU.a89) rfl (Nat.le_of_ble_eq_true rfl) ?_
  simp only [CU.a89]
  have ho : (σ ++ [AObj.cells (clC hv gv bv n)])[σ.length]? = some (.cells (clC hv gv bv n)) := by simp
  have e3 : (clC hv gv bv n)[3]? = some (.int .i64 n) := rfl
  simp -dsimp only [↓WPd, ↓wpC_block, ↓wpC_cond, WPu, Bool.false_eq_true, Bool.true_eq_false, Bool.not_true, Bool.not_false, if_true, if_false, ite_true, ite_false, Nat.reduceEqDiff, Nat.reduceLT, true_and, List.map_cons, List.map_nil, Nat.zero_add, Nat.reduceBEq, cells_agg, clC_one h1 h2 h3, faddr_ptr, load_cells ho, e3, count_min, count_maxi]
  exact Grows.app _ _
theorem rcount_ok (hv gv bv : AVal) (n : Int) (h1 : hv.one = true) (h2 : gv.one = true) (h3 : bv.one = true) : Called CU.cfg d 92 [.agg (clC hv gv bv n)] σ fun r σ' => r = .int .i64 (countC n : Nat) ∧ Grows σ σ' := by
  refine called_of (fn := CU.a92) rfl (Nat.le_of_ble_eq_true rfl) ?_
  simp only [CU.a92]
  have ho : (σ ++ [AObj.cells (clC hv gv bv n)])[σ.length]? = some (.cells (clC hv gv bv n)) := by simp
  have e3 : (clC hv gv bv n)[3]? = some (.int .i64 n) := rfl
  simp -dsimp only [↓WPd, ↓wpC_block, ↓wpC_cond, WPu, Bool.false_eq_true, Bool.true_eq_false, Bool.not_true, Bool.not_false, if_true, if_false, ite_true, ite_false, Nat.reduceEqDiff, Nat.reduceLT, true_and, List.map_cons, List.map_nil, Nat.zero_add, Nat.reduceBEq, cells_agg, clC_one h1 h2 h3, faddr_ptr, Nat.zero_add, load_cells ho, e3]
  by_cases hn : n < 0
  · simp -dsimp only [↓WPd, ↓wpC_block, ↓wpC_cond, WPu, Bool.false_eq_true, Bool.true_eq_false, Bool.not_true, Bool.not_false, if_true, if_false, ite_true, ite_false, Nat.reduceEqDiff, Nat.reduceLT, true_and, List.map_cons, List.map_nil, Nat.zero_add, Nat.reduceBEq, decide_eq_true hn]
    exact ⟨by simp [countC, hn], Grows.app _ _⟩
  · by_cases hm : n > 16
    · simp -dsimp only [↓WPd, ↓wpC_block, ↓wpC_cond, WPu, Bool.false_eq_true, Bool.true_eq_false, Bool.not_true, Bool.not_false, if_true, if_false, ite_true, ite_false, Nat.reduceEqDiff, Nat.reduceLT, true_and, List.map_cons, List.map_nil, Nat.zero_add, Nat.reduceBEq, decide_eq_false hn, decide_eq_true hm, faddr_ptr, Nat.zero_add, load_cells ho, e3]
      exact ⟨by simp [countC, hn, hm], Grows.app _ _⟩
    · simp -dsimp only [↓WPd, ↓wpC_block, ↓wpC_cond, WPu, Bool.false_eq_true, Bool.true_eq_false, Bool.not_true, Bool.not_false, if_true, if_false, ite_true, ite_false, Nat.reduceEqDiff, Nat.reduceLT, true_and, List.map_cons, List.map_nil, Nat.zero_add, Nat.reduceBEq, decide_eq_false hn, decide_eq_false hm, faddr_ptr, Nat.zero_add, load_cells ho, e3]
      refine ⟨?_, Grows.app _ _⟩
      unfold countC
      rw [if_neg hn, if_neg hm, Int.toNat_of_nonneg (by omega)]
theorem free_ok (hv gv bv : AVal) (n : Int) (p : List Cel) (h2 : gv.one = true) (h3 : bv.one = true) (sp : Small p) (hp : SlOf σ 5 hv (CC p)) : Called CU.cfg d 32 [.agg (clC hv gv bv n)] σ fun r σ' => Grows σ σ' ∧ Own σ' 1 r (II (freeF (varsL [] p) (countC n))) := by
  refine called_of (fn := CU.a32) rfl (Nat.le_of_ble_eq_true rfl) ?_
  simp only [CU.a32]
  have h1 := hp.one
  have ho : (σ ++ [AObj.cells (clC hv gv bv n)])[σ.length]? = some (.cells (clC hv gv bv n)) := by simp
  have e0 : (clC hv gv bv n)[0]? = some hv := rfl
  have g0 : Grows σ (σ ++ [AObj.cells (clC hv gv bv n)]) := Grows.app _ _
  simp -dsimp only [↓WPd, ↓wpC_block, ↓wpC_cond, WPu, Bool.false_eq_true, Bool.true_eq_false, Bool.not_true, Bool.not_false, if_true, if_false, ite_true, ite_false, Nat.reduceEqDiff, Nat.reduceLT, true_and, List.map_cons, List.map_nil, Nat.zero_add, Nat.reduceBEq, cells_agg, clC_one h1 h2 h3]
  generalize σ ++ [AObj.cells (clC hv gv bv n)] = σ1 at ho g0
  generalize hq : σ.length = i1 at ho
  simp -dsimp only [↓WPd, ↓wpC_block, ↓wpC_cond, WPu, Bool.false_eq_true, Bool.true_eq_false, Bool.not_true, Bool.not_false, if_true, if_false, ite_true, ite_false, Nat.reduceEqDiff, Nat.reduceLT, true_and, List.map_cons, List.map_nil, Nat.zero_add, Nat.reduceBEq, faddr_ptr, Nat.add_zero, load_cells ho, e0, lit1_ok h1]
  refine calledW_of (vars_ok d σ1 _ [p] (by simpa using sp.1) (by simp) (Terms.lit _ (hp.grow g0))) ?_
  rintro l σ2 ⟨g2, ol, -⟩
  have hfl : [p].flatten = p := by simp
  rw [hfl] at ol
  have hvl := varsL_len [] p
  simp only [List.length_nil, Nat.zero_add] at hvl
  have hsp := sp.1
  generalize varsL [] p = ws at *
  have g02 := g0.trans g2
  simp -dsimp only [↓WPd, ↓wpC_block, ↓wpC_cond, WPu, Bool.false_eq_true, Bool.true_eq_false, Bool.not_true, Bool.not_false, if_true, if_false, ite_true, ite_false, Nat.reduceEqDiff, Nat.reduceLT, true_and, List.map_cons, List.map_nil, Nat.zero_add, Nat.reduceBEq, loadN_cells (n := 4) (g2.get ho) rfl]
  refine calledW_of (count_ok d σ2 hv gv bv n h1 h2 h3) ?_
  rintro r σ3 ⟨rfl, g3⟩
  have g03 := g02.trans g3
  have hc := countC_le n
  generalize countC n = N at *
  simp -dsimp only [↓WPd, ↓wpC_block, ↓wpC_cond, WPu, Bool.false_eq_true, Bool.true_eq_false, Bool.not_true, Bool.not_false, if_true, if_false, ite_true, ite_false, Nat.reduceEqDiff, Nat.reduceLT, true_and, List.map_cons, List.map_nil, Nat.zero_add, Nat.reduceBEq]
  have ol3 := ol.sl.grow g3
  have wk : ∀ k : Nat, k < N → IntKind.i64.wrap ((k : Int) + 1) = ((k + 1 : Nat) : Int) := fun k hk => by rw [wrap_i64 (by omega) (by omega), Int.natCast_add, Int.natCast_one]
  refine loop_rule2 (fun m vs σ' => ∃ k acc, k ≤ N ∧ m = N - k ∧ vs = [acc, l, .int .i64 N, .int .i64 k] ∧ Grows σ3 σ' ∧ Own σ' 1 acc (II (freeF ws k)) ∧ Fresh σ3.length acc)
    [3] (fun e vs σ' => e = .exit 0 ∧ ∃ acc, vs = [acc] ∧ Grows σ3 σ' ∧ Own σ' 1 acc (II (freeF ws N))) N ⟨0, .nilslice, Nat.zero_le _, rfl, ?_, Keeps.refl _ _, by rw [freeF_zero]; exact Own.nil _ _, Fresh.nil _⟩ ?_ ?_
  · simp -dsimp only [↓WPd, ↓wpC_block, ↓wpC_cond, WPu, Bool.false_eq_true, Bool.true_eq_false, Bool.not_true, Bool.not_false, if_true, if_false, ite_true, ite_false, Nat.reduceEqDiff, Nat.reduceLT, true_and, List.map_cons, List.map_nil, Nat.zero_add, Nat.reduceBEq]; rfl
  · rintro m vs σ' ⟨k, acc, hk, rfl, rfl, g, oa, fa⟩
    simp -dsimp only [↓WPd, ↓wpC_block, ↓wpC_cond, WPu, Bool.false_eq_true, Bool.true_eq_false, Bool.not_true, Bool.not_false, if_true, if_false, ite_true, ite_false, Nat.reduceEqDiff, Nat.reduceLT, true_and, List.map_cons, List.map_nil, Nat.zero_add, Nat.reduceBEq]
    refine condP_dec (fun h => ?_) (fun h => ?_)
    · have hk' : k < N := by omega
      have hs := freeF_succ ws k
      have hle := freeF_le ws k
      simp -dsimp only [↓WPd, ↓wpC_block, ↓wpC_cond, WPu, Bool.false_eq_true, Bool.true_eq_false, Bool.not_true, Bool.not_false, if_true, if_false, ite_true, ite_false, Nat.reduceEqDiff, Nat.reduceLT, true_and, List.map_cons, List.map_nil, Nat.zero_add, Nat.reduceBEq, loc_build]
      refine calledW_of (ncontains_ok d σ' l ws (-1, (k : Int)) (by omega) (ol3.grow g)) ?_
      rintro r σ4 ⟨rfl, g4⟩
      cases hcn : ws.contains ((-1 : Int), (k : Int)) with
      | true =>
        rw [hcn, if_pos rfl] at hs
        simp -dsimp only [↓WPd, ↓wpC_block, ↓wpC_cond, WPu, Bool.false_eq_true, Bool.true_eq_false, Bool.not_true, Bool.not_false, if_true, if_false, ite_true, ite_false, Nat.reduceEqDiff, Nat.reduceLT, true_and, List.map_cons, List.map_nil, Nat.zero_add, Nat.reduceBEq, wk k hk']
        refine ⟨N - (k + 1), by omega, k + 1, acc, by omega, rfl, rfl, g.trans g4, ?_, fa⟩
        rw [hs]; exact oa.grow g4
      | false =>
        rw [hcn, if_neg (by simp)] at hs
        obtain ⟨a', σ5, p1, p2, p3, p4, p5⟩ := (oa.grow g4).append [.int .i64 (k : Int)] 8 (by simp only [List.length_map, List.length_singleton]; omega)
        simp -dsimp only [↓WPd, ↓wpC_block, ↓wpC_cond, WPu, Bool.false_eq_true, Bool.true_eq_false, Bool.not_true, Bool.not_false, if_true, if_false, ite_true, ite_false, Nat.reduceEqDiff, Nat.reduceLT, true_and, List.map_cons, List.map_nil, Nat.zero_add, Nat.reduceBEq, int_lit, elems_fs, p1, wk k hk']
        refine ⟨N - (k + 1), by omega, k + 1, a', by omega, rfl, rfl, Keeps.trans (g.trans g4) p3 fun i hi e => by have := fa i e; omega, ?_, fun i hi => ?_⟩
        · rw [hs]
          have e : II (freeF ws k ++ [k]) = II (freeF ws k) ++ [.int .i64 (k : Int)] := by simp [II]
          rw [e]; exact p2
        · rcases p4 i hi with e | e
          · exact fa i e
          · have := (g.trans g4).1; omega
    · have : k = N := by omega
      subst this
      simp -dsimp only [↓WPd, ↓wpC_block, ↓wpC_cond, WPu, Bool.false_eq_true, Bool.true_eq_false, Bool.not_true, Bool.not_false, if_true, if_false, ite_true, ite_false, Nat.reduceEqDiff, Nat.reduceLT, true_and, List.map_cons, List.map_nil, Nat.zero_add, Nat.reduceBEq]
      exact ⟨acc, rfl, g, oa⟩
  · rintro e σ' env ⟨rfl, acc, hv', g, oa⟩
    simp only [List.map_cons, List.map_nil, List.cons.injEq, and_true] at hv'
    simp -dsimp only [↓WPd, ↓wpC_block, ↓wpC_cond, WPu, Bool.false_eq_true, Bool.true_eq_false, Bool.not_true, Bool.not_false, if_true, if_false, ite_true, ite_false, Nat.reduceEqDiff, Nat.reduceLT, true_and, List.map_cons, List.map_nil, Nat.zero_add, Nat.reduceBEq, hv']
    exact ⟨g03.trans g, oa⟩
theorem rfree_ok (hv gv bv : AVal) (n : Int) (p : List Cel) (h2 : gv.one = true) (h3 : bv.one = true) (sp : Small p) (hp : SlOf σ 5 hv (CC p)) : Called CU.cfg d 33 [.agg (clC hv gv bv n)] σ fun r σ' => Grows σ σ' ∧ Own σ' 1 r (II (freeF (varsL [] p) (countC n))) := by
  refine called_of (fn := CU.a33) rfl (Nat.le_of_ble_eq_true rfl) ?_
  simp only [CU.a33]
  have h1 := hp.one
  have ho : (σ ++ [AObj.cells (clC hv gv bv n)])[σ.length]? = some (.cells (clC hv gv bv n)) := by simp
  have e0 : (clC hv gv bv n)[0]? = some hv := rfl
  have g0 : Grows σ (σ ++ [AObj.cells (clC hv gv bv n)]) := Grows.app _ _
  simp -dsimp only [↓WPd, ↓wpC_block, ↓wpC_cond, WPu, Bool.false_eq_true, Bool.true_eq_false, Bool.not_true, Bool.not_false, if_true, if_false, ite_true, ite_false, Nat.reduceEqDiff, Nat.reduceLT, true_and, List.map_cons, List.map_nil, Nat.zero_add, Nat.reduceBEq, cells_agg, clC_one h1 h2 h3]
  generalize σ ++ [AObj.cells (clC hv gv bv n)] = σ1 at ho g0
  generalize hq : σ.length = i1 at ho
  simp -dsimp only [↓WPd, ↓wpC_block, ↓wpC_cond, WPu, Bool.false_eq_true, Bool.true_eq_false, Bool.not_true, Bool.not_false, if_true, if_false, ite_true, ite_false, Nat.reduceEqDiff, Nat.reduceLT, true_and, List.map_cons, List.map_nil, Nat.zero_add, Nat.reduceBEq, faddr_ptr, Nat.add_zero, load_cells ho, e0]
  refine calledW_of (rvarsof_ok d σ1 hv p sp (hp.grow g0)) ?_
  rintro l σ2 ⟨g2, ol⟩
  have hvl := varsL_len [] p
  simp only [List.length_nil, Nat.zero_add] at hvl
  have hsp := sp.1
  generalize varsL [] p = ws at *
  have g02 := g0.trans g2
  have hc := countC_le n
  have hcnt := fun σ' : Store => rcount_ok d σ' hv gv bv n h1 h2 h3
  generalize countC n = N at *
  have ol3 := ol.sl
  have ho2 := g2.get ho
  have wk : ∀ k : Nat, k < N → IntKind.i64.wrap ((k : Int) + 1) = ((k + 1 : Nat) : Int) := fun k hk => by rw [wrap_i64 (by omega) (by omega), Int.natCast_add, Int.natCast_one]
  simp -dsimp only [↓WPd, ↓wpC_block, ↓wpC_cond, WPu, Bool.false_eq_true, Bool.true_eq_false, Bool.not_true, Bool.not_false, if_true, if_false, ite_true, ite_false, Nat.reduceEqDiff, Nat.reduceLT, true_and, List.map_cons, List.map_nil, Nat.zero_add, Nat.reduceBEq]
  refine loop_rule2 (fun m vs σ' => ∃ k acc, k ≤ N ∧ m = N - k ∧ vs = [.ptr i1 0, l, acc, .int .i64 k] ∧ Grows σ2 σ' ∧ Own σ' 1 acc (II (freeF ws k)) ∧ Fresh σ2.length acc)
    [4] (fun e vs σ' => e = .exit 0 ∧ ∃ acc, vs = [acc] ∧ Grows σ2 σ' ∧ Own σ' 1 acc (II (freeF ws N))) N ⟨0, .nilslice, Nat.zero_le _, rfl, ?_, Keeps.refl _ _, by rw [freeF_zero]; exact Own.nil _ _, Fresh.nil _⟩ ?_ ?_
  · simp -dsimp only [↓WPd, ↓wpC_block, ↓wpC_cond, WPu, Bool.false_eq_true, Bool.true_eq_false, Bool.not_true, Bool.not_false, if_true, if_false, ite_true, ite_false, Nat.reduceEqDiff, Nat.reduceLT, true_and, List.map_cons, List.map_nil, Nat.zero_add, Nat.reduceBEq]; rfl
  · rintro m vs σ'' ⟨k, acc, hk, rfl, rfl, g', oa', fa⟩
    simp -dsimp only [↓WPd, ↓wpC_block, ↓wpC_cond, WPu, Bool.false_eq_true, Bool.true_eq_false, Bool.not_true, Bool.not_false, if_true, if_false, ite_true, ite_false, Nat.reduceEqDiff, Nat.reduceLT, true_and, List.map_cons, List.map_nil, Nat.zero_add, Nat.reduceBEq, loadN_cells (n := 4) (g'.get ho2) rfl]
    refine calledW_of (hcnt σ'') ?_
    rintro r σ' ⟨rfl, gc⟩
    have g := g'.trans gc
    have oa := oa'.grow gc
    simp -dsimp only [↓WPd, ↓wpC_block, ↓wpC_cond, WPu, Bool.false_eq_true, Bool.true_eq_false, Bool.not_true, Bool.not_false, if_true, if_false, ite_true, ite_false, Nat.reduceEqDiff, Nat.reduceLT, true_and, List.map_cons, List.map_nil, Nat.zero_add, Nat.reduceBEq]
    refine condP_dec (fun h => ?_) (fun h => ?_)
    · have hk' : k < N := by omega
      have hs := freeF_succ ws k
      have hle := freeF_le ws k
      simp -dsimp only [↓WPd, ↓wpC_block, ↓wpC_cond, WPu, Bool.false_eq_true, Bool.true_eq_false, Bool.not_true, Bool.not_false, if_true, if_false, ite_true, ite_false, Nat.reduceEqDiff, Nat.reduceLT, true_and, List.map_cons, List.map_nil, Nat.zero_add, Nat.reduceBEq, loc_build]
      refine calledW_of (hasname_ok d σ' l ws (-1, (k : Int)) (by omega) (ol3.grow g)) ?_
      rintro r σ4 ⟨rfl, g4⟩
      cases hcn : ws.contains ((-1 : Int), (k : Int)) with
      | true =>
        rw [hcn, if_pos rfl] at hs
        simp -dsimp only [↓WPd, ↓wpC_block, ↓wpC_cond, WPu, Bool.false_eq_true, Bool.true_eq_false, Bool.not_true, Bool.not_false, if_true, if_false, ite_true, ite_false, Nat.reduceEqDiff, Nat.reduceLT, true_and, List.map_cons, List.map_nil, Nat.zero_add, Nat.reduceBEq, wk k hk']
        refine ⟨N - (k + 1), by omega, k + 1, acc, by omega, rfl, rfl, g.trans g4, ?_, fa⟩
        rw [hs]; exact oa.grow g4
      | false =>
        rw [hcn, if_neg (by simp)] at hs
        obtain ⟨a', σ5, p1, p2, p3, p4, p5⟩ := (oa.grow g4).append [.int .i64 (k : Int)] 8 (by simp only [List.length_map, List.length_singleton]; omega)
        simp -dsimp only [↓WPd, ↓wpC_block, ↓wpC_cond, WPu, Bool.false_eq_true, Bool.true_eq_false, Bool.not_true, Bool.not_false, if_true, if_false, ite_true, ite_false, Nat.reduceEqDiff, Nat.reduceLT, true_and, List.map_cons, List.map_nil, Nat.zero_add, Nat.reduceBEq, int_lit, elems_fs, p1, wk k hk']
        refine ⟨N - (k + 1), by omega, k + 1, a', by omega, rfl, rfl, Keeps.trans (g.trans g4) p3 fun i hi e => by have := fa i e; omega, ?_, fun i hi => ?_⟩
        · rw [hs]
          have e : II (freeF ws k ++ [k]) = II (freeF ws k) ++ [.int .i64 (k : Int)] := by simp [II]
          rw [e]; exact p2
        · rcases p4 i hi with e | e
          · exact fa i e
          · have := (g.trans g4).1; omega
    · have : k = N := by omega
      subst this
      simp -dsimp only [↓WPd, ↓wpC_block, ↓wpC_cond, WPu, Bool.false_eq_true, Bool.true_eq_false, Bool.not_true, Bool.not_false, if_true, if_false, ite_true, ite_false, Nat.reduceEqDiff, Nat.reduceLT, true_and, List.map_cons, List.map_nil, Nat.zero_add, Nat.reduceBEq]
      exact ⟨acc, rfl, g, oa⟩
  · rintro e σ' env ⟨rfl, acc, hv', g, oa⟩
    simp only [List.map_cons, List.map_nil, List.cons.injEq, and_true] at hv'
    simp -dsimp only [↓WPd, ↓wpC_block, ↓wpC_cond, WPu, Bool.false_eq_true, Bool.true_eq_false, Bool.not_true, Bool.not_false, if_true, if_false, ite_true, ite_false, Nat.reduceEqDiff, Nat.reduceLT, true_and, List.map_cons, List.map_nil, Nat.zero_add, Nat.reduceBEq, hv']
    exact ⟨g02.trans g, oa⟩
end
end Go.Proofs.YtkjnanfkclijcaaDoor.Am

namespace Go.Proofs.YtkjnanfkclijcaaDoor.Am
open Go
set_option linter.unusedVariables false
set_option linter.unusedSimpArgs false
set_option linter.unusedSectionVars false
set_option maxRecDepth 100000
def bodyE : List (List Cel) → List (List Cel) → Int
  | [], _ => 0
  | t :: ts, ls => if putE t ls = 0 then bodyE ts ls else putE t ls
def bodyT (ts ls : List (List Cel)) : List (List Cel) := if bodyE ts ls = 0 then ts.map fun t => putT t ls else []
theorem bodyE_all : ∀ {ts ls : List (List Cel)}, (∀ (j : Nat) (h : j < ts.length), putE ts[j] ls = 0) → bodyE ts ls = 0
  | [], _, _ => rfl
  | t :: ts, ls, h => by
    have h0 := h 0 (by simp)
    simp only [List.getElem_cons_zero] at h0
    simp only [bodyE, h0, if_true]
    exact bodyE_all fun j hj => by have := h (j + 1) (by simpa using hj); simpa using this
theorem bodyE_at : ∀ {ts ls : List (List Cel)} {k : Nat} (hk : k < ts.length), (∀ (j : Nat) (h : j < ts.length), j < k → putE ts[j] ls = 0) → putE ts[k] ls ≠ 0 → bodyE ts ls = putE ts[k] ls
  | t :: ts, ls, 0, hk, h, hn => by simp only [List.getElem_cons_zero] at hn ⊢; simp only [bodyE, if_neg hn]
  | t :: ts, ls, k + 1, hk, h, hn => by
    have h0 := h 0 (by simp) (by omega)
    simp only [List.getElem_cons_zero] at h0
    simp only [List.getElem_cons_succ] at hn ⊢
    simp only [bodyE, h0, if_true]
    exact bodyE_at (by simpa using hk) (fun j hj hjk => by have := h (j + 1) (by simpa using hj) (by omega); simpa using this) hn
theorem body_same {azs bs : List (List Cel)} (h : ∀ i, lkL azs i = lkL bs i) (ts : List (List Cel)) : bodyE ts azs = bodyE ts bs ∧ bodyT ts azs = bodyT ts bs := by
  have h1 : bodyE ts azs = bodyE ts bs := by
    induction ts with
    | nil => rfl
    | cons t ts ih => simp only [bodyE, (put_same h t).1, ih]
  refine ⟨h1, ?_⟩
  have h2 : (fun t => putT t azs) = fun t => putT t bs := funext fun t => (put_same h t).2
  simp only [bodyT, h1, h2]
theorem varT_small (v : Nm) : Small (varT v) := by
  unfold varT; split
  · exact vcel_small v
  · exact ⟨by simp, fun c h => by cases h⟩
theorem small_nil : Small [] := ⟨by simp, fun c h => by cases h⟩
def TT (σ : Store) (v : AVal) (ls : List (List Cel)) : Prop := ∃ es, Own σ 1 v es ∧ NoLit v ∧ Two Told es ls
theorem TT.terms {σ : Store} {v : AVal} {ls : List (List Cel)} (h : TT σ v ls) : Terms σ v ls := by
  obtain ⟨es, h1, -, h3⟩ := h
  exact ⟨es, h1.sl, h3.mono fun e t h => h σ⟩
theorem TT.grow {σ σ' : Store} {v : AVal} {ls : List (List Cel)} (h : TT σ v ls) (g : Grows σ σ') : TT σ' v ls := by
  obtain ⟨es, h1, h2, h3⟩ := h
  exact ⟨es, h1.grow g, h2, h3⟩
theorem TT.len {σ : Store} {v : AVal} {ls : List (List Cel)} (h : TT σ v ls) : lenSV v = some ls.length := h.terms.len
def TA (v : AVal) (ls : List (List Cel)) : Prop := ∃ es, (∀ σ : Store, SlOf σ 1 v es) ∧ Two Told es ls
theorem TA.terms {v : AVal} {ls : List (List Cel)} (h : TA v ls) (σ : Store) : Terms σ v ls := by
  obtain ⟨es, h1, h3⟩ := h
  exact ⟨es, h1 σ, h3.mono fun e t h => h σ⟩
theorem TT.pad {σ : Store} {v : AVal} {ls : List (List Cel)} {lo : Nat} (h : TT σ v ls) (hf : Fresh lo v) (hlo : lo ≤ σ.length) (hl : ls.length < 2 ^ 30) : ∃ v' σ', appendV σ 1 24 v [.nilslice] = some (v', σ') ∧ TT σ' v' (ls ++ [[]]) ∧ Fresh lo v' ∧ Keeps (fun i => lo ≤ i) σ σ' := by
  obtain ⟨es, h1, h2, h3⟩ := h
  have hle := h3.len
  obtain ⟨v', σ', p1, p2, p3, p4, p5⟩ := h1.append [.nilslice] 24 (by simp only [List.length_singleton]; omega)
  refine ⟨v', σ', p1, ⟨_, p2, p5 (.inl h2), h3.push Told.nil⟩, fun i hi => ?_, p3.mono fun i _ e => hf i e⟩
  rcases p4 i hi with e | e
  · exact hf i e
  · omega
theorem TT.set {σ : Store} {v : AVal} {ls : List (List Cel)} {lo j : Nat} {u : AVal} {t : List Cel} (h : TT σ v ls) (hf : Fresh lo v) (hj : j < ls.length) (hu : Told u t) : ∃ σ', storeV σ 1 (addrOf 1 v j) u = some σ' ∧ TT σ' v (ls.set j t) ∧ Keeps (fun i => lo ≤ i) σ σ' := by
  obtain ⟨es, h1, h2, h3⟩ := h
  have hj' : j < es.length := by rw [h3.len]; exact hj
  obtain ⟨e, e1, e2⟩ := h3.get hj
  have hee : es[j] = e := by rw [List.getElem?_eq_getElem hj'] at e1; exact Option.some.inj e1
  have o1 := (e2 σ).one
  have o2 := (hu σ).one
  have hc : u.cells = [u] := by cases u <;> simp_all [AVal.one]
  have hc2 : e.cells = [e] := by cases e <;> simp_all [AVal.one]
  have hr : e.reform [u] = u := by cases e <;> simp_all [AVal.one, AVal.reform]
  obtain ⟨σ', p1, p2, p3, -⟩ := h1.store h2 hj' (x := u) (by rw [hc]; simp only [List.all_cons, List.all_nil, o2]; rfl) (by rw [hc]; rfl) (by rw [hee, hc2]; rfl) (by rw [hee, hc]; exact hr)
  exact ⟨σ', p1, ⟨_, p2, h2, Two.set h3 j hu⟩, p3.mono fun i _ e => hf i e⟩
def BodyOk (σ σ' : Store) (r : AVal) (e : Int) (os : List (List Cel)) : Prop := ∃ u, r = .tuple [u, .int .i64 e] ∧ Grows σ σ' ∧ Terms σ' u os
theorem ints_at {σ : Store} {l : AVal} {fs : List Nat} (hl : SlOf σ 1 l (II fs)) {i : Nat} (hi : i < fs.length) : iaddrV 1 l (.int .i64 i) = some (addrOf 1 l i) ∧ loadV σ 1 false (addrOf 1 l i) = some (.int .i64 (fs[i] : Nat)) := by
  have hi' : i < (II fs).length := by rw [List.length_map]; exact hi
  have e : (II fs)[i] = .int .i64 (fs[i] : Nat) := by simp
  refine ⟨hl.iaddr hi' .i64, ?_⟩
  have := hl.load1 hi' (by rw [e]; rfl) 1
  rw [e] at this; exact this
theorem padS_small {ls : List (List Cel)} {v : Nat} {x : List Cel} (h : ∀ l ∈ ls, Small l) (hx : Small x) : ∀ l ∈ padS ls v x, Small l := by
  intro l hl
  rcases List.mem_or_eq_of_mem_set hl with h1 | h1
  · rcases List.mem_append.1 h1 with h2 | h2
    · exact h l h2
    · rw [List.eq_of_mem_replicate h2]; exact small_nil
  · rw [h1]; exact hx
section
variable (d : Nat) (σ : Store)
theorem tclone_ok (b : AVal) (es : List AVal) (hs : es.length < 2 ^ 30) (hb : SlOf σ 1 b es) : Called CU.cfg d 88 [b] σ fun v σ' => Grows σ σ' ∧ Own σ' 1 v es ∧ Fresh σ.length v ∧ NoLit v := by
  refine called_of (fn := CU.a88) rfl (Nat.le_of_ble_eq_true rfl) ?_
  obtain ⟨x, hx, hx'⟩ := hb.isnil
  simp only [CU.a88]
  simp -dsimp only [↓WPd, ↓wpC_block, ↓wpC_cond, WPu, Bool.false_eq_true, Bool.true_eq_false, Bool.not_true, Bool.not_false, if_true, if_false, ite_true, ite_false, Nat.reduceEqDiff, Nat.reduceLT, true_and, List.map_cons, List.map_nil, Nat.zero_add, Nat.reduceBEq, hx, Bool.false_eq_true]
  refine condP_intro (fun h => ?_) (fun h => ?_)
  · obtain ⟨rfl, he⟩ := hx' h
    simp -dsimp only [↓WPd, ↓wpC_block, ↓wpC_cond, WPu, Bool.false_eq_true, Bool.true_eq_false, Bool.not_true, Bool.not_false, if_true, if_false, ite_true, ite_false, Nat.reduceEqDiff, Nat.reduceLT, true_and, List.map_cons, List.map_nil, Nat.zero_add, Nat.reduceBEq]
    exact ⟨Keeps.refl _ _, by rw [he]; exact Own.nil _ _, (fun id h => by cases h), trivial⟩
  · simp -dsimp only [↓WPd, ↓wpC_block, ↓wpC_cond, WPu, Bool.false_eq_true, Bool.true_eq_false, Bool.not_true, Bool.not_false, if_true, if_false, ite_true, ite_false, Nat.reduceEqDiff, Nat.reduceLT, true_and, List.map_cons, List.map_nil, Nat.zero_add, Nat.reduceBEq, hb.els]
    refine stepP_of [] rfl ?_
    have ho : Own σ 1 (.fslice (AVal.tagL []) true 1 []) [] := ⟨.inr (.inl ⟨_, rfl⟩)⟩
    obtain ⟨v', σ', h1, h2, h3, h4, h5⟩ := ho.append es 24 (by simp; omega)
    simp -dsimp only [↓WPd, ↓wpC_block, ↓wpC_cond, WPu, Bool.false_eq_true, Bool.true_eq_false, Bool.not_true, Bool.not_false, if_true, if_false, ite_true, ite_false, Nat.reduceEqDiff, Nat.reduceLT, true_and, List.map_cons, List.map_nil, Nat.zero_add, Nat.reduceBEq, hb.els, h1]
    refine ⟨h3.mono (fun i _ h => by cases h), by simpa using h2, fun id hid => ?_, h5 (.inl rfl)⟩
    rcases h4 id hid with h | h
    · cases h
    · omega
set_option maxHeartbeats 1000000 in
theorem mbody_ok (hv gv bv lv fv : AVal) (n : Int) (p : List Cel) (bs ls : List (List Cel)) (fr : List Nm) (h2 : gv.one = true) (sp : Small p) (hp : Told hv p) (hb : TA bv bs) (hbl : bs.length < 2 ^ 30) (sb : ∀ t ∈ bs, Small t) (hl : TA lv ls) (hll : ls.length < 2 ^ 30) (sl : ∀ t ∈ ls, Small t) (hf : ∀ σ : Store, SlOf σ 2 fv (NN fr)) (hfl : fr.length < 2 ^ 30) :
    Called CU.cfg d 30 [.agg (clC hv gv bv n), lv, fv] σ fun r σ' =>
      if (freeF (varsL [] p) (countC n)).length = fr.length then BodyOk σ σ' r (bodyE bs (allP ls (countC n) ((freeF (varsL [] p) (countC n)).zip fr))) (bodyT bs (allP ls (countC n) ((freeF (varsL [] p) (countC n)).zip fr))) else BodyOk σ σ' r 4 [] := by
  refine called_of (fn := CU.a30) rfl (Nat.le_of_ble_eq_true rfl) ?_
  simp only [CU.a30]
  have h1 := (hp σ).one
  obtain ⟨bes, hb1, hb2⟩ := hb
  have h3 := (hb1 σ).one
  have ho : (σ ++ [AObj.cells (clC hv gv bv n)])[σ.length]? = some (.cells (clC hv gv bv n)) := by simp
  have e2 : (clC hv gv bv n)[2]? = some bv := rfl
  have g0 : Grows σ (σ ++ [AObj.cells (clC hv gv bv n)]) := Grows.app _ _
  simp -dsimp only [↓WPd, ↓wpC_block, ↓wpC_cond, WPu, Bool.false_eq_true, Bool.true_eq_false, Bool.not_true, Bool.not_false, if_true, if_false, ite_true, ite_false, Nat.reduceEqDiff, Nat.reduceLT, true_and, List.map_cons, List.map_nil, Nat.zero_add, Nat.reduceBEq, cells_agg, clC_one h1 h2 h3]
  generalize σ ++ [AObj.cells (clC hv gv bv n)] = σ1 at ho g0
  generalize hq : σ.length = i1 at ho
  simp -dsimp only [↓WPd, ↓wpC_block, ↓wpC_cond, WPu, Bool.false_eq_true, Bool.true_eq_false, Bool.not_true, Bool.not_false, if_true, if_false, ite_true, ite_false, Nat.reduceEqDiff, Nat.reduceLT, true_and, List.map_cons, List.map_nil, Nat.zero_add, Nat.reduceBEq, loadN_cells (n := 4) ho rfl]
  refine calledW_of (free_ok d σ1 hv gv bv n p h2 h3 sp (hp σ1)) ?_
  rintro fl σ2 ⟨g2, of⟩
  have hN := countC_le n
  have hfle := freeF_le (varsL [] p) (countC n)
  have hflt : ∀ i ∈ freeF (varsL [] p) (countC n), i < countC n := fun i hi => freeF_lt hi
  generalize freeF (varsL [] p) (countC n) = fs at *
  have lfl := of.sl.len
  rw [List.length_map] at lfl
  have lfr := names_len (hf σ)
  have g02 := g0.trans g2
  simp -dsimp only [↓WPd, ↓wpC_block, ↓wpC_cond, WPu, Bool.false_eq_true, Bool.true_eq_false, Bool.not_true, Bool.not_false, if_true, if_false, ite_true, ite_false, Nat.reduceEqDiff, Nat.reduceLT, true_and, List.map_cons, List.map_nil, Nat.zero_add, Nat.reduceBEq, lfl, lfr]
  by_cases hc : fs.length = fr.length
  · have ec : ((fr.length : Int) != (fs.length : Int)) = false := by rw [hc]; simp
    have ho2 := g2.get ho
    obtain ⟨les, hl1, hl2⟩ := hl
    have lll := (hl1 σ).len
    have hcnt := fun σ' : Store => count_ok d σ' hv gv bv n h1 h2 h3
    generalize countC n = N at *
    simp -dsimp only [↓WPd, ↓wpC_block, ↓wpC_cond, WPu, Bool.false_eq_true, Bool.true_eq_false, Bool.not_true, Bool.not_false, if_true, if_false, ite_true, ite_false, Nat.reduceEqDiff, Nat.reduceLT, true_and, List.map_cons, List.map_nil, Nat.zero_add, Nat.reduceBEq, ec, if_pos hc, lll, loadN_cells (n := 4) ho2 rfl]
    refine calledW_of (hcnt σ2) ?_
    rintro r σ3 ⟨rfl, g3⟩
    have emin : foldV minV (.int .i64 (les.length : Nat)) [.int .i64 (N : Nat)] = some (.int .i64 (min les.length N : Nat)) := by
      have : (if (N : Int) < (les.length : Int) then (N : Int) else (les.length : Int)) = ((min les.length N : Nat) : Int) := by split <;> omega
      simp only [foldV, minV, if_true, this]
    obtain ⟨sv, q1, q2, -⟩ := (hl1 σ3).sub_hi (hi := min les.length N) (Nat.min_le_left _ _) .i64
    simp -dsimp only [↓WPd, ↓wpC_block, ↓wpC_cond, WPu, Bool.false_eq_true, Bool.true_eq_false, Bool.not_true, Bool.not_false, if_true, if_false, ite_true, ite_false, Nat.reduceEqDiff, Nat.reduceLT, true_and, List.map_cons, List.map_nil, Nat.zero_add, Nat.reduceBEq, emin, oev, q1]
    refine calledW_of (tclone_ok d σ3 sv _ (by rw [List.length_take]; omega) q2) ?_
    rintro av σ4 ⟨g4, oa, fa, na⟩
    have hlen2 := hl2.len
    have htk : ls.take (min les.length N) = ls.take N := by
      rw [hlen2, Nat.min_comm, ← List.take_eq_take_min]
    have ta : TT σ4 av (allP ls N ((fs.zip fr).take 0)) := ⟨_, oa, na, by have := hl2.take (min les.length N); rw [htk] at this; exact this⟩
    have hzl : (fs.zip fr).length = fs.length := by rw [List.length_zip, hc, Nat.min_self]
    have hzm : ∀ (k : Nat) (q : Nat × Nm), q ∈ (fs.zip fr).take k → q.1 < N := fun k q hq => hflt q.1 (List.of_mem_zip (List.mem_of_mem_take hq)).1
    have hz : ∀ (k : Nat) (hk : k < fs.length), (fs.zip fr).take (k + 1) = (fs.zip fr).take k ++ [(fs[k], fr[k])] := fun k hk => by
      rw [List.take_succ_eq_append_getElem (by omega), List.getElem_zip]
    have hsm0 : ∀ l ∈ allP ls N ((fs.zip fr).take 0), Small l := fun l h => sl l (List.mem_of_mem_take h)
    have of3 := (of.sl.grow g3)
    have g24 := g3.trans g4
    simp -dsimp only [↓WPd, ↓wpC_block, ↓wpC_cond, WPu, Bool.false_eq_true, Bool.true_eq_false, Bool.not_true, Bool.not_false, if_true, if_false, ite_true, ite_false, Nat.reduceEqDiff, Nat.reduceLT, true_and, List.map_cons, List.map_nil, Nat.zero_add, Nat.reduceBEq, lfl]
    refine loop_rule2 (fun m vs σ' => ∃ k a, k ≤ fs.length ∧ m = fs.length - k ∧ vs = [fv, .ptr i1 0, a, fl, .int .i64 fs.length, .int .i64 k] ∧ Grows σ3 σ' ∧ TT σ' a (allP ls N ((fs.zip fr).take k)) ∧ Fresh σ3.length a ∧ ∀ l ∈ allP ls N ((fs.zip fr).take k), Small l)
      [3, 9] (fun e vs σ' => e = .exit 0 ∧ ∃ a, vs = [.ptr i1 0, a] ∧ Grows σ3 σ' ∧ TT σ' a (allP ls N (fs.zip fr)) ∧ ∀ l ∈ allP ls N (fs.zip fr), Small l) fs.length ⟨0, av, Nat.zero_le _, rfl, ?_, g4, ta, fa, hsm0⟩ ?_ ?_
    · simp -dsimp only [↓WPd, ↓wpC_block, ↓wpC_cond, WPu, Bool.false_eq_true, Bool.true_eq_false, Bool.not_true, Bool.not_false, if_true, if_false, ite_true, ite_false, Nat.reduceEqDiff, Nat.reduceLT, true_and, List.map_cons, List.map_nil, Nat.zero_add, Nat.reduceBEq]; rfl
    · rintro m vs σ' ⟨k, a, hk, rfl, rfl, g, tt, fra, hsm⟩
      simp -dsimp only [↓WPd, ↓wpC_block, ↓wpC_cond, WPu, Bool.false_eq_true, Bool.true_eq_false, Bool.not_true, Bool.not_false, if_true, if_false, ite_true, ite_false, Nat.reduceEqDiff, Nat.reduceLT, true_and, List.map_cons, List.map_nil, Nat.zero_add, Nat.reduceBEq]
      refine condP_dec (fun h => ?_) (fun h => ?_)
      · have hk' : k < fs.length := by omega
        obtain ⟨a1, a2⟩ := ints_at (of3.grow g) hk'
        have hv := hflt _ (List.getElem_mem hk')
        have hzk := hz k hk'
        obtain ⟨-, hal, -⟩ := all_same ls N ((fs.zip fr).take k) (hzm k)
        have hkr : k < fr.length := by omega
        have hst : allP ls N ((fs.zip fr).take (k + 1)) = padS (allP ls N ((fs.zip fr).take k)) fs[k] (varT fr[k]) := by rw [hzk, allP_snoc]
        simp -dsimp only [↓WPd, ↓wpC_block, ↓wpC_cond, WPu, Bool.false_eq_true, Bool.true_eq_false, Bool.not_true, Bool.not_false, if_true, if_false, ite_true, ite_false, Nat.reduceEqDiff, Nat.reduceLT, true_and, List.map_cons, List.map_nil, Nat.zero_add, Nat.reduceBEq, a1, a2]
        generalize fs[k] = v at *
        generalize allP ls N ((fs.zip fr).take k) = A at *
        refine loop_rule2 (fun m vs σ5 => ∃ j a, j ≤ v + 1 - A.length ∧ m = v + 1 - A.length - j ∧ vs = [fv, .ptr i1 0, a, .int .i64 k, .int .i64 v, fl, .int .i64 fs.length, .int .i64 k] ∧ Grows σ3 σ5 ∧ TT σ5 a (A ++ List.replicate j []) ∧ Fresh σ3.length a)
          [2, 3, 9, 10, 11, 32, 33, 34] (fun e vs σ5 => e = .exit 2 ∧ ∃ a, vs = [fv, .ptr i1 0, a, .int .i64 k, .int .i64 v, fl, .int .i64 fs.length, .int .i64 k] ∧ Grows σ3 σ5 ∧ TT σ5 a (A ++ List.replicate (v + 1 - A.length) []) ∧ Fresh σ3.length a) (v + 1 - A.length) ⟨0, a, Nat.zero_le _, rfl, ?_, g, by simpa using tt, fra⟩ ?_ ?_
        · simp -dsimp only [↓WPd, ↓wpC_block, ↓wpC_cond, WPu, Bool.false_eq_true, Bool.true_eq_false, Bool.not_true, Bool.not_false, if_true, if_false, ite_true, ite_false, Nat.reduceEqDiff, Nat.reduceLT, true_and, List.map_cons, List.map_nil, Nat.zero_add, Nat.reduceBEq]
        · rintro m vs σ5 ⟨j, a, hj, rfl, rfl, g5, tt5, fr5⟩
          have la := tt5.len
          rw [List.length_append, List.length_replicate] at la
          simp -dsimp only [↓WPd, ↓wpC_block, ↓wpC_cond, WPu, Bool.false_eq_true, Bool.true_eq_false, Bool.not_true, Bool.not_false, if_true, if_false, ite_true, ite_false, Nat.reduceEqDiff, Nat.reduceLT, true_and, List.map_cons, List.map_nil, Nat.zero_add, Nat.reduceBEq, la]
          refine condP_dec (fun h => ?_) (fun h => ?_)
          · obtain ⟨a', σ6, p1, p2, p3, p4⟩ := tt5.pad fr5 g5.1 (by rw [List.length_append, List.length_replicate]; omega)
            simp -dsimp only [↓WPd, ↓wpC_block, ↓wpC_cond, WPu, Bool.false_eq_true, Bool.true_eq_false, Bool.not_true, Bool.not_false, if_true, if_false, ite_true, ite_false, Nat.reduceEqDiff, Nat.reduceLT, true_and, List.map_cons, List.map_nil, Nat.zero_add, Nat.reduceBEq, lit1_ok (a := .nilslice) rfl, elems1, p1]
            refine ⟨v + 1 - A.length - (j + 1), by omega, j + 1, a', by omega, rfl, rfl, Keeps.trans g5 p4 fun i hi e => by omega, ?_, p3⟩
            rw [List.append_assoc, ← List.replicate_succ'] at p2; exact p2
          · have : j = v + 1 - A.length := by omega
            subst this
            simp -dsimp only [↓WPd, ↓wpC_block, ↓wpC_cond, WPu, Bool.false_eq_true, Bool.true_eq_false, Bool.not_true, Bool.not_false, if_true, if_false, ite_true, ite_false, Nat.reduceEqDiff, Nat.reduceLT, true_and, List.map_cons, List.map_nil, Nat.zero_add, Nat.reduceBEq]
            exact ⟨a, rfl, g5, tt5, fr5⟩
        · rintro e σ5 env ⟨rfl, a, hv', g5, tt5, fr5⟩
          simp only [List.map_cons, List.map_nil, List.cons.injEq, and_true] at hv'
          obtain ⟨v2, v3, v9, v10, v11, v32, v33, v34⟩ := hv'
          obtain ⟨b1, b2⟩ := names_at (hf σ5) hkr
          simp -dsimp only [↓WPd, ↓wpC_block, ↓wpC_cond, WPu, Bool.false_eq_true, Bool.true_eq_false, Bool.not_true, Bool.not_false, if_true, if_false, ite_true, ite_false, Nat.reduceEqDiff, Nat.reduceLT, true_and, List.map_cons, List.map_nil, Nat.zero_add, Nat.reduceBEq, v2, v3, v9, v10, v11, v32, v33, v34, b1, b2]
          refine calledW_of (ofvar_ok d σ5 fr[k]) ?_
          rintro u σ6 ⟨tu, g6⟩
          have tt6 := tt5.grow g6
          have hvl : v < (A ++ List.replicate (v + 1 - A.length) []).length := by rw [List.length_append, List.length_replicate]; omega
          obtain ⟨σ7, p1, p2, p3⟩ := tt6.set fr5 hvl tu
          have ia : iaddrV 1 a (.int .i64 v) = some (addrOf 1 a v) := by
            obtain ⟨es, o1, o2, o3⟩ := tt6
            exact o1.sl.iaddr (by rw [o3.len]; exact hvl) .i64
          have wk : IntKind.i64.wrap ((k : Int) + 1) = ((k + 1 : Nat) : Int) := by rw [wrap_i64 (by omega) (by omega), Int.natCast_add, Int.natCast_one]
          simp -dsimp only [↓WPd, ↓wpC_block, ↓wpC_cond, WPu, Bool.false_eq_true, Bool.true_eq_false, Bool.not_true, Bool.not_false, if_true, if_false, ite_true, ite_false, Nat.reduceEqDiff, Nat.reduceLT, true_and, List.map_cons, List.map_nil, Nat.zero_add, Nat.reduceBEq, v2, v3, v9, v10, v11, v32, v33, v34, ia, p1, wk]
          refine ⟨fs.length - (k + 1), by omega, k + 1, a, by omega, rfl, rfl, Keeps.trans (g5.trans g6) p3 fun i hi e => by omega, ?_, fr5, ?_⟩
          · rw [hst]; exact p2
          · rw [hst]; exact padS_small hsm (varT_small _)
      · have : k = fs.length := by omega
        subst this
        rw [← hzl, List.take_length] at tt hsm
        simp -dsimp only [↓WPd, ↓wpC_block, ↓wpC_cond, WPu, Bool.false_eq_true, Bool.true_eq_false, Bool.not_true, Bool.not_false, if_true, if_false, ite_true, ite_false, Nat.reduceEqDiff, Nat.reduceLT, true_and, List.map_cons, List.map_nil, Nat.zero_add, Nat.reduceBEq]
        exact ⟨a, rfl, g, tt, hsm⟩
    · rintro e σ5 env ⟨rfl, a, hv', g5, tt, hsm⟩
      simp only [List.map_cons, List.map_nil, List.cons.injEq, and_true] at hv'
      obtain ⟨v3, v9⟩ := hv'
      obtain ⟨-, hal, -⟩ := all_same ls N (fs.zip fr) (fun q hq => hflt q.1 (List.of_mem_zip hq).1)
      generalize allP ls N (fs.zip fr) = A at *
      have g05 := (g02.trans g3).trans g5
      have ho5 := (g5.get (g3.get ho2))
      have lb := (hb1 σ5).len
      have hblen := hb2.len
      rw [hblen] at lb
      simp -dsimp only [↓WPd, ↓wpC_block, ↓wpC_cond, WPu, Bool.false_eq_true, Bool.true_eq_false, Bool.not_true, Bool.not_false, if_true, if_false, ite_true, ite_false, Nat.reduceEqDiff, Nat.reduceLT, true_and, List.map_cons, List.map_nil, Nat.zero_add, Nat.reduceBEq, v3, v9, faddr_ptr, Nat.zero_add, load_cells ho5, e2, lb]
      refine loop_rule2 (fun m vs σ' => ∃ k o es, k ≤ bs.length ∧ m = bs.length - k ∧ vs = [a, o, bv, .int .i64 bs.length, .int .i64 k] ∧ Grows σ5 σ' ∧ ORows σ' σ5.length 5 o es (((bs.take k).map fun t => putT t A).map CC) ∧ ∀ (j : Nat) (hj : j < bs.length), j < k → putE bs[j] A = 0)
        [6, 7, 12] (fun e vs σ' => Grows σ5 σ' ∧ ((e = .exit 4 ∧ ∃ x y o es, vs = [x, y, o] ∧ ORows σ' σ5.length 5 o es ((bs.map fun t => putT t A).map CC) ∧ bodyE bs A = 0) ∨ (e = .ret ∧ (∃ x, vs = [.nilslice, .int .i64 (bodyE bs A), x]) ∧ bodyE bs A ≠ 0))) bs.length ⟨0, .nilslice, [], Nat.zero_le _, rfl, ?_, Keeps.refl _ _, ORows.nil _ _ _, fun j _ h => by omega⟩ ?_ ?_
      · simp -dsimp only [↓WPd, ↓wpC_block, ↓wpC_cond, WPu, Bool.false_eq_true, Bool.true_eq_false, Bool.not_true, Bool.not_false, if_true, if_false, ite_true, ite_false, Nat.reduceEqDiff, Nat.reduceLT, true_and, List.map_cons, List.map_nil, Nat.zero_add, Nat.reduceBEq, v9]; rfl
      · rintro m vs σ' ⟨k, o, es, hk, rfl, rfl, g, oo, hall⟩
        simp -dsimp only [↓WPd, ↓wpC_block, ↓wpC_cond, WPu, Bool.false_eq_true, Bool.true_eq_false, Bool.not_true, Bool.not_false, if_true, if_false, ite_true, ite_false, Nat.reduceEqDiff, Nat.reduceLT, true_and, List.map_cons, List.map_nil, Nat.zero_add, Nat.reduceBEq]
        refine condP_dec (fun h => ?_) (fun h => ?_)
        · have hk' : k < bs.length := by omega
          have hke : k < bes.length := by omega
          obtain ⟨x, x1, x2⟩ := hb2.get hk'
          have hee : bes[k] = x := by rw [List.getElem?_eq_getElem hke] at x1; exact Option.some.inj x1
          have a1 : iaddrV 1 bv (.int .i64 k) = some (addrOf 1 bv k) := (hb1 σ').iaddr hke .i64
          have a2 : loadV σ' 1 false (addrOf 1 bv k) = some x := by
            have := (hb1 σ').load1 hke (by rw [hee]; exact (x2 σ').one) 1
            rw [hee] at this; exact this
          have hlen := oo.len
          simp only [List.length_map, List.length_take] at hlen
          simp -dsimp only [↓WPd, ↓wpC_block, ↓wpC_cond, WPu, Bool.false_eq_true, Bool.true_eq_false, Bool.not_true, Bool.not_false, if_true, if_false, ite_true, ite_false, Nat.reduceEqDiff, Nat.reduceLT, true_and, List.map_cons, List.map_nil, Nat.zero_add, Nat.reduceBEq, a1, a2]
          refine calledW_of (mput_ok d σ' x a bs[k] A (sb _ (List.getElem_mem hk')) hsm (by omega) (x2 σ') (tt.terms.grow g)) ?_
          rintro r σ6 ⟨u, rfl, g6, ou, fu, nu⟩
          by_cases hE : putE bs[k] A = 0
          · have e0 : (putE bs[k] A != 0) = false := by rw [hE]; rfl
            obtain ⟨o', σ7, p1, p2, p3⟩ := oo.push g.1 g6 ou fu nu 24 (by omega)
            have wk : IntKind.i64.wrap ((k : Int) + 1) = ((k + 1 : Nat) : Int) := by rw [wrap_i64 (by omega) (by omega), Int.natCast_add, Int.natCast_one]
            simp -dsimp only [↓WPd, ↓wpC_block, ↓wpC_cond, WPu, Bool.false_eq_true, Bool.true_eq_false, Bool.not_true, Bool.not_false, if_true, if_false, ite_true, ite_false, Nat.reduceEqDiff, Nat.reduceLT, true_and, List.map_cons, List.map_nil, Nat.zero_add, Nat.reduceBEq, List.getElem?_cons_zero, List.getElem?_cons_succ, e0, lit1_ok ou.one, elems1, p1, wk]
            refine ⟨bs.length - (k + 1), by omega, k + 1, o', es ++ [u], by omega, rfl, rfl, Keeps.trans (g.trans g6) p3 fun i hi e => by omega, ?_, fun j hj hjk => ?_⟩
            · rw [List.take_succ_eq_append_getElem hk', List.map_append, List.map_append]; exact p2
            · by_cases e : j = k
              · subst e; exact hE
              · exact hall j hj (by omega)
          · have e0 : (putE bs[k] A != 0) = true := by simp [hE]
            have hb := bodyE_at hk' hall hE
            simp -dsimp only [↓WPd, ↓wpC_block, ↓wpC_cond, WPu, Bool.false_eq_true, Bool.true_eq_false, Bool.not_true, Bool.not_false, if_true, if_false, ite_true, ite_false, Nat.reduceEqDiff, Nat.reduceLT, true_and, List.map_cons, List.map_nil, Nat.zero_add, Nat.reduceBEq, List.getElem?_cons_zero, List.getElem?_cons_succ, e0]
            exact ⟨g.trans g6, .inr ⟨⟨_, by rw [hb]⟩, by rw [hb]; exact hE⟩⟩
        · have : k = bs.length := by omega
          subst this
          rw [List.take_length] at oo
          simp -dsimp only [↓WPd, ↓wpC_block, ↓wpC_cond, WPu, Bool.false_eq_true, Bool.true_eq_false, Bool.not_true, Bool.not_false, if_true, if_false, ite_true, ite_false, Nat.reduceEqDiff, Nat.reduceLT, true_and, List.map_cons, List.map_nil, Nat.zero_add, Nat.reduceBEq]
          exact ⟨g, .inl ⟨_, _, o, es, rfl, oo, bodyE_all fun j hj => hall j hj hj⟩⟩
      · rintro e σ6 env' ⟨g, ⟨rfl, x, y, o, es, hv', oo, hE⟩ | ⟨rfl, ⟨x, hv'⟩, hE⟩⟩
        · simp only [List.map_cons, List.map_nil, List.cons.injEq, and_true] at hv'
          obtain ⟨-, -, v12⟩ := hv'
          simp -dsimp only [↓WPd, ↓wpC_block, ↓wpC_cond, WPu, Bool.false_eq_true, Bool.true_eq_false, Bool.not_true, Bool.not_false, if_true, if_false, ite_true, ite_false, Nat.reduceEqDiff, Nat.reduceLT, true_and, List.map_cons, List.map_nil, Nat.zero_add, Nat.reduceBEq, v12]
          rw [if_pos hc]
          exact ⟨o, by rw [hE], g05.trans g, by rw [bodyT, if_pos hE]; exact oo.terms⟩
        · simp only [List.map_cons, List.map_nil, List.cons.injEq, and_true] at hv'
          obtain ⟨v6, v7, -⟩ := hv'
          simp -dsimp only [↓WPd, ↓wpC_block, ↓wpC_cond, WPu, Bool.false_eq_true, Bool.true_eq_false, Bool.not_true, Bool.not_false, if_true, if_false, ite_true, ite_false, Nat.reduceEqDiff, Nat.reduceLT, true_and, List.map_cons, List.map_nil, Nat.zero_add, Nat.reduceBEq, v6, v7]
          rw [if_pos hc]
          exact ⟨.nilslice, rfl, g05.trans g, by rw [bodyT, if_neg hE]; exact Terms.nil _⟩
  · have ec : ((fr.length : Int) != (fs.length : Int)) = true := by
      rw [bne_iff_ne]; omega
    simp -dsimp only [↓WPd, ↓wpC_block, ↓wpC_cond, WPu, Bool.false_eq_true, Bool.true_eq_false, Bool.not_true, Bool.not_false, if_true, if_false, ite_true, ite_false, Nat.reduceEqDiff, Nat.reduceLT, true_and, List.map_cons, List.map_nil, Nat.zero_add, Nat.reduceBEq, ec, if_neg hc]
    exact ⟨.nilslice, rfl, g02, Terms.nil _⟩
end
end Go.Proofs.YtkjnanfkclijcaaDoor.Am

namespace Go.Proofs.YtkjnanfkclijcaaDoor.Am
open Go
set_option linter.unusedVariables false
set_option linter.unusedSimpArgs false
set_option linter.unusedSectionVars false
set_option maxRecDepth 100000
def AR (σ : Store) (aid : Nat) (ls : List (List Cel)) : Prop := ∃ es, σ[aid]? = some (.arr 1 es 0 0) ∧ Two Told es ls
theorem AR.grow {σ σ' : Store} {aid : Nat} {ls : List (List Cel)} (h : AR σ aid ls) (g : Grows σ σ') : AR σ' aid ls := by
  obtain ⟨es, h1, h2⟩ := h; exact ⟨es, g.get h1, h2⟩
theorem AR.terms {σ : Store} {aid : Nat} {ls : List (List Cel)} (h : AR σ aid ls) {N : Nat} (hN : ls.length = N) : Terms σ (.slice 1 aid 0 0 N (some N)) ls := by
  obtain ⟨es, h1, h2⟩ := h
  subst hN
  have ho : Own σ 1 (.slice 1 aid 0 0 ls.length (some ls.length)) es := ⟨.inr (.inr ⟨aid, 0, 0, some ls.length, es, 0, 0, by rw [h2.len], h1, Nat.le_refl _, by simp, fun _ => by simp, .inr (by rw [h2.len])⟩)⟩
  exact ⟨es, ho.sl, h2.mono fun e t h => h σ⟩
theorem AR.set {σ : Store} {aid : Nat} {ls : List (List Cel)} (h : AR σ aid ls) {j : Nat} (hj : j < ls.length) {u : AVal} {t : List Cel} (hu : Told u t) : ∃ σ', storeV σ 1 (.eptr aid 0 j 0) u = some σ' ∧ AR σ' aid (ls.set j t) ∧ Keeps (fun i => i = aid) σ σ' := by
  obtain ⟨es, h1, h2⟩ := h
  have hj' : j < es.length := by rw [h2.len]; exact hj
  obtain ⟨e, e1, e2⟩ := h2.get hj
  have hee : es[j] = e := by rw [List.getElem?_eq_getElem hj'] at e1; exact Option.some.inj e1
  have st := arr_store1 h1 hj' (hu σ).one (by rw [hee]; exact (e2 σ).one)
  exact ⟨_, st, ⟨_, get_set h1, Two.set h2 j hu⟩, Keeps.set _ _ _⟩
theorem fill_step {ls : List (List Cel)} {N k : Nat} (h1 : k < N) (h2 : k < ls.length) : (ls.take k ++ List.replicate (N - k) []).set k ls[k] = ls.take (k + 1) ++ List.replicate (N - (k + 1)) [] := by
  have e : N - k = N - (k + 1) + 1 := by omega
  rw [e, List.replicate_succ, List.set_append_right _ _ (by rw [List.length_take]; omega)]
  rw [List.length_take, Nat.min_eq_left (by omega), Nat.sub_self, List.set_cons_zero, List.take_succ_eq_append_getElem h2, List.append_assoc]
  rfl
theorem fill_end {ls : List (List Cel)} {N k : Nat} (h : k = min N ls.length) : ls.take k ++ List.replicate (N - k) ([] : List Cel) = ls.take N ++ List.replicate (N - ls.length) [] := by
  subst h
  by_cases hc : N ≤ ls.length
  · rw [Nat.min_eq_left hc, Nat.sub_self, show N - ls.length = 0 by omega]
  · rw [Nat.min_eq_right (by omega), List.take_length, List.take_of_length_le (by omega)]
section
variable (d : Nat) (σ : Store)
set_option maxHeartbeats 1000000 in
theorem rbody_ok (hv gv bv lv fv : AVal) (n : Int) (p : List Cel) (bs ls : List (List Cel)) (fr : List Nm) (h2 : gv.one = true) (sp : Small p) (hp : Told hv p) (hb : TA bv bs) (hbl : bs.length < 2 ^ 30) (sb : ∀ t ∈ bs, Small t) (hl : TA lv ls) (hll : ls.length < 2 ^ 30) (sl : ∀ t ∈ ls, Small t) (hf : ∀ σ : Store, SlOf σ 2 fv (NN fr)) (hfl : fr.length < 2 ^ 30) :
    Called CU.cfg d 31 [.agg (clC hv gv bv n), lv, fv] σ fun r σ' =>
      if (freeF (varsL [] p) (countC n)).length = fr.length then BodyOk σ σ' r (bodyE bs (allR ls (countC n) ((freeF (varsL [] p) (countC n)).zip fr))) (bodyT bs (allR ls (countC n) ((freeF (varsL [] p) (countC n)).zip fr))) else BodyOk σ σ' r 4 [] := by
  refine called_of (fn := CU.a31) rfl (Nat.le_of_ble_eq_true rfl) ?_
  simp only [CU.a31]
  have h1 := (hp σ).one
  obtain ⟨bes, hb1, hb2⟩ := hb
  have h3 := (hb1 σ).one
  have ho : (σ ++ [AObj.cells (clC hv gv bv n)])[σ.length]? = some (.cells (clC hv gv bv n)) := by simp
  have e2 : (clC hv gv bv n)[2]? = some bv := rfl
  have g0 : Grows σ (σ ++ [AObj.cells (clC hv gv bv n)]) := Grows.app _ _
  simp -dsimp only [↓WPd, ↓wpC_block, ↓wpC_cond, WPu, Bool.false_eq_true, Bool.true_eq_false, Bool.not_true, Bool.not_false, if_true, if_false, ite_true, ite_false, Nat.reduceEqDiff, Nat.reduceLT, true_and, List.map_cons, List.map_nil, Nat.zero_add, Nat.reduceBEq, cells_agg, clC_one h1 h2 h3]
  generalize σ ++ [AObj.cells (clC hv gv bv n)] = σ1 at ho g0
  generalize hq : σ.length = i1 at ho
  simp -dsimp only [↓WPd, ↓wpC_block, ↓wpC_cond, WPu, Bool.false_eq_true, Bool.true_eq_false, Bool.not_true, Bool.not_false, if_true, if_false, ite_true, ite_false, Nat.reduceEqDiff, Nat.reduceLT, true_and, List.map_cons, List.map_nil, Nat.zero_add, Nat.reduceBEq, loadN_cells (n := 4) ho rfl]
  refine calledW_of (rfree_ok d σ1 hv gv bv n p h2 h3 sp (hp σ1)) ?_
  rintro fl σ2 ⟨g2, of⟩
  have hN := countC_le n
  have hfle := freeF_le (varsL [] p) (countC n)
  have hflt : ∀ i ∈ freeF (varsL [] p) (countC n), i < countC n := fun i hi => freeF_lt hi
  generalize freeF (varsL [] p) (countC n) = fs at *
  have lfl := of.sl.len
  rw [List.length_map] at lfl
  have lfr := names_len (hf σ)
  have g02 := g0.trans g2
  simp -dsimp only [↓WPd, ↓wpC_block, ↓wpC_cond, WPu, Bool.false_eq_true, Bool.true_eq_false, Bool.not_true, Bool.not_false, if_true, if_false, ite_true, ite_false, Nat.reduceEqDiff, Nat.reduceLT, true_and, List.map_cons, List.map_nil, Nat.zero_add, Nat.reduceBEq, lfl, lfr]
  by_cases hc : fs.length = fr.length
  · have ec : ((fs.length : Int) != (fr.length : Int)) = false := by rw [hc]; simp
    have ho2 := g2.get ho
    obtain ⟨les, hl1, hl2⟩ := hl
    have lll := (hl1 σ).len
    have hlen2 := hl2.len
    rw [hlen2] at lll
    have hcnt := fun σ' : Store => rcount_ok d σ' hv gv bv n h1 h2 h3
    generalize countC n = N at *
    simp -dsimp only [↓WPd, ↓wpC_block, ↓wpC_cond, WPu, Bool.false_eq_true, Bool.true_eq_false, Bool.not_true, Bool.not_false, if_true, if_false, ite_true, ite_false, Nat.reduceEqDiff, Nat.reduceLT, true_and, List.map_cons, List.map_nil, Nat.zero_add, Nat.reduceBEq, ec, if_pos hc, loadN_cells (n := 4) ho2 rfl]
    refine calledW_of (hcnt σ2) ?_
    rintro r σ3 ⟨rfl, g3⟩
    simp -dsimp only [↓WPd, ↓wpC_block, ↓wpC_cond, WPu, Bool.false_eq_true, Bool.true_eq_false, Bool.not_true, Bool.not_false, if_true, if_false, ite_true, ite_false, Nat.reduceEqDiff, Nat.reduceLT, true_and, List.map_cons, List.map_nil, Nat.zero_add, Nat.reduceBEq, mk_locals σ3 (n := N) (by omega)]
    have a0 : AR (σ3 ++ [.arr 1 (List.replicate N .nilslice) 0 0]) σ3.length (ls.take 0 ++ List.replicate (N - 0) []) := by
      refine ⟨List.replicate N .nilslice, by simp, ?_⟩
      rw [List.take_zero, List.nil_append, Nat.sub_zero]
      refine Two.of_get (by simp) fun i a b ha hb => ?_
      rw [List.getElem?_replicate] at ha hb
      by_cases h : i < N
      · rw [if_pos h] at ha hb
        cases ha; cases hb; exact Told.nil
      · rw [if_neg h] at ha
        cases ha
    have g4 : Grows σ3 (σ3 ++ [.arr 1 (List.replicate N .nilslice) 0 0]) := Grows.app _ _
    generalize σ3 ++ [AObj.arr 1 (List.replicate N AVal.nilslice) 0 0] = σ4 at a0 g4
    have haid : σ3.length ≤ σ3.length := Nat.le_refl _
    generalize hai : σ3.length = aid at a0
    have lav : lenSV (.slice 1 aid 0 0 N (some N)) = some N := rfl
    have iav : ∀ j, j < N → iaddrV 1 (.slice 1 aid 0 0 N (some N)) (.int .i64 (j : Nat)) = some (.eptr aid 0 j 0) := fun j hj => by
      have := arr_iaddr (sz := 1) (id := aid) (ep := 0) (off := 0) (len := N) (cap := some N) hj .i64; rwa [Nat.zero_add] at this
    have hzl : (fs.zip fr).length = fs.length := by rw [List.length_zip, hc, Nat.min_self]
    have hzm : ∀ (k : Nat) (q : Nat × Nm), q ∈ (fs.zip fr).take k → q.1 < N := fun k q hq => hflt q.1 (List.of_mem_zip (List.mem_of_mem_take hq)).1
    have hz : ∀ (k : Nat) (hk : k < fs.length), (fs.zip fr).take (k + 1) = (fs.zip fr).take k ++ [(fs[k], fr[k])] := fun k hk => by
      rw [List.take_succ_eq_append_getElem (by omega), List.getElem_zip]
    have wk : ∀ k : Nat, k < 2 ^ 40 → IntKind.i64.wrap ((k : Int) + 1) = ((k + 1 : Nat) : Int) := fun k hk => by rw [wrap_i64 (by omega) (by omega), Int.natCast_add, Int.natCast_one]
    have of3 := of.sl.grow g3
    refine loop_rule2 (fun m vs σ' => ∃ k, k ≤ min N ls.length ∧ m = N - k ∧ vs = [lv, fv, .ptr i1 0, fl, .slice 1 aid 0 0 N (some N), .int .i64 k] ∧ Grows σ3 σ' ∧ AR σ' aid (ls.take k ++ List.replicate (N - k) []))
      [2, 3, 8, 9] (fun e vs σ' => e = .exit 0 ∧ vs = [fv, .ptr i1 0, fl, .slice 1 aid 0 0 N (some N)] ∧ Grows σ3 σ' ∧ AR σ' aid (allR ls N [])) N ⟨0, Nat.zero_le _, rfl, ?_, g4, a0⟩ ?_ ?_
    · simp -dsimp only [↓WPd, ↓wpC_block, ↓wpC_cond, WPu, Bool.false_eq_true, Bool.true_eq_false, Bool.not_true, Bool.not_false, if_true, if_false, ite_true, ite_false, Nat.reduceEqDiff, Nat.reduceLT, true_and, List.map_cons, List.map_nil, Nat.zero_add, Nat.reduceBEq]; rfl
    · rintro m vs σ' ⟨k, hk, rfl, rfl, g, ar⟩
      have hkN : k ≤ N := Nat.le_trans hk (Nat.min_le_left _ _)
      have hkL : k ≤ ls.length := Nat.le_trans hk (Nat.min_le_right _ _)
      simp -dsimp only [↓WPd, ↓wpC_block, ↓wpC_cond, WPu, Bool.false_eq_true, Bool.true_eq_false, Bool.not_true, Bool.not_false, if_true, if_false, ite_true, ite_false, Nat.reduceEqDiff, Nat.reduceLT, true_and, List.map_cons, List.map_nil, Nat.zero_add, Nat.reduceBEq, lav]
      by_cases c1 : k < N
      · have d1 : decide ((k : Int) < (N : Int)) = true := by rw [decide_eq_true_eq]; omega
        by_cases c2 : k < ls.length
        · have d2 : decide ((k : Int) < (ls.length : Int)) = true := by rw [decide_eq_true_eq]; omega
          have hke : k < les.length := by omega
          obtain ⟨x, x1, x2⟩ := hl2.get c2
          have hee : les[k] = x := by rw [List.getElem?_eq_getElem hke] at x1; exact Option.some.inj x1
          have a1 : iaddrV 1 lv (.int .i64 k) = some (addrOf 1 lv k) := (hl1 σ').iaddr hke .i64
          have a2 : loadV σ' 1 false (addrOf 1 lv k) = some x := by
            have := (hl1 σ').load1 hke (by rw [hee]; exact (x2 σ').one) 1
            rw [hee] at this; exact this
          obtain ⟨σ5, p1, p2, p3⟩ := ar.set (j := k) (by rw [List.length_append, List.length_take, List.length_replicate]; omega) x2
          rw [fill_step c1 c2] at p2
          simp -dsimp only [↓WPd, ↓wpC_block, ↓wpC_cond, WPu, Bool.false_eq_true, Bool.true_eq_false, Bool.not_true, Bool.not_false, if_true, if_false, ite_true, ite_false, Nat.reduceEqDiff, Nat.reduceLT, true_and, List.map_cons, List.map_nil, Nat.zero_add, Nat.reduceBEq, d1, lll, d2, a1, a2, iav k c1, p1, wk k (by omega)]
          exact ⟨N - (k + 1), by omega, k + 1, by omega, rfl, rfl, Keeps.trans g p3 fun i hi e => by omega, p2⟩
        · have d2 : decide ((k : Int) < (ls.length : Int)) = false := by rw [decide_eq_false_iff_not]; omega
          rw [fill_end (by omega)] at ar
          simp -dsimp only [↓WPd, ↓wpC_block, ↓wpC_cond, WPu, Bool.false_eq_true, Bool.true_eq_false, Bool.not_true, Bool.not_false, if_true, if_false, ite_true, ite_false, Nat.reduceEqDiff, Nat.reduceLT, true_and, List.map_cons, List.map_nil, Nat.zero_add, Nat.reduceBEq, d1, lll, d2]
          exact ⟨g, ar⟩
      · have d1 : decide ((k : Int) < (N : Int)) = false := by rw [decide_eq_false_iff_not]; omega
        rw [fill_end (by omega)] at ar
        simp -dsimp only [↓WPd, ↓wpC_block, ↓wpC_cond, WPu, Bool.false_eq_true, Bool.true_eq_false, Bool.not_true, Bool.not_false, if_true, if_false, ite_true, ite_false, Nat.reduceEqDiff, Nat.reduceLT, true_and, List.map_cons, List.map_nil, Nat.zero_add, Nat.reduceBEq, d1]
        exact ⟨g, ar⟩
    · rintro e σ5 env ⟨rfl, hv', g5, ar⟩
      simp only [List.map_cons, List.map_nil, List.cons.injEq, and_true] at hv'
      obtain ⟨v2, v3, v8, v9⟩ := hv'
      simp -dsimp only [↓WPd, ↓wpC_block, ↓wpC_cond, WPu, Bool.false_eq_true, Bool.true_eq_false, Bool.not_true, Bool.not_false, if_true, if_false, ite_true, ite_false, Nat.reduceEqDiff, Nat.reduceLT, true_and, List.map_cons, List.map_nil, Nat.zero_add, Nat.reduceBEq]
      refine loop_rule2 (fun m vs σ' => ∃ k, k ≤ fs.length ∧ m = fs.length - k ∧ vs = [fv, .ptr i1 0, fl, .slice 1 aid 0 0 N (some N), .int .i64 k] ∧ Grows σ3 σ' ∧ AR σ' aid (allR ls N ((fs.zip fr).take k)) ∧ ∀ l ∈ allR ls N ((fs.zip fr).take k), Small l)
        [3, 9] (fun e vs σ' => e = .exit 2 ∧ vs = [.ptr i1 0, .slice 1 aid 0 0 N (some N)] ∧ Grows σ3 σ' ∧ AR σ' aid (allR ls N (fs.zip fr)) ∧ ∀ l ∈ allR ls N (fs.zip fr), Small l) fs.length ⟨0, Nat.zero_le _, rfl, ?_, g5, by simpa using ar, ?_⟩ ?_ ?_
      · simp -dsimp only [↓WPd, ↓wpC_block, ↓wpC_cond, WPu, Bool.false_eq_true, Bool.true_eq_false, Bool.not_true, Bool.not_false, if_true, if_false, ite_true, ite_false, Nat.reduceEqDiff, Nat.reduceLT, true_and, List.map_cons, List.map_nil, Nat.zero_add, Nat.reduceBEq, v2, v3, v8, v9]; rfl
      · intro l hl
        simp only [List.take_zero, allR, List.foldl_nil] at hl
        rcases List.mem_append.1 hl with h | h
        · exact sl l (List.mem_of_mem_take h)
        · rw [List.eq_of_mem_replicate h]; exact small_nil
      · rintro m vs σ' ⟨k, hk, rfl, rfl, g, ar, hsm⟩
        simp -dsimp only [↓WPd, ↓wpC_block, ↓wpC_cond, WPu, Bool.false_eq_true, Bool.true_eq_false, Bool.not_true, Bool.not_false, if_true, if_false, ite_true, ite_false, Nat.reduceEqDiff, Nat.reduceLT, true_and, List.map_cons, List.map_nil, Nat.zero_add, Nat.reduceBEq, lfl]
        refine condP_dec (fun h => ?_) (fun h => ?_)
        · have hk' : k < fs.length := by omega
          obtain ⟨a1, a2⟩ := ints_at (of3.grow g) hk'
          have a2' := fun (σ6 : Store) (g6 : Grows σ' σ6) => (ints_at (of3.grow (g.trans g6)) hk').2
          have hv := hflt _ (List.getElem_mem hk')
          obtain ⟨hal, -, -⟩ := all_same ls N ((fs.zip fr).take k) (hzm k)
          have hkr : k < fr.length := by omega
          have hst : allR ls N ((fs.zip fr).take (k + 1)) = (allR ls N ((fs.zip fr).take k)).set fs[k] (varT fr[k]) := by rw [hz k hk', allR_snoc]
          obtain ⟨b1, b2⟩ := names_at (hf σ') hkr
          generalize fs[k] = v at *
          generalize allR ls N ((fs.zip fr).take k) = A at *
          simp -dsimp only [↓WPd, ↓wpC_block, ↓wpC_cond, WPu, Bool.false_eq_true, Bool.true_eq_false, Bool.not_true, Bool.not_false, if_true, if_false, ite_true, ite_false, Nat.reduceEqDiff, Nat.reduceLT, true_and, List.map_cons, List.map_nil, Nat.zero_add, Nat.reduceBEq]
          refine drawnP_of rfl ?_
          simp -dsimp only [↓WPd, ↓wpC_block, ↓wpC_cond, WPu, Bool.false_eq_true, Bool.true_eq_false, Bool.not_true, Bool.not_false, if_true, if_false, ite_true, ite_false, Nat.reduceEqDiff, Nat.reduceLT, true_and, List.map_cons, List.map_nil, Nat.zero_add, Nat.reduceBEq, ↓WPed, WPeu, Nat.reduceAdd, and_self, a1, a2, b1, b2]
          refine calledW_of (rofvar_ok d σ' fr[k]) ?_
          rintro u σ6 ⟨tu, g6⟩
          obtain ⟨σ7, p1, p2, p3⟩ := (ar.grow g6).set (j := v) (by omega) tu
          simp -dsimp only [↓WPd, ↓wpC_block, ↓wpC_cond, WPu, Bool.false_eq_true, Bool.true_eq_false, Bool.not_true, Bool.not_false, if_true, if_false, ite_true, ite_false, Nat.reduceEqDiff, Nat.reduceLT, true_and, List.map_cons, List.map_nil, Nat.zero_add, Nat.reduceBEq, ↓WPed, WPeu, Nat.reduceAdd, and_self, a1, a2, a2' σ6 g6, iav v hv, p1, wk k (by omega)]
          refine ⟨fs.length - (k + 1), by omega, k + 1, by omega, rfl, rfl, Keeps.trans (g.trans g6) p3 fun i hi e => by omega, by rw [hst]; exact p2, fun l hl => ?_⟩
          rw [hst] at hl
          rcases List.mem_or_eq_of_mem_set hl with h | h
          · exact hsm l h
          · rw [h]; exact varT_small _
        · have : k = fs.length := by omega
          subst this
          rw [← hzl, List.take_length] at ar hsm
          simp -dsimp only [↓WPd, ↓wpC_block, ↓wpC_cond, WPu, Bool.false_eq_true, Bool.true_eq_false, Bool.not_true, Bool.not_false, if_true, if_false, ite_true, ite_false, Nat.reduceEqDiff, Nat.reduceLT, true_and, List.map_cons, List.map_nil, Nat.zero_add, Nat.reduceBEq]
          exact ⟨g, ar, hsm⟩
      · rintro e σ6 env' ⟨rfl, hv', g6, ar, hsm⟩
        simp only [List.map_cons, List.map_nil, List.cons.injEq, and_true] at hv'
        obtain ⟨v3, v9⟩ := hv'
        obtain ⟨hal, -, -⟩ := all_same ls N (fs.zip fr) (fun q hq => hflt q.1 (List.of_mem_zip hq).1)
        generalize allR ls N (fs.zip fr) = A at *
        have g06 := (g02.trans g3).trans g6
        have ho6 := (g6.get (g3.get ho2))
        have hblen := hb2.len
        simp -dsimp only [↓WPd, ↓wpC_block, ↓wpC_cond, WPu, Bool.false_eq_true, Bool.true_eq_false, Bool.not_true, Bool.not_false, if_true, if_false, ite_true, ite_false, Nat.reduceEqDiff, Nat.reduceLT, true_and, List.map_cons, List.map_nil, Nat.zero_add, Nat.reduceBEq]
        refine loop_rule2 (fun m vs σ' => ∃ k o es, k ≤ bs.length ∧ m = bs.length - k ∧ vs = [.ptr i1 0, .slice 1 aid 0 0 N (some N), o, .int .i64 k] ∧ Grows σ6 σ' ∧ ORows σ' σ6.length 5 o es (((bs.take k).map fun t => putT t A).map CC) ∧ ∀ (j : Nat) (hj : j < bs.length), j < k → putE bs[j] A = 0)
          [6, 7, 12] (fun e vs σ' => Grows σ6 σ' ∧ ((e = .exit 4 ∧ ∃ x y o es, vs = [x, y, o] ∧ ORows σ' σ6.length 5 o es ((bs.map fun t => putT t A).map CC) ∧ bodyE bs A = 0) ∨ (e = .ret ∧ (∃ x, vs = [.nilslice, .int .i64 (bodyE bs A), x]) ∧ bodyE bs A ≠ 0))) bs.length ⟨0, .nilslice, [], Nat.zero_le _, rfl, ?_, Keeps.refl _ _, ORows.nil _ _ _, fun j _ h => by omega⟩ ?_ ?_
        · simp -dsimp only [↓WPd, ↓wpC_block, ↓wpC_cond, WPu, Bool.false_eq_true, Bool.true_eq_false, Bool.not_true, Bool.not_false, if_true, if_false, ite_true, ite_false, Nat.reduceEqDiff, Nat.reduceLT, true_and, List.map_cons, List.map_nil, Nat.zero_add, Nat.reduceBEq, v3, v9]; rfl
        · rintro m vs σ' ⟨k, o, es, hk, rfl, rfl, g, oo, hall⟩
          have lb := (hb1 σ').len
          rw [hblen] at lb
          simp -dsimp only [↓WPd, ↓wpC_block, ↓wpC_cond, WPu, Bool.false_eq_true, Bool.true_eq_false, Bool.not_true, Bool.not_false, if_true, if_false, ite_true, ite_false, Nat.reduceEqDiff, Nat.reduceLT, true_and, List.map_cons, List.map_nil, Nat.zero_add, Nat.reduceBEq, faddr_ptr, Nat.zero_add, load_cells (g.get ho6), e2, lb]
          refine condP_dec (fun h => ?_) (fun h => ?_)
          · have hk' : k < bs.length := by omega
            have hke : k < bes.length := by omega
            obtain ⟨x, x1, x2⟩ := hb2.get hk'
            have hee : bes[k] = x := by rw [List.getElem?_eq_getElem hke] at x1; exact Option.some.inj x1
            have a1 : iaddrV 1 bv (.int .i64 k) = some (addrOf 1 bv k) := (hb1 σ').iaddr hke .i64
            have a2 : loadV σ' 1 false (addrOf 1 bv k) = some x := by
              have := (hb1 σ').load1 hke (by rw [hee]; exact (x2 σ').one) 1
              rw [hee] at this; exact this
            have hlen := oo.len
            simp only [List.length_map, List.length_take] at hlen
            simp -dsimp only [↓WPd, ↓wpC_block, ↓wpC_cond, WPu, Bool.false_eq_true, Bool.true_eq_false, Bool.not_true, Bool.not_false, if_true, if_false, ite_true, ite_false, Nat.reduceEqDiff, Nat.reduceLT, true_and, List.map_cons, List.map_nil, Nat.zero_add, Nat.reduceBEq, faddr_ptr, Nat.zero_add, load_cells (g.get ho6), e2, a1, a2]
            refine calledW_of (rput_ok d σ' x _ bs[k] A (sb _ (List.getElem_mem hk')) hsm (by omega) (x2 σ') ((ar.grow g).terms hal)) ?_
            rintro r σ7 ⟨u, rfl, g7, ou, fu, nu⟩
            by_cases hE : putE bs[k] A = 0
            · have e0 : (putE bs[k] A != 0) = false := by rw [hE]; rfl
              obtain ⟨o', σ8, p1, p2, p3⟩ := oo.push g.1 g7 ou fu nu 24 (by omega)
              simp -dsimp only [↓WPd, ↓wpC_block, ↓wpC_cond, WPu, Bool.false_eq_true, Bool.true_eq_false, Bool.not_true, Bool.not_false, if_true, if_false, ite_true, ite_false, Nat.reduceEqDiff, Nat.reduceLT, true_and, List.map_cons, List.map_nil, Nat.zero_add, Nat.reduceBEq, List.getElem?_cons_zero, List.getElem?_cons_succ, e0, lit1_ok ou.one, elems1, p1, wk k (by omega)]
              refine ⟨bs.length - (k + 1), by omega, k + 1, o', es ++ [u], by omega, rfl, rfl, Keeps.trans (g.trans g7) p3 fun i hi e => by omega, ?_, fun j hj hjk => ?_⟩
              · rw [List.take_succ_eq_append_getElem hk', List.map_append, List.map_append]; exact p2
              · by_cases e : j = k
                · subst e; exact hE
                · exact hall j hj (by omega)
            · have e0 : (putE bs[k] A != 0) = true := by simp [hE]
              have hb := bodyE_at hk' hall hE
              simp -dsimp only [↓WPd, ↓wpC_block, ↓wpC_cond, WPu, Bool.false_eq_true, Bool.true_eq_false, Bool.not_true, Bool.not_false, if_true, if_false, ite_true, ite_false, Nat.reduceEqDiff, Nat.reduceLT, true_and, List.map_cons, List.map_nil, Nat.zero_add, Nat.reduceBEq, List.getElem?_cons_zero, List.getElem?_cons_succ, e0]
              exact ⟨g.trans g7, .inr ⟨⟨_, by rw [hb]⟩, by rw [hb]; exact hE⟩⟩
          · have : k = bs.length := by omega
            subst this
            rw [List.take_length] at oo
            simp -dsimp only [↓WPd, ↓wpC_block, ↓wpC_cond, WPu, Bool.false_eq_true, Bool.true_eq_false, Bool.not_true, Bool.not_false, if_true, if_false, ite_true, ite_false, Nat.reduceEqDiff, Nat.reduceLT, true_and, List.map_cons, List.map_nil, Nat.zero_add, Nat.reduceBEq]
            exact ⟨g, .inl ⟨_, _, o, es, rfl, oo, bodyE_all fun j hj => hall j hj hj⟩⟩
        · rintro e σ7 env'' ⟨g, ⟨rfl, x, y, o, es, hv', oo, hE⟩ | ⟨rfl, ⟨x, hv'⟩, hE⟩⟩
          · simp only [List.map_cons, List.map_nil, List.cons.injEq, and_true] at hv'
            obtain ⟨-, -, v12⟩ := hv'
            simp -dsimp only [↓WPd, ↓wpC_block, ↓wpC_cond, WPu, Bool.false_eq_true, Bool.true_eq_false, Bool.not_true, Bool.not_false, if_true, if_false, ite_true, ite_false, Nat.reduceEqDiff, Nat.reduceLT, true_and, List.map_cons, List.map_nil, Nat.zero_add, Nat.reduceBEq, v12]
            rw [if_pos hc]
            exact ⟨o, by rw [hE], g06.trans g, by rw [bodyT, if_pos hE]; exact oo.terms⟩
          · simp only [List.map_cons, List.map_nil, List.cons.injEq, and_true] at hv'
            obtain ⟨v6, v7, -⟩ := hv'
            simp -dsimp only [↓WPd, ↓wpC_block, ↓wpC_cond, WPu, Bool.false_eq_true, Bool.true_eq_false, Bool.not_true, Bool.not_false, if_true, if_false, ite_true, ite_false, Nat.reduceEqDiff, Nat.reduceLT, true_and, List.map_cons, List.map_nil, Nat.zero_add, Nat.reduceBEq, v6, v7]
            rw [if_pos hc]
            exact ⟨.nilslice, rfl, g06.trans g, by rw [bodyT, if_neg hE]; exact Terms.nil _⟩
  · have ec : ((fs.length : Int) != (fr.length : Int)) = true := by
      rw [bne_iff_ne]; omega
    simp -dsimp only [↓WPd, ↓wpC_block, ↓wpC_cond, WPu, Bool.false_eq_true, Bool.true_eq_false, Bool.not_true, Bool.not_false, if_true, if_false, ite_true, ite_false, Nat.reduceEqDiff, Nat.reduceLT, true_and, List.map_cons, List.map_nil, Nat.zero_add, Nat.reduceBEq, ec, if_neg hc]
    exact ⟨.nilslice, rfl, g02, Terms.nil _⟩
end
end Go.Proofs.YtkjnanfkclijcaaDoor.Am

namespace Go.Proofs.YtkjnanfkclijcaaDoor.Am
open Go
set_option linter.unusedVariables false
set_option maxRecDepth 100000
def l7c : AVal := .agg [.fslice 0 true 5 [.agg [.int .u8 3, .str [112], .int .i64 1, .int .i64 0, .int .i64 0], .agg [.int .u8 4, .str [], .int .i64 0, .int .i64 (-1), .int .i64 0]], .fslice 0 true 1 [.fslice 0 true 5 [.agg [.int .u8 3, .str [62], .int .i64 2, .int .i64 0, .int .i64 0], .agg [.int .u8 4, .str [], .int .i64 0, .int .i64 (-1), .int .i64 0], .agg [.int .u8 1, .str [], .int .i64 0, .int .i64 0, .int .i64 0]]], .fslice 0 true 1 [.fslice 0 true 5 [.agg [.int .u8 2, .str [113], .int .i64 0, .int .i64 0, .int .i64 0]]], .int .i64 1]
def l7h : AVal := .fptr 2 [.fmap 2 [] []] 0
def l7p (k : Int) (n : Int) : AVal := .fslice 0 true 5 [.agg [.int .u8 3, .str [112], .int .i64 1, .int .i64 0, .int .i64 0], .agg [.int .u8 k, .str [], .int .i64 n, .int .i64 0, .int .i64 0]]
def l7a : AVal := .agg [.int .u8 1, .int .i64 (-1), .fslice 0 true 1 [.fslice 0 false 5 [.agg [.int .u8 1, .str [], .int .i64 2, .int .i64 0, .int .i64 0]]], .nilslice]
def l7b : AVal := .agg [.int .u8 2, .int .i64 (-1), .nilslice, .nilslice]
def l7s : AVal := .agg [.int .u8 3, .int .i64 (-1), .nilslice, .fslice 0 false 2 [.agg [.int .i64 0, .int .i64 0]]]
theorem l7_c : (run CU.cfg 300 2 83 [] []).bind (fun p => frz p.2 0 frzFuel p.1) = some l7c := by kernel_rfl
theorem l7_a : (run CU.cfg 300 2 82 [l7h, l7c, l7p 1 2] []).bind (fun p => frz p.2 0 frzFuel p.1) = some l7a := by kernel_rfl
theorem l7_b : (run CU.cfg 300 2 82 [l7h, l7c, l7p 1 0] []).bind (fun p => frz p.2 0 frzFuel p.1) = some l7b := by kernel_rfl
theorem l7_s : (run CU.cfg 300 2 82 [l7h, l7c, l7p 4 0] []).bind (fun p => frz p.2 0 frzFuel p.1) = some l7s := by kernel_rfl
end Go.Proofs.YtkjnanfkclijcaaDoor.Am

namespace Go.Proofs.YtkjnanfkclijcaaDoor.Am
open Go
set_option linter.unusedVariables false
set_option linter.unusedSimpArgs false
set_option linter.unusedSectionVars false
set_option maxRecDepth 100000
section
variable (d : Nat) (σ : Store)
theorem sameterms_ok (a b : AVal) (ts : List (List Cel)) (hx : ts.length < 2 ^ 40) (hs : ∀ t ∈ ts, t.length < 2 ^ 40) (ha : Terms σ a ts) (hb : Terms σ b ts) : Called CU.cfg d 34 [a, b] σ fun v σ' => v = .bool true ∧ σ' = σ := by
  refine called_of (fn := CU.a34) rfl (Nat.le_of_ble_eq_true rfl) ?_
  simp only [CU.a34]
  have la := ha.len
  have lb := hb.len
  have e0 : ((ts.length : Int) != (ts.length : Int)) = false := by simp
  simp -dsimp only [↓WPd, ↓wpC_block, ↓wpC_cond, WPu, Bool.false_eq_true, Bool.true_eq_false, Bool.not_true, Bool.not_false, if_true, if_false, ite_true, ite_false, Nat.reduceEqDiff, Nat.reduceLT, true_and, List.map_cons, List.map_nil, Nat.zero_add, Nat.reduceBEq, la, lb, e0]
  refine loop_rule2 (fun m vs σ' => ∃ k, k ≤ ts.length ∧ m = ts.length - k ∧ vs = [a, b, .int .i64 k] ∧ σ' = σ) [] (fun e vs σ' => e = .exit 0 ∧ σ' = σ) ts.length ⟨0, Nat.zero_le _, rfl, ?_, rfl⟩ ?_ ?_
  · simp -dsimp only [↓WPd, ↓wpC_block, ↓wpC_cond, WPu, Bool.false_eq_true, Bool.true_eq_false, Bool.not_true, Bool.not_false, if_true, if_false, ite_true, ite_false, Nat.reduceEqDiff, Nat.reduceLT, true_and, List.map_cons, List.map_nil, Nat.zero_add, Nat.reduceBEq]; rfl
  · rintro m vs σ' ⟨k, hk, rfl, rfl, rfl⟩
    simp -dsimp only [↓WPd, ↓wpC_block, ↓wpC_cond, WPu, Bool.false_eq_true, Bool.true_eq_false, Bool.not_true, Bool.not_false, if_true, if_false, ite_true, ite_false, Nat.reduceEqDiff, Nat.reduceLT, true_and, List.map_cons, List.map_nil, Nat.zero_add, Nat.reduceBEq, la]
    refine condP_dec (fun h => ?_) (fun h => ?_)
    · have hk' : k < ts.length := by omega
      obtain ⟨x, a1, a2, a3⟩ := ha.at hk'
      obtain ⟨y, b1, b2, b3⟩ := hb.at hk'
      simp -dsimp only [↓WPd, ↓wpC_block, ↓wpC_cond, WPu, Bool.false_eq_true, Bool.true_eq_false, Bool.not_true, Bool.not_false, if_true, if_false, ite_true, ite_false, Nat.reduceEqDiff, Nat.reduceLT, true_and, List.map_cons, List.map_nil, Nat.zero_add, Nat.reduceBEq, a1, a2, b1, b2]
      refine calledW_of (cequal_ok d σ' x y ts[k] ts[k] (hs _ (List.getElem_mem hk')) a3 b3) ?_
      rintro v σ2 ⟨rfl, rfl⟩
      simp -dsimp only [↓WPd, ↓wpC_block, ↓wpC_cond, WPu, Bool.false_eq_true, Bool.true_eq_false, Bool.not_true, Bool.not_false, if_true, if_false, ite_true, ite_false, Nat.reduceEqDiff, Nat.reduceLT, true_and, List.map_cons, List.map_nil, Nat.zero_add, Nat.reduceBEq, decide_true]
      exact ⟨ts.length - (k + 1), by omega, k + 1, by omega, rfl, by rw [wrap_i64 (by omega) (by omega), Int.natCast_add, Int.natCast_one], trivial⟩
    · simp -dsimp only [↓WPd, ↓wpC_block, ↓wpC_cond, WPu, Bool.false_eq_true, Bool.true_eq_false, Bool.not_true, Bool.not_false, if_true, if_false, ite_true, ite_false, Nat.reduceEqDiff, Nat.reduceLT, true_and, List.map_cons, List.map_nil, Nat.zero_add, Nat.reduceBEq]
  · rintro e σ' env ⟨rfl, rfl⟩
    simp -dsimp only [↓WPd, ↓wpC_block, ↓wpC_cond, WPu, Bool.false_eq_true, Bool.true_eq_false, Bool.not_true, Bool.not_false, if_true, if_false, ite_true, ite_false, Nat.reduceEqDiff, Nat.reduceLT, true_and, List.map_cons, List.map_nil, Nat.zero_add, Nat.reduceBEq]
end
theorem isoW_closed {cfg : Cfg} {d : Nat} {f : FuncId} {args args' : List AVal} {fr : List AVal} {σ : Store} {K : List AVal → Store → AVal → Prop} {w : Wit K} {n : Nat} {v : AVal} (ha : mapO (frz σ (d + 1) frzFuel) args = some args') (h : (run cfg n (d + 1) f args' []).bind (fun p => frz p.2 0 frzFuel p.1) = some v) (ht : v.tag ≤ d) (hk : K fr σ v) : isoW cfg d f args fr σ K w := by
  rw [Option.bind_eq_some_iff] at h
  obtain ⟨⟨u, σ1⟩, h1, h2⟩ := h
  unfold isoW callP
  exact ⟨args', ha, n, u, σ1, h1, v, h2, ht, hk⟩
theorem frz_heap0 {σ : Store} {id mid : Nat} (h1 : σ[id]? = some (.cells [.map mid])) (h2 : σ[mid]? = some (.map [] [])) : frz σ 2 frzFuel (.ptr id 0) = some l7h := by
  simp only [frzFuel, frz, h1, mapO, h2]
  rfl
theorem frz_l7c (σ : Store) : frz σ 2 frzFuel l7c = some l7c := rfl
theorem frz_l7p (σ : Store) (k n : Int) : frz σ 2 frzFuel (l7p k n) = some (l7p k n) := rfl
theorem l7_args {σ : Store} {id mid : Nat} (h1 : σ[id]? = some (.cells [.map mid])) (h2 : σ[mid]? = some (.map [] [])) (k n : Int) : mapO (frz σ 2 frzFuel) [.ptr id 0, l7c, l7p k n] = some [l7h, l7c, l7p k n] := by
  simp only [mapO, frz_heap0 h1 h2, frz_l7c, frz_l7p]
theorem l7_put (σ : Store) {k : Nat} {lv wv : AVal} (hl : lv.one = true) (hw : wv.one = true) : storeV (σ ++ [AObj.cells tryZ]) 4 (.ptr σ.length 0) (.agg (tryC k lv wv)) = some (σ ++ [AObj.cells (tryC k lv wv)]) := by
  have ho : (σ ++ [AObj.cells tryZ])[σ.length]? = some (.cells tryZ) := by simp
  obtain ⟨p1, -⟩ := try_put (σ' := σ) (k := k) ho hl hw
  rw [p1, set_last]
def l7la : AVal := .fslice 0 true 1 [.fslice 0 false 5 [.agg [.int .u8 1, .str [], .int .i64 2, .int .i64 0, .int .i64 0]]]
def l7ws : AVal := .fslice 0 false 2 [.agg [.int .i64 0, .int .i64 0]]
theorem live07_ran : ∃ n, (run CU.cfg n 1 25 [] []).map (fun p => p.1) = some (.bool true) := by
  have key : Called CU.cfg 1 25 [] [] fun v _ => v = .bool true := by
    refine called_of (fn := CU.a25) rfl (Nat.le_of_ble_eq_true rfl) ?_
    simp only [CU.a25]
    have ea : l7a = .agg (tryC 1 l7la .nilslice) := rfl
    have eb : l7b = .agg (tryC 2 .nilslice .nilslice) := rfl
    have es : l7s = .agg (tryC 3 .nilslice l7ws) := rfl
    have bP : fillA [AVal.int IntKind.u8 0, AVal.str [], AVal.int IntKind.i64 0, AVal.int IntKind.i64 0, AVal.int IntKind.i64 0] [(0, 1, AVal.int .u8 3), (1, 1, .str [112]), (2, 1, .int .i64 1)] = some (Cel.cs ⟨3, [112], 1, (0, 0)⟩) := rfl
    have bA : fillA [AVal.int IntKind.u8 0, AVal.str [], AVal.int IntKind.i64 0, AVal.int IntKind.i64 0, AVal.int IntKind.i64 0] [(0, 1, AVal.int .u8 1), (2, 1, .int .i64 2)] = some (Cel.cs ⟨1, [], 2, (0, 0)⟩) := rfl
    have bB : fillA [AVal.int IntKind.u8 0, AVal.str [], AVal.int IntKind.i64 0, AVal.int IntKind.i64 0, AVal.int IntKind.i64 0] [(0, 1, AVal.int .u8 1)] = some (Cel.cs ⟨1, [], 0, (0, 0)⟩) := rfl
    have bS : fillA [AVal.int IntKind.u8 0, AVal.str [], AVal.int IntKind.i64 0, AVal.int IntKind.i64 0, AVal.int IntKind.i64 0] [(0, 1, AVal.int .u8 4)] = some (Cel.cs ⟨4, [], 0, (0, 0)⟩) := rfl
    have bL : ∀ a b : Cel, fillL 5 true (List.replicate 2 (zel [AVal.int IntKind.u8 0, AVal.str [], AVal.int IntKind.i64 0, AVal.int IntKind.i64 0, AVal.int IntKind.i64 0] true)) [(0, .agg a.cs), (1, .agg b.cs)] = some [a.val, b.val] := fun a b => rfl
    simp -dsimp only [↓WPd, ↓wpC_block, ↓wpC_cond, WPu, Bool.false_eq_true, Bool.true_eq_false, Bool.not_true, Bool.not_false, if_true, if_false, ite_true, ite_false, Nat.reduceEqDiff, Nat.reduceLT, true_and, List.map_cons, List.map_nil, Nat.zero_add, Nat.reduceBEq]
    refine calledW_of (hnew_ok 1 []) ?_
    rintro r σ1 ⟨id, mid, rfl, hp, g1, -, -, -, -⟩
    have o1 := hp.obj
    have o2 : σ1[mid]? = some (.map [] []) := hp.map
    simp -dsimp only [↓WPd, ↓wpC_block, ↓wpC_cond, WPu, Bool.false_eq_true, Bool.true_eq_false, Bool.not_true, Bool.not_false, if_true, if_false, ite_true, ite_false, Nat.reduceEqDiff, Nat.reduceLT, true_and, List.map_cons, List.map_nil, Nat.zero_add, Nat.reduceBEq]
    refine isoW_closed (args' := []) rfl l7_c (by decide) ?_
    simp -dsimp only [↓WPd, ↓wpC_block, ↓wpC_cond, WPu, Bool.false_eq_true, Bool.true_eq_false, Bool.not_true, Bool.not_false, if_true, if_false, ite_true, ite_false, Nat.reduceEqDiff, Nat.reduceLT, true_and, List.map_cons, List.map_nil, Nat.zero_add, Nat.reduceBEq, bP, bA, bL]
    refine isoW_closed (args' := [l7h, l7c, l7p 1 2]) (l7_args o1 o2 1 2) l7_a (by decide) ?_
    rw [ea]
    have q1 := l7_put σ1 (k := 1) (lv := l7la) (wv := .nilslice) rfl rfl
    simp -dsimp only [↓WPd, ↓wpC_block, ↓wpC_cond, WPu, Bool.false_eq_true, Bool.true_eq_false, Bool.not_true, Bool.not_false, if_true, if_false, ite_true, ite_false, Nat.reduceEqDiff, Nat.reduceLT, true_and, List.map_cons, List.map_nil, Nat.zero_add, Nat.reduceBEq, q1]
    have oa : (σ1 ++ [AObj.cells (tryC 1 l7la .nilslice)])[σ1.length]? = some (.cells (tryC 1 l7la .nilslice)) := by simp
    have g2 : Grows σ1 (σ1 ++ [AObj.cells (tryC 1 l7la .nilslice)]) := Grows.app _ _
    generalize σ1 ++ [AObj.cells (tryC 1 l7la .nilslice)] = σ2 at oa g2
    generalize σ1.length = ia at oa
    refine isoW_closed (args' := []) rfl l7_c (by decide) ?_
    simp -dsimp only [↓WPd, ↓wpC_block, ↓wpC_cond, WPu, Bool.false_eq_true, Bool.true_eq_false, Bool.not_true, Bool.not_false, if_true, if_false, ite_true, ite_false, Nat.reduceEqDiff, Nat.reduceLT, true_and, List.map_cons, List.map_nil, Nat.zero_add, Nat.reduceBEq, bP, bB, bL]
    refine isoW_closed (args' := [l7h, l7c, l7p 1 0]) (l7_args (g2.get o1) (g2.get o2) 1 0) l7_b (by decide) ?_
    rw [eb]
    have q2 := l7_put σ2 (k := 2) (lv := .nilslice) (wv := .nilslice) rfl rfl
    simp -dsimp only [↓WPd, ↓wpC_block, ↓wpC_cond, WPu, Bool.false_eq_true, Bool.true_eq_false, Bool.not_true, Bool.not_false, if_true, if_false, ite_true, ite_false, Nat.reduceEqDiff, Nat.reduceLT, true_and, List.map_cons, List.map_nil, Nat.zero_add, Nat.reduceBEq, q2]
    have ob : (σ2 ++ [AObj.cells (tryC 2 .nilslice .nilslice)])[σ2.length]? = some (.cells (tryC 2 .nilslice .nilslice)) := by simp
    have g3 : Grows σ2 (σ2 ++ [AObj.cells (tryC 2 .nilslice .nilslice)]) := Grows.app _ _
    generalize σ2 ++ [AObj.cells (tryC 2 .nilslice .nilslice)] = σ3 at ob g3
    generalize σ2.length = ib at ob
    refine isoW_closed (args' := []) rfl l7_c (by decide) ?_
    simp -dsimp only [↓WPd, ↓wpC_block, ↓wpC_cond, WPu, Bool.false_eq_true, Bool.true_eq_false, Bool.not_true, Bool.not_false, if_true, if_false, ite_true, ite_false, Nat.reduceEqDiff, Nat.reduceLT, true_and, List.map_cons, List.map_nil, Nat.zero_add, Nat.reduceBEq, bP, bS, bL]
    refine isoW_closed (args' := [l7h, l7c, l7p 4 0]) (l7_args (g3.get (g2.get o1)) (g3.get (g2.get o2)) 4 0) l7_s (by decide) ?_
    rw [es]
    have q3 := l7_put σ3 (k := 3) (lv := .nilslice) (wv := l7ws) rfl rfl
    simp -dsimp only [↓WPd, ↓wpC_block, ↓wpC_cond, WPu, Bool.false_eq_true, Bool.true_eq_false, Bool.not_true, Bool.not_false, if_true, if_false, ite_true, ite_false, Nat.reduceEqDiff, Nat.reduceLT, true_and, List.map_cons, List.map_nil, Nat.zero_add, Nat.reduceBEq, q3]
    have oc : (σ3 ++ [AObj.cells (tryC 3 .nilslice l7ws)])[σ3.length]? = some (.cells (tryC 3 .nilslice l7ws)) := by simp
    have g4 : Grows σ3 (σ3 ++ [AObj.cells (tryC 3 .nilslice l7ws)]) := Grows.app _ _
    generalize σ3 ++ [AObj.cells (tryC 3 .nilslice l7ws)] = σ4 at oc g4
    generalize σ3.length = ic at oc
    have oa4 := g4.get (g3.get oa)
    have ob4 := g4.get ob
    have t0 : ∀ k lv wv, (tryC k lv wv)[0]? = some (.int .u8 k) := fun _ _ _ => rfl
    have t3 : ∀ k lv wv, (tryC k lv wv)[3]? = some wv := fun _ _ _ => rfl
    have k1 : (((1 : Nat) : Int) == 1) = true := rfl
    have k2 : (((2 : Nat) : Int) == 2) = true := rfl
    have k3 : (((3 : Nat) : Int) == 3) = true := rfl
    have lw : lenSV l7ws = some 1 := rfl
    simp -dsimp only [↓WPd, ↓wpC_block, ↓wpC_cond, WPu, Bool.false_eq_true, Bool.true_eq_false, Bool.not_true, Bool.not_false, if_true, if_false, ite_true, ite_false, Nat.reduceEqDiff, Nat.reduceLT, true_and, List.map_cons, List.map_nil, Nat.zero_add, Nat.reduceBEq, faddr_ptr, Nat.add_zero, Nat.zero_add, load_cells oa4, load_cells ob4, load_cells oc, t0, t3, k1, k2, k3, lw]
  obtain ⟨n, v, σ', h1, h2⟩ := key
  exact ⟨n, by rw [h1, h2]; rfl⟩
end Go.Proofs.YtkjnanfkclijcaaDoor.Am

namespace Go.Proofs.YtkjnanfkclijcaaDoor.Am
open Go
set_option linter.unusedVariables false
set_option linter.unusedSimpArgs false
set_option linter.unusedSectionVars false
set_option maxRecDepth 100000
theorem putT_len (t : List Cel) (ls : List (List Cel)) : (putT t ls).length ≤ 256 := by
  unfold putT
  split
  · rename_i h
    unfold putE at h
    split at h
    · cases h
    · split at h
      · cases h
      · split at h
        · cases h
        · omega
  · exact Nat.zero_le _
theorem bodyT_small (ts ls : List (List Cel)) : (bodyT ts ls).length ≤ ts.length ∧ ∀ t ∈ bodyT ts ls, t.length ≤ 256 := by
  unfold bodyT
  split
  · refine ⟨by simp, fun t ht => ?_⟩
    obtain ⟨u, -, rfl⟩ := List.mem_map.1 ht
    exact putT_len u ls
  · exact ⟨Nat.zero_le _, fun t ht => by cases ht⟩
set_option maxHeartbeats 1000000 in
theorem bodies_run (hv gv bv lv fv : AVal) (n : Int) (p : List Cel) (bs ls : List (List Cel)) (fr : List Nm) (h2 : gv.one = true) (sp : Small p) (hp : Told hv p) (hb : TA bv bs) (hbl : bs.length < 2 ^ 30) (sb : ∀ t ∈ bs, Small t) (hl : TA lv ls) (hll : ls.length < 2 ^ 30) (sl : ∀ t ∈ ls, Small t) (hf : ∀ σ : Store, SlOf σ 2 fv (NN fr)) (hfl : fr.length < 2 ^ 30) :
    Called CU.cfg 0 6 [.agg (clC hv gv bv n), lv, fv] [] fun v _ => v = .bool true := by
  refine called_of (fn := CU.a6) rfl (Nat.le_of_ble_eq_true rfl) ?_
  simp only [CU.a6]
  have h1 := (hp []).one
  have h3 : bv.one = true := by obtain ⟨bes, q, -⟩ := hb; exact (q []).one
  have ho : ([] ++ [AObj.cells (clC hv gv bv n)] : Store)[([] : Store).length]? = some (.cells (clC hv gv bv n)) := by simp
  simp -dsimp only [↓WPd, ↓wpC_block, ↓wpC_cond, WPu, Bool.false_eq_true, Bool.true_eq_false, Bool.not_true, Bool.not_false, if_true, if_false, ite_true, ite_false, Nat.reduceEqDiff, Nat.reduceLT, true_and, List.map_cons, List.map_nil, Nat.zero_add, Nat.reduceBEq, cells_agg, clC_one h1 h2 h3]
  generalize ([] ++ [AObj.cells (clC hv gv bv n)] : Store) = σ1 at ho
  generalize ([] : Store).length = i1 at ho
  have BA := mbody_ok 0 σ1 hv gv bv lv fv n p bs ls fr h2 sp hp hb hbl sb hl hll sl hf hfl
  have hfree : ∃ (e : Int) (os : List (List Cel)), (os.length < 2 ^ 30 ∧ ∀ t ∈ os, t.length < 2 ^ 40) ∧ (Called CU.cfg 0 30 [.agg (clC hv gv bv n), lv, fv] σ1 fun r σ' => BodyOk σ1 σ' r e os) ∧ ∀ σ, Called CU.cfg 0 31 [.agg (clC hv gv bv n), lv, fv] σ fun r σ' => BodyOk σ σ' r e os := by
    by_cases hc : (freeF (varsL [] p) (countC n)).length = fr.length
    · have hS := body_same (all_same ls (countC n) ((freeF (varsL [] p) (countC n)).zip fr) (fun q hq => freeF_lt (List.of_mem_zip hq).1)).2.2 bs
      obtain ⟨z1, z2⟩ := bodyT_small bs (allP ls (countC n) ((freeF (varsL [] p) (countC n)).zip fr))
      refine ⟨bodyE bs (allP ls (countC n) ((freeF (varsL [] p) (countC n)).zip fr)), bodyT bs (allP ls (countC n) ((freeF (varsL [] p) (countC n)).zip fr)), ⟨by omega, fun t ht => by have := z2 t ht; omega⟩, BA.mono fun v σ' h => by rw [if_pos hc] at h; exact h, fun σ => (rbody_ok 0 σ hv gv bv lv fv n p bs ls fr h2 sp hp hb hbl sb hl hll sl hf hfl).mono fun v σ' h => ?_⟩
      rw [if_pos hc, ← hS.1, ← hS.2] at h; exact h
    · refine ⟨4, [], ⟨by simp, fun t ht => by cases ht⟩, BA.mono fun v σ' h => by rw [if_neg hc] at h; exact h, fun σ => (rbody_ok 0 σ hv gv bv lv fv n p bs ls fr h2 sp hp hb hbl sb hl hll sl hf hfl).mono fun v σ' h => ?_⟩
      rw [if_neg hc] at h; exact h
  obtain ⟨e, os, ⟨zo, zs⟩, CA, CR⟩ := hfree
  simp -dsimp only [↓WPd, ↓wpC_block, ↓wpC_cond, WPu, Bool.false_eq_true, Bool.true_eq_false, Bool.not_true, Bool.not_false, if_true, if_false, ite_true, ite_false, Nat.reduceEqDiff, Nat.reduceLT, true_and, List.map_cons, List.map_nil, Nat.zero_add, Nat.reduceBEq, loadN_cells (n := 4) ho rfl]
  refine calledW_of CA ?_
  rintro r σ2 ⟨u, rfl, g2, tu⟩
  have ho2 := g2.get ho
  simp -dsimp only [↓WPd, ↓wpC_block, ↓wpC_cond, WPu, Bool.false_eq_true, Bool.true_eq_false, Bool.not_true, Bool.not_false, if_true, if_false, ite_true, ite_false, Nat.reduceEqDiff, Nat.reduceLT, true_and, List.map_cons, List.map_nil, Nat.zero_add, Nat.reduceBEq, loadN_cells (n := 4) ho2 rfl, List.getElem?_cons_zero, List.getElem?_cons_succ]
  refine calledW_of (CR σ2) ?_
  rintro r σ3 ⟨w, rfl, g3, tw⟩
  have ho3 := g3.get ho2
  simp -dsimp only [↓WPd, ↓wpC_block, ↓wpC_cond, WPu, Bool.false_eq_true, Bool.true_eq_false, Bool.not_true, Bool.not_false, if_true, if_false, ite_true, ite_false, Nat.reduceEqDiff, Nat.reduceLT, true_and, List.map_cons, List.map_nil, Nat.zero_add, Nat.reduceBEq, List.getElem?_cons_zero, List.getElem?_cons_succ]
  refine drawnP_of rfl ?_
  simp -dsimp only [↓WPd, ↓wpC_block, ↓wpC_cond, WPu, Bool.false_eq_true, Bool.true_eq_false, Bool.not_true, Bool.not_false, if_true, if_false, ite_true, ite_false, Nat.reduceEqDiff, Nat.reduceLT, true_and, List.map_cons, List.map_nil, Nat.zero_add, Nat.reduceBEq, ↓WPed, WPeu, Nat.reduceAdd, and_self, loadN_cells (n := 4) ho3 rfl]
  refine calledW_of (free_ok 0 σ3 hv gv bv n p h2 h3 sp (hp σ3)) ?_
  rintro x σ4 ⟨g4, ox⟩
  have ho4 := g4.get ho3
  simp -dsimp only [↓WPd, ↓wpC_block, ↓wpC_cond, WPu, Bool.false_eq_true, Bool.true_eq_false, Bool.not_true, Bool.not_false, if_true, if_false, ite_true, ite_false, Nat.reduceEqDiff, Nat.reduceLT, true_and, List.map_cons, List.map_nil, Nat.zero_add, Nat.reduceBEq, ↓WPed, WPeu, Nat.reduceAdd, and_self, loadN_cells (n := 4) ho3 rfl, loadN_cells (n := 4) ho4 rfl]
  refine calledW_of (rfree_ok 0 σ4 hv gv bv n p h2 h3 sp (hp σ4)) ?_
  rintro y σ5 ⟨g5, oy⟩
  have ox5 := (ox.grow g5).sl
  have oy5 := oy.sl
  have hfle := freeF_le (varsL [] p) (countC n)
  have hN := countC_le n
  generalize freeF (varsL [] p) (countC n) = fs at *
  have lx := ox5.len
  have ly := oy5.len
  rw [List.length_map] at lx ly
  obtain ⟨m, hlive⟩ := live07_ran
  have e1 : (e != e) = false := by simp
  have e2 : ((fs.length : Int) != (fs.length : Int)) = false := by simp
  simp -dsimp only [↓WPd, ↓wpC_block, ↓wpC_cond, WPu, Bool.false_eq_true, Bool.true_eq_false, Bool.not_true, Bool.not_false, if_true, if_false, ite_true, ite_false, Nat.reduceEqDiff, Nat.reduceLT, true_and, List.map_cons, List.map_nil, Nat.zero_add, Nat.reduceBEq, ↓WPed, WPeu, Nat.reduceAdd, and_self, loadN_cells (n := 4) ho3 rfl, loadN_cells (n := 4) ho4 rfl]
  refine isoW_bool hlive ?_
  simp -dsimp only [↓WPd, ↓wpC_block, ↓wpC_cond, WPu, Bool.false_eq_true, Bool.true_eq_false, Bool.not_true, Bool.not_false, if_true, if_false, ite_true, ite_false, Nat.reduceEqDiff, Nat.reduceLT, true_and, List.map_cons, List.map_nil, Nat.zero_add, Nat.reduceBEq, e1]
  refine calledW_of (sameterms_ok 0 σ5 u w os (by omega) zs (((tu.grow g3).grow g4).grow g5) ((tw.grow g4).grow g5)) ?_
  rintro v σ6 ⟨rfl, rfl⟩
  simp -dsimp only [↓WPd, ↓wpC_block, ↓wpC_cond, WPu, Bool.false_eq_true, Bool.true_eq_false, Bool.not_true, Bool.not_false, if_true, if_false, ite_true, ite_false, Nat.reduceEqDiff, Nat.reduceLT, true_and, List.map_cons, List.map_nil, Nat.zero_add, Nat.reduceBEq, lx, ly, e2]
  refine loop_rule2 (fun m vs σ' => ∃ k, k ≤ fs.length ∧ m = fs.length - k ∧ vs = [x, y, .int .i64 k] ∧ σ' = σ6) [] (fun e vs σ' => e = .exit 0 ∧ σ' = σ6) fs.length ⟨0, Nat.zero_le _, rfl, ?_, rfl⟩ ?_ ?_
  · simp -dsimp only [↓WPd, ↓wpC_block, ↓wpC_cond, WPu, Bool.false_eq_true, Bool.true_eq_false, Bool.not_true, Bool.not_false, if_true, if_false, ite_true, ite_false, Nat.reduceEqDiff, Nat.reduceLT, true_and, List.map_cons, List.map_nil, Nat.zero_add, Nat.reduceBEq]; rfl
  · rintro m vs σ' ⟨k, hk, rfl, rfl, rfl⟩
    simp -dsimp only [↓WPd, ↓wpC_block, ↓wpC_cond, WPu, Bool.false_eq_true, Bool.true_eq_false, Bool.not_true, Bool.not_false, if_true, if_false, ite_true, ite_false, Nat.reduceEqDiff, Nat.reduceLT, true_and, List.map_cons, List.map_nil, Nat.zero_add, Nat.reduceBEq, lx]
    refine condP_dec (fun h => ?_) (fun h => ?_)
    · have hk' : k < fs.length := by omega
      obtain ⟨a1, a2⟩ := ints_at ox5 hk'
      obtain ⟨b1, b2⟩ := ints_at oy5 hk'
      have e3 : ((fs[k] : Int) != (fs[k] : Int)) = false := by simp
      simp -dsimp only [↓WPd, ↓wpC_block, ↓wpC_cond, WPu, Bool.false_eq_true, Bool.true_eq_false, Bool.not_true, Bool.not_false, if_true, if_false, ite_true, ite_false, Nat.reduceEqDiff, Nat.reduceLT, true_and, List.map_cons, List.map_nil, Nat.zero_add, Nat.reduceBEq, a1, a2, b1, b2, e3]
      exact ⟨fs.length - (k + 1), by omega, k + 1, by omega, rfl, by rw [wrap_i64 (by omega) (by omega), Int.natCast_add, Int.natCast_one], trivial⟩
    · simp -dsimp only [↓WPd, ↓wpC_block, ↓wpC_cond, WPu, Bool.false_eq_true, Bool.true_eq_false, Bool.not_true, Bool.not_false, if_true, if_false, ite_true, ite_false, Nat.reduceEqDiff, Nat.reduceLT, true_and, List.map_cons, List.map_nil, Nat.zero_add, Nat.reduceBEq]
  · rintro e σ' env ⟨rfl, rfl⟩
    simp -dsimp only [↓WPd, ↓wpC_block, ↓wpC_cond, WPu, Bool.false_eq_true, Bool.true_eq_false, Bool.not_true, Bool.not_false, if_true, if_false, ite_true, ite_false, Nat.reduceEqDiff, Nat.reduceLT, true_and, List.map_cons, List.map_nil, Nat.zero_add, Nat.reduceBEq]
end Go.Proofs.YtkjnanfkclijcaaDoor.Am

namespace Go.Proofs.YtkjnanfkclijcaaDoor.Am
open Go Go.RowKit Go.ChangeShapes Go.WideShapes Go.ChangeAt Go.Proofs.YtkjnanfkclijcaaDoor.Rows
set_option linter.unusedVariables false
set_option linter.unusedSimpArgs false
set_option maxRecDepth 100000
section
variable {H : Type}
theorem terms_rd {n : Nat} {d : DataW H} (h : Typed Tryd.prog (n + 5) 47 d) (hb : uptoBulk d ≤ 1048576) : ∃ ls : List (List Cel), TA (argV Tryd.prog (n + 5) 47 d) ls ∧ (∀ t ∈ ls, Small t ∧ ∀ c ∈ t, c.In) ∧ ls.length ≤ uptoBulk d := by
  rcases slice_of Tryd.underlying47 h with rfl | ⟨ds, rest, rfl, hd, ha, hb2⟩
  · exact ⟨[], ⟨[], fun σ => by rw [argV_nil Tryd.underlying47]; exact SlOf.nil σ 1, .nil⟩, (fun t ht => by cases ht), Nat.zero_le _⟩
  · obtain ⟨xs, h1, h2, h3, h4⟩ := list_of (R := fun a (cs : List Cel) => Told a cs ∧ ∀ c ∈ cs, c.In) (size := fun cs : List Cel => max cs.length (cs.map fun c => c.s.length).sum) (fun d h => by
      obtain ⟨cs, a1, a2, a3, a4⟩ := term_at (n := n) h
      exact ⟨cs, ⟨a1, a2⟩, by omega⟩) ds hd
    have hget : ∀ (i : Nat) (cs : List Cel), xs[i]? = some cs → Told ((ds.map fun x => argV Tryd.prog (n + 4) 23 x)[i]?.getD .undef) cs ∧ ∀ c ∈ cs, c.In := fun i cs hi => by
      have hlt := (List.getElem?_eq_some_iff.1 hi).1
      have e1 : (ds.map fun x => argV Tryd.prog (n + 4) 23 x)[i]? = some (argV Tryd.prog (n + 4) 23 (ds[i]'(by omega))) := by simp [List.getElem?_eq_getElem (show i < ds.length by omega)]
      rw [e1]; exact h2 i _ _ e1 hi
    refine ⟨xs, ⟨_, fun σ => by rw [ha]; exact SlOf.fs _ _ _ _ _, Two.of_get (by rw [List.length_map]; exact h1.symm) fun i a b h5 h6 => ?_⟩, fun t ht => ?_, by omega⟩
    · have := (hget i b h6).1; rw [h5] at this; exact this
    · obtain ⟨i, hi⟩ := List.getElem?_of_mem ht
      have h7 := mem_sum (fun cs : List Cel => max cs.length (cs.map fun c => c.s.length).sum) ht
      have h8 := (hget i t hi).2
      exact ⟨⟨by omega, cells_in (b := 1048576) h8 (by omega) (by omega)⟩, h8⟩
theorem names_rd {n : Nat} {d : DataW H} (h : Typed Tryd.prog (n + 3) 54 d) (hb : uptoBulk d ≤ 1048576) : ∃ fr : List Nm, (∀ σ : Store, SlOf σ 2 (argV Tryd.prog (n + 3) 54 d) (NN fr)) ∧ fr.length ≤ uptoBulk d := by
  rcases slice_of Tryd.underlying54 h with rfl | ⟨ds, rest, rfl, hd, ha, hb2⟩
  · exact ⟨[], fun σ => by rw [argV_nil Tryd.underlying54]; exact SlOf.nil σ 2, Nat.zero_le _⟩
  · obtain ⟨xs, h1, h2, h3, h4⟩ := list_of (R := fun a (v : Nm) => a = nmV v) (size := fun _ => 0) (fun d h => by
      obtain ⟨v, a1, a2⟩ := name_at (n := n) h
      exact ⟨v, by rw [struct_argV Tryd.underlying46, a1]; rfl, Nat.zero_le _⟩) ds hd
    have e : (ds.map fun x => argV Tryd.prog (n + 2) 46 x) = NN xs := by
      refine List.ext_getElem? fun i => ?_
      by_cases hi : i < ds.length
      · have e1 : (ds.map fun x => argV Tryd.prog (n + 2) 46 x)[i]? = some (argV Tryd.prog (n + 2) 46 ds[i]) := by simp [List.getElem?_eq_getElem hi]
        have e2 : xs[i]? = some (xs[i]'(by omega)) := List.getElem?_eq_getElem (by omega)
        rw [e1, h2 i _ _ e1 e2, List.getElem?_map, e2]; rfl
      · rw [List.getElem?_eq_none (by simp; omega), List.getElem?_eq_none (by simp; omega)]
    refine ⟨xs, fun σ => ?_, by omega⟩
    rw [ha, e]; exact SlOf.fs _ _ _ _ _
theorem clause_rd {n : Nat} {d : DataW H} (h : Typed Tryd.prog (n + 6) 62 d) (hb : uptoBulk d ≤ 1048576) : ∃ (hv gv bv : AVal) (k : Int) (p : List Cel) (bs : List (List Cel)), argV Tryd.prog (n + 6) 62 d = .agg (clC hv gv bv k) ∧ gv.one = true ∧ Told hv p ∧ Small p ∧ TA bv bs ∧ (∀ t ∈ bs, Small t) ∧ bs.length ≤ uptoBulk d := by
  obtain ⟨ds, rfl, hl, hty, _, hsum⟩ := struct_of Tryd.underlying62 h
  match ds, hl with
  | [x, y, z, u], _ =>
    have hx := hty 0 _ x rfl rfl
    have hy := hty 1 _ y rfl rfl
    have hz := hty 2 _ z rfl rfl
    simp only [uptoBulkAll] at hsum
    obtain ⟨p, p1, p2, p3, p4⟩ := term_told (n := n + 1) hx (by omega)
    obtain ⟨gs, ⟨ges, g1, -⟩, g2, g3⟩ := terms_rd (n := n) hy (by omega)
    obtain ⟨bs, b1, b2, b3⟩ := terms_rd (n := n) hz (by omega)
    obtain ⟨k, k1, k2⟩ := int_dec Tryd.underlying3 (hty 3 _ u rfl rfl)
    have dx : dec Tryd.prog (n + 5) 23 x = [argV Tryd.prog (n + 5) 23 x] := dec_one hx (by kernel_rfl)
    have dy : dec Tryd.prog (n + 5) 47 y = [argV Tryd.prog (n + 5) 47 y] := dec_one hy (by kernel_rfl)
    have dz : dec Tryd.prog (n + 5) 47 z = [argV Tryd.prog (n + 5) 47 z] := dec_one hz (by kernel_rfl)
    refine ⟨_, _, _, k, p, bs, ?_, (g1 []).one, p1, p2, b1, fun t ht => (b2 t ht).1, by omega⟩
    rw [struct_argV Tryd.underlying62, struct_dec Tryd.underlying62]
    simp only [List.zipWith_cons_cons, List.zipWith_nil_left, List.flatten_cons, List.flatten_nil, dx, dy, dz, k1]
    rfl
end
end Go.Proofs.YtkjnanfkclijcaaDoor.Am

