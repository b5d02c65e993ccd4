/-
  The abstract machine and the functions of the law, 5: texts put together.
-/
import Derived.Test.YtkjnanfkclijcaaDoorUnifyEquationsPkD
/-
  TERMS: the laws of cells.
-/
namespace Go.Proofs.YtkjnanfkclijcaaDoor.Am
open Go
set_option linter.unusedVariables false
set_option linter.unusedSimpArgs false
set_option linter.unusedSectionVars false
set_option maxRecDepth 100000

theorem Cel.one (c : Cel) : c.cs.all AVal.one = true := rfl
theorem Cel.cells (c : Cel) : c.val.cells = c.cs := rfl
theorem Cel.g0 (c : Cel) : c.cs[0]? = some (.int .u8 c.k) := rfl
theorem Cel.g1 (c : Cel) : c.cs[1]? = some (.str c.s) := rfl
theorem Cel.g2 (c : Cel) : c.cs[2]? = some (.int .i64 c.n) := rfl
theorem Cel.g3 (c : Cel) : c.cs[3]? = some (.int .i64 c.v.1) := rfl
theorem Cel.g4 (c : Cel) : c.cs[4]? = some (.int .i64 c.v.2) := rfl
theorem Cel.eqs (a b : Cel) : eqsV [.i, .s, .i, .i, .i] a.val b.val = some (decide (a = b)) := by
  obtain ⟨k, s, n, v, w⟩ := a
  obtain ⟨k', s', n', v', w'⟩ := b
  simp [eqsV, cellsEq, Cel.val, Cel.cs]
  rw [Bool.eq_iff_iff]
  simp
  omega

section
variable (d : Nat) (σ : Store)

theorem only_ok (a b : Cel) : Called CU.cfg d 154 [a.val, b.val] σ fun v σ' => v = .bool (decide (a = b)) ∧ Grows σ σ' := by
  refine called_of (fn := CU.a154) rfl (Nat.le_of_ble_eq_true rfl) ?_
  simp only [CU.a154]
  simp -dsimp only [↓WPd, ↓wpC_block, ↓wpC_cond, WPu, Bool.false_eq_true, Bool.true_eq_false, Bool.not_true, Bool.not_false, if_true, if_false, ite_true, ite_false, Nat.reduceEqDiff, Nat.reduceLT, true_and, List.map_cons, List.map_nil, Nat.zero_add, Nat.reduceBEq, Cel.cells, Cel.one]
  have h1 : (σ ++ [AObj.cells a.cs] ++ [AObj.cells b.cs])[σ.length]? = some (.cells a.cs) := by simp
  have h2 : (σ ++ [AObj.cells a.cs] ++ [AObj.cells b.cs])[(σ ++ [AObj.cells a.cs]).length]? = some (.cells b.cs) := by simp
  have l1 : loadV (σ ++ [AObj.cells a.cs] ++ [AObj.cells b.cs]) 5 true (.ptr σ.length 0) = some a.val := loadN_cells h1 rfl
  have l2 : loadV (σ ++ [AObj.cells a.cs] ++ [AObj.cells b.cs]) 5 true (.ptr (σ ++ [AObj.cells a.cs]).length 0) = some b.val := loadN_cells h2 rfl
  simp -dsimp only [↓WPd, ↓wpC_block, ↓wpC_cond, WPu, Bool.false_eq_true, Bool.true_eq_false, Bool.not_true, Bool.not_false, if_true, if_false, ite_true, ite_false, Nat.reduceEqDiff, Nat.reduceLT, true_and, List.map_cons, List.map_nil, Nat.zero_add, Nat.reduceBEq, l1, l2, Cel.eqs]
  exact (Grows.app _ _).trans (Grows.app _ _)

/-- a cell that lies in the store -/
theorem cell_load {c : Cel} {σ' : Store} {i : Nat} (h : σ'[i]? = some (.cells c.cs)) : loadV σ' 5 true (.ptr i 0) = some c.val := loadN_cells h rfl

theorem rule1_ok (c : Cel) : Called CU.cfg d 153 [c.val] σ fun v σ' => v = .bool (decide (c.k = 1) && c.ok) ∧ Grows σ σ' := by
  refine called_of (fn := CU.a153) rfl (Nat.le_of_ble_eq_true rfl) ?_
  simp only [CU.a153]
  simp -dsimp only [↓WPd, ↓wpC_block, ↓wpC_cond, WPu, Bool.false_eq_true, Bool.true_eq_false, Bool.not_true, Bool.not_false, if_true, if_false, ite_true, ite_false, Nat.reduceEqDiff, Nat.reduceLT, true_and, List.map_cons, List.map_nil, Nat.zero_add, Nat.reduceBEq, Cel.cells, Cel.one]
  have ho : (σ ++ [AObj.cells c.cs])[σ.length]? = some (.cells c.cs) := by simp
  have g0 : Grows σ (σ ++ [AObj.cells c.cs]) := Grows.app _ _
  generalize σ ++ [AObj.cells c.cs] = σ1 at ho g0
  simp -dsimp only [↓WPd, ↓wpC_block, ↓wpC_cond, WPu, Bool.false_eq_true, Bool.true_eq_false, Bool.not_true, Bool.not_false, if_true, if_false, ite_true, ite_false, Nat.reduceEqDiff, Nat.reduceLT, true_and, List.map_cons, List.map_nil, Nat.zero_add, Nat.reduceBEq, WPm, faddr_ptr, load_cells ho, Cel.g0, Cel.g1, Cel.g2, Cel.g3, Cel.g4, cell_load ho]
  generalize hb : (decide (c.n ≥ -2147483648) && decide (c.n ≤ 2147483648)) = b
  have hok : (decide (c.k = 1) && c.ok) = (b && decide (c = ⟨1, [], c.n, (0, 0)⟩)) := by
    rw [← hb]
    obtain ⟨k, s, n, v⟩ := c
    by_cases h1 : k = 1
    · subst h1
      rw [Bool.eq_iff_iff]
      simp [Cel.ok]
      constructor <;> intro h <;> simp_all
    · simp [h1]
  have hf : fillA [AVal.int IntKind.u8 0, AVal.str [], AVal.int IntKind.i64 0, AVal.int IntKind.i64 0, AVal.int IntKind.i64 0] [(0, 1, AVal.int IntKind.u8 1), (2, 1, AVal.int IntKind.i64 c.n)] = some (Cel.cs ⟨1, [], c.n, (0, 0)⟩) := rfl
  cases b
  · simp -dsimp only [↓WPd, ↓wpC_block, ↓wpC_cond, WPu, Bool.false_eq_true, Bool.true_eq_false, Bool.not_true, Bool.not_false, if_true, if_false, ite_true, ite_false, Nat.reduceEqDiff, Nat.reduceLT, true_and, List.map_cons, List.map_nil, Nat.zero_add, Nat.reduceBEq, WPm, hok, Bool.false_and]
    exact g0
  · simp -dsimp only [↓WPd, ↓wpC_block, ↓wpC_cond, WPu, Bool.false_eq_true, Bool.true_eq_false, Bool.not_true, Bool.not_false, if_true, if_false, ite_true, ite_false, Nat.reduceEqDiff, Nat.reduceLT, true_and, List.map_cons, List.map_nil, Nat.zero_add, Nat.reduceBEq, WPm, hf]
    refine calledW_of (only_ok d σ1 c ⟨1, [], c.n, (0, 0)⟩) ?_
    rintro v σ2 ⟨rfl, g2⟩
    simp -dsimp only [↓WPd, ↓wpC_block, ↓wpC_cond, WPu, Bool.false_eq_true, Bool.true_eq_false, Bool.not_true, Bool.not_false, if_true, if_false, ite_true, ite_false, Nat.reduceEqDiff, Nat.reduceLT, true_and, List.map_cons, List.map_nil, Nat.zero_add, Nat.reduceBEq, hok, Bool.true_and]
    exact g0.trans g2

theorem rule2_ok (c : Cel) (hs : c.s.length < 2 ^ 40) : Called CU.cfg d 155 [c.val] σ fun v σ' => v = .bool (decide (c.k = 2) && c.ok) ∧ Grows σ σ' := by
  refine called_of (fn := CU.a155) rfl (Nat.le_of_ble_eq_true rfl) ?_
  simp only [CU.a155]
  simp -dsimp only [↓WPd, ↓wpC_block, ↓wpC_cond, WPu, Bool.false_eq_true, Bool.true_eq_false, Bool.not_true, Bool.not_false, if_true, if_false, ite_true, ite_false, Nat.reduceEqDiff, Nat.reduceLT, true_and, List.map_cons, List.map_nil, Nat.zero_add, Nat.reduceBEq, Cel.cells, Cel.one]
  have ho : (σ ++ [AObj.cells c.cs])[σ.length]? = some (.cells c.cs) := by simp
  have g0 : Grows σ (σ ++ [AObj.cells c.cs]) := Grows.app _ _
  generalize σ ++ [AObj.cells c.cs] = σ1 at ho g0
  simp -dsimp only [↓WPd, ↓wpC_block, ↓wpC_cond, WPu, Bool.false_eq_true, Bool.true_eq_false, Bool.not_true, Bool.not_false, if_true, if_false, ite_true, ite_false, Nat.reduceEqDiff, Nat.reduceLT, true_and, List.map_cons, List.map_nil, Nat.zero_add, Nat.reduceBEq, WPm, faddr_ptr, load_cells ho, Cel.g0, Cel.g1, Cel.g2, Cel.g3, Cel.g4, cell_load ho]
  refine calledW_of (isname_ok d σ1 c.s hs) ?_
  rintro v σ2 ⟨rfl, rfl⟩
  have hok : (decide (c.k = 2) && c.ok) = (isName c.s && decide (c = ⟨2, c.s, 0, (0, 0)⟩)) := by
    obtain ⟨k, s, n, v⟩ := c
    by_cases h1 : k = 2
    · subst h1
      rw [Bool.eq_iff_iff]
      simp [Cel.ok]
      constructor <;> intro h <;> simp_all
    · simp [h1]
  have hf : fillA [AVal.int IntKind.u8 0, AVal.str [], AVal.int IntKind.i64 0, AVal.int IntKind.i64 0, AVal.int IntKind.i64 0] [(0, 1, AVal.int IntKind.u8 2), (1, 1, AVal.str c.s)] = some (Cel.cs ⟨2, c.s, 0, (0, 0)⟩) := rfl
  generalize hb : isName c.s = b at hok
  cases b
  · simp -dsimp only [↓WPd, ↓wpC_block, ↓wpC_cond, WPu, Bool.false_eq_true, Bool.true_eq_false, Bool.not_true, Bool.not_false, if_true, if_false, ite_true, ite_false, Nat.reduceEqDiff, Nat.reduceLT, true_and, List.map_cons, List.map_nil, Nat.zero_add, Nat.reduceBEq, WPm, hok, Bool.false_and]
    exact g0
  · simp -dsimp only [↓WPd, ↓wpC_block, ↓wpC_cond, WPu, Bool.false_eq_true, Bool.true_eq_false, Bool.not_true, Bool.not_false, if_true, if_false, ite_true, ite_false, Nat.reduceEqDiff, Nat.reduceLT, true_and, List.map_cons, List.map_nil, Nat.zero_add, Nat.reduceBEq, WPm, faddr_ptr, load_cells ho, Cel.g0, Cel.g1, Cel.g2, Cel.g3, Cel.g4, cell_load ho, hf]
    refine calledW_of (only_ok d σ2 c ⟨2, c.s, 0, (0, 0)⟩) ?_
    rintro v σ3 ⟨rfl, g2⟩
    simp -dsimp only [↓WPd, ↓wpC_block, ↓wpC_cond, WPu, Bool.false_eq_true, Bool.true_eq_false, Bool.not_true, Bool.not_false, if_true, if_false, ite_true, ite_false, Nat.reduceEqDiff, Nat.reduceLT, true_and, List.map_cons, List.map_nil, Nat.zero_add, Nat.reduceBEq, hok, Bool.true_and]
    exact g0.trans g2

theorem rule4_ok (c : Cel) : Called CU.cfg d 159 [c.val] σ fun v σ' => v = .bool (decide (c.k = 4) && c.ok) ∧ Grows σ σ' := by
  refine called_of (fn := CU.a159) rfl (Nat.le_of_ble_eq_true rfl) ?_
  simp only [CU.a159]
  simp -dsimp only [↓WPd, ↓wpC_block, ↓wpC_cond, WPu, Bool.false_eq_true, Bool.true_eq_false, Bool.not_true, Bool.not_false, if_true, if_false, ite_true, ite_false, Nat.reduceEqDiff, Nat.reduceLT, true_and, List.map_cons, List.map_nil, Nat.zero_add, Nat.reduceBEq, Cel.cells, Cel.one]
  have ho : (σ ++ [AObj.cells c.cs])[σ.length]? = some (.cells c.cs) := by simp
  have g0 : Grows σ (σ ++ [AObj.cells c.cs]) := Grows.app _ _
  generalize σ ++ [AObj.cells c.cs] = σ1 at ho g0
  have l2 : loadV σ1 2 true (.ptr σ.length 3) = some (.agg [.int .i64 c.v.1, .int .i64 c.v.2]) := by simp [loadV, behind, ho, Cel.cs]
  simp -dsimp only [↓WPd, ↓wpC_block, ↓wpC_cond, WPu, Bool.false_eq_true, Bool.true_eq_false, Bool.not_true, Bool.not_false, if_true, if_false, ite_true, ite_false, Nat.reduceEqDiff, Nat.reduceLT, true_and, List.map_cons, List.map_nil, Nat.zero_add, Nat.reduceBEq, WPm, faddr_ptr, Nat.reduceAdd, Nat.add_zero, load_cells ho, Cel.g0, Cel.g1, Cel.g2, Cel.g3, Cel.g4, cell_load ho, l2]
  generalize hb : (decide (c.v.1 ≥ -1) && decide (c.v.1 < 4) && decide (c.v.2 ≥ 0)) = b
  have hok : (decide (c.k = 4) && c.ok) = (b && decide (c = ⟨4, [], 0, c.v⟩)) := by
    rw [← hb]
    obtain ⟨k, s, n, v, w⟩ := c
    by_cases h1 : k = 4
    · subst h1
      rw [Bool.eq_iff_iff]
      simp [Cel.ok]
      constructor
      · intro h; simp_all; omega
      · intro h; simp_all; omega
    · simp [h1]
  have hf : fillA [AVal.int IntKind.u8 0, AVal.str [], AVal.int IntKind.i64 0, AVal.int IntKind.i64 0, AVal.int IntKind.i64 0] [(0, 1, AVal.int IntKind.u8 4), (3, 2, AVal.agg [.int .i64 c.v.1, .int .i64 c.v.2])] = some (Cel.cs ⟨4, [], 0, c.v⟩) := rfl
  cases b
  · simp -dsimp only [↓WPd, ↓wpC_block, ↓wpC_cond, WPu, Bool.false_eq_true, Bool.true_eq_false, Bool.not_true, Bool.not_false, if_true, if_false, ite_true, ite_false, Nat.reduceEqDiff, Nat.reduceLT, true_and, List.map_cons, List.map_nil, Nat.zero_add, Nat.reduceBEq, WPm, hok, Bool.false_and]
    exact g0
  · simp -dsimp only [↓WPd, ↓wpC_block, ↓wpC_cond, WPu, Bool.false_eq_true, Bool.true_eq_false, Bool.not_true, Bool.not_false, if_true, if_false, ite_true, ite_false, Nat.reduceEqDiff, Nat.reduceLT, true_and, List.map_cons, List.map_nil, Nat.zero_add, Nat.reduceBEq, WPm, hf]
    refine calledW_of (only_ok d σ1 c ⟨4, [], 0, c.v⟩) ?_
    rintro v σ2 ⟨rfl, g2⟩
    simp -dsimp only [↓WPd, ↓wpC_block, ↓wpC_cond, WPu, Bool.false_eq_true, Bool.true_eq_false, Bool.not_true, Bool.not_false, if_true, if_false, ite_true, ite_false, Nat.reduceEqDiff, Nat.reduceLT, true_and, List.map_cons, List.map_nil, Nat.zero_add, Nat.reduceBEq, hok, Bool.true_and]
    exact g0.trans g2

theorem rule5_ok (c : Cel) : Called CU.cfg d 160 [c.val] σ fun v σ' => v = .bool false ∧ Grows σ σ' := by
  refine called_of (fn := CU.a160) rfl (Nat.le_of_ble_eq_true rfl) ?_
  simp only [CU.a160]
  simp -dsimp only [↓WPd, ↓wpC_block, ↓wpC_cond, WPu, Bool.false_eq_true, Bool.true_eq_false, Bool.not_true, Bool.not_false, if_true, if_false, ite_true, ite_false, Nat.reduceEqDiff, Nat.reduceLT, true_and, List.map_cons, List.map_nil, Nat.zero_add, Nat.reduceBEq, Cel.cells, Cel.one]
  exact Grows.app _ _

theorem ev_signs (fr : List AVal) : ev CU.cfg fr (.glob 0) = .fptr 0 (SS signsL) 0 := rfl
theorem gslice_signs : gsliceV 12 (.fptr 0 (SS signsL) 0) = some (.fslice 0 true 1 (SS signsL)) := rfl

theorem rule3_ok (c : Cel) (hs : c.s.length < 2 ^ 40) : Called CU.cfg d 157 [c.val] σ fun v σ' => v = .bool (decide (c.k = 3) && c.ok) ∧ Grows σ σ' := by
  refine called_of (fn := CU.a157) rfl (Nat.le_of_ble_eq_true rfl) ?_
  simp only [CU.a157]
  simp -dsimp only [↓WPd, ↓wpC_block, ↓wpC_cond, WPu, Bool.false_eq_true, Bool.true_eq_false, Bool.not_true, Bool.not_false, if_true, if_false, ite_true, ite_false, Nat.reduceEqDiff, Nat.reduceLT, true_and, List.map_cons, List.map_nil, Nat.zero_add, Nat.reduceBEq, Cel.cells, Cel.one]
  have ho : (σ ++ [AObj.cells c.cs])[σ.length]? = some (.cells c.cs) := by simp
  have g0 : Grows σ (σ ++ [AObj.cells c.cs]) := Grows.app _ _
  generalize σ ++ [AObj.cells c.cs] = σ1 at ho g0
  simp -dsimp only [↓WPd, ↓wpC_block, ↓wpC_cond, WPu, Bool.false_eq_true, Bool.true_eq_false, Bool.not_true, Bool.not_false, if_true, if_false, ite_true, ite_false, Nat.reduceEqDiff, Nat.reduceLT, true_and, List.map_cons, List.map_nil, Nat.zero_add, Nat.reduceBEq, WPm, faddr_ptr, load_cells ho, Cel.g0, Cel.g1, Cel.g2, Cel.g3, Cel.g4, cell_load ho]
  refine calledW_of (isname_ok d σ1 c.s hs) ?_
  rintro v σ2 ⟨rfl, rfl⟩
  simp -dsimp only [↓WPd, ↓wpC_block, ↓wpC_cond, WPu, Bool.false_eq_true, Bool.true_eq_false, Bool.not_true, Bool.not_false, if_true, if_false, ite_true, ite_false, Nat.reduceEqDiff, Nat.reduceLT, true_and, List.map_cons, List.map_nil, Nat.zero_add, Nat.reduceBEq, WPm, faddr_ptr, load_cells ho, Cel.g0, Cel.g1, Cel.g2, Cel.g3, Cel.g4, cell_load ho]
  generalize hb : (isName c.s && decide (c.n ≥ 1) && decide (c.n ≤ 8)) = b
  have hf : fillA [AVal.int IntKind.u8 0, AVal.str [], AVal.int IntKind.i64 0, AVal.int IntKind.i64 0, AVal.int IntKind.i64 0] [(0, 1, AVal.int IntKind.u8 3), (1, 1, AVal.str c.s), (2, 1, AVal.int IntKind.i64 c.n)] = some (Cel.cs ⟨3, c.s, c.n, (0, 0)⟩) := rfl
  have hok : (decide (c.k = 3) && c.ok) = ((b || (signsL.contains c.s && (c.n == 2))) && decide (c = ⟨3, c.s, c.n, (0, 0)⟩)) := by
    rw [← hb]
    obtain ⟨k, s, n, v⟩ := c
    by_cases h1 : k = 3
    · subst h1
      rw [Bool.eq_iff_iff]
      simp only [Cel.ok]
      simp
      constructor
      · intro h; simp_all
      · intro h; simp_all
    · simp [h1]
  have fin : ∀ (q : Bool) (σ3 : Store), Grows σ σ3 → σ3[σ.length]? = some (.cells c.cs) → (b || (signsL.contains c.s && (c.n == 2))) = q → q = true → Called CU.cfg d 154 [c.val, .agg (Cel.cs ⟨3, c.s, c.n, (0, 0)⟩)] σ3 fun v σ' => v = .bool (decide (c.k = 3) && c.ok) ∧ Grows σ σ' := by
    intro q σ3 g3 h3 hq hq1
    refine (only_ok d σ3 c ⟨3, c.s, c.n, (0, 0)⟩).mono ?_
    rintro v σ4 ⟨rfl, g4⟩
    rw [hok, hq, hq1, Bool.true_and]
    exact ⟨rfl, g3.trans g4⟩
  cases b
  · simp -dsimp only [↓WPd, ↓wpC_block, ↓wpC_cond, WPu, Bool.false_eq_true, Bool.true_eq_false, Bool.not_true, Bool.not_false, if_true, if_false, ite_true, ite_false, Nat.reduceEqDiff, Nat.reduceLT, true_and, List.map_cons, List.map_nil, Nat.zero_add, Nat.reduceBEq, WPm, ev_signs, gslice_signs, faddr_ptr, load_cells ho, Cel.g0, Cel.g1, Cel.g2, Cel.g3, Cel.g4, cell_load ho]
    refine calledW_of (scontains_ok d σ2 _ signsL c.s (by decide) (SlOf.fs _ _ _ _ _)) ?_
    rintro v σ3 ⟨rfl, rfl⟩
    simp -dsimp only [↓WPd, ↓wpC_block, ↓wpC_cond, WPu, Bool.false_eq_true, Bool.true_eq_false, Bool.not_true, Bool.not_false, if_true, if_false, ite_true, ite_false, Nat.reduceEqDiff, Nat.reduceLT, true_and, List.map_cons, List.map_nil, Nat.zero_add, Nat.reduceBEq, WPm, faddr_ptr, load_cells ho, Cel.g0, Cel.g1, Cel.g2, Cel.g3, Cel.g4, cell_load ho]
    generalize hq : (signsL.contains c.s && (c.n == 2)) = q at hok fin
    cases q
    · simp -dsimp only [↓WPd, ↓wpC_block, ↓wpC_cond, WPu, Bool.false_eq_true, Bool.true_eq_false, Bool.not_true, Bool.not_false, if_true, if_false, ite_true, ite_false, Nat.reduceEqDiff, Nat.reduceLT, true_and, List.map_cons, List.map_nil, Nat.zero_add, Nat.reduceBEq, WPm, hok, Bool.false_or, Bool.false_and]
      exact g0
    · simp -dsimp only [↓WPd, ↓wpC_block, ↓wpC_cond, WPu, Bool.false_eq_true, Bool.true_eq_false, Bool.not_true, Bool.not_false, if_true, if_false, ite_true, ite_false, Nat.reduceEqDiff, Nat.reduceLT, true_and, List.map_cons, List.map_nil, Nat.zero_add, Nat.reduceBEq, WPm, Bool.false_or, faddr_ptr, load_cells ho, Cel.g0, Cel.g1, Cel.g2, Cel.g3, Cel.g4, cell_load ho, hf]
      refine calledW_of (fin _ _ g0 ho rfl rfl) ?_
      rintro v σ4 ⟨rfl, g4⟩
      simp -dsimp only [↓WPd, ↓wpC_block, ↓wpC_cond, WPu, Bool.false_eq_true, Bool.true_eq_false, Bool.not_true, Bool.not_false, if_true, if_false, ite_true, ite_false, Nat.reduceEqDiff, Nat.reduceLT, true_and, List.map_cons, List.map_nil, Nat.zero_add, Nat.reduceBEq]
      exact g4
  · simp -dsimp only [↓WPd, ↓wpC_block, ↓wpC_cond, WPu, Bool.false_eq_true, Bool.true_eq_false, Bool.not_true, Bool.not_false, if_true, if_false, ite_true, ite_false, Nat.reduceEqDiff, Nat.reduceLT, true_and, List.map_cons, List.map_nil, Nat.zero_add, Nat.reduceBEq, WPm, Bool.true_or, faddr_ptr, load_cells ho, Cel.g0, Cel.g1, Cel.g2, Cel.g3, Cel.g4, cell_load ho, hf]
    refine calledW_of (fin _ _ g0 ho rfl rfl) ?_
    rintro v σ4 ⟨rfl, g4⟩
    simp -dsimp only [↓WPd, ↓wpC_block, ↓wpC_cond, WPu, Bool.false_eq_true, Bool.true_eq_false, Bool.not_true, Bool.not_false, if_true, if_false, ite_true, ite_false, Nat.reduceEqDiff, Nat.reduceLT, true_and, List.map_cons, List.map_nil, Nat.zero_add, Nat.reduceBEq]
    exact g4
end
end Go.Proofs.YtkjnanfkclijcaaDoor.Am

/-
  TERMS: which law a cell has; is one of a term's cells so?
-/
namespace Go.Proofs.YtkjnanfkclijcaaDoor.Am
open Go
set_option linter.unusedVariables false
set_option linter.unusedSimpArgs false
set_option linter.unusedSectionVars false
set_option maxRecDepth 100000
def ruleF (k : Nat) : FuncId := if k = 1 then 153 else if k = 2 then 155 else if k = 3 then 157 else if k = 4 then 159 else 160
def rulesL : List AVal := [.nilfunc, .func 153 [] [], .func 155 [] [], .func 157 [] [], .func 159 [] []]

section
variable (d : Nat) (σ : Store)

theorem rule_ok (k : Nat) (hk8 : k < 256) : Called CU.cfg d 116 [.int .u8 k] σ fun v σ' => v = .agg [.func (ruleF k) [] []] ∧ Grows σ σ' := by
  refine called_of (fn := CU.a116) rfl (Nat.le_of_ble_eq_true rfl) ?_
  simp only [CU.a116]
  have b1 : ∀ f : FuncId, fillA [AVal.nilfunc] [(0, 1, .func f [] [])] = some [.func f [] []] := fun f => rfl
  have b2 : ∀ a b c e : FuncId, fillA [AVal.nilfunc, .nilfunc, .nilfunc, .nilfunc, .nilfunc] [(1, 1, .agg [.func a [] []]), (2, 1, .agg [.func b [] []]), (3, 1, .agg [.func c [] []]), (4, 1, .agg [.func e [] []])] = some [.nilfunc, .func a [] [], .func b [] [], .func c [] [], .func e [] []] := fun a b c e => rfl
  have h5 : (σ ++ [AObj.cells [AVal.nilfunc]] ++ [AObj.cells [AVal.nilfunc, AVal.nilfunc, AVal.nilfunc, AVal.nilfunc, AVal.nilfunc]])[(σ ++ [AObj.cells [AVal.nilfunc]]).length]? = some (.cells [AVal.nilfunc, AVal.nilfunc, AVal.nilfunc, AVal.nilfunc, AVal.nilfunc]) := by simp
  have s5 := storeN_cells h5 (n := 5) rfl (cs' := rulesL) rfl rfl
  rw [set_last] at s5
  have s5' : storeV (σ ++ [AObj.cells [AVal.nilfunc]] ++ [AObj.cells [AVal.nilfunc, AVal.nilfunc, AVal.nilfunc, AVal.nilfunc, AVal.nilfunc]]) 5 (.ptr (σ ++ [AObj.cells [AVal.nilfunc]]).length 0) (.agg [.nilfunc, .func 153 [] [], .func 155 [] [], .func 157 [] [], .func 159 [] []]) = some (σ ++ [AObj.cells [AVal.nilfunc]] ++ [AObj.cells rulesL]) := s5
  have g0 : Grows σ (σ ++ [AObj.cells [AVal.nilfunc]] ++ [AObj.cells rulesL]) := (Grows.app _ _).trans (Grows.app _ _)
  have h1 : (σ ++ [AObj.cells [AVal.nilfunc]] ++ [AObj.cells rulesL])[σ.length]? = some (.cells [.nilfunc]) := by simp
  have h2 : (σ ++ [AObj.cells [AVal.nilfunc]] ++ [AObj.cells rulesL])[(σ ++ [AObj.cells [AVal.nilfunc]]).length]? = some (.cells rulesL) := by simp
  have cv : convV .i64 (.int .u8 (k : Int)) = some (.int .i64 (k : Int)) := by rw [convV_int, wrap_i64 (by omega) (by omega)]
  simp -dsimp only [↓WPd, ↓wpC_block, ↓wpC_cond, WPu, Bool.false_eq_true, Bool.true_eq_false, Bool.not_true, Bool.not_false, if_true, if_false, ite_true, ite_false, Nat.reduceEqDiff, Nat.reduceLT, true_and, List.map_cons, List.map_nil, Nat.zero_add, Nat.reduceBEq, WPm, b1, b2, s5', cv]
  generalize (σ ++ [AObj.cells [AVal.nilfunc]]).length = i5 at *
  generalize σ ++ [AObj.cells [AVal.nilfunc]] ++ [AObj.cells rulesL] = σ1 at *
  have fin : ∀ f : FuncId, ruleF k = f → storeV σ1 1 (.ptr σ.length 0) (.agg [.func f [] []]) = some (σ1.set σ.length (.cells [.func f [] []])) ∧ loadV (σ1.set σ.length (.cells [.func f [] []])) 1 true (.ptr σ.length 0) = some (.agg [.func (ruleF k) [] []]) ∧ Grows σ (σ1.set σ.length (.cells [.func f [] []])) := by
    intro f hf
    refine ⟨storeN_cells h1 (n := 1) rfl rfl rfl, ?_, ?_⟩
    · rw [hf]; exact loadN_cells (get_set h1) rfl
    · exact Keeps.trans g0 (Keeps.set _ _ _) fun i hi e => by omega
  have key : (decide ((k : Int) < 1) || decide ((k : Int) ≥ 5)) = !(decide (1 ≤ k) && decide (k < 5)) := by
    rw [Bool.eq_iff_iff]; simp; omega
  rw [key]
  refine condP_intro (fun h => ?_) (fun h => ?_)
  · have hk : ruleF k = 160 := by
      simp only [Bool.not_eq_true', Bool.and_eq_false_iff, decide_eq_false_iff_not] at h
      simp only [ruleF]
      rw [if_neg (by omega), if_neg (by omega), if_neg (by omega), if_neg (by omega)]
    obtain ⟨f1, f2, f3⟩ := fin _ hk
    simp -dsimp only [↓WPd, ↓wpC_block, ↓wpC_cond, WPu, Bool.false_eq_true, Bool.true_eq_false, Bool.not_true, Bool.not_false, if_true, if_false, ite_true, ite_false, Nat.reduceEqDiff, Nat.reduceLT, true_and, List.map_cons, List.map_nil, Nat.zero_add, Nat.reduceBEq, b1, f1, f2]
    exact f3
  · simp only [Bool.not_eq_false', Bool.and_eq_true, decide_eq_true_eq] at h
    have ha : aaddrV 5 1 (.ptr i5 0) (.int .u8 k) = some (.ptr i5 k) := by
      have e : (0 : Int) ≤ (k : Int) ∧ (k : Int) < 5 := by omega
      simp [aaddrV, e]
    have hl : loadV σ1 1 true (.ptr i5 k) = some (.agg [.func (ruleF k) [] []]) := by
      have : k = 1 ∨ k = 2 ∨ k = 3 ∨ k = 4 := by omega
      rcases this with rfl | rfl | rfl | rfl <;> simp [loadV, behind, h2, rulesL, ruleF]
    obtain ⟨f1, f2, f3⟩ := fin _ rfl
    simp -dsimp only [↓WPd, ↓wpC_block, ↓wpC_cond, WPu, Bool.false_eq_true, Bool.true_eq_false, Bool.not_true, Bool.not_false, if_true, if_false, ite_true, ite_false, Nat.reduceEqDiff, Nat.reduceLT, true_and, List.map_cons, List.map_nil, Nat.zero_add, Nat.reduceBEq, ha, hl, f1, f2]
    exact f3

theorem law_ok (c : Cel) (hs : c.s.length < 2 ^ 40) : Called CU.cfg d (ruleF c.k) [c.val] σ fun v σ' => v = .bool c.ok ∧ Grows σ σ' := by
  have q : ∀ {j : Nat} {f : FuncId}, c.k = j → ruleF c.k = f → Called CU.cfg d f [c.val] σ (fun v σ' => v = .bool (decide (c.k = j) && c.ok) ∧ Grows σ σ') → Called CU.cfg d (ruleF c.k) [c.val] σ fun v σ' => v = .bool c.ok ∧ Grows σ σ' := by
    intro j f hj hf h
    rw [hf]
    refine h.mono ?_
    rintro v σ' ⟨rfl, g⟩
    rw [hj, decide_eq_true rfl, Bool.true_and]
    exact ⟨rfl, g⟩
  by_cases h1 : c.k = 1
  · exact q h1 (by simp [ruleF, h1]) (rule1_ok d σ c)
  by_cases h2 : c.k = 2
  · exact q h2 (by simp [ruleF, h2]) (rule2_ok d σ c hs)
  by_cases h3 : c.k = 3
  · exact q h3 (by simp [ruleF, h3]) (rule3_ok d σ c hs)
  by_cases h4 : c.k = 4
  · exact q h4 (by simp [ruleF, h4]) (rule4_ok d σ c)
  have e1 : ruleF c.k = 160 := by simp [ruleF, h1, h2, h3, h4]
  have e2 : c.ok = false := by simp [Cel.ok, h1, h2, h3, h4]
  rw [e1, e2]
  exact rule5_ok d σ c

/-- is a cell wrong? -/
theorem wrong_ok (c : Cel) (hk8 : c.k < 256) (hs : c.s.length < 2 ^ 40) : Called CU.cfg d 115 [c.val] σ fun v σ' => v = .bool (!c.ok) ∧ Grows σ σ' := by
  refine called_of (fn := CU.a115) rfl (Nat.le_of_ble_eq_true rfl) ?_
  simp only [CU.a115]
  simp -dsimp only [↓WPd, ↓wpC_block, ↓wpC_cond, WPu, Bool.false_eq_true, Bool.true_eq_false, Bool.not_true, Bool.not_false, if_true, if_false, ite_true, ite_false, Nat.reduceEqDiff, Nat.reduceLT, true_and, List.map_cons, List.map_nil, Nat.zero_add, Nat.reduceBEq, Cel.cells, Cel.one]
  have ho : (σ ++ [AObj.cells c.cs])[σ.length]? = some (.cells c.cs) := by simp
  have g0 : Grows σ (σ ++ [AObj.cells c.cs]) := Grows.app _ _
  generalize σ ++ [AObj.cells c.cs] = σ1 at ho g0
  refine drawnP_of rfl ?_
  simp -dsimp only [↓WPd, ↓wpC_block, ↓wpC_cond, WPu, Bool.false_eq_true, Bool.true_eq_false, Bool.not_true, Bool.not_false, if_true, if_false, ite_true, ite_false, Nat.reduceEqDiff, Nat.reduceLT, true_and, List.map_cons, List.map_nil, Nat.zero_add, Nat.reduceBEq, ↓WPed, WPeu, Nat.reduceAdd, and_self, faddr_ptr, load_cells ho, Cel.g0]
  refine calledW_of (rule_ok d σ1 c.k hk8) ?_
  rintro v σ2 ⟨rfl, g1⟩
  have ho2 := g1.get ho
  have fv : ∀ f : FuncId, fieldV 0 1 false (.agg [.func f [] []]) = some (.func f [] []) := fun f => rfl
  simp -dsimp only [↓WPd, ↓wpC_block, ↓wpC_cond, WPu, Bool.false_eq_true, Bool.true_eq_false, Bool.not_true, Bool.not_false, if_true, if_false, ite_true, ite_false, Nat.reduceEqDiff, Nat.reduceLT, true_and, List.map_cons, List.map_nil, Nat.zero_add, Nat.reduceBEq, ↓WPed, WPeu, Nat.reduceAdd, and_self, fv, cell_load ho, cell_load ho2]
  refine calledW_of (law_ok d σ2 c hs) ?_
  rintro v σ3 ⟨rfl, g3⟩
  simp -dsimp only [↓WPd, ↓wpC_block, ↓wpC_cond, WPu, Bool.false_eq_true, Bool.true_eq_false, Bool.not_true, Bool.not_false, if_true, if_false, ite_true, ite_false, Nat.reduceEqDiff, Nat.reduceLT, true_and, List.map_cons, List.map_nil, Nat.zero_add, Nat.reduceBEq, ↓WPed, WPeu, Nat.reduceAdd, and_self]
  exact (g0.trans g1).trans g3

theorem cel_get (t : List Cel) (i : Nat) (h : i < (t.map Cel.val).length) : (t.map Cel.val)[i] = (t[i]'(by simpa using h)).val := by simp

/-- slices.IndexFunc over a term's cells -/
theorem cindex_ok (f : FuncId) (p : Cel → Bool) (l : AVal) (t : List Cel) (hx : t.length < 2 ^ 40) (hl : SlOf σ 5 l (t.map Cel.val)) (hf : ∀ (c : Cel) (σ' : Store), c ∈ t → Called CU.cfg d f [c.val] σ' fun v σ'' => v = .bool (p c) ∧ Grows σ' σ'') :
    Called CU.cfg d 152 [l, .func f [] []] σ fun v σ' => (∃ i : Int, v = .int .i64 i ∧ (decide (0 ≤ i)) = t.any p) ∧ Grows σ σ' := by
  refine called_of (fn := CU.a152) rfl (Nat.le_of_ble_eq_true rfl) ?_
  have ll := hl.len
  rw [List.length_map] at ll
  simp only [CU.a152]
  simp -dsimp only [↓WPd, ↓wpC_block, ↓wpC_cond, WPu, Bool.false_eq_true, Bool.true_eq_false, Bool.not_true, Bool.not_false, if_true, if_false, ite_true, ite_false, Nat.reduceEqDiff, Nat.reduceLT, true_and, List.map_cons, List.map_nil, Nat.zero_add, Nat.reduceBEq, ll]
  refine loop_rule2 (fun m vs σ' => ∃ k, k ≤ t.length ∧ m = t.length - k ∧ vs = [l, .func f [] [], .int .i64 t.length, .int .i64 k] ∧ Grows σ σ' ∧ ∀ (j : Nat) (hj : j < t.length), j < k → p t[j] = false) [4]
    (fun e vs σ' => Grows σ σ' ∧ ((e = .exit 0 ∧ t.any p = false) ∨ (e = .ret ∧ t.any p = true ∧ ∃ k : Nat, vs = [.int .i64 k]))) t.length ⟨0, Nat.zero_le _, rfl, ?_, Keeps.refl _ _, fun j _ h => by omega⟩ ?_ ?_
  · simp -dsimp only [↓WPd, ↓wpC_block, ↓wpC_cond, WPu, Bool.false_eq_true, Bool.true_eq_false, Bool.not_true, Bool.not_false, if_true, if_false, ite_true, ite_false, Nat.reduceEqDiff, Nat.reduceLT, true_and, List.map_cons, List.map_nil, Nat.zero_add, Nat.reduceBEq]; rfl
  · rintro m vs σ' ⟨k, hk, rfl, rfl, g, hall⟩
    simp -dsimp only [↓WPd, ↓wpC_block, ↓wpC_cond, WPu, Bool.false_eq_true, Bool.true_eq_false, Bool.not_true, Bool.not_false, if_true, if_false, ite_true, ite_false, Nat.reduceEqDiff, Nat.reduceLT, true_and, List.map_cons, List.map_nil, Nat.zero_add, Nat.reduceBEq]
    refine condP_dec (fun h => ?_) (fun h => ?_)
    · have hk' : k < t.length := by omega
      have hi : k < (t.map Cel.val).length := by rw [List.length_map]; exact hk'
      have hl' := hl.grow g
      have ha := hl'.loadA hi (cs := (t[k]).cs) (by rw [cel_get]; rfl)
      have ha5 : loadV σ' 5 true (addrOf 5 l k) = some (t[k]).val := ha
      simp -dsimp only [↓WPd, ↓wpC_block, ↓wpC_cond, WPu, Bool.false_eq_true, Bool.true_eq_false, Bool.not_true, Bool.not_false, if_true, if_false, ite_true, ite_false, Nat.reduceEqDiff, Nat.reduceLT, true_and, List.map_cons, List.map_nil, Nat.zero_add, Nat.reduceBEq, hl'.iaddr hi, ha5]
      refine calledW_of (hf t[k] σ' (List.getElem_mem _)) ?_
      rintro v σ'' ⟨rfl, g2⟩
      simp -dsimp only [↓WPd, ↓wpC_block, ↓wpC_cond, WPu, Bool.false_eq_true, Bool.true_eq_false, Bool.not_true, Bool.not_false, if_true, if_false, ite_true, ite_false, Nat.reduceEqDiff, Nat.reduceLT, true_and, List.map_cons, List.map_nil, Nat.zero_add, Nat.reduceBEq]
      refine condP_intro (fun h => ?_) (fun h => ?_)
      · simp -dsimp only [↓WPd, ↓wpC_block, ↓wpC_cond, WPu, Bool.false_eq_true, Bool.true_eq_false, Bool.not_true, Bool.not_false, if_true, if_false, ite_true, ite_false, Nat.reduceEqDiff, Nat.reduceLT, true_and, List.map_cons, List.map_nil, Nat.zero_add, Nat.reduceBEq]
        exact ⟨g.trans g2, .inr ⟨by rw [List.any_eq_true]; exact ⟨_, List.getElem_mem _, h⟩, k, rfl⟩⟩
      · simp -dsimp only [↓WPd, ↓wpC_block, ↓wpC_cond, WPu, Bool.false_eq_true, Bool.true_eq_false, Bool.not_true, Bool.not_false, if_true, if_false, ite_true, ite_false, Nat.reduceEqDiff, Nat.reduceLT, true_and, List.map_cons, List.map_nil, Nat.zero_add, Nat.reduceBEq]
        refine ⟨t.length - (k + 1), by omega, k + 1, by omega, rfl, by rw [wrap_i64 (by omega) (by omega), Int.natCast_add, Int.natCast_one], g.trans g2, fun j hj hjk => ?_⟩
        by_cases e : j = k
        · subst e; exact h
        · exact hall j hj (by omega)
    · simp -dsimp only [↓WPd, ↓wpC_block, ↓wpC_cond, WPu, Bool.false_eq_true, Bool.true_eq_false, Bool.not_true, Bool.not_false, if_true, if_false, ite_true, ite_false, Nat.reduceEqDiff, Nat.reduceLT, true_and, List.map_cons, List.map_nil, Nat.zero_add, Nat.reduceBEq]
      refine ⟨g, .inl ?_⟩
      rw [List.any_eq_false]
      intro x hx
      obtain ⟨j, hj, rfl⟩ := List.getElem_of_mem hx
      rw [hall j hj (by omega)]; simp
  · rintro e σ' env ⟨g, ⟨rfl, hno⟩ | ⟨rfl, hyes, k, hv⟩⟩
    · simp -dsimp only [↓WPd, ↓wpC_block, ↓wpC_cond, WPu, Bool.false_eq_true, Bool.true_eq_false, Bool.not_true, Bool.not_false, if_true, if_false, ite_true, ite_false, Nat.reduceEqDiff, Nat.reduceLT, true_and, List.map_cons, List.map_nil, Nat.zero_add, Nat.reduceBEq]
      exact ⟨⟨_, rfl, by rw [hno]; rfl⟩, g⟩
    · simp only [List.map_cons, List.map_nil, List.cons.injEq, and_true] at hv
      simp -dsimp only [↓WPd, ↓wpC_block, ↓wpC_cond, WPu, Bool.false_eq_true, Bool.true_eq_false, Bool.not_true, Bool.not_false, if_true, if_false, ite_true, ite_false, Nat.reduceEqDiff, Nat.reduceLT, true_and, List.map_cons, List.map_nil, Nat.zero_add, Nat.reduceBEq, hv]
      exact ⟨⟨_, rfl, by rw [hyes]; simp⟩, g⟩

theorem ccontains_ok (f : FuncId) (p : Cel → Bool) (l : AVal) (t : List Cel) (hx : t.length < 2 ^ 40) (hl : SlOf σ 5 l (t.map Cel.val)) (hf : ∀ (c : Cel) (σ' : Store), c ∈ t → Called CU.cfg d f [c.val] σ' fun v σ'' => v = .bool (p c) ∧ Grows σ' σ'') :
    Called CU.cfg d 114 [l, .func f [] []] σ fun v σ' => v = .bool (t.any p) ∧ Grows σ σ' := by
  refine called_of (fn := CU.a114) rfl (Nat.le_of_ble_eq_true rfl) ?_
  simp only [CU.a114]
  simp -dsimp only [↓WPd, ↓wpC_block, ↓wpC_cond, WPu, Bool.false_eq_true, Bool.true_eq_false, Bool.not_true, Bool.not_false, if_true, if_false, ite_true, ite_false, Nat.reduceEqDiff, Nat.reduceLT, true_and, List.map_cons, List.map_nil, Nat.zero_add, Nat.reduceBEq]
  refine calledW_of (cindex_ok d σ f p l t hx hl hf) ?_
  rintro v σ1 ⟨⟨i, rfl, hi⟩, g⟩
  simp -dsimp only [↓WPd, ↓wpC_block, ↓wpC_cond, WPu, Bool.false_eq_true, Bool.true_eq_false, Bool.not_true, Bool.not_false, if_true, if_false, ite_true, ite_false, Nat.reduceEqDiff, Nat.reduceLT, true_and, List.map_cons, List.map_nil, Nat.zero_add, Nat.reduceBEq]
  have : decide (i ≥ 0) = t.any p := hi
  rw [this]
  exact ⟨rfl, g⟩
end
end Go.Proofs.YtkjnanfkclijcaaDoor.Am

/-
  TERMS: where one ends; is it one?
-/
namespace Go.Proofs.YtkjnanfkclijcaaDoor.Am
open Go
set_option linter.unusedVariables false
set_option linter.unusedSimpArgs false
set_option linter.unusedSectionVars false
set_option maxRecDepth 100000

/-- where the term that begins at a place ends; 0: there is none -/
def endT (t : List Cel) (a : Nat) : Nat := if a < t.length then endAt t.length (t.drop a) 1 a else 0

theorem endAt_get {L : Nat} {t : List Cel} {a o : Nat} (h : a < t.length) : endAt L (t.drop a) (o + 1) a = if L < (t[a]).parts then 0 else endAt L (t.drop (a + 1)) (o + (t[a]).parts) (a + 1) := by
  rw [List.drop_eq_getElem_cons h, endAt_cons]
theorem endAt_out {L : Nat} {t : List Cel} {a o : Nat} (h : t.length ≤ a) : endAt L (t.drop a) (o + 1) a = 0 := by
  rw [List.drop_eq_nil_of_le h, endAt_nil]

section
variable (d : Nat) (σ : Store)

theorem parts_ok (c : Cel) : Called CU.cfg d 151 [c.val] σ fun v σ' => v = .int .i64 (c.parts : Int) ∧ Grows σ σ' := by
  refine called_of (fn := CU.a151) rfl (Nat.le_of_ble_eq_true rfl) ?_
  simp only [CU.a151]
  simp -dsimp only [↓WPd, ↓wpC_block, ↓wpC_cond, WPu, Bool.false_eq_true, Bool.true_eq_false, Bool.not_true, Bool.not_false, if_true, if_false, ite_true, ite_false, Nat.reduceEqDiff, Nat.reduceLT, true_and, List.map_cons, List.map_nil, Nat.zero_add, Nat.reduceBEq, Cel.cells, Cel.one]
  have ho : (σ ++ [AObj.cells c.cs])[σ.length]? = some (.cells c.cs) := by simp
  have g0 : Grows σ (σ ++ [AObj.cells c.cs]) := Grows.app _ _
  generalize σ ++ [AObj.cells c.cs] = σ1 at ho g0
  have hm : foldV maxV (.int .i64 c.n) [.int .i64 0] = some (.int .i64 (c.n.toNat : Int)) := by
    by_cases h : c.n < 0
    · simp [foldV, maxV]; omega
    · simp [foldV, maxV]; omega
  have key : ((c.k : Int) != 3) = !decide (c.k = 3) := by
    by_cases h : c.k = 3 <;> simp [h, bne] <;> omega
  simp -dsimp only [↓WPd, ↓wpC_block, ↓wpC_cond, WPu, Bool.false_eq_true, Bool.true_eq_false, Bool.not_true, Bool.not_false, if_true, if_false, ite_true, ite_false, Nat.reduceEqDiff, Nat.reduceLT, true_and, List.map_cons, List.map_nil, Nat.zero_add, Nat.reduceBEq, WPm, faddr_ptr, load_cells ho, Cel.g0, Cel.g2, key]
  refine condP_intro (fun h => ?_) (fun h => ?_)
  · have : c.parts = 0 := by simp only [Bool.not_eq_true', decide_eq_false_iff_not] at h; simp [Cel.parts, h]
    simp -dsimp only [↓WPd, ↓wpC_block, ↓wpC_cond, WPu, Bool.false_eq_true, Bool.true_eq_false, Bool.not_true, Bool.not_false, if_true, if_false, ite_true, ite_false, Nat.reduceEqDiff, Nat.reduceLT, true_and, List.map_cons, List.map_nil, Nat.zero_add, Nat.reduceBEq, this]
    exact ⟨rfl, g0⟩
  · have : c.parts = c.n.toNat := by simp only [Bool.not_eq_false', decide_eq_true_eq] at h; simp [Cel.parts, h]
    simp -dsimp only [↓WPd, ↓wpC_block, ↓wpC_cond, WPu, Bool.false_eq_true, Bool.true_eq_false, Bool.not_true, Bool.not_false, if_true, if_false, ite_true, ite_false, Nat.reduceEqDiff, Nat.reduceLT, true_and, List.map_cons, List.map_nil, Nat.zero_add, Nat.reduceBEq, faddr_ptr, load_cells ho, Cel.g0, Cel.g2, this, hm]
    exact g0

/-- where a term ends -/
theorem end_ok (l : AVal) (t : List Cel) (a : Nat) (hx : t.length < 2 ^ 30) (hl : SlOf σ 5 l (t.map Cel.val)) : Called CU.cfg d 113 [l, .int .i64 a] σ fun v σ' => v = .int .i64 (endT t a : Int) ∧ Grows σ σ' := by
  refine called_of (fn := CU.a113) rfl (Nat.le_of_ble_eq_true rfl) ?_
  have ll := hl.len
  rw [List.length_map] at ll
  simp only [CU.a113]
  have w0 : lenSV l = some t.length := ll
  simp -dsimp only [↓WPd, ↓wpC_block, ↓wpC_cond, WPu, Bool.false_eq_true, Bool.true_eq_false, Bool.not_true, Bool.not_false, if_true, if_false, ite_true, ite_false, Nat.reduceEqDiff, Nat.reduceLT, true_and, List.map_cons, List.map_nil, Nat.zero_add, Nat.reduceBEq, WPm, ll]
  have key : (decide ((a : Int) < 0) || decide ((a : Int) ≥ (t.length : Int))) = !decide (a < t.length) := by
    rw [Bool.eq_iff_iff]; simp; omega
  rw [key]
  refine condP_intro (fun h => ?_) (fun h => ?_)
  · have : endT t a = 0 := by simp only [Bool.not_eq_true', decide_eq_false_iff_not] at h; simp [endT, h]
    simp -dsimp only [↓WPd, ↓wpC_block, ↓wpC_cond, WPu, Bool.false_eq_true, Bool.true_eq_false, Bool.not_true, Bool.not_false, if_true, if_false, ite_true, ite_false, Nat.reduceEqDiff, Nat.reduceLT, true_and, List.map_cons, List.map_nil, Nat.zero_add, Nat.reduceBEq, this]
    exact ⟨rfl, Keeps.refl _ _⟩
  · simp only [Bool.not_eq_false', decide_eq_true_eq] at h
    have hend : endT t a = endAt t.length (t.drop a) 1 a := by simp [endT, h]
    simp -dsimp only [↓WPd, ↓wpC_block, ↓wpC_cond, WPu, Bool.false_eq_true, Bool.true_eq_false, Bool.not_true, Bool.not_false, if_true, if_false, ite_true, ite_false, Nat.reduceEqDiff, Nat.reduceLT, true_and, List.map_cons, List.map_nil, Nat.zero_add, Nat.reduceBEq]
    refine loop_rule2 (fun m vs σ' => ∃ k o : Nat, k ≤ t.length ∧ m = t.length + 1 - k ∧ vs = [l, .int .i64 k, .int .i64 o] ∧ Grows σ σ' ∧ endAt t.length (t.drop k) o k = endT t a ∧ o ≤ 1 + k * t.length ∧ 0 < k + o) [1, 4]
      (fun e vs σ' => Grows σ σ' ∧ ((e = .exit 0 ∧ ∃ x, vs = [.int .i64 (endT t a : Int), x]) ∨ (e = .ret ∧ (∃ x, vs = [x, .int .i64 (endT t a : Int)])))) (t.length + 1 - a) ⟨a, 1, by omega, rfl, ?_, Keeps.refl _ _, hend.symm, by omega, by omega⟩ ?_ ?_
    · simp -dsimp only [↓WPd, ↓wpC_block, ↓wpC_cond, WPu, Bool.false_eq_true, Bool.true_eq_false, Bool.not_true, Bool.not_false, if_true, if_false, ite_true, ite_false, Nat.reduceEqDiff, Nat.reduceLT, true_and, List.map_cons, List.map_nil, Nat.zero_add, Nat.reduceBEq]; rfl
    · rintro m vs σ' ⟨k, o, hk, rfl, rfl, g, he, ho, hko⟩
      have hmul : k * t.length ≤ 2 ^ 60 := by
        calc k * t.length ≤ 2 ^ 30 * 2 ^ 30 := Nat.mul_le_mul (by omega) (by omega)
          _ = 2 ^ 60 := by decide
      simp -dsimp only [↓WPd, ↓wpC_block, ↓wpC_cond, WPu, Bool.false_eq_true, Bool.true_eq_false, Bool.not_true, Bool.not_false, if_true, if_false, ite_true, ite_false, Nat.reduceEqDiff, Nat.reduceLT, true_and, List.map_cons, List.map_nil, Nat.zero_add, Nat.reduceBEq]
      refine condP_dec (fun h => ?_) (fun h => ?_)
      · obtain ⟨o, rfl⟩ : ∃ o', o = o' + 1 := ⟨o - 1, by omega⟩
        have ke : ((k : Int) == (t.length : Int)) = decide (k = t.length) := by
          by_cases h : k = t.length <;> simp [h] <;> omega
        have ll' := (hl.grow g).len
        rw [List.length_map] at ll'
        simp -dsimp only [↓WPd, ↓wpC_block, ↓wpC_cond, WPu, Bool.false_eq_true, Bool.true_eq_false, Bool.not_true, Bool.not_false, if_true, if_false, ite_true, ite_false, Nat.reduceEqDiff, Nat.reduceLT, true_and, List.map_cons, List.map_nil, Nat.zero_add, Nat.reduceBEq, ll', ke]
        by_cases hkl : k = t.length
        · have hz : endT t a = 0 := by rw [← he, endAt_out (by omega)]
          simp -dsimp only [↓WPd, ↓wpC_block, ↓wpC_cond, WPu, Bool.false_eq_true, Bool.true_eq_false, Bool.not_true, Bool.not_false, if_true, if_false, ite_true, ite_false, Nat.reduceEqDiff, Nat.reduceLT, true_and, List.map_cons, List.map_nil, Nat.zero_add, Nat.reduceBEq, WPm, decide_eq_true hkl]
          exact ⟨g, .inr ⟨_, by rw [hz]; rfl⟩⟩
        · have hk' : k < t.length := by omega
          have hi : k < (t.map Cel.val).length := by rw [List.length_map]; exact hk'
          have hl' := hl.grow g
          have ha5 : loadV σ' 5 true (addrOf 5 l k) = some (t[k]).val := hl'.loadA hi (cs := (t[k]).cs) (by rw [cel_get]; rfl)
          simp -dsimp only [↓WPd, ↓wpC_block, ↓wpC_cond, WPu, Bool.false_eq_true, Bool.true_eq_false, Bool.not_true, Bool.not_false, if_true, if_false, ite_true, ite_false, Nat.reduceEqDiff, Nat.reduceLT, true_and, List.map_cons, List.map_nil, Nat.zero_add, Nat.reduceBEq, decide_eq_false hkl, hl'.iaddr hi, ha5]
          refine calledW_of (parts_ok d σ' t[k]) ?_
          rintro v σ2 ⟨rfl, g2⟩
          have ll2 := (hl'.grow g2).len
          rw [List.length_map] at ll2
          have hl2 := hl'.grow g2
          have ha2 : loadV σ2 5 true (addrOf 5 l k) = some (t[k]).val := hl2.loadA hi (cs := (t[k]).cs) (by rw [cel_get]; rfl)
          simp -dsimp only [↓WPd, ↓wpC_block, ↓wpC_cond, WPu, Bool.false_eq_true, Bool.true_eq_false, Bool.not_true, Bool.not_false, if_true, if_false, ite_true, ite_false, Nat.reduceEqDiff, Nat.reduceLT, true_and, List.map_cons, List.map_nil, Nat.zero_add, Nat.reduceBEq, ll2]
          rw [endAt_get hk'] at he
          refine condP_dec (fun h2 => ?_) (fun h2 => ?_)
          · rw [if_pos (by omega)] at he
            simp -dsimp only [↓WPd, ↓wpC_block, ↓wpC_cond, WPu, Bool.false_eq_true, Bool.true_eq_false, Bool.not_true, Bool.not_false, if_true, if_false, ite_true, ite_false, Nat.reduceEqDiff, Nat.reduceLT, true_and, List.map_cons, List.map_nil, Nat.zero_add, Nat.reduceBEq]
            exact ⟨g.trans g2, .inr ⟨_, by rw [← he]; rfl⟩⟩
          · rw [if_neg (by omega)] at he
            simp -dsimp only [↓WPd, ↓wpC_block, ↓wpC_cond, WPu, Bool.false_eq_true, Bool.true_eq_false, Bool.not_true, Bool.not_false, if_true, if_false, ite_true, ite_false, Nat.reduceEqDiff, Nat.reduceLT, true_and, List.map_cons, List.map_nil, Nat.zero_add, Nat.reduceBEq, hl2.iaddr hi, ha2]
            refine calledW_of (parts_ok d σ2 t[k]) ?_
            rintro v σ3 ⟨rfl, g3⟩
            have hp : (t[k]).parts ≤ t.length := by omega
            have hm2 : (k + 1) * t.length = k * t.length + t.length := by rw [Nat.add_mul, Nat.one_mul]
            have w1 : IntKind.i64.wrap (((t[k]).parts : Int) - 1) = ((t[k]).parts : Int) - 1 := wrap_i64 (by omega) (by omega)
            have w2 : IntKind.i64.wrap (((o + 1 : Nat) : Int) + (((t[k]).parts : Int) - 1)) = ((o + (t[k]).parts : Nat) : Int) := by rw [wrap_i64 (by omega) (by omega)]; omega
            have w3 : IntKind.i64.wrap ((k : Int) + 1) = ((k + 1 : Nat) : Int) := by rw [wrap_i64 (by omega) (by omega)]; omega
            simp -dsimp only [↓WPd, ↓wpC_block, ↓wpC_cond, WPu, Bool.false_eq_true, Bool.true_eq_false, Bool.not_true, Bool.not_false, if_true, if_false, ite_true, ite_false, Nat.reduceEqDiff, Nat.reduceLT, true_and, List.map_cons, List.map_nil, Nat.zero_add, Nat.reduceBEq, w1, w2, w3]
            exact ⟨t.length + 1 - (k + 1), by omega, k + 1, o + (t[k]).parts, by omega, rfl, rfl, (g.trans g2).trans g3, he, by omega, by omega⟩
      · have : o = 0 := by omega
        subst this
        rw [endAt_zero] at he
        simp -dsimp only [↓WPd, ↓wpC_block, ↓wpC_cond, WPu, Bool.false_eq_true, Bool.true_eq_false, Bool.not_true, Bool.not_false, if_true, if_false, ite_true, ite_false, Nat.reduceEqDiff, Nat.reduceLT, true_and, List.map_cons, List.map_nil, Nat.zero_add, Nat.reduceBEq]
        exact ⟨g, .inl ⟨_, by rw [← he]⟩⟩
    · rintro e σ' env ⟨g, ⟨rfl, x, hv⟩ | ⟨rfl, x, hv⟩⟩
      · simp only [List.map_cons, List.map_nil, List.cons.injEq, and_true] at hv
        simp -dsimp only [↓WPd, ↓wpC_block, ↓wpC_cond, WPu, Bool.false_eq_true, Bool.true_eq_false, Bool.not_true, Bool.not_false, if_true, if_false, ite_true, ite_false, Nat.reduceEqDiff, Nat.reduceLT, true_and, List.map_cons, List.map_nil, Nat.zero_add, Nat.reduceBEq, hv]
        exact g
      · simp only [List.map_cons, List.map_nil, List.cons.injEq, and_true] at hv
        simp -dsimp only [↓WPd, ↓wpC_block, ↓wpC_cond, WPu, Bool.false_eq_true, Bool.true_eq_false, Bool.not_true, Bool.not_false, if_true, if_false, ite_true, ite_false, Nat.reduceEqDiff, Nat.reduceLT, true_and, List.map_cons, List.map_nil, Nat.zero_add, Nat.reduceBEq, hv]
        exact g

theorem endT_zero {t : List Cel} (h : t ≠ []) : endT t 0 = endAt t.length t 1 0 := by
  have := List.length_pos_iff.2 h
  simp [endT, this]

theorem right_eq (t : List Cel) : right t = (!(decide (t.length = 0) || decide (256 < t.length) || decide (endT t 0 ≠ t.length)) && !(t.any fun c => !c.ok)) := by
  cases t with
  | nil => rfl
  | cons c r =>
    rw [endT_zero (by simp), Bool.eq_iff_iff]
    simp [right]
    first
      | done
      | (intros; omega)
      | (constructor <;> intro h <;> simp_all <;> omega)

/-- is it a term? -/
theorem right_ok (l : AVal) (t : List Cel) (hx : t.length < 2 ^ 30) (hi : ∀ c ∈ t, c.k < 256 ∧ c.s.length < 2 ^ 40) (hl : SlOf σ 5 l (t.map Cel.val)) : Called CU.cfg d 60 [l] σ fun v σ' => v = .bool (right t) ∧ Grows σ σ' := by
  refine called_of (fn := CU.a60) rfl (Nat.le_of_ble_eq_true rfl) ?_
  have ll := hl.len
  rw [List.length_map] at ll
  simp only [CU.a60]
  have k0 : ((t.length : Int) == 0) = decide (t.length = 0) := by by_cases h : t.length = 0 <;> simp [h]
  have k1 : decide ((t.length : Int) > 256) = decide (256 < t.length) := decide_eq_decide.2 (by omega)
  simp -dsimp only [↓WPd, ↓wpC_block, ↓wpC_cond, WPu, Bool.false_eq_true, Bool.true_eq_false, Bool.not_true, Bool.not_false, if_true, if_false, ite_true, ite_false, Nat.reduceEqDiff, Nat.reduceLT, true_and, List.map_cons, List.map_nil, Nat.zero_add, Nat.reduceBEq, WPm, ll, k0, k1]
  rw [right_eq]
  generalize hb : (decide (t.length = 0) || decide (256 < t.length)) = b
  cases b
  · simp -dsimp only [↓WPd, ↓wpC_block, ↓wpC_cond, WPu, Bool.false_eq_true, Bool.true_eq_false, Bool.not_true, Bool.not_false, if_true, if_false, ite_true, ite_false, Nat.reduceEqDiff, Nat.reduceLT, true_and, List.map_cons, List.map_nil, Nat.zero_add, Nat.reduceBEq, WPm]
    refine calledW_of (end_ok d σ l t 0 hx hl) ?_
    rintro v σ1 ⟨rfl, g⟩
    have hl1 := hl.grow g
    have ll1 := hl1.len
    rw [List.length_map] at ll1
    have k2 : (((endT t 0 : Nat) : Int) != (t.length : Int)) = decide (endT t 0 ≠ t.length) := by by_cases h : endT t 0 = t.length <;> simp [h, bne] <;> omega
    simp -dsimp only [↓WPd, ↓wpC_block, ↓wpC_cond, WPu, Bool.false_eq_true, Bool.true_eq_false, Bool.not_true, Bool.not_false, if_true, if_false, ite_true, ite_false, Nat.reduceEqDiff, Nat.reduceLT, true_and, List.map_cons, List.map_nil, Nat.zero_add, Nat.reduceBEq, WPm, ll1, k2]
    generalize hq : decide (endT t 0 ≠ t.length) = q
    cases q
    · simp -dsimp only [↓WPd, ↓wpC_block, ↓wpC_cond, WPu, Bool.false_eq_true, Bool.true_eq_false, Bool.not_true, Bool.not_false, if_true, if_false, ite_true, ite_false, Nat.reduceEqDiff, Nat.reduceLT, true_and, List.map_cons, List.map_nil, Nat.zero_add, Nat.reduceBEq, WPm]
      refine calledW_of (ccontains_ok d σ1 _ (fun c => !c.ok) l t (by omega) hl1 fun c σ' hc => wrong_ok d σ' c (hi c hc).1 (hi c hc).2) ?_
      rintro v σ2 ⟨rfl, g2⟩
      simp -dsimp only [↓WPd, ↓wpC_block, ↓wpC_cond, WPu, Bool.false_eq_true, Bool.true_eq_false, Bool.not_true, Bool.not_false, if_true, if_false, ite_true, ite_false, Nat.reduceEqDiff, Nat.reduceLT, true_and, List.map_cons, List.map_nil, Nat.zero_add, Nat.reduceBEq, WPm, Bool.or_false, Bool.true_and]
      exact g.trans g2
    · simp -dsimp only [↓WPd, ↓wpC_block, ↓wpC_cond, WPu, Bool.false_eq_true, Bool.true_eq_false, Bool.not_true, Bool.not_false, if_true, if_false, ite_true, ite_false, Nat.reduceEqDiff, Nat.reduceLT, true_and, List.map_cons, List.map_nil, Nat.zero_add, Nat.reduceBEq, WPm, Bool.or_true, Bool.false_and]
      exact g
  · simp -dsimp only [↓WPd, ↓wpC_block, ↓wpC_cond, WPu, Bool.false_eq_true, Bool.true_eq_false, Bool.not_true, Bool.not_false, if_true, if_false, ite_true, ite_false, Nat.reduceEqDiff, Nat.reduceLT, true_and, List.map_cons, List.map_nil, Nat.zero_add, Nat.reduceBEq, WPm, Bool.true_or, Bool.false_and]
    exact Keeps.refl _ _
end
end Go.Proofs.YtkjnanfkclijcaaDoor.Am

/-
  TERMS, by the document: cells, where one ends, is it one?
-/
namespace Go.Proofs.YtkjnanfkclijcaaDoor.Am
open Go
set_option linter.unusedVariables false
set_option linter.unusedSimpArgs false
set_option linter.unusedSectionVars false
set_option maxRecDepth 100000
section
variable (d : Nat) (σ : Store)

theorem int_beq (a b : Int) : (a == b) = decide (a = b) := by by_cases h : a = b <;> simp [h]
theorem nil_text (s : List UInt8) : sopV .eql (.str s) (.str []) = some (.bool (decide (s = []))) := by cases s <;> simp [sopV]

set_option maxHeartbeats 1000000 in
theorem cell_ok (c : Cel) : Called CU.cfg d 117 [c.val] σ fun v σ' => v = .bool c.ok ∧ Grows σ σ' := by
  refine called_of (fn := CU.a117) rfl (Nat.le_of_ble_eq_true rfl) ?_
  simp only [CU.a117]
  simp -dsimp only [↓WPd, ↓wpC_block, ↓wpC_cond, WPu, Bool.false_eq_true, Bool.true_eq_false, Bool.not_true, Bool.not_false, if_true, if_false, ite_true, ite_false, Nat.reduceEqDiff, Nat.reduceLT, true_and, List.map_cons, List.map_nil, Nat.zero_add, Nat.reduceBEq, Cel.cells, Cel.one]
  have ho : (σ ++ [AObj.cells c.cs])[σ.length]? = some (.cells c.cs) := by simp
  have g0 : Grows σ (σ ++ [AObj.cells c.cs]) := Grows.app _ _
  generalize σ ++ [AObj.cells c.cs] = σ1 at ho g0
  have l2 : loadV σ1 2 true (.ptr σ.length 3) = some (.agg [.int .i64 c.v.1, .int .i64 c.v.2]) := by simp [loadV, behind, ho, Cel.cs]
  have hz : fillA [AVal.int IntKind.i64 0, AVal.int IntKind.i64 0] [] = some [.int .i64 0, .int .i64 0] := rfl
  have he : eqsV [.i, .i] (.agg [.int .i64 c.v.1, .int .i64 c.v.2]) (.agg [.int .i64 0, .int .i64 0]) = some (decide (c.v = (0, 0))) := by
    simp [eqsV, cellsEq]
    rw [Bool.eq_iff_iff]
    simp
    constructor
    · intro h; exact Prod.ext h.1 h.2
    · intro h; rw [h]; exact ⟨rfl, rfl⟩
  have kq : ∀ j : Nat, ((c.k : Int) == (j : Int)) = decide (c.k = j) := by
    intro j
    by_cases h : c.k = j <;> simp [h] <;> omega
  have k1 : ((c.k : Int) == 1) = decide (c.k = 1) := kq 1
  have k2 : ((c.k : Int) == 2) = decide (c.k = 2) := kq 2
  have k3 : ((c.k : Int) == 3) = decide (c.k = 3) := kq 3
  have k4 : ((c.k : Int) == 4) = decide (c.k = 4) := kq 4
  simp -dsimp only [↓WPd, ↓wpC_block, ↓wpC_cond, WPu, Bool.false_eq_true, Bool.true_eq_false, Bool.not_true, Bool.not_false, if_true, if_false, ite_true, ite_false, Nat.reduceEqDiff, Nat.reduceLT, true_and, List.map_cons, List.map_nil, Nat.zero_add, Nat.reduceBEq, WPm, faddr_ptr, Nat.reduceAdd, Nat.add_zero, load_cells ho, Cel.g0, Cel.g1, Cel.g2, Cel.g3, Cel.g4, l2, hz, he, k1]
  refine condP_dec (fun h1 => ?_) (fun h1 => ?_)
  · have hok : c.ok = (decide (c.s = []) && decide (c.v = (0, 0)) && decide (c.n ≥ -2147483648) && decide (c.n ≤ 2147483648)) := by simp [Cel.ok, h1]
    simp -dsimp only [↓WPd, ↓wpC_block, ↓wpC_cond, WPu, Bool.false_eq_true, Bool.true_eq_false, Bool.not_true, Bool.not_false, if_true, if_false, ite_true, ite_false, Nat.reduceEqDiff, Nat.reduceLT, true_and, List.map_cons, List.map_nil, Nat.zero_add, Nat.reduceBEq, WPm, faddr_ptr, Nat.reduceAdd, Nat.add_zero, load_cells ho, Cel.g0, Cel.g1, Cel.g2, Cel.g3, Cel.g4, nil_text]
    rw [hok]
    exact ⟨rfl, g0⟩
  simp -dsimp only [↓WPd, ↓wpC_block, ↓wpC_cond, WPu, Bool.false_eq_true, Bool.true_eq_false, Bool.not_true, Bool.not_false, if_true, if_false, ite_true, ite_false, Nat.reduceEqDiff, Nat.reduceLT, true_and, List.map_cons, List.map_nil, Nat.zero_add, Nat.reduceBEq, k2]
  refine condP_dec (fun h2 => ?_) (fun h2 => ?_)
  · have hok : c.ok = (isName c.s && decide (c.v = (0, 0)) && (c.n == 0)) := by simp [Cel.ok, h2, int_beq]
    simp -dsimp only [↓WPd, ↓wpC_block, ↓wpC_cond, WPu, Bool.false_eq_true, Bool.true_eq_false, Bool.not_true, Bool.not_false, if_true, if_false, ite_true, ite_false, Nat.reduceEqDiff, Nat.reduceLT, true_and, List.map_cons, List.map_nil, Nat.zero_add, Nat.reduceBEq, WPm, faddr_ptr, load_cells ho, Cel.g0, Cel.g1, Cel.g2, Cel.g3, Cel.g4, nil_text]
    refine calledW_of (risname_ok d σ1 c.s) ?_
    rintro v σ2 ⟨rfl, rfl⟩
    simp -dsimp only [↓WPd, ↓wpC_block, ↓wpC_cond, WPu, Bool.false_eq_true, Bool.true_eq_false, Bool.not_true, Bool.not_false, if_true, if_false, ite_true, ite_false, Nat.reduceEqDiff, Nat.reduceLT, true_and, List.map_cons, List.map_nil, Nat.zero_add, Nat.reduceBEq, WPm, faddr_ptr, load_cells ho, Cel.g0, Cel.g1, Cel.g2, Cel.g3, Cel.g4, nil_text]
    rw [hok]
    exact ⟨rfl, g0⟩
  simp -dsimp only [↓WPd, ↓wpC_block, ↓wpC_cond, WPu, Bool.false_eq_true, Bool.true_eq_false, Bool.not_true, Bool.not_false, if_true, if_false, ite_true, ite_false, Nat.reduceEqDiff, Nat.reduceLT, true_and, List.map_cons, List.map_nil, Nat.zero_add, Nat.reduceBEq, k3]
  refine condP_dec (fun h3 => ?_) (fun h3 => ?_)
  · have hok : c.ok = (decide (c.v = (0, 0)) && ((isName c.s && decide (c.n ≥ 1) && decide (c.n ≤ 8)) || (signsL.contains c.s && (c.n == 2)))) := by simp [Cel.ok, h3, int_beq]
    rw [hok]
    generalize hb : decide (c.v = (0, 0)) = b at *
    cases b
    · simp -dsimp only [↓WPd, ↓wpC_block, ↓wpC_cond, WPu, Bool.false_eq_true, Bool.true_eq_false, Bool.not_true, Bool.not_false, if_true, if_false, ite_true, ite_false, Nat.reduceEqDiff, Nat.reduceLT, true_and, List.map_cons, List.map_nil, Nat.zero_add, Nat.reduceBEq, WPm, Bool.false_and]
      exact g0
    · simp -dsimp only [↓WPd, ↓wpC_block, ↓wpC_cond, WPu, Bool.false_eq_true, Bool.true_eq_false, Bool.not_true, Bool.not_false, if_true, if_false, ite_true, ite_false, Nat.reduceEqDiff, Nat.reduceLT, true_and, List.map_cons, List.map_nil, Nat.zero_add, Nat.reduceBEq, WPm, faddr_ptr, load_cells ho, Cel.g0, Cel.g1, Cel.g2, Cel.g3, Cel.g4, nil_text]
      refine calledW_of (risname_ok d σ1 c.s) ?_
      rintro v σ2 ⟨rfl, rfl⟩
      simp -dsimp only [↓WPd, ↓wpC_block, ↓wpC_cond, WPu, Bool.false_eq_true, Bool.true_eq_false, Bool.not_true, Bool.not_false, if_true, if_false, ite_true, ite_false, Nat.reduceEqDiff, Nat.reduceLT, true_and, List.map_cons, List.map_nil, Nat.zero_add, Nat.reduceBEq, WPm, faddr_ptr, load_cells ho, Cel.g0, Cel.g1, Cel.g2, Cel.g3, Cel.g4, nil_text]
      generalize hq : (isName c.s && decide (c.n ≥ 1) && decide (c.n ≤ 8)) = q
      cases q
      · simp -dsimp only [↓WPd, ↓wpC_block, ↓wpC_cond, WPu, Bool.false_eq_true, Bool.true_eq_false, Bool.not_true, Bool.not_false, if_true, if_false, ite_true, ite_false, Nat.reduceEqDiff, Nat.reduceLT, true_and, List.map_cons, List.map_nil, Nat.zero_add, Nat.reduceBEq, WPm, faddr_ptr, load_cells ho, Cel.g0, Cel.g1, Cel.g2, Cel.g3, Cel.g4, nil_text]
        refine calledW_of (issign_ok d σ2 c.s) ?_
        rintro v σ3 ⟨rfl, g3⟩
        have ho3 := g3.get ho
        simp -dsimp only [↓WPd, ↓wpC_block, ↓wpC_cond, WPu, Bool.false_eq_true, Bool.true_eq_false, Bool.not_true, Bool.not_false, if_true, if_false, ite_true, ite_false, Nat.reduceEqDiff, Nat.reduceLT, true_and, List.map_cons, List.map_nil, Nat.zero_add, Nat.reduceBEq, WPm, faddr_ptr, load_cells ho3, Cel.g0, Cel.g1, Cel.g2, Cel.g3, Cel.g4, nil_text, Bool.false_or, Bool.true_and]
        exact g0.trans g3
      · simp -dsimp only [↓WPd, ↓wpC_block, ↓wpC_cond, WPu, Bool.false_eq_true, Bool.true_eq_false, Bool.not_true, Bool.not_false, if_true, if_false, ite_true, ite_false, Nat.reduceEqDiff, Nat.reduceLT, true_and, List.map_cons, List.map_nil, Nat.zero_add, Nat.reduceBEq, WPm, Bool.true_or, Bool.true_and]
        exact g0
  simp -dsimp only [↓WPd, ↓wpC_block, ↓wpC_cond, WPu, Bool.false_eq_true, Bool.true_eq_false, Bool.not_true, Bool.not_false, if_true, if_false, ite_true, ite_false, Nat.reduceEqDiff, Nat.reduceLT, true_and, List.map_cons, List.map_nil, Nat.zero_add, Nat.reduceBEq, k4]
  refine condP_dec (fun h4 => ?_) (fun h4 => ?_)
  · have hok : c.ok = (decide (c.s = []) && (c.n == 0) && decide (c.v.1 ≥ -1) && decide (c.v.1 ≤ 3) && decide (c.v.2 ≥ 0)) := by simp [Cel.ok, h4, int_beq]
    simp -dsimp only [↓WPd, ↓wpC_block, ↓wpC_cond, WPu, Bool.false_eq_true, Bool.true_eq_false, Bool.not_true, Bool.not_false, if_true, if_false, ite_true, ite_false, Nat.reduceEqDiff, Nat.reduceLT, true_and, List.map_cons, List.map_nil, Nat.zero_add, Nat.reduceBEq, WPm, faddr_ptr, Nat.reduceAdd, Nat.add_zero, load_cells ho, Cel.g0, Cel.g1, Cel.g2, Cel.g3, Cel.g4, nil_text]
    rw [hok]
    exact ⟨rfl, g0⟩
  · have hok : c.ok = false := by simp [Cel.ok, h1, h2, h3, h4]
    simp -dsimp only [↓WPd, ↓wpC_block, ↓wpC_cond, WPu, Bool.false_eq_true, Bool.true_eq_false, Bool.not_true, Bool.not_false, if_true, if_false, ite_true, ite_false, Nat.reduceEqDiff, Nat.reduceLT, true_and, List.map_cons, List.map_nil, Nat.zero_add, Nat.reduceBEq]
    rw [hok]
    exact ⟨rfl, g0⟩

/-- where a term ends, by the document -/
theorem rend_ok (l : AVal) (t : List Cel) (a : Nat) (hx : t.length < 2 ^ 30) (hl : SlOf σ 5 l (t.map Cel.val)) : Called CU.cfg d 118 [l, .int .i64 a] σ fun v σ' => v = .int .i64 (endT t a : Int) ∧ σ' = σ := by
  refine called_of (fn := CU.a118) rfl (Nat.le_of_ble_eq_true rfl) ?_
  have ll := hl.len
  rw [List.length_map] at ll
  simp only [CU.a118]
  simp -dsimp only [↓WPd, ↓wpC_block, ↓wpC_cond, WPu, Bool.false_eq_true, Bool.true_eq_false, Bool.not_true, Bool.not_false, if_true, if_false, ite_true, ite_false, Nat.reduceEqDiff, Nat.reduceLT, true_and, List.map_cons, List.map_nil, Nat.zero_add, Nat.reduceBEq, WPm, ll]
  have key : (decide ((a : Int) < 0) || decide ((a : Int) ≥ (t.length : Int))) = !decide (a < t.length) := by
    rw [Bool.eq_iff_iff]; simp; omega
  rw [key]
  refine condP_intro (fun h => ?_) (fun h => ?_)
  · have : endT t a = 0 := by simp only [Bool.not_eq_true', decide_eq_false_iff_not] at h; simp [endT, h]
    simp -dsimp only [↓WPd, ↓wpC_block, ↓wpC_cond, WPu, Bool.false_eq_true, Bool.true_eq_false, Bool.not_true, Bool.not_false, if_true, if_false, ite_true, ite_false, Nat.reduceEqDiff, Nat.reduceLT, true_and, List.map_cons, List.map_nil, Nat.zero_add, Nat.reduceBEq, this]
    exact ⟨rfl, trivial⟩
  · simp only [Bool.not_eq_false', decide_eq_true_eq] at h
    have hend : endT t a = endAt t.length (t.drop a) 1 a := by simp [endT, h]
    simp -dsimp only [↓WPd, ↓wpC_block, ↓wpC_cond, WPu, Bool.false_eq_true, Bool.true_eq_false, Bool.not_true, Bool.not_false, if_true, if_false, ite_true, ite_false, Nat.reduceEqDiff, Nat.reduceLT, true_and, List.map_cons, List.map_nil, Nat.zero_add, Nat.reduceBEq]
    refine loop_rule2 (fun m vs σ' => ∃ k o : Nat, k ≤ t.length ∧ m = t.length + 1 - k ∧ vs = [l, .int .i64 k, .int .i64 o] ∧ σ' = σ ∧ endAt t.length (t.drop k) o k = endT t a ∧ o ≤ 1 + k * t.length ∧ 0 < k + o) [1, 4]
      (fun e vs σ' => σ' = σ ∧ ((e = .exit 0 ∧ ∃ x, vs = [.int .i64 (endT t a : Int), x]) ∨ (e = .ret ∧ (∃ x, vs = [x, .int .i64 (endT t a : Int)])))) (t.length + 1 - a) ⟨a, 1, by omega, rfl, ?_, rfl, hend.symm, by omega, by omega⟩ ?_ ?_
    · simp -dsimp only [↓WPd, ↓wpC_block, ↓wpC_cond, WPu, Bool.false_eq_true, Bool.true_eq_false, Bool.not_true, Bool.not_false, if_true, if_false, ite_true, ite_false, Nat.reduceEqDiff, Nat.reduceLT, true_and, List.map_cons, List.map_nil, Nat.zero_add, Nat.reduceBEq]; rfl
    · rintro m vs σ' ⟨k, o, hk, rfl, rfl, rfl, he, ho, hko⟩
      have hmul : k * t.length ≤ 2 ^ 60 := by
        calc k * t.length ≤ 2 ^ 30 * 2 ^ 30 := Nat.mul_le_mul (by omega) (by omega)
          _ = 2 ^ 60 := by decide
      simp -dsimp only [↓WPd, ↓wpC_block, ↓wpC_cond, WPu, Bool.false_eq_true, Bool.true_eq_false, Bool.not_true, Bool.not_false, if_true, if_false, ite_true, ite_false, Nat.reduceEqDiff, Nat.reduceLT, true_and, List.map_cons, List.map_nil, Nat.zero_add, Nat.reduceBEq]
      refine condP_dec (fun h => ?_) (fun h => ?_)
      · obtain ⟨o, rfl⟩ : ∃ o', o = o' + 1 := ⟨o - 1, by omega⟩
        simp -dsimp only [↓WPd, ↓wpC_block, ↓wpC_cond, WPu, Bool.false_eq_true, Bool.true_eq_false, Bool.not_true, Bool.not_false, if_true, if_false, ite_true, ite_false, Nat.reduceEqDiff, Nat.reduceLT, true_and, List.map_cons, List.map_nil, Nat.zero_add, Nat.reduceBEq, ll]
        refine condP_dec (fun hkl => ?_) (fun hkl => ?_)
        · have hz : endT t a = 0 := by rw [← he, endAt_out (by omega)]
          simp -dsimp only [↓WPd, ↓wpC_block, ↓wpC_cond, WPu, Bool.false_eq_true, Bool.true_eq_false, Bool.not_true, Bool.not_false, if_true, if_false, ite_true, ite_false, Nat.reduceEqDiff, Nat.reduceLT, true_and, List.map_cons, List.map_nil, Nat.zero_add, Nat.reduceBEq, WPm]
          exact .inr ⟨_, by rw [hz]; rfl⟩
        · have hk' : k < t.length := by omega
          have hi : k < (t.map Cel.val).length := by rw [List.length_map]; exact hk'
          have hb := (hl.addr hi .i64).2
          rw [cel_get] at hb
          obtain ⟨q0, p0, r0⟩ := faddr_load hb 0
          obtain ⟨q2, p2, r2⟩ := faddr_load hb 2
          have r0' : loadV σ' 1 false q0 = some (.int .u8 (t[k]).k) := r0
          have r2' : loadV σ' 1 false q2 = some (.int .i64 (t[k]).n) := r2
          rw [endAt_get hk'] at he
          have kq : (((t[k]).k : Int) == 3) = decide ((t[k]).k = 3) := by
            by_cases h : (t[k]).k = 3 <;> simp [h] <;> omega
          have w1 : IntKind.i64.wrap (((o + 1 : Nat) : Int) - 1) = (o : Int) := by rw [wrap_i64 (by omega) (by omega)]; omega
          have w3 : IntKind.i64.wrap ((k : Int) + 1) = ((k + 1 : Nat) : Int) := by rw [wrap_i64 (by omega) (by omega)]; omega
          have hm2 : (k + 1) * t.length = k * t.length + t.length := by rw [Nat.add_mul, Nat.one_mul]
          have e1 : ((o + 1 : Nat) : Int) = (o : Int) + 1 := by omega
          simp -dsimp only [↓WPd, ↓wpC_block, ↓wpC_cond, WPu, Bool.false_eq_true, Bool.true_eq_false, Bool.not_true, Bool.not_false, if_true, if_false, ite_true, ite_false, Nat.reduceEqDiff, Nat.reduceLT, true_and, List.map_cons, List.map_nil, Nat.zero_add, Nat.reduceBEq, WPm, hl.iaddr hi, p0, p2, r0', r2', kq, w1]
          have key : (decide ((t[k]).k = 3) && decide ((t[k]).n > 0)) = decide (0 < (t[k]).parts) := by
            by_cases h : (t[k]).k = 3 <;> simp [Cel.parts, h]
          rw [key]
          refine condP_dec (fun h0 => ?_) (fun h0 => ?_)
          · have hp : (t[k]).n = ((t[k]).parts : Int) := by
              by_cases h3 : (t[k]).k = 3
              · have : (t[k]).parts = (t[k]).n.toNat := by simp [Cel.parts, h3]
                omega
              · have : (t[k]).parts = 0 := by simp [Cel.parts, h3]
                omega
            simp -dsimp only [↓WPd, ↓wpC_block, ↓wpC_cond, WPu, Bool.false_eq_true, Bool.true_eq_false, Bool.not_true, Bool.not_false, if_true, if_false, ite_true, ite_false, Nat.reduceEqDiff, Nat.reduceLT, true_and, List.map_cons, List.map_nil, Nat.zero_add, Nat.reduceBEq, WPm, ll, hl.iaddr hi, p2, r2']
            refine condP_dec (fun h2 => ?_) (fun h2 => ?_)
            · rw [if_pos (by omega)] at he
              simp -dsimp only [↓WPd, ↓wpC_block, ↓wpC_cond, WPu, Bool.false_eq_true, Bool.true_eq_false, Bool.not_true, Bool.not_false, if_true, if_false, ite_true, ite_false, Nat.reduceEqDiff, Nat.reduceLT, true_and, List.map_cons, List.map_nil, Nat.zero_add, Nat.reduceBEq]
              exact .inr ⟨_, by rw [← he]; rfl⟩
            · rw [if_neg (by omega)] at he
              have w2 : IntKind.i64.wrap ((o : Int) + (t[k]).n) = ((o + (t[k]).parts : Nat) : Int) := by rw [wrap_i64 (by omega) (by omega)]; omega
              simp -dsimp only [↓WPd, ↓wpC_block, ↓wpC_cond, WPu, Bool.false_eq_true, Bool.true_eq_false, Bool.not_true, Bool.not_false, if_true, if_false, ite_true, ite_false, Nat.reduceEqDiff, Nat.reduceLT, true_and, List.map_cons, List.map_nil, Nat.zero_add, Nat.reduceBEq, WPm, hl.iaddr hi, p2, r2', w2, w3]
              exact ⟨t.length + 1 - (k + 1), by omega, k + 1, o + (t[k]).parts, by omega, rfl, rfl, he, by omega, by omega⟩
          · have hp : (t[k]).parts = 0 := Nat.eq_zero_of_not_pos h0
            rw [hp, if_neg (Nat.not_lt_zero _), Nat.add_zero] at he
            simp -dsimp only [↓WPd, ↓wpC_block, ↓wpC_cond, WPu, Bool.false_eq_true, Bool.true_eq_false, Bool.not_true, Bool.not_false, if_true, if_false, ite_true, ite_false, Nat.reduceEqDiff, Nat.reduceLT, true_and, List.map_cons, List.map_nil, Nat.zero_add, Nat.reduceBEq, w3]
            exact ⟨t.length + 1 - (k + 1), by omega, k + 1, o, by omega, rfl, rfl, he, by omega, by omega⟩
      · have : o = 0 := by omega
        subst this
        rw [endAt_zero] at he
        simp -dsimp only [↓WPd, ↓wpC_block, ↓wpC_cond, WPu, Bool.false_eq_true, Bool.true_eq_false, Bool.not_true, Bool.not_false, if_true, if_false, ite_true, ite_false, Nat.reduceEqDiff, Nat.reduceLT, true_and, List.map_cons, List.map_nil, Nat.zero_add, Nat.reduceBEq]
        exact .inl ⟨_, by rw [← he]⟩
    · rintro e σ' env ⟨rfl, ⟨rfl, x, hv⟩ | ⟨rfl, x, hv⟩⟩
      · simp only [List.map_cons, List.map_nil, List.cons.injEq, and_true] at hv
        simp -dsimp only [↓WPd, ↓wpC_block, ↓wpC_cond, WPu, Bool.false_eq_true, Bool.true_eq_false, Bool.not_true, Bool.not_false, if_true, if_false, ite_true, ite_false, Nat.reduceEqDiff, Nat.reduceLT, true_and, List.map_cons, List.map_nil, Nat.zero_add, Nat.reduceBEq, hv]
      · simp only [List.map_cons, List.map_nil, List.cons.injEq, and_true] at hv
        simp -dsimp only [↓WPd, ↓wpC_block, ↓wpC_cond, WPu, Bool.false_eq_true, Bool.true_eq_false, Bool.not_true, Bool.not_false, if_true, if_false, ite_true, ite_false, Nat.reduceEqDiff, Nat.reduceLT, true_and, List.map_cons, List.map_nil, Nat.zero_add, Nat.reduceBEq, hv]

/-- is it a term, by the document? -/
theorem rright_ok (l : AVal) (t : List Cel) (hx : t.length < 2 ^ 30) (hl : SlOf σ 5 l (t.map Cel.val)) : Called CU.cfg d 63 [l] σ fun v σ' => v = .bool (right t) ∧ Grows σ σ' := by
  refine called_of (fn := CU.a63) rfl (Nat.le_of_ble_eq_true rfl) ?_
  have ll := hl.len
  rw [List.length_map] at ll
  simp only [CU.a63]
  simp -dsimp only [↓WPd, ↓wpC_block, ↓wpC_cond, WPu, Bool.false_eq_true, Bool.true_eq_false, Bool.not_true, Bool.not_false, if_true, if_false, ite_true, ite_false, Nat.reduceEqDiff, Nat.reduceLT, true_and, List.map_cons, List.map_nil, Nat.zero_add, Nat.reduceBEq, WPm, ll]
  have key : (decide ((t.length : Int) < 1) || decide ((t.length : Int) > 256)) = !(decide (1 ≤ t.length) && decide (t.length ≤ 256)) := by
    generalize t.length = n
    rw [Bool.eq_iff_iff]; simp; omega
  rw [key]
  refine condP_intro (fun h => ?_) (fun h => ?_)
  · have : right t = false := by
      simp only [Bool.not_eq_true'] at h
      simp only [right, h, Bool.false_and]
    simp -dsimp only [↓WPd, ↓wpC_block, ↓wpC_cond, WPu, Bool.false_eq_true, Bool.true_eq_false, Bool.not_true, Bool.not_false, if_true, if_false, ite_true, ite_false, Nat.reduceEqDiff, Nat.reduceLT, true_and, List.map_cons, List.map_nil, Nat.zero_add, Nat.reduceBEq, this]
    exact Keeps.refl _ _
  · simp only [Bool.not_eq_false'] at h
    have hne : t ≠ [] := by
      intro e; subst e; simp at h
    have hr : right t = (decide (endT t 0 = t.length) && t.all Cel.ok) := by
      rw [endT_zero hne]; simp only [right, h, Bool.true_and]
    simp -dsimp only [↓WPd, ↓wpC_block, ↓wpC_cond, WPu, Bool.false_eq_true, Bool.true_eq_false, Bool.not_true, Bool.not_false, if_true, if_false, ite_true, ite_false, Nat.reduceEqDiff, Nat.reduceLT, true_and, List.map_cons, List.map_nil, Nat.zero_add, Nat.reduceBEq]
    refine loop_rule2 (fun m vs σ' => ∃ k, k ≤ t.length ∧ m = t.length - k ∧ vs = [l, .int .i64 k] ∧ Grows σ σ' ∧ ∀ (j : Nat) (hj : j < t.length), j < k → (t[j]).ok = true) [0, 2]
      (fun e vs σ' => Grows σ σ' ∧ ((e = .exit 0 ∧ (∃ x, vs = [l, x]) ∧ t.all Cel.ok = true) ∨ (e = .ret ∧ (∃ x, vs = [x, .bool false]) ∧ t.all Cel.ok = false))) t.length ⟨0, Nat.zero_le _, rfl, ?_, Keeps.refl _ _, fun j _ h => absurd h (Nat.not_lt_zero _)⟩ ?_ ?_
    · simp -dsimp only [↓WPd, ↓wpC_block, ↓wpC_cond, WPu, Bool.false_eq_true, Bool.true_eq_false, Bool.not_true, Bool.not_false, if_true, if_false, ite_true, ite_false, Nat.reduceEqDiff, Nat.reduceLT, true_and, List.map_cons, List.map_nil, Nat.zero_add, Nat.reduceBEq]; rfl
    · rintro m vs σ' ⟨k, hk, rfl, rfl, g, hall⟩
      have ll' := (hl.grow g).len
      rw [List.length_map] at ll'
      simp -dsimp only [↓WPd, ↓wpC_block, ↓wpC_cond, WPu, Bool.false_eq_true, Bool.true_eq_false, Bool.not_true, Bool.not_false, if_true, if_false, ite_true, ite_false, Nat.reduceEqDiff, Nat.reduceLT, true_and, List.map_cons, List.map_nil, Nat.zero_add, Nat.reduceBEq, ll']
      refine condP_dec (fun h => ?_) (fun h => ?_)
      · have hk' : k < t.length := by omega
        have hi : k < (t.map Cel.val).length := by rw [List.length_map]; exact hk'
        have hl' := hl.grow g
        have ha5 : loadV σ' 5 true (addrOf 5 l k) = some (t[k]).val := hl'.loadA hi (cs := (t[k]).cs) (by rw [cel_get]; rfl)
        simp -dsimp only [↓WPd, ↓wpC_block, ↓wpC_cond, WPu, Bool.false_eq_true, Bool.true_eq_false, Bool.not_true, Bool.not_false, if_true, if_false, ite_true, ite_false, Nat.reduceEqDiff, Nat.reduceLT, true_and, List.map_cons, List.map_nil, Nat.zero_add, Nat.reduceBEq, hl'.iaddr hi, ha5]
        refine calledW_of (cell_ok d σ' t[k]) ?_
        rintro v σ'' ⟨rfl, g2⟩
        simp -dsimp only [↓WPd, ↓wpC_block, ↓wpC_cond, WPu, Bool.false_eq_true, Bool.true_eq_false, Bool.not_true, Bool.not_false, if_true, if_false, ite_true, ite_false, Nat.reduceEqDiff, Nat.reduceLT, true_and, List.map_cons, List.map_nil, Nat.zero_add, Nat.reduceBEq]
        refine condP_intro (fun h4 => ?_) (fun h4 => ?_)
        · simp -dsimp only [↓WPd, ↓wpC_block, ↓wpC_cond, WPu, Bool.false_eq_true, Bool.true_eq_false, Bool.not_true, Bool.not_false, if_true, if_false, ite_true, ite_false, Nat.reduceEqDiff, Nat.reduceLT, true_and, List.map_cons, List.map_nil, Nat.zero_add, Nat.reduceBEq]
          refine ⟨g.trans g2, .inr ⟨⟨_, rfl⟩, ?_⟩⟩
          rw [List.all_eq_false]
          exact ⟨_, List.getElem_mem hk', by simpa using h4⟩
        · simp -dsimp only [↓WPd, ↓wpC_block, ↓wpC_cond, WPu, Bool.false_eq_true, Bool.true_eq_false, Bool.not_true, Bool.not_false, if_true, if_false, ite_true, ite_false, Nat.reduceEqDiff, Nat.reduceLT, true_and, List.map_cons, List.map_nil, Nat.zero_add, Nat.reduceBEq]
          refine ⟨t.length - (k + 1), by omega, k + 1, by omega, rfl, by rw [wrap_i64 (by omega) (by omega), Int.natCast_add, Int.natCast_one], g.trans g2, fun j hj hjk => ?_⟩
          by_cases e : j = k
          · subst e; simpa using h4
          · exact hall j hj (by omega)
      · simp -dsimp only [↓WPd, ↓wpC_block, ↓wpC_cond, WPu, Bool.false_eq_true, Bool.true_eq_false, Bool.not_true, Bool.not_false, if_true, if_false, ite_true, ite_false, Nat.reduceEqDiff, Nat.reduceLT, true_and, List.map_cons, List.map_nil, Nat.zero_add, Nat.reduceBEq]
        refine ⟨g, .inl ⟨⟨_, rfl⟩, ?_⟩⟩
        rw [List.all_eq_true]
        intro x hx
        obtain ⟨j, hj, rfl⟩ := List.getElem_of_mem hx
        exact hall j hj (by omega)
    · rintro e σ' env ⟨g, ⟨rfl, ⟨x, hv⟩, hyes⟩ | ⟨rfl, ⟨x, hv⟩, hno⟩⟩
      · simp only [List.map_cons, List.map_nil, List.cons.injEq, and_true] at hv
        have hl' := hl.grow g
        simp -dsimp only [↓WPd, ↓wpC_block, ↓wpC_cond, WPu, Bool.false_eq_true, Bool.true_eq_false, Bool.not_true, Bool.not_false, if_true, if_false, ite_true, ite_false, Nat.reduceEqDiff, Nat.reduceLT, true_and, List.map_cons, List.map_nil, Nat.zero_add, Nat.reduceBEq, hv]
        refine calledW_of (rend_ok d σ' l t 0 hx hl') ?_
        rintro v σ'' ⟨rfl, rfl⟩
        have ll' := hl'.len
        rw [List.length_map] at ll'
        have k2 : (((endT t 0 : Nat) : Int) == (t.length : Int)) = decide (endT t 0 = t.length) := by by_cases h : endT t 0 = t.length <;> simp [h] <;> omega
        simp -dsimp only [↓WPd, ↓wpC_block, ↓wpC_cond, WPu, Bool.false_eq_true, Bool.true_eq_false, Bool.not_true, Bool.not_false, if_true, if_false, ite_true, ite_false, Nat.reduceEqDiff, Nat.reduceLT, true_and, List.map_cons, List.map_nil, Nat.zero_add, Nat.reduceBEq, hv, ll', k2]
        rw [hr, hyes, Bool.and_true]
        exact ⟨rfl, g⟩
      · simp only [List.map_cons, List.map_nil, List.cons.injEq, and_true] at hv
        simp -dsimp only [↓WPd, ↓wpC_block, ↓wpC_cond, WPu, Bool.false_eq_true, Bool.true_eq_false, Bool.not_true, Bool.not_false, if_true, if_false, ite_true, ite_false, Nat.reduceEqDiff, Nat.reduceLT, true_and, List.map_cons, List.map_nil, Nat.zero_add, Nat.reduceBEq, hv]
        rw [hr, hno, Bool.and_false]
        exact ⟨rfl, g⟩
end
end Go.Proofs.YtkjnanfkclijcaaDoor.Am

/-
  TERMS: are two the same? Copies. Is it a structure of a name?
-/
namespace Go.Proofs.YtkjnanfkclijcaaDoor.Am
open Go
set_option linter.unusedVariables false
set_option linter.unusedSimpArgs false
set_option linter.unusedSectionVars false
set_option maxRecDepth 100000
section
variable (d : Nat) (σ : Store)

theorem cequal_ok (a b : AVal) (x y : List Cel) (hx : x.length < 2 ^ 40) (ha : SlOf σ 5 a (x.map Cel.val)) (hb : SlOf σ 5 b (y.map Cel.val)) : Called CU.cfg d 18 [a, b] σ fun v σ' => v = .bool (decide (x = y)) ∧ σ' = σ := by
  refine called_of (fn := CU.a18) rfl (Nat.le_of_ble_eq_true rfl) ?_
  have la := ha.len
  have lb := hb.len
  rw [List.length_map] at la lb
  simp only [CU.a18]
  simp -dsimp only [↓WPd, ↓wpC_block, ↓wpC_cond, WPu, Bool.false_eq_true, Bool.true_eq_false, Bool.not_true, Bool.not_false, if_true, if_false, ite_true, ite_false, Nat.reduceEqDiff, Nat.reduceLT, true_and, List.map_cons, List.map_nil, Nat.zero_add, Nat.reduceBEq, la, lb]
  refine condP_intro (fun h => ?_) (fun h => ?_)
  · have h' : x.length ≠ y.length := fun e => by rw [e] at h; simp at h
    simp -dsimp only [↓WPd, ↓wpC_block, ↓wpC_cond, WPu, Bool.false_eq_true, Bool.true_eq_false, Bool.not_true, Bool.not_false, if_true, if_false, ite_true, ite_false, Nat.reduceEqDiff, Nat.reduceLT, true_and, List.map_cons, List.map_nil, Nat.zero_add, Nat.reduceBEq]
    have : x ≠ y := fun e => h' (by rw [e])
    simp [this]
  · have h' : x.length = y.length := by simp at h; omega
    simp -dsimp only [↓WPd, ↓wpC_block, ↓wpC_cond, WPu, Bool.false_eq_true, Bool.true_eq_false, Bool.not_true, Bool.not_false, if_true, if_false, ite_true, ite_false, Nat.reduceEqDiff, Nat.reduceLT, true_and, List.map_cons, List.map_nil, Nat.zero_add, Nat.reduceBEq]
    refine loop_rule (fun m vs σ' => ∃ k : Nat, k ≤ x.length ∧ m = x.length - k ∧ σ' = σ ∧ x.take k = y.take k ∧ vs = [a, b, .int .i64 k]) x.length ⟨0, Nat.zero_le _, rfl, rfl, rfl, ?_⟩ ?_
    · simp -dsimp only [↓WPd, ↓wpC_block, ↓wpC_cond, WPu, Bool.false_eq_true, Bool.true_eq_false, Bool.not_true, Bool.not_false, if_true, if_false, ite_true, ite_false, Nat.reduceEqDiff, Nat.reduceLT, true_and, List.map_cons, List.map_nil, Nat.zero_add, Nat.reduceBEq]; rfl
    · rintro m vs σ' ⟨k, hk, rfl, rfl, he, rfl⟩
      simp -dsimp only [↓WPd, ↓wpC_block, ↓wpC_cond, WPu, Bool.false_eq_true, Bool.true_eq_false, Bool.not_true, Bool.not_false, if_true, if_false, ite_true, ite_false, Nat.reduceEqDiff, Nat.reduceLT, true_and, List.map_cons, List.map_nil, Nat.zero_add, Nat.reduceBEq, la]
      refine condP_dec (fun h => ?_) (fun h => ?_)
      · have hkx : k < x.length := by omega
        have hky : k < y.length := by omega
        have hi : k < (x.map Cel.val).length := by rw [List.length_map]; exact hkx
        have hj : k < (y.map Cel.val).length := by rw [List.length_map]; exact hky
        have l1 : loadV σ' 5 true (addrOf 5 a k) = some (x[k]).val := ha.loadA hi (cs := (x[k]).cs) (by rw [cel_get]; rfl)
        have l2 : loadV σ' 5 true (addrOf 5 b k) = some (y[k]).val := hb.loadA hj (cs := (y[k]).cs) (by rw [cel_get]; rfl)
        have eN : (if true = true then !decide (x[k] = y[k]) else decide (x[k] = y[k])) = !decide (x[k] = y[k]) := rfl
        simp -dsimp only [↓WPd, ↓wpC_block, ↓wpC_cond, WPu, Bool.false_eq_true, Bool.true_eq_false, Bool.not_true, Bool.not_false, if_true, if_false, ite_true, ite_false, Nat.reduceEqDiff, Nat.reduceLT, true_and, List.map_cons, List.map_nil, Nat.zero_add, Nat.reduceBEq, ha.iaddr hi, l1, hb.iaddr hj, l2, Cel.eqs]
        refine condP_intro (fun h => ?_) (fun h => ?_)
        · simp -dsimp only [↓WPd, ↓wpC_block, ↓wpC_cond, WPu, Bool.false_eq_true, Bool.true_eq_false, Bool.not_true, Bool.not_false, if_true, if_false, ite_true, ite_false, Nat.reduceEqDiff, Nat.reduceLT, true_and, List.map_cons, List.map_nil, Nat.zero_add, Nat.reduceBEq]
          have : x ≠ y := fun e => by subst e; simp at h
          simp [this]
        · simp -dsimp only [↓WPd, ↓wpC_block, ↓wpC_cond, WPu, Bool.false_eq_true, Bool.true_eq_false, Bool.not_true, Bool.not_false, if_true, if_false, ite_true, ite_false, Nat.reduceEqDiff, Nat.reduceLT, true_and, List.map_cons, List.map_nil, Nat.zero_add, Nat.reduceBEq]
          have e : x[k] = y[k] := by simpa using h
          refine ⟨x.length - (k + 1), by omega, k + 1, by omega, rfl, take_succ_eq hkx hky he e, ?_⟩
          rw [wrap_i64 (by omega) (by omega), Int.natCast_add, Int.natCast_one]
      · simp -dsimp only [↓WPd, ↓wpC_block, ↓wpC_cond, WPu, Bool.false_eq_true, Bool.true_eq_false, Bool.not_true, Bool.not_false, if_true, if_false, ite_true, ite_false, Nat.reduceEqDiff, Nat.reduceLT, true_and, List.map_cons, List.map_nil, Nat.zero_add, Nat.reduceBEq]
        have hk' : k = x.length := by omega
        subst hk'
        have : x = y := by rw [List.take_length, h', List.take_length] at he; exact he
        simp [this]

theorem samecells_ok (a b : AVal) (x y : List Cel) (hx : x.length < 2 ^ 40) (ha : SlOf σ 5 a (x.map Cel.val)) (hb : SlOf σ 5 b (y.map Cel.val)) : Called CU.cfg d 122 [a, b] σ fun v σ' => v = .bool (decide (x = y)) ∧ σ' = σ := by
  refine called_of (fn := CU.a122) rfl (Nat.le_of_ble_eq_true rfl) ?_
  have la := ha.len
  have lb := hb.len
  rw [List.length_map] at la lb
  simp only [CU.a122]
  simp -dsimp only [↓WPd, ↓wpC_block, ↓wpC_cond, WPu, Bool.false_eq_true, Bool.true_eq_false, Bool.not_true, Bool.not_false, if_true, if_false, ite_true, ite_false, Nat.reduceEqDiff, Nat.reduceLT, true_and, List.map_cons, List.map_nil, Nat.zero_add, Nat.reduceBEq, la, lb]
  refine condP_intro (fun h => ?_) (fun h => ?_)
  · have h' : x.length ≠ y.length := fun e => by rw [e] at h; simp at h
    simp -dsimp only [↓WPd, ↓wpC_block, ↓wpC_cond, WPu, Bool.false_eq_true, Bool.true_eq_false, Bool.not_true, Bool.not_false, if_true, if_false, ite_true, ite_false, Nat.reduceEqDiff, Nat.reduceLT, true_and, List.map_cons, List.map_nil, Nat.zero_add, Nat.reduceBEq]
    have : x ≠ y := fun e => h' (by rw [e])
    simp [this]
  · have h' : x.length = y.length := by simp at h; omega
    simp -dsimp only [↓WPd, ↓wpC_block, ↓wpC_cond, WPu, Bool.false_eq_true, Bool.true_eq_false, Bool.not_true, Bool.not_false, if_true, if_false, ite_true, ite_false, Nat.reduceEqDiff, Nat.reduceLT, true_and, List.map_cons, List.map_nil, Nat.zero_add, Nat.reduceBEq]
    refine loop_rule (fun m vs σ' => ∃ k : Nat, k ≤ x.length ∧ m = x.length - k ∧ σ' = σ ∧ x.take k = y.take k ∧ vs = [a, b, .int .i64 k]) x.length ⟨0, Nat.zero_le _, rfl, rfl, rfl, ?_⟩ ?_
    · simp -dsimp only [↓WPd, ↓wpC_block, ↓wpC_cond, WPu, Bool.false_eq_true, Bool.true_eq_false, Bool.not_true, Bool.not_false, if_true, if_false, ite_true, ite_false, Nat.reduceEqDiff, Nat.reduceLT, true_and, List.map_cons, List.map_nil, Nat.zero_add, Nat.reduceBEq]; rfl
    · rintro m vs σ' ⟨k, hk, rfl, rfl, he, rfl⟩
      simp -dsimp only [↓WPd, ↓wpC_block, ↓wpC_cond, WPu, Bool.false_eq_true, Bool.true_eq_false, Bool.not_true, Bool.not_false, if_true, if_false, ite_true, ite_false, Nat.reduceEqDiff, Nat.reduceLT, true_and, List.map_cons, List.map_nil, Nat.zero_add, Nat.reduceBEq, la]
      refine condP_dec (fun h => ?_) (fun h => ?_)
      · have hkx : k < x.length := by omega
        have hky : k < y.length := by omega
        have hi : k < (x.map Cel.val).length := by rw [List.length_map]; exact hkx
        have hj : k < (y.map Cel.val).length := by rw [List.length_map]; exact hky
        have l1 : loadV σ' 5 true (addrOf 5 a k) = some (x[k]).val := ha.loadA hi (cs := (x[k]).cs) (by rw [cel_get]; rfl)
        have l2 : loadV σ' 5 true (addrOf 5 b k) = some (y[k]).val := hb.loadA hj (cs := (y[k]).cs) (by rw [cel_get]; rfl)
        have eN : (if true = true then !decide (x[k] = y[k]) else decide (x[k] = y[k])) = !decide (x[k] = y[k]) := rfl
        simp -dsimp only [↓WPd, ↓wpC_block, ↓wpC_cond, WPu, Bool.false_eq_true, Bool.true_eq_false, Bool.not_true, Bool.not_false, if_true, if_false, ite_true, ite_false, Nat.reduceEqDiff, Nat.reduceLT, true_and, List.map_cons, List.map_nil, Nat.zero_add, Nat.reduceBEq, ha.iaddr hi, l1, hb.iaddr hj, l2, Cel.eqs]
        refine condP_intro (fun h => ?_) (fun h => ?_)
        · simp -dsimp only [↓WPd, ↓wpC_block, ↓wpC_cond, WPu, Bool.false_eq_true, Bool.true_eq_false, Bool.not_true, Bool.not_false, if_true, if_false, ite_true, ite_false, Nat.reduceEqDiff, Nat.reduceLT, true_and, List.map_cons, List.map_nil, Nat.zero_add, Nat.reduceBEq]
          have : x ≠ y := fun e => by subst e; simp at h
          simp [this]
        · simp -dsimp only [↓WPd, ↓wpC_block, ↓wpC_cond, WPu, Bool.false_eq_true, Bool.true_eq_false, Bool.not_true, Bool.not_false, if_true, if_false, ite_true, ite_false, Nat.reduceEqDiff, Nat.reduceLT, true_and, List.map_cons, List.map_nil, Nat.zero_add, Nat.reduceBEq]
          have e : x[k] = y[k] := by simpa using h
          refine ⟨x.length - (k + 1), by omega, k + 1, by omega, rfl, take_succ_eq hkx hky he e, ?_⟩
          rw [wrap_i64 (by omega) (by omega), Int.natCast_add, Int.natCast_one]
      · simp -dsimp only [↓WPd, ↓wpC_block, ↓wpC_cond, WPu, Bool.false_eq_true, Bool.true_eq_false, Bool.not_true, Bool.not_false, if_true, if_false, ite_true, ite_false, Nat.reduceEqDiff, Nat.reduceLT, true_and, List.map_cons, List.map_nil, Nat.zero_add, Nat.reduceBEq]
        have hk' : k = x.length := by omega
        subst hk'
        have : x = y := by rw [List.take_length, h', List.take_length] at he; exact he
        simp [this]

theorem cclone_ok (b : AVal) (t : List Cel) (hs : t.length < 2 ^ 30) (hb : SlOf σ 5 b (t.map Cel.val)) : Called CU.cfg d 80 [b] σ fun v σ' => Grows σ σ' ∧ Own σ' 5 v (t.map Cel.val) ∧ Fresh σ.length v ∧ NoLit v := by
  refine called_of (fn := CU.a80) rfl (Nat.le_of_ble_eq_true rfl) ?_
  obtain ⟨x, hx, hx'⟩ := hb.isnil
  simp only [CU.a80]
  simp -dsimp only [↓WPd, ↓wpC_block, ↓wpC_cond, WPu, Bool.false_eq_true, Bool.true_eq_false, Bool.not_true, Bool.not_false, if_true, if_false, ite_true, ite_false, Nat.reduceEqDiff, Nat.reduceLT, true_and, List.map_cons, List.map_nil, Nat.zero_add, Nat.reduceBEq, hx, Bool.false_eq_true]
  refine condP_intro (fun h => ?_) (fun h => ?_)
  · obtain ⟨rfl, he⟩ := hx' h
    simp -dsimp only [↓WPd, ↓wpC_block, ↓wpC_cond, WPu, Bool.false_eq_true, Bool.true_eq_false, Bool.not_true, Bool.not_false, if_true, if_false, ite_true, ite_false, Nat.reduceEqDiff, Nat.reduceLT, true_and, List.map_cons, List.map_nil, Nat.zero_add, Nat.reduceBEq]
    exact ⟨Keeps.refl _ _, by rw [he]; exact Own.nil _ _, (fun id h => by cases h), trivial⟩
  · simp -dsimp only [↓WPd, ↓wpC_block, ↓wpC_cond, WPu, Bool.false_eq_true, Bool.true_eq_false, Bool.not_true, Bool.not_false, if_true, if_false, ite_true, ite_false, Nat.reduceEqDiff, Nat.reduceLT, true_and, List.map_cons, List.map_nil, Nat.zero_add, Nat.reduceBEq, hb.els]
    refine stepP_of [] rfl ?_
    have ho : Own σ 5 (.fslice (AVal.tagL []) true 5 []) [] := ⟨.inr (.inl ⟨_, rfl⟩)⟩
    obtain ⟨v', σ', h1, h2, h3, h4, h5⟩ := ho.append (t.map Cel.val) 48 (by rw [List.length_map]; simp; omega)
    simp -dsimp only [↓WPd, ↓wpC_block, ↓wpC_cond, WPu, Bool.false_eq_true, Bool.true_eq_false, Bool.not_true, Bool.not_false, if_true, if_false, ite_true, ite_false, Nat.reduceEqDiff, Nat.reduceLT, true_and, List.map_cons, List.map_nil, Nat.zero_add, Nat.reduceBEq, hb.els, h1]
    refine ⟨h3.mono (fun i _ h => by cases h), by simpa using h2, fun id hid => ?_, h5 (.inl rfl)⟩
    rcases h4 id hid with h | h
    · cases h
    · omega

theorem copied_ok (b : AVal) (t : List Cel) (hs : t.length < 2 ^ 30) (hb : SlOf σ 5 b (t.map Cel.val)) : Called CU.cfg d 119 [b] σ fun v σ' => Grows σ σ' ∧ Own σ' 5 v (t.map Cel.val) ∧ Fresh σ.length v ∧ NoLit v := by
  refine called_of (fn := CU.a119) rfl (Nat.le_of_ble_eq_true rfl) ?_
  simp only [CU.a119]
  obtain ⟨v', σ', h1, h2, h3, h4, h5⟩ := (Own.nil σ 5).append (t.map Cel.val) 48 (by rw [List.length_map]; simp; omega)
  simp -dsimp only [↓WPd, ↓wpC_block, ↓wpC_cond, WPu, Bool.false_eq_true, Bool.true_eq_false, Bool.not_true, Bool.not_false, if_true, if_false, ite_true, ite_false, Nat.reduceEqDiff, Nat.reduceLT, true_and, List.map_cons, List.map_nil, Nat.zero_add, Nat.reduceBEq, hb.els, h1]
  refine ⟨h3.mono (fun i _ h => by cases h), by simpa using h2, fun id hid => ?_, h5 (.inl trivial)⟩
  rcases h4 id hid with h | h
  · cases h
  · omega

/-- has it that name, and so many arguments? -/
def isT (t : List Cel) (s : List UInt8) (n : Int) : Bool := match t with
  | [] => false
  | c :: _ => decide (c.s = s) && ((decide (c.k = 3) && decide (c.n = n)) || (decide (n = 0) && decide (c.k = 2)))

theorem is_ok (l : AVal) (t : List Cel) (s : List UInt8) (n : Int) (hl : SlOf σ 5 l (t.map Cel.val)) : Called CU.cfg d 61 [l, .str s, .int .i64 n] σ fun v σ' => v = .bool (isT t s n) ∧ σ' = σ := by
  refine called_of (fn := CU.a61) rfl (Nat.le_of_ble_eq_true rfl) ?_
  have ll := hl.len
  rw [List.length_map] at ll
  simp only [CU.a61]
  cases t with
  | nil =>
    have e : (((([] : List Cel).length : Nat) : Int) == 0) = true := rfl
    simp -dsimp only [↓WPd, ↓wpC_block, ↓wpC_cond, WPu, Bool.false_eq_true, Bool.true_eq_false, Bool.not_true, Bool.not_false, if_true, if_false, ite_true, ite_false, Nat.reduceEqDiff, Nat.reduceLT, true_and, List.map_cons, List.map_nil, Nat.zero_add, Nat.reduceBEq, WPm, ll, e, Bool.true_or]
    exact ⟨rfl, trivial⟩
  | cons c r =>
    have e : ((((c :: r).length : Nat) : Int) == 0) = false := by simp; omega
    have hi : 0 < ((c :: r).map Cel.val).length := by simp
    have hb := (hl.addr hi .i64).2
    rw [cel_get] at hb
    obtain ⟨q0, p0, r0⟩ := faddr_load hb 0
    obtain ⟨q1, p1, r1⟩ := faddr_load hb 1
    obtain ⟨q2, p2, r2⟩ := faddr_load hb 2
    have r0' : loadV σ 1 false q0 = some (.int .u8 c.k) := r0
    have r1' : loadV σ 1 false q1 = some (.str c.s) := r1
    have r2' : loadV σ 1 false q2 = some (.int .i64 c.n) := r2
    have ia : iaddrV 5 l (.int .i64 0) = some (addrOf 5 l 0) := hl.iaddr hi .i64
    have sn : sopV .neq (.str c.s) (.str s) = some (.bool (!decide (c.s = s))) := by
      by_cases h : c.s = s <;> simp [sopV, h]
    have k3 : ((c.k : Int) == 3) = decide (c.k = 3) := by by_cases h : c.k = 3 <;> simp [h] <;> omega
    have k2 : ((c.k : Int) == 2) = decide (c.k = 2) := by by_cases h : c.k = 2 <;> simp [h] <;> omega
    simp -dsimp only [↓WPd, ↓wpC_block, ↓wpC_cond, WPu, Bool.false_eq_true, Bool.true_eq_false, Bool.not_true, Bool.not_false, if_true, if_false, ite_true, ite_false, Nat.reduceEqDiff, Nat.reduceLT, true_and, List.map_cons, List.map_nil, Nat.zero_add, Nat.reduceBEq, WPm, ll, e, ia, p0, p1, p2, r0', r1', r2', sn, Bool.false_or]
    refine condP_intro (fun h => ?_) (fun h => ?_)
    · have : isT (c :: r) s n = false := by
        simp only [Bool.not_eq_true'] at h
        simp only [isT, h, Bool.false_and]
      simp -dsimp only [↓WPd, ↓wpC_block, ↓wpC_cond, WPu, Bool.false_eq_true, Bool.true_eq_false, Bool.not_true, Bool.not_false, if_true, if_false, ite_true, ite_false, Nat.reduceEqDiff, Nat.reduceLT, true_and, List.map_cons, List.map_nil, Nat.zero_add, Nat.reduceBEq, this]
    · simp only [Bool.not_eq_false'] at h
      simp -dsimp only [↓WPd, ↓wpC_block, ↓wpC_cond, WPu, Bool.false_eq_true, Bool.true_eq_false, Bool.not_true, Bool.not_false, if_true, if_false, ite_true, ite_false, Nat.reduceEqDiff, Nat.reduceLT, true_and, List.map_cons, List.map_nil, Nat.zero_add, Nat.reduceBEq, WPm, ll, ia, p0, p1, p2, r0', r1', r2', k2, k3]
      simp only [isT, h, Bool.true_and, int_beq]
      exact ⟨trivial, trivial⟩

theorem ris_ok (l : AVal) (t : List Cel) (s : List UInt8) (n : Int) (hl : SlOf σ 5 l (t.map Cel.val)) : Called CU.cfg d 64 [l, .str s, .int .i64 n] σ fun v σ' => v = .bool (isT t s n) ∧ σ' = σ := by
  refine called_of (fn := CU.a64) rfl (Nat.le_of_ble_eq_true rfl) ?_
  have ll := hl.len
  rw [List.length_map] at ll
  simp only [CU.a64]
  cases t with
  | nil =>
    have e : (((([] : List Cel).length : Nat) : Int) == 0) = true := rfl
    simp -dsimp only [↓WPd, ↓wpC_block, ↓wpC_cond, WPu, Bool.false_eq_true, Bool.true_eq_false, Bool.not_true, Bool.not_false, if_true, if_false, ite_true, ite_false, Nat.reduceEqDiff, Nat.reduceLT, true_and, List.map_cons, List.map_nil, Nat.zero_add, Nat.reduceBEq, WPm, ll, e, Bool.true_or]
    exact ⟨rfl, trivial⟩
  | cons c r =>
    have e : ((((c :: r).length : Nat) : Int) == 0) = false := by simp; omega
    have hi : 0 < ((c :: r).map Cel.val).length := by simp
    have hb := (hl.addr hi .i64).2
    rw [cel_get] at hb
    obtain ⟨q0, p0, r0⟩ := faddr_load hb 0
    obtain ⟨q1, p1, r1⟩ := faddr_load hb 1
    obtain ⟨q2, p2, r2⟩ := faddr_load hb 2
    have r0' : loadV σ 1 false q0 = some (.int .u8 c.k) := r0
    have r1' : loadV σ 1 false q1 = some (.str c.s) := r1
    have r2' : loadV σ 1 false q2 = some (.int .i64 c.n) := r2
    have ia : iaddrV 5 l (.int .i64 0) = some (addrOf 5 l 0) := hl.iaddr hi .i64
    have sn : sopV .neq (.str c.s) (.str s) = some (.bool (!decide (c.s = s))) := by
      by_cases h : c.s = s <;> simp [sopV, h]
    have k3 : ((c.k : Int) == 3) = decide (c.k = 3) := by by_cases h : c.k = 3 <;> simp [h] <;> omega
    have k2 : ((c.k : Int) == 2) = decide (c.k = 2) := by by_cases h : c.k = 2 <;> simp [h] <;> omega
    simp -dsimp only [↓WPd, ↓wpC_block, ↓wpC_cond, WPu, Bool.false_eq_true, Bool.true_eq_false, Bool.not_true, Bool.not_false, if_true, if_false, ite_true, ite_false, Nat.reduceEqDiff, Nat.reduceLT, true_and, List.map_cons, List.map_nil, Nat.zero_add, Nat.reduceBEq, WPm, ll, e, ia, p0, p1, p2, r0', r1', r2', sn, Bool.false_or]
    refine condP_intro (fun h => ?_) (fun h => ?_)
    · have : isT (c :: r) s n = false := by
        simp only [Bool.not_eq_true'] at h
        simp only [isT, h, Bool.false_and]
      simp -dsimp only [↓WPd, ↓wpC_block, ↓wpC_cond, WPu, Bool.false_eq_true, Bool.true_eq_false, Bool.not_true, Bool.not_false, if_true, if_false, ite_true, ite_false, Nat.reduceEqDiff, Nat.reduceLT, true_and, List.map_cons, List.map_nil, Nat.zero_add, Nat.reduceBEq, this]
    · simp only [Bool.not_eq_false'] at h
      simp -dsimp only [↓WPd, ↓wpC_block, ↓wpC_cond, WPu, Bool.false_eq_true, Bool.true_eq_false, Bool.not_true, Bool.not_false, if_true, if_false, ite_true, ite_false, Nat.reduceEqDiff, Nat.reduceLT, true_and, List.map_cons, List.map_nil, Nat.zero_add, Nat.reduceBEq, WPm, ll, ia, p0, p1, p2, r0', r1', r2', k2, k3]
      simp only [isT, h, Bool.true_and, int_beq]
      exact ⟨trivial, trivial⟩

end
end Go.Proofs.YtkjnanfkclijcaaDoor.Am

/-
  TERMS: what is handed in, with marked room behind it. (written by gen9.py out of Pm1)
-/
namespace Go.Proofs.YtkjnanfkclijcaaDoor.Am
open Go
set_option linter.unusedVariables false
set_option linter.unusedSimpArgs false
set_option linter.unusedSectionVars false
set_option maxRecDepth 100000

theorem arr_storeA {σ : Store} {id ep fl i n : Nat} {es : List AVal} {cs0 cs : List AVal} (h : σ[id]? = some (.arr n es ep fl)) (hi : i < es.length) (he : es[i] = .agg cs0) (h0 : cs0.length = n) (hc : cs.length = n) (h1 : cs.all AVal.one = true) :
    storeV σ n (.eptr id ep i 0) (.agg cs) = some (σ.set id (.arr n (es.set i (.agg cs)) ep ep)) := by
  have e : splice cs0 0 cs = cs := by
    simp only [splice, List.take_zero, List.nil_append, Nat.zero_add]
    rw [List.drop_eq_nil_of_le (by omega), List.append_nil]
  simp only [storeV, AVal.cells, hc, h1, h, List.getElem?_eq_getElem hi, he, h0, e, AVal.reform, Nat.zero_add, Nat.le_refl, and_self, if_true]
theorem arr_loadA {σ : Store} {id ep epo fl i n : Nat} {es : List AVal} {cs : List AVal} (h : σ[id]? = some (.arr n es epo fl)) (hf : fl ≤ ep) (hi : i < es.length) (he : es[i] = .agg cs) (hc : cs.length = n) : loadV σ n true (.eptr id ep i 0) = some (.agg cs) := by
  subst hc
  simp [loadV, behind, h, hf, List.getElem?_eq_getElem hi, he]

/-- cells as elements -/
theorem CC_len (l : List Cel) : (CC l).length = l.length := by simp
def mkC (n : Int) : Cel := ⟨0, [], n, (0, 0)⟩
def zeroC : Cel := mkC 0
def cmarks : List Cel := (List.range 9).map fun j : Nat => mkC (-700 - (j : Int))
theorem cmarks_len : cmarks.length = 9 := rfl
theorem cmarks_get (j : Nat) (h : j < cmarks.length) : cmarks[j] = mkC (-700 - (j : Int)) := by simp [cmarks]

/-- what HandCells made of a term -/
structure HandedC (σ : Store) (v : AVal) (x : List Cel) (id : Nat) : Prop where
  val : v = .slice 5 id 0 0 x.length (some (x.length + 9))
  obj : σ[id]? = some (.arr 5 (CC (x ++ cmarks)) 0 0)
theorem HandedC.sl {σ : Store} {v : AVal} {x : List Cel} {id : Nat} (h : HandedC σ v x id) : SlOf σ 5 v (CC x) := by
  obtain ⟨rfl, ho⟩ := h
  refine ⟨?_, by simp [lenSV, CC_len], fun s id' ep off len c hc => ?_⟩
  · simp [elems, ho]
  · injection hc with _ _ _ _ e5 e6; injection e6 with e6; omega
theorem HandedC.keep {σ σ' : Store} {v : AVal} {x : List Cel} {id : Nat} (h : HandedC σ v x id) {M : Nat → Prop} (hk : Keeps M σ σ') (hm : ¬ M id) : HandedC σ' v x id := ⟨h.val, hk.get h.obj hm⟩

section
variable (d : Nat) (σ : Store)

theorem handc_ok (l : AVal) (x : List Cel) (hx : x.length < 2 ^ 30) (hl : SlOf σ 5 l (CC x)) : Called CU.cfg d 59 [l] σ fun v σ' => HandedC σ' v x σ.length ∧ Grows σ σ' := by
  refine called_of (fn := CU.a59) rfl (Nat.le_of_ble_eq_true rfl) ?_
  have ll := hl.len
  rw [CC_len] at ll
  have w : IntKind.i64.wrap ((x.length : Int) + 9) = ((x.length + 9 : Nat) : Int) := by rw [wrap_i64 (by omega) (by omega)]; omega
  have mk : mkslV σ 5 48 [.int .u8 0, .str [], .int .i64 0, .int .i64 0, .int .i64 0] true (.int .i64 ((x.length + 9 : Nat) : Int)) (.int .i64 ((x.length + 9 : Nat) : Int)) =
      some (.slice 5 σ.length 0 0 (x.length + 9) (some (x.length + 9)), σ ++ [.arr 5 (CC (List.replicate (x.length + 9) zeroC)) 0 0]) := by
    have e : (0 : Int) ≤ ((x.length + 9 : Nat) : Int) ∧ ((x.length + 9 : Nat) : Int) ≤ ((x.length + 9 : Nat) : Int) ∧ ((x.length + 9 : Nat) : Int) * ((48 : Nat) : Int) ≤ apLim := by
      refine ⟨by omega, Int.le_refl _, ?_⟩
      have : (apLim : Int) = 70368744177664 := rfl
      omega
    simp only [mkslV]
    rw [if_pos e]
    simp [zel, zeroC, mkC, Cel.val, Cel.cs]
    omega
  simp only [CU.a59]
  simp -dsimp only [↓WPd, ↓wpC_block, ↓wpC_cond, WPu, Bool.false_eq_true, Bool.true_eq_false, Bool.not_true, Bool.not_false, if_true, if_false, ite_true, ite_false, Nat.reduceEqDiff, Nat.reduceLT, true_and, List.map_cons, List.map_nil, Nat.zero_add, Nat.reduceBEq, ll, w, mk]
  have ho : (σ ++ [AObj.arr 5 (CC (List.replicate (x.length + 9) zeroC)) 0 0])[σ.length]? = some (.arr 5 (CC (List.replicate (x.length + 9) zeroC)) 0 0) := by simp
  have hcur : ∀ (σ' : Store) (bs : List Cel), Grows σ σ' → σ'[σ.length]? = some (.arr 5 (CC bs) 0 0) → SlOf σ' 5 l (CC x) := fun σ' bs g _ => hl.grow g
  refine loop_rule2 (fun m vs σ' => ∃ (k : Nat) (bs : List Cel), k ≤ x.length ∧ m = x.length - k ∧ vs = [l, .slice 5 σ.length 0 0 (x.length + 9) (some (x.length + 9)), .int .i64 k] ∧ Grows σ σ' ∧ σ'[σ.length]? = some (.arr 5 (CC bs) 0 0) ∧ bs.length = x.length + 9 ∧ bs.take k = (x ++ cmarks).take k)
    [0, 3] (fun e vs σ' => e = .exit 0 ∧ ∃ bs : List Cel, vs = [l, .slice 5 σ.length 0 0 (x.length + 9) (some (x.length + 9))] ∧ Grows σ σ' ∧ σ'[σ.length]? = some (.arr 5 (CC bs) 0 0) ∧ bs.length = x.length + 9 ∧ bs.take x.length = (x ++ cmarks).take x.length)
    x.length ⟨0, List.replicate (x.length + 9) zeroC, Nat.zero_le _, rfl, ?_, Grows.app _ _, ho, by simp, rfl⟩ ?_ ?_
  · simp -dsimp only [↓WPd, ↓wpC_block, ↓wpC_cond, WPu, Bool.false_eq_true, Bool.true_eq_false, Bool.not_true, Bool.not_false, if_true, if_false, ite_true, ite_false, Nat.reduceEqDiff, Nat.reduceLT, true_and, List.map_cons, List.map_nil, Nat.zero_add, Nat.reduceBEq]; rfl
  · rintro m vs σ' ⟨k, bs, hk, rfl, rfl, g, hob, hbl, ht⟩
    simp -dsimp only [↓WPd, ↓wpC_block, ↓wpC_cond, WPu, Bool.false_eq_true, Bool.true_eq_false, Bool.not_true, Bool.not_false, if_true, if_false, ite_true, ite_false, Nat.reduceEqDiff, Nat.reduceLT, true_and, List.map_cons, List.map_nil, Nat.zero_add, Nat.reduceBEq, ll]
    refine condP_dec (fun h => ?_) (fun h => ?_)
    · have hk' : k < x.length := by omega
      have hi : k < (CC x).length := by rw [CC_len]; exact hk'
      have hi2 : k < (CC bs).length := by rw [CC_len]; omega
      have hlx := hl.grow g
      have st : storeV σ' 5 (.eptr σ.length 0 k 0) (x[k]).val = some (σ'.set σ.length (.arr 5 ((CC bs).set k (x[k]).val) 0 0)) := arr_storeA hob hi2 (cs0 := (bs[k]'(by omega)).cs) (by rw [cel_get]; rfl) rfl rfl rfl
      have lx : loadV σ' 5 true (addrOf 5 l k) = some (x[k]).val := hlx.loadA hi (cs := (x[k]).cs) (by rw [cel_get]; rfl)
      simp -dsimp only [↓WPd, ↓wpC_block, ↓wpC_cond, WPu, Bool.false_eq_true, Bool.true_eq_false, Bool.not_true, Bool.not_false, if_true, if_false, ite_true, ite_false, Nat.reduceEqDiff, Nat.reduceLT, true_and, List.map_cons, List.map_nil, Nat.zero_add, Nat.reduceBEq, hlx.iaddr hi, lx, arr_iaddr (show k < x.length + 9 by omega), st]
      have eb : (CC bs).set k (x[k]).val = CC (bs.set k x[k]) := by simp [List.map_set]
      refine ⟨x.length - (k + 1), by omega, k + 1, bs.set k x[k], by omega, rfl, ?_, ?_, ?_, by simpa using hbl, ?_⟩
      · rw [wrap_i64 (by omega) (by omega), Int.natCast_add, Int.natCast_one]
      · exact Keeps.trans g (Keeps.set _ _ _) fun i hi e => by omega
      · rw [eb]; exact List.getElem?_set_self (List.getElem?_eq_some_iff.1 hob).1
      · have := take_set_succ (l := bs) (y := x ++ cmarks) (k := k) (by omega) (by simp; omega) ht
        rwa [List.getElem_append_left hk'] at this
    · simp -dsimp only [↓WPd, ↓wpC_block, ↓wpC_cond, WPu, Bool.false_eq_true, Bool.true_eq_false, Bool.not_true, Bool.not_false, if_true, if_false, ite_true, ite_false, Nat.reduceEqDiff, Nat.reduceLT, true_and, List.map_cons, List.map_nil, Nat.zero_add, Nat.reduceBEq]
      have : k = x.length := by omega
      subst this
      exact ⟨bs, g, hob, hbl, ht⟩
  · rintro e σ' env ⟨rfl, bs, hv, g, hob, hbl, ht⟩
    simp only [List.map_cons, List.map_nil, List.cons.injEq, and_true] at hv
    obtain ⟨v0, v3⟩ := hv
    simp -dsimp only [↓WPd, ↓wpC_block, ↓wpC_cond, WPu, Bool.false_eq_true, Bool.true_eq_false, Bool.not_true, Bool.not_false, if_true, if_false, ite_true, ite_false, Nat.reduceEqDiff, Nat.reduceLT, true_and, List.map_cons, List.map_nil, Nat.zero_add, Nat.reduceBEq, v0, v3, ll]
    refine loop_rule2 (fun m vs σ' => ∃ (k : Nat) (bs : List Cel), x.length ≤ k ∧ k ≤ x.length + 9 ∧ m = x.length + 9 - k ∧ vs = [l, .slice 5 σ.length 0 0 (x.length + 9) (some (x.length + 9)), .int .i64 k] ∧ Grows σ σ' ∧ σ'[σ.length]? = some (.arr 5 (CC bs) 0 0) ∧ bs.length = x.length + 9 ∧ bs.take k = (x ++ cmarks).take k)
      [0, 3] (fun e vs σ' => e = .exit 2 ∧ vs = [l, .slice 5 σ.length 0 0 (x.length + 9) (some (x.length + 9))] ∧ Grows σ σ' ∧ σ'[σ.length]? = some (.arr 5 (CC (x ++ cmarks)) 0 0))
      9 ⟨x.length, bs, Nat.le_refl _, by omega, by omega, ?_, g, hob, hbl, ht⟩ ?_ ?_
    · simp -dsimp only [↓WPd, ↓wpC_block, ↓wpC_cond, WPu, Bool.false_eq_true, Bool.true_eq_false, Bool.not_true, Bool.not_false, if_true, if_false, ite_true, ite_false, Nat.reduceEqDiff, Nat.reduceLT, true_and, List.map_cons, List.map_nil, Nat.zero_add, Nat.reduceBEq, v0, v3]
    · rintro m vs σ' ⟨k, bs, hk0, hk, rfl, rfl, g, hob, hbl, ht⟩
      have el : lenSV (.slice 5 σ.length 0 0 (x.length + 9) (some (x.length + 9))) = some (x.length + 9) := rfl
      simp -dsimp only [↓WPd, ↓wpC_block, ↓wpC_cond, WPu, Bool.false_eq_true, Bool.true_eq_false, Bool.not_true, Bool.not_false, if_true, if_false, ite_true, ite_false, Nat.reduceEqDiff, Nat.reduceLT, true_and, List.map_cons, List.map_nil, Nat.zero_add, Nat.reduceBEq, el]
      refine condP_dec (fun h => ?_) (fun h => ?_)
      · have hk' : k < x.length + 9 := by omega
        have hi2 : k < (CC bs).length := by rw [CC_len]; omega
        have w1 : IntKind.i64.wrap (-700 - (k : Int)) = -700 - (k : Int) := by rw [wrap_i64 (by omega) (by omega)]
        have w2 : IntKind.i64.wrap (-700 - (k : Int) + (x.length : Int)) = -700 - ((k - x.length : Nat) : Int) := by rw [wrap_i64 (by omega) (by omega)]; omega
        have bf : fillA [AVal.int IntKind.u8 0, AVal.str [], AVal.int IntKind.i64 0, AVal.int IntKind.i64 0, AVal.int IntKind.i64 0] [(2, 1, AVal.int IntKind.i64 (-700 - ((k - x.length : Nat) : Int)))] = some (mkC (-700 - ((k - x.length : Nat) : Int))).cs := rfl
        have st : storeV σ' 5 (.eptr σ.length 0 k 0) (.agg (mkC (-700 - ((k - x.length : Nat) : Int))).cs) = some (σ'.set σ.length (.arr 5 ((CC bs).set k (mkC (-700 - ((k - x.length : Nat) : Int))).val) 0 0)) := arr_storeA hob hi2 (cs0 := (bs[k]'(by omega)).cs) (by rw [cel_get]; rfl) rfl rfl rfl
        simp -dsimp only [↓WPd, ↓wpC_block, ↓wpC_cond, WPu, Bool.false_eq_true, Bool.true_eq_false, Bool.not_true, Bool.not_false, if_true, if_false, ite_true, ite_false, Nat.reduceEqDiff, Nat.reduceLT, true_and, List.map_cons, List.map_nil, Nat.zero_add, Nat.reduceBEq, ll, w1, w2, bf, arr_iaddr (show k < x.length + 9 by omega), st]
        have eb : (CC bs).set k (mkC (-700 - ((k - x.length : Nat) : Int))).val = CC (bs.set k (mkC (-700 - ((k - x.length : Nat) : Int)))) := by simp [List.map_set]
        refine ⟨x.length + 9 - (k + 1), by omega, k + 1, bs.set k (mkC (-700 - ((k - x.length : Nat) : Int))), by omega, by omega, rfl, ?_, ?_, ?_, by simpa using hbl, ?_⟩
        · rw [wrap_i64 (by omega) (by omega), Int.natCast_add, Int.natCast_one]
        · exact Keeps.trans g (Keeps.set _ _ _) fun i hi e => by omega
        · rw [eb]; exact List.getElem?_set_self (List.getElem?_eq_some_iff.1 hob).1
        · have := take_set_succ (l := bs) (y := x ++ cmarks) (k := k) (by omega) (by simp [cmarks_len]; omega) ht
          rwa [List.getElem_append_right hk0, cmarks_get] at this
      · simp -dsimp only [↓WPd, ↓wpC_block, ↓wpC_cond, WPu, Bool.false_eq_true, Bool.true_eq_false, Bool.not_true, Bool.not_false, if_true, if_false, ite_true, ite_false, Nat.reduceEqDiff, Nat.reduceLT, true_and, List.map_cons, List.map_nil, Nat.zero_add, Nat.reduceBEq]
        have : k = x.length + 9 := by omega
        subst this
        have e1 : bs = x ++ cmarks := by
          rw [List.take_of_length_le (by omega), List.take_of_length_le (by simp [cmarks_len])] at ht
          exact ht
        rw [← e1]
        exact ⟨g, hob⟩
    · rintro e σ' env ⟨rfl, hv, g, hob⟩
      simp only [List.map_cons, List.map_nil, List.cons.injEq, and_true] at hv
      obtain ⟨v0, v3⟩ := hv
      have hsl : sliceV 5 (.slice 5 σ.length 0 0 (x.length + 9) (some (x.length + 9))) none (some (.int .i64 (x.length : Nat))) none = some (.slice 5 σ.length 0 0 x.length (some (x.length + 9))) := by
        simp only [sliceV, if_true, obnd_none, Option.getD_some]
        rw [obnd_some _ _ _ (show x.length ≤ x.length + 9 by omega)]
        simp
      simp -dsimp only [↓WPd, ↓wpC_block, ↓wpC_cond, WPu, Bool.false_eq_true, Bool.true_eq_false, Bool.not_true, Bool.not_false, if_true, if_false, ite_true, ite_false, Nat.reduceEqDiff, Nat.reduceLT, true_and, List.map_cons, List.map_nil, Nat.zero_add, Nat.reduceBEq, v0, v3, ll, oev, hsl]
      exact ⟨⟨rfl, hob⟩, g⟩

theorem keptc_ok (v l : AVal) (x : List Cel) (id : Nat) (hx : x.length < 2 ^ 30) (hv : HandedC σ v x id) (hl : SlOf σ 5 l (CC x)) : Called CU.cfg d 75 [v, l] σ fun r σ' => r = .bool true ∧ σ' = σ := by
  refine called_of (fn := CU.a75) rfl (Nat.le_of_ble_eq_true rfl) ?_
  have ll := hl.len
  rw [CC_len] at ll
  simp only [CU.a75]
  simp -dsimp only [↓WPd, ↓wpC_block, ↓wpC_cond, WPu, Bool.false_eq_true, Bool.true_eq_false, Bool.not_true, Bool.not_false, if_true, if_false, ite_true, ite_false, Nat.reduceEqDiff, Nat.reduceLT, true_and, List.map_cons, List.map_nil, Nat.zero_add, Nat.reduceBEq]
  refine calledW_of (samecells_ok d σ v l x x (by omega) hv.sl hl) ?_
  rintro r σ1 ⟨rfl, rfl⟩
  have w : IntKind.i64.wrap ((x.length : Int) + 9) = ((x.length + 9 : Nat) : Int) := by rw [wrap_i64 (by omega) (by omega)]; omega
  have hsl : sliceV 5 v none (some (.int .i64 ((x.length + 9 : Nat) : Int))) none = some (.slice 5 id 0 0 (x.length + 9) (some (x.length + 9))) := by
    rw [hv.val]
    simp only [sliceV, if_true, obnd_none, Option.getD_some]
    rw [obnd_some _ _ _ (Nat.le_refl _)]
    simp
  simp -dsimp only [↓WPd, ↓wpC_block, ↓wpC_cond, WPu, Bool.false_eq_true, Bool.true_eq_false, Bool.not_true, Bool.not_false, if_true, if_false, ite_true, ite_false, Nat.reduceEqDiff, Nat.reduceLT, true_and, List.map_cons, List.map_nil, Nat.zero_add, Nat.reduceBEq, decide_true, ll, w, oev, hsl]
  refine loop_rule (fun m vs σ' => ∃ k : Nat, x.length ≤ k ∧ k ≤ x.length + 9 ∧ m = x.length + 9 - k ∧ σ' = σ1 ∧ vs = [l, .slice 5 id 0 0 (x.length + 9) (some (x.length + 9)), .int .i64 k]) 9 ⟨x.length, Nat.le_refl _, by omega, by omega, rfl, ?_⟩ ?_
  · simp -dsimp only [↓WPd, ↓wpC_block, ↓wpC_cond, WPu, Bool.false_eq_true, Bool.true_eq_false, Bool.not_true, Bool.not_false, if_true, if_false, ite_true, ite_false, Nat.reduceEqDiff, Nat.reduceLT, true_and, List.map_cons, List.map_nil, Nat.zero_add, Nat.reduceBEq]
  · rintro m vs σ' ⟨k, hk0, hk, rfl, rfl, rfl⟩
    have el : lenSV (.slice 5 id 0 0 (x.length + 9) (some (x.length + 9))) = some (x.length + 9) := rfl
    simp -dsimp only [↓WPd, ↓wpC_block, ↓wpC_cond, WPu, Bool.false_eq_true, Bool.true_eq_false, Bool.not_true, Bool.not_false, if_true, if_false, ite_true, ite_false, Nat.reduceEqDiff, Nat.reduceLT, true_and, List.map_cons, List.map_nil, Nat.zero_add, Nat.reduceBEq, el]
    refine condP_dec (fun h => ?_) (fun h => ?_)
    · have hk' : k < x.length + 9 := by omega
      have hi2 : k < (CC (x ++ cmarks)).length := by rw [CC_len]; simp [cmarks_len]; omega
      have w1 : IntKind.i64.wrap (-700 - (k : Int)) = -700 - (k : Int) := by rw [wrap_i64 (by omega) (by omega)]
      have w2 : IntKind.i64.wrap (-700 - (k : Int) + (x.length : Int)) = -700 - ((k - x.length : Nat) : Int) := by rw [wrap_i64 (by omega) (by omega)]; omega
      have bf : fillA [AVal.int IntKind.u8 0, AVal.str [], AVal.int IntKind.i64 0, AVal.int IntKind.i64 0, AVal.int IntKind.i64 0] [(2, 1, AVal.int IntKind.i64 (-700 - ((k - x.length : Nat) : Int)))] = some (mkC (-700 - ((k - x.length : Nat) : Int))).cs := rfl
      have ld : loadV σ' 5 true (.eptr id 0 k 0) = some (mkC (-700 - ((k - x.length : Nat) : Int))).val := arr_loadA hv.obj (Nat.le_refl 0) hi2 (by rw [cel_get, List.getElem_append_right hk0, cmarks_get]; rfl) rfl
      have en : eqsV [.i, .s, .i, .i, .i] (mkC (-700 - ((k - x.length : Nat) : Int))).val (.agg (mkC (-700 - ((k - x.length : Nat) : Int))).cs) = some true := by
        have := Cel.eqs (mkC (-700 - ((k - x.length : Nat) : Int))) (mkC (-700 - ((k - x.length : Nat) : Int)))
        rw [decide_eq_true rfl] at this; exact this
      simp -dsimp only [↓WPd, ↓wpC_block, ↓wpC_cond, WPu, Bool.false_eq_true, Bool.true_eq_false, Bool.not_true, Bool.not_false, if_true, if_false, ite_true, ite_false, Nat.reduceEqDiff, Nat.reduceLT, true_and, List.map_cons, List.map_nil, Nat.zero_add, Nat.reduceBEq, ll, w1, w2, bf, arr_iaddr (show k < x.length + 9 by omega), ld, en]
      refine ⟨x.length + 9 - (k + 1), by omega, k + 1, by omega, by omega, rfl, ?_⟩
      rw [wrap_i64 (by omega) (by omega), Int.natCast_add, Int.natCast_one]
    · simp -dsimp only [↓WPd, ↓wpC_block, ↓wpC_cond, WPu, Bool.false_eq_true, Bool.true_eq_false, Bool.not_true, Bool.not_false, if_true, if_false, ite_true, ite_false, Nat.reduceEqDiff, Nat.reduceLT, true_and, List.map_cons, List.map_nil, Nat.zero_add, Nat.reduceBEq]
end
end Go.Proofs.YtkjnanfkclijcaaDoor.Am

/-
  TERMS: the arguments of a structure.
-/
namespace Go.Proofs.YtkjnanfkclijcaaDoor.Am
open Go
set_option linter.unusedVariables false
set_option linter.unusedSimpArgs false
set_option linter.unusedSectionVars false
set_option maxRecDepth 100000

section
variable (d : Nat) (σ : Store)

theorem args_ok (l : AVal) (t : List Cel) (hx : t.length < 2 ^ 30) (hi : ∀ c ∈ t, c.k < 256 ∧ c.s.length < 2 ^ 40) (hl : SlOf σ 5 l (t.map Cel.val)) :
    Called CU.cfg d 62 [l] σ fun v σ' => Grows σ σ' ∧ ∃ es, ORows σ' σ.length 5 v es ((args t).map CC) := by
  refine called_of (fn := CU.a62) rfl (Nat.le_of_ble_eq_true rfl) ?_
  have ll := hl.len
  rw [List.length_map] at ll
  simp only [CU.a62]
  simp -dsimp only [↓WPd, ↓wpC_block, ↓wpC_cond, WPu, Bool.false_eq_true, Bool.true_eq_false, Bool.not_true, Bool.not_false, if_true, if_false, ite_true, ite_false, Nat.reduceEqDiff, Nat.reduceLT, true_and, List.map_cons, List.map_nil, Nat.zero_add, Nat.reduceBEq, WPm]
  refine calledW_of (right_ok d σ l t hx hi hl) ?_
  rintro v σ1 ⟨rfl, g1⟩
  have hl1 := hl.grow g1
  have fin0 : args t = [] → (∃ es, ORows σ1 σ.length 5 .nilslice es ((args t).map CC)) := fun h => ⟨[], by rw [h]; exact ORows.nil _ _ _⟩
  cases hr : right t with
  | false =>
    simp -dsimp only [↓WPd, ↓wpC_block, ↓wpC_cond, WPu, Bool.false_eq_true, Bool.true_eq_false, Bool.not_true, Bool.not_false, if_true, if_false, ite_true, ite_false, Nat.reduceEqDiff, Nat.reduceLT, true_and, List.map_cons, List.map_nil, Nat.zero_add, Nat.reduceBEq, WPm, Bool.true_or]
    exact ⟨g1, fin0 (by simp [args, hr])⟩
  | true =>
    cases t with
    | nil => simp [right] at hr
    | cons c r =>
      have hi0 : 0 < ((c :: r).map Cel.val).length := by simp
      have hb := (hl1.addr hi0 .i64).2
      rw [cel_get] at hb
      obtain ⟨q0, p0, r0⟩ := faddr_load hb 0
      have r0' : loadV σ1 1 false q0 = some (.int .u8 c.k) := r0
      have ia : iaddrV 5 l (.int .i64 0) = some (addrOf 5 l 0) := hl1.iaddr hi0 .i64
      have k3 : ((c.k : Int) != 3) = !decide (c.k = 3) := by by_cases h : c.k = 3 <;> simp [h, bne] <;> omega
      simp -dsimp only [↓WPd, ↓wpC_block, ↓wpC_cond, WPu, Bool.false_eq_true, Bool.true_eq_false, Bool.not_true, Bool.not_false, if_true, if_false, ite_true, ite_false, Nat.reduceEqDiff, Nat.reduceLT, true_and, List.map_cons, List.map_nil, Nat.zero_add, Nat.reduceBEq, WPm, ia, p0, r0', k3, Bool.false_or]
      refine condP_intro (fun h => ?_) (fun h => ?_)
      · simp only [Bool.not_eq_true', decide_eq_false_iff_not] at h
        simp -dsimp only [↓WPd, ↓wpC_block, ↓wpC_cond, WPu, Bool.false_eq_true, Bool.true_eq_false, Bool.not_true, Bool.not_false, if_true, if_false, ite_true, ite_false, Nat.reduceEqDiff, Nat.reduceLT, true_and, List.map_cons, List.map_nil, Nat.zero_add, Nat.reduceBEq]
        exact ⟨g1, fin0 (by simp [args, h])⟩
      · simp only [Bool.not_eq_false', decide_eq_true_eq] at h
        obtain ⟨z1, z2, z3⟩ := right_cons hr
        have ha : args (c :: r) = argsFrom (c :: r).length (c :: r).length r 1 := by simp [args, hr, h]
        simp -dsimp only [↓WPd, ↓wpC_block, ↓wpC_cond, WPu, Bool.false_eq_true, Bool.true_eq_false, Bool.not_true, Bool.not_false, if_true, if_false, ite_true, ite_false, Nat.reduceEqDiff, Nat.reduceLT, true_and, List.map_cons, List.map_nil, Nat.zero_add, Nat.reduceBEq]
        generalize hT : c :: r = T at *
        have hdrop : r = T.drop 1 := by rw [← hT]; rfl
        have hlen : T.length = 1 + r.length := by rw [← hT]; simp; omega
        refine loop_rule2 (fun m vs σ' => ∃ (k f q : Nat) (lv : AVal) (es : List AVal) (ps : List (List Cel)), 1 ≤ k ∧ k ≤ T.length ∧ m = T.length - k ∧ vs = [l, lv, .int .i64 k] ∧ Grows σ σ' ∧ ORows σ' σ.length 5 lv es (ps.map CC) ∧ ps ++ argsFrom T.length f (T.drop k) k = args T ∧ T.length - k ≤ f ∧ endAt T.length (T.drop k) q k = T.length ∧ ps.length ≤ k)
          [3] (fun e vs σ' => e = .exit 0 ∧ ∃ (lv : AVal) (es : List AVal), vs = [lv] ∧ Grows σ σ' ∧ ORows σ' σ.length 5 lv es ((args T).map CC)) (T.length - 1) ⟨1, T.length, c.parts, .nilslice, [], [], Nat.le_refl _, by omega, rfl, ?_, g1, ORows.nil _ _ _, by rw [ha, hdrop]; rfl, by omega, by rw [← hdrop, z1, hlen], by simp⟩ ?_ ?_
        · simp -dsimp only [↓WPd, ↓wpC_block, ↓wpC_cond, WPu, Bool.false_eq_true, Bool.true_eq_false, Bool.not_true, Bool.not_false, if_true, if_false, ite_true, ite_false, Nat.reduceEqDiff, Nat.reduceLT, true_and, List.map_cons, List.map_nil, Nat.zero_add, Nat.reduceBEq]; rfl
        · rintro m vs σ' ⟨k, f, q, lv, es, ps, hk1, hk, rfl, rfl, g, ho, hp, hf, he, hpl⟩
          have hl' := hl.grow g
          have ll' := hl'.len
          rw [List.length_map] at ll'
          simp -dsimp only [↓WPd, ↓wpC_block, ↓wpC_cond, WPu, Bool.false_eq_true, Bool.true_eq_false, Bool.not_true, Bool.not_false, if_true, if_false, ite_true, ite_false, Nat.reduceEqDiff, Nat.reduceLT, true_and, List.map_cons, List.map_nil, Nat.zero_add, Nat.reduceBEq, ll']
          refine condP_dec (fun h => ?_) (fun h => ?_)
          · have hk' : k < T.length := by omega
            obtain ⟨q, rfl⟩ : ∃ q', q = 1 + q' := ⟨q - 1, by
              cases q with
              | zero => rw [endAt_zero] at he; omega
              | succ q => omega⟩
            obtain ⟨y1, y2⟩ := endAt_add he (by omega) (by omega)
            obtain ⟨x1, x2, x3⟩ := endAt_le (rfl : endAt T.length (T.drop k) 1 k = _) y1
            have x4 := x3 (by omega)
            have hend : endT T k = endAt T.length (T.drop k) 1 k := by simp [endT, hk']
            rw [List.length_drop] at x2
            generalize hE : endAt T.length (T.drop k) 1 k = E at *
            rw [List.drop_drop, show k + (E - k) = E by omega] at y2
            simp -dsimp only [↓WPd, ↓wpC_block, ↓wpC_cond, WPu, Bool.false_eq_true, Bool.true_eq_false, Bool.not_true, Bool.not_false, if_true, if_false, ite_true, ite_false, Nat.reduceEqDiff, Nat.reduceLT, true_and, List.map_cons, List.map_nil, Nat.zero_add, Nat.reduceBEq]
            refine calledW_of (end_ok d σ' l T k hx hl') ?_
            rintro v σ2 ⟨rfl, g2⟩
            rw [hend]
            have hl2 := hl'.grow g2
            obtain ⟨v', s1, s2, -⟩ := hl2.sub (lo := k) (hi := E) (by omega) (by rw [List.length_map]; omega) .i64 .i64
            have hseg : ((T.map Cel.val).take E).drop k = ((T.drop k).take (E - k)).map Cel.val := by
              rw [List.drop_take, List.map_take, List.map_drop]
            rw [hseg] at s2
            simp -dsimp only [↓WPd, ↓wpC_block, ↓wpC_cond, WPu, Bool.false_eq_true, Bool.true_eq_false, Bool.not_true, Bool.not_false, if_true, if_false, ite_true, ite_false, Nat.reduceEqDiff, Nat.reduceLT, true_and, List.map_cons, List.map_nil, Nat.zero_add, Nat.reduceBEq, oev, s1]
            refine calledW_of (cclone_ok d σ2 v' ((T.drop k).take (E - k)) (by simp; omega) s2) ?_
            rintro e σ3 ⟨g3, oe, fe, le⟩
            have e1 : fillL 1 false (List.replicate 1 (zel [AVal.nilslice] false)) [(0, e)] = some [e] := by
              rcases oe.own with ⟨rfl, _⟩ | ⟨t, rfl⟩ | ⟨id, ep, off, cap, xs, epo, fl, rfl, _⟩ <;> simp
            have hel := ho.len
            rw [List.length_map] at hel
            obtain ⟨lv', σ5, a1, a2, a3⟩ := (ho.grow g2).push (Nat.le_trans g.1 g2.1) g3 oe fe le 24 (by omega)
            have lel : ∀ tg, elems 1 σ3 (.fslice tg true 1 [e]) = some [e] := fun tg => (SlOf.fs σ3 1 tg true [e]).els
            simp -dsimp only [↓WPd, ↓wpC_block, ↓wpC_cond, WPu, Bool.false_eq_true, Bool.true_eq_false, Bool.not_true, Bool.not_false, if_true, if_false, ite_true, ite_false, Nat.reduceEqDiff, Nat.reduceLT, true_and, List.map_cons, List.map_nil, Nat.zero_add, Nat.reduceBEq, e1, lel, a1]
            refine ⟨T.length - E, by omega, E, f - 1, q, lv', es ++ [e], ps ++ [(T.drop k).take (E - k)], by omega, by omega, rfl, rfl, ?_, by simpa using a2, ?_, by omega, y2, by simp; omega⟩
            · exact Keeps.trans ((g.trans g2).trans g3) a3 fun i hi h => by omega
            · obtain ⟨f, rfl⟩ : ∃ f', f = f' + 1 := ⟨f - 1, by omega⟩
              have hne : T.drop k ≠ [] := by
                intro e; have := congrArg List.length e; simp at this; omega
              rw [← hp]
              simp only [argsFrom, if_neg hne, hE, List.append_assoc, List.singleton_append, Nat.add_sub_cancel, List.drop_drop]
              rw [show k + (E - k) = E by omega]
          · simp -dsimp only [↓WPd, ↓wpC_block, ↓wpC_cond, WPu, Bool.false_eq_true, Bool.true_eq_false, Bool.not_true, Bool.not_false, if_true, if_false, ite_true, ite_false, Nat.reduceEqDiff, Nat.reduceLT, true_and, List.map_cons, List.map_nil, Nat.zero_add, Nat.reduceBEq]
            have hkT : k = T.length := by omega
            have : argsFrom T.length f (T.drop k) k = [] := by
              rw [hkT, List.drop_length]
              cases f <;> simp [argsFrom]
            rw [this, List.append_nil] at hp
            rw [← hp]
            exact ⟨lv, es, rfl, g, ho⟩
        · rintro e σ' env ⟨rfl, lv, es, hv, g, ho⟩
          simp only [List.map_cons, List.map_nil, List.cons.injEq, and_true] at hv
          simp -dsimp only [↓WPd, ↓wpC_block, ↓wpC_cond, WPu, Bool.false_eq_true, Bool.true_eq_false, Bool.not_true, Bool.not_false, if_true, if_false, ite_true, ite_false, Nat.reduceEqDiff, Nat.reduceLT, true_and, List.map_cons, List.map_nil, Nat.zero_add, Nat.reduceBEq, hv]
          exact ⟨g, es, ho⟩

/-- .. by the document -/
theorem rargs_ok (l : AVal) (t : List Cel) (hx : t.length < 2 ^ 30) (hl : SlOf σ 5 l (t.map Cel.val)) :
    Called CU.cfg d 65 [l] σ fun v σ' => Grows σ σ' ∧ ∃ es, ORows σ' σ.length 5 v es ((args t).map CC) := by
  refine called_of (fn := CU.a65) rfl (Nat.le_of_ble_eq_true rfl) ?_
  have ll := hl.len
  rw [List.length_map] at ll
  simp only [CU.a65]
  simp -dsimp only [↓WPd, ↓wpC_block, ↓wpC_cond, WPu, Bool.false_eq_true, Bool.true_eq_false, Bool.not_true, Bool.not_false, if_true, if_false, ite_true, ite_false, Nat.reduceEqDiff, Nat.reduceLT, true_and, List.map_cons, List.map_nil, Nat.zero_add, Nat.reduceBEq, WPm]
  refine calledW_of (rright_ok d σ l t hx hl) ?_
  rintro v σ1 ⟨rfl, g1⟩
  have hl1 := hl.grow g1
  have fin0 : args t = [] → (∃ es, ORows σ1 σ.length 5 .nilslice es ((args t).map CC)) := fun h => ⟨[], by rw [h]; exact ORows.nil _ _ _⟩
  cases hr : right t with
  | false =>
    simp -dsimp only [↓WPd, ↓wpC_block, ↓wpC_cond, WPu, Bool.false_eq_true, Bool.true_eq_false, Bool.not_true, Bool.not_false, if_true, if_false, ite_true, ite_false, Nat.reduceEqDiff, Nat.reduceLT, true_and, List.map_cons, List.map_nil, Nat.zero_add, Nat.reduceBEq, WPm, Bool.true_or]
    exact ⟨g1, fin0 (by simp [args, hr])⟩
  | true =>
    cases t with
    | nil => simp [right] at hr
    | cons c r =>
      have hi0 : 0 < ((c :: r).map Cel.val).length := by simp
      have hb := (hl1.addr hi0 .i64).2
      rw [cel_get] at hb
      obtain ⟨q0, p0, r0⟩ := faddr_load hb 0
      have r0' : loadV σ1 1 false q0 = some (.int .u8 c.k) := r0
      have ia : iaddrV 5 l (.int .i64 0) = some (addrOf 5 l 0) := hl1.iaddr hi0 .i64
      have k3 : ((c.k : Int) != 3) = !decide (c.k = 3) := by by_cases h : c.k = 3 <;> simp [h, bne] <;> omega
      simp -dsimp only [↓WPd, ↓wpC_block, ↓wpC_cond, WPu, Bool.false_eq_true, Bool.true_eq_false, Bool.not_true, Bool.not_false, if_true, if_false, ite_true, ite_false, Nat.reduceEqDiff, Nat.reduceLT, true_and, List.map_cons, List.map_nil, Nat.zero_add, Nat.reduceBEq, WPm, ia, p0, r0', k3, Bool.false_or]
      refine condP_intro (fun h => ?_) (fun h => ?_)
      · simp only [Bool.not_eq_true', decide_eq_false_iff_not] at h
        simp -dsimp only [↓WPd, ↓wpC_block, ↓wpC_cond, WPu, Bool.false_eq_true, Bool.true_eq_false, Bool.not_true, Bool.not_false, if_true, if_false, ite_true, ite_false, Nat.reduceEqDiff, Nat.reduceLT, true_and, List.map_cons, List.map_nil, Nat.zero_add, Nat.reduceBEq]
        exact ⟨g1, fin0 (by simp [args, h])⟩
      · simp only [Bool.not_eq_false', decide_eq_true_eq] at h
        obtain ⟨z1, z2, z3⟩ := right_cons hr
        have ha : args (c :: r) = argsFrom (c :: r).length (c :: r).length r 1 := by simp [args, hr, h]
        simp -dsimp only [↓WPd, ↓wpC_block, ↓wpC_cond, WPu, Bool.false_eq_true, Bool.true_eq_false, Bool.not_true, Bool.not_false, if_true, if_false, ite_true, ite_false, Nat.reduceEqDiff, Nat.reduceLT, true_and, List.map_cons, List.map_nil, Nat.zero_add, Nat.reduceBEq]
        generalize hT : c :: r = T at *
        have hdrop : r = T.drop 1 := by rw [← hT]; rfl
        have hlen : T.length = 1 + r.length := by rw [← hT]; simp; omega
        refine loop_rule2 (fun m vs σ' => ∃ (k f q : Nat) (lv : AVal) (es : List AVal) (ps : List (List Cel)), 1 ≤ k ∧ k ≤ T.length ∧ m = T.length - k ∧ vs = [l, lv, .int .i64 k] ∧ Grows σ σ' ∧ ORows σ' σ.length 5 lv es (ps.map CC) ∧ ps ++ argsFrom T.length f (T.drop k) k = args T ∧ T.length - k ≤ f ∧ endAt T.length (T.drop k) q k = T.length ∧ ps.length ≤ k)
          [3] (fun e vs σ' => e = .exit 0 ∧ ∃ (lv : AVal) (es : List AVal), vs = [lv] ∧ Grows σ σ' ∧ ORows σ' σ.length 5 lv es ((args T).map CC)) (T.length - 1) ⟨1, T.length, c.parts, .nilslice, [], [], Nat.le_refl _, by omega, rfl, ?_, g1, ORows.nil _ _ _, by rw [ha, hdrop]; rfl, by omega, by rw [← hdrop, z1, hlen], by simp⟩ ?_ ?_
        · simp -dsimp only [↓WPd, ↓wpC_block, ↓wpC_cond, WPu, Bool.false_eq_true, Bool.true_eq_false, Bool.not_true, Bool.not_false, if_true, if_false, ite_true, ite_false, Nat.reduceEqDiff, Nat.reduceLT, true_and, List.map_cons, List.map_nil, Nat.zero_add, Nat.reduceBEq]; rfl
        · rintro m vs σ' ⟨k, f, q, lv, es, ps, hk1, hk, rfl, rfl, g, ho, hp, hf, he, hpl⟩
          have hl' := hl.grow g
          have ll' := hl'.len
          rw [List.length_map] at ll'
          simp -dsimp only [↓WPd, ↓wpC_block, ↓wpC_cond, WPu, Bool.false_eq_true, Bool.true_eq_false, Bool.not_true, Bool.not_false, if_true, if_false, ite_true, ite_false, Nat.reduceEqDiff, Nat.reduceLT, true_and, List.map_cons, List.map_nil, Nat.zero_add, Nat.reduceBEq, ll']
          refine condP_dec (fun h => ?_) (fun h => ?_)
          · have hk' : k < T.length := by omega
            obtain ⟨q, rfl⟩ : ∃ q', q = 1 + q' := ⟨q - 1, by
              cases q with
              | zero => rw [endAt_zero] at he; omega
              | succ q => omega⟩
            obtain ⟨y1, y2⟩ := endAt_add he (by omega) (by omega)
            obtain ⟨x1, x2, x3⟩ := endAt_le (rfl : endAt T.length (T.drop k) 1 k = _) y1
            have x4 := x3 (by omega)
            have hend : endT T k = endAt T.length (T.drop k) 1 k := by simp [endT, hk']
            rw [List.length_drop] at x2
            generalize hE : endAt T.length (T.drop k) 1 k = E at *
            rw [List.drop_drop, show k + (E - k) = E by omega] at y2
            simp -dsimp only [↓WPd, ↓wpC_block, ↓wpC_cond, WPu, Bool.false_eq_true, Bool.true_eq_false, Bool.not_true, Bool.not_false, if_true, if_false, ite_true, ite_false, Nat.reduceEqDiff, Nat.reduceLT, true_and, List.map_cons, List.map_nil, Nat.zero_add, Nat.reduceBEq]
            refine calledW_of (rend_ok d σ' l T k hx hl') ?_
            rintro v σ2 ⟨rfl, hσ⟩
            have g2 : Grows σ' σ2 := by rw [hσ]; exact Keeps.refl _ _
            rw [hend]
            have hl2 := hl'.grow g2
            obtain ⟨v', s1, s2, -⟩ := hl2.sub (lo := k) (hi := E) (by omega) (by rw [List.length_map]; omega) .i64 .i64
            have hseg : ((T.map Cel.val).take E).drop k = ((T.drop k).take (E - k)).map Cel.val := by
              rw [List.drop_take, List.map_take, List.map_drop]
            rw [hseg] at s2
            simp -dsimp only [↓WPd, ↓wpC_block, ↓wpC_cond, WPu, Bool.false_eq_true, Bool.true_eq_false, Bool.not_true, Bool.not_false, if_true, if_false, ite_true, ite_false, Nat.reduceEqDiff, Nat.reduceLT, true_and, List.map_cons, List.map_nil, Nat.zero_add, Nat.reduceBEq, oev, s1]
            refine calledW_of (copied_ok d σ2 v' ((T.drop k).take (E - k)) (by simp; omega) s2) ?_
            rintro e σ3 ⟨g3, oe, fe, le⟩
            have e1 : fillL 1 false (List.replicate 1 (zel [AVal.nilslice] false)) [(0, e)] = some [e] := by
              rcases oe.own with ⟨rfl, _⟩ | ⟨t, rfl⟩ | ⟨id, ep, off, cap, xs, epo, fl, rfl, _⟩ <;> simp
            have hel := ho.len
            rw [List.length_map] at hel
            obtain ⟨lv', σ5, a1, a2, a3⟩ := (ho.grow g2).push (Nat.le_trans g.1 g2.1) g3 oe fe le 24 (by omega)
            have lel : ∀ tg, elems 1 σ3 (.fslice tg true 1 [e]) = some [e] := fun tg => (SlOf.fs σ3 1 tg true [e]).els
            simp -dsimp only [↓WPd, ↓wpC_block, ↓wpC_cond, WPu, Bool.false_eq_true, Bool.true_eq_false, Bool.not_true, Bool.not_false, if_true, if_false, ite_true, ite_false, Nat.reduceEqDiff, Nat.reduceLT, true_and, List.map_cons, List.map_nil, Nat.zero_add, Nat.reduceBEq, e1, lel, a1]
            refine ⟨T.length - E, by omega, E, f - 1, q, lv', es ++ [e], ps ++ [(T.drop k).take (E - k)], by omega, by omega, rfl, rfl, ?_, by simpa using a2, ?_, by omega, y2, by simp; omega⟩
            · exact Keeps.trans ((g.trans g2).trans g3) a3 fun i hi h => by omega
            · obtain ⟨f, rfl⟩ : ∃ f', f = f' + 1 := ⟨f - 1, by omega⟩
              have hne : T.drop k ≠ [] := by
                intro e; have := congrArg List.length e; simp at this; omega
              rw [← hp]
              simp only [argsFrom, if_neg hne, hE, List.append_assoc, List.singleton_append, Nat.add_sub_cancel, List.drop_drop]
              rw [show k + (E - k) = E by omega]
          · simp -dsimp only [↓WPd, ↓wpC_block, ↓wpC_cond, WPu, Bool.false_eq_true, Bool.true_eq_false, Bool.not_true, Bool.not_false, if_true, if_false, ite_true, ite_false, Nat.reduceEqDiff, Nat.reduceLT, true_and, List.map_cons, List.map_nil, Nat.zero_add, Nat.reduceBEq]
            have hkT : k = T.length := by omega
            have : argsFrom T.length f (T.drop k) k = [] := by
              rw [hkT, List.drop_length]
              cases f <;> simp [argsFrom]
            rw [this, List.append_nil] at hp
            rw [← hp]
            exact ⟨lv, es, rfl, g, ho⟩
        · rintro e σ' env ⟨rfl, lv, es, hv, g, ho⟩
          simp only [List.map_cons, List.map_nil, List.cons.injEq, and_true] at hv
          simp -dsimp only [↓WPd, ↓wpC_block, ↓wpC_cond, WPu, Bool.false_eq_true, Bool.true_eq_false, Bool.not_true, Bool.not_false, if_true, if_false, ite_true, ite_false, Nat.reduceEqDiff, Nat.reduceLT, true_and, List.map_cons, List.map_nil, Nat.zero_add, Nat.reduceBEq, hv]
          exact ⟨g, es, ho⟩
end
end Go.Proofs.YtkjnanfkclijcaaDoor.Am

/-
  TERMS: both sides of an equation. (written by gen11.py)
-/
namespace Go.Proofs.YtkjnanfkclijcaaDoor.Am
open Go
set_option linter.unusedVariables false
set_option linter.unusedSimpArgs false
set_option linter.unusedSectionVars false
set_option maxRecDepth 100000

def isEqT (t : List Cel) : Bool := right t && isT t [61] 2
/-- both sides: each in memory of its own -/
def EqR (σ σ' : Store) (t : List Cel) (a b : AVal) : Prop := Grows σ σ' ∧ match isEqT t with
  | true => ∃ x y, args t = [x, y] ∧ Own σ' 5 a (CC x) ∧ Own σ' 5 b (CC y) ∧ Fresh σ.length a ∧ Fresh σ.length b ∧ NoLit a ∧ NoLit b ∧ ∀ j, a.sid = some j → b.sid ≠ some j
  | false => a = .nilslice ∧ b = .nilslice
theorem eq_args {t : List Cel} (h : isEqT t = true) : ∃ x y, args t = [x, y] := by
  simp only [isEqT, Bool.and_eq_true] at h
  obtain ⟨h1, h2⟩ := h
  cases t with
  | nil => simp [isT] at h2
  | cons c r =>
    simp [isT] at h2
    have hl := args_len h1 (by simpa using h2.2.1)
    simp only [List.headD_cons, h2.2.2] at hl
    generalize args (c :: r) = q at hl
    match q, hl with
    | [x, y], _ => exact ⟨x, y, rfl⟩

section
variable (d : Nat) (σ : Store)

theorem equation_ok (l : AVal) (t : List Cel) (hx : t.length < 2 ^ 30) (hi : ∀ c ∈ t, c.k < 256 ∧ c.s.length < 2 ^ 40) (hl : SlOf σ 5 l (t.map Cel.val)) :
    Called CU.cfg d 15 [l] σ fun v σ' => ∃ a b, v = .tuple [a, b, .bool (isEqT t)] ∧ EqR σ σ' t a b := by
  refine called_of (fn := CU.a15) rfl (Nat.le_of_ble_eq_true rfl) ?_
  simp only [CU.a15]
  simp -dsimp only [↓WPd, ↓wpC_block, ↓wpC_cond, WPu, Bool.false_eq_true, Bool.true_eq_false, Bool.not_true, Bool.not_false, if_true, if_false, ite_true, ite_false, Nat.reduceEqDiff, Nat.reduceLT, true_and, List.map_cons, List.map_nil, Nat.zero_add, Nat.reduceBEq, WPm]
  refine calledW_of (right_ok d σ l t hx hi hl) ?_
  rintro v σ1 ⟨rfl, g1⟩
  have hl1 := hl.grow g1
  cases hr : right t with
  | false =>
    have he : isEqT t = false := by simp [isEqT, hr]
    simp -dsimp only [↓WPd, ↓wpC_block, ↓wpC_cond, WPu, Bool.false_eq_true, Bool.true_eq_false, Bool.not_true, Bool.not_false, if_true, if_false, ite_true, ite_false, Nat.reduceEqDiff, Nat.reduceLT, true_and, List.map_cons, List.map_nil, Nat.zero_add, Nat.reduceBEq, WPm, Bool.true_or, he]
    exact ⟨_, _, rfl, g1, by rw [he]; exact ⟨rfl, rfl⟩⟩
  | true =>
    simp -dsimp only [↓WPd, ↓wpC_block, ↓wpC_cond, WPu, Bool.false_eq_true, Bool.true_eq_false, Bool.not_true, Bool.not_false, if_true, if_false, ite_true, ite_false, Nat.reduceEqDiff, Nat.reduceLT, true_and, List.map_cons, List.map_nil, Nat.zero_add, Nat.reduceBEq, WPm]
    refine calledW_of (is_ok d σ1 l t [61] 2 hl1) ?_
    rintro v σ2 ⟨rfl, rfl⟩
    have hie : isEqT t = isT t [61] 2 := by simp [isEqT, hr]
    cases hq : isT t [61] 2 with
    | false =>
      have he : isEqT t = false := by rw [hie, hq]
      simp -dsimp only [↓WPd, ↓wpC_block, ↓wpC_cond, WPu, Bool.false_eq_true, Bool.true_eq_false, Bool.not_true, Bool.not_false, if_true, if_false, ite_true, ite_false, Nat.reduceEqDiff, Nat.reduceLT, true_and, List.map_cons, List.map_nil, Nat.zero_add, Nat.reduceBEq, WPm, Bool.false_or, he]
      exact ⟨_, _, rfl, g1, by rw [he]; exact ⟨rfl, rfl⟩⟩
    | true =>
      have he : isEqT t = true := by rw [hie, hq]
      simp -dsimp only [↓WPd, ↓wpC_block, ↓wpC_cond, WPu, Bool.false_eq_true, Bool.true_eq_false, Bool.not_true, Bool.not_false, if_true, if_false, ite_true, ite_false, Nat.reduceEqDiff, Nat.reduceLT, true_and, List.map_cons, List.map_nil, Nat.zero_add, Nat.reduceBEq, WPm, Bool.false_or, he]
      refine calledW_of (args_ok d σ2 l t hx hi hl1) ?_
      rintro v σ3 ⟨g3, es, ho⟩
      obtain ⟨x, y, hxy⟩ := eq_args he
      rw [hxy] at ho
      have hes : es.length = 2 := by rw [ho.len]; rfl
      match es, hes with
      | [a, b], _ =>
        have i0 : iaddrV 1 v (.int .i64 0) = some (addrOf 1 v 0) := ho.row.sl.iaddr (i := 0) (by simp) .i64
        have i1 : iaddrV 1 v (.int .i64 1) = some (addrOf 1 v 1) := ho.row.sl.iaddr (i := 1) (by simp) .i64
        have oa := ho.one 0 a (CC x) rfl rfl
        have ob := ho.one 1 b (CC y) rfl rfl
        have l0 : loadV σ3 1 false (addrOf 1 v 0) = some a := ho.row.sl.load1 (i := 0) (by simp) oa.one 1
        have l1 : loadV σ3 1 false (addrOf 1 v 1) = some b := ho.row.sl.load1 (i := 1) (by simp) ob.one 1
        simp -dsimp only [↓WPd, ↓wpC_block, ↓wpC_cond, WPu, Bool.false_eq_true, Bool.true_eq_false, Bool.not_true, Bool.not_false, if_true, if_false, ite_true, ite_false, Nat.reduceEqDiff, Nat.reduceLT, true_and, List.map_cons, List.map_nil, Nat.zero_add, Nat.reduceBEq, i0, i1, l0, l1]
        refine ⟨a, b, by rw [he], g1.trans g3, ?_⟩
        rw [he]
        exact ⟨x, y, hxy, oa, ob, (ho.frs 0 a rfl).le g1.1, (ho.frs 1 b rfl).le g1.1, ho.lit 0 a rfl, ho.lit 1 b rfl, fun j h1 h2 => by have := ho.apart 0 1 a b j rfl rfl h1 h2; omega⟩

theorem requation_ok (l : AVal) (t : List Cel) (hx : t.length < 2 ^ 30) (hl : SlOf σ 5 l (t.map Cel.val)) :
    Called CU.cfg d 16 [l] σ fun v σ' => ∃ a b, v = .tuple [a, b, .bool (isEqT t)] ∧ EqR σ σ' t a b := by
  refine called_of (fn := CU.a16) rfl (Nat.le_of_ble_eq_true rfl) ?_
  simp only [CU.a16]
  simp -dsimp only [↓WPd, ↓wpC_block, ↓wpC_cond, WPu, Bool.false_eq_true, Bool.true_eq_false, Bool.not_true, Bool.not_false, if_true, if_false, ite_true, ite_false, Nat.reduceEqDiff, Nat.reduceLT, true_and, List.map_cons, List.map_nil, Nat.zero_add, Nat.reduceBEq, WPm]
  refine calledW_of (rright_ok d σ l t hx hl) ?_
  rintro v σ1 ⟨rfl, g1⟩
  have hl1 := hl.grow g1
  cases hr : right t with
  | false =>
    have he : isEqT t = false := by simp [isEqT, hr]
    simp -dsimp only [↓WPd, ↓wpC_block, ↓wpC_cond, WPu, Bool.false_eq_true, Bool.true_eq_false, Bool.not_true, Bool.not_false, if_true, if_false, ite_true, ite_false, Nat.reduceEqDiff, Nat.reduceLT, true_and, List.map_cons, List.map_nil, Nat.zero_add, Nat.reduceBEq, WPm, Bool.true_or, he]
    exact ⟨_, _, rfl, g1, by rw [he]; exact ⟨rfl, rfl⟩⟩
  | true =>
    simp -dsimp only [↓WPd, ↓wpC_block, ↓wpC_cond, WPu, Bool.false_eq_true, Bool.true_eq_false, Bool.not_true, Bool.not_false, if_true, if_false, ite_true, ite_false, Nat.reduceEqDiff, Nat.reduceLT, true_and, List.map_cons, List.map_nil, Nat.zero_add, Nat.reduceBEq, WPm]
    refine calledW_of (ris_ok d σ1 l t [61] 2 hl1) ?_
    rintro v σ2 ⟨rfl, rfl⟩
    have hie : isEqT t = isT t [61] 2 := by simp [isEqT, hr]
    cases hq : isT t [61] 2 with
    | false =>
      have he : isEqT t = false := by rw [hie, hq]
      simp -dsimp only [↓WPd, ↓wpC_block, ↓wpC_cond, WPu, Bool.false_eq_true, Bool.true_eq_false, Bool.not_true, Bool.not_false, if_true, if_false, ite_true, ite_false, Nat.reduceEqDiff, Nat.reduceLT, true_and, List.map_cons, List.map_nil, Nat.zero_add, Nat.reduceBEq, WPm, Bool.false_or, he]
      exact ⟨_, _, rfl, g1, by rw [he]; exact ⟨rfl, rfl⟩⟩
    | true =>
      have he : isEqT t = true := by rw [hie, hq]
      simp -dsimp only [↓WPd, ↓wpC_block, ↓wpC_cond, WPu, Bool.false_eq_true, Bool.true_eq_false, Bool.not_true, Bool.not_false, if_true, if_false, ite_true, ite_false, Nat.reduceEqDiff, Nat.reduceLT, true_and, List.map_cons, List.map_nil, Nat.zero_add, Nat.reduceBEq, WPm, Bool.false_or, he]
      refine calledW_of (rargs_ok d σ2 l t hx hl1) ?_
      rintro v σ3 ⟨g3, es, ho⟩
      obtain ⟨x, y, hxy⟩ := eq_args he
      rw [hxy] at ho
      have hes : es.length = 2 := by rw [ho.len]; rfl
      match es, hes with
      | [a, b], _ =>
        have i0 : iaddrV 1 v (.int .i64 0) = some (addrOf 1 v 0) := ho.row.sl.iaddr (i := 0) (by simp) .i64
        have i1 : iaddrV 1 v (.int .i64 1) = some (addrOf 1 v 1) := ho.row.sl.iaddr (i := 1) (by simp) .i64
        have oa := ho.one 0 a (CC x) rfl rfl
        have ob := ho.one 1 b (CC y) rfl rfl
        have l0 : loadV σ3 1 false (addrOf 1 v 0) = some a := ho.row.sl.load1 (i := 0) (by simp) oa.one 1
        have l1 : loadV σ3 1 false (addrOf 1 v 1) = some b := ho.row.sl.load1 (i := 1) (by simp) ob.one 1
        simp -dsimp only [↓WPd, ↓wpC_block, ↓wpC_cond, WPu, Bool.false_eq_true, Bool.true_eq_false, Bool.not_true, Bool.not_false, if_true, if_false, ite_true, ite_false, Nat.reduceEqDiff, Nat.reduceLT, true_and, List.map_cons, List.map_nil, Nat.zero_add, Nat.reduceBEq, i0, i1, l0, l1]
        refine ⟨a, b, by rw [he], g1.trans g3, ?_⟩
        rw [he]
        exact ⟨x, y, hxy, oa, ob, (ho.frs 0 a rfl).le g1.1, (ho.frs 1 b rfl).le g1.1, ho.lit 0 a rfl, ho.lit 1 b rfl, fun j h1 h2 => by have := ho.apart 0 1 a b j rfl rfl h1 h2; omega⟩

end
end Go.Proofs.YtkjnanfkclijcaaDoor.Am

/-
  purlinmem: a book of terms that were handed out. (written out of Pm2)
-/
namespace Go.Proofs.YtkjnanfkclijcaaDoor.Am
open Go
set_option linter.unusedVariables false
set_option linter.unusedSimpArgs false
set_option linter.unusedSectionVars false
set_option maxRecDepth 100000

theorem ORows.cell {σ σ' : Store} {lo sz : Nat} {l : AVal} {es : List AVal} {ps : List (List AVal)} {id : Nat} {cs : List AVal} (h : ORows σ lo sz l es ps) (ho : σ[id]? = some (.cells cs)) (hk : Keeps (fun i => i = id) σ σ') : ORows σ' lo sz l es ps :=
  ⟨h.row.keeps hk fun i hi e => h.row.noCell ho (by rw [← e]; exact hi), h.len, fun i e p h1 h2 => (h.one i e p h1 h2).keeps hk fun j hj e' => (h.one i e p h1 h2).noCell ho (by rw [← e']; exact hj), h.frs, h.frl, h.apart, h.off, h.lit, h.litl⟩
/-- one more list of its own, whenever it was made -/
theorem ORows.push2 {σ : Store} {lo sz : Nat} {l : AVal} {es : List AVal} {ps : List (List AVal)} (h : ORows σ lo sz l es ps) {e : AVal} {p : List AVal} (he : Own σ sz e p) (fe : Fresh lo e) (le : NoLit e) (hlo : lo ≤ σ.length)
    (hl : ∀ id, e.sid = some id → l.sid ≠ some id) (hx : ∀ (i : Nat) (x : AVal) (id : Nat), es[i]? = some x → e.sid = some id → x.sid ≠ some id) (bytes : Nat) (hb : (es.length + 1) * bytes ≤ 70368744177664) :
    ∃ l' σ2, appendV σ 1 bytes l [e] = some (l', σ2) ∧ ORows σ2 lo sz l' (es ++ [e]) (ps ++ [p]) ∧ Keeps (fun i => l.sid = some i) σ σ2 ∧ ∀ id, l'.sid = some id → l.sid = some id ∨ id = σ.length := by
  obtain ⟨l', σ2, h1, h2, h3, h4, h5⟩ := h.row.append [e] bytes hb
  have old : ∀ (i : Nat) (x : AVal), (es ++ [e])[i]? = some x → (es[i]? = some x ∧ i < es.length) ∨ (i = es.length ∧ x = e) := by
    intro i x hx
    rw [List.getElem?_append] at hx
    split at hx
    · rename_i hlt; exact .inl ⟨hx, hlt⟩
    · rename_i hlt
      rw [List.getElem?_singleton] at hx
      split at hx
      · injection hx with hx; exact .inr ⟨by omega, hx.symm⟩
      · cases hx
  have hx1 : ∀ (i : Nat) (x : AVal) (id : Nat), (es ++ [e])[i]? = some x → x.sid = some id → id < σ.length ∧ l.sid ≠ some id := by
    intro i x id hx hid
    rcases old i x hx with ⟨hx', _⟩ | ⟨_, rfl⟩
    · exact ⟨h.lt hx' hid, h.off i x id hx' hid⟩
    · exact ⟨he.sl.lt hid, hl id hid⟩
  refine ⟨l', σ2, h1, ⟨h2, by simp [h.len], ?_, ?_, ?_, ?_, ?_, ?_, h5 (.inr (by simp))⟩, h3, h4⟩
  · intro i x q hxi hq
    refine Own.keeps (σ := σ) ?_ h3 fun id hid => (hx1 i x id hxi hid).2
    rcases old i x hxi with ⟨hx', hlt⟩ | ⟨rfl, rfl⟩
    · rw [List.getElem?_append_left (by rw [← h.len]; exact hlt)] at hq
      exact h.one i x q hx' hq
    · rw [h.len, List.getElem?_append_right (Nat.le_refl _), Nat.sub_self] at hq
      simp at hq; subst hq; exact he
  · intro i x hxi
    rcases old i x hxi with ⟨hx', _⟩ | ⟨_, rfl⟩
    · exact h.frs i x hx'
    · exact fe
  · intro id hid
    rcases h4 id hid with hh | hh
    · exact h.frl id hh
    · omega
  · intro i j x y id hxi hyi hxs hys
    rcases old i x hxi with ⟨hx', hil⟩ | ⟨hi, hxe⟩ <;> rcases old j y hyi with ⟨hy', hjl⟩ | ⟨hj, hye⟩
    · exact h.apart i j x y id hx' hy' hxs hys
    · rw [hye] at hys; exact absurd hxs (hx i x id hx' hys)
    · rw [hxe] at hxs; exact absurd hys (hx j y id hy' hxs)
    · omega
  · intro i x id hxi hid hl'
    obtain ⟨k1, k2⟩ := hx1 i x id hxi hid
    rcases h4 id hl' with hh | hh
    · exact k2 hh
    · omega
  · intro i x hxi
    rcases old i x hxi with ⟨hx', _⟩ | ⟨_, rfl⟩
    · exact h.lit i x hx'
    · exact le

theorem ORows.setElem {σ σ' : Store} {lo sz : Nat} {w : AVal} {es : List AVal} {ps : List (List AVal)} (h : ORows σ lo sz w es ps) {i : Nat} {e : AVal} {p : List AVal} (hi : es[i]? = some e) (he : Own σ' sz e p) (hk : Keeps (fun j => e.sid = some j) σ σ') :
    ORows σ' lo sz w es (ps.set i p) := by
  refine ⟨h.row.keeps hk fun j hj hj' => h.off i e j hi hj' hj, by simp [h.len], fun k x q hx hq => ?_, h.frs, h.frl, h.apart, h.off, h.lit, h.litl⟩
  by_cases hki : k = i
  · subst hki
    rw [hi] at hx; injection hx with hx; subst hx
    rw [List.getElem?_set_self (by rw [← h.len]; exact (List.getElem?_eq_some_iff.1 hi).1)] at hq
    injection hq with hq; subst hq; exact he
  · rw [List.getElem?_set_ne (fun e => hki e.symm)] at hq
    exact (h.one k x q hx hq).keeps hk fun j hj hj' => hki (h.apart k i x e j hx hi hj hj')

/-- a book, with the terms that it keeps -/
structure BookC (c1 c2 c3 c4 : AVal) (lo : Nat) (σ : Store) (id : Nat) (w : AVal) (es : List AVal) (ps : List (List Cel)) : Prop where
  obj : σ[id]? = some (.cells [c1, c2, c3, w, c4])
  rows : ORows σ lo 5 w es (ps.map CC)

section
variable (d : Nat) (σ : Store)

theorem takecells_ok (c1 c2 c3 c4 : AVal) (lo : Nat) (id : Nat) (w e : AVal) (es : List AVal) (ps : List (List Cel)) (p : List Cel) (h : BookC c1 c2 c3 c4 lo σ id w es ps) (he : Own σ 5 e (CC p)) (fe : Fresh lo e) (hlo : lo ≤ σ.length) (le : NoLit e) (hn : ps.length < 2 ^ 30)
    (hl : ∀ j, e.sid = some j → w.sid ≠ some j) (hx : ∀ (i : Nat) (x : AVal) (j : Nat), es[i]? = some x → e.sid = some j → x.sid ≠ some j) :
    Called CU.cfg d 69 [.ptr id 0, e] σ fun _ σ' => Keeps (fun i => i = id ∨ w.sid = some i) σ σ' ∧ ∃ w', BookC c1 c2 c3 c4 lo σ' id w' (es ++ [e]) (ps ++ [p]) ∧ (∀ j, w'.sid = some j → w.sid = some j ∨ σ.length ≤ j) := by
  refine called_of (fn := CU.a69) rfl (Nat.le_of_ble_eq_true rfl) ?_
  have hlen := h.rows.len
  rw [List.length_map] at hlen
  obtain ⟨w', σ2, a1, a2, a3, a4⟩ := h.rows.push2 he fe le hlo hl hx 24 (by omega)
  have ho2 := a3.get h.obj (h.rows.row.noCell h.obj)
  have st := store_cells ho2 (off := 3) (by simp) (v := w') a2.row.sl.one
  simp only [List.set_cons_zero, List.set_cons_succ] at st
  have e1 : fillL 1 false (List.replicate 1 (zel [AVal.nilslice] false)) [(0, e)] = some [e] := by
    rcases he.own with ⟨rfl, _⟩ | ⟨t, rfl⟩ | ⟨id, ep, off, cap, xs, epo, fl, rfl, _⟩ <;> simp
  have lel : ∀ tg, elems 1 σ (.fslice tg true 1 [e]) = some [e] := fun tg => (SlOf.fs σ 1 tg true [e]).els
  simp only [CU.a69]
  simp -dsimp only [↓WPd, ↓wpC_block, ↓wpC_cond, WPu, Bool.false_eq_true, Bool.true_eq_false, Bool.not_true, Bool.not_false, if_true, if_false, ite_true, ite_false, Nat.reduceEqDiff, Nat.reduceLT, true_and, List.map_cons, List.map_nil, Nat.zero_add, Nat.reduceBEq, faddr_ptr, load_cells h.obj, List.getElem?_cons_zero, List.getElem?_cons_succ, e1, lel, a1, st, resultsA, mapO]
  have k1 : Keeps (fun i => i = id ∨ w.sid = some i) σ σ2 := a3.mono fun i hi e => .inr e
  refine ⟨Keeps.trans k1 (Keeps.set _ _ _) fun i hi e => .inl e, w', ⟨get_set ho2, ?_⟩, fun j hj => ?_⟩
  · have := a2.cell ho2 (Keeps.set σ2 id (.cells [c1, c2, c3, w', c4]))
    simpa using this
  · rcases a4 j hj with e | e
    · exact .inl e
    · exact .inr (by omega)
end
end Go.Proofs.YtkjnanfkclijcaaDoor.Am

/-
  purlinmem: a book of terms: none shows in another one. (written by gen12.py out of Pm2)
-/
namespace Go.Proofs.YtkjnanfkclijcaaDoor.Am
open Go
set_option linter.unusedVariables false
set_option linter.unusedSimpArgs false
set_option linter.unusedSectionVars false
set_option maxRecDepth 100000

theorem CC_app (a b : List Cel) : CC a ++ CC b = CC (a ++ b) := by simp
def mkK (i : Nat) : Cel := mkC (-9000 - i)
theorem mk_opsK (i : Nat) (hi : i < 2 ^ 40) : IntKind.i64.wrap (-9000 - (i : Int)) = -9000 - (i : Int) ∧ fillA [AVal.int IntKind.u8 0, AVal.str [], AVal.int IntKind.i64 0, AVal.int IntKind.i64 0, AVal.int IntKind.i64 0] [(2, 1, AVal.int IntKind.i64 (-9000 - (i : Int)))] = some (mkK i).cs ∧ (mkK i).cs.all AVal.one = true :=
  ⟨by rw [wrap_i64 (by omega) (by omega)], rfl, rfl⟩
theorem Own.lit1 {σ : Store} {sz : Nat} {e : AVal} {p : List AVal} (he : Own σ sz e p) : fillL 1 false (List.replicate 1 (zel [AVal.nilslice] false)) [(0, e)] = some [e] := by
  rcases he.own with ⟨rfl, _⟩ | ⟨t, rfl⟩ | ⟨id, ep, off, cap, xs, epo, fl, rfl, _⟩ <;> simp

section
variable (d : Nat) (σ : Store)

theorem alonetexts_ok (id : Nat) (c0 c1 c2 c3 c4 : AVal) (h : σ[id]? = some (.cells [c0, c1, c2, c3, c4])) (hc : c1 = .nilslice) : Called CU.cfg d 71 [.ptr id 0] σ fun r σ' => r = .bool true ∧ σ' = σ := by
  subst hc
  refine called_of (fn := CU.a71) rfl (Nat.le_of_ble_eq_true rfl) ?_
  have el : lenSV .nilslice = some 0 := rfl
  have d0 : decide ((0 : Int) < ((0 : Nat) : Int)) = false := rfl
  simp only [CU.a71]
  simp -dsimp only [↓WPd, ↓wpC_block, ↓wpC_cond, WPu, Bool.false_eq_true, Bool.true_eq_false, Bool.not_true, Bool.not_false, if_true, if_false, ite_true, ite_false, Nat.reduceEqDiff, Nat.reduceLT, true_and, List.map_cons, List.map_nil, Nat.zero_add, Nat.reduceBEq]
  refine loop_rule (fun m vs σ' => σ' = σ ∧ vs = [.ptr id 0, .int .i64 0]) 0 ⟨rfl, ?_⟩ ?_
  · simp -dsimp only [↓WPd, ↓wpC_block, ↓wpC_cond, WPu, Bool.false_eq_true, Bool.true_eq_false, Bool.not_true, Bool.not_false, if_true, if_false, ite_true, ite_false, Nat.reduceEqDiff, Nat.reduceLT, true_and, List.map_cons, List.map_nil, Nat.zero_add, Nat.reduceBEq]
  rintro m vs σ' ⟨rfl, rfl⟩
  simp -dsimp only [↓WPd, ↓wpC_block, ↓wpC_cond, WPu, Bool.false_eq_true, Bool.true_eq_false, Bool.not_true, Bool.not_false, if_true, if_false, ite_true, ite_false, Nat.reduceEqDiff, Nat.reduceLT, true_and, List.map_cons, List.map_nil, Nat.zero_add, Nat.reduceBEq, faddr_ptr, load_cells h, List.getElem?_cons_zero, List.getElem?_cons_succ, el, d0]
  refine loop_rule (fun m vs σ2 => σ2 = σ' ∧ vs = [.ptr id 0, .nilslice, .int .i64 0]) 0 ⟨rfl, ?_⟩ ?_
  · simp -dsimp only [↓WPd, ↓wpC_block, ↓wpC_cond, WPu, Bool.false_eq_true, Bool.true_eq_false, Bool.not_true, Bool.not_false, if_true, if_false, ite_true, ite_false, Nat.reduceEqDiff, Nat.reduceLT, true_and, List.map_cons, List.map_nil, Nat.zero_add, Nat.reduceBEq]
  rintro m vs σ2 ⟨rfl, rfl⟩
  simp -dsimp only [↓WPd, ↓wpC_block, ↓wpC_cond, WPu, Bool.false_eq_true, Bool.true_eq_false, Bool.not_true, Bool.not_false, if_true, if_false, ite_true, ite_false, Nat.reduceEqDiff, Nat.reduceLT, true_and, List.map_cons, List.map_nil, Nat.zero_add, Nat.reduceBEq, faddr_ptr, load_cells h, List.getElem?_cons_zero, List.getElem?_cons_succ, el, d0]
  refine loop_rule (fun m vs σ3 => σ3 = σ2 ∧ vs = [.ptr id 0, .nilslice, .int .i64 0]) 0 ⟨rfl, ?_⟩ ?_
  · simp -dsimp only [↓WPd, ↓wpC_block, ↓wpC_cond, WPu, Bool.false_eq_true, Bool.true_eq_false, Bool.not_true, Bool.not_false, if_true, if_false, ite_true, ite_false, Nat.reduceEqDiff, Nat.reduceLT, true_and, List.map_cons, List.map_nil, Nat.zero_add, Nat.reduceBEq]
  rintro m vs σ3 ⟨rfl, rfl⟩
  simp -dsimp only [↓WPd, ↓wpC_block, ↓wpC_cond, WPu, Bool.false_eq_true, Bool.true_eq_false, Bool.not_true, Bool.not_false, if_true, if_false, ite_true, ite_false, Nat.reduceEqDiff, Nat.reduceLT, true_and, List.map_cons, List.map_nil, Nat.zero_add, Nat.reduceBEq, faddr_ptr, load_cells h, List.getElem?_cons_zero, List.getElem?_cons_succ, el, d0]
theorem aloneints_ok (id : Nat) (c0 c1 c2 c3 c4 : AVal) (h : σ[id]? = some (.cells [c0, c1, c2, c3, c4])) (hc : c2 = .nilslice) : Called CU.cfg d 72 [.ptr id 0] σ fun r σ' => r = .bool true ∧ σ' = σ := by
  subst hc
  refine called_of (fn := CU.a72) rfl (Nat.le_of_ble_eq_true rfl) ?_
  have el : lenSV .nilslice = some 0 := rfl
  have d0 : decide ((0 : Int) < ((0 : Nat) : Int)) = false := rfl
  simp only [CU.a72]
  simp -dsimp only [↓WPd, ↓wpC_block, ↓wpC_cond, WPu, Bool.false_eq_true, Bool.true_eq_false, Bool.not_true, Bool.not_false, if_true, if_false, ite_true, ite_false, Nat.reduceEqDiff, Nat.reduceLT, true_and, List.map_cons, List.map_nil, Nat.zero_add, Nat.reduceBEq]
  refine loop_rule (fun m vs σ' => σ' = σ ∧ vs = [.ptr id 0, .int .i64 0]) 0 ⟨rfl, ?_⟩ ?_
  · simp -dsimp only [↓WPd, ↓wpC_block, ↓wpC_cond, WPu, Bool.false_eq_true, Bool.true_eq_false, Bool.not_true, Bool.not_false, if_true, if_false, ite_true, ite_false, Nat.reduceEqDiff, Nat.reduceLT, true_and, List.map_cons, List.map_nil, Nat.zero_add, Nat.reduceBEq]
  rintro m vs σ' ⟨rfl, rfl⟩
  simp -dsimp only [↓WPd, ↓wpC_block, ↓wpC_cond, WPu, Bool.false_eq_true, Bool.true_eq_false, Bool.not_true, Bool.not_false, if_true, if_false, ite_true, ite_false, Nat.reduceEqDiff, Nat.reduceLT, true_and, List.map_cons, List.map_nil, Nat.zero_add, Nat.reduceBEq, faddr_ptr, load_cells h, List.getElem?_cons_zero, List.getElem?_cons_succ, el, d0]
  refine loop_rule (fun m vs σ2 => σ2 = σ' ∧ vs = [.ptr id 0, .nilslice, .int .i64 0]) 0 ⟨rfl, ?_⟩ ?_
  · simp -dsimp only [↓WPd, ↓wpC_block, ↓wpC_cond, WPu, Bool.false_eq_true, Bool.true_eq_false, Bool.not_true, Bool.not_false, if_true, if_false, ite_true, ite_false, Nat.reduceEqDiff, Nat.reduceLT, true_and, List.map_cons, List.map_nil, Nat.zero_add, Nat.reduceBEq]
  rintro m vs σ2 ⟨rfl, rfl⟩
  simp -dsimp only [↓WPd, ↓wpC_block, ↓wpC_cond, WPu, Bool.false_eq_true, Bool.true_eq_false, Bool.not_true, Bool.not_false, if_true, if_false, ite_true, ite_false, Nat.reduceEqDiff, Nat.reduceLT, true_and, List.map_cons, List.map_nil, Nat.zero_add, Nat.reduceBEq, faddr_ptr, load_cells h, List.getElem?_cons_zero, List.getElem?_cons_succ, el, d0]
  refine loop_rule (fun m vs σ3 => σ3 = σ2 ∧ vs = [.ptr id 0, .nilslice, .int .i64 0]) 0 ⟨rfl, ?_⟩ ?_
  · simp -dsimp only [↓WPd, ↓wpC_block, ↓wpC_cond, WPu, Bool.false_eq_true, Bool.true_eq_false, Bool.not_true, Bool.not_false, if_true, if_false, ite_true, ite_false, Nat.reduceEqDiff, Nat.reduceLT, true_and, List.map_cons, List.map_nil, Nat.zero_add, Nat.reduceBEq]
  rintro m vs σ3 ⟨rfl, rfl⟩
  simp -dsimp only [↓WPd, ↓wpC_block, ↓wpC_cond, WPu, Bool.false_eq_true, Bool.true_eq_false, Bool.not_true, Bool.not_false, if_true, if_false, ite_true, ite_false, Nat.reduceEqDiff, Nat.reduceLT, true_and, List.map_cons, List.map_nil, Nat.zero_add, Nat.reduceBEq, faddr_ptr, load_cells h, List.getElem?_cons_zero, List.getElem?_cons_succ, el, d0]
theorem alonebytes_ok (id : Nat) (c0 c1 c2 c3 c4 : AVal) (h : σ[id]? = some (.cells [c0, c1, c2, c3, c4])) (hc : c0 = .nilslice) : Called CU.cfg d 70 [.ptr id 0] σ fun r σ' => r = .bool true ∧ σ' = σ := by
  subst hc
  refine called_of (fn := CU.a70) rfl (Nat.le_of_ble_eq_true rfl) ?_
  have el : lenSV .nilslice = some 0 := rfl
  have d0 : decide ((0 : Int) < ((0 : Nat) : Int)) = false := rfl
  simp only [CU.a70]
  simp -dsimp only [↓WPd, ↓wpC_block, ↓wpC_cond, WPu, Bool.false_eq_true, Bool.true_eq_false, Bool.not_true, Bool.not_false, if_true, if_false, ite_true, ite_false, Nat.reduceEqDiff, Nat.reduceLT, true_and, List.map_cons, List.map_nil, Nat.zero_add, Nat.reduceBEq]
  refine loop_rule (fun m vs σ' => σ' = σ ∧ vs = [.ptr id 0, .int .i64 0]) 0 ⟨rfl, ?_⟩ ?_
  · simp -dsimp only [↓WPd, ↓wpC_block, ↓wpC_cond, WPu, Bool.false_eq_true, Bool.true_eq_false, Bool.not_true, Bool.not_false, if_true, if_false, ite_true, ite_false, Nat.reduceEqDiff, Nat.reduceLT, true_and, List.map_cons, List.map_nil, Nat.zero_add, Nat.reduceBEq]
  rintro m vs σ' ⟨rfl, rfl⟩
  simp -dsimp only [↓WPd, ↓wpC_block, ↓wpC_cond, WPu, Bool.false_eq_true, Bool.true_eq_false, Bool.not_true, Bool.not_false, if_true, if_false, ite_true, ite_false, Nat.reduceEqDiff, Nat.reduceLT, true_and, List.map_cons, List.map_nil, Nat.zero_add, Nat.reduceBEq, faddr_ptr, load_cells h, List.getElem?_cons_zero, List.getElem?_cons_succ, el, d0]
  refine loop_rule (fun m vs σ2 => σ2 = σ' ∧ vs = [.ptr id 0, .nilslice, .int .i64 0]) 0 ⟨rfl, ?_⟩ ?_
  · simp -dsimp only [↓WPd, ↓wpC_block, ↓wpC_cond, WPu, Bool.false_eq_true, Bool.true_eq_false, Bool.not_true, Bool.not_false, if_true, if_false, ite_true, ite_false, Nat.reduceEqDiff, Nat.reduceLT, true_and, List.map_cons, List.map_nil, Nat.zero_add, Nat.reduceBEq]
  rintro m vs σ2 ⟨rfl, rfl⟩
  simp -dsimp only [↓WPd, ↓wpC_block, ↓wpC_cond, WPu, Bool.false_eq_true, Bool.true_eq_false, Bool.not_true, Bool.not_false, if_true, if_false, ite_true, ite_false, Nat.reduceEqDiff, Nat.reduceLT, true_and, List.map_cons, List.map_nil, Nat.zero_add, Nat.reduceBEq, faddr_ptr, load_cells h, List.getElem?_cons_zero, List.getElem?_cons_succ, el, d0]
  refine loop_rule (fun m vs σ3 => σ3 = σ2 ∧ vs = [.ptr id 0, .nilslice, .int .i64 0]) 0 ⟨rfl, ?_⟩ ?_
  · simp -dsimp only [↓WPd, ↓wpC_block, ↓wpC_cond, WPu, Bool.false_eq_true, Bool.true_eq_false, Bool.not_true, Bool.not_false, if_true, if_false, ite_true, ite_false, Nat.reduceEqDiff, Nat.reduceLT, true_and, List.map_cons, List.map_nil, Nat.zero_add, Nat.reduceBEq]
  rintro m vs σ3 ⟨rfl, rfl⟩
  simp -dsimp only [↓WPd, ↓wpC_block, ↓wpC_cond, WPu, Bool.false_eq_true, Bool.true_eq_false, Bool.not_true, Bool.not_false, if_true, if_false, ite_true, ite_false, Nat.reduceEqDiff, Nat.reduceLT, true_and, List.map_cons, List.map_nil, Nat.zero_add, Nat.reduceBEq, faddr_ptr, load_cells h, List.getElem?_cons_zero, List.getElem?_cons_succ, el, d0]
theorem alonenames_ok (id : Nat) (c0 c1 c2 c3 c4 : AVal) (h : σ[id]? = some (.cells [c0, c1, c2, c3, c4])) (hc : c4 = .nilslice) : Called CU.cfg d 74 [.ptr id 0] σ fun r σ' => r = .bool true ∧ σ' = σ := by
  subst hc
  refine called_of (fn := CU.a74) rfl (Nat.le_of_ble_eq_true rfl) ?_
  have el : lenSV .nilslice = some 0 := rfl
  have d0 : decide ((0 : Int) < ((0 : Nat) : Int)) = false := rfl
  simp only [CU.a74]
  simp -dsimp only [↓WPd, ↓wpC_block, ↓wpC_cond, WPu, Bool.false_eq_true, Bool.true_eq_false, Bool.not_true, Bool.not_false, if_true, if_false, ite_true, ite_false, Nat.reduceEqDiff, Nat.reduceLT, true_and, List.map_cons, List.map_nil, Nat.zero_add, Nat.reduceBEq]
  refine loop_rule (fun m vs σ' => σ' = σ ∧ vs = [.ptr id 0, .int .i64 0]) 0 ⟨rfl, ?_⟩ ?_
  · simp -dsimp only [↓WPd, ↓wpC_block, ↓wpC_cond, WPu, Bool.false_eq_true, Bool.true_eq_false, Bool.not_true, Bool.not_false, if_true, if_false, ite_true, ite_false, Nat.reduceEqDiff, Nat.reduceLT, true_and, List.map_cons, List.map_nil, Nat.zero_add, Nat.reduceBEq]
  rintro m vs σ' ⟨rfl, rfl⟩
  simp -dsimp only [↓WPd, ↓wpC_block, ↓wpC_cond, WPu, Bool.false_eq_true, Bool.true_eq_false, Bool.not_true, Bool.not_false, if_true, if_false, ite_true, ite_false, Nat.reduceEqDiff, Nat.reduceLT, true_and, List.map_cons, List.map_nil, Nat.zero_add, Nat.reduceBEq, faddr_ptr, load_cells h, List.getElem?_cons_zero, List.getElem?_cons_succ, el, d0]
  refine loop_rule (fun m vs σ2 => σ2 = σ' ∧ vs = [.ptr id 0, .nilslice, .int .i64 0]) 0 ⟨rfl, ?_⟩ ?_
  · simp -dsimp only [↓WPd, ↓wpC_block, ↓wpC_cond, WPu, Bool.false_eq_true, Bool.true_eq_false, Bool.not_true, Bool.not_false, if_true, if_false, ite_true, ite_false, Nat.reduceEqDiff, Nat.reduceLT, true_and, List.map_cons, List.map_nil, Nat.zero_add, Nat.reduceBEq]
  rintro m vs σ2 ⟨rfl, rfl⟩
  simp -dsimp only [↓WPd, ↓wpC_block, ↓wpC_cond, WPu, Bool.false_eq_true, Bool.true_eq_false, Bool.not_true, Bool.not_false, if_true, if_false, ite_true, ite_false, Nat.reduceEqDiff, Nat.reduceLT, true_and, List.map_cons, List.map_nil, Nat.zero_add, Nat.reduceBEq, faddr_ptr, load_cells h, List.getElem?_cons_zero, List.getElem?_cons_succ, el, d0]
  refine loop_rule (fun m vs σ3 => σ3 = σ2 ∧ vs = [.ptr id 0, .nilslice, .int .i64 0]) 0 ⟨rfl, ?_⟩ ?_
  · simp -dsimp only [↓WPd, ↓wpC_block, ↓wpC_cond, WPu, Bool.false_eq_true, Bool.true_eq_false, Bool.not_true, Bool.not_false, if_true, if_false, ite_true, ite_false, Nat.reduceEqDiff, Nat.reduceLT, true_and, List.map_cons, List.map_nil, Nat.zero_add, Nat.reduceBEq]
  rintro m vs σ3 ⟨rfl, rfl⟩
  simp -dsimp only [↓WPd, ↓wpC_block, ↓wpC_cond, WPu, Bool.false_eq_true, Bool.true_eq_false, Bool.not_true, Bool.not_false, if_true, if_false, ite_true, ite_false, Nat.reduceEqDiff, Nat.reduceLT, true_and, List.map_cons, List.map_nil, Nat.zero_add, Nat.reduceBEq, faddr_ptr, load_cells h, List.getElem?_cons_zero, List.getElem?_cons_succ, el, d0]
set_option maxHeartbeats 4000000 in
theorem alonecells_ok (c1 c2 c3 c4 : AVal) (lo : Nat) (id : Nat) (w : AVal) (es : List AVal) (qs : List (List Cel)) (h : BookC c1 c2 c3 c4 lo σ id w es qs) (hn : qs.length < 2 ^ 28) (hq : ∀ q ∈ qs, q.length < 2 ^ 28) :
    Called CU.cfg d 73 [.ptr id 0] σ fun r σ' => r = .bool true ∧ σ'[id]? = some (.cells [c1, c2, c3, w, c4]) ∧ Keeps (fun j => ∃ (i : Nat) (e : AVal), es[i]? = some e ∧ e.sid = some j) σ σ' := by
  refine called_of (fn := CU.a73) rfl (Nat.le_of_ble_eq_true rfl) ?_
  have hpl := h.rows.len
  rw [List.length_map] at hpl
  have lw := h.rows.row.sl.len
  rw [hpl] at lw
  have sub : ∀ {i : Nat} {e : AVal} {σ1 σ2 : Store}, es[i]? = some e → Keeps (fun j => e.sid = some j) σ1 σ2 → Keeps (fun j => ∃ (i : Nat) (e : AVal), es[i]? = some e ∧ e.sid = some j) σ1 σ2 := fun hi hk => hk.mono fun j _ hj => ⟨_, _, hi, hj⟩
  simp only [CU.a73]
  simp -dsimp only [↓WPd, ↓wpC_block, ↓wpC_cond, WPu, Bool.false_eq_true, Bool.true_eq_false, Bool.not_true, Bool.not_false, if_true, if_false, ite_true, ite_false, Nat.reduceEqDiff, Nat.reduceLT, true_and, List.map_cons, List.map_nil, Nat.zero_add, Nat.reduceBEq]
  -- the first loop: all are written over
  refine loop_rule2 (fun m vs σ' => ∃ (i : Nat) (xs : List (List Cel)), i ≤ qs.length ∧ m = qs.length - i ∧ vs = [.ptr id 0, .int .i64 i] ∧ BookC c1 c2 c3 c4 lo σ' id w es xs ∧ xs.length = qs.length ∧ (∀ (j : Nat) (x : List Cel), xs[j]? = some x → x.length < 2 ^ 28 ∧ (j < i → x = List.replicate x.length (mkK j))) ∧
      Keeps (fun j => ∃ (i : Nat) (e : AVal), es[i]? = some e ∧ e.sid = some j) σ σ')
    [0] (fun x vs σ' => x = .exit 0 ∧ ∃ (xs : List (List Cel)), vs = [.ptr id 0] ∧ BookC c1 c2 c3 c4 lo σ' id w es xs ∧ xs.length = qs.length ∧ (∀ (j : Nat) (x : List Cel), xs[j]? = some x → x.length < 2 ^ 28 ∧ x = List.replicate x.length (mkK j)) ∧
      Keeps (fun j => ∃ (i : Nat) (e : AVal), es[i]? = some e ∧ e.sid = some j) σ σ') qs.length
    ⟨0, qs, Nat.zero_le _, rfl, ?_, h, rfl, fun j x hx => ⟨hq x (List.mem_of_getElem? hx), fun h => by omega⟩, Keeps.refl _ _⟩ ?_ ?_
  · simp -dsimp only [↓WPd, ↓wpC_block, ↓wpC_cond, WPu, Bool.false_eq_true, Bool.true_eq_false, Bool.not_true, Bool.not_false, if_true, if_false, ite_true, ite_false, Nat.reduceEqDiff, Nat.reduceLT, true_and, List.map_cons, List.map_nil, Nat.zero_add, Nat.reduceBEq]; rfl
  · rintro m vs σ1 ⟨i, xs, hi, rfl, rfl, hb, hxl, hx, hk⟩
    simp -dsimp only [↓WPd, ↓wpC_block, ↓wpC_cond, WPu, Bool.false_eq_true, Bool.true_eq_false, Bool.not_true, Bool.not_false, if_true, if_false, ite_true, ite_false, Nat.reduceEqDiff, Nat.reduceLT, true_and, List.map_cons, List.map_nil, Nat.zero_add, Nat.reduceBEq, faddr_ptr, load_cells hb.obj, List.getElem?_cons_zero, List.getElem?_cons_succ, lw]
    refine condP_dec (fun hc => ?_) (fun hc => ?_)
    · have hi' : i < qs.length := by omega
      have hie : i < es.length := by omega
      have hei : es[i]? = some es[i] := List.getElem?_eq_getElem hie
      generalize es[i] = e at hei
      obtain ⟨m1, m2, m3⟩ := mk_opsK i (by omega)
      simp -dsimp only [↓WPd, ↓wpC_block, ↓wpC_cond, WPu, Bool.false_eq_true, Bool.true_eq_false, Bool.not_true, Bool.not_false, if_true, if_false, ite_true, ite_false, Nat.reduceEqDiff, Nat.reduceLT, true_and, List.map_cons, List.map_nil, Nat.zero_add, Nat.reduceBEq]
      refine loop_rule2 (fun m vs σ' => ∃ (k : Nat) (ys : List (List Cel)) (y : List Cel), k ≤ y.length ∧ m = y.length - k ∧ vs = [.ptr id 0, .int .i64 i, .int .i64 k] ∧ BookC c1 c2 c3 c4 lo σ' id w es ys ∧ ys.length = qs.length ∧ ys[i]? = some y ∧ y.length < 2 ^ 28 ∧ y.take k = List.replicate k (mkK i) ∧
          (∀ (j : Nat) (x : List Cel), j ≠ i → ys[j]? = some x → x.length < 2 ^ 28 ∧ (j < i → x = List.replicate x.length (mkK j))) ∧ Keeps (fun j => ∃ (i : Nat) (e : AVal), es[i]? = some e ∧ e.sid = some j) σ σ')
        [0, 3] (fun x vs σ' => x = .exit 2 ∧ vs = [.ptr id 0, .int .i64 i] ∧ ∃ ys : List (List Cel), BookC c1 c2 c3 c4 lo σ' id w es ys ∧ ys.length = qs.length ∧ (∀ (j : Nat) (x : List Cel), ys[j]? = some x → x.length < 2 ^ 28 ∧ (j < i + 1 → x = List.replicate x.length (mkK j))) ∧
          Keeps (fun j => ∃ (i : Nat) (e : AVal), es[i]? = some e ∧ e.sid = some j) σ σ') (xs[i]'(by omega)).length
        ⟨0, xs, xs[i]'(by omega), Nat.zero_le _, rfl, ?_, hb, hxl, List.getElem?_eq_getElem _, (hx i _ (List.getElem?_eq_getElem (by omega))).1, by simp, fun j x _ hj => hx j x hj, hk⟩ ?_ ?_
      · simp -dsimp only [↓WPd, ↓wpC_block, ↓wpC_cond, WPu, Bool.false_eq_true, Bool.true_eq_false, Bool.not_true, Bool.not_false, if_true, if_false, ite_true, ite_false, Nat.reduceEqDiff, Nat.reduceLT, true_and, List.map_cons, List.map_nil, Nat.zero_add, Nat.reduceBEq]; rfl
      · rintro m vs σ2 ⟨k, ys, y, hky, rfl, rfl, hb2, hyl, hyi, hy28, hyt, hyo, hk2⟩
        have oe := hb2.rows.one i e (CC y) hei (by rw [List.getElem?_map, hyi]; rfl)
        have le := oe.sl.len
        rw [CC_len] at le
        have e1 := hb2.rows.row.sl.iaddr hie .i64
        have e2 := hb2.rows.row.sl.load hie 1 false
        have hg : es[i] = e := by rw [List.getElem?_eq_getElem hie] at hei; exact Option.some.inj hei
        rw [hg, show ld e.cells 0 1 false = some e from by have := oe.sl.one; cases e <;> first | (cases this; done) | rfl] at e2
        simp -dsimp only [↓WPd, ↓wpC_block, ↓wpC_cond, WPu, Bool.false_eq_true, Bool.true_eq_false, Bool.not_true, Bool.not_false, if_true, if_false, ite_true, ite_false, Nat.reduceEqDiff, Nat.reduceLT, true_and, List.map_cons, List.map_nil, Nat.zero_add, Nat.reduceBEq, faddr_ptr, load_cells hb2.obj, List.getElem?_cons_zero, List.getElem?_cons_succ, e1, e2, le]
        refine condP_dec (fun hc => ?_) (fun hc => ?_)
        · have hk' : k < y.length := by omega
          have hkB : k < (CC y).length := by rw [CC_len]; exact hk'
          obtain ⟨σ3, st, o3, k3, -⟩ := oe.store (hb2.rows.lit i e hei) hkB (x := (mkK i).val) rfl rfl (by rw [cel_get]; rfl) (by rw [cel_get]; rfl)
          have eb : (CC y).set k (mkK i).val = CC (y.set k (mkK i)) := by simp [List.map_set]
          rw [eb] at o3
          have st' : storeV σ2 5 (addrOf 5 e k) (.agg (mkK i).cs) = some σ3 := st
          have r3 := hb2.rows.setElem hei o3 k3
          rw [← List.map_set] at r3
          have hb3 : BookC c1 c2 c3 c4 lo σ3 id w es (ys.set i (y.set k (mkK i))) := ⟨k3.get hb2.obj (oe.noCell hb2.obj), r3⟩
          simp -dsimp only [↓WPd, ↓wpC_block, ↓wpC_cond, WPu, Bool.false_eq_true, Bool.true_eq_false, Bool.not_true, Bool.not_false, if_true, if_false, ite_true, ite_false, Nat.reduceEqDiff, Nat.reduceLT, true_and, List.map_cons, List.map_nil, Nat.zero_add, Nat.reduceBEq, faddr_ptr, load_cells hb2.obj, List.getElem?_cons_zero, List.getElem?_cons_succ, e1, e2, m1, m2, m3, oe.sl.iaddr hkB, st']
          refine ⟨y.length - (k + 1), by omega, k + 1, ys.set i (y.set k (mkK i)), y.set k (mkK i), by simp; omega, by simp, ?_, hb3, by simpa using hyl, ?_, by simpa using hy28, ?_, fun j x hj hx' => ?_, ?_⟩
          · rw [wrap_i64 (by omega) (by omega), Int.natCast_add, Int.natCast_one]
          · exact List.getElem?_set_self (by omega)
          · have := take_set_succ (l := y) (y := List.replicate y.length (mkK i)) (k := k) hk' (by simpa using hk') (by rw [hyt, List.take_replicate, Nat.min_eq_left (by omega)])
            rw [List.getElem_replicate, List.take_replicate, Nat.min_eq_left (by omega)] at this
            exact this
          · rw [List.getElem?_set_ne (fun e => hj e.symm)] at hx'
            exact hyo j x hj hx'
          · exact Keeps.trans hk2 (sub hei k3) fun _ _ h => h
        · simp -dsimp only [↓WPd, ↓wpC_block, ↓wpC_cond, WPu, Bool.false_eq_true, Bool.true_eq_false, Bool.not_true, Bool.not_false, if_true, if_false, ite_true, ite_false, Nat.reduceEqDiff, Nat.reduceLT, true_and, List.map_cons, List.map_nil, Nat.zero_add, Nat.reduceBEq]
          have hk' : k = y.length := by omega
          subst hk'
          rw [List.take_length] at hyt
          refine ⟨ys, hb2, hyl, fun j x hj => ?_, hk2⟩
          by_cases hji : j = i
          · subst hji
            rw [hyi] at hj; injection hj with hj; subst hj
            exact ⟨hy28, fun _ => hyt⟩
          · obtain ⟨a1, a2⟩ := hyo j x hji hj
            exact ⟨a1, fun hlt => a2 (by omega)⟩
      · rintro x σ2 env ⟨rfl, hv, ys, hb2, hyl, hyx, hk2⟩
        simp only [List.map_cons, List.map_nil, List.cons.injEq, and_true] at hv
        obtain ⟨v0, v3⟩ := hv
        simp -dsimp only [↓WPd, ↓wpC_block, ↓wpC_cond, WPu, Bool.false_eq_true, Bool.true_eq_false, Bool.not_true, Bool.not_false, if_true, if_false, ite_true, ite_false, Nat.reduceEqDiff, Nat.reduceLT, true_and, List.map_cons, List.map_nil, Nat.zero_add, Nat.reduceBEq, v0, v3]
        refine ⟨qs.length - (i + 1), by omega, i + 1, ys, by omega, rfl, ?_, hb2, hyl, hyx, hk2⟩
        rw [wrap_i64 (by omega) (by omega), Int.natCast_add, Int.natCast_one]
    · simp -dsimp only [↓WPd, ↓wpC_block, ↓wpC_cond, WPu, Bool.false_eq_true, Bool.true_eq_false, Bool.not_true, Bool.not_false, if_true, if_false, ite_true, ite_false, Nat.reduceEqDiff, Nat.reduceLT, true_and, List.map_cons, List.map_nil, Nat.zero_add, Nat.reduceBEq]
      exact ⟨xs, hb, hxl, fun j x hj => ⟨(hx j x hj).1, (hx j x hj).2 (by have := (List.getElem?_eq_some_iff.1 hj).1; omega)⟩, hk⟩
  · rintro x σ1 env ⟨rfl, xs, hv, hb, hxl, hx, hk⟩
    simp only [List.map_cons, List.map_nil, List.cons.injEq, and_true] at hv
    simp -dsimp only [↓WPd, ↓wpC_block, ↓wpC_cond, WPu, Bool.false_eq_true, Bool.true_eq_false, Bool.not_true, Bool.not_false, if_true, if_false, ite_true, ite_false, Nat.reduceEqDiff, Nat.reduceLT, true_and, List.map_cons, List.map_nil, Nat.zero_add, Nat.reduceBEq, hv]
    have hxe : ∀ {j : Nat} {e : AVal} {x : List Cel}, es[j]? = some e → xs[j]? = some x → Own σ1 5 e (CC x) := fun {j e x} h1 h2 => hb.rows.one j e (CC x) h1 (by rw [List.getElem?_map, h2]; rfl)
    have hel : ∀ {j : Nat} {e : AVal} {s : Nat}, es[j]? = some e → e.sid = some s → s < σ1.length := fun h1 h2 => hb.rows.lt h1 h2
    refine loop_rule2 (fun m vs σ' => ∃ (i : Nat) (a : AVal) (gs : List AVal), i ≤ qs.length ∧ m = qs.length - i ∧ vs = [.ptr id 0, a, .int .i64 i] ∧ σ'[id]? = some (.cells [c1, c2, c3, w, c4]) ∧ SlOf σ' 1 w es ∧
        (∀ (j : Nat) (e : AVal) (x : List Cel), es[j]? = some e → xs[j]? = some x → SlOf σ' 5 e (CC x) ∧ (i ≤ j → Own σ' 5 e (CC x))) ∧ Own σ' 1 a gs ∧ gs.length = i ∧ Fresh σ1.length a ∧
        (∀ (j : Nat) (g : AVal) (x : List Cel), gs[j]? = some g → xs[j]? = some x → SlOf σ' 5 g (CC (x ++ List.replicate 20 (mkK j)))) ∧ Keeps (fun j => ∃ (i : Nat) (e : AVal), es[i]? = some e ∧ e.sid = some j) σ σ' ∧ σ1.length ≤ σ'.length)
      [0, 5] (fun x vs σ' => x = .exit 4 ∧ ∃ (a : AVal) (gs : List AVal), vs = [.ptr id 0, a] ∧ σ'[id]? = some (.cells [c1, c2, c3, w, c4]) ∧ SlOf σ' 1 w es ∧
        (∀ (j : Nat) (e : AVal) (x : List Cel), es[j]? = some e → xs[j]? = some x → SlOf σ' 5 e (CC x)) ∧ SlOf σ' 1 a gs ∧ gs.length = qs.length ∧
        (∀ (j : Nat) (g : AVal) (x : List Cel), gs[j]? = some g → xs[j]? = some x → SlOf σ' 5 g (CC (x ++ List.replicate 20 (mkK j)))) ∧ Keeps (fun j => ∃ (i : Nat) (e : AVal), es[i]? = some e ∧ e.sid = some j) σ σ') qs.length
      ⟨0, .nilslice, [], Nat.zero_le _, rfl, ?_, hb.obj, hb.rows.row.sl, fun j e x h1 h2 => ⟨(hxe h1 h2).sl, fun _ => hxe h1 h2⟩, Own.nil _ _, rfl, Fresh.nil _, fun j g x h => by simp at h, hk, Nat.le_refl _⟩ ?_ ?_
    · simp -dsimp only [↓WPd, ↓wpC_block, ↓wpC_cond, WPu, Bool.false_eq_true, Bool.true_eq_false, Bool.not_true, Bool.not_false, if_true, if_false, ite_true, ite_false, Nat.reduceEqDiff, Nat.reduceLT, true_and, List.map_cons, List.map_nil, Nat.zero_add, Nat.reduceBEq, hv]; rfl
    · rintro m vs σ2 ⟨i, a, gs, hi, rfl, rfl, p1, p2, p3, p4, p5, p6, p7, p8, p9⟩
      simp -dsimp only [↓WPd, ↓wpC_block, ↓wpC_cond, WPu, Bool.false_eq_true, Bool.true_eq_false, Bool.not_true, Bool.not_false, if_true, if_false, ite_true, ite_false, Nat.reduceEqDiff, Nat.reduceLT, true_and, List.map_cons, List.map_nil, Nat.zero_add, Nat.reduceBEq, faddr_ptr, load_cells p1, List.getElem?_cons_zero, List.getElem?_cons_succ, lw]
      refine condP_dec (fun hc => ?_) (fun hc => ?_)
      · have hi' : i < qs.length := by omega
        have hie : i < es.length := by omega
        have hei : es[i]? = some es[i] := List.getElem?_eq_getElem hie
        have hxi : xs[i]? = some (xs[i]'(by omega)) := List.getElem?_eq_getElem _
        generalize xs[i]'(by omega) = x at hxi
        obtain ⟨m1, m2, m3⟩ := mk_opsK i (by omega)
        have oe := (p3 i es[i] x hei hxi).2 (Nat.le_refl _)
        have hx28 := (hx i x hxi).1
        have e1 := p2.iaddr hie .i64
        have e2 := p2.load1 hie oe.sl.one 1
        simp -dsimp only [↓WPd, ↓wpC_block, ↓wpC_cond, WPu, Bool.false_eq_true, Bool.true_eq_false, Bool.not_true, Bool.not_false, if_true, if_false, ite_true, ite_false, Nat.reduceEqDiff, Nat.reduceLT, true_and, List.map_cons, List.map_nil, Nat.zero_add, Nat.reduceBEq, faddr_ptr, load_cells p1, List.getElem?_cons_zero, List.getElem?_cons_succ, e1, e2]
        generalize es[i] = e at hei oe
        refine loop_rule2 (fun m vs σ' => ∃ (k : Nat) (g : AVal), k ≤ 20 ∧ m = 20 - k ∧ vs = [.ptr id 0, a, .int .i64 i, g, .int .i64 k] ∧ Own σ' 5 g (CC (x ++ List.replicate k (mkK i))) ∧ (∀ s, g.sid = some s → e.sid = some s ∨ σ2.length ≤ s) ∧ Keeps (fun s => e.sid = some s) σ2 σ' ∧
            ∀ (sz : Nat) (u : AVal) (us : List AVal), SlOf σ2 sz u us → SlOf σ' sz u us)
          [0, 5, 6, 7] (fun y vs σ' => y = .exit 6 ∧ ∃ g : AVal, vs = [.ptr id 0, a, .int .i64 i, g] ∧ Own σ' 5 g (CC (x ++ List.replicate 20 (mkK i))) ∧ (∀ s, g.sid = some s → e.sid = some s ∨ σ2.length ≤ s) ∧ Keeps (fun s => e.sid = some s) σ2 σ' ∧
            ∀ (sz : Nat) (u : AVal) (us : List AVal), SlOf σ2 sz u us → SlOf σ' sz u us) 20
          ⟨0, e, Nat.zero_le _, rfl, ?_, by simpa using oe, fun s hs => .inl hs, Keeps.refl _ _, fun _ _ _ h => h⟩ ?_ ?_
        · simp -dsimp only [↓WPd, ↓wpC_block, ↓wpC_cond, WPu, Bool.false_eq_true, Bool.true_eq_false, Bool.not_true, Bool.not_false, if_true, if_false, ite_true, ite_false, Nat.reduceEqDiff, Nat.reduceLT, true_and, List.map_cons, List.map_nil, Nat.zero_add, Nat.reduceBEq]; rfl
        · rintro m vs σ3 ⟨k, g, hk20, rfl, rfl, og, gsid, gk, gv⟩
          simp -dsimp only [↓WPd, ↓wpC_block, ↓wpC_cond, WPu, Bool.false_eq_true, Bool.true_eq_false, Bool.not_true, Bool.not_false, if_true, if_false, ite_true, ite_false, Nat.reduceEqDiff, Nat.reduceLT, true_and, List.map_cons, List.map_nil, Nat.zero_add, Nat.reduceBEq]
          refine condP_dec (fun hc => ?_) (fun hc => ?_)
          · have hk' : k < 20 := by omega
            obtain ⟨g', σ4, b1, b2, b3, b4, _⟩ := og.append (CC [mkK i]) 48 (by rw [CC_len, CC_len]; simp; omega)
            rw [CC_app, List.append_assoc, ← List.replicate_succ'] at b2
            have b1' : appendV σ3 5 48 g [.agg (mkK i).cs] = some (g', σ4) := b1
            have f1 : fillL 5 true (List.replicate 1 (zel [AVal.int IntKind.u8 0, AVal.str [], AVal.int IntKind.i64 0, AVal.int IntKind.i64 0, AVal.int IntKind.i64 0] true)) [(0, .agg (mkK i).cs)] = some [.agg (mkK i).cs] := rfl
            have f2 : ∀ t : Nat, elems 5 σ3 (.fslice t true 5 [.agg (mkK i).cs]) = some [.agg (mkK i).cs] := fun t => rfl
            simp -dsimp only [↓WPd, ↓wpC_block, ↓wpC_cond, WPu, Bool.false_eq_true, Bool.true_eq_false, Bool.not_true, Bool.not_false, if_true, if_false, ite_true, ite_false, Nat.reduceEqDiff, Nat.reduceLT, true_and, List.map_cons, List.map_nil, Nat.zero_add, Nat.reduceBEq, m1, m2, m3, f1, f2, b1']
            refine ⟨20 - (k + 1), by omega, k + 1, g', by omega, rfl, ?_, b2, fun s hs => ?_, ?_, fun sz u us hu => og.append_view b1 (gv sz u us hu)⟩
            · rw [wrap_i64 (by omega) (by omega), Int.natCast_add, Int.natCast_one]
            · rcases b4 s hs with e | e
              · exact gsid s e
              · have := gk.1; exact .inr (by omega)
            · refine Keeps.trans gk b3 fun s hs e => ?_
              rcases gsid s e with e' | e'
              · exact e'
              · omega
          · simp -dsimp only [↓WPd, ↓wpC_block, ↓wpC_cond, WPu, Bool.false_eq_true, Bool.true_eq_false, Bool.not_true, Bool.not_false, if_true, if_false, ite_true, ite_false, Nat.reduceEqDiff, Nat.reduceLT, true_and, List.map_cons, List.map_nil, Nat.zero_add, Nat.reduceBEq]
            have hk' : k = 20 := by omega
            subst hk'
            exact ⟨g, rfl, og, gsid, gk, gv⟩
        · rintro y σ3 env ⟨rfl, g, hv, og, gsid, gk, gv⟩
          simp only [List.map_cons, List.map_nil, List.cons.injEq, and_true] at hv
          obtain ⟨v0, v5, v6, v7⟩ := hv
          have g4 : Grows σ3 σ3 := Keeps.refl _ _
          have lel : ∀ tg, elems 1 σ3 (.fslice tg true 1 [g]) = some [g] := fun tg => (SlOf.fs σ3 1 tg true [g]).els
          have oa3 : Own σ3 1 a gs := p4.keeps gk fun s hs he => by have := p6 s hs; have := hel hei he; omega
          have oa4 := oa3.grow g4
          obtain ⟨a', σ5, c1, c2, c3, c4, _⟩ := oa4.append [g] 24 (by rw [p5]; simp; omega)
          have V : ∀ {s : Nat} {u : AVal} {us : List AVal}, SlOf σ2 s u us → SlOf σ5 s u us := fun {s u us} hu => oa4.append_view c1 ((gv s _ _ hu).grow g4)
          simp -dsimp only [↓WPd, ↓wpC_block, ↓wpC_cond, WPu, Bool.false_eq_true, Bool.true_eq_false, Bool.not_true, Bool.not_false, if_true, if_false, ite_true, ite_false, Nat.reduceEqDiff, Nat.reduceLT, true_and, List.map_cons, List.map_nil, Nat.zero_add, Nat.reduceBEq, v0, v5, v6, v7, og.lit1, lel, c1]
          refine ⟨qs.length - (i + 1), by omega, i + 1, a', gs ++ [g], by omega, rfl, ?_, ?_, V p2, fun j e' x' h1 h2 => ⟨V (p3 j e' x' h1 h2).1, fun hj => ?_⟩, c2, by simp [p5], fun s hs => ?_, fun j g' x' h1 h2 => ?_, ?_, ?_⟩
          · rw [wrap_i64 (by omega) (by omega), Int.natCast_add, Int.natCast_one]
          · exact c3.get (g4.get (gk.get p1 (oe.noCell p1))) (oa4.noCell (g4.get (gk.get p1 (oe.noCell p1))))
          · refine (((p3 j e' x' h1 h2).2 (by omega)).keeps gk fun s hs he => ?_).grow g4 |>.keeps c3 fun s hs ha => ?_
            · have := hb.rows.apart j i e' e s h1 hei hs he; omega
            · have := p6 s ha; have := hel h1 hs; omega
          · rcases c4 s hs with e' | e'
            · exact p6 s e'
            · have := g4.1; have := gk.1; omega
          · by_cases hj : j < gs.length
            · rw [List.getElem?_append_left hj] at h1
              exact V (p7 j g' x' h1 h2)
            · rw [List.getElem?_append_right (by omega), List.getElem?_singleton] at h1
              split at h1
              · rename_i hj0
                injection h1 with h1
                subst h1
                have : j = i := by omega
                subst this
                rw [hxi] at h2; injection h2 with h2; subst h2
                exact oa4.append_view c1 (og.sl.grow g4)
              · cases h1
          · have k1 : Keeps (fun j => ∃ (i : Nat) (e : AVal), es[i]? = some e ∧ e.sid = some j) σ σ3 := Keeps.trans p8 (sub hei gk) fun _ _ h => h
            have k2 : Keeps (fun j => ∃ (i : Nat) (e : AVal), es[i]? = some e ∧ e.sid = some j) σ σ3 := Keeps.trans k1 (Grows.any (M := fun j => ∃ (i : Nat) (e : AVal), es[i]? = some e ∧ e.sid = some j) g4) fun _ _ h => h
            exact Keeps.trans k2 c3 fun s hs ha => by have := p6 s ha; have := hk.1; omega
          · have := gk.1; have := g4.1; have := c3.1; omega
      · simp -dsimp only [↓WPd, ↓wpC_block, ↓wpC_cond, WPu, Bool.false_eq_true, Bool.true_eq_false, Bool.not_true, Bool.not_false, if_true, if_false, ite_true, ite_false, Nat.reduceEqDiff, Nat.reduceLT, true_and, List.map_cons, List.map_nil, Nat.zero_add, Nat.reduceBEq]
        have hi' : i = qs.length := by omega
        exact ⟨a, gs, rfl, p1, p2, fun j e x h1 h2 => (p3 j e x h1 h2).1, p4.sl, by omega, p7, p8⟩
    · rintro y σ2 env ⟨rfl, a, gs, hv2, p1, p2, p3, p4, p5, p7, p8⟩
      simp only [List.map_cons, List.map_nil, List.cons.injEq, and_true] at hv2
      obtain ⟨v0, v5⟩ := hv2
      have la := p4.len
      rw [p5] at la
      simp -dsimp only [↓WPd, ↓wpC_block, ↓wpC_cond, WPu, Bool.false_eq_true, Bool.true_eq_false, Bool.not_true, Bool.not_false, if_true, if_false, ite_true, ite_false, Nat.reduceEqDiff, Nat.reduceLT, true_and, List.map_cons, List.map_nil, Nat.zero_add, Nat.reduceBEq, v0, v5]
      refine loop_rule (fun m vs σ' => ∃ i : Nat, i ≤ qs.length ∧ m = qs.length - i ∧ vs = [.ptr id 0, a, .int .i64 i] ∧ σ' = σ2) qs.length ⟨0, Nat.zero_le _, rfl, ?_, rfl⟩ ?_
      · simp -dsimp only [↓WPd, ↓wpC_block, ↓wpC_cond, WPu, Bool.false_eq_true, Bool.true_eq_false, Bool.not_true, Bool.not_false, if_true, if_false, ite_true, ite_false, Nat.reduceEqDiff, Nat.reduceLT, true_and, List.map_cons, List.map_nil, Nat.zero_add, Nat.reduceBEq, v0, v5]; rfl
      · rintro m vs σ' ⟨i, hi, rfl, rfl, rfl⟩
        simp -dsimp only [↓WPd, ↓wpC_block, ↓wpC_cond, WPu, Bool.false_eq_true, Bool.true_eq_false, Bool.not_true, Bool.not_false, if_true, if_false, ite_true, ite_false, Nat.reduceEqDiff, Nat.reduceLT, true_and, List.map_cons, List.map_nil, Nat.zero_add, Nat.reduceBEq, la]
        refine condP_dec (fun hc => ?_) (fun hc => ?_)
        · have hi' : i < qs.length := by omega
          have hie : i < es.length := by omega
          have hig : i < gs.length := by omega
          have hei : es[i]? = some es[i] := List.getElem?_eq_getElem hie
          have hgi : gs[i]? = some gs[i] := List.getElem?_eq_getElem hig
          have hxi : xs[i]? = some (xs[i]'(by omega)) := List.getElem?_eq_getElem _
          generalize xs[i]'(by omega) = x at hxi
          obtain ⟨m1, m2, m3⟩ := mk_opsK i (by omega)
          have sg := p7 i gs[i] x hgi hxi
          have se := p3 i es[i] x hei hxi
          obtain ⟨hx28, hxr⟩ := hx i x hxi
          have a1 := p4.iaddr hig .i64
          have a2 := p4.load1 hig sg.one 1
          have e1 := p2.iaddr hie .i64
          have e2 := p2.load1 hie se.one 1
          generalize gs[i] = g at *
          generalize es[i] = e at *
          have lg := sg.len
          rw [CC_len] at lg
          have le := se.len
          rw [CC_len] at le
          have hz : ∀ (k : Nat) (h : k < (CC (x ++ List.replicate 20 (mkK i))).length), (CC (x ++ List.replicate 20 (mkK i)))[k] = (mkK i).val := fun k h => by
            have e : x ++ List.replicate 20 (mkK i) = List.replicate (x.length + 20) (mkK i) := by
              rw [← List.replicate_append_replicate, ← hxr]
            rw [cel_get]; simp only [e, List.getElem_replicate]
          have hx' : ∀ (k : Nat) (h : k < (CC x).length), (CC x)[k] = (mkK i).val := fun k h => by
            rw [cel_get]
            have h' : k < x.length := by rw [CC_len] at h; exact h
            have : x[k]? = some (mkK i) := by rw [hxr, List.getElem?_replicate, if_pos h']
            rw [List.getElem?_eq_getElem h'] at this
            rw [Option.some.inj this]
          have en : eqsV [.i, .s, .i, .i, .i] (.agg (mkK i).cs) (.agg (mkK i).cs) = some true := by
            have := Cel.eqs (mkK i) (mkK i)
            rw [decide_eq_true rfl] at this; exact this
          simp -dsimp only [↓WPd, ↓wpC_block, ↓wpC_cond, WPu, Bool.false_eq_true, Bool.true_eq_false, Bool.not_true, Bool.not_false, if_true, if_false, ite_true, ite_false, Nat.reduceEqDiff, Nat.reduceLT, true_and, List.map_cons, List.map_nil, Nat.zero_add, Nat.reduceBEq]
          refine loop_rule (fun m vs σ'' => ∃ k : Nat, k ≤ (x ++ List.replicate 20 (mkK i)).length ∧ m = (x ++ List.replicate 20 (mkK i)).length - k ∧ vs = [.ptr id 0, a, .int .i64 i, .int .i64 k] ∧ σ'' = σ') (x ++ List.replicate 20 (mkK i)).length ⟨0, Nat.zero_le _, rfl, ?_, rfl⟩ ?_
          · simp -dsimp only [↓WPd, ↓wpC_block, ↓wpC_cond, WPu, Bool.false_eq_true, Bool.true_eq_false, Bool.not_true, Bool.not_false, if_true, if_false, ite_true, ite_false, Nat.reduceEqDiff, Nat.reduceLT, true_and, List.map_cons, List.map_nil, Nat.zero_add, Nat.reduceBEq]; rfl
          · rintro m vs σ'' ⟨k, hk1, rfl, rfl, rfl⟩
            simp -dsimp only [↓WPd, ↓wpC_block, ↓wpC_cond, WPu, Bool.false_eq_true, Bool.true_eq_false, Bool.not_true, Bool.not_false, if_true, if_false, ite_true, ite_false, Nat.reduceEqDiff, Nat.reduceLT, true_and, List.map_cons, List.map_nil, Nat.zero_add, Nat.reduceBEq, a1, a2, lg]
            have hzl : (x ++ List.replicate 20 (mkK i)).length < 2 ^ 40 := by simp; omega
            refine condP_dec (fun hc => ?_) (fun hc => ?_)
            · have hkz : k < (CC (x ++ List.replicate 20 (mkK i))).length := by rw [CC_len]; omega
              have lz : loadV σ'' 5 true (addrOf 5 g k) = some (.agg (mkK i).cs) := sg.loadA hkz (cs := (mkK i).cs) (by rw [hz]; rfl)
              simp -dsimp only [↓WPd, ↓wpC_block, ↓wpC_cond, WPu, Bool.false_eq_true, Bool.true_eq_false, Bool.not_true, Bool.not_false, if_true, if_false, ite_true, ite_false, Nat.reduceEqDiff, Nat.reduceLT, true_and, List.map_cons, List.map_nil, Nat.zero_add, Nat.reduceBEq, a1, a2, sg.iaddr hkz, lz, m1, m2, m3, en]
              refine ⟨(x ++ List.replicate 20 (mkK i)).length - (k + 1), by omega, k + 1, by omega, rfl, ?_⟩
              exact ⟨by rw [wrap_i64 (by omega) (by omega), Int.natCast_add, Int.natCast_one], trivial⟩
            · simp -dsimp only [↓WPd, ↓wpC_block, ↓wpC_cond, WPu, Bool.false_eq_true, Bool.true_eq_false, Bool.not_true, Bool.not_false, if_true, if_false, ite_true, ite_false, Nat.reduceEqDiff, Nat.reduceLT, true_and, List.map_cons, List.map_nil, Nat.zero_add, Nat.reduceBEq]
              refine loop_rule (fun m vs σ3 => ∃ k : Nat, k ≤ x.length ∧ m = x.length - k ∧ vs = [.ptr id 0, a, .int .i64 i, .int .i64 k] ∧ σ3 = σ'') x.length ⟨0, Nat.zero_le _, rfl, ?_, rfl⟩ ?_
              · simp -dsimp only [↓WPd, ↓wpC_block, ↓wpC_cond, WPu, Bool.false_eq_true, Bool.true_eq_false, Bool.not_true, Bool.not_false, if_true, if_false, ite_true, ite_false, Nat.reduceEqDiff, Nat.reduceLT, true_and, List.map_cons, List.map_nil, Nat.zero_add, Nat.reduceBEq]; rfl
              · rintro m vs σ3 ⟨k2, hk2', rfl, rfl, rfl⟩
                simp -dsimp only [↓WPd, ↓wpC_block, ↓wpC_cond, WPu, Bool.false_eq_true, Bool.true_eq_false, Bool.not_true, Bool.not_false, if_true, if_false, ite_true, ite_false, Nat.reduceEqDiff, Nat.reduceLT, true_and, List.map_cons, List.map_nil, Nat.zero_add, Nat.reduceBEq, faddr_ptr, load_cells p1, List.getElem?_cons_zero, List.getElem?_cons_succ, e1, e2, le]
                refine condP_dec (fun hc => ?_) (fun hc => ?_)
                · have hkx : k2 < (CC x).length := by rw [CC_len]; omega
                  have lx : loadV σ3 5 true (addrOf 5 e k2) = some (.agg (mkK i).cs) := se.loadA hkx (cs := (mkK i).cs) (by rw [hx']; rfl)
                  simp -dsimp only [↓WPd, ↓wpC_block, ↓wpC_cond, WPu, Bool.false_eq_true, Bool.true_eq_false, Bool.not_true, Bool.not_false, if_true, if_false, ite_true, ite_false, Nat.reduceEqDiff, Nat.reduceLT, true_and, List.map_cons, List.map_nil, Nat.zero_add, Nat.reduceBEq, faddr_ptr, load_cells p1, List.getElem?_cons_zero, List.getElem?_cons_succ, e1, e2, se.iaddr hkx, lx, m1, m2, m3, en]
                  refine ⟨x.length - (k2 + 1), by omega, k2 + 1, by omega, rfl, ?_⟩
                  exact ⟨by rw [wrap_i64 (by omega) (by omega), Int.natCast_add, Int.natCast_one], trivial⟩
                · simp -dsimp only [↓WPd, ↓wpC_block, ↓wpC_cond, WPu, Bool.false_eq_true, Bool.true_eq_false, Bool.not_true, Bool.not_false, if_true, if_false, ite_true, ite_false, Nat.reduceEqDiff, Nat.reduceLT, true_and, List.map_cons, List.map_nil, Nat.zero_add, Nat.reduceBEq]
                  refine ⟨qs.length - (i + 1), by omega, i + 1, by omega, rfl, ?_⟩
                  exact ⟨by rw [wrap_i64 (by omega) (by omega), Int.natCast_add, Int.natCast_one], trivial⟩
        · simp -dsimp only [↓WPd, ↓wpC_block, ↓wpC_cond, WPu, Bool.false_eq_true, Bool.true_eq_false, Bool.not_true, Bool.not_false, if_true, if_false, ite_true, ite_false, Nat.reduceEqDiff, Nat.reduceLT, true_and, List.map_cons, List.map_nil, Nat.zero_add, Nat.reduceBEq]
          exact ⟨p1, p8⟩

theorem store5 {σ : Store} {id : Nat} {cs : List AVal} (h : σ[id]? = some (.cells cs)) (hl : cs.length = 5) : storeV σ 5 (.ptr id 0) (.agg [.nilslice, .nilslice, .nilslice, .nilslice, .nilslice]) = some (σ.set id (.cells [.nilslice, .nilslice, .nilslice, .nilslice, .nilslice])) := by
  have e : splice cs 0 [.nilslice, .nilslice, .nilslice, .nilslice, .nilslice] = [.nilslice, .nilslice, .nilslice, .nilslice, .nilslice] := by
    simp only [splice, List.take_zero, List.nil_append, List.length_cons, List.length_nil]
    rw [List.drop_eq_nil_of_le (by omega), List.append_nil]
  have e1 : (AVal.agg [.nilslice, .nilslice, .nilslice, .nilslice, .nilslice]).cells = [.nilslice, .nilslice, .nilslice, .nilslice, .nilslice] := rfl
  simp only [storeV, e1, h, e]
  rw [if_pos ⟨rfl, rfl⟩, if_pos (by omega)]

end
end Go.Proofs.YtkjnanfkclijcaaDoor.Am

/-
  The statements' closed beginning, layer 8: by evaluation.
-/
namespace Go.Proofs.YtkjnanfkclijcaaDoor.Am
open Go
set_option maxRecDepth 100000

theorem live08_ran : (run CU.cfg 300 1 17 [] []).map (fun p => p.1) = some (.bool true) := by kernel_rfl
end Go.Proofs.YtkjnanfkclijcaaDoor.Am

/-
  UnifyEquations: the run.
-/
namespace Go.Proofs.YtkjnanfkclijcaaDoor.Am
open Go
set_option linter.unusedVariables false
set_option linter.unusedSimpArgs false
set_option linter.unusedSectionVars false
set_option maxRecDepth 100000

/-- both sides of an equation; of none: nothing -/
def sides (t : List Cel) : List Cel × List Cel := if isEqT t then ((args t).getD 0 [], (args t).getD 1 []) else ([], [])
theorem EqR.own {σ σ' : Store} {t : List Cel} {a b : AVal} (h : EqR σ σ' t a b) : Grows σ σ' ∧ Own σ' 5 a (CC (sides t).1) ∧ Own σ' 5 b (CC (sides t).2) ∧ Fresh σ.length a ∧ Fresh σ.length b ∧ NoLit a ∧ NoLit b ∧ ∀ j, a.sid = some j → b.sid ≠ some j := by
  obtain ⟨g, h⟩ := h
  refine ⟨g, ?_⟩
  unfold sides
  cases he : isEqT t with
  | false =>
    rw [he] at h
    obtain ⟨rfl, rfl⟩ := h
    exact ⟨Own.nil _ _, Own.nil _ _, Fresh.nil _, Fresh.nil _, trivial, trivial, fun j h => by cases h⟩
  | true =>
    rw [he] at h
    obtain ⟨x, y, h1, h2, h3, h4⟩ := h
    rw [h1]
    exact ⟨h2, h3, h4⟩

theorem args_part {L : Nat} : ∀ {f : Nat} {r : List Cel} {a : Nat} {x : List Cel}, x ∈ argsFrom L f r a → x.length ≤ r.length
  | 0, _, _, _, h => by simp [argsFrom] at h
  | f + 1, r, a, x, h => by
    simp only [argsFrom] at h
    split at h
    · simp at h
    · rcases List.mem_cons.1 h with rfl | h
      · simp [List.length_take]; omega
      · have := args_part h
        simp only [List.length_drop] at this
        omega
theorem args_short {t x : List Cel} (h : x ∈ args t) : x.length ≤ t.length := by
  unfold args at h
  split at h
  · have := args_part h; simp only [List.length_drop] at this; omega
  · simp at h
theorem sides_short (t : List Cel) : (sides t).1.length ≤ t.length ∧ (sides t).2.length ≤ t.length := by
  have key : ∀ i, ((args t).getD i []).length ≤ t.length := fun i => by
    rw [List.getD_eq_getElem?_getD]
    cases h : (args t)[i]? with
    | none => simp
    | some x => exact args_short (List.mem_of_getElem? h)
  unfold sides
  split
  · exact ⟨key 0, key 1⟩
  · simp

section
variable (d : Nat) (σ : Store)

theorem handterm_ok (l : AVal) (x : List Cel) (hx : x.length < 2 ^ 30) (hl : SlOf σ 5 l (CC x)) : Called CU.cfg d 14 [l] σ fun v σ' => HandedC σ' v x σ.length ∧ Grows σ σ' := by
  refine called_of (fn := CU.a14) rfl (Nat.le_of_ble_eq_true rfl) ?_
  simp only [CU.a14]
  simp -dsimp only [↓WPd, ↓wpC_block, ↓wpC_cond, WPu, Bool.false_eq_true, Bool.true_eq_false, Bool.not_true, Bool.not_false, if_true, if_false, ite_true, ite_false, Nat.reduceEqDiff, Nat.reduceLT, true_and, List.map_cons, List.map_nil, Nat.zero_add, Nat.reduceBEq]
  refine calledW_of (handc_ok d σ l x hx hl) ?_
  rintro v σ' h
  simp -dsimp only [↓WPd, ↓wpC_block, ↓wpC_cond, WPu, Bool.false_eq_true, Bool.true_eq_false, Bool.not_true, Bool.not_false, if_true, if_false, ite_true, ite_false, Nat.reduceEqDiff, Nat.reduceLT, true_and, List.map_cons, List.map_nil, Nat.zero_add, Nat.reduceBEq]
  exact h
theorem keptterm_ok (v l : AVal) (x : List Cel) (id : Nat) (hx : x.length < 2 ^ 30) (hv : HandedC σ v x id) (hl : SlOf σ 5 l (CC x)) : Called CU.cfg d 21 [v, l] σ fun r σ' => r = .bool true ∧ σ' = σ := by
  refine called_of (fn := CU.a21) rfl (Nat.le_of_ble_eq_true rfl) ?_
  simp only [CU.a21]
  simp -dsimp only [↓WPd, ↓wpC_block, ↓wpC_cond, WPu, Bool.false_eq_true, Bool.true_eq_false, Bool.not_true, Bool.not_false, if_true, if_false, ite_true, ite_false, Nat.reduceEqDiff, Nat.reduceLT, true_and, List.map_cons, List.map_nil, Nat.zero_add, Nat.reduceBEq]
  refine calledW_of (keptc_ok d σ v l x id hx hv hl) ?_
  rintro v σ' h
  simp -dsimp only [↓WPd, ↓wpC_block, ↓wpC_cond, WPu, Bool.false_eq_true, Bool.true_eq_false, Bool.not_true, Bool.not_false, if_true, if_false, ite_true, ite_false, Nat.reduceEqDiff, Nat.reduceLT, true_and, List.map_cons, List.map_nil, Nat.zero_add, Nat.reduceBEq]
  exact h
theorem taketerm_ok (c1 c2 c3 c4 : AVal) (lo : Nat) (id : Nat) (w e : AVal) (es : List AVal) (ps : List (List Cel)) (p : List Cel) (h : BookC c1 c2 c3 c4 lo σ id w es ps) (he : Own σ 5 e (CC p)) (fe : Fresh lo e) (hlo : lo ≤ σ.length) (le : NoLit e) (hn : ps.length < 2 ^ 30)
    (hl : ∀ j, e.sid = some j → w.sid ≠ some j) (hx : ∀ (i : Nat) (x : AVal) (j : Nat), es[i]? = some x → e.sid = some j → x.sid ≠ some j) :
    Called CU.cfg d 19 [.ptr id 0, e] σ fun _ σ' => Keeps (fun i => i = id ∨ w.sid = some i) σ σ' ∧ ∃ w', BookC c1 c2 c3 c4 lo σ' id w' (es ++ [e]) (ps ++ [p]) ∧ (∀ j, w'.sid = some j → w.sid = some j ∨ σ.length ≤ j) := by
  refine called_of (fn := CU.a19) rfl (Nat.le_of_ble_eq_true rfl) ?_
  simp only [CU.a19]
  simp -dsimp only [↓WPd, ↓wpC_block, ↓wpC_cond, WPu, Bool.false_eq_true, Bool.true_eq_false, Bool.not_true, Bool.not_false, if_true, if_false, ite_true, ite_false, Nat.reduceEqDiff, Nat.reduceLT, true_and, List.map_cons, List.map_nil, Nat.zero_add, Nat.reduceBEq]
  refine calledW_of (takecells_ok d σ c1 c2 c3 c4 lo id w e es ps p h he fe hlo le hn hl hx) ?_
  rintro v σ' h
  simp -dsimp only [↓WPd, ↓wpC_block, ↓wpC_cond, WPu, Bool.false_eq_true, Bool.true_eq_false, Bool.not_true, Bool.not_false, if_true, if_false, ite_true, ite_false, Nat.reduceEqDiff, Nat.reduceLT, true_and, List.map_cons, List.map_nil, Nat.zero_add, Nat.reduceBEq, resultsA, mapO]
  exact h

theorem alonec_ok (lo id : Nat) (w : AVal) (es : List AVal) (qs : List (List Cel)) (h : BookC .nilslice .nilslice .nilslice .nilslice lo σ id w es qs) (hn : qs.length < 2 ^ 28) (hq : ∀ q ∈ qs, q.length < 2 ^ 28) :
    Called CU.cfg d 20 [.ptr id 0] σ fun r σ' => r = .bool true ∧ Keeps (fun j => j = id ∨ ∃ (i : Nat) (e : AVal), es[i]? = some e ∧ e.sid = some j) σ σ' := by
  refine called_of (fn := CU.a20) rfl (Nat.le_of_ble_eq_true rfl) ?_
  have e1 : fillA [AVal.nilslice, .nilslice, .nilslice, .nilslice, .nilslice] [] = some [AVal.nilslice, .nilslice, .nilslice, .nilslice, .nilslice] := rfl
  simp only [CU.a20]
  simp -dsimp only [↓WPd, ↓wpC_block, ↓wpC_cond, WPu, Bool.false_eq_true, Bool.true_eq_false, Bool.not_true, Bool.not_false, if_true, if_false, ite_true, ite_false, Nat.reduceEqDiff, Nat.reduceLT, true_and, List.map_cons, List.map_nil, Nat.zero_add, Nat.reduceBEq]
  refine calledW_of (alonebytes_ok d σ id _ _ _ _ _ h.obj rfl) ?_
  rintro r σ1 ⟨rfl, rfl⟩
  simp -dsimp only [↓WPd, ↓wpC_block, ↓wpC_cond, WPu, Bool.false_eq_true, Bool.true_eq_false, Bool.not_true, Bool.not_false, if_true, if_false, ite_true, ite_false, Nat.reduceEqDiff, Nat.reduceLT, true_and, List.map_cons, List.map_nil, Nat.zero_add, Nat.reduceBEq]
  refine calledW_of (alonetexts_ok d σ1 id _ _ _ _ _ h.obj rfl) ?_
  rintro r σ2 ⟨rfl, rfl⟩
  simp -dsimp only [↓WPd, ↓wpC_block, ↓wpC_cond, WPu, Bool.false_eq_true, Bool.true_eq_false, Bool.not_true, Bool.not_false, if_true, if_false, ite_true, ite_false, Nat.reduceEqDiff, Nat.reduceLT, true_and, List.map_cons, List.map_nil, Nat.zero_add, Nat.reduceBEq]
  refine calledW_of (aloneints_ok d σ2 id _ _ _ _ _ h.obj rfl) ?_
  rintro r σ3 ⟨rfl, rfl⟩
  simp -dsimp only [↓WPd, ↓wpC_block, ↓wpC_cond, WPu, Bool.false_eq_true, Bool.true_eq_false, Bool.not_true, Bool.not_false, if_true, if_false, ite_true, ite_false, Nat.reduceEqDiff, Nat.reduceLT, true_and, List.map_cons, List.map_nil, Nat.zero_add, Nat.reduceBEq]
  refine calledW_of (alonecells_ok d σ3 _ _ _ _ lo id w es qs h hn hq) ?_
  rintro r σ4 ⟨rfl, o1, k1⟩
  simp -dsimp only [↓WPd, ↓wpC_block, ↓wpC_cond, WPu, Bool.false_eq_true, Bool.true_eq_false, Bool.not_true, Bool.not_false, if_true, if_false, ite_true, ite_false, Nat.reduceEqDiff, Nat.reduceLT, true_and, List.map_cons, List.map_nil, Nat.zero_add, Nat.reduceBEq]
  refine calledW_of (alonenames_ok d σ4 id _ _ _ _ _ o1 rfl) ?_
  rintro r σ5 ⟨rfl, rfl⟩
  simp -dsimp only [↓WPd, ↓wpC_block, ↓wpC_cond, WPu, Bool.false_eq_true, Bool.true_eq_false, Bool.not_true, Bool.not_false, if_true, if_false, ite_true, ite_false, Nat.reduceEqDiff, Nat.reduceLT, true_and, List.map_cons, List.map_nil, Nat.zero_add, Nat.reduceBEq, e1, store5 o1 rfl]
  exact Keeps.trans (k1.mono fun i _ h => .inr h) (Keeps.set _ _ _) fun i hi e => .inl e
end

set_option maxHeartbeats 4000000 in
theorem ueq_run (l : AVal) (t : List Cel) (hl : SlOf [] 5 l (CC t)) (ht : t.length < 2 ^ 26) (hi : ∀ c ∈ t, c.k < 256 ∧ c.s.length < 2 ^ 40) :
    Called CU.cfg 0 3 [l] [] fun v _ => v = .bool true := by
  refine called_of (fn := CU.a3) rfl (Nat.le_of_ble_eq_true rfl) ?_
  obtain ⟨s1, s2⟩ := sides_short t
  simp only [CU.a3]
  simp -dsimp only [↓WPd, ↓wpC_block, ↓wpC_cond, WPu, Bool.false_eq_true, Bool.true_eq_false, Bool.not_true, Bool.not_false, if_true, if_false, ite_true, ite_false, Nat.reduceEqDiff, Nat.reduceLT, true_and, List.map_cons, List.map_nil, Nat.zero_add, Nat.reduceBEq]
  refine calledW_of (handterm_ok 0 [] l t (by omega) hl) ?_
  rintro v1 σ1 ⟨hd1, g1⟩
  have hl1 := hl.grow g1
  simp -dsimp only [↓WPd, ↓wpC_block, ↓wpC_cond, WPu, Bool.false_eq_true, Bool.true_eq_false, Bool.not_true, Bool.not_false, if_true, if_false, ite_true, ite_false, Nat.reduceEqDiff, Nat.reduceLT, true_and, List.map_cons, List.map_nil, Nat.zero_add, Nat.reduceBEq]
  refine calledW_of (equation_ok 0 σ1 v1 t (by omega) hi hd1.sl) ?_
  rintro r2 σ2 ⟨a, b, rfl, he2⟩
  obtain ⟨g2, oa2, ob2, fa, fb, na, nb, ab⟩ := he2.own
  simp -dsimp only [↓WPd, ↓wpC_block, ↓wpC_cond, WPu, Bool.false_eq_true, Bool.true_eq_false, Bool.not_true, Bool.not_false, if_true, if_false, ite_true, ite_false, Nat.reduceEqDiff, Nat.reduceLT, true_and, List.map_cons, List.map_nil, Nat.zero_add, Nat.reduceBEq, List.getElem?_cons_zero, List.getElem?_cons_succ]
  refine calledW_of (requation_ok 0 σ2 l t (by omega) (hl1.grow g2)) ?_
  rintro r3 σ3 ⟨c, d, rfl, he3⟩
  obtain ⟨g3, oc3, od3, -, -, -, -, -⟩ := he3.own
  simp -dsimp only [↓WPd, ↓wpC_block, ↓wpC_cond, WPu, Bool.false_eq_true, Bool.true_eq_false, Bool.not_true, Bool.not_false, if_true, if_false, ite_true, ite_false, Nat.reduceEqDiff, Nat.reduceLT, true_and, List.map_cons, List.map_nil, Nat.zero_add, Nat.reduceBEq, List.getElem?_cons_zero, List.getElem?_cons_succ]
  refine isoW_bool live08_ran ?_
  simp -dsimp only [↓WPd, ↓wpC_block, ↓wpC_cond, WPu, Bool.false_eq_true, Bool.true_eq_false, Bool.not_true, Bool.not_false, if_true, if_false, ite_true, ite_false, Nat.reduceEqDiff, Nat.reduceLT, true_and, List.map_cons, List.map_nil, Nat.zero_add, Nat.reduceBEq]
  refine calledW_of (cequal_ok 0 σ3 a c _ _ (by omega) (oa2.grow g3).sl oc3.sl) ?_
  rintro r4 σ4 ⟨rfl, rfl⟩
  simp -dsimp only [↓WPd, ↓wpC_block, ↓wpC_cond, WPu, Bool.false_eq_true, Bool.true_eq_false, Bool.not_true, Bool.not_false, if_true, if_false, ite_true, ite_false, Nat.reduceEqDiff, Nat.reduceLT, true_and, List.map_cons, List.map_nil, Nat.zero_add, Nat.reduceBEq, decide_true]
  refine calledW_of (cequal_ok 0 σ4 b d _ _ (by omega) (ob2.grow g3).sl od3.sl) ?_
  rintro r5 σ5 ⟨rfl, rfl⟩
  have e1 : bopV true (.bool (isEqT t)) (.bool (isEqT t)) = some (.bool false) := by simp [bopV]
  have e5 : fillA [AVal.nilslice, .nilslice, .nilslice, .nilslice, .nilslice] [] = some [AVal.nilslice, .nilslice, .nilslice, .nilslice, .nilslice] := rfl
  have e6 : [AVal.nilslice, .nilslice, .nilslice, .nilslice, .nilslice].all AVal.one = true := rfl
  simp -dsimp only [↓WPd, ↓wpC_block, ↓wpC_cond, WPu, Bool.false_eq_true, Bool.true_eq_false, Bool.not_true, Bool.not_false, if_true, if_false, ite_true, ite_false, Nat.reduceEqDiff, Nat.reduceLT, true_and, List.map_cons, List.map_nil, Nat.zero_add, Nat.reduceBEq, decide_true, e1, e5, e6, cells_agg]
  -- the book
  have gb : Grows σ5 (σ5 ++ [AObj.cells [.nilslice, .nilslice, .nilslice, .nilslice, .nilslice]]) := Grows.app _ _
  have bk0 : BookC .nilslice .nilslice .nilslice .nilslice 0 (σ5 ++ [AObj.cells [.nilslice, .nilslice, .nilslice, .nilslice, .nilslice]]) σ5.length .nilslice [] [] := ⟨by simp, ORows.nil _ _ _⟩
  generalize hσb : σ5 ++ [AObj.cells [.nilslice, .nilslice, .nilslice, .nilslice, .nilslice]] = σb at gb bk0
  have oab := (oa2.grow g3).grow gb
  have obb := (ob2.grow g3).grow gb
  have lb : σ5.length < σb.length := by rw [← hσb]; simp
  have z0 : ∀ (v : AVal), Fresh 0 v := fun v j _ => Nat.zero_le _
  refine calledW_of (taketerm_ok 0 σb _ _ _ _ 0 σ5.length .nilslice a [] [] _ bk0 oab (z0 a) (Nat.zero_le _) na (by simp) (fun j _ h => by cases h) (fun i x j h => by simp at h)) ?_
  rintro r6 σ6 ⟨k6, w6, bk6, w6s⟩
  simp -dsimp only [↓WPd, ↓wpC_block, ↓wpC_cond, WPu, Bool.false_eq_true, Bool.true_eq_false, Bool.not_true, Bool.not_false, if_true, if_false, ite_true, ite_false, Nat.reduceEqDiff, Nat.reduceLT, true_and, List.map_cons, List.map_nil, Nat.zero_add, Nat.reduceBEq]
  have ob6 : Own σ6 5 b (CC (sides t).2) := obb.keeps k6 fun j hj e => by
    rcases e with e | e
    · exact absurd hj (by rw [e]; exact obb.noCell bk0.obj)
    · cases e
  refine calledW_of (taketerm_ok 0 σ6 _ _ _ _ 0 σ5.length w6 b ([] ++ [a]) ([] ++ [(sides t).1]) _ bk6 ob6 (z0 b) (Nat.zero_le _) nb (by simp) (fun j hj h => ?_) (fun i x j hx hj hs => ?_)) ?_
  · rcases w6s j h with e | e
    · cases e
    · have := obb.sl.lt hj; omega
  · have : x = a := by
      cases i with
      | zero => simpa using hx.symm
      | succ i => simp at hx
    subst this
    exact ab j hs hj
  rintro r7 σ7 ⟨k7, w7, bk7, w7s⟩
  simp -dsimp only [↓WPd, ↓wpC_block, ↓wpC_cond, WPu, Bool.false_eq_true, Bool.true_eq_false, Bool.not_true, Bool.not_false, if_true, if_false, ite_true, ite_false, Nat.reduceEqDiff, Nat.reduceLT, true_and, List.map_cons, List.map_nil, Nat.zero_add, Nat.reduceBEq]
  refine calledW_of (alonec_ok 0 σ7 0 σ5.length w7 _ _ bk7 (by simp) (fun q hq => ?_)) ?_
  · simp only [List.nil_append, List.cons_append, List.mem_cons, List.not_mem_nil, or_false] at hq
    rcases hq with rfl | rfl <;> omega
  rintro r8 σ8 ⟨rfl, k8⟩
  simp -dsimp only [↓WPd, ↓wpC_block, ↓wpC_cond, WPu, Bool.false_eq_true, Bool.true_eq_false, Bool.not_true, Bool.not_false, if_true, if_false, ite_true, ite_false, Nat.reduceEqDiff, Nat.reduceLT, true_and, List.map_cons, List.map_nil, Nat.zero_add, Nat.reduceBEq]
  have hd5 : HandedC σb v1 t ([] : Store).length := ((hd1.keep g2 (fun h => h)).keep g3 (fun h => h)).keep gb (fun h => h)
  have h0 : ([] : Store).length < σ1.length := (List.getElem?_eq_some_iff.1 hd1.obj).1
  have hlt5 : σ1.length ≤ σ5.length := Nat.le_trans g2.1 g3.1
  have hd8 : HandedC σ8 v1 t ([] : Store).length := by
    refine ((hd5.keep k6 ?_).keep k7 ?_).keep k8 ?_
    · rintro (e | e)
      · omega
      · cases e
    · rintro (e | e)
      · omega
      · rcases w6s _ e with e | e
        · cases e
        · omega
    · rintro (e | ⟨i, x, hx, hs⟩)
      · omega
      · have : x = a ∨ x = b := by
          match i, hx with
          | 0, hx => left; simpa using hx.symm
          | 1, hx => right; simpa using hx.symm
        rcases this with rfl | rfl
        · have := fa _ hs; omega
        · have := fb _ hs; omega
  refine calledW_of (keptterm_ok 0 σ8 v1 l t _ (by omega) hd8 (hl.grow (grows_nil σ8))) ?_
  rintro r9 σ9 ⟨rfl, rfl⟩
  simp -dsimp only [↓WPd, ↓wpC_block, ↓wpC_cond, WPu, Bool.false_eq_true, Bool.true_eq_false, Bool.not_true, Bool.not_false, if_true, if_false, ite_true, ite_false, Nat.reduceEqDiff, Nat.reduceLT, true_and, List.map_cons, List.map_nil, Nat.zero_add, Nat.reduceBEq]
end Go.Proofs.YtkjnanfkclijcaaDoor.Am

