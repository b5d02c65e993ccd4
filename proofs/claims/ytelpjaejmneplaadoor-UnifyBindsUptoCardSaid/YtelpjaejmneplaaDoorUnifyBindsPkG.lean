/-
  The abstract machine and the functions of the law, 7: texts put together.
-/
import Derived.Test.YtelpjaejmneplaaDoorUnifyBindsPkF
set_option linter.unusedVariables false
set_option linter.unusedSimpArgs false
set_option linter.unusedSectionVars false
set_option maxRecDepth 100000
namespace Go.Proofs.YtelpjaejmneplaaDoor.Am
open Go
section
variable (d : Nat) (σ : Store)
theorem eqsOk_bad {l : List (List Cel)} {k : Nat} (hk : k < l.length) (h : (isEqT l[k] && glob l[k]) = false) : eqsOk l = false := by
 rw [eqsOk, List.all_eq_false]
 exact ⟨l[k], List.getElem_mem hk, by rw [h]; simp⟩
set_option maxHeartbeats 2000000 in
theorem solve_ok (hv lv : AVal) (H : Hp) (n : Int) (l : List (List Cel)) (h : HeapV σ hv H) (hl : Terms σ lv l) (hsm : ∀ t ∈ l, Small t) (hn : n < 2 ^ 20) (hlen : l.length < 2 ^ 27) :
  Called CU.cfg d 19 [hv, .int .i64 n, lv] σ fun v σ' => SolvO σ σ' (solveL H n.toNat l) v := by
 refine called_of (fn := CU.a19) rfl (Nat.le_of_ble_eq_true rfl) ?_
 rw [show CU.a19.body = .seq (seqL CU.a19.body) (.seq (seqL (seqR CU.a19.body)) (.seq (seqL (seqR (seqR CU.a19.body))) (.seq (seqL (seqR (seqR (seqR CU.a19.body)))) solveT))) from rfl]
 simp only [CU.a19, seqL, seqR]
 have lv1 := hl.len
 simp -dsimp only [↓WPd, ↓wpC_block, ↓wpC_cond, WPu, Bool.false_eq_true, Bool.true_eq_false, Bool.not_true, Bool.not_false, if_true, if_false, ite_true, ite_false, Nat.reduceEqDiff, Nat.reduceLT, true_and, List.map_cons, List.map_nil, Nat.zero_add, Nat.reduceBEq, WPm, lv1]
 have g1 : Grows σ (σ ++ [AObj.cells [.int .u8 0, .nilslice, .nilslice, .int .i64 0]]) := Grows.app _ _
 have o1 : (σ ++ [AObj.cells [.int .u8 0, .nilslice, .nilslice, .int .i64 0]])[σ.length]? = some (.cells solvZ) := by simp
 have l1 : σ.length < (σ ++ [AObj.cells [.int .u8 0, .nilslice, .nilslice, .int .i64 0]]).length := by simp
 generalize σ ++ [AObj.cells [.int .u8 0, .nilslice, .nilslice, .int .i64 0]] = σ1 at g1 o1 l1
 generalize hi6 : σ.length = i6 at o1 l1
 refine loop_rule2 (fun m xs σ' => ∃ k : Nat, k ≤ l.length ∧ m = l.length - k ∧ xs = [hv, .int .i64 n, lv, .ptr i6 0, lv, .int .i64 l.length, .int .i64 (k : Nat)] ∧ Grows σ1 σ' ∧ ∀ (j : Nat) (hj : j < l.length), j < k → (isEqT l[j] && glob l[j]) = true)
  [0, 1, 2, 6] (fun x xs σ' => (x = .exit 0 ∧ xs = [hv, .int .i64 n, lv, .ptr i6 0] ∧ Grows σ1 σ' ∧ eqsOk l = true) ∨ (x = .ret ∧ xs = [hv, .int .i64 n, lv, .ptr i6 0] ∧ Grows σ σ' ∧ loadV σ' 4 true (.ptr i6 0) = some (.agg [.int .u8 2, .nilslice, .nilslice, .int .i64 0]) ∧ eqsOk l = false)) l.length
  ⟨0, Nat.zero_le _, rfl, ?_, Keeps.refl _ _, fun j _ h => by omega⟩ ?_ ?_
 ·simp -dsimp only [↓WPd, ↓wpC_block, ↓wpC_cond, WPu, Bool.false_eq_true, Bool.true_eq_false, Bool.not_true, Bool.not_false, if_true, if_false, ite_true, ite_false, Nat.reduceEqDiff, Nat.reduceLT, true_and, List.map_cons, List.map_nil, Nat.zero_add, Nat.reduceBEq]; rfl
 ·rintro m xs σ' ⟨k, hk, rfl, rfl, g, hall⟩
  simp -dsimp only [↓WPd, ↓wpC_block, ↓wpC_cond, WPu, Bool.false_eq_true, Bool.true_eq_false, Bool.not_true, Bool.not_false, if_true, if_false, ite_true, ite_false, Nat.reduceEqDiff, Nat.reduceLT, true_and, List.map_cons, List.map_nil, Nat.zero_add, Nat.reduceBEq, WPm]
  refine condP_dec (fun hc => ?_) (fun hc => ?_)
  ·have hk' : k < l.length := by omega
   obtain ⟨e, e1, e2, e3⟩ := ((hl.grow g1).grow g).at hk'
   have sm := hsm _ (List.getElem_mem hk')
   have bad : ∀ {σ'' : Store}, Grows σ1 σ'' → (isEqT l[k] && glob l[k]) = false → storeV σ'' 4 (.ptr i6 0) (.agg [.int .u8 2, .nilslice, .nilslice, .int .i64 0]) = some (σ''.set i6 (.cells [.int .u8 2, .nilslice, .nilslice, .int .i64 0])) ∧ (Grows σ (σ''.set i6 (.cells [.int .u8 2, .nilslice, .nilslice, .int .i64 0])) ∧ loadV (σ''.set i6 (.cells [.int .u8 2, .nilslice, .nilslice, .int .i64 0])) 4 true (.ptr i6 0) = some (.agg [.int .u8 2, .nilslice, .nilslice, .int .i64 0]) ∧ eqsOk l = false) :=
    fun g' hb => ⟨storeN_cells (g'.get o1) rfl rfl rfl, Keeps.trans (g1.trans g') (Keeps.set _ _ _) fun i hi e => by omega, loadN_cells (get_set (g'.get o1)) rfl, eqsOk_bad hk' hb⟩
   simp -dsimp only [↓WPd, ↓wpC_block, ↓wpC_cond, WPu, Bool.false_eq_true, Bool.true_eq_false, Bool.not_true, Bool.not_false, if_true, if_false, ite_true, ite_false, Nat.reduceEqDiff, Nat.reduceLT, true_and, List.map_cons, List.map_nil, Nat.zero_add, Nat.reduceBEq, WPm, e1, e2]
   refine calledW_of (equation_ok d σ' e l[k] sm.1 sm.2 e3) ?_
   rintro w σ2 ⟨a, b, rfl, hE⟩
   obtain ⟨g2, -, -, -⟩ := hE.own
   cases hq : isEqT l[k] with
   | false =>
    obtain ⟨b1, b2⟩ := bad (g.trans g2) (by rw [hq]; rfl)
    simp -dsimp only [↓WPd, ↓wpC_block, ↓wpC_cond, WPu, Bool.false_eq_true, Bool.true_eq_false, Bool.not_true, Bool.not_false, if_true, if_false, ite_true, ite_false, Nat.reduceEqDiff, Nat.reduceLT, true_and, List.map_cons, List.map_nil, Nat.zero_add, Nat.reduceBEq, WPm, List.getElem?_cons_zero, List.getElem?_cons_succ, clash0, b1]
    exact .inr b2
   | true =>
    simp -dsimp only [↓WPd, ↓wpC_block, ↓wpC_cond, WPu, Bool.false_eq_true, Bool.true_eq_false, Bool.not_true, Bool.not_false, if_true, if_false, ite_true, ite_false, Nat.reduceEqDiff, Nat.reduceLT, true_and, List.map_cons, List.map_nil, Nat.zero_add, Nat.reduceBEq, WPm, List.getElem?_cons_zero, List.getElem?_cons_succ]
    refine calledW_of (global_ok d σ2 e l[k] sm (e3.grow g2)) ?_
    rintro w σ3 ⟨rfl, g3⟩
    cases hg : glob l[k] with
    | false =>
     obtain ⟨b1, b2⟩ := bad ((g.trans g2).trans g3) (by rw [hq, hg]; rfl)
     simp -dsimp only [↓WPd, ↓wpC_block, ↓wpC_cond, WPu, Bool.false_eq_true, Bool.true_eq_false, Bool.not_true, Bool.not_false, if_true, if_false, ite_true, ite_false, Nat.reduceEqDiff, Nat.reduceLT, true_and, List.map_cons, List.map_nil, Nat.zero_add, Nat.reduceBEq, WPm, List.getElem?_cons_zero, List.getElem?_cons_succ, clash0, b1]
     exact .inr b2
    | true =>
     simp -dsimp only [↓WPd, ↓wpC_block, ↓wpC_cond, WPu, Bool.false_eq_true, Bool.true_eq_false, Bool.not_true, Bool.not_false, if_true, if_false, ite_true, ite_false, Nat.reduceEqDiff, Nat.reduceLT, true_and, List.map_cons, List.map_nil, Nat.zero_add, Nat.reduceBEq, WPm]
     refine ⟨l.length - (k + 1), by omega, k + 1, by omega, rfl, by rw [wrap_i64 (by omega) (by omega), Int.natCast_add, Int.natCast_one], (g.trans g2).trans g3, fun j hj hjk => ?_⟩
     by_cases e : j = k
     ·subst e; rw [hq, hg]; rfl
     ·exact hall j hj (by omega)
  ·simp -dsimp only [↓WPd, ↓wpC_block, ↓wpC_cond, WPu, Bool.false_eq_true, Bool.true_eq_false, Bool.not_true, Bool.not_false, if_true, if_false, ite_true, ite_false, Nat.reduceEqDiff, Nat.reduceLT, true_and, List.map_cons, List.map_nil, Nat.zero_add, Nat.reduceBEq]
   refine .inl ⟨g, ?_⟩
   rw [eqsOk, List.all_eq_true]
   intro t ht
   obtain ⟨j, hj, rfl⟩ := List.getElem_of_mem ht
   exact hall j hj (by omega)
 ·rintro x σ' env hx
  rcases hx with ⟨rfl, hv', g, hok⟩ | ⟨rfl, hv', g, ld, hok⟩
  ·simp only [List.map_cons, List.map_nil, List.cons.injEq, and_true] at hv'
   obtain ⟨v0, v1, v2, v6⟩ := hv'
   have hS : solveL H n.toNat l = solveN n.toNat H l [] 0 := by rw [solveL, if_pos hok]
   rw [hS]
   have heq := eqsOk_mem hok
   have h' := (h.grow g1).grow g
   have hl' := (hl.grow g1).grow g
   have lg := g.1
   rcases h' with ⟨rfl, rfl⟩ | ⟨id, mid, vs, rfl, hp⟩
   ·simp -dsimp only [↓WPd, ↓wpC_block, ↓wpC_cond, WPu, Bool.false_eq_true, Bool.true_eq_false, Bool.not_true, Bool.not_false, if_true, if_false, ite_true, ite_false, Nat.reduceEqDiff, Nat.reduceLT, true_and, List.map_cons, List.map_nil, Nat.zero_add, Nat.reduceBEq, WPm, v0]
    refine calledW_of (nofork_ok d σ') ?_
    rintro w σ2 ⟨rfl, rfl⟩
    have e : isNil .p .nilptr = some true := rfl
    simp -dsimp only [↓WPd, ↓wpC_block, ↓wpC_cond, WPu, Bool.false_eq_true, Bool.true_eq_false, Bool.not_true, Bool.not_false, if_true, if_false, ite_true, ite_false, Nat.reduceEqDiff, Nat.reduceLT, true_and, List.map_cons, List.map_nil, Nat.zero_add, Nat.reduceBEq, WPm, e]
    refine calledW_of (hnew_ok d σ2) ?_
    rintro w σ3 ⟨id, mid, rfl, hp, g3, -, -, m1, m2⟩
    simp -dsimp only [↓WPd, ↓wpC_block, ↓wpC_cond, WPu, Bool.false_eq_true, Bool.true_eq_false, Bool.not_true, Bool.not_false, if_true, if_false, ite_true, ite_false, Nat.reduceEqDiff, Nat.reduceLT, true_and, List.map_cons, List.map_nil, Nat.zero_add, Nat.reduceBEq, WPm]
    refine solve_tail d σ σ3 _ i6 id mid [] [] n lv l _ (by simp -dsimp only [↓WPd, ↓wpC_block, ↓wpC_cond, WPu, Bool.false_eq_true, Bool.true_eq_false, Bool.not_true, Bool.not_false, if_true, if_false, ite_true, ite_false, Nat.reduceEqDiff, Nat.reduceLT, true_and, List.map_cons, List.map_nil, Nat.zero_add, Nat.reduceBEq, v1]) (by simp -dsimp only [↓WPd, ↓wpC_block, ↓wpC_cond, WPu, Bool.false_eq_true, Bool.true_eq_false, Bool.not_true, Bool.not_false, if_true, if_false, ite_true, ite_false, Nat.reduceEqDiff, Nat.reduceLT, true_and, List.map_cons, List.map_nil, Nat.zero_add, Nat.reduceBEq, v2]) (by simp -dsimp only [↓WPd, ↓wpC_block, ↓wpC_cond, WPu, Bool.false_eq_true, Bool.true_eq_false, Bool.not_true, Bool.not_false, if_true, if_false, ite_true, ite_false, Nat.reduceEqDiff, Nat.reduceLT, true_and, List.map_cons, List.map_nil, Nat.zero_add, Nat.reduceBEq, v6]) (by simp -dsimp only [↓WPd, ↓wpC_block, ↓wpC_cond, WPu, Bool.false_eq_true, Bool.true_eq_false, Bool.not_true, Bool.not_false, if_true, if_false, ite_true, ite_false, Nat.reduceEqDiff, Nat.reduceLT, true_and, List.map_cons, List.map_nil, Nat.zero_add, Nat.reduceBEq]) ((g1.trans g).trans g3) hp (g3.get (g.get o1)) (by omega) (by omega) (by omega) (hl'.grow g3) heq hn hlen ?_
    intro e' σ4 v w6 ld S
    simp -dsimp only [↓WPd, ↓wpC_block, ↓wpC_cond, WPu, Bool.false_eq_true, Bool.true_eq_false, Bool.not_true, Bool.not_false, if_true, if_false, ite_true, ite_false, Nat.reduceEqDiff, Nat.reduceLT, true_and, List.map_cons, List.map_nil, Nat.zero_add, Nat.reduceBEq, WPm, w6, ld]
    exact S
   ·simp -dsimp only [↓WPd, ↓wpC_block, ↓wpC_cond, WPu, Bool.false_eq_true, Bool.true_eq_false, Bool.not_true, Bool.not_false, if_true, if_false, ite_true, ite_false, Nat.reduceEqDiff, Nat.reduceLT, true_and, List.map_cons, List.map_nil, Nat.zero_add, Nat.reduceBEq, WPm, v0]
    refine calledW_of (hfork_ok d σ' id mid vs H hp) ?_
    rintro w σ2 ⟨id', mid', rfl, hp', g2, m1, m2⟩
    simp -dsimp only [↓WPd, ↓wpC_block, ↓wpC_cond, WPu, Bool.false_eq_true, Bool.true_eq_false, Bool.not_true, Bool.not_false, if_true, if_false, ite_true, ite_false, Nat.reduceEqDiff, Nat.reduceLT, true_and, List.map_cons, List.map_nil, Nat.zero_add, Nat.reduceBEq, WPm, isnil_ptr]
    refine solve_tail d σ σ2 _ i6 id' mid' vs H n lv l _ (by simp -dsimp only [↓WPd, ↓wpC_block, ↓wpC_cond, WPu, Bool.false_eq_true, Bool.true_eq_false, Bool.not_true, Bool.not_false, if_true, if_false, ite_true, ite_false, Nat.reduceEqDiff, Nat.reduceLT, true_and, List.map_cons, List.map_nil, Nat.zero_add, Nat.reduceBEq, v1]) (by simp -dsimp only [↓WPd, ↓wpC_block, ↓wpC_cond, WPu, Bool.false_eq_true, Bool.true_eq_false, Bool.not_true, Bool.not_false, if_true, if_false, ite_true, ite_false, Nat.reduceEqDiff, Nat.reduceLT, true_and, List.map_cons, List.map_nil, Nat.zero_add, Nat.reduceBEq, v2]) (by simp -dsimp only [↓WPd, ↓wpC_block, ↓wpC_cond, WPu, Bool.false_eq_true, Bool.true_eq_false, Bool.not_true, Bool.not_false, if_true, if_false, ite_true, ite_false, Nat.reduceEqDiff, Nat.reduceLT, true_and, List.map_cons, List.map_nil, Nat.zero_add, Nat.reduceBEq, v6]) (by simp -dsimp only [↓WPd, ↓wpC_block, ↓wpC_cond, WPu, Bool.false_eq_true, Bool.true_eq_false, Bool.not_true, Bool.not_false, if_true, if_false, ite_true, ite_false, Nat.reduceEqDiff, Nat.reduceLT, true_and, List.map_cons, List.map_nil, Nat.zero_add, Nat.reduceBEq]) ((g1.trans g).trans g2) hp' (g2.get (g.get o1)) (by omega) (by omega) (by omega) (hl'.grow g2) heq hn hlen ?_
    intro e' σ4 v w6 ld S
    simp -dsimp only [↓WPd, ↓wpC_block, ↓wpC_cond, WPu, Bool.false_eq_true, Bool.true_eq_false, Bool.not_true, Bool.not_false, if_true, if_false, ite_true, ite_false, Nat.reduceEqDiff, Nat.reduceLT, true_and, List.map_cons, List.map_nil, Nat.zero_add, Nat.reduceBEq, WPm, w6, ld]
    exact S
  ·simp only [List.map_cons, List.map_nil, List.cons.injEq, and_true] at hv'
   obtain ⟨v0, v1, v2, v6⟩ := hv'
   have hS : solveL H n.toNat l = ⟨2, [], [], 0⟩ := by rw [solveL, if_neg (by rw [hok]; simp)]
   rw [hS]
   simp -dsimp only [↓WPd, ↓wpC_block, ↓wpC_cond, WPu, Bool.false_eq_true, Bool.true_eq_false, Bool.not_true, Bool.not_false, if_true, if_false, ite_true, ite_false, Nat.reduceEqDiff, Nat.reduceLT, true_and, List.map_cons, List.map_nil, Nat.zero_add, Nat.reduceBEq, WPm, v6, ld]
   exact SolvO.none g 0
end
section
variable (d : Nat) (σ : Store)
end
theorem hcell_at {σ : Store} {l : AVal} {c : Cel} {s : List Cel} (h : SlOf σ 5 l (CC (c :: s))) : iaddrV 5 l (.int .i64 0) = some (addrOf 5 l 0) ∧ loadV σ 5 true (addrOf 5 l 0) = some c.val ∧ ∃ q0 q3, faddrV 0 (addrOf 5 l 0) = some q0 ∧ loadV σ 1 false q0 = some (.int .u8 c.k) ∧ faddrV 3 (addrOf 5 l 0) = some q3 ∧ loadV σ 2 true q3 = some (nmV c.v) := by
 have hi : 0 < (CC (c :: s)).length := by simp
 have hb := (h.addr hi .i64).2
 have hb' : behind σ (addrOf 5 l 0) = some (c.cs, 0) := hb
 obtain ⟨q0, p0, b0⟩ := faddr_at hb' 0
 obtain ⟨q3, p3, b3⟩ := faddr_at hb' 3
 exact ⟨h.iaddr hi .i64, h.loadA hi (cs := c.cs) rfl, q0, q3, p0, load_at b0, p3, loadN_at b3 (by simp [Cel.cs])⟩
section
variable (d : Nat) (σ : Store)
end
end Go.Proofs.YtelpjaejmneplaaDoor.Am
