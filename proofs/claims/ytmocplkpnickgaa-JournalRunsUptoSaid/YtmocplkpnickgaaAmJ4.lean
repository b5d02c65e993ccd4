/-
  Journal: all that a disk holds.
-/
import Derived.Test.YtmocplkpnickgaaAmJ3
namespace Go.Proofs.Ytmocplkpnickgaa.Am
open Go
set_option linter.unusedVariables false
set_option linter.unusedSimpArgs false

/-- the payloads of the records that a disk holds, and the place behind the last one -/
def readL (bs : List UInt8) : List (List UInt8) × Nat :=
  match h : firstL bs with
  | none => ([], 0)
  | some q => (q :: (readL (bs.drop (8 + q.length))).1, 8 + q.length + (readL (bs.drop (8 + q.length))).2)
termination_by bs.length
decreasing_by
  all_goals
    have := firstL_len h
    simp only [List.length_drop]
    omega

theorem readL_none {bs : List UInt8} (h : firstL bs = none) : readL bs = ([], 0) := by
  rw [readL]; split
  · rfl
  · rename_i q hq; rw [h] at hq; cases hq
theorem readL_some {bs q : List UInt8} (h : firstL bs = some q) : readL bs = (q :: (readL (bs.drop (8 + q.length))).1, 8 + q.length + (readL (bs.drop (8 + q.length))).2) := by
  rw [readL]; split
  · rename_i hq; rw [h] at hq; cases hq
  · rename_i q' hq; rw [h] at hq; injection hq with hq; subst hq; rfl
theorem firstL_short {bs : List UInt8} (h : bs.length < 8) : firstL bs = none := by
  unfold firstL; rw [if_neg (by omega)]
theorem readL_le : ∀ (n : Nat) (bs : List UInt8), bs.length ≤ n → (readL bs).2 ≤ bs.length ∧ (readL bs).1.length ≤ bs.length
  | 0, bs, h => by rw [readL_none (firstL_short (by omega))]; exact ⟨by simp, by simp⟩
  | n + 1, bs, h => by
    cases hq : firstL bs with
    | none => rw [readL_none hq]; exact ⟨by simp, by simp⟩
    | some q =>
      have h1 := firstL_len hq
      have h2 := readL_le n (bs.drop (8 + q.length)) (by simp; omega)
      rw [readL_some hq]
      simp only [List.length_drop, List.length_cons] at h2 ⊢
      omega

section
variable (d : Nat) (σ : Store)

theorem tailcond {a b : Nat} (h : a ≤ b) : (if a < b then (140 : Int) else 0) = if a = b then 0 else 140 := by
  by_cases e : a = b
  · subst e; simp
  · rw [if_pos (by omega), if_neg e]

theorem read_ok (b : AVal) (bs : List UInt8) (hs : bs.length < 2 ^ 30) (hb : SlOf σ 1 b (B bs)) : Called CJ.cfg d 17 [b] σ fun v σ' => Grows σ σ' ∧
    ∃ l es, v = .tuple [l, .int .i64 (readL bs).2, .int .i64 (if (readL bs).2 = bs.length then 0 else 140)] ∧ ORows σ' σ.length 1 l es ((readL bs).1.map B) := by
  refine called_of (fn := CJ.a17) rfl (Nat.le_of_ble_eq_true rfl) ?_
  have la := hb.len
  rw [B_len] at la
  simp only [CJ.a17]
  simp -dsimp only [↓wpC_skip, ↓wpC_region, ↓wpC_drawn, ↓wpC_seq, ↓wpC_cond, ↓wpC_block, ↓wpC_loop, ↓wpC_exit, ↓wpC_ret, ↓wpOs_nil, ↓wpOs_guard, wantedA_eq, wantV_bool, wantV_hole, bq_tt, bq_ff, bq_tf, bq_ft, Bool.false_eq_true, Bool.true_eq_false, Bool.not_true, Bool.not_false, ↓seqQ_normal, ↓seqQ_exit, ↓seqQ_ret, ↓blockQ_normal, ↓blockQ_hit, ↓blockQ_miss, ↓blockQ_ret, ↓endQ_normal, ↓endQ_ret, loopQ_normal, ↓loopQ_exit, ↓loopQ_ret, res_one, res2_tmp, res3_tmp, res4_tmp, res_tmp, res_cell, ↓wpO_move, ↓wpO_pick, pickV_bool, ↓wpO_alloc, ↓wpO_box, ↓wpO_build, ↓wpO_lit, ↓wpO_litA, ↓wpO_load, ↓wpO_store, ↓wpO_nilCheck, ncV_ptr, ncV_eptr, ncV_fptr, ncV_func, ↓wpO_iop, ↓wpO_sop, ↓wpO_bop, bopV_bool, ↓wpO_eqs, ↓wpO_eqnil, ↓wpO_not, notV_bool, ↓wpO_neg, negV_int, ↓wpO_convI, ↓wpO_sliceOp, ↓wpO_substr, ↓wpO_faddr, ↓wpO_field, fieldV_agg, ↓wpO_iaddr, ↓wpO_aaddr, ↓wpO_strIdx, ↓wpO_arrIdx, ↓wpO_lenS, ↓wpO_lenStr, lenStrV_str, ↓wpO_lenM, ↓wpO_lenA, ↓wpO_capS, ↓wpO_minI, ↓wpO_maxI, ↓wpO_append, ↓wpO_appendz, ↓wpO_mkslice, ↓wpO_extract, extrV_tuple, ↓wpO_mkfunc, ↓wpO_mkmap, ↓wpO_lookup, ↓wpO_mapset, ↓wpO_mapdel, ↓wpO_mkiface, ↓wpO_callS, ↓wpO_callI, ↓wpO_callv, callvP_func, iop_add, iop_sub, iop_eql, iop_neq, iop_lss, iop_leq, iop_gtr, iop_geq, Fr_ev, Fr_get, Fr_put, Fr_len, put_none, ev_const, upd_apply, argE_zero, argE_succ, argE_nil, liveE_cons, stepP_some, optP_some, guardP_true, guardP_false, condP_true, condP_false, if_true, if_false, ite_true, ite_false, Nat.reduceEqDiff, Nat.reduceLT, true_and, List.map_cons, List.map_nil, Nat.zero_add, Nat.reduceBEq, la]
  refine loop_rule (fun m vs σ' => ∃ (n : Nat) (l : AVal) (es : List AVal) (ps : List (List UInt8)), n ≤ bs.length ∧ m = bs.length - n ∧ Grows σ σ' ∧ vs = [b, l, .int .i64 n] ∧ ORows σ' σ.length 1 l es (ps.map B) ∧
    ps.length ≤ n ∧ readL bs = (ps ++ (readL (bs.drop n)).1, n + (readL (bs.drop n)).2)) bs.length ⟨0, .nilslice, [], [], Nat.zero_le _, rfl, Keeps.refl _ _, ?_, ORows.nil _ _ _, Nat.le_refl _, by simp⟩ ?_
  · simp -dsimp only [↓wpC_skip, ↓wpC_region, ↓wpC_drawn, ↓wpC_seq, ↓wpC_cond, ↓wpC_block, ↓wpC_loop, ↓wpC_exit, ↓wpC_ret, ↓wpOs_nil, ↓wpOs_guard, wantedA_eq, wantV_bool, wantV_hole, bq_tt, bq_ff, bq_tf, bq_ft, Bool.false_eq_true, Bool.true_eq_false, Bool.not_true, Bool.not_false, ↓seqQ_normal, ↓seqQ_exit, ↓seqQ_ret, ↓blockQ_normal, ↓blockQ_hit, ↓blockQ_miss, ↓blockQ_ret, ↓endQ_normal, ↓endQ_ret, loopQ_normal, ↓loopQ_exit, ↓loopQ_ret, res_one, res2_tmp, res3_tmp, res4_tmp, res_tmp, res_cell, ↓wpO_move, ↓wpO_pick, pickV_bool, ↓wpO_alloc, ↓wpO_box, ↓wpO_build, ↓wpO_lit, ↓wpO_litA, ↓wpO_load, ↓wpO_store, ↓wpO_nilCheck, ncV_ptr, ncV_eptr, ncV_fptr, ncV_func, ↓wpO_iop, ↓wpO_sop, ↓wpO_bop, bopV_bool, ↓wpO_eqs, ↓wpO_eqnil, ↓wpO_not, notV_bool, ↓wpO_neg, negV_int, ↓wpO_convI, ↓wpO_sliceOp, ↓wpO_substr, ↓wpO_faddr, ↓wpO_field, fieldV_agg, ↓wpO_iaddr, ↓wpO_aaddr, ↓wpO_strIdx, ↓wpO_arrIdx, ↓wpO_lenS, ↓wpO_lenStr, lenStrV_str, ↓wpO_lenM, ↓wpO_lenA, ↓wpO_capS, ↓wpO_minI, ↓wpO_maxI, ↓wpO_append, ↓wpO_appendz, ↓wpO_mkslice, ↓wpO_extract, extrV_tuple, ↓wpO_mkfunc, ↓wpO_mkmap, ↓wpO_lookup, ↓wpO_mapset, ↓wpO_mapdel, ↓wpO_mkiface, ↓wpO_callS, ↓wpO_callI, ↓wpO_callv, callvP_func, iop_add, iop_sub, iop_eql, iop_neq, iop_lss, iop_leq, iop_gtr, iop_geq, Fr_ev, Fr_get, Fr_put, Fr_len, put_none, ev_const, upd_apply, argE_zero, argE_succ, argE_nil, liveE_cons, stepP_some, optP_some, guardP_true, guardP_false, condP_true, condP_false, if_true, if_false, ite_true, ite_false, Nat.reduceEqDiff, Nat.reduceLT, true_and, List.map_cons, List.map_nil, Nat.zero_add, Nat.reduceBEq]; rfl
  · rintro m vs σ1 ⟨n, l, es, ps, hn, rfl, g, rfl, ho, hpn, hr⟩
    have hb1 := hb.grow g
    simp -dsimp only [↓wpC_skip, ↓wpC_region, ↓wpC_drawn, ↓wpC_seq, ↓wpC_cond, ↓wpC_block, ↓wpC_loop, ↓wpC_exit, ↓wpC_ret, ↓wpOs_nil, ↓wpOs_guard, wantedA_eq, wantV_bool, wantV_hole, bq_tt, bq_ff, bq_tf, bq_ft, Bool.false_eq_true, Bool.true_eq_false, Bool.not_true, Bool.not_false, ↓seqQ_normal, ↓seqQ_exit, ↓seqQ_ret, ↓blockQ_normal, ↓blockQ_hit, ↓blockQ_miss, ↓blockQ_ret, ↓endQ_normal, ↓endQ_ret, loopQ_normal, ↓loopQ_exit, ↓loopQ_ret, res_one, res2_tmp, res3_tmp, res4_tmp, res_tmp, res_cell, ↓wpO_move, ↓wpO_pick, pickV_bool, ↓wpO_alloc, ↓wpO_box, ↓wpO_build, ↓wpO_lit, ↓wpO_litA, ↓wpO_load, ↓wpO_store, ↓wpO_nilCheck, ncV_ptr, ncV_eptr, ncV_fptr, ncV_func, ↓wpO_iop, ↓wpO_sop, ↓wpO_bop, bopV_bool, ↓wpO_eqs, ↓wpO_eqnil, ↓wpO_not, notV_bool, ↓wpO_neg, negV_int, ↓wpO_convI, ↓wpO_sliceOp, ↓wpO_substr, ↓wpO_faddr, ↓wpO_field, fieldV_agg, ↓wpO_iaddr, ↓wpO_aaddr, ↓wpO_strIdx, ↓wpO_arrIdx, ↓wpO_lenS, ↓wpO_lenStr, lenStrV_str, ↓wpO_lenM, ↓wpO_lenA, ↓wpO_capS, ↓wpO_minI, ↓wpO_maxI, ↓wpO_append, ↓wpO_appendz, ↓wpO_mkslice, ↓wpO_extract, extrV_tuple, ↓wpO_mkfunc, ↓wpO_mkmap, ↓wpO_lookup, ↓wpO_mapset, ↓wpO_mapdel, ↓wpO_mkiface, ↓wpO_callS, ↓wpO_callI, ↓wpO_callv, callvP_func, iop_add, iop_sub, iop_eql, iop_neq, iop_lss, iop_leq, iop_gtr, iop_geq, Fr_ev, Fr_get, Fr_put, Fr_len, put_none, ev_const, upd_apply, argE_zero, argE_succ, argE_nil, liveE_cons, stepP_some, optP_some, guardP_true, guardP_false, condP_true, condP_false, if_true, if_false, ite_true, ite_false, Nat.reduceEqDiff, Nat.reduceLT, true_and, List.map_cons, List.map_nil, Nat.zero_add, Nat.reduceBEq, la]
    refine condP_dec (fun h => ?_) (fun h => ?_)
    · have hn' : n < bs.length := by omega
      obtain ⟨x, h1, h2, h3⟩ := hb1.sub_lo (lo := n) (by rw [B_len]; omega) .i64
      rw [B_drop] at h2
      simp -dsimp only [↓wpC_skip, ↓wpC_region, ↓wpC_drawn, ↓wpC_seq, ↓wpC_cond, ↓wpC_block, ↓wpC_loop, ↓wpC_exit, ↓wpC_ret, ↓wpOs_nil, ↓wpOs_guard, wantedA_eq, wantV_bool, wantV_hole, bq_tt, bq_ff, bq_tf, bq_ft, Bool.false_eq_true, Bool.true_eq_false, Bool.not_true, Bool.not_false, ↓seqQ_normal, ↓seqQ_exit, ↓seqQ_ret, ↓blockQ_normal, ↓blockQ_hit, ↓blockQ_miss, ↓blockQ_ret, ↓endQ_normal, ↓endQ_ret, loopQ_normal, ↓loopQ_exit, ↓loopQ_ret, res_one, res2_tmp, res3_tmp, res4_tmp, res_tmp, res_cell, ↓wpO_move, ↓wpO_pick, pickV_bool, ↓wpO_alloc, ↓wpO_box, ↓wpO_build, ↓wpO_lit, ↓wpO_litA, ↓wpO_load, ↓wpO_store, ↓wpO_nilCheck, ncV_ptr, ncV_eptr, ncV_fptr, ncV_func, ↓wpO_iop, ↓wpO_sop, ↓wpO_bop, bopV_bool, ↓wpO_eqs, ↓wpO_eqnil, ↓wpO_not, notV_bool, ↓wpO_neg, negV_int, ↓wpO_convI, ↓wpO_sliceOp, ↓wpO_substr, ↓wpO_faddr, ↓wpO_field, fieldV_agg, ↓wpO_iaddr, ↓wpO_aaddr, ↓wpO_strIdx, ↓wpO_arrIdx, ↓wpO_lenS, ↓wpO_lenStr, lenStrV_str, ↓wpO_lenM, ↓wpO_lenA, ↓wpO_capS, ↓wpO_minI, ↓wpO_maxI, ↓wpO_append, ↓wpO_appendz, ↓wpO_mkslice, ↓wpO_extract, extrV_tuple, ↓wpO_mkfunc, ↓wpO_mkmap, ↓wpO_lookup, ↓wpO_mapset, ↓wpO_mapdel, ↓wpO_mkiface, ↓wpO_callS, ↓wpO_callI, ↓wpO_callv, callvP_func, iop_add, iop_sub, iop_eql, iop_neq, iop_lss, iop_leq, iop_gtr, iop_geq, Fr_ev, Fr_get, Fr_put, Fr_len, put_none, ev_const, upd_apply, argE_zero, argE_succ, argE_nil, liveE_cons, stepP_some, optP_some, guardP_true, guardP_false, condP_true, condP_false, if_true, if_false, ite_true, ite_false, Nat.reduceEqDiff, Nat.reduceLT, true_and, List.map_cons, List.map_nil, Nat.zero_add, Nat.reduceBEq, la, oev, h1]
      refine calledW_of (first_ok d σ1 x _ (by simp; omega) h2) ?_
      rintro v σ2 ⟨rfl, p, rfl, hp⟩
      simp -dsimp only [↓wpC_skip, ↓wpC_region, ↓wpC_drawn, ↓wpC_seq, ↓wpC_cond, ↓wpC_block, ↓wpC_loop, ↓wpC_exit, ↓wpC_ret, ↓wpOs_nil, ↓wpOs_guard, wantedA_eq, wantV_bool, wantV_hole, bq_tt, bq_ff, bq_tf, bq_ft, Bool.false_eq_true, Bool.true_eq_false, Bool.not_true, Bool.not_false, ↓seqQ_normal, ↓seqQ_exit, ↓seqQ_ret, ↓blockQ_normal, ↓blockQ_hit, ↓blockQ_miss, ↓blockQ_ret, ↓endQ_normal, ↓endQ_ret, loopQ_normal, ↓loopQ_exit, ↓loopQ_ret, res_one, res2_tmp, res3_tmp, res4_tmp, res_tmp, res_cell, ↓wpO_move, ↓wpO_pick, pickV_bool, ↓wpO_alloc, ↓wpO_box, ↓wpO_build, ↓wpO_lit, ↓wpO_litA, ↓wpO_load, ↓wpO_store, ↓wpO_nilCheck, ncV_ptr, ncV_eptr, ncV_fptr, ncV_func, ↓wpO_iop, ↓wpO_sop, ↓wpO_bop, bopV_bool, ↓wpO_eqs, ↓wpO_eqnil, ↓wpO_not, notV_bool, ↓wpO_neg, negV_int, ↓wpO_convI, ↓wpO_sliceOp, ↓wpO_substr, ↓wpO_faddr, ↓wpO_field, fieldV_agg, ↓wpO_iaddr, ↓wpO_aaddr, ↓wpO_strIdx, ↓wpO_arrIdx, ↓wpO_lenS, ↓wpO_lenStr, lenStrV_str, ↓wpO_lenM, ↓wpO_lenA, ↓wpO_capS, ↓wpO_minI, ↓wpO_maxI, ↓wpO_append, ↓wpO_appendz, ↓wpO_mkslice, ↓wpO_extract, extrV_tuple, ↓wpO_mkfunc, ↓wpO_mkmap, ↓wpO_lookup, ↓wpO_mapset, ↓wpO_mapdel, ↓wpO_mkiface, ↓wpO_callS, ↓wpO_callI, ↓wpO_callv, callvP_func, iop_add, iop_sub, iop_eql, iop_neq, iop_lss, iop_leq, iop_gtr, iop_geq, Fr_ev, Fr_get, Fr_put, Fr_len, put_none, ev_const, upd_apply, argE_zero, argE_succ, argE_nil, liveE_cons, stepP_some, optP_some, guardP_true, guardP_false, condP_true, condP_false, if_true, if_false, ite_true, ite_false, Nat.reduceEqDiff, Nat.reduceLT, true_and, List.map_cons, List.map_nil, Nat.zero_add, Nat.reduceBEq, List.getElem?_cons_zero, List.getElem?_cons_succ]
      cases hq : firstL (bs.drop n) with
      | none =>
        simp -dsimp only [↓wpC_skip, ↓wpC_region, ↓wpC_drawn, ↓wpC_seq, ↓wpC_cond, ↓wpC_block, ↓wpC_loop, ↓wpC_exit, ↓wpC_ret, ↓wpOs_nil, ↓wpOs_guard, wantedA_eq, wantV_bool, wantV_hole, bq_tt, bq_ff, bq_tf, bq_ft, Bool.false_eq_true, Bool.true_eq_false, Bool.not_true, Bool.not_false, ↓seqQ_normal, ↓seqQ_exit, ↓seqQ_ret, ↓blockQ_normal, ↓blockQ_hit, ↓blockQ_miss, ↓blockQ_ret, ↓endQ_normal, ↓endQ_ret, loopQ_normal, ↓loopQ_exit, ↓loopQ_ret, res_one, res2_tmp, res3_tmp, res4_tmp, res_tmp, res_cell, ↓wpO_move, ↓wpO_pick, pickV_bool, ↓wpO_alloc, ↓wpO_box, ↓wpO_build, ↓wpO_lit, ↓wpO_litA, ↓wpO_load, ↓wpO_store, ↓wpO_nilCheck, ncV_ptr, ncV_eptr, ncV_fptr, ncV_func, ↓wpO_iop, ↓wpO_sop, ↓wpO_bop, bopV_bool, ↓wpO_eqs, ↓wpO_eqnil, ↓wpO_not, notV_bool, ↓wpO_neg, negV_int, ↓wpO_convI, ↓wpO_sliceOp, ↓wpO_substr, ↓wpO_faddr, ↓wpO_field, fieldV_agg, ↓wpO_iaddr, ↓wpO_aaddr, ↓wpO_strIdx, ↓wpO_arrIdx, ↓wpO_lenS, ↓wpO_lenStr, lenStrV_str, ↓wpO_lenM, ↓wpO_lenA, ↓wpO_capS, ↓wpO_minI, ↓wpO_maxI, ↓wpO_append, ↓wpO_appendz, ↓wpO_mkslice, ↓wpO_extract, extrV_tuple, ↓wpO_mkfunc, ↓wpO_mkmap, ↓wpO_lookup, ↓wpO_mapset, ↓wpO_mapdel, ↓wpO_mkiface, ↓wpO_callS, ↓wpO_callI, ↓wpO_callv, callvP_func, iop_add, iop_sub, iop_eql, iop_neq, iop_lss, iop_leq, iop_gtr, iop_geq, Fr_ev, Fr_get, Fr_put, Fr_len, put_none, ev_const, upd_apply, argE_zero, argE_succ, argE_nil, liveE_cons, stepP_some, optP_some, guardP_true, guardP_false, condP_true, condP_false, if_true, if_false, ite_true, ite_false, Nat.reduceEqDiff, Nat.reduceLT, true_and, List.map_cons, List.map_nil, Nat.zero_add, Nat.reduceBEq, Option.isSome]
        rw [readL_none hq] at hr
        rw [hr]
        refine ⟨g, l, es, ?_, by simpa using ho⟩
        rw [if_neg (by simp; omega)]; rfl
      | some q =>
        obtain ⟨p1, p2⟩ := hp q hq
        have hql := firstL_len hq
        simp only [List.length_drop] at hql
        simp -dsimp only [↓wpC_skip, ↓wpC_region, ↓wpC_drawn, ↓wpC_seq, ↓wpC_cond, ↓wpC_block, ↓wpC_loop, ↓wpC_exit, ↓wpC_ret, ↓wpOs_nil, ↓wpOs_guard, wantedA_eq, wantV_bool, wantV_hole, bq_tt, bq_ff, bq_tf, bq_ft, Bool.false_eq_true, Bool.true_eq_false, Bool.not_true, Bool.not_false, ↓seqQ_normal, ↓seqQ_exit, ↓seqQ_ret, ↓blockQ_normal, ↓blockQ_hit, ↓blockQ_miss, ↓blockQ_ret, ↓endQ_normal, ↓endQ_ret, loopQ_normal, ↓loopQ_exit, ↓loopQ_ret, res_one, res2_tmp, res3_tmp, res4_tmp, res_tmp, res_cell, ↓wpO_move, ↓wpO_pick, pickV_bool, ↓wpO_alloc, ↓wpO_box, ↓wpO_build, ↓wpO_lit, ↓wpO_litA, ↓wpO_load, ↓wpO_store, ↓wpO_nilCheck, ncV_ptr, ncV_eptr, ncV_fptr, ncV_func, ↓wpO_iop, ↓wpO_sop, ↓wpO_bop, bopV_bool, ↓wpO_eqs, ↓wpO_eqnil, ↓wpO_not, notV_bool, ↓wpO_neg, negV_int, ↓wpO_convI, ↓wpO_sliceOp, ↓wpO_substr, ↓wpO_faddr, ↓wpO_field, fieldV_agg, ↓wpO_iaddr, ↓wpO_aaddr, ↓wpO_strIdx, ↓wpO_arrIdx, ↓wpO_lenS, ↓wpO_lenStr, lenStrV_str, ↓wpO_lenM, ↓wpO_lenA, ↓wpO_capS, ↓wpO_minI, ↓wpO_maxI, ↓wpO_append, ↓wpO_appendz, ↓wpO_mkslice, ↓wpO_extract, extrV_tuple, ↓wpO_mkfunc, ↓wpO_mkmap, ↓wpO_lookup, ↓wpO_mapset, ↓wpO_mapdel, ↓wpO_mkiface, ↓wpO_callS, ↓wpO_callI, ↓wpO_callv, callvP_func, iop_add, iop_sub, iop_eql, iop_neq, iop_lss, iop_leq, iop_gtr, iop_geq, Fr_ev, Fr_get, Fr_put, Fr_len, put_none, ev_const, upd_apply, argE_zero, argE_succ, argE_nil, liveE_cons, stepP_some, optP_some, guardP_true, guardP_false, condP_true, condP_false, if_true, if_false, ite_true, ite_false, Nat.reduceEqDiff, Nat.reduceLT, true_and, List.map_cons, List.map_nil, Nat.zero_add, Nat.reduceBEq, Option.isSome]
        refine calledW_of (clone_ok d σ2 p q (by omega) p1) ?_
        rintro e σ3 ⟨g3, oe, fe, le⟩
        have e1 : fillL 1 false (List.replicate 1 (zel [AVal.nilslice] false)) [(0, e)] = some [e] := by
          rcases oe.own with ⟨rfl, _⟩ | ⟨t, rfl⟩ | ⟨id, ep, off, cap, xs, epo, fl, rfl, _⟩ <;> simp
        simp -dsimp only [↓wpC_skip, ↓wpC_region, ↓wpC_drawn, ↓wpC_seq, ↓wpC_cond, ↓wpC_block, ↓wpC_loop, ↓wpC_exit, ↓wpC_ret, ↓wpOs_nil, ↓wpOs_guard, wantedA_eq, wantV_bool, wantV_hole, bq_tt, bq_ff, bq_tf, bq_ft, Bool.false_eq_true, Bool.true_eq_false, Bool.not_true, Bool.not_false, ↓seqQ_normal, ↓seqQ_exit, ↓seqQ_ret, ↓blockQ_normal, ↓blockQ_hit, ↓blockQ_miss, ↓blockQ_ret, ↓endQ_normal, ↓endQ_ret, loopQ_normal, ↓loopQ_exit, ↓loopQ_ret, res_one, res2_tmp, res3_tmp, res4_tmp, res_tmp, res_cell, ↓wpO_move, ↓wpO_pick, pickV_bool, ↓wpO_alloc, ↓wpO_box, ↓wpO_build, ↓wpO_lit, ↓wpO_litA, ↓wpO_load, ↓wpO_store, ↓wpO_nilCheck, ncV_ptr, ncV_eptr, ncV_fptr, ncV_func, ↓wpO_iop, ↓wpO_sop, ↓wpO_bop, bopV_bool, ↓wpO_eqs, ↓wpO_eqnil, ↓wpO_not, notV_bool, ↓wpO_neg, negV_int, ↓wpO_convI, ↓wpO_sliceOp, ↓wpO_substr, ↓wpO_faddr, ↓wpO_field, fieldV_agg, ↓wpO_iaddr, ↓wpO_aaddr, ↓wpO_strIdx, ↓wpO_arrIdx, ↓wpO_lenS, ↓wpO_lenStr, lenStrV_str, ↓wpO_lenM, ↓wpO_lenA, ↓wpO_capS, ↓wpO_minI, ↓wpO_maxI, ↓wpO_append, ↓wpO_appendz, ↓wpO_mkslice, ↓wpO_extract, extrV_tuple, ↓wpO_mkfunc, ↓wpO_mkmap, ↓wpO_lookup, ↓wpO_mapset, ↓wpO_mapdel, ↓wpO_mkiface, ↓wpO_callS, ↓wpO_callI, ↓wpO_callv, callvP_func, iop_add, iop_sub, iop_eql, iop_neq, iop_lss, iop_leq, iop_gtr, iop_geq, Fr_ev, Fr_get, Fr_put, Fr_len, put_none, ev_const, upd_apply, argE_zero, argE_succ, argE_nil, liveE_cons, stepP_some, optP_some, guardP_true, guardP_false, condP_true, condP_false, if_true, if_false, ite_true, ite_false, Nat.reduceEqDiff, Nat.reduceLT, true_and, List.map_cons, List.map_nil, Nat.zero_add, Nat.reduceBEq, e1]
        have g4 : Grows σ3 (σ3 ++ [.arr 1 [e] 0 0]) := Grows.app _ _
        obtain ⟨l', σ5, a1, a2, a3⟩ := ho.push g.1 (g3.trans g4) (oe.grow g4) fe le 24 (by have := ho.len; simp at this; omega)
        have lp := p1.len
        rw [B_len] at lp
        simp -dsimp only [↓wpC_skip, ↓wpC_region, ↓wpC_drawn, ↓wpC_seq, ↓wpC_cond, ↓wpC_block, ↓wpC_loop, ↓wpC_exit, ↓wpC_ret, ↓wpOs_nil, ↓wpOs_guard, wantedA_eq, wantV_bool, wantV_hole, bq_tt, bq_ff, bq_tf, bq_ft, Bool.false_eq_true, Bool.true_eq_false, Bool.not_true, Bool.not_false, ↓seqQ_normal, ↓seqQ_exit, ↓seqQ_ret, ↓blockQ_normal, ↓blockQ_hit, ↓blockQ_miss, ↓blockQ_ret, ↓endQ_normal, ↓endQ_ret, loopQ_normal, ↓loopQ_exit, ↓loopQ_ret, res_one, res2_tmp, res3_tmp, res4_tmp, res_tmp, res_cell, ↓wpO_move, ↓wpO_pick, pickV_bool, ↓wpO_alloc, ↓wpO_box, ↓wpO_build, ↓wpO_lit, ↓wpO_litA, ↓wpO_load, ↓wpO_store, ↓wpO_nilCheck, ncV_ptr, ncV_eptr, ncV_fptr, ncV_func, ↓wpO_iop, ↓wpO_sop, ↓wpO_bop, bopV_bool, ↓wpO_eqs, ↓wpO_eqnil, ↓wpO_not, notV_bool, ↓wpO_neg, negV_int, ↓wpO_convI, ↓wpO_sliceOp, ↓wpO_substr, ↓wpO_faddr, ↓wpO_field, fieldV_agg, ↓wpO_iaddr, ↓wpO_aaddr, ↓wpO_strIdx, ↓wpO_arrIdx, ↓wpO_lenS, ↓wpO_lenStr, lenStrV_str, ↓wpO_lenM, ↓wpO_lenA, ↓wpO_capS, ↓wpO_minI, ↓wpO_maxI, ↓wpO_append, ↓wpO_appendz, ↓wpO_mkslice, ↓wpO_extract, extrV_tuple, ↓wpO_mkfunc, ↓wpO_mkmap, ↓wpO_lookup, ↓wpO_mapset, ↓wpO_mapdel, ↓wpO_mkiface, ↓wpO_callS, ↓wpO_callI, ↓wpO_callv, callvP_func, iop_add, iop_sub, iop_eql, iop_neq, iop_lss, iop_leq, iop_gtr, iop_geq, Fr_ev, Fr_get, Fr_put, Fr_len, put_none, ev_const, upd_apply, argE_zero, argE_succ, argE_nil, liveE_cons, stepP_some, optP_some, guardP_true, guardP_false, condP_true, condP_false, if_true, if_false, ite_true, ite_false, Nat.reduceEqDiff, Nat.reduceLT, true_and, List.map_cons, List.map_nil, Nat.zero_add, Nat.reduceBEq, lit_elems σ3 1 [e] 1 rfl, a1, lp]
        have w1 : IntKind.i64.wrap (8 + (q.length : Int)) = ((8 + q.length : Nat) : Int) := by rw [wrap_i64 (by omega) (by omega)]; omega
        have w2 : IntKind.i64.wrap ((n : Int) + ((8 + q.length : Nat) : Int)) = ((n + (8 + q.length) : Nat) : Int) := by rw [wrap_i64 (by omega) (by omega)]; omega
        rw [w1, w2]
        refine ⟨bs.length - (n + (8 + q.length)), by omega, n + (8 + q.length), l', es ++ [e], ps ++ [q], by omega, rfl, ?_, rfl, by simpa using a2, by simp; omega, ?_⟩
        · exact Keeps.trans (g.trans (g3.trans g4)) a3 fun i hi h => by omega
        · rw [readL_some hq, List.drop_drop] at hr
          rw [hr]
          simp [Nat.add_assoc]
    · have hn' : n = bs.length := by omega
      subst hn'
      simp -dsimp only [↓wpC_skip, ↓wpC_region, ↓wpC_drawn, ↓wpC_seq, ↓wpC_cond, ↓wpC_block, ↓wpC_loop, ↓wpC_exit, ↓wpC_ret, ↓wpOs_nil, ↓wpOs_guard, wantedA_eq, wantV_bool, wantV_hole, bq_tt, bq_ff, bq_tf, bq_ft, Bool.false_eq_true, Bool.true_eq_false, Bool.not_true, Bool.not_false, ↓seqQ_normal, ↓seqQ_exit, ↓seqQ_ret, ↓blockQ_normal, ↓blockQ_hit, ↓blockQ_miss, ↓blockQ_ret, ↓endQ_normal, ↓endQ_ret, loopQ_normal, ↓loopQ_exit, ↓loopQ_ret, res_one, res2_tmp, res3_tmp, res4_tmp, res_tmp, res_cell, ↓wpO_move, ↓wpO_pick, pickV_bool, ↓wpO_alloc, ↓wpO_box, ↓wpO_build, ↓wpO_lit, ↓wpO_litA, ↓wpO_load, ↓wpO_store, ↓wpO_nilCheck, ncV_ptr, ncV_eptr, ncV_fptr, ncV_func, ↓wpO_iop, ↓wpO_sop, ↓wpO_bop, bopV_bool, ↓wpO_eqs, ↓wpO_eqnil, ↓wpO_not, notV_bool, ↓wpO_neg, negV_int, ↓wpO_convI, ↓wpO_sliceOp, ↓wpO_substr, ↓wpO_faddr, ↓wpO_field, fieldV_agg, ↓wpO_iaddr, ↓wpO_aaddr, ↓wpO_strIdx, ↓wpO_arrIdx, ↓wpO_lenS, ↓wpO_lenStr, lenStrV_str, ↓wpO_lenM, ↓wpO_lenA, ↓wpO_capS, ↓wpO_minI, ↓wpO_maxI, ↓wpO_append, ↓wpO_appendz, ↓wpO_mkslice, ↓wpO_extract, extrV_tuple, ↓wpO_mkfunc, ↓wpO_mkmap, ↓wpO_lookup, ↓wpO_mapset, ↓wpO_mapdel, ↓wpO_mkiface, ↓wpO_callS, ↓wpO_callI, ↓wpO_callv, callvP_func, iop_add, iop_sub, iop_eql, iop_neq, iop_lss, iop_leq, iop_gtr, iop_geq, Fr_ev, Fr_get, Fr_put, Fr_len, put_none, ev_const, upd_apply, argE_zero, argE_succ, argE_nil, liveE_cons, stepP_some, optP_some, guardP_true, guardP_false, condP_true, condP_false, if_true, if_false, ite_true, ite_false, Nat.reduceEqDiff, Nat.reduceLT, true_and, List.map_cons, List.map_nil, Nat.zero_add, Nat.reduceBEq]
      rw [List.drop_length, readL_none (bs := []) (firstL_short (by simp))] at hr
      rw [hr]
      refine ⟨g, l, es, ?_, by simpa using ho⟩
      rw [if_pos (by simp)]; rfl
end
end Go.Proofs.Ytmocplkpnickgaa.Am
