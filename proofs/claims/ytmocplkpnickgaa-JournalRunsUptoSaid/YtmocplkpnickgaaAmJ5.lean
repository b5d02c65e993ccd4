/-
  Journal: rows of payloads held against each other; records one behind the other.
-/
import Derived.Test.YtmocplkpnickgaaAmJ4
namespace Go.Proofs.Ytmocplkpnickgaa.Am
open Go
set_option linter.unusedVariables false
set_option linter.unusedSimpArgs false

section
variable (d : Nat) (σ : Store)

theorem samerows_ok (a b : AVal) (es fs : List AVal) (x y : List (List UInt8)) (hx : x.length < 2 ^ 40) (hs : ∀ p ∈ x, p.length < 2 ^ 40) (ha : SRows σ 1 a es (x.map B)) (hb : SRows σ 1 b fs (y.map B)) :
    Called CJ.cfg d 23 [a, b] σ fun v σ' => v = .bool (decide (x = y)) ∧ σ' = σ := by
  refine called_of (fn := CJ.a23) rfl (Nat.le_of_ble_eq_true rfl) ?_
  have la := ha.row.len
  have lb := hb.row.len
  rw [ha.len, List.length_map] at la
  rw [hb.len, List.length_map] at lb
  simp only [CJ.a23]
  simp -dsimp only [↓wpC_skip, ↓wpC_region, ↓wpC_drawn, ↓wpC_seq, ↓wpC_cond, ↓wpC_block, ↓wpC_loop, ↓wpC_exit, ↓wpC_ret, ↓wpOs_nil, ↓wpOs_guard, wantedA_eq, wantV_bool, wantV_hole, bq_tt, bq_ff, bq_tf, bq_ft, Bool.false_eq_true, Bool.true_eq_false, Bool.not_true, Bool.not_false, ↓seqQ_normal, ↓seqQ_exit, ↓seqQ_ret, ↓blockQ_normal, ↓blockQ_hit, ↓blockQ_miss, ↓blockQ_ret, ↓endQ_normal, ↓endQ_ret, loopQ_normal, ↓loopQ_exit, ↓loopQ_ret, res_one, res2_tmp, res3_tmp, res4_tmp, res_tmp, res_cell, ↓wpO_move, ↓wpO_pick, pickV_bool, ↓wpO_alloc, ↓wpO_box, ↓wpO_build, ↓wpO_lit, ↓wpO_litA, ↓wpO_load, ↓wpO_store, ↓wpO_nilCheck, ncV_ptr, ncV_eptr, ncV_fptr, ncV_func, ↓wpO_iop, ↓wpO_sop, ↓wpO_bop, bopV_bool, ↓wpO_eqs, ↓wpO_eqnil, ↓wpO_not, notV_bool, ↓wpO_neg, negV_int, ↓wpO_convI, ↓wpO_sliceOp, ↓wpO_substr, ↓wpO_faddr, ↓wpO_field, fieldV_agg, ↓wpO_iaddr, ↓wpO_aaddr, ↓wpO_strIdx, ↓wpO_arrIdx, ↓wpO_lenS, ↓wpO_lenStr, lenStrV_str, ↓wpO_lenM, ↓wpO_lenA, ↓wpO_capS, ↓wpO_minI, ↓wpO_maxI, ↓wpO_append, ↓wpO_appendz, ↓wpO_mkslice, ↓wpO_extract, extrV_tuple, ↓wpO_mkfunc, ↓wpO_mkmap, ↓wpO_lookup, ↓wpO_mapset, ↓wpO_mapdel, ↓wpO_mkiface, ↓wpO_callS, ↓wpO_callI, ↓wpO_callv, callvP_func, iop_add, iop_sub, iop_eql, iop_neq, iop_lss, iop_leq, iop_gtr, iop_geq, Fr_ev, Fr_get, Fr_put, Fr_len, put_none, ev_const, upd_apply, argE_zero, argE_succ, argE_nil, liveE_cons, stepP_some, optP_some, guardP_true, guardP_false, condP_true, condP_false, if_true, if_false, ite_true, ite_false, Nat.reduceEqDiff, Nat.reduceLT, true_and, List.map_cons, List.map_nil, Nat.zero_add, Nat.reduceBEq, la, lb]
  refine condP_intro (fun h => ?_) (fun h => ?_)
  · have h' : x.length ≠ y.length := fun e => by rw [e] at h; simp at h
    simp -dsimp only [↓wpC_skip, ↓wpC_region, ↓wpC_drawn, ↓wpC_seq, ↓wpC_cond, ↓wpC_block, ↓wpC_loop, ↓wpC_exit, ↓wpC_ret, ↓wpOs_nil, ↓wpOs_guard, wantedA_eq, wantV_bool, wantV_hole, bq_tt, bq_ff, bq_tf, bq_ft, Bool.false_eq_true, Bool.true_eq_false, Bool.not_true, Bool.not_false, ↓seqQ_normal, ↓seqQ_exit, ↓seqQ_ret, ↓blockQ_normal, ↓blockQ_hit, ↓blockQ_miss, ↓blockQ_ret, ↓endQ_normal, ↓endQ_ret, loopQ_normal, ↓loopQ_exit, ↓loopQ_ret, res_one, res2_tmp, res3_tmp, res4_tmp, res_tmp, res_cell, ↓wpO_move, ↓wpO_pick, pickV_bool, ↓wpO_alloc, ↓wpO_box, ↓wpO_build, ↓wpO_lit, ↓wpO_litA, ↓wpO_load, ↓wpO_store, ↓wpO_nilCheck, ncV_ptr, ncV_eptr, ncV_fptr, ncV_func, ↓wpO_iop, ↓wpO_sop, ↓wpO_bop, bopV_bool, ↓wpO_eqs, ↓wpO_eqnil, ↓wpO_not, notV_bool, ↓wpO_neg, negV_int, ↓wpO_convI, ↓wpO_sliceOp, ↓wpO_substr, ↓wpO_faddr, ↓wpO_field, fieldV_agg, ↓wpO_iaddr, ↓wpO_aaddr, ↓wpO_strIdx, ↓wpO_arrIdx, ↓wpO_lenS, ↓wpO_lenStr, lenStrV_str, ↓wpO_lenM, ↓wpO_lenA, ↓wpO_capS, ↓wpO_minI, ↓wpO_maxI, ↓wpO_append, ↓wpO_appendz, ↓wpO_mkslice, ↓wpO_extract, extrV_tuple, ↓wpO_mkfunc, ↓wpO_mkmap, ↓wpO_lookup, ↓wpO_mapset, ↓wpO_mapdel, ↓wpO_mkiface, ↓wpO_callS, ↓wpO_callI, ↓wpO_callv, callvP_func, iop_add, iop_sub, iop_eql, iop_neq, iop_lss, iop_leq, iop_gtr, iop_geq, Fr_ev, Fr_get, Fr_put, Fr_len, put_none, ev_const, upd_apply, argE_zero, argE_succ, argE_nil, liveE_cons, stepP_some, optP_some, guardP_true, guardP_false, condP_true, condP_false, if_true, if_false, ite_true, ite_false, Nat.reduceEqDiff, Nat.reduceLT, true_and, List.map_cons, List.map_nil, Nat.zero_add, Nat.reduceBEq]
    have : x ≠ y := fun e => h' (by rw [e])
    simp [this]
  · have h' : x.length = y.length := by simp at h; omega
    simp -dsimp only [↓wpC_skip, ↓wpC_region, ↓wpC_drawn, ↓wpC_seq, ↓wpC_cond, ↓wpC_block, ↓wpC_loop, ↓wpC_exit, ↓wpC_ret, ↓wpOs_nil, ↓wpOs_guard, wantedA_eq, wantV_bool, wantV_hole, bq_tt, bq_ff, bq_tf, bq_ft, Bool.false_eq_true, Bool.true_eq_false, Bool.not_true, Bool.not_false, ↓seqQ_normal, ↓seqQ_exit, ↓seqQ_ret, ↓blockQ_normal, ↓blockQ_hit, ↓blockQ_miss, ↓blockQ_ret, ↓endQ_normal, ↓endQ_ret, loopQ_normal, ↓loopQ_exit, ↓loopQ_ret, res_one, res2_tmp, res3_tmp, res4_tmp, res_tmp, res_cell, ↓wpO_move, ↓wpO_pick, pickV_bool, ↓wpO_alloc, ↓wpO_box, ↓wpO_build, ↓wpO_lit, ↓wpO_litA, ↓wpO_load, ↓wpO_store, ↓wpO_nilCheck, ncV_ptr, ncV_eptr, ncV_fptr, ncV_func, ↓wpO_iop, ↓wpO_sop, ↓wpO_bop, bopV_bool, ↓wpO_eqs, ↓wpO_eqnil, ↓wpO_not, notV_bool, ↓wpO_neg, negV_int, ↓wpO_convI, ↓wpO_sliceOp, ↓wpO_substr, ↓wpO_faddr, ↓wpO_field, fieldV_agg, ↓wpO_iaddr, ↓wpO_aaddr, ↓wpO_strIdx, ↓wpO_arrIdx, ↓wpO_lenS, ↓wpO_lenStr, lenStrV_str, ↓wpO_lenM, ↓wpO_lenA, ↓wpO_capS, ↓wpO_minI, ↓wpO_maxI, ↓wpO_append, ↓wpO_appendz, ↓wpO_mkslice, ↓wpO_extract, extrV_tuple, ↓wpO_mkfunc, ↓wpO_mkmap, ↓wpO_lookup, ↓wpO_mapset, ↓wpO_mapdel, ↓wpO_mkiface, ↓wpO_callS, ↓wpO_callI, ↓wpO_callv, callvP_func, iop_add, iop_sub, iop_eql, iop_neq, iop_lss, iop_leq, iop_gtr, iop_geq, Fr_ev, Fr_get, Fr_put, Fr_len, put_none, ev_const, upd_apply, argE_zero, argE_succ, argE_nil, liveE_cons, stepP_some, optP_some, guardP_true, guardP_false, condP_true, condP_false, if_true, if_false, ite_true, ite_false, Nat.reduceEqDiff, Nat.reduceLT, true_and, List.map_cons, List.map_nil, Nat.zero_add, Nat.reduceBEq]
    refine loop_rule (fun m vs σ' => ∃ k : Nat, k ≤ x.length ∧ m = x.length - k ∧ σ' = σ ∧ x.take k = y.take k ∧ vs = [a, b, .int .i64 k]) x.length ⟨0, Nat.zero_le _, rfl, rfl, rfl, ?_⟩ ?_
    · simp -dsimp only [↓wpC_skip, ↓wpC_region, ↓wpC_drawn, ↓wpC_seq, ↓wpC_cond, ↓wpC_block, ↓wpC_loop, ↓wpC_exit, ↓wpC_ret, ↓wpOs_nil, ↓wpOs_guard, wantedA_eq, wantV_bool, wantV_hole, bq_tt, bq_ff, bq_tf, bq_ft, Bool.false_eq_true, Bool.true_eq_false, Bool.not_true, Bool.not_false, ↓seqQ_normal, ↓seqQ_exit, ↓seqQ_ret, ↓blockQ_normal, ↓blockQ_hit, ↓blockQ_miss, ↓blockQ_ret, ↓endQ_normal, ↓endQ_ret, loopQ_normal, ↓loopQ_exit, ↓loopQ_ret, res_one, res2_tmp, res3_tmp, res4_tmp, res_tmp, res_cell, ↓wpO_move, ↓wpO_pick, pickV_bool, ↓wpO_alloc, ↓wpO_box, ↓wpO_build, ↓wpO_lit, ↓wpO_litA, ↓wpO_load, ↓wpO_store, ↓wpO_nilCheck, ncV_ptr, ncV_eptr, ncV_fptr, ncV_func, ↓wpO_iop, ↓wpO_sop, ↓wpO_bop, bopV_bool, ↓wpO_eqs, ↓wpO_eqnil, ↓wpO_not, notV_bool, ↓wpO_neg, negV_int, ↓wpO_convI, ↓wpO_sliceOp, ↓wpO_substr, ↓wpO_faddr, ↓wpO_field, fieldV_agg, ↓wpO_iaddr, ↓wpO_aaddr, ↓wpO_strIdx, ↓wpO_arrIdx, ↓wpO_lenS, ↓wpO_lenStr, lenStrV_str, ↓wpO_lenM, ↓wpO_lenA, ↓wpO_capS, ↓wpO_minI, ↓wpO_maxI, ↓wpO_append, ↓wpO_appendz, ↓wpO_mkslice, ↓wpO_extract, extrV_tuple, ↓wpO_mkfunc, ↓wpO_mkmap, ↓wpO_lookup, ↓wpO_mapset, ↓wpO_mapdel, ↓wpO_mkiface, ↓wpO_callS, ↓wpO_callI, ↓wpO_callv, callvP_func, iop_add, iop_sub, iop_eql, iop_neq, iop_lss, iop_leq, iop_gtr, iop_geq, Fr_ev, Fr_get, Fr_put, Fr_len, put_none, ev_const, upd_apply, argE_zero, argE_succ, argE_nil, liveE_cons, stepP_some, optP_some, guardP_true, guardP_false, condP_true, condP_false, if_true, if_false, ite_true, ite_false, Nat.reduceEqDiff, Nat.reduceLT, true_and, List.map_cons, List.map_nil, Nat.zero_add, Nat.reduceBEq]; rfl
    · rintro m vs σ' ⟨k, hk, rfl, rfl, he, rfl⟩
      simp -dsimp only [↓wpC_skip, ↓wpC_region, ↓wpC_drawn, ↓wpC_seq, ↓wpC_cond, ↓wpC_block, ↓wpC_loop, ↓wpC_exit, ↓wpC_ret, ↓wpOs_nil, ↓wpOs_guard, wantedA_eq, wantV_bool, wantV_hole, bq_tt, bq_ff, bq_tf, bq_ft, Bool.false_eq_true, Bool.true_eq_false, Bool.not_true, Bool.not_false, ↓seqQ_normal, ↓seqQ_exit, ↓seqQ_ret, ↓blockQ_normal, ↓blockQ_hit, ↓blockQ_miss, ↓blockQ_ret, ↓endQ_normal, ↓endQ_ret, loopQ_normal, ↓loopQ_exit, ↓loopQ_ret, res_one, res2_tmp, res3_tmp, res4_tmp, res_tmp, res_cell, ↓wpO_move, ↓wpO_pick, pickV_bool, ↓wpO_alloc, ↓wpO_box, ↓wpO_build, ↓wpO_lit, ↓wpO_litA, ↓wpO_load, ↓wpO_store, ↓wpO_nilCheck, ncV_ptr, ncV_eptr, ncV_fptr, ncV_func, ↓wpO_iop, ↓wpO_sop, ↓wpO_bop, bopV_bool, ↓wpO_eqs, ↓wpO_eqnil, ↓wpO_not, notV_bool, ↓wpO_neg, negV_int, ↓wpO_convI, ↓wpO_sliceOp, ↓wpO_substr, ↓wpO_faddr, ↓wpO_field, fieldV_agg, ↓wpO_iaddr, ↓wpO_aaddr, ↓wpO_strIdx, ↓wpO_arrIdx, ↓wpO_lenS, ↓wpO_lenStr, lenStrV_str, ↓wpO_lenM, ↓wpO_lenA, ↓wpO_capS, ↓wpO_minI, ↓wpO_maxI, ↓wpO_append, ↓wpO_appendz, ↓wpO_mkslice, ↓wpO_extract, extrV_tuple, ↓wpO_mkfunc, ↓wpO_mkmap, ↓wpO_lookup, ↓wpO_mapset, ↓wpO_mapdel, ↓wpO_mkiface, ↓wpO_callS, ↓wpO_callI, ↓wpO_callv, callvP_func, iop_add, iop_sub, iop_eql, iop_neq, iop_lss, iop_leq, iop_gtr, iop_geq, Fr_ev, Fr_get, Fr_put, Fr_len, put_none, ev_const, upd_apply, argE_zero, argE_succ, argE_nil, liveE_cons, stepP_some, optP_some, guardP_true, guardP_false, condP_true, condP_false, if_true, if_false, ite_true, ite_false, Nat.reduceEqDiff, Nat.reduceLT, true_and, List.map_cons, List.map_nil, Nat.zero_add, Nat.reduceBEq, la]
      refine condP_dec (fun h => ?_) (fun h => ?_)
      · have hkx : k < x.length := by omega
        have hky : k < y.length := by omega
        obtain ⟨e, e1, e2, e3⟩ := ha.at hkx
        obtain ⟨f, f1, f2, f3⟩ := hb.at hky
        simp -dsimp only [↓wpC_skip, ↓wpC_region, ↓wpC_drawn, ↓wpC_seq, ↓wpC_cond, ↓wpC_block, ↓wpC_loop, ↓wpC_exit, ↓wpC_ret, ↓wpOs_nil, ↓wpOs_guard, wantedA_eq, wantV_bool, wantV_hole, bq_tt, bq_ff, bq_tf, bq_ft, Bool.false_eq_true, Bool.true_eq_false, Bool.not_true, Bool.not_false, ↓seqQ_normal, ↓seqQ_exit, ↓seqQ_ret, ↓blockQ_normal, ↓blockQ_hit, ↓blockQ_miss, ↓blockQ_ret, ↓endQ_normal, ↓endQ_ret, loopQ_normal, ↓loopQ_exit, ↓loopQ_ret, res_one, res2_tmp, res3_tmp, res4_tmp, res_tmp, res_cell, ↓wpO_move, ↓wpO_pick, pickV_bool, ↓wpO_alloc, ↓wpO_box, ↓wpO_build, ↓wpO_lit, ↓wpO_litA, ↓wpO_load, ↓wpO_store, ↓wpO_nilCheck, ncV_ptr, ncV_eptr, ncV_fptr, ncV_func, ↓wpO_iop, ↓wpO_sop, ↓wpO_bop, bopV_bool, ↓wpO_eqs, ↓wpO_eqnil, ↓wpO_not, notV_bool, ↓wpO_neg, negV_int, ↓wpO_convI, ↓wpO_sliceOp, ↓wpO_substr, ↓wpO_faddr, ↓wpO_field, fieldV_agg, ↓wpO_iaddr, ↓wpO_aaddr, ↓wpO_strIdx, ↓wpO_arrIdx, ↓wpO_lenS, ↓wpO_lenStr, lenStrV_str, ↓wpO_lenM, ↓wpO_lenA, ↓wpO_capS, ↓wpO_minI, ↓wpO_maxI, ↓wpO_append, ↓wpO_appendz, ↓wpO_mkslice, ↓wpO_extract, extrV_tuple, ↓wpO_mkfunc, ↓wpO_mkmap, ↓wpO_lookup, ↓wpO_mapset, ↓wpO_mapdel, ↓wpO_mkiface, ↓wpO_callS, ↓wpO_callI, ↓wpO_callv, callvP_func, iop_add, iop_sub, iop_eql, iop_neq, iop_lss, iop_leq, iop_gtr, iop_geq, Fr_ev, Fr_get, Fr_put, Fr_len, put_none, ev_const, upd_apply, argE_zero, argE_succ, argE_nil, liveE_cons, stepP_some, optP_some, guardP_true, guardP_false, condP_true, condP_false, if_true, if_false, ite_true, ite_false, Nat.reduceEqDiff, Nat.reduceLT, true_and, List.map_cons, List.map_nil, Nat.zero_add, Nat.reduceBEq, e1, e2, f1, f2]
        refine calledW_of (same_ok d σ' e f x[k] y[k] (hs _ (List.getElem_mem hkx)) e3 f3) ?_
        rintro v σ2 ⟨rfl, rfl⟩
        by_cases hxy : x[k] = y[k]
        · simp -dsimp only [↓wpC_skip, ↓wpC_region, ↓wpC_drawn, ↓wpC_seq, ↓wpC_cond, ↓wpC_block, ↓wpC_loop, ↓wpC_exit, ↓wpC_ret, ↓wpOs_nil, ↓wpOs_guard, wantedA_eq, wantV_bool, wantV_hole, bq_tt, bq_ff, bq_tf, bq_ft, Bool.false_eq_true, Bool.true_eq_false, Bool.not_true, Bool.not_false, ↓seqQ_normal, ↓seqQ_exit, ↓seqQ_ret, ↓blockQ_normal, ↓blockQ_hit, ↓blockQ_miss, ↓blockQ_ret, ↓endQ_normal, ↓endQ_ret, loopQ_normal, ↓loopQ_exit, ↓loopQ_ret, res_one, res2_tmp, res3_tmp, res4_tmp, res_tmp, res_cell, ↓wpO_move, ↓wpO_pick, pickV_bool, ↓wpO_alloc, ↓wpO_box, ↓wpO_build, ↓wpO_lit, ↓wpO_litA, ↓wpO_load, ↓wpO_store, ↓wpO_nilCheck, ncV_ptr, ncV_eptr, ncV_fptr, ncV_func, ↓wpO_iop, ↓wpO_sop, ↓wpO_bop, bopV_bool, ↓wpO_eqs, ↓wpO_eqnil, ↓wpO_not, notV_bool, ↓wpO_neg, negV_int, ↓wpO_convI, ↓wpO_sliceOp, ↓wpO_substr, ↓wpO_faddr, ↓wpO_field, fieldV_agg, ↓wpO_iaddr, ↓wpO_aaddr, ↓wpO_strIdx, ↓wpO_arrIdx, ↓wpO_lenS, ↓wpO_lenStr, lenStrV_str, ↓wpO_lenM, ↓wpO_lenA, ↓wpO_capS, ↓wpO_minI, ↓wpO_maxI, ↓wpO_append, ↓wpO_appendz, ↓wpO_mkslice, ↓wpO_extract, extrV_tuple, ↓wpO_mkfunc, ↓wpO_mkmap, ↓wpO_lookup, ↓wpO_mapset, ↓wpO_mapdel, ↓wpO_mkiface, ↓wpO_callS, ↓wpO_callI, ↓wpO_callv, callvP_func, iop_add, iop_sub, iop_eql, iop_neq, iop_lss, iop_leq, iop_gtr, iop_geq, Fr_ev, Fr_get, Fr_put, Fr_len, put_none, ev_const, upd_apply, argE_zero, argE_succ, argE_nil, liveE_cons, stepP_some, optP_some, guardP_true, guardP_false, condP_true, condP_false, if_true, if_false, ite_true, ite_false, Nat.reduceEqDiff, Nat.reduceLT, true_and, List.map_cons, List.map_nil, Nat.zero_add, Nat.reduceBEq, hxy, decide_true]
          refine ⟨x.length - (k + 1), by omega, k + 1, by omega, rfl, take_succ_eq hkx hky he hxy, ?_⟩
          rw [wrap_i64 (by omega) (by omega), Int.natCast_add, Int.natCast_one]
        · simp -dsimp only [↓wpC_skip, ↓wpC_region, ↓wpC_drawn, ↓wpC_seq, ↓wpC_cond, ↓wpC_block, ↓wpC_loop, ↓wpC_exit, ↓wpC_ret, ↓wpOs_nil, ↓wpOs_guard, wantedA_eq, wantV_bool, wantV_hole, bq_tt, bq_ff, bq_tf, bq_ft, Bool.false_eq_true, Bool.true_eq_false, Bool.not_true, Bool.not_false, ↓seqQ_normal, ↓seqQ_exit, ↓seqQ_ret, ↓blockQ_normal, ↓blockQ_hit, ↓blockQ_miss, ↓blockQ_ret, ↓endQ_normal, ↓endQ_ret, loopQ_normal, ↓loopQ_exit, ↓loopQ_ret, res_one, res2_tmp, res3_tmp, res4_tmp, res_tmp, res_cell, ↓wpO_move, ↓wpO_pick, pickV_bool, ↓wpO_alloc, ↓wpO_box, ↓wpO_build, ↓wpO_lit, ↓wpO_litA, ↓wpO_load, ↓wpO_store, ↓wpO_nilCheck, ncV_ptr, ncV_eptr, ncV_fptr, ncV_func, ↓wpO_iop, ↓wpO_sop, ↓wpO_bop, bopV_bool, ↓wpO_eqs, ↓wpO_eqnil, ↓wpO_not, notV_bool, ↓wpO_neg, negV_int, ↓wpO_convI, ↓wpO_sliceOp, ↓wpO_substr, ↓wpO_faddr, ↓wpO_field, fieldV_agg, ↓wpO_iaddr, ↓wpO_aaddr, ↓wpO_strIdx, ↓wpO_arrIdx, ↓wpO_lenS, ↓wpO_lenStr, lenStrV_str, ↓wpO_lenM, ↓wpO_lenA, ↓wpO_capS, ↓wpO_minI, ↓wpO_maxI, ↓wpO_append, ↓wpO_appendz, ↓wpO_mkslice, ↓wpO_extract, extrV_tuple, ↓wpO_mkfunc, ↓wpO_mkmap, ↓wpO_lookup, ↓wpO_mapset, ↓wpO_mapdel, ↓wpO_mkiface, ↓wpO_callS, ↓wpO_callI, ↓wpO_callv, callvP_func, iop_add, iop_sub, iop_eql, iop_neq, iop_lss, iop_leq, iop_gtr, iop_geq, Fr_ev, Fr_get, Fr_put, Fr_len, put_none, ev_const, upd_apply, argE_zero, argE_succ, argE_nil, liveE_cons, stepP_some, optP_some, guardP_true, guardP_false, condP_true, condP_false, if_true, if_false, ite_true, ite_false, Nat.reduceEqDiff, Nat.reduceLT, true_and, List.map_cons, List.map_nil, Nat.zero_add, Nat.reduceBEq, hxy, decide_false]
          have : x ≠ y := fun e => hxy (by subst e; rfl)
          simp [this]
      · simp -dsimp only [↓wpC_skip, ↓wpC_region, ↓wpC_drawn, ↓wpC_seq, ↓wpC_cond, ↓wpC_block, ↓wpC_loop, ↓wpC_exit, ↓wpC_ret, ↓wpOs_nil, ↓wpOs_guard, wantedA_eq, wantV_bool, wantV_hole, bq_tt, bq_ff, bq_tf, bq_ft, Bool.false_eq_true, Bool.true_eq_false, Bool.not_true, Bool.not_false, ↓seqQ_normal, ↓seqQ_exit, ↓seqQ_ret, ↓blockQ_normal, ↓blockQ_hit, ↓blockQ_miss, ↓blockQ_ret, ↓endQ_normal, ↓endQ_ret, loopQ_normal, ↓loopQ_exit, ↓loopQ_ret, res_one, res2_tmp, res3_tmp, res4_tmp, res_tmp, res_cell, ↓wpO_move, ↓wpO_pick, pickV_bool, ↓wpO_alloc, ↓wpO_box, ↓wpO_build, ↓wpO_lit, ↓wpO_litA, ↓wpO_load, ↓wpO_store, ↓wpO_nilCheck, ncV_ptr, ncV_eptr, ncV_fptr, ncV_func, ↓wpO_iop, ↓wpO_sop, ↓wpO_bop, bopV_bool, ↓wpO_eqs, ↓wpO_eqnil, ↓wpO_not, notV_bool, ↓wpO_neg, negV_int, ↓wpO_convI, ↓wpO_sliceOp, ↓wpO_substr, ↓wpO_faddr, ↓wpO_field, fieldV_agg, ↓wpO_iaddr, ↓wpO_aaddr, ↓wpO_strIdx, ↓wpO_arrIdx, ↓wpO_lenS, ↓wpO_lenStr, lenStrV_str, ↓wpO_lenM, ↓wpO_lenA, ↓wpO_capS, ↓wpO_minI, ↓wpO_maxI, ↓wpO_append, ↓wpO_appendz, ↓wpO_mkslice, ↓wpO_extract, extrV_tuple, ↓wpO_mkfunc, ↓wpO_mkmap, ↓wpO_lookup, ↓wpO_mapset, ↓wpO_mapdel, ↓wpO_mkiface, ↓wpO_callS, ↓wpO_callI, ↓wpO_callv, callvP_func, iop_add, iop_sub, iop_eql, iop_neq, iop_lss, iop_leq, iop_gtr, iop_geq, Fr_ev, Fr_get, Fr_put, Fr_len, put_none, ev_const, upd_apply, argE_zero, argE_succ, argE_nil, liveE_cons, stepP_some, optP_some, guardP_true, guardP_false, condP_true, condP_false, if_true, if_false, ite_true, ite_false, Nat.reduceEqDiff, Nat.reduceLT, true_and, List.map_cons, List.map_nil, Nat.zero_add, Nat.reduceBEq]
        have hk' : k = x.length := by omega
        subst hk'
        have : x = y := by rw [List.take_length, h', List.take_length] at he; exact he
        simp [this]
end

/-! ### records one behind the other -/
def recs (ps : List (List UInt8)) : List UInt8 := ps.flatMap recL
theorem numOf_drop_hdr (n m : Nat) (h : m < 4294967296) (r : List UInt8) : numOf ((hdr n ++ (hdr m ++ r)).drop 4) = m := by
  rw [List.drop_append_of_le_length (by simp [hdr_len]), show (hdr n).drop 4 = [] from rfl, List.nil_append]
  exact numOf_hdr m h r
theorem drop_hdr2 (n m : Nat) (r : List UInt8) : (hdr n ++ (hdr m ++ r)).drop 8 = r := rfl
theorem firstL_rec (p r : List UInt8) (h : p.length ≤ 131072) : firstL (recL p ++ r) = some p := by
  have e : recL p ++ r = hdr p.length ++ (hdr (sumL p).toNat ++ (p ++ r)) := by simp [recL]
  have n1 : numOf (recL p ++ r) = p.length := by rw [e]; exact numOf_hdr _ (by omega) _
  have n2 : numOf ((recL p ++ r).drop 4) = (sumL p).toNat := by rw [e]; exact numOf_drop_hdr _ _ (sumL p).toNat_lt _
  have n3 : (recL p ++ r).drop 8 = p ++ r := by rw [e]; exact drop_hdr2 _ _ _
  have n4 : (recL p ++ r).length = 8 + p.length + r.length := by simp [recL_len]
  unfold firstL
  rw [n1, n2, n3, n4, if_pos ⟨by omega, h, by omega, by simp⟩]
  simp
theorem firstL_cut (p r : List UInt8) (h : p.length ≤ 131072) (k : Nat) (hk : k < (recL p).length) : firstL ((recL p ++ r).take k) = none := by
  rw [recL_len] at hk
  unfold firstL
  refine if_neg fun ⟨h1, h2, h3, _⟩ => ?_
  simp only [List.length_take, List.length_append, recL_len] at h1 h3
  rw [numOf_take _ _ (by omega)] at h3
  have e : recL p ++ r = hdr p.length ++ (hdr (sumL p).toNat ++ (p ++ r)) := by simp [recL]
  rw [e, numOf_hdr _ (by omega)] at h3
  omega
theorem recs_len_cons (p : List UInt8) (ps : List (List UInt8)) : (recs (p :: ps)).length = 8 + p.length + (recs ps).length := by simp [recs, recL_len]
/-- cut anywhere: those that are complete by then -/
theorem readL_cut : ∀ (ps : List (List UInt8)) (k w : Nat), (∀ p ∈ ps, p.length ≤ 131072) → w ≤ ps.length → (recs (ps.take w)).length ≤ k → (w < ps.length → k < (recs (ps.take (w + 1))).length) → k ≤ (recs ps).length →
    readL ((recs ps).take k) = (ps.take w, (recs (ps.take w)).length)
  | [], k, w, _, hw, _, _, _ => by
    have : w = 0 := by simpa using hw
    subst this
    rw [readL_none (firstL_short (by simp [recs]))]; rfl
  | p :: ps, k, 0, hp, hw, h1, h2, h3 => by
    have h4 := h2 (by simp)
    simp only [List.take_succ_cons, List.take_zero, recs_len_cons] at h4
    have e : recs (p :: ps) = recL p ++ recs ps := rfl
    rw [e, readL_none (firstL_cut p _ (hp p (by simp)) k (by rw [recL_len]; simp [recs] at h4; omega))]
    rfl
  | p :: ps, k, w + 1, hp, hw, h1, h2, h3 => by
    simp only [List.take_succ_cons, recs_len_cons, List.length_cons] at h1 h2 h3 hw ⊢
    have e : recs (p :: ps) = recL p ++ recs ps := rfl
    have e2 : (recs (p :: ps)).take k = recL p ++ (recs ps).take (k - (8 + p.length)) := by
      rw [e, List.take_append, recL_len, List.take_of_length_le (by rw [recL_len]; omega)]
    have ih := readL_cut ps (k - (8 + p.length)) w (fun q hq => hp q (by simp [hq])) (by omega) (by omega) (fun hlt => by have := h2 (by omega); omega) (by omega)
    rw [e2, readL_some (firstL_rec p _ (hp p (by simp)))]
    have e3 : (recL p ++ (recs ps).take (k - (8 + p.length))).drop (8 + p.length) = (recs ps).take (k - (8 + p.length)) := by
      rw [← recL_len, List.drop_left]
    rw [e3, ih]
theorem readL_recs (ps : List (List UInt8)) (hp : ∀ p ∈ ps, p.length ≤ 131072) : readL (recs ps) = (ps, (recs ps).length) := by
  have := readL_cut ps (recs ps).length ps.length hp (Nat.le_refl _) (by simp) (fun h => by omega) (Nat.le_refl _)
  simpa using this
end Go.Proofs.Ytmocplkpnickgaa.Am
