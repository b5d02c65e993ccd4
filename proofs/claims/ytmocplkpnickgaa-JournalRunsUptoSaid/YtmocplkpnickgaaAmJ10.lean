/-
  Journal, both: the calls that write, in one shape.
-/
import Derived.Test.YtmocplkpnickgaaAmJ9
namespace Go.Proofs.Ytmocplkpnickgaa.Am
open Go
set_option linter.unusedVariables false
set_option linter.unusedSimpArgs false
set_option linter.unusedSectionVars false
set_option maxRecDepth 100000

def logE (bs ps : List UInt8) : Int := if (readL bs).2 < bs.length then 140 else if 131072 < ps.length then 5 else 0
def appL (bs ps : List UInt8) : List UInt8 := if logE bs ps = 0 then bs ++ recL ps else bs
def cutE (bs ps : List UInt8) (n : Int) : Int := if (readL bs).2 < bs.length then 140 else if 131072 < ps.length then 5 else if n < 0 then 2 else 0
def cutB (bs ps : List UInt8) (n : Int) : Bool := decide (cutE bs ps n = 0) && decide (8 + ps.length ≤ n.toNat)
def cutS (bs ps : List UInt8) (n : Int) : List UInt8 := if cutE bs ps n = 0 then bs ++ cutL ps n else bs

theorem appL_len (bs ps : List UInt8) : (appL bs ps).length ≤ bs.length + (8 + ps.length) := by
  unfold appL; split
  · rw [List.length_append, recL_len]; omega
  · omega
theorem cutS_len (bs ps : List UInt8) (n : Int) : (cutS bs ps n).length ≤ bs.length + (8 + ps.length) := by
  unfold cutS cutL; split
  · rw [List.length_append, List.length_take, recL_len]; omega
  · omega

section
variable (d : Nat) (σ : Store) (id : Nat) (v : AVal) (bs : List UInt8) (hs : bs.length < 2 ^ 30)

theorem append2_ok (h : LogOk σ id v bs) (p : AVal) (ps : List UInt8) (hps : ps.length < 2 ^ 30) (hp : SlOf σ 1 p (B ps)) (hroom : bs.length + 8 + ps.length < 2 ^ 30) :
    Called CJ.cfg d 33 [.ptr id 0, p] σ fun r σ' => r = .int .i64 (logE bs ps) ∧ Keeps (fun i => i = id ∨ v.sid = some i) σ σ' ∧
      ∃ v', LogOk σ' id v' (appL bs ps) ∧ ∀ i, v'.sid = some i → v.sid = some i ∨ σ.length ≤ i := by
  refine (append_ok d σ id v bs (by omega) h p ps hps hp hroom).mono ?_
  rintro r σ' (⟨h1, rfl, rfl⟩ | ⟨h1, h2, rfl, rfl⟩ | ⟨h1, h2, rfl, h4, v', h5, h6⟩)
  · have e : logE bs ps = 140 := by unfold logE; rw [if_pos h1]
    have e' : appL bs ps = bs := by unfold appL; rw [e]; rfl
    rw [e, e']
    exact ⟨rfl, Keeps.refl _ _, v, h, fun i hi => .inl hi⟩
  · have e : logE bs ps = 5 := by unfold logE; rw [if_neg (by omega), if_pos h2]
    have e' : appL bs ps = bs := by unfold appL; rw [e]; rfl
    rw [e, e']
    exact ⟨rfl, Keeps.refl _ _, v, h, fun i hi => .inl hi⟩
  · have e : logE bs ps = 0 := by unfold logE; rw [if_neg (by omega), if_neg (by omega)]
    have e' : appL bs ps = bs ++ recL ps := by unfold appL; rw [e]; rfl
    rw [e, e']
    exact ⟨rfl, h4, v', h5, h6⟩

theorem cut2_ok (h : LogOk σ id v bs) (p : AVal) (ps : List UInt8) (hps : ps.length < 2 ^ 30) (hp : SlOf σ 1 p (B ps)) (n : Int) (hn1 : -9223372036854775808 ≤ n) (hn2 : n < 9223372036854775808) (hroom : bs.length + 8 + ps.length < 2 ^ 30) :
    Called CJ.cfg d 36 [.ptr id 0, p, .int .i64 n] σ fun r σ' => r = .tuple [.bool (cutB bs ps n), .int .i64 (cutE bs ps n)] ∧ Keeps (fun i => i = id ∨ v.sid = some i) σ σ' ∧
      ∃ v', LogOk σ' id v' (cutS bs ps n) ∧ ∀ i, v'.sid = some i → v.sid = some i ∨ σ.length ≤ i := by
  refine (cut_ok d σ id v bs (by omega) h p ps hps hp n hn1 hn2 hroom).mono ?_
  rintro r σ' (⟨h1, rfl, rfl⟩ | ⟨h1, h2, rfl, rfl⟩ | ⟨h1, h2, h3, rfl, h4⟩ | ⟨h1, h2, h3, rfl, h4, v', h5, h6⟩)
  · have e : cutE bs ps n = 140 := by unfold cutE; rw [if_pos h1]
    have e' : cutS bs ps n = bs := by unfold cutS; rw [e]; rfl
    have e2 : cutB bs ps n = false := by unfold cutB; rw [e]; rfl
    rw [e, e', e2]
    exact ⟨rfl, Keeps.refl _ _, v, h, fun i hi => .inl hi⟩
  · have e : cutE bs ps n = 5 := by unfold cutE; rw [if_neg (by omega), if_pos h2]
    have e' : cutS bs ps n = bs := by unfold cutS; rw [e]; rfl
    have e2 : cutB bs ps n = false := by unfold cutB; rw [e]; rfl
    rw [e, e', e2]
    exact ⟨rfl, Keeps.refl _ _, v, h, fun i hi => .inl hi⟩
  · have e : cutE bs ps n = 2 := by unfold cutE; rw [if_neg (by omega), if_neg (by omega), if_pos h3]
    have e' : cutS bs ps n = bs := by unfold cutS; rw [e]; rfl
    have e2 : cutB bs ps n = false := by unfold cutB; rw [e]; rfl
    rw [e, e', e2]
    exact ⟨rfl, h4.any, v, ⟨h4.get h.obj, h.own.grow h4⟩, fun i hi => .inl hi⟩
  · have e : cutE bs ps n = 0 := by unfold cutE; rw [if_neg (by omega), if_neg (by omega), if_neg (by omega)]
    have e' : cutS bs ps n = bs ++ cutL ps n := by unfold cutS; rw [e]; rfl
    have e2 : cutB bs ps n = decide (8 + ps.length ≤ n.toNat) := by unfold cutB; rw [e]; simp
    rw [e, e', e2]
    exact ⟨rfl, h4, v', h5, h6⟩

include hs
theorem refappend_ok (h : RLogOk σ id v bs) (p : AVal) (ps : List UInt8) (hps : ps.length < 2 ^ 30) (hp : SlOf σ 1 p (B ps)) :
    Called CJ.cfg d 75 [.ptr id 0, p] σ fun r σ' => r = .int .i64 (logE bs ps) ∧ Keeps (fun i => i = id) σ σ' ∧
      ∃ v', RLogOk σ' id v' (appL bs ps) ∧ ∀ i, v'.sid = some i → v.sid = some i ∨ σ.length ≤ i := by
  refine called_of (fn := CJ.a75) rfl (Nat.le_of_ble_eq_true rfl) ?_
  simp only [CJ.a75]
  simp -dsimp only [↓wpC_skip, ↓wpC_region, ↓wpC_drawn, ↓wpC_seq, ↓wpC_cond, ↓wpC_block, ↓wpC_loop, ↓wpC_exit, ↓wpC_ret, ↓wpOs_nil, ↓wpOs_guard, wantedA_eq, wantV_bool, wantV_hole, bq_tt, bq_ff, bq_tf, bq_ft, Bool.false_eq_true, Bool.true_eq_false, Bool.not_true, Bool.not_false, ↓seqQ_normal, ↓seqQ_exit, ↓seqQ_ret, ↓blockQ_normal, ↓blockQ_hit, ↓blockQ_miss, ↓blockQ_ret, ↓endQ_normal, ↓endQ_ret, loopQ_normal, ↓loopQ_exit, ↓loopQ_ret, res_one, res2_tmp, res3_tmp, res4_tmp, res_tmp, res_cell, ↓wpO_move, ↓wpO_pick, pickV_bool, ↓wpO_alloc, ↓wpO_box, ↓wpO_build, ↓wpO_lit, ↓wpO_litA, ↓wpO_load, ↓wpO_store, ↓wpO_nilCheck, ncV_ptr, ncV_eptr, ncV_fptr, ncV_func, ↓wpO_iop, ↓wpO_sop, ↓wpO_bop, bopV_bool, ↓wpO_eqs, ↓wpO_eqnil, ↓wpO_not, notV_bool, ↓wpO_neg, negV_int, ↓wpO_convI, ↓wpO_sliceOp, ↓wpO_substr, ↓wpO_faddr, ↓wpO_field, fieldV_agg, ↓wpO_iaddr, ↓wpO_aaddr, ↓wpO_strIdx, ↓wpO_arrIdx, ↓wpO_lenS, ↓wpO_lenStr, lenStrV_str, ↓wpO_lenM, ↓wpO_lenA, ↓wpO_capS, ↓wpO_minI, ↓wpO_maxI, ↓wpO_append, ↓wpO_appendz, ↓wpO_mkslice, ↓wpO_extract, extrV_tuple, ↓wpO_mkfunc, ↓wpO_mkmap, ↓wpO_lookup, ↓wpO_mapset, ↓wpO_mapdel, ↓wpO_mkiface, ↓wpO_callS, ↓wpO_callI, ↓wpO_callv, callvP_func, iop_add, iop_sub, iop_eql, iop_neq, iop_lss, iop_leq, iop_gtr, iop_geq, Fr_ev, Fr_get, Fr_put, Fr_len, put_none, ev_const, upd_apply, argE_zero, argE_succ, argE_nil, liveE_cons, stepP_some, optP_some, guardP_true, guardP_false, condP_true, condP_false, if_true, if_false, ite_true, ite_false, Nat.reduceEqDiff, Nat.reduceLT, true_and, List.map_cons, List.map_nil, Nat.zero_add, Nat.reduceBEq]
  refine calledW_of (refrec_ok d σ id v bs hs h p ps hps hp) ?_
  rintro r σ1 ⟨g1, (⟨h1, rfl⟩ | ⟨h1, h2, rfl⟩ | ⟨h1, h2, x, rfl, ox, fx⟩)⟩
  · have e : logE bs ps = 140 := by unfold logE; rw [if_pos h1]
    have e' : appL bs ps = bs := by unfold appL; rw [e]; rfl
    have hc : ((140 : Int) == 0) = false := rfl
    simp -dsimp only [↓wpC_skip, ↓wpC_region, ↓wpC_drawn, ↓wpC_seq, ↓wpC_cond, ↓wpC_block, ↓wpC_loop, ↓wpC_exit, ↓wpC_ret, ↓wpOs_nil, ↓wpOs_guard, wantedA_eq, wantV_bool, wantV_hole, bq_tt, bq_ff, bq_tf, bq_ft, Bool.false_eq_true, Bool.true_eq_false, Bool.not_true, Bool.not_false, ↓seqQ_normal, ↓seqQ_exit, ↓seqQ_ret, ↓blockQ_normal, ↓blockQ_hit, ↓blockQ_miss, ↓blockQ_ret, ↓endQ_normal, ↓endQ_ret, loopQ_normal, ↓loopQ_exit, ↓loopQ_ret, res_one, res2_tmp, res3_tmp, res4_tmp, res_tmp, res_cell, ↓wpO_move, ↓wpO_pick, pickV_bool, ↓wpO_alloc, ↓wpO_box, ↓wpO_build, ↓wpO_lit, ↓wpO_litA, ↓wpO_load, ↓wpO_store, ↓wpO_nilCheck, ncV_ptr, ncV_eptr, ncV_fptr, ncV_func, ↓wpO_iop, ↓wpO_sop, ↓wpO_bop, bopV_bool, ↓wpO_eqs, ↓wpO_eqnil, ↓wpO_not, notV_bool, ↓wpO_neg, negV_int, ↓wpO_convI, ↓wpO_sliceOp, ↓wpO_substr, ↓wpO_faddr, ↓wpO_field, fieldV_agg, ↓wpO_iaddr, ↓wpO_aaddr, ↓wpO_strIdx, ↓wpO_arrIdx, ↓wpO_lenS, ↓wpO_lenStr, lenStrV_str, ↓wpO_lenM, ↓wpO_lenA, ↓wpO_capS, ↓wpO_minI, ↓wpO_maxI, ↓wpO_append, ↓wpO_appendz, ↓wpO_mkslice, ↓wpO_extract, extrV_tuple, ↓wpO_mkfunc, ↓wpO_mkmap, ↓wpO_lookup, ↓wpO_mapset, ↓wpO_mapdel, ↓wpO_mkiface, ↓wpO_callS, ↓wpO_callI, ↓wpO_callv, callvP_func, iop_add, iop_sub, iop_eql, iop_neq, iop_lss, iop_leq, iop_gtr, iop_geq, Fr_ev, Fr_get, Fr_put, Fr_len, put_none, ev_const, upd_apply, argE_zero, argE_succ, argE_nil, liveE_cons, stepP_some, optP_some, guardP_true, guardP_false, condP_true, condP_false, if_true, if_false, ite_true, ite_false, Nat.reduceEqDiff, Nat.reduceLT, true_and, List.map_cons, List.map_nil, Nat.zero_add, Nat.reduceBEq, List.getElem?_cons_zero, List.getElem?_cons_succ, hc]
    rw [e, e']
    exact ⟨rfl, g1.any, v, ⟨g1.get h.obj, h.own.grow g1⟩, fun i hi => .inl hi⟩
  · have e : logE bs ps = 5 := by unfold logE; rw [if_neg (by omega), if_pos h2]
    have e' : appL bs ps = bs := by unfold appL; rw [e]; rfl
    have hc : ((5 : Int) == 0) = false := rfl
    simp -dsimp only [↓wpC_skip, ↓wpC_region, ↓wpC_drawn, ↓wpC_seq, ↓wpC_cond, ↓wpC_block, ↓wpC_loop, ↓wpC_exit, ↓wpC_ret, ↓wpOs_nil, ↓wpOs_guard, wantedA_eq, wantV_bool, wantV_hole, bq_tt, bq_ff, bq_tf, bq_ft, Bool.false_eq_true, Bool.true_eq_false, Bool.not_true, Bool.not_false, ↓seqQ_normal, ↓seqQ_exit, ↓seqQ_ret, ↓blockQ_normal, ↓blockQ_hit, ↓blockQ_miss, ↓blockQ_ret, ↓endQ_normal, ↓endQ_ret, loopQ_normal, ↓loopQ_exit, ↓loopQ_ret, res_one, res2_tmp, res3_tmp, res4_tmp, res_tmp, res_cell, ↓wpO_move, ↓wpO_pick, pickV_bool, ↓wpO_alloc, ↓wpO_box, ↓wpO_build, ↓wpO_lit, ↓wpO_litA, ↓wpO_load, ↓wpO_store, ↓wpO_nilCheck, ncV_ptr, ncV_eptr, ncV_fptr, ncV_func, ↓wpO_iop, ↓wpO_sop, ↓wpO_bop, bopV_bool, ↓wpO_eqs, ↓wpO_eqnil, ↓wpO_not, notV_bool, ↓wpO_neg, negV_int, ↓wpO_convI, ↓wpO_sliceOp, ↓wpO_substr, ↓wpO_faddr, ↓wpO_field, fieldV_agg, ↓wpO_iaddr, ↓wpO_aaddr, ↓wpO_strIdx, ↓wpO_arrIdx, ↓wpO_lenS, ↓wpO_lenStr, lenStrV_str, ↓wpO_lenM, ↓wpO_lenA, ↓wpO_capS, ↓wpO_minI, ↓wpO_maxI, ↓wpO_append, ↓wpO_appendz, ↓wpO_mkslice, ↓wpO_extract, extrV_tuple, ↓wpO_mkfunc, ↓wpO_mkmap, ↓wpO_lookup, ↓wpO_mapset, ↓wpO_mapdel, ↓wpO_mkiface, ↓wpO_callS, ↓wpO_callI, ↓wpO_callv, callvP_func, iop_add, iop_sub, iop_eql, iop_neq, iop_lss, iop_leq, iop_gtr, iop_geq, Fr_ev, Fr_get, Fr_put, Fr_len, put_none, ev_const, upd_apply, argE_zero, argE_succ, argE_nil, liveE_cons, stepP_some, optP_some, guardP_true, guardP_false, condP_true, condP_false, if_true, if_false, ite_true, ite_false, Nat.reduceEqDiff, Nat.reduceLT, true_and, List.map_cons, List.map_nil, Nat.zero_add, Nat.reduceBEq, List.getElem?_cons_zero, List.getElem?_cons_succ, hc]
    rw [e, e']
    exact ⟨rfl, g1.any, v, ⟨g1.get h.obj, h.own.grow g1⟩, fun i hi => .inl hi⟩
  · have e : logE bs ps = 0 := by unfold logE; rw [if_neg (by omega), if_neg (by omega)]
    have e' : appL bs ps = bs ++ recL ps := by unfold appL; rw [e]; rfl
    have hc : ((0 : Int) == 0) = true := rfl
    have h1' : RLogOk σ1 id v bs := ⟨g1.get h.obj, h.own.grow g1⟩
    obtain ⟨v1, σ2, a1, a2, a3, a4, _⟩ := (Own.empty σ1).append (B bs) 1 (by rw [B_len]; simp; omega)
    have g2 : Grows σ1 σ2 := a3.mono fun i _ h => by cases h
    have f1 := fresh_of a4 rfl
    rw [List.nil_append] at a2
    obtain ⟨v2, σ3, b1, b2, b3, b4, _⟩ := a2.append (B (recL ps)) 1 (by rw [B_len, B_len, recL_len]; omega)
    rw [B_app] at b2
    have o3 := b3.get (g2.get h1'.obj) (fun e => by have := f1 _ e; have := (List.getElem?_eq_some_iff.1 h1'.obj).1; omega)
    have st := store_cells o3 (off := 0) (by simp) (v := v2) b2.one
    simp only [List.set_cons_zero] at st
    simp -dsimp only [↓wpC_skip, ↓wpC_region, ↓wpC_drawn, ↓wpC_seq, ↓wpC_cond, ↓wpC_block, ↓wpC_loop, ↓wpC_exit, ↓wpC_ret, ↓wpOs_nil, ↓wpOs_guard, wantedA_eq, wantV_bool, wantV_hole, bq_tt, bq_ff, bq_tf, bq_ft, Bool.false_eq_true, Bool.true_eq_false, Bool.not_true, Bool.not_false, ↓seqQ_normal, ↓seqQ_exit, ↓seqQ_ret, ↓blockQ_normal, ↓blockQ_hit, ↓blockQ_miss, ↓blockQ_ret, ↓endQ_normal, ↓endQ_ret, loopQ_normal, ↓loopQ_exit, ↓loopQ_ret, res_one, res2_tmp, res3_tmp, res4_tmp, res_tmp, res_cell, ↓wpO_move, ↓wpO_pick, pickV_bool, ↓wpO_alloc, ↓wpO_box, ↓wpO_build, ↓wpO_lit, ↓wpO_litA, ↓wpO_load, ↓wpO_store, ↓wpO_nilCheck, ncV_ptr, ncV_eptr, ncV_fptr, ncV_func, ↓wpO_iop, ↓wpO_sop, ↓wpO_bop, bopV_bool, ↓wpO_eqs, ↓wpO_eqnil, ↓wpO_not, notV_bool, ↓wpO_neg, negV_int, ↓wpO_convI, ↓wpO_sliceOp, ↓wpO_substr, ↓wpO_faddr, ↓wpO_field, fieldV_agg, ↓wpO_iaddr, ↓wpO_aaddr, ↓wpO_strIdx, ↓wpO_arrIdx, ↓wpO_lenS, ↓wpO_lenStr, lenStrV_str, ↓wpO_lenM, ↓wpO_lenA, ↓wpO_capS, ↓wpO_minI, ↓wpO_maxI, ↓wpO_append, ↓wpO_appendz, ↓wpO_mkslice, ↓wpO_extract, extrV_tuple, ↓wpO_mkfunc, ↓wpO_mkmap, ↓wpO_lookup, ↓wpO_mapset, ↓wpO_mapdel, ↓wpO_mkiface, ↓wpO_callS, ↓wpO_callI, ↓wpO_callv, callvP_func, iop_add, iop_sub, iop_eql, iop_neq, iop_lss, iop_leq, iop_gtr, iop_geq, Fr_ev, Fr_get, Fr_put, Fr_len, put_none, ev_const, upd_apply, argE_zero, argE_succ, argE_nil, liveE_cons, stepP_some, optP_some, guardP_true, guardP_false, condP_true, condP_false, if_true, if_false, ite_true, ite_false, Nat.reduceEqDiff, Nat.reduceLT, true_and, List.map_cons, List.map_nil, Nat.zero_add, Nat.reduceBEq, List.getElem?_cons_zero, List.getElem?_cons_succ, hc]
    refine stepP_of [] rfl ?_
    simp -dsimp only [↓wpC_skip, ↓wpC_region, ↓wpC_drawn, ↓wpC_seq, ↓wpC_cond, ↓wpC_block, ↓wpC_loop, ↓wpC_exit, ↓wpC_ret, ↓wpOs_nil, ↓wpOs_guard, wantedA_eq, wantV_bool, wantV_hole, bq_tt, bq_ff, bq_tf, bq_ft, Bool.false_eq_true, Bool.true_eq_false, Bool.not_true, Bool.not_false, ↓seqQ_normal, ↓seqQ_exit, ↓seqQ_ret, ↓blockQ_normal, ↓blockQ_hit, ↓blockQ_miss, ↓blockQ_ret, ↓endQ_normal, ↓endQ_ret, loopQ_normal, ↓loopQ_exit, ↓loopQ_ret, res_one, res2_tmp, res3_tmp, res4_tmp, res_tmp, res_cell, ↓wpO_move, ↓wpO_pick, pickV_bool, ↓wpO_alloc, ↓wpO_box, ↓wpO_build, ↓wpO_lit, ↓wpO_litA, ↓wpO_load, ↓wpO_store, ↓wpO_nilCheck, ncV_ptr, ncV_eptr, ncV_fptr, ncV_func, ↓wpO_iop, ↓wpO_sop, ↓wpO_bop, bopV_bool, ↓wpO_eqs, ↓wpO_eqnil, ↓wpO_not, notV_bool, ↓wpO_neg, negV_int, ↓wpO_convI, ↓wpO_sliceOp, ↓wpO_substr, ↓wpO_faddr, ↓wpO_field, fieldV_agg, ↓wpO_iaddr, ↓wpO_aaddr, ↓wpO_strIdx, ↓wpO_arrIdx, ↓wpO_lenS, ↓wpO_lenStr, lenStrV_str, ↓wpO_lenM, ↓wpO_lenA, ↓wpO_capS, ↓wpO_minI, ↓wpO_maxI, ↓wpO_append, ↓wpO_appendz, ↓wpO_mkslice, ↓wpO_extract, extrV_tuple, ↓wpO_mkfunc, ↓wpO_mkmap, ↓wpO_lookup, ↓wpO_mapset, ↓wpO_mapdel, ↓wpO_mkiface, ↓wpO_callS, ↓wpO_callI, ↓wpO_callv, callvP_func, iop_add, iop_sub, iop_eql, iop_neq, iop_lss, iop_leq, iop_gtr, iop_geq, Fr_ev, Fr_get, Fr_put, Fr_len, put_none, ev_const, upd_apply, argE_zero, argE_succ, argE_nil, liveE_cons, stepP_some, optP_some, guardP_true, guardP_false, condP_true, condP_false, if_true, if_false, ite_true, ite_false, Nat.reduceEqDiff, Nat.reduceLT, true_and, List.map_cons, List.map_nil, Nat.zero_add, Nat.reduceBEq, faddr_ptr, load_cells h1'.obj, List.getElem?_cons_zero, List.getElem?_cons_succ, h1'.own.sl.els, a1, (ox.grow g2).sl.els, b1, st]
    rw [e, e']
    refine ⟨rfl, ?_, v2, ⟨get_set o3, b2.keeps (Keeps.set _ _ _) fun i hi e => b2.noCell o3 (by rw [← e]; exact hi)⟩, fun i hi => ?_⟩
    · refine Keeps.trans (Grows.any (g1.trans g2)) (Keeps.trans (M := fun i => v1.sid = some i ∨ i = id) (b3.mono fun i _ h => .inl h) (Keeps.set _ _ _) fun i _ h => .inr h) ?_
      rintro i hi (hl | hl)
      · have := f1 _ hl; have := g1.1; omega
      · exact hl
    · have := g1.1; have := g2.1
      rcases b4 i hi with hl | hl
      · have := f1 _ hl; exact .inr (by omega)
      · exact .inr (by omega)
end
end Go.Proofs.Ytmocplkpnickgaa.Am
