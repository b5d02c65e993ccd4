/-
  Journal: logs.
-/
import Derived.Test.YtmocplkpnickgaaAmJ5
namespace Go.Proofs.Ytmocplkpnickgaa.Am
open Go
set_option linter.unusedVariables false
set_option linter.unusedSimpArgs false
set_option maxRecDepth 100000

theorem load_cells {σ : Store} {id : Nat} {cs : List AVal} (h : σ[id]? = some (.cells cs)) (off : Nat) : loadV σ 1 false (.ptr id off) = cs[off]? := by
  simp [loadV, behind, h]
theorem store_cells {σ : Store} {id : Nat} {cs : List AVal} (h : σ[id]? = some (.cells cs)) {off : Nat} (ho : off < cs.length) {v : AVal} (hv : v.one = true) : storeV σ 1 (.ptr id off) v = some (σ.set id (.cells (cs.set off v))) := by
  have hc : v.cells = [v] := by cases v <;> simp_all [AVal.one]
  have e : splice cs off [v] = cs.set off v := by
    rw [List.set_eq_take_append_cons_drop, if_pos ho]; simp [splice]
  simp only [storeV, hc, h, e, List.length_singleton, List.all_cons, List.all_nil, hv, Bool.and_true, and_self, if_true]
  rw [if_pos (by omega)]
theorem faddr_ptr (o id off : Nat) : faddrV o (.ptr id off) = some (.ptr id (off + o)) := rfl
theorem isnil_ptr (id off : Nat) : isNil .p (.ptr id off) = some false := rfl
theorem set_same {σ : Store} {id : Nat} {o : AObj} (h : σ[id]? = some o) : σ.set id o = σ := by
  refine List.ext_getElem? fun i => ?_
  rw [List.getElem?_set]
  split
  · rename_i hi; subst hi
    have := (List.getElem?_eq_some_iff.1 h).1
    rw [if_pos this, h]
  · rfl
theorem get_set {σ : Store} {id : Nat} {o o' : AObj} (h : σ[id]? = some o) : (σ.set id o')[id]? = some o' := List.getElem?_set_self (List.getElem?_eq_some_iff.1 h).1

/-! more of what a disk holds -/
theorem firstL_app {bs q : List UInt8} (h : firstL bs = some q) (x : List UInt8) : firstL (bs ++ x) = some q := by
  unfold firstL at h
  split at h
  · rename_i hc
    obtain ⟨h1, h2, h3, h4⟩ := hc
    injection h with h
    have n1 : numOf (bs ++ x) = numOf bs := by
      rw [← numOf_take (bs ++ x) bs.length (by omega), List.take_left]
    have n2 : (bs ++ x).drop 4 = bs.drop 4 ++ x := List.drop_append_of_le_length (by omega)
    have n3 : numOf (bs.drop 4 ++ x) = numOf (bs.drop 4) := by
      rw [← numOf_take (bs.drop 4 ++ x) (bs.drop 4).length (by simp; omega), List.take_left]
    have n4 : (bs ++ x).drop 8 = bs.drop 8 ++ x := List.drop_append_of_le_length h1
    have n5 : (bs.drop 8 ++ x).take (numOf bs) = (bs.drop 8).take (numOf bs) := List.take_append_of_le_length (by simp; omega)
    unfold firstL
    rw [n1, n2, n3, n4, n5, if_pos ⟨by simp; omega, h2, by simp; omega, h4⟩, h]
  · cases h
theorem readL_app : ∀ (n : Nat) (bs x : List UInt8), bs.length ≤ n → readL (bs.take (readL bs).2 ++ x) = ((readL bs).1 ++ (readL x).1, (readL bs).2 + (readL x).2)
  | n, bs, x, hn => by
    cases hq : firstL bs with
    | none => rw [readL_none hq]; simp
    | some q =>
      have hl := firstL_len hq
      rw [readL_some hq]
      cases n with
      | zero => omega
      | succ n =>
        have ih := readL_app n (bs.drop (8 + q.length)) x (by simp; omega)
        generalize hr : readL (bs.drop (8 + q.length)) = r at ih
        have e1 : bs.take (8 + q.length + r.2) = bs.take (8 + q.length) ++ (bs.drop (8 + q.length)).take r.2 := by
          rw [List.take_add]
        have hq' : firstL (bs.take (8 + q.length)) = some q := by
          unfold firstL at hq ⊢
          split at hq
          · rename_i hc
            obtain ⟨h1, h2, h3, h4⟩ := hc
            injection hq with hq
            have hql : numOf bs = q.length := by rw [← hq]; simp; omega
            have n1 : numOf (bs.take (8 + q.length)) = numOf bs := numOf_take _ _ (by omega)
            have n2 : numOf ((bs.take (8 + q.length)).drop 4) = numOf (bs.drop 4) := by
              rw [List.drop_take]; exact numOf_take _ _ (by omega)
            have n3 : (bs.take (8 + q.length)).drop 8 = (bs.drop 8).take q.length := by rw [List.drop_take]; congr 1; omega
            rw [n1, n2, n3, hql, List.take_take, Nat.min_self]
            rw [hql] at hq h4
            rw [if_pos ⟨by simp; omega, by omega, by simp; omega, h4⟩, hq]
          · cases hq
        have hl1 : (bs.take (8 + q.length)).length = 8 + q.length := by simp; omega
        rw [e1, List.append_assoc, readL_some (firstL_app hq' _)]
        have e2 : (bs.take (8 + q.length) ++ ((bs.drop (8 + q.length)).take r.2 ++ x)).drop (8 + q.length) = (bs.drop (8 + q.length)).take r.2 ++ x := by
          exact List.drop_left' hl1
        rw [e2, ih]
        simp [Nat.add_assoc]
theorem readL_tail (n : Nat) (bs : List UInt8) (hn : bs.length ≤ n) : readL (bs.take (readL bs).2) = readL bs := by
  have := readL_app n bs [] hn
  rw [readL_none (bs := []) (firstL_short (by simp))] at this
  simpa using this
/-- what stands behind the last record is none -/
theorem readL_rest : ∀ (n : Nat) (bs : List UInt8), bs.length ≤ n → firstL (bs.drop (readL bs).2) = none
  | n, bs, hn => by
    cases hq : firstL bs with
    | none => rw [readL_none hq]; simpa using hq
    | some q =>
      have hl := firstL_len hq
      rw [readL_some hq]
      cases n with
      | zero => omega
      | succ n =>
        have := readL_rest n (bs.drop (8 + q.length)) (by simp; omega)
        rw [List.drop_drop] at this
        simpa using this

/-- a log in the store, with all that its disk holds -/
structure LogOk (σ : Store) (id : Nat) (v : AVal) (bs : List UInt8) : Prop where
  obj : σ[id]? = some (.cells [v, .int .i64 ((readL bs).1.length : Nat), .int .i64 ((readL bs).2 : Nat)])
  own : Own σ 1 v (B bs)

theorem Own.noCell {σ : Store} {v : AVal} {es cs : List AVal} {id : Nat} (h : Own σ 1 v es) (ho : σ[id]? = some (.cells cs)) : v.sid ≠ some id := by
  intro hs
  rcases h.own with ⟨rfl, _⟩ | ⟨t, rfl⟩ | ⟨id', ep, off, cap, xs, epo, fl, rfl, h1, _⟩
  · cases hs
  · cases hs
  · injection hs with hs; subst hs; rw [ho] at h1; cases h1
theorem SlOf.noCell {σ : Store} {sz : Nat} {v : AVal} {es cs : List AVal} {id : Nat} (h : SlOf σ sz v es) (ho : σ[id]? = some (.cells cs)) : v.sid ≠ some id := by
  intro hs
  rcases h.cases with ⟨rfl, _⟩ | ⟨t, f, rfl⟩ | ⟨id', ep, off, cap, sz', xs, epo, fl, rfl, h1, _⟩
  · cases hs
  · cases hs
  · injection hs with hs; subst hs; rw [ho] at h1; cases h1

theorem ORows.cell {σ σ' : Store} {lo : Nat} {l : AVal} {es : List AVal} {ps : List (List AVal)} {id : Nat} {cs : List AVal} (h : ORows σ lo 1 l es ps) (ho : σ[id]? = some (.cells cs)) (hk : Keeps (fun i => i = id) σ σ') : ORows σ' lo 1 l es ps :=
  ⟨h.row.keeps hk fun i hi e => h.row.noCell ho (by rw [← e]; exact hi), h.len, fun i e p h1 h2 => (h.one i e p h1 h2).keeps hk fun j hj e' => (h.one i e p h1 h2).noCell ho (by rw [← e']; exact hj), h.frs, h.frl, h.apart, h.off, h.lit, h.litl⟩

section
variable (d : Nat) (σ : Store)

theorem look_ok (id : Nat) (v : AVal) (bs : List UInt8) (n0 e0 : Nat) (hs : bs.length < 2 ^ 30) (he : e0 ≤ bs.length) (hn : n0 < 2 ^ 30) (ho : σ[id]? = some (.cells [v, .int .i64 n0, .int .i64 e0])) (hv : SlOf σ 1 v (B bs)) :
    Called CJ.cfg d 72 [.ptr id 0] σ fun _ σ' => σ' = σ.set id (.cells [v, .int .i64 ((n0 + (readL (bs.drop e0)).1.length : Nat)), .int .i64 ((e0 + (readL (bs.drop e0)).2 : Nat))]) := by
  refine called_of (fn := CJ.a72) rfl (Nat.le_of_ble_eq_true rfl) ?_
  simp only [CJ.a72]
  simp -dsimp only [↓wpC_skip, ↓wpC_region, ↓wpC_drawn, ↓wpC_seq, ↓wpC_cond, ↓wpC_block, ↓wpC_loop, ↓wpC_exit, ↓wpC_ret, ↓wpOs_nil, ↓wpOs_guard, wantedA_eq, wantV_bool, wantV_hole, bq_tt, bq_ff, bq_tf, bq_ft, Bool.false_eq_true, Bool.true_eq_false, Bool.not_true, Bool.not_false, ↓seqQ_normal, ↓seqQ_exit, ↓seqQ_ret, ↓blockQ_normal, ↓blockQ_hit, ↓blockQ_miss, ↓blockQ_ret, ↓endQ_normal, ↓endQ_ret, loopQ_normal, ↓loopQ_exit, ↓loopQ_ret, res_one, res2_tmp, res3_tmp, res4_tmp, res_tmp, res_cell, ↓wpO_move, ↓wpO_pick, pickV_bool, ↓wpO_alloc, ↓wpO_box, ↓wpO_build, ↓wpO_lit, ↓wpO_litA, ↓wpO_load, ↓wpO_store, ↓wpO_nilCheck, ncV_ptr, ncV_eptr, ncV_fptr, ncV_func, ↓wpO_iop, ↓wpO_sop, ↓wpO_bop, bopV_bool, ↓wpO_eqs, ↓wpO_eqnil, ↓wpO_not, notV_bool, ↓wpO_neg, negV_int, ↓wpO_convI, ↓wpO_sliceOp, ↓wpO_substr, ↓wpO_faddr, ↓wpO_field, fieldV_agg, ↓wpO_iaddr, ↓wpO_aaddr, ↓wpO_strIdx, ↓wpO_arrIdx, ↓wpO_lenS, ↓wpO_lenStr, lenStrV_str, ↓wpO_lenM, ↓wpO_lenA, ↓wpO_capS, ↓wpO_minI, ↓wpO_maxI, ↓wpO_append, ↓wpO_appendz, ↓wpO_mkslice, ↓wpO_extract, extrV_tuple, ↓wpO_mkfunc, ↓wpO_mkmap, ↓wpO_lookup, ↓wpO_mapset, ↓wpO_mapdel, ↓wpO_mkiface, ↓wpO_callS, ↓wpO_callI, ↓wpO_callv, callvP_func, iop_add, iop_sub, iop_eql, iop_neq, iop_lss, iop_leq, iop_gtr, iop_geq, Fr_ev, Fr_get, Fr_put, Fr_len, put_none, ev_const, upd_apply, argE_zero, argE_succ, argE_nil, liveE_cons, stepP_some, optP_some, guardP_true, guardP_false, condP_true, condP_false, if_true, if_false, ite_true, ite_false, Nat.reduceEqDiff, Nat.reduceLT, true_and, List.map_cons, List.map_nil, Nat.zero_add, Nat.reduceBEq]
  refine loop_rule (fun m vs σ' => ∃ n e : Nat, e ≤ bs.length ∧ m = bs.length - e ∧ σ' = σ.set id (.cells [v, .int .i64 n, .int .i64 e]) ∧ vs = [.ptr id 0] ∧ n ≤ n0 + (e - e0) ∧ e0 ≤ e ∧
    n + (readL (bs.drop e)).1.length = n0 + (readL (bs.drop e0)).1.length ∧ e + (readL (bs.drop e)).2 = e0 + (readL (bs.drop e0)).2) (bs.length - e0) ⟨n0, e0, he, rfl, (set_same ho).symm, ?_, by omega, Nat.le_refl _, rfl, rfl⟩ ?_
  · simp -dsimp only [↓wpC_skip, ↓wpC_region, ↓wpC_drawn, ↓wpC_seq, ↓wpC_cond, ↓wpC_block, ↓wpC_loop, ↓wpC_exit, ↓wpC_ret, ↓wpOs_nil, ↓wpOs_guard, wantedA_eq, wantV_bool, wantV_hole, bq_tt, bq_ff, bq_tf, bq_ft, Bool.false_eq_true, Bool.true_eq_false, Bool.not_true, Bool.not_false, ↓seqQ_normal, ↓seqQ_exit, ↓seqQ_ret, ↓blockQ_normal, ↓blockQ_hit, ↓blockQ_miss, ↓blockQ_ret, ↓endQ_normal, ↓endQ_ret, loopQ_normal, ↓loopQ_exit, ↓loopQ_ret, res_one, res2_tmp, res3_tmp, res4_tmp, res_tmp, res_cell, ↓wpO_move, ↓wpO_pick, pickV_bool, ↓wpO_alloc, ↓wpO_box, ↓wpO_build, ↓wpO_lit, ↓wpO_litA, ↓wpO_load, ↓wpO_store, ↓wpO_nilCheck, ncV_ptr, ncV_eptr, ncV_fptr, ncV_func, ↓wpO_iop, ↓wpO_sop, ↓wpO_bop, bopV_bool, ↓wpO_eqs, ↓wpO_eqnil, ↓wpO_not, notV_bool, ↓wpO_neg, negV_int, ↓wpO_convI, ↓wpO_sliceOp, ↓wpO_substr, ↓wpO_faddr, ↓wpO_field, fieldV_agg, ↓wpO_iaddr, ↓wpO_aaddr, ↓wpO_strIdx, ↓wpO_arrIdx, ↓wpO_lenS, ↓wpO_lenStr, lenStrV_str, ↓wpO_lenM, ↓wpO_lenA, ↓wpO_capS, ↓wpO_minI, ↓wpO_maxI, ↓wpO_append, ↓wpO_appendz, ↓wpO_mkslice, ↓wpO_extract, extrV_tuple, ↓wpO_mkfunc, ↓wpO_mkmap, ↓wpO_lookup, ↓wpO_mapset, ↓wpO_mapdel, ↓wpO_mkiface, ↓wpO_callS, ↓wpO_callI, ↓wpO_callv, callvP_func, iop_add, iop_sub, iop_eql, iop_neq, iop_lss, iop_leq, iop_gtr, iop_geq, Fr_ev, Fr_get, Fr_put, Fr_len, put_none, ev_const, upd_apply, argE_zero, argE_succ, argE_nil, liveE_cons, stepP_some, optP_some, guardP_true, guardP_false, condP_true, condP_false, if_true, if_false, ite_true, ite_false, Nat.reduceEqDiff, Nat.reduceLT, true_and, List.map_cons, List.map_nil, Nat.zero_add, Nat.reduceBEq]
  · rintro m vs σ' ⟨n, e, hel, rfl, rfl, rfl, hnn, hee, h1, h2⟩
    have ho' := get_set (o' := .cells [v, .int .i64 n, .int .i64 e]) ho
    have hv' : SlOf (σ.set id (.cells [v, .int .i64 n, .int .i64 e])) 1 v (B bs) := hv.keeps (Keeps.set σ id _) fun i hi h => hv.noCell ho (by rw [← h]; exact hi)
    obtain ⟨x, s1, s2, _⟩ := hv'.sub_lo (lo := e) (by rw [B_len]; exact hel) .i64
    rw [B_drop] at s2
    simp -dsimp only [↓wpC_skip, ↓wpC_region, ↓wpC_drawn, ↓wpC_seq, ↓wpC_cond, ↓wpC_block, ↓wpC_loop, ↓wpC_exit, ↓wpC_ret, ↓wpOs_nil, ↓wpOs_guard, wantedA_eq, wantV_bool, wantV_hole, bq_tt, bq_ff, bq_tf, bq_ft, Bool.false_eq_true, Bool.true_eq_false, Bool.not_true, Bool.not_false, ↓seqQ_normal, ↓seqQ_exit, ↓seqQ_ret, ↓blockQ_normal, ↓blockQ_hit, ↓blockQ_miss, ↓blockQ_ret, ↓endQ_normal, ↓endQ_ret, loopQ_normal, ↓loopQ_exit, ↓loopQ_ret, res_one, res2_tmp, res3_tmp, res4_tmp, res_tmp, res_cell, ↓wpO_move, ↓wpO_pick, pickV_bool, ↓wpO_alloc, ↓wpO_box, ↓wpO_build, ↓wpO_lit, ↓wpO_litA, ↓wpO_load, ↓wpO_store, ↓wpO_nilCheck, ncV_ptr, ncV_eptr, ncV_fptr, ncV_func, ↓wpO_iop, ↓wpO_sop, ↓wpO_bop, bopV_bool, ↓wpO_eqs, ↓wpO_eqnil, ↓wpO_not, notV_bool, ↓wpO_neg, negV_int, ↓wpO_convI, ↓wpO_sliceOp, ↓wpO_substr, ↓wpO_faddr, ↓wpO_field, fieldV_agg, ↓wpO_iaddr, ↓wpO_aaddr, ↓wpO_strIdx, ↓wpO_arrIdx, ↓wpO_lenS, ↓wpO_lenStr, lenStrV_str, ↓wpO_lenM, ↓wpO_lenA, ↓wpO_capS, ↓wpO_minI, ↓wpO_maxI, ↓wpO_append, ↓wpO_appendz, ↓wpO_mkslice, ↓wpO_extract, extrV_tuple, ↓wpO_mkfunc, ↓wpO_mkmap, ↓wpO_lookup, ↓wpO_mapset, ↓wpO_mapdel, ↓wpO_mkiface, ↓wpO_callS, ↓wpO_callI, ↓wpO_callv, callvP_func, iop_add, iop_sub, iop_eql, iop_neq, iop_lss, iop_leq, iop_gtr, iop_geq, Fr_ev, Fr_get, Fr_put, Fr_len, put_none, ev_const, upd_apply, argE_zero, argE_succ, argE_nil, liveE_cons, stepP_some, optP_some, guardP_true, guardP_false, condP_true, condP_false, if_true, if_false, ite_true, ite_false, Nat.reduceEqDiff, Nat.reduceLT, true_and, List.map_cons, List.map_nil, Nat.zero_add, Nat.reduceBEq, faddr_ptr, load_cells ho', List.getElem?_cons_zero, List.getElem?_cons_succ, oev, s1]
    refine calledW_of (first_ok d _ x _ (by simp; omega) s2) ?_
    rintro r σ2 ⟨rfl, p, rfl, hp⟩
    simp -dsimp only [↓wpC_skip, ↓wpC_region, ↓wpC_drawn, ↓wpC_seq, ↓wpC_cond, ↓wpC_block, ↓wpC_loop, ↓wpC_exit, ↓wpC_ret, ↓wpOs_nil, ↓wpOs_guard, wantedA_eq, wantV_bool, wantV_hole, bq_tt, bq_ff, bq_tf, bq_ft, Bool.false_eq_true, Bool.true_eq_false, Bool.not_true, Bool.not_false, ↓seqQ_normal, ↓seqQ_exit, ↓seqQ_ret, ↓blockQ_normal, ↓blockQ_hit, ↓blockQ_miss, ↓blockQ_ret, ↓endQ_normal, ↓endQ_ret, loopQ_normal, ↓loopQ_exit, ↓loopQ_ret, res_one, res2_tmp, res3_tmp, res4_tmp, res_tmp, res_cell, ↓wpO_move, ↓wpO_pick, pickV_bool, ↓wpO_alloc, ↓wpO_box, ↓wpO_build, ↓wpO_lit, ↓wpO_litA, ↓wpO_load, ↓wpO_store, ↓wpO_nilCheck, ncV_ptr, ncV_eptr, ncV_fptr, ncV_func, ↓wpO_iop, ↓wpO_sop, ↓wpO_bop, bopV_bool, ↓wpO_eqs, ↓wpO_eqnil, ↓wpO_not, notV_bool, ↓wpO_neg, negV_int, ↓wpO_convI, ↓wpO_sliceOp, ↓wpO_substr, ↓wpO_faddr, ↓wpO_field, fieldV_agg, ↓wpO_iaddr, ↓wpO_aaddr, ↓wpO_strIdx, ↓wpO_arrIdx, ↓wpO_lenS, ↓wpO_lenStr, lenStrV_str, ↓wpO_lenM, ↓wpO_lenA, ↓wpO_capS, ↓wpO_minI, ↓wpO_maxI, ↓wpO_append, ↓wpO_appendz, ↓wpO_mkslice, ↓wpO_extract, extrV_tuple, ↓wpO_mkfunc, ↓wpO_mkmap, ↓wpO_lookup, ↓wpO_mapset, ↓wpO_mapdel, ↓wpO_mkiface, ↓wpO_callS, ↓wpO_callI, ↓wpO_callv, callvP_func, iop_add, iop_sub, iop_eql, iop_neq, iop_lss, iop_leq, iop_gtr, iop_geq, Fr_ev, Fr_get, Fr_put, Fr_len, put_none, ev_const, upd_apply, argE_zero, argE_succ, argE_nil, liveE_cons, stepP_some, optP_some, guardP_true, guardP_false, condP_true, condP_false, if_true, if_false, ite_true, ite_false, Nat.reduceEqDiff, Nat.reduceLT, true_and, List.map_cons, List.map_nil, Nat.zero_add, Nat.reduceBEq, List.getElem?_cons_zero, List.getElem?_cons_succ]
    cases hq : firstL (bs.drop e) with
    | none =>
      simp -dsimp only [↓wpC_skip, ↓wpC_region, ↓wpC_drawn, ↓wpC_seq, ↓wpC_cond, ↓wpC_block, ↓wpC_loop, ↓wpC_exit, ↓wpC_ret, ↓wpOs_nil, ↓wpOs_guard, wantedA_eq, wantV_bool, wantV_hole, bq_tt, bq_ff, bq_tf, bq_ft, Bool.false_eq_true, Bool.true_eq_false, Bool.not_true, Bool.not_false, ↓seqQ_normal, ↓seqQ_exit, ↓seqQ_ret, ↓blockQ_normal, ↓blockQ_hit, ↓blockQ_miss, ↓blockQ_ret, ↓endQ_normal, ↓endQ_ret, loopQ_normal, ↓loopQ_exit, ↓loopQ_ret, res_one, res2_tmp, res3_tmp, res4_tmp, res_tmp, res_cell, ↓wpO_move, ↓wpO_pick, pickV_bool, ↓wpO_alloc, ↓wpO_box, ↓wpO_build, ↓wpO_lit, ↓wpO_litA, ↓wpO_load, ↓wpO_store, ↓wpO_nilCheck, ncV_ptr, ncV_eptr, ncV_fptr, ncV_func, ↓wpO_iop, ↓wpO_sop, ↓wpO_bop, bopV_bool, ↓wpO_eqs, ↓wpO_eqnil, ↓wpO_not, notV_bool, ↓wpO_neg, negV_int, ↓wpO_convI, ↓wpO_sliceOp, ↓wpO_substr, ↓wpO_faddr, ↓wpO_field, fieldV_agg, ↓wpO_iaddr, ↓wpO_aaddr, ↓wpO_strIdx, ↓wpO_arrIdx, ↓wpO_lenS, ↓wpO_lenStr, lenStrV_str, ↓wpO_lenM, ↓wpO_lenA, ↓wpO_capS, ↓wpO_minI, ↓wpO_maxI, ↓wpO_append, ↓wpO_appendz, ↓wpO_mkslice, ↓wpO_extract, extrV_tuple, ↓wpO_mkfunc, ↓wpO_mkmap, ↓wpO_lookup, ↓wpO_mapset, ↓wpO_mapdel, ↓wpO_mkiface, ↓wpO_callS, ↓wpO_callI, ↓wpO_callv, callvP_func, iop_add, iop_sub, iop_eql, iop_neq, iop_lss, iop_leq, iop_gtr, iop_geq, Fr_ev, Fr_get, Fr_put, Fr_len, put_none, ev_const, upd_apply, argE_zero, argE_succ, argE_nil, liveE_cons, stepP_some, optP_some, guardP_true, guardP_false, condP_true, condP_false, if_true, if_false, ite_true, ite_false, Nat.reduceEqDiff, Nat.reduceLT, true_and, List.map_cons, List.map_nil, Nat.zero_add, Nat.reduceBEq, Option.isSome, resultsA, mapO]
      rw [readL_none hq] at h1 h2
      simp only [List.length_nil, Nat.add_zero] at h1 h2
      rw [h1, h2]
    | some q =>
      obtain ⟨p1, p2⟩ := hp q hq
      have hql := firstL_len hq
      simp only [List.length_drop] at hql
      have lp := p1.len
      rw [B_len] at lp
      have w0 : IntKind.i64.wrap ((n : Int) + 1) = ((n + 1 : Nat) : Int) := by rw [wrap_i64 (by omega) (by omega)]; omega
      have w1 : IntKind.i64.wrap (8 + (q.length : Int)) = ((8 + q.length : Nat) : Int) := by rw [wrap_i64 (by omega) (by omega)]; omega
      have w2 : IntKind.i64.wrap ((e : Int) + ((8 + q.length : Nat) : Int)) = ((e + (8 + q.length) : Nat) : Int) := by rw [wrap_i64 (by omega) (by omega)]; omega
      have st1 := store_cells ho' (off := 1) (by simp) (v := .int .i64 ((n + 1 : Nat) : Int)) rfl
      simp only [List.set_cons_succ, List.set_cons_zero, List.set_set] at st1
      have ho2 := get_set (o' := .cells [v, .int .i64 ((n + 1 : Nat) : Int), .int .i64 e]) ho
      have st2 := store_cells ho2 (off := 2) (by simp) (v := .int .i64 ((e + (8 + q.length) : Nat) : Int)) rfl
      simp only [List.set_cons_succ, List.set_cons_zero, List.set_set] at st2
      simp -dsimp only [↓wpC_skip, ↓wpC_region, ↓wpC_drawn, ↓wpC_seq, ↓wpC_cond, ↓wpC_block, ↓wpC_loop, ↓wpC_exit, ↓wpC_ret, ↓wpOs_nil, ↓wpOs_guard, wantedA_eq, wantV_bool, wantV_hole, bq_tt, bq_ff, bq_tf, bq_ft, Bool.false_eq_true, Bool.true_eq_false, Bool.not_true, Bool.not_false, ↓seqQ_normal, ↓seqQ_exit, ↓seqQ_ret, ↓blockQ_normal, ↓blockQ_hit, ↓blockQ_miss, ↓blockQ_ret, ↓endQ_normal, ↓endQ_ret, loopQ_normal, ↓loopQ_exit, ↓loopQ_ret, res_one, res2_tmp, res3_tmp, res4_tmp, res_tmp, res_cell, ↓wpO_move, ↓wpO_pick, pickV_bool, ↓wpO_alloc, ↓wpO_box, ↓wpO_build, ↓wpO_lit, ↓wpO_litA, ↓wpO_load, ↓wpO_store, ↓wpO_nilCheck, ncV_ptr, ncV_eptr, ncV_fptr, ncV_func, ↓wpO_iop, ↓wpO_sop, ↓wpO_bop, bopV_bool, ↓wpO_eqs, ↓wpO_eqnil, ↓wpO_not, notV_bool, ↓wpO_neg, negV_int, ↓wpO_convI, ↓wpO_sliceOp, ↓wpO_substr, ↓wpO_faddr, ↓wpO_field, fieldV_agg, ↓wpO_iaddr, ↓wpO_aaddr, ↓wpO_strIdx, ↓wpO_arrIdx, ↓wpO_lenS, ↓wpO_lenStr, lenStrV_str, ↓wpO_lenM, ↓wpO_lenA, ↓wpO_capS, ↓wpO_minI, ↓wpO_maxI, ↓wpO_append, ↓wpO_appendz, ↓wpO_mkslice, ↓wpO_extract, extrV_tuple, ↓wpO_mkfunc, ↓wpO_mkmap, ↓wpO_lookup, ↓wpO_mapset, ↓wpO_mapdel, ↓wpO_mkiface, ↓wpO_callS, ↓wpO_callI, ↓wpO_callv, callvP_func, iop_add, iop_sub, iop_eql, iop_neq, iop_lss, iop_leq, iop_gtr, iop_geq, Fr_ev, Fr_get, Fr_put, Fr_len, put_none, ev_const, upd_apply, argE_zero, argE_succ, argE_nil, liveE_cons, stepP_some, optP_some, guardP_true, guardP_false, condP_true, condP_false, if_true, if_false, ite_true, ite_false, Nat.reduceEqDiff, Nat.reduceLT, true_and, List.map_cons, List.map_nil, Nat.zero_add, Nat.reduceBEq, Option.isSome, faddr_ptr, load_cells ho', List.getElem?_cons_zero, List.getElem?_cons_succ, w0, st1, load_cells ho2, lp, w1, w2, st2]
      rw [readL_some hq, List.drop_drop] at h1 h2
      simp only [List.length_cons] at h1 h2
      exact ⟨bs.length - (e + (8 + q.length)), by omega, n + 1, e + (8 + q.length), by omega, rfl, rfl, by omega, by omega, by omega, by omega⟩
end
end Go.Proofs.Ytmocplkpnickgaa.Am
