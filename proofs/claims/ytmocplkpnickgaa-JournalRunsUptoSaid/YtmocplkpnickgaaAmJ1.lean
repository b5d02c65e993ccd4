/-
  Journal: bytes, sums, numbers of four bytes.
-/
import Derived.Test.YtmocplkpnickgaaAmRw
import Derived.Test.YtmocplkpnickgaaAmCJ
namespace Go.Proofs.Ytmocplkpnickgaa.Am
open Go
set_option linter.unusedVariables false
set_option linter.unusedSimpArgs false

def sumStep (s : UInt32) (b : UInt8) : UInt32 := (s ^^^ b.toUInt32) * 16777619
def sum0 : UInt32 := 2166136261
theorem sum0_nat : (sum0.toNat : Int) = 2166136261 := by decide
def sumL (bs : List UInt8) : UInt32 := bs.foldl sumStep sum0

theorem bv_nat (k n : Nat) : BitVec.ofInt k (n : Int) = BitVec.ofNat k n := by
  apply BitVec.eq_of_toNat_eq
  simp [BitVec.toNat_ofInt, BitVec.toNat_ofNat]
theorem sum_xor (s : UInt32) (b : UInt8) : iopV .xor (.int .u32 s.toNat) (.int .u32 (IntKind.u32.wrap b.toNat)) = some (.int .u32 (s ^^^ b.toUInt32).toNat) := by
  have hb := b.toNat_lt
  have hs := s.toNat_lt
  have e1 : (BitVec.ofInt IntKind.u32.bits (s.toNat : Int) ^^^ BitVec.ofInt IntKind.u32.bits (b.toNat : Int)).toNat = (s ^^^ b.toUInt32).toNat := by
    rw [bv_nat, bv_nat, BitVec.toNat_xor, BitVec.toNat_ofNat, BitVec.toNat_ofNat, UInt32.toNat_xor]
    simp only [IntKind.bits, UInt8.toNat_toUInt32]
    rw [Nat.mod_eq_of_lt hs, Nat.mod_eq_of_lt (by omega)]
  rw [iop_xor, wrap_u32 (x := (b.toNat : Int)) (by omega) (by omega), e1]
  have := (s ^^^ b.toUInt32).toNat_lt
  rw [wrap_u32 (by omega) (by omega)]
theorem sum_mul (x : UInt32) : iopV .mul (.int .u32 x.toNat) (.int .u32 16777619) = some (.int .u32 (x * 16777619).toNat) := by
  rw [iop_mul, wrap_u32_mod]
  have e : (x * 16777619).toNat = x.toNat * 16777619 % 4294967296 := by rw [UInt32.toNat_mul]; rfl
  rw [e]
  congr 2

theorem take_succ_foldl {α β : Type} (f : β → α → β) (z : β) (l : List α) (k : Nat) (h : k < l.length) : (l.take (k + 1)).foldl f z = f ((l.take k).foldl f z) l[k] := by
  rw [List.take_add_one, List.getElem?_eq_getElem h, List.foldl_append]; rfl

/-- four bytes of a number, the highest first -/
def hdr (n : Nat) : List UInt8 := [UInt8.ofNat (n / 16777216), UInt8.ofNat (n / 65536), UInt8.ofNat (n / 256), UInt8.ofNat n]
def numOf (bs : List UInt8) : Nat := (bs.getD 0 0).toNat * 16777216 + (bs.getD 1 0).toNat * 65536 + (bs.getD 2 0).toNat * 256 + (bs.getD 3 0).toNat
theorem hdr_len (n : Nat) : (hdr n).length = 4 := rfl
theorem numOf_lt (bs : List UInt8) : numOf bs < 4294967296 := by
  have h0 := (bs.getD 0 0).toNat_lt; have h1 := (bs.getD 1 0).toNat_lt; have h2 := (bs.getD 2 0).toNat_lt; have h3 := (bs.getD 3 0).toNat_lt
  unfold numOf; omega
theorem numOf_hdr (n : Nat) (h : n < 4294967296) (r : List UInt8) : numOf (hdr n ++ r) = n := by
  simp only [numOf, hdr, List.cons_append, List.nil_append, List.getD_cons_zero, List.getD_cons_succ, UInt8.toNat_ofNat']
  omega
theorem numOf_take (bs : List UInt8) (k : Nat) (h : 4 ≤ k) : numOf (bs.take k) = numOf bs := by
  have e : ∀ i, i < 4 → (bs.take k).getD i 0 = bs.getD i 0 := fun i hi => by simp [List.getD_eq_getElem?_getD, List.getElem?_take_of_lt (show i < k by omega)]
  simp only [numOf, e 0 (by omega), e 1 (by omega), e 2 (by omega), e 3 (by omega)]
theorem hdr_numOf (bs : List UInt8) (h : 4 ≤ bs.length) : hdr (numOf bs) = bs.take 4 := by
  match bs, h with
  | a :: b :: c :: e :: r, _ =>
    have h0 := a.toNat_lt; have h1 := b.toNat_lt; have h2 := c.toNat_lt; have h3 := e.toNat_lt
    have e1 : ∀ (x : UInt8) (m : Nat), m % 256 = x.toNat → UInt8.ofNat m = x := fun x m hm => by
      apply UInt8.toNat_inj.1; rw [UInt8.toNat_ofNat']; exact hm
    simp only [hdr, numOf, List.getD_cons_zero, List.getD_cons_succ, List.take_succ_cons, List.take_zero]
    rw [e1 a _ (by omega), e1 b _ (by omega), e1 c _ (by omega), e1 e _ (by omega)]

theorem shr_byte (n k : Nat) (j : Int) (hj : 0 ≤ j) (h : min j.toNat 32 = k) : iopV .shr (.int .u32 n) (.int .u64 j) = some (.int .u32 ((n / 2 ^ k : Nat))) := by
  rw [iop_shr _ _ _ _ hj]
  simp only [IntKind.bits, h]
  rw [Int.fdiv_eq_ediv_of_nonneg _ (by exact_mod_cast Nat.zero_le (2 ^ k))]
  simp
theorem conv_byte (n : Nat) : convV .u8 (.int .u32 n) = some (.int .u8 (UInt8.ofNat n).toNat) := by
  rw [convV_int, wrap_u8_mod, UInt8.toNat_ofNat']; rfl
theorem conv_u32 (b : UInt8) : convV .u32 (.int .u8 b.toNat) = some (.int .u32 b.toNat) := by
  have := b.toNat_lt
  rw [convV_int, wrap_u32 (by omega) (by omega)]
theorem shl_nat (n k : Nat) (j : Int) (hj : 0 ≤ j) (h : min j.toNat 32 = k) (hn : n * 2 ^ k < 4294967296) : iopV .shl (.int .u32 n) (.int .u64 j) = some (.int .u32 ((n * 2 ^ k : Nat))) := by
  rw [iop_shl _ _ _ _ hj]
  simp only [IntKind.bits, h]
  have e : (n : Int) * 2 ^ k = ((n * 2 ^ k : Nat) : Int) := by simp
  rw [e, wrap_u32 (by omega) (by omega)]
theorem or_nat (a b k : Nat) (hb : b < 2 ^ k) (ha : a % 2 ^ k = 0) (h : a + b < 4294967296) : iopV .or (.int .u32 a) (.int .u32 b) = some (.int .u32 ((a + b : Nat))) := by
  rw [iop_or, bv_nat, bv_nat, BitVec.toNat_or, BitVec.toNat_ofNat, BitVec.toNat_ofNat]
  simp only [IntKind.bits]
  rw [Nat.mod_eq_of_lt (show a < 2 ^ 32 by omega), Nat.mod_eq_of_lt (show b < 2 ^ 32 by omega)]
  have e : a ||| b = a + b := by
    obtain ⟨c, rfl⟩ : ∃ c, a = c <<< k := ⟨a / 2 ^ k, by rw [Nat.shiftLeft_eq]; exact (Nat.div_mul_cancel (Nat.dvd_of_mod_eq_zero ha)).symm⟩
    rw [← Nat.shiftLeft_add_eq_or_of_lt hb]
  rw [e, wrap_u32 (by omega) (by omega)]

section
variable (d : Nat) (σ : Store)

theorem sum_ok (b : AVal) (bs : List UInt8) (hs : bs.length < 2 ^ 40) (hb : SlOf σ 1 b (B bs)) : Called CJ.cfg d 21 [b] σ fun v σ' => v = .int .u32 (sumL bs).toNat ∧ σ' = σ := by
  refine called_of (fn := CJ.a21) rfl (Nat.le_of_ble_eq_true rfl) ?_
  have hlen := hb.len
  rw [B_len] at hlen
  simp only [CJ.a21]
  simp -dsimp only [↓wpC_skip, ↓wpC_region, ↓wpC_drawn, ↓wpC_seq, ↓wpC_cond, ↓wpC_block, ↓wpC_loop, ↓wpC_exit, ↓wpC_ret, ↓wpOs_nil, ↓wpOs_guard, wantedA_eq, wantV_bool, wantV_hole, bq_tt, bq_ff, bq_tf, bq_ft, Bool.false_eq_true, Bool.true_eq_false, Bool.not_true, Bool.not_false, ↓seqQ_normal, ↓seqQ_exit, ↓seqQ_ret, ↓blockQ_normal, ↓blockQ_hit, ↓blockQ_miss, ↓blockQ_ret, ↓endQ_normal, ↓endQ_ret, loopQ_normal, ↓loopQ_exit, ↓loopQ_ret, res_one, res2_tmp, res3_tmp, res4_tmp, res_tmp, res_cell, ↓wpO_move, ↓wpO_pick, pickV_bool, ↓wpO_alloc, ↓wpO_box, ↓wpO_build, ↓wpO_lit, ↓wpO_litA, ↓wpO_load, ↓wpO_store, ↓wpO_nilCheck, ncV_ptr, ncV_eptr, ncV_fptr, ncV_func, ↓wpO_iop, ↓wpO_sop, ↓wpO_bop, bopV_bool, ↓wpO_eqs, ↓wpO_eqnil, ↓wpO_not, notV_bool, ↓wpO_neg, negV_int, ↓wpO_convI, ↓wpO_sliceOp, ↓wpO_substr, ↓wpO_faddr, ↓wpO_field, fieldV_agg, ↓wpO_iaddr, ↓wpO_aaddr, ↓wpO_strIdx, ↓wpO_arrIdx, ↓wpO_lenS, ↓wpO_lenStr, lenStrV_str, ↓wpO_lenM, ↓wpO_lenA, ↓wpO_capS, ↓wpO_minI, ↓wpO_maxI, ↓wpO_append, ↓wpO_appendz, ↓wpO_mkslice, ↓wpO_extract, extrV_tuple, ↓wpO_mkfunc, ↓wpO_mkmap, ↓wpO_lookup, ↓wpO_mapset, ↓wpO_mapdel, ↓wpO_mkiface, ↓wpO_callS, ↓wpO_callI, ↓wpO_callv, callvP_func, iop_add, iop_sub, iop_eql, iop_neq, iop_lss, iop_leq, iop_gtr, iop_geq, Fr_ev, Fr_get, Fr_put, Fr_len, put_none, ev_const, upd_apply, argE_zero, argE_succ, argE_nil, liveE_cons, stepP_some, optP_some, guardP_true, guardP_false, condP_true, condP_false, if_true, if_false, ite_true, ite_false, Nat.reduceEqDiff, Nat.reduceLT, true_and, List.map_cons, List.map_nil, Nat.zero_add, Nat.reduceBEq, hlen]
  refine loop_rule (fun m vs σ' => ∃ k : Nat, k ≤ bs.length ∧ m = bs.length - k ∧ σ' = σ ∧ vs = [.int .u32 ((bs.take k).foldl sumStep sum0).toNat, b, .int .i64 bs.length, .int .i64 k]) bs.length ⟨0, Nat.zero_le _, rfl, rfl, ?_⟩ ?_
  · simp -dsimp only [↓wpC_skip, ↓wpC_region, ↓wpC_drawn, ↓wpC_seq, ↓wpC_cond, ↓wpC_block, ↓wpC_loop, ↓wpC_exit, ↓wpC_ret, ↓wpOs_nil, ↓wpOs_guard, wantedA_eq, wantV_bool, wantV_hole, bq_tt, bq_ff, bq_tf, bq_ft, Bool.false_eq_true, Bool.true_eq_false, Bool.not_true, Bool.not_false, ↓seqQ_normal, ↓seqQ_exit, ↓seqQ_ret, ↓blockQ_normal, ↓blockQ_hit, ↓blockQ_miss, ↓blockQ_ret, ↓endQ_normal, ↓endQ_ret, loopQ_normal, ↓loopQ_exit, ↓loopQ_ret, res_one, res2_tmp, res3_tmp, res4_tmp, res_tmp, res_cell, ↓wpO_move, ↓wpO_pick, pickV_bool, ↓wpO_alloc, ↓wpO_box, ↓wpO_build, ↓wpO_lit, ↓wpO_litA, ↓wpO_load, ↓wpO_store, ↓wpO_nilCheck, ncV_ptr, ncV_eptr, ncV_fptr, ncV_func, ↓wpO_iop, ↓wpO_sop, ↓wpO_bop, bopV_bool, ↓wpO_eqs, ↓wpO_eqnil, ↓wpO_not, notV_bool, ↓wpO_neg, negV_int, ↓wpO_convI, ↓wpO_sliceOp, ↓wpO_substr, ↓wpO_faddr, ↓wpO_field, fieldV_agg, ↓wpO_iaddr, ↓wpO_aaddr, ↓wpO_strIdx, ↓wpO_arrIdx, ↓wpO_lenS, ↓wpO_lenStr, lenStrV_str, ↓wpO_lenM, ↓wpO_lenA, ↓wpO_capS, ↓wpO_minI, ↓wpO_maxI, ↓wpO_append, ↓wpO_appendz, ↓wpO_mkslice, ↓wpO_extract, extrV_tuple, ↓wpO_mkfunc, ↓wpO_mkmap, ↓wpO_lookup, ↓wpO_mapset, ↓wpO_mapdel, ↓wpO_mkiface, ↓wpO_callS, ↓wpO_callI, ↓wpO_callv, callvP_func, iop_add, iop_sub, iop_eql, iop_neq, iop_lss, iop_leq, iop_gtr, iop_geq, Fr_ev, Fr_get, Fr_put, Fr_len, put_none, ev_const, upd_apply, argE_zero, argE_succ, argE_nil, liveE_cons, stepP_some, optP_some, guardP_true, guardP_false, condP_true, condP_false, if_true, if_false, ite_true, ite_false, Nat.reduceEqDiff, Nat.reduceLT, true_and, List.map_cons, List.map_nil, Nat.zero_add, Nat.reduceBEq, List.take_zero, List.foldl_nil, sum0_nat]; rfl
  · rintro m vs σ' ⟨k, hk, rfl, rfl, rfl⟩
    simp -dsimp only [↓wpC_skip, ↓wpC_region, ↓wpC_drawn, ↓wpC_seq, ↓wpC_cond, ↓wpC_block, ↓wpC_loop, ↓wpC_exit, ↓wpC_ret, ↓wpOs_nil, ↓wpOs_guard, wantedA_eq, wantV_bool, wantV_hole, bq_tt, bq_ff, bq_tf, bq_ft, Bool.false_eq_true, Bool.true_eq_false, Bool.not_true, Bool.not_false, ↓seqQ_normal, ↓seqQ_exit, ↓seqQ_ret, ↓blockQ_normal, ↓blockQ_hit, ↓blockQ_miss, ↓blockQ_ret, ↓endQ_normal, ↓endQ_ret, loopQ_normal, ↓loopQ_exit, ↓loopQ_ret, res_one, res2_tmp, res3_tmp, res4_tmp, res_tmp, res_cell, ↓wpO_move, ↓wpO_pick, pickV_bool, ↓wpO_alloc, ↓wpO_box, ↓wpO_build, ↓wpO_lit, ↓wpO_litA, ↓wpO_load, ↓wpO_store, ↓wpO_nilCheck, ncV_ptr, ncV_eptr, ncV_fptr, ncV_func, ↓wpO_iop, ↓wpO_sop, ↓wpO_bop, bopV_bool, ↓wpO_eqs, ↓wpO_eqnil, ↓wpO_not, notV_bool, ↓wpO_neg, negV_int, ↓wpO_convI, ↓wpO_sliceOp, ↓wpO_substr, ↓wpO_faddr, ↓wpO_field, fieldV_agg, ↓wpO_iaddr, ↓wpO_aaddr, ↓wpO_strIdx, ↓wpO_arrIdx, ↓wpO_lenS, ↓wpO_lenStr, lenStrV_str, ↓wpO_lenM, ↓wpO_lenA, ↓wpO_capS, ↓wpO_minI, ↓wpO_maxI, ↓wpO_append, ↓wpO_appendz, ↓wpO_mkslice, ↓wpO_extract, extrV_tuple, ↓wpO_mkfunc, ↓wpO_mkmap, ↓wpO_lookup, ↓wpO_mapset, ↓wpO_mapdel, ↓wpO_mkiface, ↓wpO_callS, ↓wpO_callI, ↓wpO_callv, callvP_func, iop_add, iop_sub, iop_eql, iop_neq, iop_lss, iop_leq, iop_gtr, iop_geq, Fr_ev, Fr_get, Fr_put, Fr_len, put_none, ev_const, upd_apply, argE_zero, argE_succ, argE_nil, liveE_cons, stepP_some, optP_some, guardP_true, guardP_false, condP_true, condP_false, if_true, if_false, ite_true, ite_false, Nat.reduceEqDiff, Nat.reduceLT, true_and, List.map_cons, List.map_nil, Nat.zero_add, Nat.reduceBEq]
    refine condP_dec (fun h => ?_) (fun h => ?_)
    · have hk' : k < bs.length := by omega
      have hi : k < (B bs).length := by rw [B_len]; exact hk'
      simp -dsimp only [↓wpC_skip, ↓wpC_region, ↓wpC_drawn, ↓wpC_seq, ↓wpC_cond, ↓wpC_block, ↓wpC_loop, ↓wpC_exit, ↓wpC_ret, ↓wpOs_nil, ↓wpOs_guard, wantedA_eq, wantV_bool, wantV_hole, bq_tt, bq_ff, bq_tf, bq_ft, Bool.false_eq_true, Bool.true_eq_false, Bool.not_true, Bool.not_false, ↓seqQ_normal, ↓seqQ_exit, ↓seqQ_ret, ↓blockQ_normal, ↓blockQ_hit, ↓blockQ_miss, ↓blockQ_ret, ↓endQ_normal, ↓endQ_ret, loopQ_normal, ↓loopQ_exit, ↓loopQ_ret, res_one, res2_tmp, res3_tmp, res4_tmp, res_tmp, res_cell, ↓wpO_move, ↓wpO_pick, pickV_bool, ↓wpO_alloc, ↓wpO_box, ↓wpO_build, ↓wpO_lit, ↓wpO_litA, ↓wpO_load, ↓wpO_store, ↓wpO_nilCheck, ncV_ptr, ncV_eptr, ncV_fptr, ncV_func, ↓wpO_iop, ↓wpO_sop, ↓wpO_bop, bopV_bool, ↓wpO_eqs, ↓wpO_eqnil, ↓wpO_not, notV_bool, ↓wpO_neg, negV_int, ↓wpO_convI, ↓wpO_sliceOp, ↓wpO_substr, ↓wpO_faddr, ↓wpO_field, fieldV_agg, ↓wpO_iaddr, ↓wpO_aaddr, ↓wpO_strIdx, ↓wpO_arrIdx, ↓wpO_lenS, ↓wpO_lenStr, lenStrV_str, ↓wpO_lenM, ↓wpO_lenA, ↓wpO_capS, ↓wpO_minI, ↓wpO_maxI, ↓wpO_append, ↓wpO_appendz, ↓wpO_mkslice, ↓wpO_extract, extrV_tuple, ↓wpO_mkfunc, ↓wpO_mkmap, ↓wpO_lookup, ↓wpO_mapset, ↓wpO_mapdel, ↓wpO_mkiface, ↓wpO_callS, ↓wpO_callI, ↓wpO_callv, callvP_func, iop_add, iop_sub, iop_eql, iop_neq, iop_lss, iop_leq, iop_gtr, iop_geq, Fr_ev, Fr_get, Fr_put, Fr_len, put_none, ev_const, upd_apply, argE_zero, argE_succ, argE_nil, liveE_cons, stepP_some, optP_some, guardP_true, guardP_false, condP_true, condP_false, if_true, if_false, ite_true, ite_false, Nat.reduceEqDiff, Nat.reduceLT, true_and, List.map_cons, List.map_nil, Nat.zero_add, Nat.reduceBEq, hb.iaddr hi, hb.load1 hi (by rw [B_get]; rfl), B_get, convV_int, sum_xor, sum_mul]
      refine ⟨bs.length - (k + 1), by omega, k + 1, by omega, rfl, ?_⟩
      rw [take_succ_foldl _ _ _ _ hk', wrap_i64 (by omega) (by omega), sumStep, Int.natCast_add, Int.natCast_one]
    · simp -dsimp only [↓wpC_skip, ↓wpC_region, ↓wpC_drawn, ↓wpC_seq, ↓wpC_cond, ↓wpC_block, ↓wpC_loop, ↓wpC_exit, ↓wpC_ret, ↓wpOs_nil, ↓wpOs_guard, wantedA_eq, wantV_bool, wantV_hole, bq_tt, bq_ff, bq_tf, bq_ft, Bool.false_eq_true, Bool.true_eq_false, Bool.not_true, Bool.not_false, ↓seqQ_normal, ↓seqQ_exit, ↓seqQ_ret, ↓blockQ_normal, ↓blockQ_hit, ↓blockQ_miss, ↓blockQ_ret, ↓endQ_normal, ↓endQ_ret, loopQ_normal, ↓loopQ_exit, ↓loopQ_ret, res_one, res2_tmp, res3_tmp, res4_tmp, res_tmp, res_cell, ↓wpO_move, ↓wpO_pick, pickV_bool, ↓wpO_alloc, ↓wpO_box, ↓wpO_build, ↓wpO_lit, ↓wpO_litA, ↓wpO_load, ↓wpO_store, ↓wpO_nilCheck, ncV_ptr, ncV_eptr, ncV_fptr, ncV_func, ↓wpO_iop, ↓wpO_sop, ↓wpO_bop, bopV_bool, ↓wpO_eqs, ↓wpO_eqnil, ↓wpO_not, notV_bool, ↓wpO_neg, negV_int, ↓wpO_convI, ↓wpO_sliceOp, ↓wpO_substr, ↓wpO_faddr, ↓wpO_field, fieldV_agg, ↓wpO_iaddr, ↓wpO_aaddr, ↓wpO_strIdx, ↓wpO_arrIdx, ↓wpO_lenS, ↓wpO_lenStr, lenStrV_str, ↓wpO_lenM, ↓wpO_lenA, ↓wpO_capS, ↓wpO_minI, ↓wpO_maxI, ↓wpO_append, ↓wpO_appendz, ↓wpO_mkslice, ↓wpO_extract, extrV_tuple, ↓wpO_mkfunc, ↓wpO_mkmap, ↓wpO_lookup, ↓wpO_mapset, ↓wpO_mapdel, ↓wpO_mkiface, ↓wpO_callS, ↓wpO_callI, ↓wpO_callv, callvP_func, iop_add, iop_sub, iop_eql, iop_neq, iop_lss, iop_leq, iop_gtr, iop_geq, Fr_ev, Fr_get, Fr_put, Fr_len, put_none, ev_const, upd_apply, argE_zero, argE_succ, argE_nil, liveE_cons, stepP_some, optP_some, guardP_true, guardP_false, condP_true, condP_false, if_true, if_false, ite_true, ite_false, Nat.reduceEqDiff, Nat.reduceLT, true_and, List.map_cons, List.map_nil, Nat.zero_add, Nat.reduceBEq]
      have : k = bs.length := by omega
      subst this
      rw [List.take_length]
      exact ⟨rfl, trivial⟩

theorem refsum_ok (b : AVal) (bs : List UInt8) (hs : bs.length < 2 ^ 40) (hb : SlOf σ 1 b (B bs)) : Called CJ.cfg d 22 [b] σ fun v σ' => v = .int .u32 (sumL bs).toNat ∧ σ' = σ := by
  refine called_of (fn := CJ.a22) rfl (Nat.le_of_ble_eq_true rfl) ?_
  have hlen := hb.len
  rw [B_len] at hlen
  simp only [CJ.a22]
  simp -dsimp only [↓wpC_skip, ↓wpC_region, ↓wpC_drawn, ↓wpC_seq, ↓wpC_cond, ↓wpC_block, ↓wpC_loop, ↓wpC_exit, ↓wpC_ret, ↓wpOs_nil, ↓wpOs_guard, wantedA_eq, wantV_bool, wantV_hole, bq_tt, bq_ff, bq_tf, bq_ft, Bool.false_eq_true, Bool.true_eq_false, Bool.not_true, Bool.not_false, ↓seqQ_normal, ↓seqQ_exit, ↓seqQ_ret, ↓blockQ_normal, ↓blockQ_hit, ↓blockQ_miss, ↓blockQ_ret, ↓endQ_normal, ↓endQ_ret, loopQ_normal, ↓loopQ_exit, ↓loopQ_ret, res_one, res2_tmp, res3_tmp, res4_tmp, res_tmp, res_cell, ↓wpO_move, ↓wpO_pick, pickV_bool, ↓wpO_alloc, ↓wpO_box, ↓wpO_build, ↓wpO_lit, ↓wpO_litA, ↓wpO_load, ↓wpO_store, ↓wpO_nilCheck, ncV_ptr, ncV_eptr, ncV_fptr, ncV_func, ↓wpO_iop, ↓wpO_sop, ↓wpO_bop, bopV_bool, ↓wpO_eqs, ↓wpO_eqnil, ↓wpO_not, notV_bool, ↓wpO_neg, negV_int, ↓wpO_convI, ↓wpO_sliceOp, ↓wpO_substr, ↓wpO_faddr, ↓wpO_field, fieldV_agg, ↓wpO_iaddr, ↓wpO_aaddr, ↓wpO_strIdx, ↓wpO_arrIdx, ↓wpO_lenS, ↓wpO_lenStr, lenStrV_str, ↓wpO_lenM, ↓wpO_lenA, ↓wpO_capS, ↓wpO_minI, ↓wpO_maxI, ↓wpO_append, ↓wpO_appendz, ↓wpO_mkslice, ↓wpO_extract, extrV_tuple, ↓wpO_mkfunc, ↓wpO_mkmap, ↓wpO_lookup, ↓wpO_mapset, ↓wpO_mapdel, ↓wpO_mkiface, ↓wpO_callS, ↓wpO_callI, ↓wpO_callv, callvP_func, iop_add, iop_sub, iop_eql, iop_neq, iop_lss, iop_leq, iop_gtr, iop_geq, Fr_ev, Fr_get, Fr_put, Fr_len, put_none, ev_const, upd_apply, argE_zero, argE_succ, argE_nil, liveE_cons, stepP_some, optP_some, guardP_true, guardP_false, condP_true, condP_false, if_true, if_false, ite_true, ite_false, Nat.reduceEqDiff, Nat.reduceLT, true_and, List.map_cons, List.map_nil, Nat.zero_add, Nat.reduceBEq, hlen]
  refine loop_rule (fun m vs σ' => ∃ k : Nat, k ≤ bs.length ∧ m = bs.length - k ∧ σ' = σ ∧ vs = [b, .int .u32 ((bs.take k).foldl sumStep sum0).toNat, .int .i64 k]) bs.length ⟨0, Nat.zero_le _, rfl, rfl, ?_⟩ ?_
  · simp -dsimp only [↓wpC_skip, ↓wpC_region, ↓wpC_drawn, ↓wpC_seq, ↓wpC_cond, ↓wpC_block, ↓wpC_loop, ↓wpC_exit, ↓wpC_ret, ↓wpOs_nil, ↓wpOs_guard, wantedA_eq, wantV_bool, wantV_hole, bq_tt, bq_ff, bq_tf, bq_ft, Bool.false_eq_true, Bool.true_eq_false, Bool.not_true, Bool.not_false, ↓seqQ_normal, ↓seqQ_exit, ↓seqQ_ret, ↓blockQ_normal, ↓blockQ_hit, ↓blockQ_miss, ↓blockQ_ret, ↓endQ_normal, ↓endQ_ret, loopQ_normal, ↓loopQ_exit, ↓loopQ_ret, res_one, res2_tmp, res3_tmp, res4_tmp, res_tmp, res_cell, ↓wpO_move, ↓wpO_pick, pickV_bool, ↓wpO_alloc, ↓wpO_box, ↓wpO_build, ↓wpO_lit, ↓wpO_litA, ↓wpO_load, ↓wpO_store, ↓wpO_nilCheck, ncV_ptr, ncV_eptr, ncV_fptr, ncV_func, ↓wpO_iop, ↓wpO_sop, ↓wpO_bop, bopV_bool, ↓wpO_eqs, ↓wpO_eqnil, ↓wpO_not, notV_bool, ↓wpO_neg, negV_int, ↓wpO_convI, ↓wpO_sliceOp, ↓wpO_substr, ↓wpO_faddr, ↓wpO_field, fieldV_agg, ↓wpO_iaddr, ↓wpO_aaddr, ↓wpO_strIdx, ↓wpO_arrIdx, ↓wpO_lenS, ↓wpO_lenStr, lenStrV_str, ↓wpO_lenM, ↓wpO_lenA, ↓wpO_capS, ↓wpO_minI, ↓wpO_maxI, ↓wpO_append, ↓wpO_appendz, ↓wpO_mkslice, ↓wpO_extract, extrV_tuple, ↓wpO_mkfunc, ↓wpO_mkmap, ↓wpO_lookup, ↓wpO_mapset, ↓wpO_mapdel, ↓wpO_mkiface, ↓wpO_callS, ↓wpO_callI, ↓wpO_callv, callvP_func, iop_add, iop_sub, iop_eql, iop_neq, iop_lss, iop_leq, iop_gtr, iop_geq, Fr_ev, Fr_get, Fr_put, Fr_len, put_none, ev_const, upd_apply, argE_zero, argE_succ, argE_nil, liveE_cons, stepP_some, optP_some, guardP_true, guardP_false, condP_true, condP_false, if_true, if_false, ite_true, ite_false, Nat.reduceEqDiff, Nat.reduceLT, true_and, List.map_cons, List.map_nil, Nat.zero_add, Nat.reduceBEq, List.take_zero, List.foldl_nil, sum0_nat]; rfl
  · rintro m vs σ' ⟨k, hk, rfl, rfl, rfl⟩
    simp -dsimp only [↓wpC_skip, ↓wpC_region, ↓wpC_drawn, ↓wpC_seq, ↓wpC_cond, ↓wpC_block, ↓wpC_loop, ↓wpC_exit, ↓wpC_ret, ↓wpOs_nil, ↓wpOs_guard, wantedA_eq, wantV_bool, wantV_hole, bq_tt, bq_ff, bq_tf, bq_ft, Bool.false_eq_true, Bool.true_eq_false, Bool.not_true, Bool.not_false, ↓seqQ_normal, ↓seqQ_exit, ↓seqQ_ret, ↓blockQ_normal, ↓blockQ_hit, ↓blockQ_miss, ↓blockQ_ret, ↓endQ_normal, ↓endQ_ret, loopQ_normal, ↓loopQ_exit, ↓loopQ_ret, res_one, res2_tmp, res3_tmp, res4_tmp, res_tmp, res_cell, ↓wpO_move, ↓wpO_pick, pickV_bool, ↓wpO_alloc, ↓wpO_box, ↓wpO_build, ↓wpO_lit, ↓wpO_litA, ↓wpO_load, ↓wpO_store, ↓wpO_nilCheck, ncV_ptr, ncV_eptr, ncV_fptr, ncV_func, ↓wpO_iop, ↓wpO_sop, ↓wpO_bop, bopV_bool, ↓wpO_eqs, ↓wpO_eqnil, ↓wpO_not, notV_bool, ↓wpO_neg, negV_int, ↓wpO_convI, ↓wpO_sliceOp, ↓wpO_substr, ↓wpO_faddr, ↓wpO_field, fieldV_agg, ↓wpO_iaddr, ↓wpO_aaddr, ↓wpO_strIdx, ↓wpO_arrIdx, ↓wpO_lenS, ↓wpO_lenStr, lenStrV_str, ↓wpO_lenM, ↓wpO_lenA, ↓wpO_capS, ↓wpO_minI, ↓wpO_maxI, ↓wpO_append, ↓wpO_appendz, ↓wpO_mkslice, ↓wpO_extract, extrV_tuple, ↓wpO_mkfunc, ↓wpO_mkmap, ↓wpO_lookup, ↓wpO_mapset, ↓wpO_mapdel, ↓wpO_mkiface, ↓wpO_callS, ↓wpO_callI, ↓wpO_callv, callvP_func, iop_add, iop_sub, iop_eql, iop_neq, iop_lss, iop_leq, iop_gtr, iop_geq, Fr_ev, Fr_get, Fr_put, Fr_len, put_none, ev_const, upd_apply, argE_zero, argE_succ, argE_nil, liveE_cons, stepP_some, optP_some, guardP_true, guardP_false, condP_true, condP_false, if_true, if_false, ite_true, ite_false, Nat.reduceEqDiff, Nat.reduceLT, true_and, List.map_cons, List.map_nil, Nat.zero_add, Nat.reduceBEq, hlen]
    refine condP_dec (fun h => ?_) (fun h => ?_)
    · have hk' : k < bs.length := by omega
      have hi : k < (B bs).length := by rw [B_len]; exact hk'
      simp -dsimp only [↓wpC_skip, ↓wpC_region, ↓wpC_drawn, ↓wpC_seq, ↓wpC_cond, ↓wpC_block, ↓wpC_loop, ↓wpC_exit, ↓wpC_ret, ↓wpOs_nil, ↓wpOs_guard, wantedA_eq, wantV_bool, wantV_hole, bq_tt, bq_ff, bq_tf, bq_ft, Bool.false_eq_true, Bool.true_eq_false, Bool.not_true, Bool.not_false, ↓seqQ_normal, ↓seqQ_exit, ↓seqQ_ret, ↓blockQ_normal, ↓blockQ_hit, ↓blockQ_miss, ↓blockQ_ret, ↓endQ_normal, ↓endQ_ret, loopQ_normal, ↓loopQ_exit, ↓loopQ_ret, res_one, res2_tmp, res3_tmp, res4_tmp, res_tmp, res_cell, ↓wpO_move, ↓wpO_pick, pickV_bool, ↓wpO_alloc, ↓wpO_box, ↓wpO_build, ↓wpO_lit, ↓wpO_litA, ↓wpO_load, ↓wpO_store, ↓wpO_nilCheck, ncV_ptr, ncV_eptr, ncV_fptr, ncV_func, ↓wpO_iop, ↓wpO_sop, ↓wpO_bop, bopV_bool, ↓wpO_eqs, ↓wpO_eqnil, ↓wpO_not, notV_bool, ↓wpO_neg, negV_int, ↓wpO_convI, ↓wpO_sliceOp, ↓wpO_substr, ↓wpO_faddr, ↓wpO_field, fieldV_agg, ↓wpO_iaddr, ↓wpO_aaddr, ↓wpO_strIdx, ↓wpO_arrIdx, ↓wpO_lenS, ↓wpO_lenStr, lenStrV_str, ↓wpO_lenM, ↓wpO_lenA, ↓wpO_capS, ↓wpO_minI, ↓wpO_maxI, ↓wpO_append, ↓wpO_appendz, ↓wpO_mkslice, ↓wpO_extract, extrV_tuple, ↓wpO_mkfunc, ↓wpO_mkmap, ↓wpO_lookup, ↓wpO_mapset, ↓wpO_mapdel, ↓wpO_mkiface, ↓wpO_callS, ↓wpO_callI, ↓wpO_callv, callvP_func, iop_add, iop_sub, iop_eql, iop_neq, iop_lss, iop_leq, iop_gtr, iop_geq, Fr_ev, Fr_get, Fr_put, Fr_len, put_none, ev_const, upd_apply, argE_zero, argE_succ, argE_nil, liveE_cons, stepP_some, optP_some, guardP_true, guardP_false, condP_true, condP_false, if_true, if_false, ite_true, ite_false, Nat.reduceEqDiff, Nat.reduceLT, true_and, List.map_cons, List.map_nil, Nat.zero_add, Nat.reduceBEq, hb.iaddr hi, hb.load1 hi (by rw [B_get]; rfl), B_get, convV_int, sum_xor, sum_mul]
      refine ⟨bs.length - (k + 1), by omega, k + 1, by omega, rfl, ?_⟩
      rw [take_succ_foldl _ _ _ _ hk', wrap_i64 (by omega) (by omega), sumStep, Int.natCast_add, Int.natCast_one]
    · simp -dsimp only [↓wpC_skip, ↓wpC_region, ↓wpC_drawn, ↓wpC_seq, ↓wpC_cond, ↓wpC_block, ↓wpC_loop, ↓wpC_exit, ↓wpC_ret, ↓wpOs_nil, ↓wpOs_guard, wantedA_eq, wantV_bool, wantV_hole, bq_tt, bq_ff, bq_tf, bq_ft, Bool.false_eq_true, Bool.true_eq_false, Bool.not_true, Bool.not_false, ↓seqQ_normal, ↓seqQ_exit, ↓seqQ_ret, ↓blockQ_normal, ↓blockQ_hit, ↓blockQ_miss, ↓blockQ_ret, ↓endQ_normal, ↓endQ_ret, loopQ_normal, ↓loopQ_exit, ↓loopQ_ret, res_one, res2_tmp, res3_tmp, res4_tmp, res_tmp, res_cell, ↓wpO_move, ↓wpO_pick, pickV_bool, ↓wpO_alloc, ↓wpO_box, ↓wpO_build, ↓wpO_lit, ↓wpO_litA, ↓wpO_load, ↓wpO_store, ↓wpO_nilCheck, ncV_ptr, ncV_eptr, ncV_fptr, ncV_func, ↓wpO_iop, ↓wpO_sop, ↓wpO_bop, bopV_bool, ↓wpO_eqs, ↓wpO_eqnil, ↓wpO_not, notV_bool, ↓wpO_neg, negV_int, ↓wpO_convI, ↓wpO_sliceOp, ↓wpO_substr, ↓wpO_faddr, ↓wpO_field, fieldV_agg, ↓wpO_iaddr, ↓wpO_aaddr, ↓wpO_strIdx, ↓wpO_arrIdx, ↓wpO_lenS, ↓wpO_lenStr, lenStrV_str, ↓wpO_lenM, ↓wpO_lenA, ↓wpO_capS, ↓wpO_minI, ↓wpO_maxI, ↓wpO_append, ↓wpO_appendz, ↓wpO_mkslice, ↓wpO_extract, extrV_tuple, ↓wpO_mkfunc, ↓wpO_mkmap, ↓wpO_lookup, ↓wpO_mapset, ↓wpO_mapdel, ↓wpO_mkiface, ↓wpO_callS, ↓wpO_callI, ↓wpO_callv, callvP_func, iop_add, iop_sub, iop_eql, iop_neq, iop_lss, iop_leq, iop_gtr, iop_geq, Fr_ev, Fr_get, Fr_put, Fr_len, put_none, ev_const, upd_apply, argE_zero, argE_succ, argE_nil, liveE_cons, stepP_some, optP_some, guardP_true, guardP_false, condP_true, condP_false, if_true, if_false, ite_true, ite_false, Nat.reduceEqDiff, Nat.reduceLT, true_and, List.map_cons, List.map_nil, Nat.zero_add, Nat.reduceBEq]
      have : k = bs.length := by omega
      subst this
      rw [List.take_length]
      exact ⟨rfl, trivial⟩

omit d σ in
theorem fill4 (a b c e : Int) : fillE 1 false (List.replicate 4 (zel [AVal.int IntKind.u8 0] false)) [(0, .int .u8 a), (1, .int .u8 b), (2, .int .u8 c), (3, .int .u8 e)] = some [.int .u8 a, .int .u8 b, .int .u8 c, .int .u8 e] := rfl
theorem four_ok (n : Nat) : Called CJ.cfg d 62 [.int .u32 n] σ fun v σ' => v = .fslice 0 true 1 (B (hdr n)) ∧ σ' = σ := by
  refine called_of (fn := CJ.a62) rfl (Nat.le_of_ble_eq_true rfl) ?_
  simp only [CJ.a62]
  simp -dsimp only [↓wpC_skip, ↓wpC_region, ↓wpC_drawn, ↓wpC_seq, ↓wpC_cond, ↓wpC_block, ↓wpC_loop, ↓wpC_exit, ↓wpC_ret, ↓wpOs_nil, ↓wpOs_guard, wantedA_eq, wantV_bool, wantV_hole, bq_tt, bq_ff, bq_tf, bq_ft, Bool.false_eq_true, Bool.true_eq_false, Bool.not_true, Bool.not_false, ↓seqQ_normal, ↓seqQ_exit, ↓seqQ_ret, ↓blockQ_normal, ↓blockQ_hit, ↓blockQ_miss, ↓blockQ_ret, ↓endQ_normal, ↓endQ_ret, loopQ_normal, ↓loopQ_exit, ↓loopQ_ret, res_one, res2_tmp, res3_tmp, res4_tmp, res_tmp, res_cell, ↓wpO_move, ↓wpO_pick, pickV_bool, ↓wpO_alloc, ↓wpO_box, ↓wpO_build, ↓wpO_lit, ↓wpO_litA, ↓wpO_load, ↓wpO_store, ↓wpO_nilCheck, ncV_ptr, ncV_eptr, ncV_fptr, ncV_func, ↓wpO_iop, ↓wpO_sop, ↓wpO_bop, bopV_bool, ↓wpO_eqs, ↓wpO_eqnil, ↓wpO_not, notV_bool, ↓wpO_neg, negV_int, ↓wpO_convI, ↓wpO_sliceOp, ↓wpO_substr, ↓wpO_faddr, ↓wpO_field, fieldV_agg, ↓wpO_iaddr, ↓wpO_aaddr, ↓wpO_strIdx, ↓wpO_arrIdx, ↓wpO_lenS, ↓wpO_lenStr, lenStrV_str, ↓wpO_lenM, ↓wpO_lenA, ↓wpO_capS, ↓wpO_minI, ↓wpO_maxI, ↓wpO_append, ↓wpO_appendz, ↓wpO_mkslice, ↓wpO_extract, extrV_tuple, ↓wpO_mkfunc, ↓wpO_mkmap, ↓wpO_lookup, ↓wpO_mapset, ↓wpO_mapdel, ↓wpO_mkiface, ↓wpO_callS, ↓wpO_callI, ↓wpO_callv, callvP_func, iop_add, iop_sub, iop_eql, iop_neq, iop_lss, iop_leq, iop_gtr, iop_geq, Fr_ev, Fr_get, Fr_put, Fr_len, put_none, ev_const, upd_apply, argE_zero, argE_succ, argE_nil, liveE_cons, stepP_some, optP_some, guardP_true, guardP_false, condP_true, condP_false, if_true, if_false, ite_true, ite_false, Nat.reduceEqDiff, Nat.reduceLT, true_and, List.map_cons, List.map_nil, Nat.zero_add, Nat.reduceBEq, shr_byte n 24 24 (by decide) rfl, shr_byte n 16 16 (by decide) rfl, shr_byte n 8 8 (by decide) rfl, conv_byte, fill4]
  exact ⟨rfl, trivial⟩
theorem number_ok (b : AVal) (bs : List UInt8) (hl : 4 ≤ bs.length) (hb : SlOf σ 1 b (B bs)) : Called CJ.cfg d 92 [b] σ fun v σ' => v = .int .u32 (numOf bs) ∧ σ' = σ := by
  refine called_of (fn := CJ.a92) rfl (Nat.le_of_ble_eq_true rfl) ?_
  simp only [CJ.a92]
  have hl' : 4 ≤ (B bs).length := by rw [B_len]; exact hl
  have a0 : iaddrV 1 b (.int .i64 0) = _ := hb.iaddr (show 0 < (B bs).length by omega) .i64
  have a1 : iaddrV 1 b (.int .i64 1) = _ := hb.iaddr (show 1 < (B bs).length by omega) .i64
  have a2 : iaddrV 1 b (.int .i64 2) = _ := hb.iaddr (show 2 < (B bs).length by omega) .i64
  have a3 : iaddrV 1 b (.int .i64 3) = _ := hb.iaddr (show 3 < (B bs).length by omega) .i64
  have l0 := hb.load1 (show 0 < (B bs).length by omega) (by rw [B_get]; rfl) 1
  have l1 := hb.load1 (show 1 < (B bs).length by omega) (by rw [B_get]; rfl) 1
  have l2 := hb.load1 (show 2 < (B bs).length by omega) (by rw [B_get]; rfl) 1
  have l3 := hb.load1 (show 3 < (B bs).length by omega) (by rw [B_get]; rfl) 1
  rw [B_get] at l0 l1 l2 l3
  have h0 := (bs[0]).toNat_lt; have h1 := (bs[1]).toNat_lt; have h2 := (bs[2]).toNat_lt; have h3 := (bs[3]).toNat_lt
  have s0 := shl_nat (bs[0]).toNat 24 24 (by decide) rfl (by omega)
  have s1 := shl_nat (bs[1]).toNat 16 16 (by decide) rfl (by omega)
  have s2 := shl_nat (bs[2]).toNat 8 8 (by decide) rfl (by omega)
  have o1 := or_nat ((bs[0]).toNat * 2 ^ 24) ((bs[1]).toNat * 2 ^ 16) 24 (by omega) (by omega) (by omega)
  have o2 := or_nat ((bs[0]).toNat * 2 ^ 24 + (bs[1]).toNat * 2 ^ 16) ((bs[2]).toNat * 2 ^ 8) 16 (by omega) (by omega) (by omega)
  have o3 := or_nat ((bs[0]).toNat * 2 ^ 24 + (bs[1]).toNat * 2 ^ 16 + (bs[2]).toNat * 2 ^ 8) (bs[3]).toNat 8 (by omega) (by omega) (by omega)
  simp -dsimp only [↓wpC_skip, ↓wpC_region, ↓wpC_drawn, ↓wpC_seq, ↓wpC_cond, ↓wpC_block, ↓wpC_loop, ↓wpC_exit, ↓wpC_ret, ↓wpOs_nil, ↓wpOs_guard, wantedA_eq, wantV_bool, wantV_hole, bq_tt, bq_ff, bq_tf, bq_ft, Bool.false_eq_true, Bool.true_eq_false, Bool.not_true, Bool.not_false, ↓seqQ_normal, ↓seqQ_exit, ↓seqQ_ret, ↓blockQ_normal, ↓blockQ_hit, ↓blockQ_miss, ↓blockQ_ret, ↓endQ_normal, ↓endQ_ret, loopQ_normal, ↓loopQ_exit, ↓loopQ_ret, res_one, res2_tmp, res3_tmp, res4_tmp, res_tmp, res_cell, ↓wpO_move, ↓wpO_pick, pickV_bool, ↓wpO_alloc, ↓wpO_box, ↓wpO_build, ↓wpO_lit, ↓wpO_litA, ↓wpO_load, ↓wpO_store, ↓wpO_nilCheck, ncV_ptr, ncV_eptr, ncV_fptr, ncV_func, ↓wpO_iop, ↓wpO_sop, ↓wpO_bop, bopV_bool, ↓wpO_eqs, ↓wpO_eqnil, ↓wpO_not, notV_bool, ↓wpO_neg, negV_int, ↓wpO_convI, ↓wpO_sliceOp, ↓wpO_substr, ↓wpO_faddr, ↓wpO_field, fieldV_agg, ↓wpO_iaddr, ↓wpO_aaddr, ↓wpO_strIdx, ↓wpO_arrIdx, ↓wpO_lenS, ↓wpO_lenStr, lenStrV_str, ↓wpO_lenM, ↓wpO_lenA, ↓wpO_capS, ↓wpO_minI, ↓wpO_maxI, ↓wpO_append, ↓wpO_appendz, ↓wpO_mkslice, ↓wpO_extract, extrV_tuple, ↓wpO_mkfunc, ↓wpO_mkmap, ↓wpO_lookup, ↓wpO_mapset, ↓wpO_mapdel, ↓wpO_mkiface, ↓wpO_callS, ↓wpO_callI, ↓wpO_callv, callvP_func, iop_add, iop_sub, iop_eql, iop_neq, iop_lss, iop_leq, iop_gtr, iop_geq, Fr_ev, Fr_get, Fr_put, Fr_len, put_none, ev_const, upd_apply, argE_zero, argE_succ, argE_nil, liveE_cons, stepP_some, optP_some, guardP_true, guardP_false, condP_true, condP_false, if_true, if_false, ite_true, ite_false, Nat.reduceEqDiff, Nat.reduceLT, true_and, List.map_cons, List.map_nil, Nat.zero_add, Nat.reduceBEq, a0, a1, a2, a3, l0, l1, l2, l3, conv_u32, s0, s1, s2, o1, o2, o3]
  refine ⟨?_, trivial⟩
  simp only [numOf, List.getD_eq_getElem?_getD, List.getElem?_eq_getElem (show 0 < bs.length by omega), List.getElem?_eq_getElem (show 1 < bs.length by omega), List.getElem?_eq_getElem (show 2 < bs.length by omega), List.getElem?_eq_getElem (show 3 < bs.length by omega), Option.getD_some]

theorem reffour_ok (n : Nat) : Called CJ.cfg d 63 [.int .u32 n] σ fun v σ' => v = .fslice 0 true 1 (B (hdr n)) ∧ σ' = σ := by
  refine called_of (fn := CJ.a63) rfl (Nat.le_of_ble_eq_true rfl) ?_
  simp only [CJ.a63]
  simp -dsimp only [↓wpC_skip, ↓wpC_region, ↓wpC_drawn, ↓wpC_seq, ↓wpC_cond, ↓wpC_block, ↓wpC_loop, ↓wpC_exit, ↓wpC_ret, ↓wpOs_nil, ↓wpOs_guard, wantedA_eq, wantV_bool, wantV_hole, bq_tt, bq_ff, bq_tf, bq_ft, Bool.false_eq_true, Bool.true_eq_false, Bool.not_true, Bool.not_false, ↓seqQ_normal, ↓seqQ_exit, ↓seqQ_ret, ↓blockQ_normal, ↓blockQ_hit, ↓blockQ_miss, ↓blockQ_ret, ↓endQ_normal, ↓endQ_ret, loopQ_normal, ↓loopQ_exit, ↓loopQ_ret, res_one, res2_tmp, res3_tmp, res4_tmp, res_tmp, res_cell, ↓wpO_move, ↓wpO_pick, pickV_bool, ↓wpO_alloc, ↓wpO_box, ↓wpO_build, ↓wpO_lit, ↓wpO_litA, ↓wpO_load, ↓wpO_store, ↓wpO_nilCheck, ncV_ptr, ncV_eptr, ncV_fptr, ncV_func, ↓wpO_iop, ↓wpO_sop, ↓wpO_bop, bopV_bool, ↓wpO_eqs, ↓wpO_eqnil, ↓wpO_not, notV_bool, ↓wpO_neg, negV_int, ↓wpO_convI, ↓wpO_sliceOp, ↓wpO_substr, ↓wpO_faddr, ↓wpO_field, fieldV_agg, ↓wpO_iaddr, ↓wpO_aaddr, ↓wpO_strIdx, ↓wpO_arrIdx, ↓wpO_lenS, ↓wpO_lenStr, lenStrV_str, ↓wpO_lenM, ↓wpO_lenA, ↓wpO_capS, ↓wpO_minI, ↓wpO_maxI, ↓wpO_append, ↓wpO_appendz, ↓wpO_mkslice, ↓wpO_extract, extrV_tuple, ↓wpO_mkfunc, ↓wpO_mkmap, ↓wpO_lookup, ↓wpO_mapset, ↓wpO_mapdel, ↓wpO_mkiface, ↓wpO_callS, ↓wpO_callI, ↓wpO_callv, callvP_func, iop_add, iop_sub, iop_eql, iop_neq, iop_lss, iop_leq, iop_gtr, iop_geq, Fr_ev, Fr_get, Fr_put, Fr_len, put_none, ev_const, upd_apply, argE_zero, argE_succ, argE_nil, liveE_cons, stepP_some, optP_some, guardP_true, guardP_false, condP_true, condP_false, if_true, if_false, ite_true, ite_false, Nat.reduceEqDiff, Nat.reduceLT, true_and, List.map_cons, List.map_nil, Nat.zero_add, Nat.reduceBEq, shr_byte n 24 24 (by decide) rfl, shr_byte n 16 16 (by decide) rfl, shr_byte n 8 8 (by decide) rfl, conv_byte, fill4]
  exact ⟨rfl, trivial⟩
theorem refnumber_ok (b : AVal) (bs : List UInt8) (hl : 4 ≤ bs.length) (hb : SlOf σ 1 b (B bs)) : Called CJ.cfg d 66 [b] σ fun v σ' => v = .int .u32 (numOf bs) ∧ σ' = σ := by
  refine called_of (fn := CJ.a66) rfl (Nat.le_of_ble_eq_true rfl) ?_
  simp only [CJ.a66]
  have hl' : 4 ≤ (B bs).length := by rw [B_len]; exact hl
  have a0 : iaddrV 1 b (.int .i64 0) = _ := hb.iaddr (show 0 < (B bs).length by omega) .i64
  have a1 : iaddrV 1 b (.int .i64 1) = _ := hb.iaddr (show 1 < (B bs).length by omega) .i64
  have a2 : iaddrV 1 b (.int .i64 2) = _ := hb.iaddr (show 2 < (B bs).length by omega) .i64
  have a3 : iaddrV 1 b (.int .i64 3) = _ := hb.iaddr (show 3 < (B bs).length by omega) .i64
  have l0 := hb.load1 (show 0 < (B bs).length by omega) (by rw [B_get]; rfl) 1
  have l1 := hb.load1 (show 1 < (B bs).length by omega) (by rw [B_get]; rfl) 1
  have l2 := hb.load1 (show 2 < (B bs).length by omega) (by rw [B_get]; rfl) 1
  have l3 := hb.load1 (show 3 < (B bs).length by omega) (by rw [B_get]; rfl) 1
  rw [B_get] at l0 l1 l2 l3
  have h0 := (bs[0]).toNat_lt; have h1 := (bs[1]).toNat_lt; have h2 := (bs[2]).toNat_lt; have h3 := (bs[3]).toNat_lt
  have s0 := shl_nat (bs[0]).toNat 24 24 (by decide) rfl (by omega)
  have s1 := shl_nat (bs[1]).toNat 16 16 (by decide) rfl (by omega)
  have s2 := shl_nat (bs[2]).toNat 8 8 (by decide) rfl (by omega)
  have o1 := or_nat ((bs[0]).toNat * 2 ^ 24) ((bs[1]).toNat * 2 ^ 16) 24 (by omega) (by omega) (by omega)
  have o2 := or_nat ((bs[0]).toNat * 2 ^ 24 + (bs[1]).toNat * 2 ^ 16) ((bs[2]).toNat * 2 ^ 8) 16 (by omega) (by omega) (by omega)
  have o3 := or_nat ((bs[0]).toNat * 2 ^ 24 + (bs[1]).toNat * 2 ^ 16 + (bs[2]).toNat * 2 ^ 8) (bs[3]).toNat 8 (by omega) (by omega) (by omega)
  simp -dsimp only [↓wpC_skip, ↓wpC_region, ↓wpC_drawn, ↓wpC_seq, ↓wpC_cond, ↓wpC_block, ↓wpC_loop, ↓wpC_exit, ↓wpC_ret, ↓wpOs_nil, ↓wpOs_guard, wantedA_eq, wantV_bool, wantV_hole, bq_tt, bq_ff, bq_tf, bq_ft, Bool.false_eq_true, Bool.true_eq_false, Bool.not_true, Bool.not_false, ↓seqQ_normal, ↓seqQ_exit, ↓seqQ_ret, ↓blockQ_normal, ↓blockQ_hit, ↓blockQ_miss, ↓blockQ_ret, ↓endQ_normal, ↓endQ_ret, loopQ_normal, ↓loopQ_exit, ↓loopQ_ret, res_one, res2_tmp, res3_tmp, res4_tmp, res_tmp, res_cell, ↓wpO_move, ↓wpO_pick, pickV_bool, ↓wpO_alloc, ↓wpO_box, ↓wpO_build, ↓wpO_lit, ↓wpO_litA, ↓wpO_load, ↓wpO_store, ↓wpO_nilCheck, ncV_ptr, ncV_eptr, ncV_fptr, ncV_func, ↓wpO_iop, ↓wpO_sop, ↓wpO_bop, bopV_bool, ↓wpO_eqs, ↓wpO_eqnil, ↓wpO_not, notV_bool, ↓wpO_neg, negV_int, ↓wpO_convI, ↓wpO_sliceOp, ↓wpO_substr, ↓wpO_faddr, ↓wpO_field, fieldV_agg, ↓wpO_iaddr, ↓wpO_aaddr, ↓wpO_strIdx, ↓wpO_arrIdx, ↓wpO_lenS, ↓wpO_lenStr, lenStrV_str, ↓wpO_lenM, ↓wpO_lenA, ↓wpO_capS, ↓wpO_minI, ↓wpO_maxI, ↓wpO_append, ↓wpO_appendz, ↓wpO_mkslice, ↓wpO_extract, extrV_tuple, ↓wpO_mkfunc, ↓wpO_mkmap, ↓wpO_lookup, ↓wpO_mapset, ↓wpO_mapdel, ↓wpO_mkiface, ↓wpO_callS, ↓wpO_callI, ↓wpO_callv, callvP_func, iop_add, iop_sub, iop_eql, iop_neq, iop_lss, iop_leq, iop_gtr, iop_geq, Fr_ev, Fr_get, Fr_put, Fr_len, put_none, ev_const, upd_apply, argE_zero, argE_succ, argE_nil, liveE_cons, stepP_some, optP_some, guardP_true, guardP_false, condP_true, condP_false, if_true, if_false, ite_true, ite_false, Nat.reduceEqDiff, Nat.reduceLT, true_and, List.map_cons, List.map_nil, Nat.zero_add, Nat.reduceBEq, a0, a1, a2, a3, l0, l1, l2, l3, conv_u32, s0, s1, s2, o1, o2, o3]
  refine ⟨?_, trivial⟩
  simp only [numOf, List.getD_eq_getElem?_getD, List.getElem?_eq_getElem (show 0 < bs.length by omega), List.getElem?_eq_getElem (show 1 < bs.length by omega), List.getElem?_eq_getElem (show 2 < bs.length by omega), List.getElem?_eq_getElem (show 3 < bs.length by omega), Option.getD_some]
end
end Go.Proofs.Ytmocplkpnickgaa.Am
