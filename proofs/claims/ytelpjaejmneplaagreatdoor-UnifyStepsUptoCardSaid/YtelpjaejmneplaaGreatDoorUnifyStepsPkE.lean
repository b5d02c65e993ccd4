/-
  The abstract machine and the functions of the law, 5: texts put together.
-/
import Derived.Test.YtelpjaejmneplaaGreatDoorUnifyStepsPkD
set_option linter.unusedVariables false
set_option linter.unusedSimpArgs false
set_option linter.unusedSectionVars false
set_option maxRecDepth 100000
namespace Go.Proofs.YtelpjaejmneplaaGreatDoor.Am
open Go
section
variable (d : Nat) (σ : Store)
theorem args_ok (l : AVal) (t : List Cel) (hx : t.length < 2 ^ 30) (hi : ∀ c ∈ t, c.k < 256 ∧ c.s.length < 2 ^ 40) (hl : SlOf σ 5 l (t.map Cel.val)) :
  Called CU.cfg d 83 [l] σ fun v σ' => Grows σ σ' ∧ ∃ es, ORows σ' σ.length 5 v es ((args t).map CC) := by
 refine called_of (fn := CU.a83) rfl (Nat.le_of_ble_eq_true rfl) ?_
 have ll := hl.len
 rw [List.length_map] at ll
 simp only [CU.a83]
 simp -dsimp only [↓WPd, ↓wpC_block, ↓wpC_cond, WPu, Bool.false_eq_true, Bool.true_eq_false, Bool.not_true, Bool.not_false, if_true, if_false, ite_true, ite_false, Nat.reduceEqDiff, Nat.reduceLT, true_and, List.map_cons, List.map_nil, Nat.zero_add, Nat.reduceBEq, WPm]
 refine calledW_of (right_ok d σ l t hx hi hl) ?_
 rintro v σ1 ⟨rfl, g1⟩
 have hl1 := hl.grow g1
 have fin0 : args t = [] → (∃ es, ORows σ1 σ.length 5 .nilslice es ((args t).map CC)) := fun h => ⟨[], by rw [h]; exact ORows.nil _ _ _⟩
 cases hr : right t with
 | false =>
  simp -dsimp only [↓WPd, ↓wpC_block, ↓wpC_cond, WPu, Bool.false_eq_true, Bool.true_eq_false, Bool.not_true, Bool.not_false, if_true, if_false, ite_true, ite_false, Nat.reduceEqDiff, Nat.reduceLT, true_and, List.map_cons, List.map_nil, Nat.zero_add, Nat.reduceBEq, WPm, Bool.true_or]
  exact ⟨g1, fin0 (by simp [args, hr])⟩
 | true =>
  cases t with
  | nil => simp [right] at hr
  | cons c r =>
   have hi0 : 0 < ((c :: r).map Cel.val).length := by simp
   have hb := (hl1.addr hi0 .i64).2
   rw [cel_get] at hb
   obtain ⟨q0, p0, r0⟩ := faddr_load hb 0
   have r0' : loadV σ1 1 false q0 = some (.int .u8 c.k) := r0
   have ia : iaddrV 5 l (.int .i64 0) = some (addrOf 5 l 0) := hl1.iaddr hi0 .i64
   have k3 : ((c.k : Int) != 3) = !decide (c.k = 3) := by by_cases h : c.k = 3 <;> simp [h, bne] <;> omega
   simp -dsimp only [↓WPd, ↓wpC_block, ↓wpC_cond, WPu, Bool.false_eq_true, Bool.true_eq_false, Bool.not_true, Bool.not_false, if_true, if_false, ite_true, ite_false, Nat.reduceEqDiff, Nat.reduceLT, true_and, List.map_cons, List.map_nil, Nat.zero_add, Nat.reduceBEq, WPm, ia, p0, r0', k3, Bool.false_or]
   refine condP_intro (fun h => ?_) (fun h => ?_)
   ·simp only [Bool.not_eq_true', decide_eq_false_iff_not] at h
    simp -dsimp only [↓WPd, ↓wpC_block, ↓wpC_cond, WPu, Bool.false_eq_true, Bool.true_eq_false, Bool.not_true, Bool.not_false, if_true, if_false, ite_true, ite_false, Nat.reduceEqDiff, Nat.reduceLT, true_and, List.map_cons, List.map_nil, Nat.zero_add, Nat.reduceBEq]
    exact ⟨g1, fin0 (by simp [args, h])⟩
   ·simp only [Bool.not_eq_false', decide_eq_true_eq] at h
    obtain ⟨z1, z2, z3⟩ := right_cons hr
    have ha : args (c :: r) = argsFrom (c :: r).length (c :: r).length r 1 := by simp [args, hr, h]
    simp -dsimp only [↓WPd, ↓wpC_block, ↓wpC_cond, WPu, Bool.false_eq_true, Bool.true_eq_false, Bool.not_true, Bool.not_false, if_true, if_false, ite_true, ite_false, Nat.reduceEqDiff, Nat.reduceLT, true_and, List.map_cons, List.map_nil, Nat.zero_add, Nat.reduceBEq]
    generalize hT : c :: r = T at *
    have hdrop : r = T.drop 1 := by rw [← hT]; rfl
    have hlen : T.length = 1 + r.length := by rw [← hT]; simp; omega
    refine loop_rule2 (fun m vs σ' => ∃ (k f q : Nat) (lv : AVal) (es : List AVal) (ps : List (List Cel)), 1 ≤ k ∧ k ≤ T.length ∧ m = T.length - k ∧ vs = [l, lv, .int .i64 k] ∧ Grows σ σ' ∧ ORows σ' σ.length 5 lv es (ps.map CC) ∧ ps ++ argsFrom T.length f (T.drop k) k = args T ∧ T.length - k ≤ f ∧ endAt T.length (T.drop k) q k = T.length ∧ ps.length ≤ k)
     [3] (fun e vs σ' => e = .exit 0 ∧ ∃ (lv : AVal) (es : List AVal), vs = [lv] ∧ Grows σ σ' ∧ ORows σ' σ.length 5 lv es ((args T).map CC)) (T.length - 1) ⟨1, T.length, c.parts, .nilslice, [], [], Nat.le_refl _, by omega, rfl, ?_, g1, ORows.nil _ _ _, by rw [ha, hdrop]; rfl, by omega, by rw [← hdrop, z1, hlen], by simp⟩ ?_ ?_
    ·simp -dsimp only [↓WPd, ↓wpC_block, ↓wpC_cond, WPu, Bool.false_eq_true, Bool.true_eq_false, Bool.not_true, Bool.not_false, if_true, if_false, ite_true, ite_false, Nat.reduceEqDiff, Nat.reduceLT, true_and, List.map_cons, List.map_nil, Nat.zero_add, Nat.reduceBEq]; rfl
    ·rintro m vs σ' ⟨k, f, q, lv, es, ps, hk1, hk, rfl, rfl, g, ho, hp, hf, he, hpl⟩
     have hl' := hl.grow g
     have ll' := hl'.len
     rw [List.length_map] at ll'
     simp -dsimp only [↓WPd, ↓wpC_block, ↓wpC_cond, WPu, Bool.false_eq_true, Bool.true_eq_false, Bool.not_true, Bool.not_false, if_true, if_false, ite_true, ite_false, Nat.reduceEqDiff, Nat.reduceLT, true_and, List.map_cons, List.map_nil, Nat.zero_add, Nat.reduceBEq, ll']
     refine condP_dec (fun h => ?_) (fun h => ?_)
     ·have hk' : k < T.length := by omega
      obtain ⟨q, rfl⟩ : ∃ q', q = 1 + q' := ⟨q - 1, by
       cases q with
       | zero => rw [endAt_zero] at he; omega
       | succ q => omega⟩
      obtain ⟨y1, y2⟩ := endAt_add he (by omega) (by omega)
      obtain ⟨x1, x2, x3⟩ := endAt_le (rfl : endAt T.length (T.drop k) 1 k = _) y1
      have x4 := x3 (by omega)
      have hend : endT T k = endAt T.length (T.drop k) 1 k := by simp [endT, hk']
      rw [List.length_drop] at x2
      generalize hE : endAt T.length (T.drop k) 1 k = E at *
      rw [List.drop_drop, show k + (E - k) = E by omega] at y2
      simp -dsimp only [↓WPd, ↓wpC_block, ↓wpC_cond, WPu, Bool.false_eq_true, Bool.true_eq_false, Bool.not_true, Bool.not_false, if_true, if_false, ite_true, ite_false, Nat.reduceEqDiff, Nat.reduceLT, true_and, List.map_cons, List.map_nil, Nat.zero_add, Nat.reduceBEq]
      refine calledW_of (end_ok d σ' l T k hx hl') ?_
      rintro v σ2 ⟨rfl, g2⟩
      rw [hend]
      have hl2 := hl'.grow g2
      obtain ⟨v', s1, s2, -⟩ := hl2.sub (lo := k) (hi := E) (by omega) (by rw [List.length_map]; omega) .i64 .i64
      have hseg : ((T.map Cel.val).take E).drop k = ((T.drop k).take (E - k)).map Cel.val := by
       rw [List.drop_take, List.map_take, List.map_drop]
      rw [hseg] at s2
      simp -dsimp only [↓WPd, ↓wpC_block, ↓wpC_cond, WPu, Bool.false_eq_true, Bool.true_eq_false, Bool.not_true, Bool.not_false, if_true, if_false, ite_true, ite_false, Nat.reduceEqDiff, Nat.reduceLT, true_and, List.map_cons, List.map_nil, Nat.zero_add, Nat.reduceBEq, oev, s1]
      refine calledW_of (cclone_ok d σ2 v' ((T.drop k).take (E - k)) (by simp; omega) s2) ?_
      rintro e σ3 ⟨g3, oe, fe, le⟩
      have e1 : fillL 1 false (List.replicate 1 (zel [AVal.nilslice] false)) [(0, e)] = some [e] := by
       rcases oe.own with ⟨rfl, _⟩ | ⟨t, rfl⟩ | ⟨id, ep, off, cap, xs, epo, fl, rfl, _⟩ <;> simp
      have hel := ho.len
      rw [List.length_map] at hel
      obtain ⟨lv', σ5, a1, a2, a3⟩ := (ho.grow g2).push (Nat.le_trans g.1 g2.1) g3 oe fe le 24 (by omega)
      have lel : ∀ tg, elems 1 σ3 (.fslice tg true 1 [e]) = some [e] := fun tg => (SlOf.fs σ3 1 tg true [e]).els
      simp -dsimp only [↓WPd, ↓wpC_block, ↓wpC_cond, WPu, Bool.false_eq_true, Bool.true_eq_false, Bool.not_true, Bool.not_false, if_true, if_false, ite_true, ite_false, Nat.reduceEqDiff, Nat.reduceLT, true_and, List.map_cons, List.map_nil, Nat.zero_add, Nat.reduceBEq, e1, lel, a1]
      refine ⟨T.length - E, by omega, E, f - 1, q, lv', es ++ [e], ps ++ [(T.drop k).take (E - k)], by omega, by omega, rfl, rfl, ?_, by simpa using a2, ?_, by omega, y2, by simp; omega⟩
      ·exact Keeps.trans ((g.trans g2).trans g3) a3 fun i hi h => by omega
      ·obtain ⟨f, rfl⟩ : ∃ f', f = f' + 1 := ⟨f - 1, by omega⟩
       have hne : T.drop k ≠ [] := by
        intro e; have := congrArg List.length e; simp at this; omega
       rw [← hp]
       simp only [argsFrom, if_neg hne, hE, List.append_assoc, List.singleton_append, Nat.add_sub_cancel, List.drop_drop]
       rw [show k + (E - k) = E by omega]
     ·simp -dsimp only [↓WPd, ↓wpC_block, ↓wpC_cond, WPu, Bool.false_eq_true, Bool.true_eq_false, Bool.not_true, Bool.not_false, if_true, if_false, ite_true, ite_false, Nat.reduceEqDiff, Nat.reduceLT, true_and, List.map_cons, List.map_nil, Nat.zero_add, Nat.reduceBEq]
      have hkT : k = T.length := by omega
      have : argsFrom T.length f (T.drop k) k = [] := by
       rw [hkT, List.drop_length]
       cases f <;> simp [argsFrom]
      rw [this, List.append_nil] at hp
      rw [← hp]
      exact ⟨lv, es, rfl, g, ho⟩
    ·rintro e σ' env ⟨rfl, lv, es, hv, g, ho⟩
     simp only [List.map_cons, List.map_nil, List.cons.injEq, and_true] at hv
     simp -dsimp only [↓WPd, ↓wpC_block, ↓wpC_cond, WPu, Bool.false_eq_true, Bool.true_eq_false, Bool.not_true, Bool.not_false, if_true, if_false, ite_true, ite_false, Nat.reduceEqDiff, Nat.reduceLT, true_and, List.map_cons, List.map_nil, Nat.zero_add, Nat.reduceBEq, hv]
     exact ⟨g, es, ho⟩
theorem rargs_ok (l : AVal) (t : List Cel) (hx : t.length < 2 ^ 30) (hl : SlOf σ 5 l (t.map Cel.val)) :
  Called CU.cfg d 90 [l] σ fun v σ' => Grows σ σ' ∧ ∃ es, ORows σ' σ.length 5 v es ((args t).map CC) := by
 refine called_of (fn := CU.a90) rfl (Nat.le_of_ble_eq_true rfl) ?_
 have ll := hl.len
 rw [List.length_map] at ll
 simp only [CU.a90]
 simp -dsimp only [↓WPd, ↓wpC_block, ↓wpC_cond, WPu, Bool.false_eq_true, Bool.true_eq_false, Bool.not_true, Bool.not_false, if_true, if_false, ite_true, ite_false, Nat.reduceEqDiff, Nat.reduceLT, true_and, List.map_cons, List.map_nil, Nat.zero_add, Nat.reduceBEq, WPm]
 refine calledW_of (rright_ok d σ l t hx hl) ?_
 rintro v σ1 ⟨rfl, g1⟩
 have hl1 := hl.grow g1
 have fin0 : args t = [] → (∃ es, ORows σ1 σ.length 5 .nilslice es ((args t).map CC)) := fun h => ⟨[], by rw [h]; exact ORows.nil _ _ _⟩
 cases hr : right t with
 | false =>
  simp -dsimp only [↓WPd, ↓wpC_block, ↓wpC_cond, WPu, Bool.false_eq_true, Bool.true_eq_false, Bool.not_true, Bool.not_false, if_true, if_false, ite_true, ite_false, Nat.reduceEqDiff, Nat.reduceLT, true_and, List.map_cons, List.map_nil, Nat.zero_add, Nat.reduceBEq, WPm, Bool.true_or]
  exact ⟨g1, fin0 (by simp [args, hr])⟩
 | true =>
  cases t with
  | nil => simp [right] at hr
  | cons c r =>
   have hi0 : 0 < ((c :: r).map Cel.val).length := by simp
   have hb := (hl1.addr hi0 .i64).2
   rw [cel_get] at hb
   obtain ⟨q0, p0, r0⟩ := faddr_load hb 0
   have r0' : loadV σ1 1 false q0 = some (.int .u8 c.k) := r0
   have ia : iaddrV 5 l (.int .i64 0) = some (addrOf 5 l 0) := hl1.iaddr hi0 .i64
   have k3 : ((c.k : Int) != 3) = !decide (c.k = 3) := by by_cases h : c.k = 3 <;> simp [h, bne] <;> omega
   simp -dsimp only [↓WPd, ↓wpC_block, ↓wpC_cond, WPu, Bool.false_eq_true, Bool.true_eq_false, Bool.not_true, Bool.not_false, if_true, if_false, ite_true, ite_false, Nat.reduceEqDiff, Nat.reduceLT, true_and, List.map_cons, List.map_nil, Nat.zero_add, Nat.reduceBEq, WPm, ia, p0, r0', k3, Bool.false_or]
   refine condP_intro (fun h => ?_) (fun h => ?_)
   ·simp only [Bool.not_eq_true', decide_eq_false_iff_not] at h
    simp -dsimp only [↓WPd, ↓wpC_block, ↓wpC_cond, WPu, Bool.false_eq_true, Bool.true_eq_false, Bool.not_true, Bool.not_false, if_true, if_false, ite_true, ite_false, Nat.reduceEqDiff, Nat.reduceLT, true_and, List.map_cons, List.map_nil, Nat.zero_add, Nat.reduceBEq]
    exact ⟨g1, fin0 (by simp [args, h])⟩
   ·simp only [Bool.not_eq_false', decide_eq_true_eq] at h
    obtain ⟨z1, z2, z3⟩ := right_cons hr
    have ha : args (c :: r) = argsFrom (c :: r).length (c :: r).length r 1 := by simp [args, hr, h]
    simp -dsimp only [↓WPd, ↓wpC_block, ↓wpC_cond, WPu, Bool.false_eq_true, Bool.true_eq_false, Bool.not_true, Bool.not_false, if_true, if_false, ite_true, ite_false, Nat.reduceEqDiff, Nat.reduceLT, true_and, List.map_cons, List.map_nil, Nat.zero_add, Nat.reduceBEq]
    generalize hT : c :: r = T at *
    have hdrop : r = T.drop 1 := by rw [← hT]; rfl
    have hlen : T.length = 1 + r.length := by rw [← hT]; simp; omega
    refine loop_rule2 (fun m vs σ' => ∃ (k f q : Nat) (lv : AVal) (es : List AVal) (ps : List (List Cel)), 1 ≤ k ∧ k ≤ T.length ∧ m = T.length - k ∧ vs = [l, lv, .int .i64 k] ∧ Grows σ σ' ∧ ORows σ' σ.length 5 lv es (ps.map CC) ∧ ps ++ argsFrom T.length f (T.drop k) k = args T ∧ T.length - k ≤ f ∧ endAt T.length (T.drop k) q k = T.length ∧ ps.length ≤ k)
     [3] (fun e vs σ' => e = .exit 0 ∧ ∃ (lv : AVal) (es : List AVal), vs = [lv] ∧ Grows σ σ' ∧ ORows σ' σ.length 5 lv es ((args T).map CC)) (T.length - 1) ⟨1, T.length, c.parts, .nilslice, [], [], Nat.le_refl _, by omega, rfl, ?_, g1, ORows.nil _ _ _, by rw [ha, hdrop]; rfl, by omega, by rw [← hdrop, z1, hlen], by simp⟩ ?_ ?_
    ·simp -dsimp only [↓WPd, ↓wpC_block, ↓wpC_cond, WPu, Bool.false_eq_true, Bool.true_eq_false, Bool.not_true, Bool.not_false, if_true, if_false, ite_true, ite_false, Nat.reduceEqDiff, Nat.reduceLT, true_and, List.map_cons, List.map_nil, Nat.zero_add, Nat.reduceBEq]; rfl
    ·rintro m vs σ' ⟨k, f, q, lv, es, ps, hk1, hk, rfl, rfl, g, ho, hp, hf, he, hpl⟩
     have hl' := hl.grow g
     have ll' := hl'.len
     rw [List.length_map] at ll'
     simp -dsimp only [↓WPd, ↓wpC_block, ↓wpC_cond, WPu, Bool.false_eq_true, Bool.true_eq_false, Bool.not_true, Bool.not_false, if_true, if_false, ite_true, ite_false, Nat.reduceEqDiff, Nat.reduceLT, true_and, List.map_cons, List.map_nil, Nat.zero_add, Nat.reduceBEq, ll']
     refine condP_dec (fun h => ?_) (fun h => ?_)
     ·have hk' : k < T.length := by omega
      obtain ⟨q, rfl⟩ : ∃ q', q = 1 + q' := ⟨q - 1, by
       cases q with
       | zero => rw [endAt_zero] at he; omega
       | succ q => omega⟩
      obtain ⟨y1, y2⟩ := endAt_add he (by omega) (by omega)
      obtain ⟨x1, x2, x3⟩ := endAt_le (rfl : endAt T.length (T.drop k) 1 k = _) y1
      have x4 := x3 (by omega)
      have hend : endT T k = endAt T.length (T.drop k) 1 k := by simp [endT, hk']
      rw [List.length_drop] at x2
      generalize hE : endAt T.length (T.drop k) 1 k = E at *
      rw [List.drop_drop, show k + (E - k) = E by omega] at y2
      simp -dsimp only [↓WPd, ↓wpC_block, ↓wpC_cond, WPu, Bool.false_eq_true, Bool.true_eq_false, Bool.not_true, Bool.not_false, if_true, if_false, ite_true, ite_false, Nat.reduceEqDiff, Nat.reduceLT, true_and, List.map_cons, List.map_nil, Nat.zero_add, Nat.reduceBEq]
      refine calledW_of (rend_ok d σ' l T k hx hl') ?_
      rintro v σ2 ⟨rfl, hσ⟩
      have g2 : Grows σ' σ2 := by rw [hσ]; exact Keeps.refl _ _
      rw [hend]
      have hl2 := hl'.grow g2
      obtain ⟨v', s1, s2, -⟩ := hl2.sub (lo := k) (hi := E) (by omega) (by rw [List.length_map]; omega) .i64 .i64
      have hseg : ((T.map Cel.val).take E).drop k = ((T.drop k).take (E - k)).map Cel.val := by
       rw [List.drop_take, List.map_take, List.map_drop]
      rw [hseg] at s2
      simp -dsimp only [↓WPd, ↓wpC_block, ↓wpC_cond, WPu, Bool.false_eq_true, Bool.true_eq_false, Bool.not_true, Bool.not_false, if_true, if_false, ite_true, ite_false, Nat.reduceEqDiff, Nat.reduceLT, true_and, List.map_cons, List.map_nil, Nat.zero_add, Nat.reduceBEq, oev, s1]
      refine calledW_of (copied_ok d σ2 v' ((T.drop k).take (E - k)) (by simp; omega) s2) ?_
      rintro e σ3 ⟨g3, oe, fe, le⟩
      have e1 : fillL 1 false (List.replicate 1 (zel [AVal.nilslice] false)) [(0, e)] = some [e] := by
       rcases oe.own with ⟨rfl, _⟩ | ⟨t, rfl⟩ | ⟨id, ep, off, cap, xs, epo, fl, rfl, _⟩ <;> simp
      have hel := ho.len
      rw [List.length_map] at hel
      obtain ⟨lv', σ5, a1, a2, a3⟩ := (ho.grow g2).push (Nat.le_trans g.1 g2.1) g3 oe fe le 24 (by omega)
      have lel : ∀ tg, elems 1 σ3 (.fslice tg true 1 [e]) = some [e] := fun tg => (SlOf.fs σ3 1 tg true [e]).els
      simp -dsimp only [↓WPd, ↓wpC_block, ↓wpC_cond, WPu, Bool.false_eq_true, Bool.true_eq_false, Bool.not_true, Bool.not_false, if_true, if_false, ite_true, ite_false, Nat.reduceEqDiff, Nat.reduceLT, true_and, List.map_cons, List.map_nil, Nat.zero_add, Nat.reduceBEq, e1, lel, a1]
      refine ⟨T.length - E, by omega, E, f - 1, q, lv', es ++ [e], ps ++ [(T.drop k).take (E - k)], by omega, by omega, rfl, rfl, ?_, by simpa using a2, ?_, by omega, y2, by simp; omega⟩
      ·exact Keeps.trans ((g.trans g2).trans g3) a3 fun i hi h => by omega
      ·obtain ⟨f, rfl⟩ : ∃ f', f = f' + 1 := ⟨f - 1, by omega⟩
       have hne : T.drop k ≠ [] := by
        intro e; have := congrArg List.length e; simp at this; omega
       rw [← hp]
       simp only [argsFrom, if_neg hne, hE, List.append_assoc, List.singleton_append, Nat.add_sub_cancel, List.drop_drop]
       rw [show k + (E - k) = E by omega]
     ·simp -dsimp only [↓WPd, ↓wpC_block, ↓wpC_cond, WPu, Bool.false_eq_true, Bool.true_eq_false, Bool.not_true, Bool.not_false, if_true, if_false, ite_true, ite_false, Nat.reduceEqDiff, Nat.reduceLT, true_and, List.map_cons, List.map_nil, Nat.zero_add, Nat.reduceBEq]
      have hkT : k = T.length := by omega
      have : argsFrom T.length f (T.drop k) k = [] := by
       rw [hkT, List.drop_length]
       cases f <;> simp [argsFrom]
      rw [this, List.append_nil] at hp
      rw [← hp]
      exact ⟨lv, es, rfl, g, ho⟩
    ·rintro e σ' env ⟨rfl, lv, es, hv, g, ho⟩
     simp only [List.map_cons, List.map_nil, List.cons.injEq, and_true] at hv
     simp -dsimp only [↓WPd, ↓wpC_block, ↓wpC_cond, WPu, Bool.false_eq_true, Bool.true_eq_false, Bool.not_true, Bool.not_false, if_true, if_false, ite_true, ite_false, Nat.reduceEqDiff, Nat.reduceLT, true_and, List.map_cons, List.map_nil, Nat.zero_add, Nat.reduceBEq, hv]
     exact ⟨g, es, ho⟩
end
def isEqT (t : List Cel) : Bool := right t && isT t [61] 2
def EqR (σ σ' : Store) (t : List Cel) (a b : AVal) : Prop := Grows σ σ' ∧ match isEqT t with
 | true => ∃ x y, args t = [x, y] ∧ Own σ' 5 a (CC x) ∧ Own σ' 5 b (CC y) ∧ Fresh σ.length a ∧ Fresh σ.length b ∧ NoLit a ∧ NoLit b ∧ ∀ j, a.sid = some j → b.sid ≠ some j
 | false => a = .nilslice ∧ b = .nilslice
theorem eq_args {t : List Cel} (h : isEqT t = true) : ∃ x y, args t = [x, y] := by
 simp only [isEqT, Bool.and_eq_true] at h
 obtain ⟨h1, h2⟩ := h
 cases t with
 | nil => simp [isT] at h2
 | cons c r =>
  simp [isT] at h2
  have hl := args_len h1 (by simpa using h2.2.1)
  simp only [List.headD_cons, h2.2.2] at hl
  generalize args (c :: r) = q at hl
  match q, hl with
  | [x, y], _ => exact ⟨x, y, rfl⟩
section
variable (d : Nat) (σ : Store)
end
theorem ORows.cell {σ σ' : Store} {lo sz : Nat} {l : AVal} {es : List AVal} {ps : List (List AVal)} {id : Nat} {cs : List AVal} (h : ORows σ lo sz l es ps) (ho : σ[id]? = some (.cells cs)) (hk : Keeps (fun i => i = id) σ σ') : ORows σ' lo sz l es ps :=
 ⟨h.row.keeps hk fun i hi e => h.row.noCell ho (by rw [← e]; exact hi), h.len, fun i e p h1 h2 => (h.one i e p h1 h2).keeps hk fun j hj e' => (h.one i e p h1 h2).noCell ho (by rw [← e']; exact hj), h.frs, h.frl, h.apart, h.off, h.lit, h.litl⟩
theorem ORows.push2 {σ : Store} {lo sz : Nat} {l : AVal} {es : List AVal} {ps : List (List AVal)} (h : ORows σ lo sz l es ps) {e : AVal} {p : List AVal} (he : Own σ sz e p) (fe : Fresh lo e) (le : NoLit e) (hlo : lo ≤ σ.length)
  (hl : ∀ id, e.sid = some id → l.sid ≠ some id) (hx : ∀ (i : Nat) (x : AVal) (id : Nat), es[i]? = some x → e.sid = some id → x.sid ≠ some id) (bytes : Nat) (hb : (es.length + 1) * bytes ≤ 70368744177664) :
  ∃ l' σ2, appendV σ 1 bytes l [e] = some (l', σ2) ∧ ORows σ2 lo sz l' (es ++ [e]) (ps ++ [p]) ∧ Keeps (fun i => l.sid = some i) σ σ2 ∧ ∀ id, l'.sid = some id → l.sid = some id ∨ id = σ.length := by
 obtain ⟨l', σ2, h1, h2, h3, h4, h5⟩ := h.row.append [e] bytes hb
 have old : ∀ (i : Nat) (x : AVal), (es ++ [e])[i]? = some x → (es[i]? = some x ∧ i < es.length) ∨ (i = es.length ∧ x = e) := by
  intro i x hx
  rw [List.getElem?_append] at hx
  split at hx
  ·rename_i hlt; exact .inl ⟨hx, hlt⟩
  ·rename_i hlt
   rw [List.getElem?_singleton] at hx
   split at hx
   ·injection hx with hx; exact .inr ⟨by omega, hx.symm⟩
   ·cases hx
 have hx1 : ∀ (i : Nat) (x : AVal) (id : Nat), (es ++ [e])[i]? = some x → x.sid = some id → id < σ.length ∧ l.sid ≠ some id := by
  intro i x id hx hid
  rcases old i x hx with ⟨hx', _⟩ | ⟨_, rfl⟩
  ·exact ⟨h.lt hx' hid, h.off i x id hx' hid⟩
  ·exact ⟨he.sl.lt hid, hl id hid⟩
 refine ⟨l', σ2, h1, ⟨h2, by simp [h.len], ?_, ?_, ?_, ?_, ?_, ?_, h5 (.inr (by simp))⟩, h3, h4⟩
 ·intro i x q hxi hq
  refine Own.keeps (σ := σ) ?_ h3 fun id hid => (hx1 i x id hxi hid).2
  rcases old i x hxi with ⟨hx', hlt⟩ | ⟨rfl, rfl⟩
  ·rw [List.getElem?_append_left (by rw [← h.len]; exact hlt)] at hq
   exact h.one i x q hx' hq
  ·rw [h.len, List.getElem?_append_right (Nat.le_refl _), Nat.sub_self] at hq
   simp at hq; subst hq; exact he
 ·intro i x hxi
  rcases old i x hxi with ⟨hx', _⟩ | ⟨_, rfl⟩
  ·exact h.frs i x hx'
  ·exact fe
 ·intro id hid
  rcases h4 id hid with hh | hh
  ·exact h.frl id hh
  ·omega
 ·intro i j x y id hxi hyi hxs hys
  rcases old i x hxi with ⟨hx', hil⟩ | ⟨hi, hxe⟩ <;> rcases old j y hyi with ⟨hy', hjl⟩ | ⟨hj, hye⟩
  ·exact h.apart i j x y id hx' hy' hxs hys
  ·rw [hye] at hys; exact absurd hxs (hx i x id hx' hys)
  ·rw [hxe] at hxs; exact absurd hys (hx j y id hy' hxs)
  ·omega
 ·intro i x id hxi hid hl'
  obtain ⟨k1, k2⟩ := hx1 i x id hxi hid
  rcases h4 id hl' with hh | hh
  ·exact k2 hh
  ·omega
 ·intro i x hxi
  rcases old i x hxi with ⟨hx', _⟩ | ⟨_, rfl⟩
  ·exact h.lit i x hx'
  ·exact le
theorem ORows.setElem {σ σ' : Store} {lo sz : Nat} {w : AVal} {es : List AVal} {ps : List (List AVal)} (h : ORows σ lo sz w es ps) {i : Nat} {e : AVal} {p : List AVal} (hi : es[i]? = some e) (he : Own σ' sz e p) (hk : Keeps (fun j => e.sid = some j) σ σ') :
  ORows σ' lo sz w es (ps.set i p) := by
 refine ⟨h.row.keeps hk fun j hj hj' => h.off i e j hi hj' hj, by simp [h.len], fun k x q hx hq => ?_, h.frs, h.frl, h.apart, h.off, h.lit, h.litl⟩
 by_cases hki : k = i
 ·subst hki
  rw [hi] at hx; injection hx with hx; subst hx
  rw [List.getElem?_set_self (by rw [← h.len]; exact (List.getElem?_eq_some_iff.1 hi).1)] at hq
  injection hq with hq; subst hq; exact he
 ·rw [List.getElem?_set_ne (fun e => hki e.symm)] at hq
  exact (h.one k x q hx hq).keeps hk fun j hj hj' => hki (h.apart k i x e j hx hi hj hj')
structure BookC (c1 c2 c3 c4 : AVal) (lo : Nat) (σ : Store) (id : Nat) (w : AVal) (es : List AVal) (ps : List (List Cel)) : Prop where
 obj : σ[id]? = some (.cells [c1, c2, c3, w, c4])
 rows : ORows σ lo 5 w es (ps.map CC)
section
variable (d : Nat) (σ : Store)
theorem takecells_ok (c1 c2 c3 c4 : AVal) (lo : Nat) (id : Nat) (w e : AVal) (es : List AVal) (ps : List (List Cel)) (p : List Cel) (h : BookC c1 c2 c3 c4 lo σ id w es ps) (he : Own σ 5 e (CC p)) (fe : Fresh lo e) (hlo : lo ≤ σ.length) (le : NoLit e) (hn : ps.length < 2 ^ 30)
  (hl : ∀ j, e.sid = some j → w.sid ≠ some j) (hx : ∀ (i : Nat) (x : AVal) (j : Nat), es[i]? = some x → e.sid = some j → x.sid ≠ some j) :
  Called CU.cfg d 91 [.ptr id 0, e] σ fun _ σ' => Keeps (fun i => i = id ∨ w.sid = some i) σ σ' ∧ ∃ w', BookC c1 c2 c3 c4 lo σ' id w' (es ++ [e]) (ps ++ [p]) ∧ (∀ j, w'.sid = some j → w.sid = some j ∨ σ.length ≤ j) := by
 refine called_of (fn := CU.a91) rfl (Nat.le_of_ble_eq_true rfl) ?_
 have hlen := h.rows.len
 rw [List.length_map] at hlen
 obtain ⟨w', σ2, a1, a2, a3, a4⟩ := h.rows.push2 he fe le hlo hl hx 24 (by omega)
 have ho2 := a3.get h.obj (h.rows.row.noCell h.obj)
 have st := store_cells ho2 (off := 3) (by simp) (v := w') a2.row.sl.one
 simp only [List.set_cons_zero, List.set_cons_succ] at st
 have e1 : fillL 1 false (List.replicate 1 (zel [AVal.nilslice] false)) [(0, e)] = some [e] := by
  rcases he.own with ⟨rfl, _⟩ | ⟨t, rfl⟩ | ⟨id, ep, off, cap, xs, epo, fl, rfl, _⟩ <;> simp
 have lel : ∀ tg, elems 1 σ (.fslice tg true 1 [e]) = some [e] := fun tg => (SlOf.fs σ 1 tg true [e]).els
 simp only [CU.a91]
 simp -dsimp only [↓WPd, ↓wpC_block, ↓wpC_cond, WPu, Bool.false_eq_true, Bool.true_eq_false, Bool.not_true, Bool.not_false, if_true, if_false, ite_true, ite_false, Nat.reduceEqDiff, Nat.reduceLT, true_and, List.map_cons, List.map_nil, Nat.zero_add, Nat.reduceBEq, faddr_ptr, load_cells h.obj, List.getElem?_cons_zero, List.getElem?_cons_succ, e1, lel, a1, st, resultsA, mapO]
 have k1 : Keeps (fun i => i = id ∨ w.sid = some i) σ σ2 := a3.mono fun i hi e => .inr e
 refine ⟨Keeps.trans k1 (Keeps.set _ _ _) fun i hi e => .inl e, w', ⟨get_set ho2, ?_⟩, fun j hj => ?_⟩
 ·have := a2.cell ho2 (Keeps.set σ2 id (.cells [c1, c2, c3, w', c4]))
  simpa using this
 ·rcases a4 j hj with e | e
  ·exact .inl e
  ·exact .inr (by omega)
end
theorem CC_app (a b : List Cel) : CC a ++ CC b = CC (a ++ b) := by simp
def mkK (i : Nat) : Cel := mkC (-9000 - i)
theorem mk_opsK (i : Nat) (hi : i < 2 ^ 40) : IntKind.i64.wrap (-9000 - (i : Int)) = -9000 - (i : Int) ∧ fillA [AVal.int IntKind.u8 0, AVal.str [], AVal.int IntKind.i64 0, AVal.int IntKind.i64 0, AVal.int IntKind.i64 0] [(2, 1, AVal.int IntKind.i64 (-9000 - (i : Int)))] = some (mkK i).cs ∧ (mkK i).cs.all AVal.one = true :=
 ⟨by rw [wrap_i64 (by omega) (by omega)], rfl, rfl⟩
theorem Own.lit1 {σ : Store} {sz : Nat} {e : AVal} {p : List AVal} (he : Own σ sz e p) : fillL 1 false (List.replicate 1 (zel [AVal.nilslice] false)) [(0, e)] = some [e] := by
 rcases he.own with ⟨rfl, _⟩ | ⟨t, rfl⟩ | ⟨id, ep, off, cap, xs, epo, fl, rfl, _⟩ <;> simp
section
variable (d : Nat) (σ : Store)
theorem alonetexts_ok (id : Nat) (c0 c1 c2 c3 c4 : AVal) (h : σ[id]? = some (.cells [c0, c1, c2, c3, c4])) (hc : c1 = .nilslice) : Called CU.cfg d 68 [.ptr id 0] σ fun r σ' => r = .bool true ∧ σ' = σ := by
 subst hc
 refine called_of (fn := CU.a68) rfl (Nat.le_of_ble_eq_true rfl) ?_
 have el : lenSV .nilslice = some 0 := rfl
 have d0 : decide ((0 : Int) < ((0 : Nat) : Int)) = false := rfl
 simp only [CU.a68]
 simp -dsimp only [↓WPd, ↓wpC_block, ↓wpC_cond, WPu, Bool.false_eq_true, Bool.true_eq_false, Bool.not_true, Bool.not_false, if_true, if_false, ite_true, ite_false, Nat.reduceEqDiff, Nat.reduceLT, true_and, List.map_cons, List.map_nil, Nat.zero_add, Nat.reduceBEq]
 refine loop_rule (fun m vs σ' => σ' = σ ∧ vs = [.ptr id 0, .int .i64 0]) 0 ⟨rfl, ?_⟩ ?_
 ·simp -dsimp only [↓WPd, ↓wpC_block, ↓wpC_cond, WPu, Bool.false_eq_true, Bool.true_eq_false, Bool.not_true, Bool.not_false, if_true, if_false, ite_true, ite_false, Nat.reduceEqDiff, Nat.reduceLT, true_and, List.map_cons, List.map_nil, Nat.zero_add, Nat.reduceBEq]
 rintro m vs σ' ⟨rfl, rfl⟩
 simp -dsimp only [↓WPd, ↓wpC_block, ↓wpC_cond, WPu, Bool.false_eq_true, Bool.true_eq_false, Bool.not_true, Bool.not_false, if_true, if_false, ite_true, ite_false, Nat.reduceEqDiff, Nat.reduceLT, true_and, List.map_cons, List.map_nil, Nat.zero_add, Nat.reduceBEq, faddr_ptr, load_cells h, List.getElem?_cons_zero, List.getElem?_cons_succ, el, d0]
 refine loop_rule (fun m vs σ2 => σ2 = σ' ∧ vs = [.ptr id 0, .nilslice, .int .i64 0]) 0 ⟨rfl, ?_⟩ ?_
 ·simp -dsimp only [↓WPd, ↓wpC_block, ↓wpC_cond, WPu, Bool.false_eq_true, Bool.true_eq_false, Bool.not_true, Bool.not_false, if_true, if_false, ite_true, ite_false, Nat.reduceEqDiff, Nat.reduceLT, true_and, List.map_cons, List.map_nil, Nat.zero_add, Nat.reduceBEq]
 rintro m vs σ2 ⟨rfl, rfl⟩
 simp -dsimp only [↓WPd, ↓wpC_block, ↓wpC_cond, WPu, Bool.false_eq_true, Bool.true_eq_false, Bool.not_true, Bool.not_false, if_true, if_false, ite_true, ite_false, Nat.reduceEqDiff, Nat.reduceLT, true_and, List.map_cons, List.map_nil, Nat.zero_add, Nat.reduceBEq, faddr_ptr, load_cells h, List.getElem?_cons_zero, List.getElem?_cons_succ, el, d0]
 refine loop_rule (fun m vs σ3 => σ3 = σ2 ∧ vs = [.ptr id 0, .nilslice, .int .i64 0]) 0 ⟨rfl, ?_⟩ ?_
 ·simp -dsimp only [↓WPd, ↓wpC_block, ↓wpC_cond, WPu, Bool.false_eq_true, Bool.true_eq_false, Bool.not_true, Bool.not_false, if_true, if_false, ite_true, ite_false, Nat.reduceEqDiff, Nat.reduceLT, true_and, List.map_cons, List.map_nil, Nat.zero_add, Nat.reduceBEq]
 rintro m vs σ3 ⟨rfl, rfl⟩
 simp -dsimp only [↓WPd, ↓wpC_block, ↓wpC_cond, WPu, Bool.false_eq_true, Bool.true_eq_false, Bool.not_true, Bool.not_false, if_true, if_false, ite_true, ite_false, Nat.reduceEqDiff, Nat.reduceLT, true_and, List.map_cons, List.map_nil, Nat.zero_add, Nat.reduceBEq, faddr_ptr, load_cells h, List.getElem?_cons_zero, List.getElem?_cons_succ, el, d0]
theorem aloneints_ok (id : Nat) (c0 c1 c2 c3 c4 : AVal) (h : σ[id]? = some (.cells [c0, c1, c2, c3, c4])) (hc : c2 = .nilslice) : Called CU.cfg d 69 [.ptr id 0] σ fun r σ' => r = .bool true ∧ σ' = σ := by
 subst hc
 refine called_of (fn := CU.a69) rfl (Nat.le_of_ble_eq_true rfl) ?_
 have el : lenSV .nilslice = some 0 := rfl
 have d0 : decide ((0 : Int) < ((0 : Nat) : Int)) = false := rfl
 simp only [CU.a69]
 simp -dsimp only [↓WPd, ↓wpC_block, ↓wpC_cond, WPu, Bool.false_eq_true, Bool.true_eq_false, Bool.not_true, Bool.not_false, if_true, if_false, ite_true, ite_false, Nat.reduceEqDiff, Nat.reduceLT, true_and, List.map_cons, List.map_nil, Nat.zero_add, Nat.reduceBEq]
 refine loop_rule (fun m vs σ' => σ' = σ ∧ vs = [.ptr id 0, .int .i64 0]) 0 ⟨rfl, ?_⟩ ?_
 ·simp -dsimp only [↓WPd, ↓wpC_block, ↓wpC_cond, WPu, Bool.false_eq_true, Bool.true_eq_false, Bool.not_true, Bool.not_false, if_true, if_false, ite_true, ite_false, Nat.reduceEqDiff, Nat.reduceLT, true_and, List.map_cons, List.map_nil, Nat.zero_add, Nat.reduceBEq]
 rintro m vs σ' ⟨rfl, rfl⟩
 simp -dsimp only [↓WPd, ↓wpC_block, ↓wpC_cond, WPu, Bool.false_eq_true, Bool.true_eq_false, Bool.not_true, Bool.not_false, if_true, if_false, ite_true, ite_false, Nat.reduceEqDiff, Nat.reduceLT, true_and, List.map_cons, List.map_nil, Nat.zero_add, Nat.reduceBEq, faddr_ptr, load_cells h, List.getElem?_cons_zero, List.getElem?_cons_succ, el, d0]
 refine loop_rule (fun m vs σ2 => σ2 = σ' ∧ vs = [.ptr id 0, .nilslice, .int .i64 0]) 0 ⟨rfl, ?_⟩ ?_
 ·simp -dsimp only [↓WPd, ↓wpC_block, ↓wpC_cond, WPu, Bool.false_eq_true, Bool.true_eq_false, Bool.not_true, Bool.not_false, if_true, if_false, ite_true, ite_false, Nat.reduceEqDiff, Nat.reduceLT, true_and, List.map_cons, List.map_nil, Nat.zero_add, Nat.reduceBEq]
 rintro m vs σ2 ⟨rfl, rfl⟩
 simp -dsimp only [↓WPd, ↓wpC_block, ↓wpC_cond, WPu, Bool.false_eq_true, Bool.true_eq_false, Bool.not_true, Bool.not_false, if_true, if_false, ite_true, ite_false, Nat.reduceEqDiff, Nat.reduceLT, true_and, List.map_cons, List.map_nil, Nat.zero_add, Nat.reduceBEq, faddr_ptr, load_cells h, List.getElem?_cons_zero, List.getElem?_cons_succ, el, d0]
 refine loop_rule (fun m vs σ3 => σ3 = σ2 ∧ vs = [.ptr id 0, .nilslice, .int .i64 0]) 0 ⟨rfl, ?_⟩ ?_
 ·simp -dsimp only [↓WPd, ↓wpC_block, ↓wpC_cond, WPu, Bool.false_eq_true, Bool.true_eq_false, Bool.not_true, Bool.not_false, if_true, if_false, ite_true, ite_false, Nat.reduceEqDiff, Nat.reduceLT, true_and, List.map_cons, List.map_nil, Nat.zero_add, Nat.reduceBEq]
 rintro m vs σ3 ⟨rfl, rfl⟩
 simp -dsimp only [↓WPd, ↓wpC_block, ↓wpC_cond, WPu, Bool.false_eq_true, Bool.true_eq_false, Bool.not_true, Bool.not_false, if_true, if_false, ite_true, ite_false, Nat.reduceEqDiff, Nat.reduceLT, true_and, List.map_cons, List.map_nil, Nat.zero_add, Nat.reduceBEq, faddr_ptr, load_cells h, List.getElem?_cons_zero, List.getElem?_cons_succ, el, d0]
theorem alonebytes_ok (id : Nat) (c0 c1 c2 c3 c4 : AVal) (h : σ[id]? = some (.cells [c0, c1, c2, c3, c4])) (hc : c0 = .nilslice) : Called CU.cfg d 67 [.ptr id 0] σ fun r σ' => r = .bool true ∧ σ' = σ := by
 subst hc
 refine called_of (fn := CU.a67) rfl (Nat.le_of_ble_eq_true rfl) ?_
 have el : lenSV .nilslice = some 0 := rfl
 have d0 : decide ((0 : Int) < ((0 : Nat) : Int)) = false := rfl
 simp only [CU.a67]
 simp -dsimp only [↓WPd, ↓wpC_block, ↓wpC_cond, WPu, Bool.false_eq_true, Bool.true_eq_false, Bool.not_true, Bool.not_false, if_true, if_false, ite_true, ite_false, Nat.reduceEqDiff, Nat.reduceLT, true_and, List.map_cons, List.map_nil, Nat.zero_add, Nat.reduceBEq]
 refine loop_rule (fun m vs σ' => σ' = σ ∧ vs = [.ptr id 0, .int .i64 0]) 0 ⟨rfl, ?_⟩ ?_
 ·simp -dsimp only [↓WPd, ↓wpC_block, ↓wpC_cond, WPu, Bool.false_eq_true, Bool.true_eq_false, Bool.not_true, Bool.not_false, if_true, if_false, ite_true, ite_false, Nat.reduceEqDiff, Nat.reduceLT, true_and, List.map_cons, List.map_nil, Nat.zero_add, Nat.reduceBEq]
 rintro m vs σ' ⟨rfl, rfl⟩
 simp -dsimp only [↓WPd, ↓wpC_block, ↓wpC_cond, WPu, Bool.false_eq_true, Bool.true_eq_false, Bool.not_true, Bool.not_false, if_true, if_false, ite_true, ite_false, Nat.reduceEqDiff, Nat.reduceLT, true_and, List.map_cons, List.map_nil, Nat.zero_add, Nat.reduceBEq, faddr_ptr, load_cells h, List.getElem?_cons_zero, List.getElem?_cons_succ, el, d0]
 refine loop_rule (fun m vs σ2 => σ2 = σ' ∧ vs = [.ptr id 0, .nilslice, .int .i64 0]) 0 ⟨rfl, ?_⟩ ?_
 ·simp -dsimp only [↓WPd, ↓wpC_block, ↓wpC_cond, WPu, Bool.false_eq_true, Bool.true_eq_false, Bool.not_true, Bool.not_false, if_true, if_false, ite_true, ite_false, Nat.reduceEqDiff, Nat.reduceLT, true_and, List.map_cons, List.map_nil, Nat.zero_add, Nat.reduceBEq]
 rintro m vs σ2 ⟨rfl, rfl⟩
 simp -dsimp only [↓WPd, ↓wpC_block, ↓wpC_cond, WPu, Bool.false_eq_true, Bool.true_eq_false, Bool.not_true, Bool.not_false, if_true, if_false, ite_true, ite_false, Nat.reduceEqDiff, Nat.reduceLT, true_and, List.map_cons, List.map_nil, Nat.zero_add, Nat.reduceBEq, faddr_ptr, load_cells h, List.getElem?_cons_zero, List.getElem?_cons_succ, el, d0]
 refine loop_rule (fun m vs σ3 => σ3 = σ2 ∧ vs = [.ptr id 0, .nilslice, .int .i64 0]) 0 ⟨rfl, ?_⟩ ?_
 ·simp -dsimp only [↓WPd, ↓wpC_block, ↓wpC_cond, WPu, Bool.false_eq_true, Bool.true_eq_false, Bool.not_true, Bool.not_false, if_true, if_false, ite_true, ite_false, Nat.reduceEqDiff, Nat.reduceLT, true_and, List.map_cons, List.map_nil, Nat.zero_add, Nat.reduceBEq]
 rintro m vs σ3 ⟨rfl, rfl⟩
 simp -dsimp only [↓WPd, ↓wpC_block, ↓wpC_cond, WPu, Bool.false_eq_true, Bool.true_eq_false, Bool.not_true, Bool.not_false, if_true, if_false, ite_true, ite_false, Nat.reduceEqDiff, Nat.reduceLT, true_and, List.map_cons, List.map_nil, Nat.zero_add, Nat.reduceBEq, faddr_ptr, load_cells h, List.getElem?_cons_zero, List.getElem?_cons_succ, el, d0]
theorem alonenames_ok (id : Nat) (c0 c1 c2 c3 c4 : AVal) (h : σ[id]? = some (.cells [c0, c1, c2, c3, c4])) (hc : c4 = .nilslice) : Called CU.cfg d 71 [.ptr id 0] σ fun r σ' => r = .bool true ∧ σ' = σ := by
 subst hc
 refine called_of (fn := CU.a71) rfl (Nat.le_of_ble_eq_true rfl) ?_
 have el : lenSV .nilslice = some 0 := rfl
 have d0 : decide ((0 : Int) < ((0 : Nat) : Int)) = false := rfl
 simp only [CU.a71]
 simp -dsimp only [↓WPd, ↓wpC_block, ↓wpC_cond, WPu, Bool.false_eq_true, Bool.true_eq_false, Bool.not_true, Bool.not_false, if_true, if_false, ite_true, ite_false, Nat.reduceEqDiff, Nat.reduceLT, true_and, List.map_cons, List.map_nil, Nat.zero_add, Nat.reduceBEq]
 refine loop_rule (fun m vs σ' => σ' = σ ∧ vs = [.ptr id 0, .int .i64 0]) 0 ⟨rfl, ?_⟩ ?_
 ·simp -dsimp only [↓WPd, ↓wpC_block, ↓wpC_cond, WPu, Bool.false_eq_true, Bool.true_eq_false, Bool.not_true, Bool.not_false, if_true, if_false, ite_true, ite_false, Nat.reduceEqDiff, Nat.reduceLT, true_and, List.map_cons, List.map_nil, Nat.zero_add, Nat.reduceBEq]
 rintro m vs σ' ⟨rfl, rfl⟩
 simp -dsimp only [↓WPd, ↓wpC_block, ↓wpC_cond, WPu, Bool.false_eq_true, Bool.true_eq_false, Bool.not_true, Bool.not_false, if_true, if_false, ite_true, ite_false, Nat.reduceEqDiff, Nat.reduceLT, true_and, List.map_cons, List.map_nil, Nat.zero_add, Nat.reduceBEq, faddr_ptr, load_cells h, List.getElem?_cons_zero, List.getElem?_cons_succ, el, d0]
 refine loop_rule (fun m vs σ2 => σ2 = σ' ∧ vs = [.ptr id 0, .nilslice, .int .i64 0]) 0 ⟨rfl, ?_⟩ ?_
 ·simp -dsimp only [↓WPd, ↓wpC_block, ↓wpC_cond, WPu, Bool.false_eq_true, Bool.true_eq_false, Bool.not_true, Bool.not_false, if_true, if_false, ite_true, ite_false, Nat.reduceEqDiff, Nat.reduceLT, true_and, List.map_cons, List.map_nil, Nat.zero_add, Nat.reduceBEq]
 rintro m vs σ2 ⟨rfl, rfl⟩
 simp -dsimp only [↓WPd, ↓wpC_block, ↓wpC_cond, WPu, Bool.false_eq_true, Bool.true_eq_false, Bool.not_true, Bool.not_false, if_true, if_false, ite_true, ite_false, Nat.reduceEqDiff, Nat.reduceLT, true_and, List.map_cons, List.map_nil, Nat.zero_add, Nat.reduceBEq, faddr_ptr, load_cells h, List.getElem?_cons_zero, List.getElem?_cons_succ, el, d0]
 refine loop_rule (fun m vs σ3 => σ3 = σ2 ∧ vs = [.ptr id 0, .nilslice, .int .i64 0]) 0 ⟨rfl, ?_⟩ ?_
 ·simp -dsimp only [↓WPd, ↓wpC_block, ↓wpC_cond, WPu, Bool.false_eq_true, Bool.true_eq_false, Bool.not_true, Bool.not_false, if_true, if_false, ite_true, ite_false, Nat.reduceEqDiff, Nat.reduceLT, true_and, List.map_cons, List.map_nil, Nat.zero_add, Nat.reduceBEq]
 rintro m vs σ3 ⟨rfl, rfl⟩
 simp -dsimp only [↓WPd, ↓wpC_block, ↓wpC_cond, WPu, Bool.false_eq_true, Bool.true_eq_false, Bool.not_true, Bool.not_false, if_true, if_false, ite_true, ite_false, Nat.reduceEqDiff, Nat.reduceLT, true_and, List.map_cons, List.map_nil, Nat.zero_add, Nat.reduceBEq, faddr_ptr, load_cells h, List.getElem?_cons_zero, List.getElem?_cons_succ, el, d0]
set_option maxHeartbeats 4000000 in
theorem alonecells_ok (c1 c2 c3 c4 : AVal) (lo : Nat) (id : Nat) (w : AVal) (es : List AVal) (qs : List (List Cel)) (h : BookC c1 c2 c3 c4 lo σ id w es qs) (hn : qs.length < 2 ^ 28) (hq : ∀ q ∈ qs, q.length < 2 ^ 28) :
  Called CU.cfg d 70 [.ptr id 0] σ fun r σ' => r = .bool true ∧ σ'[id]? = some (.cells [c1, c2, c3, w, c4]) ∧ Keeps (fun j => ∃ (i : Nat) (e : AVal), es[i]? = some e ∧ e.sid = some j) σ σ' := by
 refine called_of (fn := CU.a70) rfl (Nat.le_of_ble_eq_true rfl) ?_
 have hpl := h.rows.len
 rw [List.length_map] at hpl
 have lw := h.rows.row.sl.len
 rw [hpl] at lw
 have sub : ∀ {i : Nat} {e : AVal} {σ1 σ2 : Store}, es[i]? = some e → Keeps (fun j => e.sid = some j) σ1 σ2 → Keeps (fun j => ∃ (i : Nat) (e : AVal), es[i]? = some e ∧ e.sid = some j) σ1 σ2 := fun hi hk => hk.mono fun j _ hj => ⟨_, _, hi, hj⟩
 simp only [CU.a70]
 simp -dsimp only [↓WPd, ↓wpC_block, ↓wpC_cond, WPu, Bool.false_eq_true, Bool.true_eq_false, Bool.not_true, Bool.not_false, if_true, if_false, ite_true, ite_false, Nat.reduceEqDiff, Nat.reduceLT, true_and, List.map_cons, List.map_nil, Nat.zero_add, Nat.reduceBEq]
 refine loop_rule2 (fun m vs σ' => ∃ (i : Nat) (xs : List (List Cel)), i ≤ qs.length ∧ m = qs.length - i ∧ vs = [.ptr id 0, .int .i64 i] ∧ BookC c1 c2 c3 c4 lo σ' id w es xs ∧ xs.length = qs.length ∧ (∀ (j : Nat) (x : List Cel), xs[j]? = some x → x.length < 2 ^ 28 ∧ (j < i → x = List.replicate x.length (mkK j))) ∧
   Keeps (fun j => ∃ (i : Nat) (e : AVal), es[i]? = some e ∧ e.sid = some j) σ σ')
  [0] (fun x vs σ' => x = .exit 0 ∧ ∃ (xs : List (List Cel)), vs = [.ptr id 0] ∧ BookC c1 c2 c3 c4 lo σ' id w es xs ∧ xs.length = qs.length ∧ (∀ (j : Nat) (x : List Cel), xs[j]? = some x → x.length < 2 ^ 28 ∧ x = List.replicate x.length (mkK j)) ∧
   Keeps (fun j => ∃ (i : Nat) (e : AVal), es[i]? = some e ∧ e.sid = some j) σ σ') qs.length
  ⟨0, qs, Nat.zero_le _, rfl, ?_, h, rfl, fun j x hx => ⟨hq x (List.mem_of_getElem? hx), fun h => by omega⟩, Keeps.refl _ _⟩ ?_ ?_
 ·simp -dsimp only [↓WPd, ↓wpC_block, ↓wpC_cond, WPu, Bool.false_eq_true, Bool.true_eq_false, Bool.not_true, Bool.not_false, if_true, if_false, ite_true, ite_false, Nat.reduceEqDiff, Nat.reduceLT, true_and, List.map_cons, List.map_nil, Nat.zero_add, Nat.reduceBEq]; rfl
 ·rintro m vs σ1 ⟨i, xs, hi, rfl, rfl, hb, hxl, hx, hk⟩
  simp -dsimp only [↓WPd, ↓wpC_block, ↓wpC_cond, WPu, Bool.false_eq_true, Bool.true_eq_false, Bool.not_true, Bool.not_false, if_true, if_false, ite_true, ite_false, Nat.reduceEqDiff, Nat.reduceLT, true_and, List.map_cons, List.map_nil, Nat.zero_add, Nat.reduceBEq, faddr_ptr, load_cells hb.obj, List.getElem?_cons_zero, List.getElem?_cons_succ, lw]
  refine condP_dec (fun hc => ?_) (fun hc => ?_)
  ·have hi' : i < qs.length := by omega
   have hie : i < es.length := by omega
   have hei : es[i]? = some es[i] := List.getElem?_eq_getElem hie
   generalize es[i] = e at hei
   obtain ⟨m1, m2, m3⟩ := mk_opsK i (by omega)
   simp -dsimp only [↓WPd, ↓wpC_block, ↓wpC_cond, WPu, Bool.false_eq_true, Bool.true_eq_false, Bool.not_true, Bool.not_false, if_true, if_false, ite_true, ite_false, Nat.reduceEqDiff, Nat.reduceLT, true_and, List.map_cons, List.map_nil, Nat.zero_add, Nat.reduceBEq]
   refine loop_rule2 (fun m vs σ' => ∃ (k : Nat) (ys : List (List Cel)) (y : List Cel), k ≤ y.length ∧ m = y.length - k ∧ vs = [.ptr id 0, .int .i64 i, .int .i64 k] ∧ BookC c1 c2 c3 c4 lo σ' id w es ys ∧ ys.length = qs.length ∧ ys[i]? = some y ∧ y.length < 2 ^ 28 ∧ y.take k = List.replicate k (mkK i) ∧
     (∀ (j : Nat) (x : List Cel), j ≠ i → ys[j]? = some x → x.length < 2 ^ 28 ∧ (j < i → x = List.replicate x.length (mkK j))) ∧ Keeps (fun j => ∃ (i : Nat) (e : AVal), es[i]? = some e ∧ e.sid = some j) σ σ')
    [0, 3] (fun x vs σ' => x = .exit 2 ∧ vs = [.ptr id 0, .int .i64 i] ∧ ∃ ys : List (List Cel), BookC c1 c2 c3 c4 lo σ' id w es ys ∧ ys.length = qs.length ∧ (∀ (j : Nat) (x : List Cel), ys[j]? = some x → x.length < 2 ^ 28 ∧ (j < i + 1 → x = List.replicate x.length (mkK j))) ∧
     Keeps (fun j => ∃ (i : Nat) (e : AVal), es[i]? = some e ∧ e.sid = some j) σ σ') (xs[i]'(by omega)).length
    ⟨0, xs, xs[i]'(by omega), Nat.zero_le _, rfl, ?_, hb, hxl, List.getElem?_eq_getElem _, (hx i _ (List.getElem?_eq_getElem (by omega))).1, by simp, fun j x _ hj => hx j x hj, hk⟩ ?_ ?_
   ·simp -dsimp only [↓WPd, ↓wpC_block, ↓wpC_cond, WPu, Bool.false_eq_true, Bool.true_eq_false, Bool.not_true, Bool.not_false, if_true, if_false, ite_true, ite_false, Nat.reduceEqDiff, Nat.reduceLT, true_and, List.map_cons, List.map_nil, Nat.zero_add, Nat.reduceBEq]; rfl
   ·rintro m vs σ2 ⟨k, ys, y, hky, rfl, rfl, hb2, hyl, hyi, hy28, hyt, hyo, hk2⟩
    have oe := hb2.rows.one i e (CC y) hei (by rw [List.getElem?_map, hyi]; rfl)
    have le := oe.sl.len
    rw [CC_len] at le
    have e1 := hb2.rows.row.sl.iaddr hie .i64
    have e2 := hb2.rows.row.sl.load hie 1 false
    have hg : es[i] = e := by rw [List.getElem?_eq_getElem hie] at hei; exact Option.some.inj hei
    rw [hg, show ld e.cells 0 1 false = some e from by have := oe.sl.one; cases e <;> first | (cases this; done) | rfl] at e2
    simp -dsimp only [↓WPd, ↓wpC_block, ↓wpC_cond, WPu, Bool.false_eq_true, Bool.true_eq_false, Bool.not_true, Bool.not_false, if_true, if_false, ite_true, ite_false, Nat.reduceEqDiff, Nat.reduceLT, true_and, List.map_cons, List.map_nil, Nat.zero_add, Nat.reduceBEq, faddr_ptr, load_cells hb2.obj, List.getElem?_cons_zero, List.getElem?_cons_succ, e1, e2, le]
    refine condP_dec (fun hc => ?_) (fun hc => ?_)
    ·have hk' : k < y.length := by omega
     have hkB : k < (CC y).length := by rw [CC_len]; exact hk'
     obtain ⟨σ3, st, o3, k3, -⟩ := oe.store (hb2.rows.lit i e hei) hkB (x := (mkK i).val) rfl rfl (by rw [cel_get]; rfl) (by rw [cel_get]; rfl)
     have eb : (CC y).set k (mkK i).val = CC (y.set k (mkK i)) := by simp [List.map_set]
     rw [eb] at o3
     have st' : storeV σ2 5 (addrOf 5 e k) (.agg (mkK i).cs) = some σ3 := st
     have r3 := hb2.rows.setElem hei o3 k3
     rw [← List.map_set] at r3
     have hb3 : BookC c1 c2 c3 c4 lo σ3 id w es (ys.set i (y.set k (mkK i))) := ⟨k3.get hb2.obj (oe.noCell hb2.obj), r3⟩
     simp -dsimp only [↓WPd, ↓wpC_block, ↓wpC_cond, WPu, Bool.false_eq_true, Bool.true_eq_false, Bool.not_true, Bool.not_false, if_true, if_false, ite_true, ite_false, Nat.reduceEqDiff, Nat.reduceLT, true_and, List.map_cons, List.map_nil, Nat.zero_add, Nat.reduceBEq, faddr_ptr, load_cells hb2.obj, List.getElem?_cons_zero, List.getElem?_cons_succ, e1, e2, m1, m2, m3, oe.sl.iaddr hkB, st']
     refine ⟨y.length - (k + 1), by omega, k + 1, ys.set i (y.set k (mkK i)), y.set k (mkK i), by simp; omega, by simp, ?_, hb3, by simpa using hyl, ?_, by simpa using hy28, ?_, fun j x hj hx' => ?_, ?_⟩
     ·rw [wrap_i64 (by omega) (by omega), Int.natCast_add, Int.natCast_one]
     ·exact List.getElem?_set_self (by omega)
     ·have := take_set_succ (l := y) (y := List.replicate y.length (mkK i)) (k := k) hk' (by simpa using hk') (by rw [hyt, List.take_replicate, Nat.min_eq_left (by omega)])
      rw [List.getElem_replicate, List.take_replicate, Nat.min_eq_left (by omega)] at this
      exact this
     ·rw [List.getElem?_set_ne (fun e => hj e.symm)] at hx'
      exact hyo j x hj hx'
     ·exact Keeps.trans hk2 (sub hei k3) fun _ _ h => h
    ·simp -dsimp only [↓WPd, ↓wpC_block, ↓wpC_cond, WPu, Bool.false_eq_true, Bool.true_eq_false, Bool.not_true, Bool.not_false, if_true, if_false, ite_true, ite_false, Nat.reduceEqDiff, Nat.reduceLT, true_and, List.map_cons, List.map_nil, Nat.zero_add, Nat.reduceBEq]
     have hk' : k = y.length := by omega
     subst hk'
     rw [List.take_length] at hyt
     refine ⟨ys, hb2, hyl, fun j x hj => ?_, hk2⟩
     by_cases hji : j = i
     ·subst hji
      rw [hyi] at hj; injection hj with hj; subst hj
      exact ⟨hy28, fun _ => hyt⟩
     ·obtain ⟨a1, a2⟩ := hyo j x hji hj
      exact ⟨a1, fun hlt => a2 (by omega)⟩
   ·rintro x σ2 env ⟨rfl, hv, ys, hb2, hyl, hyx, hk2⟩
    simp only [List.map_cons, List.map_nil, List.cons.injEq, and_true] at hv
    obtain ⟨v0, v3⟩ := hv
    simp -dsimp only [↓WPd, ↓wpC_block, ↓wpC_cond, WPu, Bool.false_eq_true, Bool.true_eq_false, Bool.not_true, Bool.not_false, if_true, if_false, ite_true, ite_false, Nat.reduceEqDiff, Nat.reduceLT, true_and, List.map_cons, List.map_nil, Nat.zero_add, Nat.reduceBEq, v0, v3]
    refine ⟨qs.length - (i + 1), by omega, i + 1, ys, by omega, rfl, ?_, hb2, hyl, hyx, hk2⟩
    rw [wrap_i64 (by omega) (by omega), Int.natCast_add, Int.natCast_one]
  ·simp -dsimp only [↓WPd, ↓wpC_block, ↓wpC_cond, WPu, Bool.false_eq_true, Bool.true_eq_false, Bool.not_true, Bool.not_false, if_true, if_false, ite_true, ite_false, Nat.reduceEqDiff, Nat.reduceLT, true_and, List.map_cons, List.map_nil, Nat.zero_add, Nat.reduceBEq]
   exact ⟨xs, hb, hxl, fun j x hj => ⟨(hx j x hj).1, (hx j x hj).2 (by have := (List.getElem?_eq_some_iff.1 hj).1; omega)⟩, hk⟩
 ·rintro x σ1 env ⟨rfl, xs, hv, hb, hxl, hx, hk⟩
  simp only [List.map_cons, List.map_nil, List.cons.injEq, and_true] at hv
  simp -dsimp only [↓WPd, ↓wpC_block, ↓wpC_cond, WPu, Bool.false_eq_true, Bool.true_eq_false, Bool.not_true, Bool.not_false, if_true, if_false, ite_true, ite_false, Nat.reduceEqDiff, Nat.reduceLT, true_and, List.map_cons, List.map_nil, Nat.zero_add, Nat.reduceBEq, hv]
  have hxe : ∀ {j : Nat} {e : AVal} {x : List Cel}, es[j]? = some e → xs[j]? = some x → Own σ1 5 e (CC x) := fun {j e x} h1 h2 => hb.rows.one j e (CC x) h1 (by rw [List.getElem?_map, h2]; rfl)
  have hel : ∀ {j : Nat} {e : AVal} {s : Nat}, es[j]? = some e → e.sid = some s → s < σ1.length := fun h1 h2 => hb.rows.lt h1 h2
  refine loop_rule2 (fun m vs σ' => ∃ (i : Nat) (a : AVal) (gs : List AVal), i ≤ qs.length ∧ m = qs.length - i ∧ vs = [.ptr id 0, a, .int .i64 i] ∧ σ'[id]? = some (.cells [c1, c2, c3, w, c4]) ∧ SlOf σ' 1 w es ∧
    (∀ (j : Nat) (e : AVal) (x : List Cel), es[j]? = some e → xs[j]? = some x → SlOf σ' 5 e (CC x) ∧ (i ≤ j → Own σ' 5 e (CC x))) ∧ Own σ' 1 a gs ∧ gs.length = i ∧ Fresh σ1.length a ∧
    (∀ (j : Nat) (g : AVal) (x : List Cel), gs[j]? = some g → xs[j]? = some x → SlOf σ' 5 g (CC (x ++ List.replicate 20 (mkK j)))) ∧ Keeps (fun j => ∃ (i : Nat) (e : AVal), es[i]? = some e ∧ e.sid = some j) σ σ' ∧ σ1.length ≤ σ'.length)
   [0, 5] (fun x vs σ' => x = .exit 4 ∧ ∃ (a : AVal) (gs : List AVal), vs = [.ptr id 0, a] ∧ σ'[id]? = some (.cells [c1, c2, c3, w, c4]) ∧ SlOf σ' 1 w es ∧
    (∀ (j : Nat) (e : AVal) (x : List Cel), es[j]? = some e → xs[j]? = some x → SlOf σ' 5 e (CC x)) ∧ SlOf σ' 1 a gs ∧ gs.length = qs.length ∧
    (∀ (j : Nat) (g : AVal) (x : List Cel), gs[j]? = some g → xs[j]? = some x → SlOf σ' 5 g (CC (x ++ List.replicate 20 (mkK j)))) ∧ Keeps (fun j => ∃ (i : Nat) (e : AVal), es[i]? = some e ∧ e.sid = some j) σ σ') qs.length
   ⟨0, .nilslice, [], Nat.zero_le _, rfl, ?_, hb.obj, hb.rows.row.sl, fun j e x h1 h2 => ⟨(hxe h1 h2).sl, fun _ => hxe h1 h2⟩, Own.nil _ _, rfl, Fresh.nil _, fun j g x h => by simp at h, hk, Nat.le_refl _⟩ ?_ ?_
  ·simp -dsimp only [↓WPd, ↓wpC_block, ↓wpC_cond, WPu, Bool.false_eq_true, Bool.true_eq_false, Bool.not_true, Bool.not_false, if_true, if_false, ite_true, ite_false, Nat.reduceEqDiff, Nat.reduceLT, true_and, List.map_cons, List.map_nil, Nat.zero_add, Nat.reduceBEq, hv]; rfl
  ·rintro m vs σ2 ⟨i, a, gs, hi, rfl, rfl, p1, p2, p3, p4, p5, p6, p7, p8, p9⟩
   simp -dsimp only [↓WPd, ↓wpC_block, ↓wpC_cond, WPu, Bool.false_eq_true, Bool.true_eq_false, Bool.not_true, Bool.not_false, if_true, if_false, ite_true, ite_false, Nat.reduceEqDiff, Nat.reduceLT, true_and, List.map_cons, List.map_nil, Nat.zero_add, Nat.reduceBEq, faddr_ptr, load_cells p1, List.getElem?_cons_zero, List.getElem?_cons_succ, lw]
   refine condP_dec (fun hc => ?_) (fun hc => ?_)
   ·have hi' : i < qs.length := by omega
    have hie : i < es.length := by omega
    have hei : es[i]? = some es[i] := List.getElem?_eq_getElem hie
    have hxi : xs[i]? = some (xs[i]'(by omega)) := List.getElem?_eq_getElem _
    generalize xs[i]'(by omega) = x at hxi
    obtain ⟨m1, m2, m3⟩ := mk_opsK i (by omega)
    have oe := (p3 i es[i] x hei hxi).2 (Nat.le_refl _)
    have hx28 := (hx i x hxi).1
    have e1 := p2.iaddr hie .i64
    have e2 := p2.load1 hie oe.sl.one 1
    simp -dsimp only [↓WPd, ↓wpC_block, ↓wpC_cond, WPu, Bool.false_eq_true, Bool.true_eq_false, Bool.not_true, Bool.not_false, if_true, if_false, ite_true, ite_false, Nat.reduceEqDiff, Nat.reduceLT, true_and, List.map_cons, List.map_nil, Nat.zero_add, Nat.reduceBEq, faddr_ptr, load_cells p1, List.getElem?_cons_zero, List.getElem?_cons_succ, e1, e2]
    generalize es[i] = e at hei oe
    refine loop_rule2 (fun m vs σ' => ∃ (k : Nat) (g : AVal), k ≤ 20 ∧ m = 20 - k ∧ vs = [.ptr id 0, a, .int .i64 i, g, .int .i64 k] ∧ Own σ' 5 g (CC (x ++ List.replicate k (mkK i))) ∧ (∀ s, g.sid = some s → e.sid = some s ∨ σ2.length ≤ s) ∧ Keeps (fun s => e.sid = some s) σ2 σ' ∧
      ∀ (sz : Nat) (u : AVal) (us : List AVal), SlOf σ2 sz u us → SlOf σ' sz u us)
     [0, 5, 6, 7] (fun y vs σ' => y = .exit 6 ∧ ∃ g : AVal, vs = [.ptr id 0, a, .int .i64 i, g] ∧ Own σ' 5 g (CC (x ++ List.replicate 20 (mkK i))) ∧ (∀ s, g.sid = some s → e.sid = some s ∨ σ2.length ≤ s) ∧ Keeps (fun s => e.sid = some s) σ2 σ' ∧
      ∀ (sz : Nat) (u : AVal) (us : List AVal), SlOf σ2 sz u us → SlOf σ' sz u us) 20
     ⟨0, e, Nat.zero_le _, rfl, ?_, by simpa using oe, fun s hs => .inl hs, Keeps.refl _ _, fun _ _ _ h => h⟩ ?_ ?_
    ·simp -dsimp only [↓WPd, ↓wpC_block, ↓wpC_cond, WPu, Bool.false_eq_true, Bool.true_eq_false, Bool.not_true, Bool.not_false, if_true, if_false, ite_true, ite_false, Nat.reduceEqDiff, Nat.reduceLT, true_and, List.map_cons, List.map_nil, Nat.zero_add, Nat.reduceBEq]; rfl
    ·rintro m vs σ3 ⟨k, g, hk20, rfl, rfl, og, gsid, gk, gv⟩
     simp -dsimp only [↓WPd, ↓wpC_block, ↓wpC_cond, WPu, Bool.false_eq_true, Bool.true_eq_false, Bool.not_true, Bool.not_false, if_true, if_false, ite_true, ite_false, Nat.reduceEqDiff, Nat.reduceLT, true_and, List.map_cons, List.map_nil, Nat.zero_add, Nat.reduceBEq]
     refine condP_dec (fun hc => ?_) (fun hc => ?_)
     ·have hk' : k < 20 := by omega
      obtain ⟨g', σ4, b1, b2, b3, b4, _⟩ := og.append (CC [mkK i]) 48 (by rw [CC_len, CC_len]; simp; omega)
      rw [CC_app, List.append_assoc, ← List.replicate_succ'] at b2
      have b1' : appendV σ3 5 48 g [.agg (mkK i).cs] = some (g', σ4) := b1
      have f1 : fillL 5 true (List.replicate 1 (zel [AVal.int IntKind.u8 0, AVal.str [], AVal.int IntKind.i64 0, AVal.int IntKind.i64 0, AVal.int IntKind.i64 0] true)) [(0, .agg (mkK i).cs)] = some [.agg (mkK i).cs] := rfl
      have f2 : ∀ t : Nat, elems 5 σ3 (.fslice t true 5 [.agg (mkK i).cs]) = some [.agg (mkK i).cs] := fun t => rfl
      simp -dsimp only [↓WPd, ↓wpC_block, ↓wpC_cond, WPu, Bool.false_eq_true, Bool.true_eq_false, Bool.not_true, Bool.not_false, if_true, if_false, ite_true, ite_false, Nat.reduceEqDiff, Nat.reduceLT, true_and, List.map_cons, List.map_nil, Nat.zero_add, Nat.reduceBEq, m1, m2, m3, f1, f2, b1']
      refine ⟨20 - (k + 1), by omega, k + 1, g', by omega, rfl, ?_, b2, fun s hs => ?_, ?_, fun sz u us hu => og.append_view b1 (gv sz u us hu)⟩
      ·rw [wrap_i64 (by omega) (by omega), Int.natCast_add, Int.natCast_one]
      ·rcases b4 s hs with e | e
       ·exact gsid s e
       ·have := gk.1; exact .inr (by omega)
      ·refine Keeps.trans gk b3 fun s hs e => ?_
       rcases gsid s e with e' | e'
       ·exact e'
       ·omega
     ·simp -dsimp only [↓WPd, ↓wpC_block, ↓wpC_cond, WPu, Bool.false_eq_true, Bool.true_eq_false, Bool.not_true, Bool.not_false, if_true, if_false, ite_true, ite_false, Nat.reduceEqDiff, Nat.reduceLT, true_and, List.map_cons, List.map_nil, Nat.zero_add, Nat.reduceBEq]
      have hk' : k = 20 := by omega
      subst hk'
      exact ⟨g, rfl, og, gsid, gk, gv⟩
    ·rintro y σ3 env ⟨rfl, g, hv, og, gsid, gk, gv⟩
     simp only [List.map_cons, List.map_nil, List.cons.injEq, and_true] at hv
     obtain ⟨v0, v5, v6, v7⟩ := hv
     have g4 : Grows σ3 σ3 := Keeps.refl _ _
     have lel : ∀ tg, elems 1 σ3 (.fslice tg true 1 [g]) = some [g] := fun tg => (SlOf.fs σ3 1 tg true [g]).els
     have oa3 : Own σ3 1 a gs := p4.keeps gk fun s hs he => by have := p6 s hs; have := hel hei he; omega
     have oa4 := oa3.grow g4
     obtain ⟨a', σ5, c1, c2, c3, c4, _⟩ := oa4.append [g] 24 (by rw [p5]; simp; omega)
     have V : ∀ {s : Nat} {u : AVal} {us : List AVal}, SlOf σ2 s u us → SlOf σ5 s u us := fun {s u us} hu => oa4.append_view c1 ((gv s _ _ hu).grow g4)
     simp -dsimp only [↓WPd, ↓wpC_block, ↓wpC_cond, WPu, Bool.false_eq_true, Bool.true_eq_false, Bool.not_true, Bool.not_false, if_true, if_false, ite_true, ite_false, Nat.reduceEqDiff, Nat.reduceLT, true_and, List.map_cons, List.map_nil, Nat.zero_add, Nat.reduceBEq, v0, v5, v6, v7, og.lit1, lel, c1]
     refine ⟨qs.length - (i + 1), by omega, i + 1, a', gs ++ [g], by omega, rfl, ?_, ?_, V p2, fun j e' x' h1 h2 => ⟨V (p3 j e' x' h1 h2).1, fun hj => ?_⟩, c2, by simp [p5], fun s hs => ?_, fun j g' x' h1 h2 => ?_, ?_, ?_⟩
     ·rw [wrap_i64 (by omega) (by omega), Int.natCast_add, Int.natCast_one]
     ·exact c3.get (g4.get (gk.get p1 (oe.noCell p1))) (oa4.noCell (g4.get (gk.get p1 (oe.noCell p1))))
     ·refine (((p3 j e' x' h1 h2).2 (by omega)).keeps gk fun s hs he => ?_).grow g4 |>.keeps c3 fun s hs ha => ?_
      ·have := hb.rows.apart j i e' e s h1 hei hs he; omega
      ·have := p6 s ha; have := hel h1 hs; omega
     ·rcases c4 s hs with e' | e'
      ·exact p6 s e'
      ·have := g4.1; have := gk.1; omega
     ·by_cases hj : j < gs.length
      ·rw [List.getElem?_append_left hj] at h1
       exact V (p7 j g' x' h1 h2)
      ·rw [List.getElem?_append_right (by omega), List.getElem?_singleton] at h1
       split at h1
       ·rename_i hj0
        injection h1 with h1
        subst h1
        have : j = i := by omega
        subst this
        rw [hxi] at h2; injection h2 with h2; subst h2
        exact oa4.append_view c1 (og.sl.grow g4)
       ·cases h1
     ·have k1 : Keeps (fun j => ∃ (i : Nat) (e : AVal), es[i]? = some e ∧ e.sid = some j) σ σ3 := Keeps.trans p8 (sub hei gk) fun _ _ h => h
      have k2 : Keeps (fun j => ∃ (i : Nat) (e : AVal), es[i]? = some e ∧ e.sid = some j) σ σ3 := Keeps.trans k1 (Grows.any (M := fun j => ∃ (i : Nat) (e : AVal), es[i]? = some e ∧ e.sid = some j) g4) fun _ _ h => h
      exact Keeps.trans k2 c3 fun s hs ha => by have := p6 s ha; have := hk.1; omega
     ·have := gk.1; have := g4.1; have := c3.1; omega
   ·simp -dsimp only [↓WPd, ↓wpC_block, ↓wpC_cond, WPu, Bool.false_eq_true, Bool.true_eq_false, Bool.not_true, Bool.not_false, if_true, if_false, ite_true, ite_false, Nat.reduceEqDiff, Nat.reduceLT, true_and, List.map_cons, List.map_nil, Nat.zero_add, Nat.reduceBEq]
    have hi' : i = qs.length := by omega
    exact ⟨a, gs, rfl, p1, p2, fun j e x h1 h2 => (p3 j e x h1 h2).1, p4.sl, by omega, p7, p8⟩
  ·rintro y σ2 env ⟨rfl, a, gs, hv2, p1, p2, p3, p4, p5, p7, p8⟩
   simp only [List.map_cons, List.map_nil, List.cons.injEq, and_true] at hv2
   obtain ⟨v0, v5⟩ := hv2
   have la := p4.len
   rw [p5] at la
   simp -dsimp only [↓WPd, ↓wpC_block, ↓wpC_cond, WPu, Bool.false_eq_true, Bool.true_eq_false, Bool.not_true, Bool.not_false, if_true, if_false, ite_true, ite_false, Nat.reduceEqDiff, Nat.reduceLT, true_and, List.map_cons, List.map_nil, Nat.zero_add, Nat.reduceBEq, v0, v5]
   refine loop_rule (fun m vs σ' => ∃ i : Nat, i ≤ qs.length ∧ m = qs.length - i ∧ vs = [.ptr id 0, a, .int .i64 i] ∧ σ' = σ2) qs.length ⟨0, Nat.zero_le _, rfl, ?_, rfl⟩ ?_
   ·simp -dsimp only [↓WPd, ↓wpC_block, ↓wpC_cond, WPu, Bool.false_eq_true, Bool.true_eq_false, Bool.not_true, Bool.not_false, if_true, if_false, ite_true, ite_false, Nat.reduceEqDiff, Nat.reduceLT, true_and, List.map_cons, List.map_nil, Nat.zero_add, Nat.reduceBEq, v0, v5]; rfl
   ·rintro m vs σ' ⟨i, hi, rfl, rfl, rfl⟩
    simp -dsimp only [↓WPd, ↓wpC_block, ↓wpC_cond, WPu, Bool.false_eq_true, Bool.true_eq_false, Bool.not_true, Bool.not_false, if_true, if_false, ite_true, ite_false, Nat.reduceEqDiff, Nat.reduceLT, true_and, List.map_cons, List.map_nil, Nat.zero_add, Nat.reduceBEq, la]
    refine condP_dec (fun hc => ?_) (fun hc => ?_)
    ·have hi' : i < qs.length := by omega
     have hie : i < es.length := by omega
     have hig : i < gs.length := by omega
     have hei : es[i]? = some es[i] := List.getElem?_eq_getElem hie
     have hgi : gs[i]? = some gs[i] := List.getElem?_eq_getElem hig
     have hxi : xs[i]? = some (xs[i]'(by omega)) := List.getElem?_eq_getElem _
     generalize xs[i]'(by omega) = x at hxi
     obtain ⟨m1, m2, m3⟩ := mk_opsK i (by omega)
     have sg := p7 i gs[i] x hgi hxi
     have se := p3 i es[i] x hei hxi
     obtain ⟨hx28, hxr⟩ := hx i x hxi
     have a1 := p4.iaddr hig .i64
     have a2 := p4.load1 hig sg.one 1
     have e1 := p2.iaddr hie .i64
     have e2 := p2.load1 hie se.one 1
     generalize gs[i] = g at *
     generalize es[i] = e at *
     have lg := sg.len
     rw [CC_len] at lg
     have le := se.len
     rw [CC_len] at le
     have hz : ∀ (k : Nat) (h : k < (CC (x ++ List.replicate 20 (mkK i))).length), (CC (x ++ List.replicate 20 (mkK i)))[k] = (mkK i).val := fun k h => by
      have e : x ++ List.replicate 20 (mkK i) = List.replicate (x.length + 20) (mkK i) := by
       rw [← List.replicate_append_replicate, ← hxr]
      rw [cel_get]; simp only [e, List.getElem_replicate]
     have hx' : ∀ (k : Nat) (h : k < (CC x).length), (CC x)[k] = (mkK i).val := fun k h => by
      rw [cel_get]
      have h' : k < x.length := by rw [CC_len] at h; exact h
      have : x[k]? = some (mkK i) := by rw [hxr, List.getElem?_replicate, if_pos h']
      rw [List.getElem?_eq_getElem h'] at this
      rw [Option.some.inj this]
     have en : eqsV [.i, .s, .i, .i, .i] (.agg (mkK i).cs) (.agg (mkK i).cs) = some true := by
      have := Cel.eqs (mkK i) (mkK i)
      rw [decide_eq_true rfl] at this; exact this
     simp -dsimp only [↓WPd, ↓wpC_block, ↓wpC_cond, WPu, Bool.false_eq_true, Bool.true_eq_false, Bool.not_true, Bool.not_false, if_true, if_false, ite_true, ite_false, Nat.reduceEqDiff, Nat.reduceLT, true_and, List.map_cons, List.map_nil, Nat.zero_add, Nat.reduceBEq]
     refine loop_rule (fun m vs σ'' => ∃ k : Nat, k ≤ (x ++ List.replicate 20 (mkK i)).length ∧ m = (x ++ List.replicate 20 (mkK i)).length - k ∧ vs = [.ptr id 0, a, .int .i64 i, .int .i64 k] ∧ σ'' = σ') (x ++ List.replicate 20 (mkK i)).length ⟨0, Nat.zero_le _, rfl, ?_, rfl⟩ ?_
     ·simp -dsimp only [↓WPd, ↓wpC_block, ↓wpC_cond, WPu, Bool.false_eq_true, Bool.true_eq_false, Bool.not_true, Bool.not_false, if_true, if_false, ite_true, ite_false, Nat.reduceEqDiff, Nat.reduceLT, true_and, List.map_cons, List.map_nil, Nat.zero_add, Nat.reduceBEq]; rfl
     ·rintro m vs σ'' ⟨k, hk1, rfl, rfl, rfl⟩
      simp -dsimp only [↓WPd, ↓wpC_block, ↓wpC_cond, WPu, Bool.false_eq_true, Bool.true_eq_false, Bool.not_true, Bool.not_false, if_true, if_false, ite_true, ite_false, Nat.reduceEqDiff, Nat.reduceLT, true_and, List.map_cons, List.map_nil, Nat.zero_add, Nat.reduceBEq, a1, a2, lg]
      have hzl : (x ++ List.replicate 20 (mkK i)).length < 2 ^ 40 := by simp; omega
      refine condP_dec (fun hc => ?_) (fun hc => ?_)
      ·have hkz : k < (CC (x ++ List.replicate 20 (mkK i))).length := by rw [CC_len]; omega
       have lz : loadV σ'' 5 true (addrOf 5 g k) = some (.agg (mkK i).cs) := sg.loadA hkz (cs := (mkK i).cs) (by rw [hz]; rfl)
       simp -dsimp only [↓WPd, ↓wpC_block, ↓wpC_cond, WPu, Bool.false_eq_true, Bool.true_eq_false, Bool.not_true, Bool.not_false, if_true, if_false, ite_true, ite_false, Nat.reduceEqDiff, Nat.reduceLT, true_and, List.map_cons, List.map_nil, Nat.zero_add, Nat.reduceBEq, a1, a2, sg.iaddr hkz, lz, m1, m2, m3, en]
       refine ⟨(x ++ List.replicate 20 (mkK i)).length - (k + 1), by omega, k + 1, by omega, rfl, ?_⟩
       exact ⟨by rw [wrap_i64 (by omega) (by omega), Int.natCast_add, Int.natCast_one], trivial⟩
      ·simp -dsimp only [↓WPd, ↓wpC_block, ↓wpC_cond, WPu, Bool.false_eq_true, Bool.true_eq_false, Bool.not_true, Bool.not_false, if_true, if_false, ite_true, ite_false, Nat.reduceEqDiff, Nat.reduceLT, true_and, List.map_cons, List.map_nil, Nat.zero_add, Nat.reduceBEq]
       refine loop_rule (fun m vs σ3 => ∃ k : Nat, k ≤ x.length ∧ m = x.length - k ∧ vs = [.ptr id 0, a, .int .i64 i, .int .i64 k] ∧ σ3 = σ'') x.length ⟨0, Nat.zero_le _, rfl, ?_, rfl⟩ ?_
       ·simp -dsimp only [↓WPd, ↓wpC_block, ↓wpC_cond, WPu, Bool.false_eq_true, Bool.true_eq_false, Bool.not_true, Bool.not_false, if_true, if_false, ite_true, ite_false, Nat.reduceEqDiff, Nat.reduceLT, true_and, List.map_cons, List.map_nil, Nat.zero_add, Nat.reduceBEq]; rfl
       ·rintro m vs σ3 ⟨k2, hk2', rfl, rfl, rfl⟩
        simp -dsimp only [↓WPd, ↓wpC_block, ↓wpC_cond, WPu, Bool.false_eq_true, Bool.true_eq_false, Bool.not_true, Bool.not_false, if_true, if_false, ite_true, ite_false, Nat.reduceEqDiff, Nat.reduceLT, true_and, List.map_cons, List.map_nil, Nat.zero_add, Nat.reduceBEq, faddr_ptr, load_cells p1, List.getElem?_cons_zero, List.getElem?_cons_succ, e1, e2, le]
        refine condP_dec (fun hc => ?_) (fun hc => ?_)
        ·have hkx : k2 < (CC x).length := by rw [CC_len]; omega
         have lx : loadV σ3 5 true (addrOf 5 e k2) = some (.agg (mkK i).cs) := se.loadA hkx (cs := (mkK i).cs) (by rw [hx']; rfl)
         simp -dsimp only [↓WPd, ↓wpC_block, ↓wpC_cond, WPu, Bool.false_eq_true, Bool.true_eq_false, Bool.not_true, Bool.not_false, if_true, if_false, ite_true, ite_false, Nat.reduceEqDiff, Nat.reduceLT, true_and, List.map_cons, List.map_nil, Nat.zero_add, Nat.reduceBEq, faddr_ptr, load_cells p1, List.getElem?_cons_zero, List.getElem?_cons_succ, e1, e2, se.iaddr hkx, lx, m1, m2, m3, en]
         refine ⟨x.length - (k2 + 1), by omega, k2 + 1, by omega, rfl, ?_⟩
         exact ⟨by rw [wrap_i64 (by omega) (by omega), Int.natCast_add, Int.natCast_one], trivial⟩
        ·simp -dsimp only [↓WPd, ↓wpC_block, ↓wpC_cond, WPu, Bool.false_eq_true, Bool.true_eq_false, Bool.not_true, Bool.not_false, if_true, if_false, ite_true, ite_false, Nat.reduceEqDiff, Nat.reduceLT, true_and, List.map_cons, List.map_nil, Nat.zero_add, Nat.reduceBEq]
         refine ⟨qs.length - (i + 1), by omega, i + 1, by omega, rfl, ?_⟩
         exact ⟨by rw [wrap_i64 (by omega) (by omega), Int.natCast_add, Int.natCast_one], trivial⟩
    ·simp -dsimp only [↓WPd, ↓wpC_block, ↓wpC_cond, WPu, Bool.false_eq_true, Bool.true_eq_false, Bool.not_true, Bool.not_false, if_true, if_false, ite_true, ite_false, Nat.reduceEqDiff, Nat.reduceLT, true_and, List.map_cons, List.map_nil, Nat.zero_add, Nat.reduceBEq]
     exact ⟨p1, p8⟩
theorem store5 {σ : Store} {id : Nat} {cs : List AVal} (h : σ[id]? = some (.cells cs)) (hl : cs.length = 5) : storeV σ 5 (.ptr id 0) (.agg [.nilslice, .nilslice, .nilslice, .nilslice, .nilslice]) = some (σ.set id (.cells [.nilslice, .nilslice, .nilslice, .nilslice, .nilslice])) := by
 have e : splice cs 0 [.nilslice, .nilslice, .nilslice, .nilslice, .nilslice] = [.nilslice, .nilslice, .nilslice, .nilslice, .nilslice] := by
  simp only [splice, List.take_zero, List.nil_append, List.length_cons, List.length_nil]
  rw [List.drop_eq_nil_of_le (by omega), List.append_nil]
 have e1 : (AVal.agg [.nilslice, .nilslice, .nilslice, .nilslice, .nilslice]).cells = [.nilslice, .nilslice, .nilslice, .nilslice, .nilslice] := rfl
 simp only [storeV, e1, h, e]
 rw [if_pos ⟨rfl, rfl⟩, if_pos (by omega)]
end
end Go.Proofs.YtelpjaejmneplaaGreatDoor.Am
