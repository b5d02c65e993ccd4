/-
  The abstract machine and the functions of the law, 5: texts put together.
-/
import Derived.Test.YtkjnanfkclijcaaDoorHeapOwnPkD
import Derived.Test.YtkjnanfkclijcaaDoorHeapOwnPkC
namespace Go.Proofs.YtkjnanfkclijcaaDoor.Am
open Go
set_option linter.unusedVariables false
set_option linter.unusedSimpArgs false
set_option linter.unusedSectionVars false
set_option maxRecDepth 100000
theorem nm_putB (σ : Store) (v : Nm) : storeV (σ ++ [AObj.cells [.int .i64 0, .int .i64 0]]) 2 (.ptr σ.length 0) (nmV v) = some (σ ++ [AObj.cells (nmC v)]) := by
  have h : (σ ++ [AObj.cells [.int .i64 0, .int .i64 0]])[σ.length]? = some (.cells [.int .i64 0, .int .i64 0]) := by simp
  rw [nm_agg, storeN_cells (cs' := nmC v) (n := 2) h rfl rfl rfl, set_last]
theorem HeapP.look1 {σ : Store} {id mid : Nat} {vs : List AVal} {H : Hp} (h : HeapP σ id mid vs H) (v : Nm) :
    ∃ u, lookupV σ true [.i, .i] .nilslice (.map mid) (nmV v) false = some u ∧ Told u ((lk H v).getD []) := by
  obtain ⟨o, h1, h2⟩ := find_nm v H
  have hk : keyEq true [.i, .i] (nmV v) (nmV v) = some true := by rw [nm_keyEq, decide_eq_true rfl]
  have hf : findKK true [.i, .i] (nmV v) (H.map fun p => nmV p.1) = some o := by simp only [findKK, hk, Option.isSome_some, if_true, h1]
  have hm : mapOf σ (.map mid) = some (H.map fun p => nmV p.1, vs) := by simp only [mapOf, h.map]
  cases o with
  | none =>
    refine ⟨.nilslice, ?_, ?_⟩
    · simp only [lookupV, hm, hf]; rfl
    · rw [h2]; exact Told.nil
  | some i =>
    obtain ⟨p, p1, p2, p3⟩ := h2
    obtain ⟨hi, hpe⟩ := List.getElem?_eq_some_iff.1 p1
    obtain ⟨u, u1, u2⟩ := h.vals.get hi
    refine ⟨u, ?_, ?_⟩
    · simp only [lookupV, hm, hf, u1, Option.map_some]; rfl
    · rw [p3]; rw [hpe] at u2; exact u2
def bdVs (R : Hp) (us : List AVal) : List AVal := List.zipWith (fun p u => bdV p.1 u) R us
abbrev BRows (σ : Store) (lo : Nat) (l : AVal) (us : List AVal) (R : Hp) : Prop := XRows σ lo 3 5 l (bdVs R us) us (R.map fun p => CC p.2)
section
variable (d : Nat) (σ : Store)
theorem mkeys_ok (m : AVal) (hm : m.one = true) : Called CU.cfg d 98 [m] σ fun r σ' => r = .func 143 [] [.ptr σ.length 0] ∧ σ' = σ ++ [.cells [m]] := by
  refine called_of (fn := CU.a98) rfl (Nat.le_of_ble_eq_true rfl) ?_
  simp only [CU.a98]
  have hc : m.cells = [m] := by cases m <;> simp_all [AVal.one]
  have h1 : [m].all AVal.one = true := by simp only [List.all_cons, List.all_nil, hm]; rfl
  simp -dsimp only [↓WPd, ↓wpC_block, ↓wpC_cond, WPu, Bool.false_eq_true, Bool.true_eq_false, Bool.not_true, Bool.not_false, if_true, if_false, ite_true, ite_false, Nat.reduceEqDiff, Nat.reduceLT, true_and, List.map_cons, List.map_nil, Nat.zero_add, Nat.reduceBEq, hc, h1]
theorem sorted_ok (i mid : Nat) (ns : List Nm) (vs : List AVal) (h1 : σ[i]? = some (.cells [.map mid])) (h2 : σ[mid]? = some (.map (ns.map nmV) vs)) (hn : ns.length ≤ 8796093022208) :
    Called CU.cfg d 97 [.func 143 [] [.ptr i 0], .func 99 [] []] σ fun r σ' => SlOf σ' 2 r ((sortN ns).map nmV) ∧ Grows σ σ' := by
  have hk : keysOf σ (.map mid) = some (ns.map nmV) := by simp only [keysOf, h2]
  have he : natSF 143 99 [.func 143 [] [.ptr i 0], .func 99 [] []] σ = some (match ns with | [] => (.nilslice, σ) | _ => (.slice 2 σ.length 0 0 ns.length none, σ ++ [.arr 2 ((sortN ns).map nmV) 0 0])) := by
    simp only [natSF, and_self, if_true, h1, hk, nmsOf_map, if_pos hn]
    cases ns <;> rfl
  cases ns with
  | nil => exact called_nat rfl he ⟨SlOf.nil _ _, Keeps.refl _ _⟩
  | cons x r =>
    refine called_nat rfl he ⟨?_, Grows.app _ _⟩
    have hl : ((sortN (x :: r)).map nmV).length = (x :: r).length := by rw [List.length_map, sortN_len]
    refine ⟨?_, ?_, fun s id ep off len c h => by cases h⟩
    · have e : ((sortN (x :: r)).map nmV).take (x :: r).length = (sortN (x :: r)).map nmV := List.take_of_length_le (by omega)
      simp only [List.length_cons] at e
      simp [elems, hl, e]
    · simp [lenSV, hl]
set_option maxHeartbeats 1000000 in
theorem bindings_ok (id mid : Nat) (vs : List AVal) (H R : Hp) (h : HeapP σ id mid vs H) (hs : Same H R) (hn : R.length < 2 ^ 30) (hsm : ∀ p ∈ R, p.2.length < 2 ^ 30) :
    Called CU.cfg d 36 [.ptr id 0] σ fun l σ' => Grows σ σ' ∧ ∃ us, BRows σ' σ.length l us R := by
  refine called_of (fn := CU.a36) rfl (Nat.le_of_ble_eq_true rfl) ?_
  simp only [CU.a36]
  have e1 : ([AVal.map mid] : List AVal)[0]? = some (.map mid) := rfl
  simp -dsimp only [↓WPd, ↓wpC_block, ↓wpC_cond, WPu, Bool.false_eq_true, Bool.true_eq_false, Bool.not_true, Bool.not_false, if_true, if_false, ite_true, ite_false, Nat.reduceEqDiff, Nat.reduceLT, true_and, List.map_cons, List.map_nil, Nat.zero_add, Nat.reduceBEq, isnil_ptr, faddr_ptr, Nat.add_zero, load_cells h.obj, e1]
  refine calledW_of (mkeys_ok d σ (.map mid) rfl) ?_
  rintro r σ1 ⟨rfl, rfl⟩
  have g1 : Grows σ (σ ++ [AObj.cells [.map mid]]) := Grows.app _ _
  have ho : (σ ++ [AObj.cells [.map mid]])[σ.length]? = some (.cells [.map mid]) := by simp
  have h1 := h.grow g1
  generalize σ ++ [AObj.cells [.map mid]] = σ1 at g1 ho h1
  simp -dsimp only [↓WPd, ↓wpC_block, ↓wpC_cond, WPu, Bool.false_eq_true, Bool.true_eq_false, Bool.not_true, Bool.not_false, if_true, if_false, ite_true, ite_false, Nat.reduceEqDiff, Nat.reduceLT, true_and, List.map_cons, List.map_nil, Nat.zero_add, Nat.reduceBEq]
  have hm := h1.map
  have em : (H.map fun p => nmV p.1) = (H.map (·.1)).map nmV := by rw [List.map_map]; rfl
  rw [em] at hm
  have hHR := hs.perm.length_eq
  refine calledW_of (sorted_ok d σ1 σ.length mid (H.map (·.1)) vs ho hm (by rw [List.length_map]; omega)) ?_
  rintro r σ2 ⟨hr, g2⟩
  rw [hs.sort] at hr
  have g02 := g1.trans g2
  have h2 := h1.grow g2
  have lr : lenSV r = some R.length := by rw [hr.len]; simp
  simp -dsimp only [↓WPd, ↓wpC_block, ↓wpC_cond, WPu, Bool.false_eq_true, Bool.true_eq_false, Bool.not_true, Bool.not_false, if_true, if_false, ite_true, ite_false, Nat.reduceEqDiff, Nat.reduceLT, true_and, List.map_cons, List.map_nil, Nat.zero_add, Nat.reduceBEq, lr]
  refine loop_rule2 (fun m vs' σ' => ∃ (k : Nat) (l : AVal) (us : List AVal), k ≤ R.length ∧ m = R.length - k ∧ vs' = [.ptr id 0, l, r, .int .i64 R.length, .int .i64 (k : Nat)] ∧ Grows σ σ' ∧ Grows σ2 σ' ∧ BRows σ' σ2.length l us (R.take k))
    [3] (fun e vs' σ' => e = .exit 0 ∧ ∃ (l : AVal) (us : List AVal), vs' = [l] ∧ Grows σ σ' ∧ BRows σ' σ2.length l us R) R.length
    ⟨0, .nilslice, [], Nat.zero_le _, rfl, ?_, g02, Keeps.refl _ _, XRows.nil _ _ _ _⟩ ?_ ?_
  · simp -dsimp only [↓WPd, ↓wpC_block, ↓wpC_cond, WPu, Bool.false_eq_true, Bool.true_eq_false, Bool.not_true, Bool.not_false, if_true, if_false, ite_true, ite_false, Nat.reduceEqDiff, Nat.reduceLT, true_and, List.map_cons, List.map_nil, Nat.zero_add, Nat.reduceBEq]; rfl
  · rintro m vs' σ' ⟨k, l, us, hk, rfl, rfl, g, g', hx⟩
    simp -dsimp only [↓WPd, ↓wpC_block, ↓wpC_cond, WPu, Bool.false_eq_true, Bool.true_eq_false, Bool.not_true, Bool.not_false, if_true, if_false, ite_true, ite_false, Nat.reduceEqDiff, Nat.reduceLT, true_and, List.map_cons, List.map_nil, Nat.zero_add, Nat.reduceBEq]
    refine condP_dec (fun hc => ?_) (fun hc => ?_)
    · have hk' : k < R.length := by omega
      have hr' := hr.grow g'
      have hke : k < ((R.map (·.1)).map nmV).length := by simpa using hk'
      have ia : iaddrV 2 r (.int .i64 k) = some (addrOf 2 r k) := hr'.iaddr hke .i64
      have hb := (hr'.addr hke .i64).2
      have hb' : behind σ' (addrOf 2 r k) = some (nmC R[k].1, 0) := by
        rw [hb]; simp only [List.getElem_map, nm_cells]
      have ld : loadV σ' 2 true (addrOf 2 r k) = some (nmV R[k].1) := loadN_at hb' (by simp [nmC])
      have ho' : (σ' ++ [AObj.cells (nmC R[k].1)])[σ'.length]? = some (.cells (nmC R[k].1)) := by simp
      have g3 : Grows σ' (σ' ++ [AObj.cells (nmC R[k].1)]) := Grows.app _ _
      simp -dsimp only [↓WPd, ↓wpC_block, ↓wpC_cond, WPu, Bool.false_eq_true, Bool.true_eq_false, Bool.not_true, Bool.not_false, if_true, if_false, ite_true, ite_false, Nat.reduceEqDiff, Nat.reduceLT, true_and, List.map_cons, List.map_nil, Nat.zero_add, Nat.reduceBEq, ia, ld, nm_putB]
      have h3 := (h2.grow g').grow g3
      have hx3 := hx.grow g3
      have g03 := g.trans g3
      have g23 := g'.trans g3
      have hl3 : σ2.length ≤ (σ' ++ [AObj.cells (nmC R[k].1)]).length := g23.1
      generalize σ' ++ [AObj.cells (nmC R[k].1)] = σ3 at ho' g3 h3 hx3 g03 g23 hl3
      obtain ⟨t, u1, u2⟩ := h3.look1 R[k].1
      have hlk : (lk H R[k].1).getD [] = R[k].2 := by
        rw [lk_of_mem hs.wf.keys (t := R[k].2) (hs.perm.mem_iff.2 (show (R[k].1, R[k].2) ∈ R from List.getElem_mem hk'))]; rfl
      rw [hlk] at u2
      refine drawnP_of rfl ?_
      simp -dsimp only [↓WPd, ↓wpC_block, ↓wpC_cond, WPu, Bool.false_eq_true, Bool.true_eq_false, Bool.not_true, Bool.not_false, if_true, if_false, ite_true, ite_false, Nat.reduceEqDiff, Nat.reduceLT, true_and, List.map_cons, List.map_nil, Nat.zero_add, Nat.reduceBEq, ↓WPed, WPeu, Nat.reduceAdd, and_self, load_nm ho', isnil_ptr, faddr_ptr, Nat.add_zero, load_cells h3.obj, e1, u1]
      refine calledW_of (cclone_ok d σ3 t R[k].2 (hsm _ (List.getElem_mem hk')) (u2 σ3)) ?_
      rintro u σ4 ⟨g4, ou, fu, nu⟩
      obtain ⟨l', σ5, a1, a2, a3⟩ := hx3.push hl3 g4 (x := bdV R[k].1 u) ou (fu.le (Nat.le_refl _)) nu 40 (by have := hx3.lex; have := hx3.len; simp only [List.length_map, List.length_take] at this; omega)
      have fl := elems_fs 3 (AVal.tagL [bdV R[k].1 u]) true σ4 [bdV R[k].1 u]
      simp -dsimp only [↓WPd, ↓wpC_block, ↓wpC_cond, WPu, Bool.false_eq_true, Bool.true_eq_false, Bool.not_true, Bool.not_false, if_true, if_false, ite_true, ite_false, Nat.reduceEqDiff, Nat.reduceLT, true_and, List.map_cons, List.map_nil, Nat.zero_add, Nat.reduceBEq, ↓WPed, WPeu, Nat.reduceAdd, and_self, load_nm ho', load_nm (g4.get ho'), isnil_ptr, faddr_ptr, Nat.add_zero, bd_build R[k].1 u ou.one, bd_lit R[k].1 u ou.one, fl, a1]
      have ht : R.take (k + 1) = R.take k ++ [R[k]] := List.take_succ_eq_append_getElem hk'
      have hul : us.length = (R.take k).length := by have := hx3.len; simpa using this
      have hbd : bdVs (R.take (k + 1)) (us ++ [u]) = bdVs (R.take k) us ++ [bdV R[k].1 u] := by
        rw [ht]; unfold bdVs
        rw [List.zipWith_append hul.symm]; rfl
      refine ⟨R.length - (k + 1), by omega, k + 1, l', us ++ [u], by omega, rfl, by rw [wrap_i64 (by omega) (by omega), Int.natCast_add, Int.natCast_one], ?_, ?_, ?_⟩
      · exact Keeps.trans (g03.trans g4) a3 fun i hi e => by have := g02.1; omega
      · exact Keeps.trans (g23.trans g4) a3 fun i hi e => by omega
      · rw [BRows, hbd, ht, List.map_append]; exact a2
    · have : k = R.length := by omega
      subst this
      rw [List.take_length] at hx
      simp -dsimp only [↓WPd, ↓wpC_block, ↓wpC_cond, WPu, Bool.false_eq_true, Bool.true_eq_false, Bool.not_true, Bool.not_false, if_true, if_false, ite_true, ite_false, Nat.reduceEqDiff, Nat.reduceLT, true_and, List.map_cons, List.map_nil, Nat.zero_add, Nat.reduceBEq]
      exact ⟨l, us, rfl, g, hx⟩
  · rintro e σ' env ⟨rfl, l, us, hv, g, hx⟩
    simp only [List.map_cons, List.map_nil, List.cons.injEq, and_true] at hv
    simp -dsimp only [↓WPd, ↓wpC_block, ↓wpC_cond, WPu, Bool.false_eq_true, Bool.true_eq_false, Bool.not_true, Bool.not_false, if_true, if_false, ite_true, ite_false, Nat.reduceEqDiff, Nat.reduceLT, true_and, List.map_cons, List.map_nil, Nat.zero_add, Nat.reduceBEq, hv]
    exact ⟨g, us, hx.lo g02.1⟩
end
end Go.Proofs.YtkjnanfkclijcaaDoor.Am

namespace Go.Proofs.YtkjnanfkclijcaaDoor.Am
open Go
set_option linter.unusedVariables false
set_option linter.unusedSimpArgs false
set_option linter.unusedSectionVars false
set_option maxRecDepth 100000
def BdSl (σ : Store) (v : AVal) (R : Hp) : Prop := ∃ es, SlOf σ 3 v es ∧ Two (fun e p => ∃ u, e = bdV p.1 u ∧ SlOf σ 5 u (CC p.2)) es R
theorem BdSl.grow {σ σ' : Store} {v : AVal} {R : Hp} (h : BdSl σ v R) (g : Grows σ σ') : BdSl σ' v R := by
  obtain ⟨es, h1, h2⟩ := h
  exact ⟨es, h1.grow g, h2.mono fun e p ⟨u, hu, hs⟩ => ⟨u, hu, hs.grow g⟩⟩
theorem BdSl.len {σ : Store} {v : AVal} {R : Hp} (h : BdSl σ v R) : lenSV v = some R.length := by
  obtain ⟨es, h1, h2⟩ := h
  rw [← h2.len]; exact h1.len
theorem BdSl.at {σ : Store} {v : AVal} {R : Hp} (h : BdSl σ v R) {k : Nat} (hk : k < R.length) : ∃ q0 q2 u, iaddrV 3 v (.int .i64 k) = some (addrOf 3 v k) ∧ faddrV 0 (addrOf 3 v k) = some q0 ∧ loadV σ 2 true q0 = some (nmV R[k].1) ∧ faddrV 2 (addrOf 3 v k) = some q2 ∧ loadV σ 1 false q2 = some u ∧ SlOf σ 5 u (CC R[k].2) := by
  obtain ⟨es, h1, h2⟩ := h
  have hke : k < es.length := by rw [h2.len]; exact hk
  obtain ⟨e, he1, u, he2, he3⟩ := h2.get hk
  have hee : es[k] = e := by rw [List.getElem?_eq_getElem hke] at he1; exact Option.some.inj he1
  have hb := (h1.addr hke .i64).2
  rw [hee, he2] at hb
  have hb' : behind σ (addrOf 3 v k) = some (bdC (R[k]).1 u, 0) := hb
  obtain ⟨q0, p0, b0⟩ := faddr_at hb' 0
  obtain ⟨q2, p2, b2⟩ := faddr_at hb' 2
  exact ⟨q0, q2, u, h1.iaddr hke .i64, p0, loadN_at b0 (by simp [bdC]), p2, load_at b2, he3⟩
theorem RefP.bds {σ : Store} {A : Nat → Prop} {id : Nat} {R : Hp} (h : RefP σ A id R) : ∃ w, σ[id]? = some (.cells [w]) ∧ BdSl σ w R := by
  obtain ⟨w, es, h1, h2, _, h4⟩ := h
  exact ⟨w, h1, es, h2, h4.mono fun e p ⟨u, hu, hs, _⟩ => ⟨u, hu, hs⟩⟩
theorem bdVs_get {R : Hp} {us : List AVal} (h : us.length = R.length) {k : Nat} (hk : k < R.length) : (bdVs R us)[k]? = some (bdV R[k].1 (us[k]'(by omega))) := by
  unfold bdVs
  rw [List.getElem?_zipWith, List.getElem?_eq_getElem hk, List.getElem?_eq_getElem (by omega)]
theorem BRows.bds {σ : Store} {lo : Nat} {l : AVal} {us : List AVal} {R : Hp} (h : BRows σ lo l us R) : BdSl σ l R := by
  have hl : us.length = R.length := by have := h.len; simpa using this
  refine ⟨_, h.row.sl, Two.of_get (by rw [h.lex]; exact hl) fun i a b hi hj => ?_⟩
  obtain ⟨hk, rfl⟩ := List.getElem?_eq_some_iff.1 hj
  have e := bdVs_get hl hk
  rw [hi] at e
  exact ⟨us[i]'(by omega), Option.some.inj e, (h.one i (us[i]'(by omega)) (CC R[i].2) (List.getElem?_eq_getElem _) (by simp [hk])).sl⟩
section
variable (d : Nat) (σ : Store)
theorem hvalue_ok (hv : AVal) (H : Hp) (v : Nm) (h : HeapV σ hv H) (hs : ((lk H v).getD []).length < 2 ^ 30) : Called CU.cfg d 38 [hv, nmV v] σ fun r σ' => ∃ u, r = .tuple [u, .bool (lk H v).isSome] ∧ Own σ' 5 u (CC ((lk H v).getD [])) ∧ Fresh σ.length u ∧ NoLit u ∧ Grows σ σ' := by
  refine called_of (fn := CU.a38) rfl (Nat.le_of_ble_eq_true rfl) ?_
  simp only [CU.a38]
  simp -dsimp only [↓WPd, ↓wpC_block, ↓wpC_cond, WPu, Bool.false_eq_true, Bool.true_eq_false, Bool.not_true, Bool.not_false, if_true, if_false, ite_true, ite_false, Nat.reduceEqDiff, Nat.reduceLT, true_and, List.map_cons, List.map_nil, Nat.zero_add, Nat.reduceBEq, nm_cells, nm_one]
  have ho : (σ ++ [AObj.cells (nmC v)])[σ.length]? = some (.cells (nmC v)) := by simp
  have g0 : Grows σ (σ ++ [AObj.cells (nmC v)]) := Grows.app _ _
  have h1 := h.grow g0
  generalize σ ++ [AObj.cells (nmC v)] = σ1 at ho g0 h1
  simp -dsimp only [↓WPd, ↓wpC_block, ↓wpC_cond, WPu, Bool.false_eq_true, Bool.true_eq_false, Bool.not_true, Bool.not_false, if_true, if_false, ite_true, ite_false, Nat.reduceEqDiff, Nat.reduceLT, true_and, List.map_cons, List.map_nil, Nat.zero_add, Nat.reduceBEq, load_nm ho]
  refine calledW_of (value_ok d σ1 hv H v h1) ?_
  rintro r σ2 ⟨u, rfl, hu, g2⟩
  simp -dsimp only [↓WPd, ↓wpC_block, ↓wpC_cond, WPu, Bool.false_eq_true, Bool.true_eq_false, Bool.not_true, Bool.not_false, if_true, if_false, ite_true, ite_false, Nat.reduceEqDiff, Nat.reduceLT, true_and, List.map_cons, List.map_nil, Nat.zero_add, Nat.reduceBEq, List.getElem?_cons_zero, List.getElem?_cons_succ]
  refine calledW_of (cclone_ok d σ2 u _ hs (hu σ2)) ?_
  rintro w σ3 ⟨g3, ow, fw, nw⟩
  simp -dsimp only [↓WPd, ↓wpC_block, ↓wpC_cond, WPu, Bool.false_eq_true, Bool.true_eq_false, Bool.not_true, Bool.not_false, if_true, if_false, ite_true, ite_false, Nat.reduceEqDiff, Nat.reduceLT, true_and, List.map_cons, List.map_nil, Nat.zero_add, Nat.reduceBEq]
  exact ⟨w, rfl, ow, fw.le (g0.trans g2).1, nw, (g0.trans g2).trans g3⟩
theorem samebd_ok (a b : AVal) (R : Hp) (ha : BdSl σ a R) (hb : BdSl σ b R) (hR : R.length < 2 ^ 40) (hs : ∀ p ∈ R, p.2.length < 2 ^ 40) : Called CU.cfg d 42 [a, b] σ fun v σ' => v = .bool true ∧ Grows σ σ' := by
  refine called_of (fn := CU.a42) rfl (Nat.le_of_ble_eq_true rfl) ?_
  simp only [CU.a42]
  have la := ha.len
  have lb := hb.len
  have e0 : ((R.length : Int) != (R.length : Int)) = false := by simp
  simp -dsimp only [↓WPd, ↓wpC_block, ↓wpC_cond, WPu, Bool.false_eq_true, Bool.true_eq_false, Bool.not_true, Bool.not_false, if_true, if_false, ite_true, ite_false, Nat.reduceEqDiff, Nat.reduceLT, true_and, List.map_cons, List.map_nil, Nat.zero_add, Nat.reduceBEq, la, lb, e0]
  refine loop_rule2 (fun m vs σ' => ∃ k, k ≤ R.length ∧ m = R.length - k ∧ vs = [a, b, .int .i64 (k : Nat)] ∧ Grows σ σ')
    [] (fun e vs σ' => e = .exit 0 ∧ Grows σ σ') R.length ⟨0, Nat.zero_le _, rfl, ?_, Keeps.refl _ _⟩ ?_ ?_
  · simp -dsimp only [↓WPd, ↓wpC_block, ↓wpC_cond, WPu, Bool.false_eq_true, Bool.true_eq_false, Bool.not_true, Bool.not_false, if_true, if_false, ite_true, ite_false, Nat.reduceEqDiff, Nat.reduceLT, true_and, List.map_cons, List.map_nil, Nat.zero_add, Nat.reduceBEq]; rfl
  · rintro m vs σ' ⟨k, hk, rfl, rfl, g⟩
    simp -dsimp only [↓WPd, ↓wpC_block, ↓wpC_cond, WPu, Bool.false_eq_true, Bool.true_eq_false, Bool.not_true, Bool.not_false, if_true, if_false, ite_true, ite_false, Nat.reduceEqDiff, Nat.reduceLT, true_and, List.map_cons, List.map_nil, Nat.zero_add, Nat.reduceBEq, la]
    refine condP_dec (fun hc => ?_) (fun hc => ?_)
    · have hk' : k < R.length := by omega
      obtain ⟨q0, q2, u, a1, a2, a3, a4, a5, a6⟩ := (ha.grow g).at hk'
      obtain ⟨q0', q2', u', b1, b2, b3, b4, b5, b6⟩ := (hb.grow g).at hk'
      have en := nm_eqs R[k].1 R[k].1
      rw [decide_eq_true rfl] at en
      simp -dsimp only [↓WPd, ↓wpC_block, ↓wpC_cond, WPu, Bool.false_eq_true, Bool.true_eq_false, Bool.not_true, Bool.not_false, if_true, if_false, ite_true, ite_false, Nat.reduceEqDiff, Nat.reduceLT, true_and, List.map_cons, List.map_nil, Nat.zero_add, Nat.reduceBEq, WPm, a1, a2, a3, a4, a5, b1, b2, b3, b4, b5, en]
      refine calledW_of (cequal_ok d σ' u u' R[k].2 R[k].2 (hs _ (List.getElem_mem hk')) a6 b6) ?_
      rintro r σ2 ⟨rfl, rfl⟩
      simp -dsimp only [↓WPd, ↓wpC_block, ↓wpC_cond, WPu, Bool.false_eq_true, Bool.true_eq_false, Bool.not_true, Bool.not_false, if_true, if_false, ite_true, ite_false, Nat.reduceEqDiff, Nat.reduceLT, true_and, List.map_cons, List.map_nil, Nat.zero_add, Nat.reduceBEq, decide_true]
      refine ⟨R.length - (k + 1), by omega, k + 1, by omega, rfl, by rw [wrap_i64 (by omega) (by omega), Int.natCast_add, Int.natCast_one], g⟩
    · simp -dsimp only [↓WPd, ↓wpC_block, ↓wpC_cond, WPu, Bool.false_eq_true, Bool.true_eq_false, Bool.not_true, Bool.not_false, if_true, if_false, ite_true, ite_false, Nat.reduceEqDiff, Nat.reduceLT, true_and, List.map_cons, List.map_nil, Nat.zero_add, Nat.reduceBEq]
      exact g
  · rintro e σ' env ⟨rfl, g⟩
    simp -dsimp only [↓WPd, ↓wpC_block, ↓wpC_cond, WPu, Bool.false_eq_true, Bool.true_eq_false, Bool.not_true, Bool.not_false, if_true, if_false, ite_true, ite_false, Nat.reduceEqDiff, Nat.reduceLT, true_and, List.map_cons, List.map_nil, Nat.zero_add, Nat.reduceBEq]
    exact g
set_option maxHeartbeats 1000000 in
theorem hchain_ok (hv tv : AVal) (H : Hp) (t : List Cel) (h : HeapV σ hv H) (hw : WF H) (hH : H.length < 2 ^ 30) (ht : SlOf σ 5 tv (CC t)) (hs : t.length < 2 ^ 30) :
    Called CU.cfg d 40 [hv, tv] σ fun r σ' => Grows σ σ' ∧ ∃ es, XRows σ' σ.length 1 5 r es es ((chain H t).map CC) := by
  refine called_of (fn := CU.a40) rfl (Nat.le_of_ble_eq_true rfl) ?_
  have ll := ht.len
  rw [List.length_map] at ll
  simp only [CU.a40]
  have k0 : ((t.length : Int) == 0) = decide (t = []) := by cases t <;> simp <;> omega
  simp -dsimp only [↓WPd, ↓wpC_block, ↓wpC_cond, WPu, Bool.false_eq_true, Bool.true_eq_false, Bool.not_true, Bool.not_false, if_true, if_false, ite_true, ite_false, Nat.reduceEqDiff, Nat.reduceLT, true_and, List.map_cons, List.map_nil, Nat.zero_add, Nat.reduceBEq, ll, k0]
  refine condP_dec (fun h0 => ?_) (fun h0 => ?_)
  · simp -dsimp only [↓WPd, ↓wpC_block, ↓wpC_cond, WPu, Bool.false_eq_true, Bool.true_eq_false, Bool.not_true, Bool.not_false, if_true, if_false, ite_true, ite_false, Nat.reduceEqDiff, Nat.reduceLT, true_and, List.map_cons, List.map_nil, Nat.zero_add, Nat.reduceBEq]
    rw [chain, if_pos h0]
    exact ⟨Keeps.refl _ _, [], XRows.nil _ _ _ _⟩
  · simp -dsimp only [↓WPd, ↓wpC_block, ↓wpC_cond, WPu, Bool.false_eq_true, Bool.true_eq_false, Bool.not_true, Bool.not_false, if_true, if_false, ite_true, ite_false, Nat.reduceEqDiff, Nat.reduceLT, true_and, List.map_cons, List.map_nil, Nat.zero_add, Nat.reduceBEq]
    refine calledW_of (cclone_ok d σ tv t hs ht) ?_
    rintro u0 σ1 ⟨g1, ou, fu, nu⟩
    have e1 : ∀ u : AVal, u.one = true → fillL 1 false (List.replicate 1 (zel [AVal.nilslice] false)) [(0, u)] = some [u] := fun u hu => by
      have hc : u.cells = [u] := by cases u <;> simp_all [AVal.one]
      have h1 : [u].all AVal.one = true := by simp only [List.all_cons, List.all_nil, hu]; rfl
      have h2 : isAggV u = false := by cases u <;> first | (cases hu; done) | rfl
      simp only [fillL, hc, h1, h2]
      rfl
    simp -dsimp only [↓WPd, ↓wpC_block, ↓wpC_cond, WPu, Bool.false_eq_true, Bool.true_eq_false, Bool.not_true, Bool.not_false, if_true, if_false, ite_true, ite_false, Nat.reduceEqDiff, Nat.reduceLT, true_and, List.map_cons, List.map_nil, Nat.zero_add, Nat.reduceBEq, e1 u0 ou.one]
    refine calledW_of (next_ok d σ1 hv tv H t (h.grow g1) (ht.grow g1)) ?_
    rintro r2 σ2 ⟨u, rfl, hu, g2⟩
    simp -dsimp only [↓WPd, ↓wpC_block, ↓wpC_cond, WPu, Bool.false_eq_true, Bool.true_eq_false, Bool.not_true, Bool.not_false, if_true, if_false, ite_true, ite_false, Nat.reduceEqDiff, Nat.reduceLT, true_and, List.map_cons, List.map_nil, Nat.zero_add, Nat.reduceBEq, List.getElem?_cons_zero, List.getElem?_cons_succ]
    have hcr := chain_rank hw h0
    have X0 : XRows σ2 σ.length 1 5 (.fslice (AVal.tagL [u0]) true 1 [u0]) [u0] [u0] ([t].map CC) := by
      have one : ∀ (i : Nat) (e : AVal), ([u0] : List AVal)[i]? = some e → i = 0 ∧ e = u0 := fun i e h => by
        rw [List.getElem?_singleton] at h
        split at h
        · injection h with h; exact ⟨by assumption, h.symm⟩
        · cases h
      refine ⟨Own.lit _ _ _ _, rfl, rfl, fun i e p h1 h2 => ?_, fun i e h1 => ?_, (fun i h => by cases h), fun i j e e' id h1 h2 _ _ => ?_, (fun i e id h1 h2 h3 => by cases h3), fun i e h1 => ?_⟩
      · obtain ⟨rfl, rfl⟩ := one i e h1
        injection h2 with h2; subst h2
        exact ou.grow g2
      · obtain ⟨rfl, rfl⟩ := one i e h1
        exact fu
      · obtain ⟨rfl, -⟩ := one i e h1
        obtain ⟨rfl, -⟩ := one j e' h2
        rfl
      · obtain ⟨rfl, rfl⟩ := one i e h1
        exact nu
    refine loop_rule2 (fun m vs σ' => ∃ (o y : AVal) (s : List Cel) (es : List AVal) (pre : List (List Cel)), m = rank H s ∧ vs = [hv, o, y, .bool (hnext H s).isSome] ∧ Grows σ σ' ∧ Told y ((hnext H s).getD []) ∧ XRows σ' σ.length 1 5 o es es ((pre ++ [s]).map CC) ∧ pre ++ chainF (rank H s) H s = chain H t)
      [5] (fun e vs σ' => e = .exit 0 ∧ ∃ (o : AVal) (es : List AVal), vs = [o] ∧ Grows σ σ' ∧ XRows σ' σ.length 1 5 o es es ((chain H t).map CC)) (rank H t)
      ⟨_, u, t, [u0], [], rfl, ?_, g1.trans g2, hu, X0, by rw [hcr]; rfl⟩ ?_ ?_
    · simp -dsimp only [↓WPd, ↓wpC_block, ↓wpC_cond, WPu, Bool.false_eq_true, Bool.true_eq_false, Bool.not_true, Bool.not_false, if_true, if_false, ite_true, ite_false, Nat.reduceEqDiff, Nat.reduceLT, true_and, List.map_cons, List.map_nil, Nat.zero_add, Nat.reduceBEq]
    · rintro m vs σ' ⟨o, y, s, es, pre, rfl, rfl, g, hy, hx, hch⟩
      cases hn : hnext H s with
      | none =>
        simp -dsimp only [↓WPd, ↓wpC_block, ↓wpC_cond, WPu, Bool.false_eq_true, Bool.true_eq_false, Bool.not_true, Bool.not_false, if_true, if_false, ite_true, ite_false, Nat.reduceEqDiff, Nat.reduceLT, true_and, List.map_cons, List.map_nil, Nat.zero_add, Nat.reduceBEq, hn, Option.isSome_none]
        rw [chainF_none hn] at hch
        rw [← hch]
        exact ⟨o, es, rfl, g, hx⟩
      | some s' =>
        rw [hn] at hy
        simp only [Option.getD_some] at hy
        have hgs : right s' = true := by
          have hn' := hn
          unfold hnext at hn'
          split at hn'
          · exact glob_right (hw.ok _ (lk_mem hn')).2.2.1
          · cases hn'
        have hs' : s'.length < 2 ^ 30 := (right_small hgs).1
        simp -dsimp only [↓WPd, ↓wpC_block, ↓wpC_cond, WPu, Bool.false_eq_true, Bool.true_eq_false, Bool.not_true, Bool.not_false, if_true, if_false, ite_true, ite_false, Nat.reduceEqDiff, Nat.reduceLT, true_and, List.map_cons, List.map_nil, Nat.zero_add, Nat.reduceBEq, hn, Option.isSome_some]
        refine calledW_of (cclone_ok d σ' y s' hs' (hy σ')) ?_
        rintro w σ3 ⟨g3, ow, fw, nw⟩
        have hlen : (pre ++ [s]).length = es.length := by have := hx.len; simpa using this.symm
        have hlc : (chain H t).length ≤ H.length + 2 := by rw [chain, if_neg h0]; exact chainF_len _ _ _
        have hpl : pre.length + 1 ≤ (chain H t).length := by
          have := congrArg List.length hch
          rw [chainF_step hw hn] at this
          simp only [List.length_append, List.length_cons] at this
          omega
        obtain ⟨o', σ4, a1, a2, a3⟩ := hx.push g.1 g3 (x := w) ow fw nw 24 (by simp at hlen; omega)
        have lit1 : ∀ (tg : Nat) (σ : Store) (x : AVal), elems 1 σ (.fslice tg true 1 [x]) = some [x] := fun tg σ x => elems_fs 1 tg true σ [x]
        simp -dsimp only [↓WPd, ↓wpC_block, ↓wpC_cond, WPu, Bool.false_eq_true, Bool.true_eq_false, Bool.not_true, Bool.not_false, if_true, if_false, ite_true, ite_false, Nat.reduceEqDiff, Nat.reduceLT, true_and, List.map_cons, List.map_nil, Nat.zero_add, Nat.reduceBEq, e1 w ow.one, lit1, a1]
        have g4 : Grows σ σ4 := Keeps.trans (g.trans g3) a3 fun i hi e => by omega
        refine calledW_of (next_ok d σ4 hv y H s' (h.grow g4) (hy σ4)) ?_
        rintro r5 σ5 ⟨u5, rfl, hu5, g5⟩
        simp -dsimp only [↓WPd, ↓wpC_block, ↓wpC_cond, WPu, Bool.false_eq_true, Bool.true_eq_false, Bool.not_true, Bool.not_false, if_true, if_false, ite_true, ite_false, Nat.reduceEqDiff, Nat.reduceLT, true_and, List.map_cons, List.map_nil, Nat.zero_add, Nat.reduceBEq, List.getElem?_cons_zero, List.getElem?_cons_succ]
        refine ⟨rank H s', rank_lt hw hn, o', u5, s', es ++ [w], pre ++ [s], rfl, rfl, g4.trans g5, hu5, ?_, ?_⟩
        · simpa using a2.grow g5
        · rw [List.append_assoc, ← hch, chainF_step hw hn]; rfl
    · rintro e σ' env ⟨rfl, o, es, hv, g, hx⟩
      simp only [List.map_cons, List.map_nil, List.cons.injEq, and_true] at hv
      simp -dsimp only [↓WPd, ↓wpC_block, ↓wpC_cond, WPu, Bool.false_eq_true, Bool.true_eq_false, Bool.not_true, Bool.not_false, if_true, if_false, ite_true, ite_false, Nat.reduceEqDiff, Nat.reduceLT, true_and, List.map_cons, List.map_nil, Nat.zero_add, Nat.reduceBEq, hv]
      exact ⟨g, es, hx⟩
end
end Go.Proofs.YtkjnanfkclijcaaDoor.Am

namespace Go.Proofs.YtkjnanfkclijcaaDoor.Am
open Go
set_option linter.unusedVariables false
set_option linter.unusedSimpArgs false
set_option linter.unusedSectionVars false
set_option maxRecDepth 100000
theorem Own.setN {σ : Store} {v : AVal} {t : List Cel} (h : Own σ 5 v (CC t)) (hn : NoLit v) {i : Nat} (hi : i < t.length) (x : Int) :
    ∃ q σ', faddrV 2 (addrOf 5 v i) = some q ∧ storeV σ 1 q (.int .i64 x) = some σ' ∧ Own σ' 5 v (CC (t.set i { t[i] with n := x })) ∧ Keeps (fun j => v.sid = some j) σ σ' := by
  have hi' : i < (CC t).length := by simpa using hi
  rcases h.own with ⟨rfl, he⟩ | ⟨tg, rfl⟩ | ⟨id, ep, off, cap, xs, epo, fl, rfl, ho, hf, he, hl, hc⟩
  · rw [he] at hi'; simp at hi'
  · have : CC t = [] := hn
    rw [this] at hi'; simp at hi'
  · rcases hc with ⟨rfl, rfl, rfl, rfl⟩ | rfl
    · have ha : addrOf 5 (.slice 5 id epo 0 (CC t).length none) i = .eptr id epo i 0 := by
        have e : (0 : Int) ≤ (i : Int) ∧ (i : Int) < ((CC t).length : Int) := by omega
        simp only [addrOf, iaddrV, e, and_self, if_true]
        simp
      refine ⟨.eptr id epo i 2, σ.set id (.arr 5 (CC (t.set i { t[i] with n := x })) epo epo), by rw [ha]; rfl, ?_, ?_, (Keeps.set _ _ _).mono fun j _ h => by rw [h]; rfl⟩
      · have e1 : (CC t)[i]? = some t[i].val := by rw [List.getElem?_eq_getElem hi', cel_get]
        have e2 : (CC t).set i (Cel.val { t[i] with n := x }) = CC (t.set i { t[i] with n := x }) := List.map_set.symm
        rw [← e2]
        simp only [storeV, ho, e1]
        rfl
      · have := Own.whole (σ := σ.set id (.arr 5 (CC (t.set i { t[i] with n := x })) epo epo)) (sz := 5) (id := id) (ep := epo) (fl := epo) (es := CC (t.set i { t[i] with n := x })) (by rw [List.getElem?_set_self (List.getElem?_eq_some_iff.1 ho).1]) (Nat.le_refl _)
        simpa using this
    · exact hn.elim
theorem BdArg.all {v : AVal} {bs : Hp} (h : BdArg v bs) {k : Nat} (hk : k < bs.length) : ∃ q0 q2 u, iaddrV 3 v (.int .i64 k) = some (addrOf 3 v k) ∧ faddrV 0 (addrOf 3 v k) = some q0 ∧ (∀ σ, loadV σ 2 true q0 = some (nmV bs[k].1)) ∧ faddrV 2 (addrOf 3 v k) = some q2 ∧ (∀ σ, loadV σ 1 false q2 = some u) ∧ Told u bs[k].2 := by
  obtain ⟨es, h1, h2⟩ := h.row
  have hke : k < es.length := by rw [h2.len]; exact hk
  obtain ⟨e, he1, u, he2, he3⟩ := h2.get hk
  have hee : es[k] = e := by rw [List.getElem?_eq_getElem hke] at he1; exact Option.some.inj he1
  have hb : ∀ σ, behind σ (addrOf 3 v k) = some (bdC (bs[k]).1 u, 0) := fun σ => by
    have hb := ((h1 σ).addr hke .i64).2
    rw [hee, he2] at hb; exact hb
  obtain ⟨q0, p0, -⟩ := faddr_at (hb []) 0
  obtain ⟨q2, p2, -⟩ := faddr_at (hb []) 2
  refine ⟨q0, q2, u, (h1 []).iaddr hke .i64, p0, fun σ => ?_, p2, fun σ => ?_, he3⟩
  · obtain ⟨q, r0, r1⟩ := faddr_at (hb σ) 0
    rw [p0] at r0
    rw [Option.some.inj r0]
    exact loadN_at r1 (by simp [bdC])
  · obtain ⟨q, r0, r1⟩ := faddr_at (hb σ) 2
    rw [p2] at r0
    rw [Option.some.inj r0]
    exact load_at r1
section
variable (d : Nat) (σ : Store)
set_option maxHeartbeats 2000000 in
theorem both5_ok (bv : AVal) (bs : Hp) (h : BdArg bv bs) : Called CU.cfg d 35 [bv] σ fun v σ' => ∃ id mid vs rid A, v = .tuple [.ptr id 0, .ptr rid 0, .bool true] ∧ HeapP σ' id mid vs (bindsH [] bs) ∧ RefP σ' A rid (bindsR [] bs) ∧ Grows σ σ' ∧ (σ.length ≤ id ∧ σ.length ≤ mid ∧ σ.length ≤ rid ∧ ∀ i, A i → σ.length ≤ i) ∧ id ≠ rid ∧ mid ≠ rid ∧ id ≠ mid := by
  refine called_of (fn := CU.a35) rfl (Nat.le_of_ble_eq_true rfl) ?_
  simp only [CU.a35]
  have lb := h.len'
  have hlt := h.len
  simp -dsimp only [↓WPd, ↓wpC_block, ↓wpC_cond, WPu, Bool.false_eq_true, Bool.true_eq_false, Bool.not_true, Bool.not_false, if_true, if_false, ite_true, ite_false, Nat.reduceEqDiff, Nat.reduceLT, true_and, List.map_cons, List.map_nil, Nat.zero_add, Nat.reduceBEq]
  refine calledW_of (hnew_ok d σ) ?_
  rintro r σ1 ⟨id, mid, rfl, h1, g1, l1, l2, m1, m2⟩
  simp -dsimp only [↓WPd, ↓wpC_block, ↓wpC_cond, WPu, Bool.false_eq_true, Bool.true_eq_false, Bool.not_true, Bool.not_false, if_true, if_false, ite_true, ite_false, Nat.reduceEqDiff, Nat.reduceLT, true_and, List.map_cons, List.map_nil, Nat.zero_add, Nat.reduceBEq]
  refine calledW_of (rnew_ok d σ1) ?_
  rintro r σ2 ⟨rid, rfl, r2, g2, l3, m3⟩
  have hm : id ≠ mid := fun e => by have a := h1.obj; rw [e, h1.map] at a; cases a
  simp -dsimp only [↓WPd, ↓wpC_block, ↓wpC_cond, WPu, Bool.false_eq_true, Bool.true_eq_false, Bool.not_true, Bool.not_false, if_true, if_false, ite_true, ite_false, Nat.reduceEqDiff, Nat.reduceLT, true_and, List.map_cons, List.map_nil, Nat.zero_add, Nat.reduceBEq]
  refine loop_rule2 (fun m vs σ' => ∃ k ws A, k ≤ bs.length ∧ m = bs.length - k ∧ vs = [bv, .ptr id 0, .ptr rid 0, .int .i64 (k : Nat)] ∧ HeapP σ' id mid ws (bindsH [] (bs.take k)) ∧ RefP σ' A rid (bindsR [] (bs.take k)) ∧ (∀ i, A i → σ2.length ≤ i) ∧ Grows σ σ' ∧ σ2.length ≤ σ'.length)
    [5, 6] (fun e vs σ' => e = .exit 0 ∧ ∃ ws A, vs = [.ptr id 0, .ptr rid 0] ∧ HeapP σ' id mid ws (bindsH [] bs) ∧ RefP σ' A rid (bindsR [] bs) ∧ (∀ i, A i → σ2.length ≤ i) ∧ Grows σ σ') bs.length
    ⟨0, [], _, Nat.zero_le _, rfl, ?_, h1.grow g2, r2, (fun i h => h.elim), g1.trans g2, Nat.le_refl _⟩ ?_ ?_
  · simp -dsimp only [↓WPd, ↓wpC_block, ↓wpC_cond, WPu, Bool.false_eq_true, Bool.true_eq_false, Bool.not_true, Bool.not_false, if_true, if_false, ite_true, ite_false, Nat.reduceEqDiff, Nat.reduceLT, true_and, List.map_cons, List.map_nil, Nat.zero_add, Nat.reduceBEq]; rfl
  · rintro m vs σ' ⟨k, ws, A, hk, rfl, rfl, hh, hr, hA, g, hl⟩
    simp -dsimp only [↓WPd, ↓wpC_block, ↓wpC_cond, WPu, Bool.false_eq_true, Bool.true_eq_false, Bool.not_true, Bool.not_false, if_true, if_false, ite_true, ite_false, Nat.reduceEqDiff, Nat.reduceLT, true_and, List.map_cons, List.map_nil, Nat.zero_add, Nat.reduceBEq, lb]
    refine condP_dec (fun hc => ?_) (fun hc => ?_)
    · have hk' : k < bs.length := by omega
      obtain ⟨q0, q2, u, a1, a2, a3, a4, a5, a6⟩ := h.all hk'
      have hsm := h.small _ (List.getElem_mem hk')
      have el := (a6 σ').els
      obtain ⟨t8, σ3, p1, p2, p3, p4, p5⟩ := (Own.nil σ' 5).append (CC bs[k].2) 48 (by rw [List.length_map]; have := hsm.1; simp only [List.length_nil]; omega)
      rw [List.nil_append] at p2
      have g3 : Grows σ' σ3 := p3.mono fun i _ h => by cases h
      have f8 : Fresh σ'.length t8 := fun i hi => by
        rcases p4 i hi with e | e
        · cases e
        · omega
      simp -dsimp only [↓WPd, ↓wpC_block, ↓wpC_cond, WPu, Bool.false_eq_true, Bool.true_eq_false, Bool.not_true, Bool.not_false, if_true, if_false, ite_true, ite_false, Nat.reduceEqDiff, Nat.reduceLT, true_and, List.map_cons, List.map_nil, Nat.zero_add, Nat.reduceBEq, a1, a4, a5, el, p1]
      refine drawnP_of rfl ?_
      simp -dsimp only [↓WPd, ↓wpC_block, ↓wpC_cond, WPu, Bool.false_eq_true, Bool.true_eq_false, Bool.not_true, Bool.not_false, if_true, if_false, ite_true, ite_false, Nat.reduceEqDiff, Nat.reduceLT, true_and, List.map_cons, List.map_nil, Nat.zero_add, Nat.reduceBEq, ↓WPed, WPeu, Nat.reduceAdd, and_self, a1, a2, a3, a4, a5]
      refine calledW_of (hbind_ok d σ3 id mid ws _ bs[k].1 t8 bs[k].2 (hh.grow g3) hsm p2.sl) ?_
      rintro r3 σ4 ⟨rfl, ⟨ws4, h4⟩, k4⟩
      have hmid : mid < σ'.length := (List.getElem?_eq_some_iff.1 hh.map).1
      have hr4 : RefP σ4 (fun i => A i ∧ i < σ'.length) rid (bindsR [] (bs.take k)) := by
        refine ((hr.keeps (B := fun i => A i ∧ i < σ'.length) (Keeps.refl (fun _ => False) σ') (fun h => h) fun i hi ha => ⟨⟨ha, hi⟩, fun h => h⟩).grow g3).keeps k4 (by omega) fun i hi ha => ⟨ha, fun e => ?_⟩
        have := hA i ha.1
        have := g2.1
        omega
      have p8 : Own σ4 5 t8 (CC bs[k].2) := p2.keeps k4 fun i hi e => by have := f8 i hi; omega
      have hRl := bindsR_len (bs.take k) []
      have htk : (bs.take k).length ≤ bs.length := by simp; omega
      simp -dsimp only [↓WPd, ↓wpC_block, ↓wpC_cond, WPu, Bool.false_eq_true, Bool.true_eq_false, Bool.not_true, Bool.not_false, if_true, if_false, ite_true, ite_false, Nat.reduceEqDiff, Nat.reduceLT, true_and, List.map_cons, List.map_nil, Nat.zero_add, Nat.reduceBEq, ↓WPed, WPeu, Nat.reduceAdd, and_self, a1, a2, a3, a4, a5]
      refine calledW_of (rbind_ok d σ4 _ rid _ bs[k].1 u bs[k].2 hr4 (by simp only [List.length_nil] at hRl; omega) hsm.1 (a6 σ4)) ?_
      rintro r4 σ5 ⟨rfl, r5, k5⟩
      have p9 : Own σ5 5 t8 (CC bs[k].2) := p8.keeps k5 fun i hi e => by have := f8 i hi; omega
      have hsame : Same (bindsH [] (bs.take k)) (bindsR [] (bs.take k)) := Same.nil.binds _
      have ee : (bindE (bindsH [] (bs.take k)) bs[k].1 bs[k].2 != bindE (bindsR [] (bs.take k)) bs[k].1 bs[k].2) = false := by rw [hsame.bindE]; simp
      simp -dsimp only [↓WPd, ↓wpC_block, ↓wpC_cond, WPu, Bool.false_eq_true, Bool.true_eq_false, Bool.not_true, Bool.not_false, if_true, if_false, ite_true, ite_false, Nat.reduceEqDiff, Nat.reduceLT, true_and, List.map_cons, List.map_nil, Nat.zero_add, Nat.reduceBEq, ↓WPed, WPeu, Nat.reduceAdd, and_self, a1, a2, a3, a4, a5, ee]
      refine calledW_of (cequal_ok d σ5 t8 u bs[k].2 bs[k].2 (by have := hsm.1; omega) p9.sl (a6 σ5)) ?_
      rintro r6 σ6 ⟨rfl, rfl⟩
      simp -dsimp only [↓WPd, ↓wpC_block, ↓wpC_cond, WPu, Bool.false_eq_true, Bool.true_eq_false, Bool.not_true, Bool.not_false, if_true, if_false, ite_true, ite_false, Nat.reduceEqDiff, Nat.reduceLT, true_and, List.map_cons, List.map_nil, Nat.zero_add, Nat.reduceBEq, ↓WPed, WPeu, Nat.reduceAdd, and_self, a1, a2, a3, a4, a5, ee, decide_true]
      have n8 : NoLit t8 := p5 (.inl trivial)
      have s8 : ∀ i, t8.sid = some i → σ'.length ≤ i ∧ i < σ3.length := fun i hi => ⟨f8 i hi, p2.sl.lt hi⟩
      refine loop_rule2 (fun m vs σ' => ∃ (j : Nat) (cs : List Cel), j ≤ bs[k].2.length ∧ cs.length = bs[k].2.length ∧ m = bs[k].2.length - j ∧ vs = [bv, .ptr id 0, .ptr rid 0, .int .i64 (k : Nat), t8, .int .i64 (j : Nat)] ∧ Own σ' 5 t8 (CC cs) ∧ Keeps (fun i => t8.sid = some i) σ6 σ')
        [0, 5, 6, 7] (fun e vs σ' => e = .exit 2 ∧ vs = [bv, .ptr id 0, .ptr rid 0, .int .i64 (k : Nat)] ∧ Keeps (fun i => t8.sid = some i) σ6 σ') bs[k].2.length
        ⟨0, bs[k].2, Nat.zero_le _, rfl, rfl, ?_, p9, Keeps.refl _ _⟩ ?_ ?_
      · simp -dsimp only [↓WPd, ↓wpC_block, ↓wpC_cond, WPu, Bool.false_eq_true, Bool.true_eq_false, Bool.not_true, Bool.not_false, if_true, if_false, ite_true, ite_false, Nat.reduceEqDiff, Nat.reduceLT, true_and, List.map_cons, List.map_nil, Nat.zero_add, Nat.reduceBEq]; rfl
      · rintro m vs σ7 ⟨j, cs, hj, hcl, rfl, rfl, o7, k7⟩
        have l7 := o7.sl.len
        rw [List.length_map] at l7
        simp -dsimp only [↓WPd, ↓wpC_block, ↓wpC_cond, WPu, Bool.false_eq_true, Bool.true_eq_false, Bool.not_true, Bool.not_false, if_true, if_false, ite_true, ite_false, Nat.reduceEqDiff, Nat.reduceLT, true_and, List.map_cons, List.map_nil, Nat.zero_add, Nat.reduceBEq, l7]
        refine condP_dec (fun hc => ?_) (fun hc => ?_)
        · have hj' : j < cs.length := by omega
          obtain ⟨q, σ8, f1, f2, f3, f4⟩ := o7.setN n8 hj' 99
          have ia := o7.sl.iaddr (show j < (CC cs).length by simpa using hj') .i64
          simp -dsimp only [↓WPd, ↓wpC_block, ↓wpC_cond, WPu, Bool.false_eq_true, Bool.true_eq_false, Bool.not_true, Bool.not_false, if_true, if_false, ite_true, ite_false, Nat.reduceEqDiff, Nat.reduceLT, true_and, List.map_cons, List.map_nil, Nat.zero_add, Nat.reduceBEq, ia, f1, f2]
          have := hsm.1
          refine ⟨bs[k].2.length - (j + 1), by omega, j + 1, _, by omega, by simpa using hcl, rfl, by rw [wrap_i64 (by omega) (by omega), Int.natCast_add, Int.natCast_one], f3, Keeps.trans k7 f4 fun i _ e => e⟩
        · simp -dsimp only [↓WPd, ↓wpC_block, ↓wpC_cond, WPu, Bool.false_eq_true, Bool.true_eq_false, Bool.not_true, Bool.not_false, if_true, if_false, ite_true, ite_false, Nat.reduceEqDiff, Nat.reduceLT, true_and, List.map_cons, List.map_nil, Nat.zero_add, Nat.reduceBEq]
          exact k7
      · rintro e σ7 env ⟨rfl, hv, k7⟩
        simp only [List.map_cons, List.map_nil, List.cons.injEq, and_true] at hv
        obtain ⟨v0, v5, v6, v7⟩ := hv
        simp -dsimp only [↓WPd, ↓wpC_block, ↓wpC_cond, WPu, Bool.false_eq_true, Bool.true_eq_false, Bool.not_true, Bool.not_false, if_true, if_false, ite_true, ite_false, Nat.reduceEqDiff, Nat.reduceLT, true_and, List.map_cons, List.map_nil, Nat.zero_add, Nat.reduceBEq, v0, v5, v6, v7]
        have ht : bs.take (k + 1) = bs.take k ++ [bs[k]] := List.take_succ_eq_append_getElem hk'
        have hid : id < σ'.length := (List.getElem?_eq_some_iff.1 hh.obj).1
        have hrid : rid < σ'.length := by obtain ⟨w, es, o1, _⟩ := hr; exact (List.getElem?_eq_some_iff.1 o1).1
        have gs := g3.1
        have ks := k4.1
        have ks5 := k5.1
        have ks7 := k7.1
        have g1s := g1.1
        refine ⟨bs.length - (k + 1), by omega, k + 1, ws4, (fun i => (A i ∧ i < σ'.length) ∨ σ4.length ≤ i), by omega, rfl, by rw [wrap_i64 (by omega) (by omega), Int.natCast_add, Int.natCast_one], ?_, ?_, ?_, ?_, by omega⟩
        · rw [ht, bindsH_snoc]
          exact (h4.keeps k5 (by omega) (by omega)).keeps k7 (fun e => by have := s8 _ e; omega) (fun e => by have := s8 _ e; omega)
        · rw [ht, bindsR_snoc]
          exact r5.keeps k7 (fun e => by have := s8 _ e; omega) fun i hi ha => ⟨ha, fun e => by have := s8 _ e; rcases ha with ha | ha <;> omega⟩
        · rintro i (ha | ha)
          · exact hA i ha.1
          · omega
        · refine Keeps.trans (Keeps.trans (Keeps.trans (g.trans g3) k4 fun i hi e => by omega) k5 fun i hi e => by omega) k7 fun i hi e => by have := s8 _ e; have := g.1; omega
    · have : k = bs.length := by omega
      subst this
      rw [List.take_length] at hh hr
      simp -dsimp only [↓WPd, ↓wpC_block, ↓wpC_cond, WPu, Bool.false_eq_true, Bool.true_eq_false, Bool.not_true, Bool.not_false, if_true, if_false, ite_true, ite_false, Nat.reduceEqDiff, Nat.reduceLT, true_and, List.map_cons, List.map_nil, Nat.zero_add, Nat.reduceBEq]
      exact ⟨ws, A, hh, hr, hA, g⟩
  · rintro e σ' env ⟨rfl, ws, A, hv, hh, hr, hA, g⟩
    simp only [List.map_cons, List.map_nil, List.cons.injEq, and_true] at hv
    obtain ⟨v4, v5⟩ := hv
    simp -dsimp only [↓WPd, ↓wpC_block, ↓wpC_cond, WPu, Bool.false_eq_true, Bool.true_eq_false, Bool.not_true, Bool.not_false, if_true, if_false, ite_true, ite_false, Nat.reduceEqDiff, Nat.reduceLT, true_and, List.map_cons, List.map_nil, Nat.zero_add, Nat.reduceBEq, v4, v5]
    have := g1.1
    exact ⟨id, mid, ws, rid, A, rfl, hh, hr, g, ⟨m1, m2, by omega, fun i ha => by have := hA i ha; have := g2.1; omega⟩, by omega, by omega, hm⟩
end
end Go.Proofs.YtkjnanfkclijcaaDoor.Am

namespace Go.Proofs.YtkjnanfkclijcaaDoor.Am
open Go
set_option linter.unusedVariables false
set_option linter.unusedSimpArgs false
theorem rank_le' {H : Hp} (t : List Cel) : rank H t ≤ H.length := by
  unfold rank
  split
  · rename_i hs
    obtain ⟨u, hu⟩ := Option.isSome_iff_exists.1 hs
    obtain ⟨h1, h2, h3⟩ := hnext_mem hu
    have := filter_less (fun p : Nm × List Cel => nless p.1 (t.headD default).v) (fun _ => true) (fun _ _ => rfl) H _ h3 (nless_irrefl _) rfl
    rw [List.filter_eq_self.2 (fun _ _ => rfl)] at this
    omega
  · omega
theorem chain_len {H : Hp} (hw : WF H) (t : List Cel) : (chain H t).length ≤ H.length + 1 := by
  by_cases h0 : t = []
  · simp [chain, h0]
  · rw [chain_rank hw h0]
    have := chainF_len (rank H t) H t
    have := rank_le' (H := H) t
    omega
theorem chainF_next {H : Hp} (hw : WF H) : ∀ (n : Nat) (t : List Cel), rank H t = n → ∀ (i : Nat) (h : i + 1 < (chainF (rank H t) H t).length), hnext H ((chainF (rank H t) H t)[i]) = some ((chainF (rank H t) H t)[i + 1]) := by
  intro n
  induction n using Nat.strongRecOn with
  | ind n ih =>
    intro t hn i h
    cases hx : hnext H t with
    | none =>
      have e := chainF_none hx
      rw [e] at h
      simp at h
    | some u =>
      have e := chainF_step hw hx
      have hlt := rank_lt hw hx
      have key : ∀ (l : List (List Cel)) (hl : l = t :: chainF (rank H u) H u) (h : i + 1 < l.length), hnext H l[i] = some l[i + 1] := by
        intro l hl h
        subst hl
        cases i with
        | zero =>
          simp only [List.getElem_cons_zero, List.getElem_cons_succ]
          have c0 : ∀ (m : Nat) (h : 0 < (chainF m H u).length), (chainF m H u)[0] = u := by
            intro m h; cases m <;> simp [chainF]
          rw [hx, c0]
        | succ i =>
          simp only [List.getElem_cons_succ]
          exact ih _ (by omega) u rfl i (by simpa using h)
      exact key _ e h
theorem chain_next {H : Hp} (hw : WF H) (t : List Cel) (i : Nat) (h : i + 1 < (chain H t).length) : hnext H ((chain H t)[i]) = some ((chain H t)[i + 1]) := by
  by_cases h0 : t = []
  · simp [chain, h0] at h
  · have e := chain_rank hw h0
    have key : ∀ (l : List (List Cel)) (hl : l = chainF (rank H t) H t) (h : i + 1 < l.length), hnext H l[i] = some l[i + 1] := by
      intro l hl h
      subst hl
      exact chainF_next hw _ t rfl i h
    exact key _ e h
theorem WF.short {H : Hp} (hw : WF H) {p : Nm × List Cel} (hp : p ∈ H) : p.2.length ≤ 256 := (right_len (glob_right (hw.ok _ hp).2.2.1)).2
theorem WF.lk_short {H : Hp} (hw : WF H) (v : Nm) : ((lk H v).getD []).length ≤ 256 := by
  cases h : lk H v with
  | none => simp
  | some t => exact hw.short (lk_mem h)
end Go.Proofs.YtkjnanfkclijcaaDoor.Am

namespace Go.Proofs.YtkjnanfkclijcaaDoor.Am
open Go
set_option maxRecDepth 100000
theorem live05_ran : (run CU.cfg 300 1 39 [] []).map (fun p => p.1) = some (.bool true) := by kernel_rfl
end Go.Proofs.YtkjnanfkclijcaaDoor.Am

namespace Go.Proofs.YtkjnanfkclijcaaDoor.Am
open Go
set_option linter.unusedVariables false
set_option linter.unusedSimpArgs false
set_option linter.unusedSectionVars false
set_option maxRecDepth 100000
theorem BRows.keeps {σ σ' : Store} {M : Nat → Prop} {lo : Nat} {l : AVal} {us : List AVal} {R : Hp} (h : BRows σ lo l us R) (g : Keeps M σ σ') (hm : ∀ i, i < σ.length → lo ≤ i → ¬ M i) : BRows σ' lo l us R := XRows.keeps h g hm
theorem Told.at {u : AVal} {t : List Cel} (h : Told u t) (σ : Store) : SlOf σ 5 u (CC t) := h σ
end Go.Proofs.YtkjnanfkclijcaaDoor.Am

namespace Go.Proofs.YtkjnanfkclijcaaDoor.Am
open Go
set_option linter.unusedVariables false
set_option linter.unusedSimpArgs false
set_option linter.unusedSectionVars false
set_option maxRecDepth 100000
theorem XRows.at {σ : Store} {lo sz : Nat} {l : AVal} {es : List AVal} {ps : List (List AVal)} (h : XRows σ lo 1 sz l es es ps) {i : Nat} (hi : i < ps.length) :
    ∃ e, es[i]? = some e ∧ iaddrV 1 l (.int .i64 i) = some (addrOf 1 l i) ∧ loadV σ 1 false (addrOf 1 l i) = some e ∧ Own σ sz e ps[i] ∧ NoLit e := by
  have hi' : i < es.length := by rw [h.len]; exact hi
  have o := h.one i es[i] ps[i] (List.getElem?_eq_getElem hi') (List.getElem?_eq_getElem hi)
  exact ⟨es[i], List.getElem?_eq_getElem hi', h.row.sl.iaddr hi' .i64, h.row.sl.load1 hi' o.one 1, o, h.lit i _ (List.getElem?_eq_getElem hi')⟩
end Go.Proofs.YtkjnanfkclijcaaDoor.Am

namespace Go.Proofs.YtkjnanfkclijcaaDoor.Am
open Go
set_option linter.unusedVariables false
set_option linter.unusedSimpArgs false
set_option linter.unusedSectionVars false
set_option maxRecDepth 100000
theorem XRows.setN {σ : Store} {lo k : Nat} {l : AVal} {xs es : List AVal} {ts : List (List Cel)} (h : XRows σ lo k 5 l xs es (ts.map CC)) {i : Nat} (hi : i < ts.length) {j : Nat} (hj : j < ts[i].length) (x : Int) :
    ∃ e q σ', es[i]? = some e ∧ faddrV 2 (addrOf 5 e j) = some q ∧ storeV σ 1 q (.int .i64 x) = some σ' ∧ XRows σ' lo k 5 l xs es ((ts.set i (ts[i].set j { ts[i][j] with n := x })).map CC) ∧ Keeps (fun m => lo ≤ m) σ σ' := by
  have hie : i < es.length := by rw [h.len, List.length_map]; exact hi
  have he : es[i]? = some es[i] := List.getElem?_eq_getElem hie
  have hp : (ts.map CC)[i]? = some (CC ts[i]) := by simp [hi]
  obtain ⟨q, σ', f1, f2, f3, f4⟩ := (h.one i _ _ he hp).setN (h.lit i _ he) hj x
  refine ⟨es[i], q, σ', he, f1, f2, ⟨h.row.keeps f4 fun id hid e => h.off i _ id he e hid, h.lex, by simpa using h.len, fun i' e' p' h1 h2 => ?_, h.frs, h.frl, h.apart, h.off, h.lit⟩, f4.mono fun m _ hm => h.frs i _ he m hm⟩
  by_cases hii : i' = i
  · subst hii
    rw [he] at h1; injection h1 with h1; subst h1
    rw [List.map_set, List.getElem?_set_self (by simpa using hi)] at h2
    injection h2 with h2; subst h2
    exact f3
  · rw [List.map_set, List.getElem?_set_ne (fun e => hii e.symm)] at h2
    exact (h.one i' e' p' h1 h2).keeps f4 fun id hid e => hii (h.apart i' i e' _ id h1 he hid e)
theorem bdVs_load {σ : Store} {lo : Nat} {l : AVal} {us : List AVal} {R : Hp} {ps : List (List AVal)} (h : XRows σ lo 3 5 l (bdVs R us) us ps) (hl : us.length = R.length) {k : Nat} (hk : k < R.length) {e : AVal} (he : us[k]? = some e) :
    ∃ q2, iaddrV 3 l (.int .i64 k) = some (addrOf 3 l k) ∧ faddrV 2 (addrOf 3 l k) = some q2 ∧ loadV σ 1 false q2 = some e := by
  have hx : k < (bdVs R us).length := by rw [h.lex]; omega
  have hb := (h.row.sl.addr hx .i64).2
  have e1 := bdVs_get hl hk
  rw [List.getElem?_eq_getElem hx] at e1
  rw [Option.some.inj e1] at hb
  have e2 : us[k]'(by omega) = e := by rw [List.getElem?_eq_getElem (by omega)] at he; exact Option.some.inj he
  rw [e2] at hb
  have hb' : behind σ (addrOf 3 l k) = some (bdC (R[k]).1 e, 0) := hb
  obtain ⟨q2, p2, b2⟩ := faddr_at hb' 2
  exact ⟨q2, h.row.sl.iaddr hx .i64, p2, load_at b2⟩
theorem chain_lens {H : Hp} (hw : WF H) {t : List Cel} (ht : t.length < 2 ^ 30) : ∀ x ∈ chain H t, x.length < 2 ^ 30 := fun x hx => by
  obtain ⟨i, hi, rfl⟩ := List.mem_iff_getElem.1 hx
  cases i with
  | zero =>
    have e : ∀ (l : List (List Cel)) (hl : l = chain H t) (h : 0 < l.length), l[0] = t := fun l hl h => by
      unfold chain at hl
      split at hl
      · subst hl; simp at h
      · subst hl; simp [chainF]
    rw [e _ rfl hi]; exact ht
  | succ i =>
    have := hw.short (hnext_mem (chain_next hw t i hi)).2.2
    simp only at this
    omega
set_option maxHeartbeats 2000000 in
theorem own_run (bv tv : AVal) (bs : Hp) (t : List Cel) (hb : BdArg bv bs) (ht : Told tv t) (hst : t.length < 2 ^ 30) :
    Called CU.cfg 0 9 [bv, tv] [] fun v _ => v = .bool true := by
  refine called_of (fn := CU.a9) rfl (Nat.le_of_ble_eq_true rfl) ?_
  simp only [CU.a9]
  simp -dsimp only [↓WPd, ↓wpC_block, ↓wpC_cond, WPu, Bool.false_eq_true, Bool.true_eq_false, Bool.not_true, Bool.not_false, if_true, if_false, ite_true, ite_false, Nat.reduceEqDiff, Nat.reduceLT, true_and, List.map_cons, List.map_nil, Nat.zero_add, Nat.reduceBEq, WPm]
  refine calledW_of (both5_ok 0 [] bv bs hb) ?_
  rintro r σ1 ⟨id, mid, vs, rid, A, rfl, h1, hr1, g1, -, -, -, -⟩
  have hw := h1.wf
  have hs : Same (bindsH [] bs) (bindsR [] bs) := Same.nil.binds bs
  have hlen := bindsR_len bs []
  have hlb := hb.len
  simp only [List.length_nil] at hlen
  generalize bindsH [] bs = H at *
  generalize bindsR [] bs = R at *
  have hHR := hs.len
  have hsh : ∀ p ∈ R, p.2.length ≤ 256 := fun p hp => hs.wfr.short hp
  simp -dsimp only [↓WPd, ↓wpC_block, ↓wpC_cond, WPu, Bool.false_eq_true, Bool.true_eq_false, Bool.not_true, Bool.not_false, if_true, if_false, ite_true, ite_false, Nat.reduceEqDiff, Nat.reduceLT, true_and, List.map_cons, List.map_nil, Nat.zero_add, Nat.reduceBEq, WPm, List.getElem?_cons_zero, List.getElem?_cons_succ]
  refine calledW_of (bindings_ok 0 σ1 id mid vs H R h1 hs (by omega) fun p hp => by have := hsh p hp; omega) ?_
  rintro l σ2 ⟨g2, us, hl⟩
  have hul : us.length = R.length := by have := hl.len; simpa using this
  have ll : lenSV l = some R.length := hl.bds.len
  simp -dsimp only [↓WPd, ↓wpC_block, ↓wpC_cond, WPu, Bool.false_eq_true, Bool.true_eq_false, Bool.not_true, Bool.not_false, if_true, if_false, ite_true, ite_false, Nat.reduceEqDiff, Nat.reduceLT, true_and, List.map_cons, List.map_nil, Nat.zero_add, Nat.reduceBEq, WPm]
  refine loop_rule2 (fun m ws σ' => ∃ (i : Nat) (ts : List (List Cel)), i ≤ R.length ∧ m = R.length - i ∧ ws = [tv, .ptr id 0, .ptr rid 0, .bool true, l, .int .i64 (i : Nat)] ∧ Grows σ1 σ' ∧ ts.length = R.length ∧ (∀ x ∈ ts, x.length ≤ 256) ∧ XRows σ' σ1.length 3 5 l (bdVs R us) us (ts.map CC))
    [1, 5, 6, 7] (fun e ws σ' => e = .exit 0 ∧ ws = [tv, .ptr id 0, .ptr rid 0, .bool true] ∧ Grows σ1 σ') R.length
    ⟨0, R.map (·.2), Nat.zero_le _, rfl, ?_, g2, by simp, fun x hx => ?_, by rw [List.map_map]; exact hl⟩ ?_ ?_
  · simp -dsimp only [↓WPd, ↓wpC_block, ↓wpC_cond, WPu, Bool.false_eq_true, Bool.true_eq_false, Bool.not_true, Bool.not_false, if_true, if_false, ite_true, ite_false, Nat.reduceEqDiff, Nat.reduceLT, true_and, List.map_cons, List.map_nil, Nat.zero_add, Nat.reduceBEq]; rfl
  · obtain ⟨p, hp, rfl⟩ := List.mem_map.1 hx
    exact hsh p hp
  · rintro m ws σ3 ⟨i, ts, hi, rfl, rfl, g3, tl, t256, X⟩
    have ll3 : lenSV l = some R.length := ll
    simp -dsimp only [↓WPd, ↓wpC_block, ↓wpC_cond, WPu, Bool.false_eq_true, Bool.true_eq_false, Bool.not_true, Bool.not_false, if_true, if_false, ite_true, ite_false, Nat.reduceEqDiff, Nat.reduceLT, true_and, List.map_cons, List.map_nil, Nat.zero_add, Nat.reduceBEq, WPm, ll3]
    refine condP_dec (fun hc => ?_) (fun hc => ?_)
    · have hi' : i < R.length := by omega
      have hti : i < ts.length := by omega
      simp -dsimp only [↓WPd, ↓wpC_block, ↓wpC_cond, WPu, Bool.false_eq_true, Bool.true_eq_false, Bool.not_true, Bool.not_false, if_true, if_false, ite_true, ite_false, Nat.reduceEqDiff, Nat.reduceLT, true_and, List.map_cons, List.map_nil, Nat.zero_add, Nat.reduceBEq, WPm]
      have hn : ts[i].length ≤ 256 := t256 _ (List.getElem_mem hti)
      refine loop_rule2 (fun m ws σ' => ∃ (j : Nat) (tt : List (List Cel)), j ≤ ts[i].length ∧ m = ts[i].length - j ∧ ws = [tv, .ptr id 0, .ptr rid 0, .bool true, l, .int .i64 (i : Nat), .int .i64 (j : Nat)] ∧ Grows σ1 σ' ∧ tt.length = R.length ∧ (∀ x ∈ tt, x.length ≤ 256) ∧ (∃ s, tt[i]? = some s ∧ s.length = ts[i].length) ∧ XRows σ' σ1.length 3 5 l (bdVs R us) us (tt.map CC))
        [1, 5, 6, 7, 8, 9] (fun e ws σ' => e = .exit 2 ∧ ws = [tv, .ptr id 0, .ptr rid 0, .bool true, l, .int .i64 (i : Nat)] ∧ Grows σ1 σ' ∧ ∃ tt : List (List Cel), tt.length = R.length ∧ (∀ x ∈ tt, x.length ≤ 256) ∧ XRows σ' σ1.length 3 5 l (bdVs R us) us (tt.map CC)) ts[i].length
        ⟨0, ts, Nat.zero_le _, rfl, ?_, g3, tl, t256, ⟨ts[i], List.getElem?_eq_getElem hti, rfl⟩, X⟩ ?_ ?_
      · simp -dsimp only [↓WPd, ↓wpC_block, ↓wpC_cond, WPu, Bool.false_eq_true, Bool.true_eq_false, Bool.not_true, Bool.not_false, if_true, if_false, ite_true, ite_false, Nat.reduceEqDiff, Nat.reduceLT, true_and, List.map_cons, List.map_nil, Nat.zero_add, Nat.reduceBEq]; rfl
      · rintro m ws σ4 ⟨j, tt, hj, rfl, rfl, g4, ttl, tt256, ⟨s, hs1, hs2⟩, Y⟩
        have hui : i < us.length := by omega
        have he : us[i]? = some us[i] := List.getElem?_eq_getElem hui
        obtain ⟨q2, b1, b2, b3⟩ := bdVs_load Y hul hi' he
        obtain ⟨hit, hse⟩ := List.getElem?_eq_some_iff.1 hs1
        have oe := Y.one i _ _ he (show (tt.map CC)[i]? = some (CC s) by simp [hs1])
        have le := oe.sl.len
        rw [List.length_map, hs2] at le
        simp -dsimp only [↓WPd, ↓wpC_block, ↓wpC_cond, WPu, Bool.false_eq_true, Bool.true_eq_false, Bool.not_true, Bool.not_false, if_true, if_false, ite_true, ite_false, Nat.reduceEqDiff, Nat.reduceLT, true_and, List.map_cons, List.map_nil, Nat.zero_add, Nat.reduceBEq, WPm, b1, b2, b3, le]
        refine condP_dec (fun hc => ?_) (fun hc => ?_)
        · have hj' : j < tt[i].length := by rw [hse]; omega
          obtain ⟨e, q, σ5, c1, c2, c3, c4, c5⟩ := Y.setN hit hj' 55
          rw [he] at c1; injection c1 with c1; subst c1
          have ia := oe.sl.iaddr (show j < (CC s).length by simp; omega) .i64
          simp -dsimp only [↓WPd, ↓wpC_block, ↓wpC_cond, WPu, Bool.false_eq_true, Bool.true_eq_false, Bool.not_true, Bool.not_false, if_true, if_false, ite_true, ite_false, Nat.reduceEqDiff, Nat.reduceLT, true_and, List.map_cons, List.map_nil, Nat.zero_add, Nat.reduceBEq, WPm, b1, b2, b3, ia, c2, c3]
          refine ⟨ts[i].length - (j + 1), by omega, j + 1, _, by omega, rfl, by rw [wrap_i64 (by omega) (by omega), Int.natCast_add, Int.natCast_one], Keeps.trans g4 c5 fun m hm e => by omega, by simpa using ttl, fun x hx => ?_, ⟨_, List.getElem?_set_self hit, by simp [hse, hs2]⟩, c4⟩
          rcases List.mem_or_eq_of_mem_set hx with hx | hx
          · exact tt256 x hx
          · subst hx; simp; exact tt256 _ (List.getElem_mem hit)
        · simp -dsimp only [↓WPd, ↓wpC_block, ↓wpC_cond, WPu, Bool.false_eq_true, Bool.true_eq_false, Bool.not_true, Bool.not_false, if_true, if_false, ite_true, ite_false, Nat.reduceEqDiff, Nat.reduceLT, true_and, List.map_cons, List.map_nil, Nat.zero_add, Nat.reduceBEq]
          exact ⟨g4, tt, ttl, tt256, Y⟩
      · rintro e σ5 env ⟨rfl, hv, g5, tt, ttl, tt256, Y⟩
        simp only [List.map_cons, List.map_nil, List.cons.injEq, and_true] at hv
        obtain ⟨v1, v5, v6, v7, v8, v9⟩ := hv
        simp -dsimp only [↓WPd, ↓wpC_block, ↓wpC_cond, WPu, Bool.false_eq_true, Bool.true_eq_false, Bool.not_true, Bool.not_false, if_true, if_false, ite_true, ite_false, Nat.reduceEqDiff, Nat.reduceLT, true_and, List.map_cons, List.map_nil, Nat.zero_add, Nat.reduceBEq, WPm, v1, v5, v6, v7, v8, v9]
        refine ⟨R.length - (i + 1), by omega, i + 1, tt, by omega, rfl, by rw [wrap_i64 (by omega) (by omega), Int.natCast_add, Int.natCast_one], g5, ttl, tt256, Y⟩
    · simp -dsimp only [↓WPd, ↓wpC_block, ↓wpC_cond, WPu, Bool.false_eq_true, Bool.true_eq_false, Bool.not_true, Bool.not_false, if_true, if_false, ite_true, ite_false, Nat.reduceEqDiff, Nat.reduceLT, true_and, List.map_cons, List.map_nil, Nat.zero_add, Nat.reduceBEq]
      exact g3
  · rintro e σ3 env ⟨rfl, hv, g3⟩
    simp only [List.map_cons, List.map_nil, List.cons.injEq, and_true] at hv
    obtain ⟨v1, v5, v6, v7⟩ := hv
    simp -dsimp only [↓WPd, ↓wpC_block, ↓wpC_cond, WPu, Bool.false_eq_true, Bool.true_eq_false, Bool.not_true, Bool.not_false, if_true, if_false, ite_true, ite_false, Nat.reduceEqDiff, Nat.reduceLT, true_and, List.map_cons, List.map_nil, Nat.zero_add, Nat.reduceBEq, WPm, v1, v5, v6, v7]
    refine calledW_of (hchain_ok 0 σ3 (.ptr id 0) tv H t (h1.grow g3).v hw (by omega) (ht σ3) hst) ?_
    rintro c σ4 ⟨g4, es, hc⟩
    have g14 := g3.trans g4
    have hce : es.length = (chain H t).length := by have := hc.len; simpa using this
    have hcl := chain_len hw t
    have lc : lenSV c = some (chain H t).length := by rw [hc.row.sl.len, hce]
    simp -dsimp only [↓WPd, ↓wpC_block, ↓wpC_cond, WPu, Bool.false_eq_true, Bool.true_eq_false, Bool.not_true, Bool.not_false, if_true, if_false, ite_true, ite_false, Nat.reduceEqDiff, Nat.reduceLT, true_and, List.map_cons, List.map_nil, Nat.zero_add, Nat.reduceBEq, WPm]
    have s31 := g3.1
    refine loop_rule2 (fun m ws σ' => ∃ (i : Nat) (ts : List (List Cel)), (i ≤ (chain H t).length ∨ i = 1) ∧ m = (chain H t).length - i ∧ ws = [.ptr id 0, .ptr rid 0, .bool true, c, .int .i64 (i : Nat)] ∧ Grows σ1 σ' ∧ ts.length = (chain H t).length ∧ (∀ x ∈ ts, x.length < 2 ^ 30) ∧ XRows σ' σ3.length 1 5 c es es (ts.map CC))
      [5, 6, 7] (fun e ws σ' => e = .exit 4 ∧ ws = [.ptr id 0, .ptr rid 0, .bool true] ∧ Grows σ1 σ') ((chain H t).length - 1)
      ⟨1, chain H t, .inr rfl, rfl, ?_, g14, rfl, fun x hx => ?_, hc⟩ ?_ ?_
    · simp -dsimp only [↓WPd, ↓wpC_block, ↓wpC_cond, WPu, Bool.false_eq_true, Bool.true_eq_false, Bool.not_true, Bool.not_false, if_true, if_false, ite_true, ite_false, Nat.reduceEqDiff, Nat.reduceLT, true_and, List.map_cons, List.map_nil, Nat.zero_add, Nat.reduceBEq, v1, v5, v6, v7]; rfl
    · exact chain_lens hw hst x hx
    · rintro m ws σ5 ⟨i, ts, hi, rfl, rfl, g5, tl, tb, X⟩
      simp -dsimp only [↓WPd, ↓wpC_block, ↓wpC_cond, WPu, Bool.false_eq_true, Bool.true_eq_false, Bool.not_true, Bool.not_false, if_true, if_false, ite_true, ite_false, Nat.reduceEqDiff, Nat.reduceLT, true_and, List.map_cons, List.map_nil, Nat.zero_add, Nat.reduceBEq, WPm, lc]
      refine condP_dec (fun hlt => ?_) (fun hlt => ?_)
      · have hi' : i < ts.length := by omega
        have hn : ts[i].length < 2 ^ 30 := tb _ (List.getElem_mem hi')
        simp -dsimp only [↓WPd, ↓wpC_block, ↓wpC_cond, WPu, Bool.false_eq_true, Bool.true_eq_false, Bool.not_true, Bool.not_false, if_true, if_false, ite_true, ite_false, Nat.reduceEqDiff, Nat.reduceLT, true_and, List.map_cons, List.map_nil, Nat.zero_add, Nat.reduceBEq, WPm]
        refine loop_rule2 (fun m ws σ' => ∃ (j : Nat) (tt : List (List Cel)), j ≤ ts[i].length ∧ m = ts[i].length - j ∧ ws = [.ptr id 0, .ptr rid 0, .bool true, c, .int .i64 (i : Nat), .int .i64 (j : Nat)] ∧ Grows σ1 σ' ∧ tt.length = (chain H t).length ∧ (∀ x ∈ tt, x.length < 2 ^ 30) ∧ (∃ s, tt[i]? = some s ∧ s.length = ts[i].length) ∧ XRows σ' σ3.length 1 5 c es es (tt.map CC))
          [5, 6, 7, 11, 12] (fun e ws σ' => e = .exit 6 ∧ ws = [.ptr id 0, .ptr rid 0, .bool true, c, .int .i64 (i : Nat)] ∧ Grows σ1 σ' ∧ ∃ tt : List (List Cel), tt.length = (chain H t).length ∧ (∀ x ∈ tt, x.length < 2 ^ 30) ∧ XRows σ' σ3.length 1 5 c es es (tt.map CC)) ts[i].length
          ⟨0, ts, Nat.zero_le _, rfl, ?_, g5, tl, tb, ⟨ts[i], List.getElem?_eq_getElem hi', rfl⟩, X⟩ ?_ ?_
        · simp -dsimp only [↓WPd, ↓wpC_block, ↓wpC_cond, WPu, Bool.false_eq_true, Bool.true_eq_false, Bool.not_true, Bool.not_false, if_true, if_false, ite_true, ite_false, Nat.reduceEqDiff, Nat.reduceLT, true_and, List.map_cons, List.map_nil, Nat.zero_add, Nat.reduceBEq]; rfl
        · rintro m ws σ6 ⟨j, tt, hj, rfl, rfl, g6, ttl, ttb, ⟨s, hs1, hs2⟩, Y⟩
          obtain ⟨hit, hse⟩ := List.getElem?_eq_some_iff.1 hs1
          obtain ⟨e, he, b1, b2, oe, -⟩ := Y.at (i := i) (by simpa using hit)
          rw [List.getElem_map, hse] at oe
          have le := oe.sl.len
          rw [List.length_map, hs2] at le
          simp -dsimp only [↓WPd, ↓wpC_block, ↓wpC_cond, WPu, Bool.false_eq_true, Bool.true_eq_false, Bool.not_true, Bool.not_false, if_true, if_false, ite_true, ite_false, Nat.reduceEqDiff, Nat.reduceLT, true_and, List.map_cons, List.map_nil, Nat.zero_add, Nat.reduceBEq, WPm, b1, b2, le]
          refine condP_dec (fun hc => ?_) (fun hc => ?_)
          · have hj' : j < tt[i].length := by rw [hse]; omega
            obtain ⟨e', q, σ7, c1, c2, c3, c4, c5⟩ := Y.setN hit hj' 55
            rw [he] at c1; injection c1 with c1; subst c1
            have ia := oe.sl.iaddr (show j < (CC s).length by simp; omega) .i64
            simp -dsimp only [↓WPd, ↓wpC_block, ↓wpC_cond, WPu, Bool.false_eq_true, Bool.true_eq_false, Bool.not_true, Bool.not_false, if_true, if_false, ite_true, ite_false, Nat.reduceEqDiff, Nat.reduceLT, true_and, List.map_cons, List.map_nil, Nat.zero_add, Nat.reduceBEq, WPm, b1, b2, ia, c2, c3]
            refine ⟨ts[i].length - (j + 1), by omega, j + 1, _, by omega, rfl, by rw [wrap_i64 (by omega) (by omega), Int.natCast_add, Int.natCast_one], Keeps.trans g6 c5 fun m hm e => by omega, by simpa using ttl, fun x hx => ?_, ⟨_, List.getElem?_set_self hit, by simp [hse, hs2]⟩, c4⟩
            rcases List.mem_or_eq_of_mem_set hx with hx | hx
            · exact ttb x hx
            · subst hx; simp only [List.length_set]; exact ttb _ (List.getElem_mem hit)
          · simp -dsimp only [↓WPd, ↓wpC_block, ↓wpC_cond, WPu, Bool.false_eq_true, Bool.true_eq_false, Bool.not_true, Bool.not_false, if_true, if_false, ite_true, ite_false, Nat.reduceEqDiff, Nat.reduceLT, true_and, List.map_cons, List.map_nil, Nat.zero_add, Nat.reduceBEq]
            exact ⟨g6, tt, ttl, ttb, Y⟩
        · rintro e σ6 env ⟨rfl, hv, g6, tt, ttl, ttb, Y⟩
          simp only [List.map_cons, List.map_nil, List.cons.injEq, and_true] at hv
          obtain ⟨v5, v6, v7, v11, v12⟩ := hv
          simp -dsimp only [↓WPd, ↓wpC_block, ↓wpC_cond, WPu, Bool.false_eq_true, Bool.true_eq_false, Bool.not_true, Bool.not_false, if_true, if_false, ite_true, ite_false, Nat.reduceEqDiff, Nat.reduceLT, true_and, List.map_cons, List.map_nil, Nat.zero_add, Nat.reduceBEq, WPm, v5, v6, v7, v11, v12]
          refine ⟨(chain H t).length - (i + 1), by omega, i + 1, tt, by omega, rfl, by rw [wrap_i64 (by omega) (by omega), Int.natCast_add, Int.natCast_one], g6, ttl, ttb, Y⟩
      · simp -dsimp only [↓WPd, ↓wpC_block, ↓wpC_cond, WPu, Bool.false_eq_true, Bool.true_eq_false, Bool.not_true, Bool.not_false, if_true, if_false, ite_true, ite_false, Nat.reduceEqDiff, Nat.reduceLT, true_and, List.map_cons, List.map_nil, Nat.zero_add, Nat.reduceBEq]
        exact g5
    · rintro e σ5 env ⟨rfl, hv, g5⟩
      simp only [List.map_cons, List.map_nil, List.cons.injEq, and_true] at hv
      obtain ⟨v5, v6, v7⟩ := hv
      simp -dsimp only [↓WPd, ↓wpC_block, ↓wpC_cond, WPu, Bool.false_eq_true, Bool.true_eq_false, Bool.not_true, Bool.not_false, if_true, if_false, ite_true, ite_false, Nat.reduceEqDiff, Nat.reduceLT, true_and, List.map_cons, List.map_nil, Nat.zero_add, Nat.reduceBEq, WPm, v5, v6, v7]
      obtain ⟨w, hw1, hB⟩ := hr1.bds
      have lw := hB.len
      have e0 : ([w] : List AVal)[0]? = some w := rfl
      refine loop_rule2 (fun m ws σ' => ∃ i : Nat, i ≤ R.length ∧ m = R.length - i ∧ ws = [.ptr id 0, .ptr rid 0, .bool true, .int .i64 (i : Nat)] ∧ Grows σ1 σ')
        [5, 6, 7] (fun e ws σ' => e = .exit 8 ∧ ws = [.ptr id 0, .ptr rid 0, .bool true] ∧ Grows σ1 σ') R.length
        ⟨0, Nat.zero_le _, rfl, ?_, g5⟩ ?_ ?_
      · simp -dsimp only [↓WPd, ↓wpC_block, ↓wpC_cond, WPu, Bool.false_eq_true, Bool.true_eq_false, Bool.not_true, Bool.not_false, if_true, if_false, ite_true, ite_false, Nat.reduceEqDiff, Nat.reduceLT, true_and, List.map_cons, List.map_nil, Nat.zero_add, Nat.reduceBEq, v5, v6, v7]; rfl
      · rintro m ws σ6 ⟨i, hi, rfl, rfl, g6⟩
        simp -dsimp only [↓WPd, ↓wpC_block, ↓wpC_cond, WPu, Bool.false_eq_true, Bool.true_eq_false, Bool.not_true, Bool.not_false, if_true, if_false, ite_true, ite_false, Nat.reduceEqDiff, Nat.reduceLT, true_and, List.map_cons, List.map_nil, Nat.zero_add, Nat.reduceBEq, WPm, isnil_ptr, faddr_ptr, Nat.add_zero, load_cells (g6.get hw1), e0, lw]
        refine condP_dec (fun hlt => ?_) (fun hlt => ?_)
        · have hi' : i < R.length := by omega
          obtain ⟨q0, q2, u, a1, a2, a3, a4, a5, a6⟩ := (hB.grow g6).at hi'
          simp -dsimp only [↓WPd, ↓wpC_block, ↓wpC_cond, WPu, Bool.false_eq_true, Bool.true_eq_false, Bool.not_true, Bool.not_false, if_true, if_false, ite_true, ite_false, Nat.reduceEqDiff, Nat.reduceLT, true_and, List.map_cons, List.map_nil, Nat.zero_add, Nat.reduceBEq, WPm, isnil_ptr, faddr_ptr, Nat.add_zero, load_cells (g6.get hw1), e0, a1, a2, a3]
          refine calledW_of (hvalue_ok 0 σ6 (.ptr id 0) H R[i].1 (h1.grow g6).v (by have := hw.lk_short R[i].1; omega)) ?_
          rintro r7 σ7 ⟨x, rfl, ox, fx, nx, g7⟩
          have hx256 := hw.lk_short R[i].1
          generalize (lk H R[i].1).getD [] = y at ox hx256
          simp -dsimp only [↓WPd, ↓wpC_block, ↓wpC_cond, WPu, Bool.false_eq_true, Bool.true_eq_false, Bool.not_true, Bool.not_false, if_true, if_false, ite_true, ite_false, Nat.reduceEqDiff, Nat.reduceLT, true_and, List.map_cons, List.map_nil, Nat.zero_add, Nat.reduceBEq, WPm, List.getElem?_cons_zero, List.getElem?_cons_succ]
          refine loop_rule2 (fun m ws σ' => ∃ (j : Nat) (cs : List Cel), j ≤ y.length ∧ cs.length = y.length ∧ m = y.length - j ∧ ws = [.ptr id 0, .ptr rid 0, .bool true, .int .i64 (i : Nat), x, .int .i64 (j : Nat)] ∧ Grows σ1 σ' ∧ Own σ' 5 x (CC cs))
            [5, 6, 7, 14] (fun e ws σ' => e = .exit 10 ∧ ws = [.ptr id 0, .ptr rid 0, .bool true, .int .i64 (i : Nat)] ∧ Grows σ1 σ') y.length
            ⟨0, y, Nat.zero_le _, rfl, rfl, ?_, g6.trans g7, ox⟩ ?_ ?_
          · simp -dsimp only [↓WPd, ↓wpC_block, ↓wpC_cond, WPu, Bool.false_eq_true, Bool.true_eq_false, Bool.not_true, Bool.not_false, if_true, if_false, ite_true, ite_false, Nat.reduceEqDiff, Nat.reduceLT, true_and, List.map_cons, List.map_nil, Nat.zero_add, Nat.reduceBEq]; rfl
          · rintro m ws σ8 ⟨j, cs, hj, hcl, rfl, rfl, g8, o8⟩
            have l8 := o8.sl.len
            rw [List.length_map] at l8
            simp -dsimp only [↓WPd, ↓wpC_block, ↓wpC_cond, WPu, Bool.false_eq_true, Bool.true_eq_false, Bool.not_true, Bool.not_false, if_true, if_false, ite_true, ite_false, Nat.reduceEqDiff, Nat.reduceLT, true_and, List.map_cons, List.map_nil, Nat.zero_add, Nat.reduceBEq, WPm, l8]
            refine condP_dec (fun hc => ?_) (fun hc => ?_)
            · have hj' : j < cs.length := by omega
              obtain ⟨q, σ9, f1, f2, f3, f4⟩ := o8.setN nx hj' 55
              have ia := o8.sl.iaddr (show j < (CC cs).length by simpa using hj') .i64
              simp -dsimp only [↓WPd, ↓wpC_block, ↓wpC_cond, WPu, Bool.false_eq_true, Bool.true_eq_false, Bool.not_true, Bool.not_false, if_true, if_false, ite_true, ite_false, Nat.reduceEqDiff, Nat.reduceLT, true_and, List.map_cons, List.map_nil, Nat.zero_add, Nat.reduceBEq, WPm, ia, f1, f2]
              refine ⟨y.length - (j + 1), by omega, j + 1, _, by omega, by simpa using hcl, rfl, by rw [wrap_i64 (by omega) (by omega), Int.natCast_add, Int.natCast_one], Keeps.trans g8 f4 fun m hm e => by have := fx m e; have := g6.1; omega, f3⟩
            · simp -dsimp only [↓WPd, ↓wpC_block, ↓wpC_cond, WPu, Bool.false_eq_true, Bool.true_eq_false, Bool.not_true, Bool.not_false, if_true, if_false, ite_true, ite_false, Nat.reduceEqDiff, Nat.reduceLT, true_and, List.map_cons, List.map_nil, Nat.zero_add, Nat.reduceBEq]
              exact g8
          · rintro e σ8 env ⟨rfl, hv, g8⟩
            simp only [List.map_cons, List.map_nil, List.cons.injEq, and_true] at hv
            obtain ⟨v5, v6, v7, v14⟩ := hv
            simp -dsimp only [↓WPd, ↓wpC_block, ↓wpC_cond, WPu, Bool.false_eq_true, Bool.true_eq_false, Bool.not_true, Bool.not_false, if_true, if_false, ite_true, ite_false, Nat.reduceEqDiff, Nat.reduceLT, true_and, List.map_cons, List.map_nil, Nat.zero_add, Nat.reduceBEq, WPm, v5, v6, v7, v14]
            refine ⟨R.length - (i + 1), by omega, i + 1, by omega, rfl, by rw [wrap_i64 (by omega) (by omega), Int.natCast_add, Int.natCast_one], g8⟩
        · simp -dsimp only [↓WPd, ↓wpC_block, ↓wpC_cond, WPu, Bool.false_eq_true, Bool.true_eq_false, Bool.not_true, Bool.not_false, if_true, if_false, ite_true, ite_false, Nat.reduceEqDiff, Nat.reduceLT, true_and, List.map_cons, List.map_nil, Nat.zero_add, Nat.reduceBEq]
          exact g6
      · rintro e σ6 env ⟨rfl, hv, g6⟩
        simp only [List.map_cons, List.map_nil, List.cons.injEq, and_true] at hv
        obtain ⟨v5, v6, v7⟩ := hv
        simp -dsimp only [↓WPd, ↓wpC_block, ↓wpC_cond, WPu, Bool.false_eq_true, Bool.true_eq_false, Bool.not_true, Bool.not_false, if_true, if_false, ite_true, ite_false, Nat.reduceEqDiff, Nat.reduceLT, true_and, List.map_cons, List.map_nil, Nat.zero_add, Nat.reduceBEq, WPm, v5, v6, v7]
        refine drawnP_of rfl ?_
        simp -dsimp only [↓WPd, ↓wpC_block, ↓wpC_cond, WPu, Bool.false_eq_true, Bool.true_eq_false, Bool.not_true, Bool.not_false, if_true, if_false, ite_true, ite_false, Nat.reduceEqDiff, Nat.reduceLT, true_and, List.map_cons, List.map_nil, Nat.zero_add, Nat.reduceBEq, ↓WPed, WPeu, Nat.reduceAdd, and_self, v5, v6, v7]
        refine isoW_bool live05_ran ?_
        simp -dsimp only [↓WPd, ↓wpC_block, ↓wpC_cond, WPu, Bool.false_eq_true, Bool.true_eq_false, Bool.not_true, Bool.not_false, if_true, if_false, ite_true, ite_false, Nat.reduceEqDiff, Nat.reduceLT, true_and, List.map_cons, List.map_nil, Nat.zero_add, Nat.reduceBEq, ↓WPed, WPeu, Nat.reduceAdd, and_self, v5, v6, v7]
        refine calledW_of (bindings_ok 0 σ6 id mid vs H R (h1.grow g6) hs (by omega) fun p hp => by have := hsh p hp; omega) ?_
        rintro b σ7 ⟨g7, us', hb'⟩
        have g67 := g6.trans g7
        simp -dsimp only [↓WPd, ↓wpC_block, ↓wpC_cond, WPu, Bool.false_eq_true, Bool.true_eq_false, Bool.not_true, Bool.not_false, if_true, if_false, ite_true, ite_false, Nat.reduceEqDiff, Nat.reduceLT, true_and, List.map_cons, List.map_nil, Nat.zero_add, Nat.reduceBEq, ↓WPed, WPeu, Nat.reduceAdd, and_self, v5, v6, v7, isnil_ptr, faddr_ptr, Nat.add_zero, load_cells (g6.get hw1), load_cells (g67.get hw1), e0]
        refine calledW_of (samebd_ok 0 σ7 b w R hb'.bds (hB.grow g67) (by omega) fun p hp => by have := hsh p hp; omega) ?_
        rintro r8 σ8 ⟨rfl, g8⟩
        simp -dsimp only [↓WPd, ↓wpC_block, ↓wpC_cond, WPu, Bool.false_eq_true, Bool.true_eq_false, Bool.not_true, Bool.not_false, if_true, if_false, ite_true, ite_false, Nat.reduceEqDiff, Nat.reduceLT, true_and, List.map_cons, List.map_nil, Nat.zero_add, Nat.reduceBEq, ↓WPed, WPeu, Nat.reduceAdd, and_self, v5, v6, v7, isnil_ptr, faddr_ptr, Nat.add_zero, load_cells (g6.get hw1), load_cells (g67.get hw1), load_cells ((g67.trans g8).get hw1), e0]
end Go.Proofs.YtkjnanfkclijcaaDoor.Am

