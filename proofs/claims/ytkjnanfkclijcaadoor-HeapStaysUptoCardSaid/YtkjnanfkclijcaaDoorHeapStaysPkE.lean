/-
  The abstract machine and the functions of the law, 5: texts put together.
-/
import Derived.Test.YtkjnanfkclijcaaDoorHeapStaysPkD
import Derived.Test.YtkjnanfkclijcaaDoorHeapStaysPkC
namespace Go.Proofs.YtkjnanfkclijcaaDoor.Am
open Go
set_option linter.unusedVariables false
set_option linter.unusedSimpArgs false
set_option linter.unusedSectionVars false
set_option maxRecDepth 100000
theorem nm_putB (σ : Store) (v : Nm) : storeV (σ ++ [AObj.cells [.int .i64 0, .int .i64 0]]) 2 (.ptr σ.length 0) (nmV v) = some (σ ++ [AObj.cells (nmC v)]) := by
  have h : (σ ++ [AObj.cells [.int .i64 0, .int .i64 0]])[σ.length]? = some (.cells [.int .i64 0, .int .i64 0]) := by simp
  rw [nm_agg, storeN_cells (cs' := nmC v) (n := 2) h rfl rfl rfl, set_last]
theorem HeapP.look1 {σ : Store} {id mid : Nat} {vs : List AVal} {H : Hp} (h : HeapP σ id mid vs H) (v : Nm) :
    ∃ u, lookupV σ true [.i, .i] .nilslice (.map mid) (nmV v) false = some u ∧ Told u ((lk H v).getD []) := by
  obtain ⟨o, h1, h2⟩ := find_nm v H
  have hk : keyEq true [.i, .i] (nmV v) (nmV v) = some true := by rw [nm_keyEq, decide_eq_true rfl]
  have hf : findKK true [.i, .i] (nmV v) (H.map fun p => nmV p.1) = some o := by simp only [findKK, hk, Option.isSome_some, if_true, h1]
  have hm : mapOf σ (.map mid) = some (H.map fun p => nmV p.1, vs) := by simp only [mapOf, h.map]
  cases o with
  | none =>
    refine ⟨.nilslice, ?_, ?_⟩
    · simp only [lookupV, hm, hf]; rfl
    · rw [h2]; exact Told.nil
  | some i =>
    obtain ⟨p, p1, p2, p3⟩ := h2
    obtain ⟨hi, hpe⟩ := List.getElem?_eq_some_iff.1 p1
    obtain ⟨u, u1, u2⟩ := h.vals.get hi
    refine ⟨u, ?_, ?_⟩
    · simp only [lookupV, hm, hf, u1, Option.map_some]; rfl
    · rw [p3]; rw [hpe] at u2; exact u2
def bdVs (R : Hp) (us : List AVal) : List AVal := List.zipWith (fun p u => bdV p.1 u) R us
abbrev BRows (σ : Store) (lo : Nat) (l : AVal) (us : List AVal) (R : Hp) : Prop := XRows σ lo 3 5 l (bdVs R us) us (R.map fun p => CC p.2)
section
variable (d : Nat) (σ : Store)
theorem mkeys_ok (m : AVal) (hm : m.one = true) : Called CU.cfg d 98 [m] σ fun r σ' => r = .func 143 [] [.ptr σ.length 0] ∧ σ' = σ ++ [.cells [m]] := by
  refine called_of (fn := CU.a98) rfl (Nat.le_of_ble_eq_true rfl) ?_
  simp only [CU.a98]
  have hc : m.cells = [m] := by cases m <;> simp_all [AVal.one]
  have h1 : [m].all AVal.one = true := by simp only [List.all_cons, List.all_nil, hm]; rfl
  simp -dsimp only [↓WPd, ↓wpC_block, ↓wpC_cond, WPu, Bool.false_eq_true, Bool.true_eq_false, Bool.not_true, Bool.not_false, if_true, if_false, ite_true, ite_false, Nat.reduceEqDiff, Nat.reduceLT, true_and, List.map_cons, List.map_nil, Nat.zero_add, Nat.reduceBEq, hc, h1]
theorem sorted_ok (i mid : Nat) (ns : List Nm) (vs : List AVal) (h1 : σ[i]? = some (.cells [.map mid])) (h2 : σ[mid]? = some (.map (ns.map nmV) vs)) (hn : ns.length ≤ 8796093022208) :
    Called CU.cfg d 97 [.func 143 [] [.ptr i 0], .func 99 [] []] σ fun r σ' => SlOf σ' 2 r ((sortN ns).map nmV) ∧ Grows σ σ' := by
  have hk : keysOf σ (.map mid) = some (ns.map nmV) := by simp only [keysOf, h2]
  have he : natSF 143 99 [.func 143 [] [.ptr i 0], .func 99 [] []] σ = some (match ns with | [] => (.nilslice, σ) | _ => (.slice 2 σ.length 0 0 ns.length none, σ ++ [.arr 2 ((sortN ns).map nmV) 0 0])) := by
    simp only [natSF, and_self, if_true, h1, hk, nmsOf_map, if_pos hn]
    cases ns <;> rfl
  cases ns with
  | nil => exact called_nat rfl he ⟨SlOf.nil _ _, Keeps.refl _ _⟩
  | cons x r =>
    refine called_nat rfl he ⟨?_, Grows.app _ _⟩
    have hl : ((sortN (x :: r)).map nmV).length = (x :: r).length := by rw [List.length_map, sortN_len]
    refine ⟨?_, ?_, fun s id ep off len c h => by cases h⟩
    · have e : ((sortN (x :: r)).map nmV).take (x :: r).length = (sortN (x :: r)).map nmV := List.take_of_length_le (by omega)
      simp only [List.length_cons] at e
      simp [elems, hl, e]
    · simp [lenSV, hl]
set_option maxHeartbeats 1000000 in
theorem bindings_ok (id mid : Nat) (vs : List AVal) (H R : Hp) (h : HeapP σ id mid vs H) (hs : Same H R) (hn : R.length < 2 ^ 30) (hsm : ∀ p ∈ R, p.2.length < 2 ^ 30) :
    Called CU.cfg d 36 [.ptr id 0] σ fun l σ' => Grows σ σ' ∧ ∃ us, BRows σ' σ.length l us R := by
  refine called_of (fn := CU.a36) rfl (Nat.le_of_ble_eq_true rfl) ?_
  simp only [CU.a36]
  have e1 : ([AVal.map mid] : List AVal)[0]? = some (.map mid) := rfl
  simp -dsimp only [↓WPd, ↓wpC_block, ↓wpC_cond, WPu, Bool.false_eq_true, Bool.true_eq_false, Bool.not_true, Bool.not_false, if_true, if_false, ite_true, ite_false, Nat.reduceEqDiff, Nat.reduceLT, true_and, List.map_cons, List.map_nil, Nat.zero_add, Nat.reduceBEq, isnil_ptr, faddr_ptr, Nat.add_zero, load_cells h.obj, e1]
  refine calledW_of (mkeys_ok d σ (.map mid) rfl) ?_
  rintro r σ1 ⟨rfl, rfl⟩
  have g1 : Grows σ (σ ++ [AObj.cells [.map mid]]) := Grows.app _ _
  have ho : (σ ++ [AObj.cells [.map mid]])[σ.length]? = some (.cells [.map mid]) := by simp
  have h1 := h.grow g1
  generalize σ ++ [AObj.cells [.map mid]] = σ1 at g1 ho h1
  simp -dsimp only [↓WPd, ↓wpC_block, ↓wpC_cond, WPu, Bool.false_eq_true, Bool.true_eq_false, Bool.not_true, Bool.not_false, if_true, if_false, ite_true, ite_false, Nat.reduceEqDiff, Nat.reduceLT, true_and, List.map_cons, List.map_nil, Nat.zero_add, Nat.reduceBEq]
  have hm := h1.map
  have em : (H.map fun p => nmV p.1) = (H.map (·.1)).map nmV := by rw [List.map_map]; rfl
  rw [em] at hm
  have hHR := hs.perm.length_eq
  refine calledW_of (sorted_ok d σ1 σ.length mid (H.map (·.1)) vs ho hm (by rw [List.length_map]; omega)) ?_
  rintro r σ2 ⟨hr, g2⟩
  rw [hs.sort] at hr
  have g02 := g1.trans g2
  have h2 := h1.grow g2
  have lr : lenSV r = some R.length := by rw [hr.len]; simp
  simp -dsimp only [↓WPd, ↓wpC_block, ↓wpC_cond, WPu, Bool.false_eq_true, Bool.true_eq_false, Bool.not_true, Bool.not_false, if_true, if_false, ite_true, ite_false, Nat.reduceEqDiff, Nat.reduceLT, true_and, List.map_cons, List.map_nil, Nat.zero_add, Nat.reduceBEq, lr]
  refine loop_rule2 (fun m vs' σ' => ∃ (k : Nat) (l : AVal) (us : List AVal), k ≤ R.length ∧ m = R.length - k ∧ vs' = [.ptr id 0, l, r, .int .i64 R.length, .int .i64 (k : Nat)] ∧ Grows σ σ' ∧ Grows σ2 σ' ∧ BRows σ' σ2.length l us (R.take k))
    [3] (fun e vs' σ' => e = .exit 0 ∧ ∃ (l : AVal) (us : List AVal), vs' = [l] ∧ Grows σ σ' ∧ BRows σ' σ2.length l us R) R.length
    ⟨0, .nilslice, [], Nat.zero_le _, rfl, ?_, g02, Keeps.refl _ _, XRows.nil _ _ _ _⟩ ?_ ?_
  · simp -dsimp only [↓WPd, ↓wpC_block, ↓wpC_cond, WPu, Bool.false_eq_true, Bool.true_eq_false, Bool.not_true, Bool.not_false, if_true, if_false, ite_true, ite_false, Nat.reduceEqDiff, Nat.reduceLT, true_and, List.map_cons, List.map_nil, Nat.zero_add, Nat.reduceBEq]; rfl
  · rintro m vs' σ' ⟨k, l, us, hk, rfl, rfl, g, g', hx⟩
    simp -dsimp only [↓WPd, ↓wpC_block, ↓wpC_cond, WPu, Bool.false_eq_true, Bool.true_eq_false, Bool.not_true, Bool.not_false, if_true, if_false, ite_true, ite_false, Nat.reduceEqDiff, Nat.reduceLT, true_and, List.map_cons, List.map_nil, Nat.zero_add, Nat.reduceBEq]
    refine condP_dec (fun hc => ?_) (fun hc => ?_)
    · have hk' : k < R.length := by omega
      have hr' := hr.grow g'
      have hke : k < ((R.map (·.1)).map nmV).length := by simpa using hk'
      have ia : iaddrV 2 r (.int .i64 k) = some (addrOf 2 r k) := hr'.iaddr hke .i64
      have hb := (hr'.addr hke .i64).2
      have hb' : behind σ' (addrOf 2 r k) = some (nmC R[k].1, 0) := by
        rw [hb]; simp only [List.getElem_map, nm_cells]
      have ld : loadV σ' 2 true (addrOf 2 r k) = some (nmV R[k].1) := loadN_at hb' (by simp [nmC])
      have ho' : (σ' ++ [AObj.cells (nmC R[k].1)])[σ'.length]? = some (.cells (nmC R[k].1)) := by simp
      have g3 : Grows σ' (σ' ++ [AObj.cells (nmC R[k].1)]) := Grows.app _ _
      simp -dsimp only [↓WPd, ↓wpC_block, ↓wpC_cond, WPu, Bool.false_eq_true, Bool.true_eq_false, Bool.not_true, Bool.not_false, if_true, if_false, ite_true, ite_false, Nat.reduceEqDiff, Nat.reduceLT, true_and, List.map_cons, List.map_nil, Nat.zero_add, Nat.reduceBEq, ia, ld, nm_putB]
      have h3 := (h2.grow g').grow g3
      have hx3 := hx.grow g3
      have g03 := g.trans g3
      have g23 := g'.trans g3
      have hl3 : σ2.length ≤ (σ' ++ [AObj.cells (nmC R[k].1)]).length := g23.1
      generalize σ' ++ [AObj.cells (nmC R[k].1)] = σ3 at ho' g3 h3 hx3 g03 g23 hl3
      obtain ⟨t, u1, u2⟩ := h3.look1 R[k].1
      have hlk : (lk H R[k].1).getD [] = R[k].2 := by
        rw [lk_of_mem hs.wf.keys (t := R[k].2) (hs.perm.mem_iff.2 (show (R[k].1, R[k].2) ∈ R from List.getElem_mem hk'))]; rfl
      rw [hlk] at u2
      refine drawnP_of rfl ?_
      simp -dsimp only [↓WPd, ↓wpC_block, ↓wpC_cond, WPu, Bool.false_eq_true, Bool.true_eq_false, Bool.not_true, Bool.not_false, if_true, if_false, ite_true, ite_false, Nat.reduceEqDiff, Nat.reduceLT, true_and, List.map_cons, List.map_nil, Nat.zero_add, Nat.reduceBEq, ↓WPed, WPeu, Nat.reduceAdd, and_self, load_nm ho', isnil_ptr, faddr_ptr, Nat.add_zero, load_cells h3.obj, e1, u1]
      refine calledW_of (cclone_ok d σ3 t R[k].2 (hsm _ (List.getElem_mem hk')) (u2 σ3)) ?_
      rintro u σ4 ⟨g4, ou, fu, nu⟩
      obtain ⟨l', σ5, a1, a2, a3⟩ := hx3.push hl3 g4 (x := bdV R[k].1 u) ou (fu.le (Nat.le_refl _)) nu 40 (by have := hx3.lex; have := hx3.len; simp only [List.length_map, List.length_take] at this; omega)
      have fl := elems_fs 3 (AVal.tagL [bdV R[k].1 u]) true σ4 [bdV R[k].1 u]
      simp -dsimp only [↓WPd, ↓wpC_block, ↓wpC_cond, WPu, Bool.false_eq_true, Bool.true_eq_false, Bool.not_true, Bool.not_false, if_true, if_false, ite_true, ite_false, Nat.reduceEqDiff, Nat.reduceLT, true_and, List.map_cons, List.map_nil, Nat.zero_add, Nat.reduceBEq, ↓WPed, WPeu, Nat.reduceAdd, and_self, load_nm ho', load_nm (g4.get ho'), isnil_ptr, faddr_ptr, Nat.add_zero, bd_build R[k].1 u ou.one, bd_lit R[k].1 u ou.one, fl, a1]
      have ht : R.take (k + 1) = R.take k ++ [R[k]] := List.take_succ_eq_append_getElem hk'
      have hul : us.length = (R.take k).length := by have := hx3.len; simpa using this
      have hbd : bdVs (R.take (k + 1)) (us ++ [u]) = bdVs (R.take k) us ++ [bdV R[k].1 u] := by
        rw [ht]; unfold bdVs
        rw [List.zipWith_append hul.symm]; rfl
      refine ⟨R.length - (k + 1), by omega, k + 1, l', us ++ [u], by omega, rfl, by rw [wrap_i64 (by omega) (by omega), Int.natCast_add, Int.natCast_one], ?_, ?_, ?_⟩
      · exact Keeps.trans (g03.trans g4) a3 fun i hi e => by have := g02.1; omega
      · exact Keeps.trans (g23.trans g4) a3 fun i hi e => by omega
      · rw [BRows, hbd, ht, List.map_append]; exact a2
    · have : k = R.length := by omega
      subst this
      rw [List.take_length] at hx
      simp -dsimp only [↓WPd, ↓wpC_block, ↓wpC_cond, WPu, Bool.false_eq_true, Bool.true_eq_false, Bool.not_true, Bool.not_false, if_true, if_false, ite_true, ite_false, Nat.reduceEqDiff, Nat.reduceLT, true_and, List.map_cons, List.map_nil, Nat.zero_add, Nat.reduceBEq]
      exact ⟨l, us, rfl, g, hx⟩
  · rintro e σ' env ⟨rfl, l, us, hv, g, hx⟩
    simp only [List.map_cons, List.map_nil, List.cons.injEq, and_true] at hv
    simp -dsimp only [↓WPd, ↓wpC_block, ↓wpC_cond, WPu, Bool.false_eq_true, Bool.true_eq_false, Bool.not_true, Bool.not_false, if_true, if_false, ite_true, ite_false, Nat.reduceEqDiff, Nat.reduceLT, true_and, List.map_cons, List.map_nil, Nat.zero_add, Nat.reduceBEq, hv]
    exact ⟨g, us, hx.lo g02.1⟩
end
end Go.Proofs.YtkjnanfkclijcaaDoor.Am

namespace Go.Proofs.YtkjnanfkclijcaaDoor.Am
open Go
set_option linter.unusedVariables false
set_option linter.unusedSimpArgs false
set_option linter.unusedSectionVars false
set_option maxRecDepth 100000
def BdSl (σ : Store) (v : AVal) (R : Hp) : Prop := ∃ es, SlOf σ 3 v es ∧ Two (fun e p => ∃ u, e = bdV p.1 u ∧ SlOf σ 5 u (CC p.2)) es R
theorem BdSl.grow {σ σ' : Store} {v : AVal} {R : Hp} (h : BdSl σ v R) (g : Grows σ σ') : BdSl σ' v R := by
  obtain ⟨es, h1, h2⟩ := h
  exact ⟨es, h1.grow g, h2.mono fun e p ⟨u, hu, hs⟩ => ⟨u, hu, hs.grow g⟩⟩
theorem BdSl.len {σ : Store} {v : AVal} {R : Hp} (h : BdSl σ v R) : lenSV v = some R.length := by
  obtain ⟨es, h1, h2⟩ := h
  rw [← h2.len]; exact h1.len
theorem BdSl.at {σ : Store} {v : AVal} {R : Hp} (h : BdSl σ v R) {k : Nat} (hk : k < R.length) : ∃ q0 q2 u, iaddrV 3 v (.int .i64 k) = some (addrOf 3 v k) ∧ faddrV 0 (addrOf 3 v k) = some q0 ∧ loadV σ 2 true q0 = some (nmV R[k].1) ∧ faddrV 2 (addrOf 3 v k) = some q2 ∧ loadV σ 1 false q2 = some u ∧ SlOf σ 5 u (CC R[k].2) := by
  obtain ⟨es, h1, h2⟩ := h
  have hke : k < es.length := by rw [h2.len]; exact hk
  obtain ⟨e, he1, u, he2, he3⟩ := h2.get hk
  have hee : es[k] = e := by rw [List.getElem?_eq_getElem hke] at he1; exact Option.some.inj he1
  have hb := (h1.addr hke .i64).2
  rw [hee, he2] at hb
  have hb' : behind σ (addrOf 3 v k) = some (bdC (R[k]).1 u, 0) := hb
  obtain ⟨q0, p0, b0⟩ := faddr_at hb' 0
  obtain ⟨q2, p2, b2⟩ := faddr_at hb' 2
  exact ⟨q0, q2, u, h1.iaddr hke .i64, p0, loadN_at b0 (by simp [bdC]), p2, load_at b2, he3⟩
theorem RefP.bds {σ : Store} {A : Nat → Prop} {id : Nat} {R : Hp} (h : RefP σ A id R) : ∃ w, σ[id]? = some (.cells [w]) ∧ BdSl σ w R := by
  obtain ⟨w, es, h1, h2, _, h4⟩ := h
  exact ⟨w, h1, es, h2, h4.mono fun e p ⟨u, hu, hs, _⟩ => ⟨u, hu, hs⟩⟩
theorem bdVs_get {R : Hp} {us : List AVal} (h : us.length = R.length) {k : Nat} (hk : k < R.length) : (bdVs R us)[k]? = some (bdV R[k].1 (us[k]'(by omega))) := by
  unfold bdVs
  rw [List.getElem?_zipWith, List.getElem?_eq_getElem hk, List.getElem?_eq_getElem (by omega)]
theorem BRows.bds {σ : Store} {lo : Nat} {l : AVal} {us : List AVal} {R : Hp} (h : BRows σ lo l us R) : BdSl σ l R := by
  have hl : us.length = R.length := by have := h.len; simpa using this
  refine ⟨_, h.row.sl, Two.of_get (by rw [h.lex]; exact hl) fun i a b hi hj => ?_⟩
  obtain ⟨hk, rfl⟩ := List.getElem?_eq_some_iff.1 hj
  have e := bdVs_get hl hk
  rw [hi] at e
  exact ⟨us[i]'(by omega), Option.some.inj e, (h.one i (us[i]'(by omega)) (CC R[i].2) (List.getElem?_eq_getElem _) (by simp [hk])).sl⟩
section
variable (d : Nat) (σ : Store)
theorem hvalue_ok (hv : AVal) (H : Hp) (v : Nm) (h : HeapV σ hv H) (hs : ((lk H v).getD []).length < 2 ^ 30) : Called CU.cfg d 38 [hv, nmV v] σ fun r σ' => ∃ u, r = .tuple [u, .bool (lk H v).isSome] ∧ Own σ' 5 u (CC ((lk H v).getD [])) ∧ Fresh σ.length u ∧ NoLit u ∧ Grows σ σ' := by
  refine called_of (fn := CU.a38) rfl (Nat.le_of_ble_eq_true rfl) ?_
  simp only [CU.a38]
  simp -dsimp only [↓WPd, ↓wpC_block, ↓wpC_cond, WPu, Bool.false_eq_true, Bool.true_eq_false, Bool.not_true, Bool.not_false, if_true, if_false, ite_true, ite_false, Nat.reduceEqDiff, Nat.reduceLT, true_and, List.map_cons, List.map_nil, Nat.zero_add, Nat.reduceBEq, nm_cells, nm_one]
  have ho : (σ ++ [AObj.cells (nmC v)])[σ.length]? = some (.cells (nmC v)) := by simp
  have g0 : Grows σ (σ ++ [AObj.cells (nmC v)]) := Grows.app _ _
  have h1 := h.grow g0
  generalize σ ++ [AObj.cells (nmC v)] = σ1 at ho g0 h1
  simp -dsimp only [↓WPd, ↓wpC_block, ↓wpC_cond, WPu, Bool.false_eq_true, Bool.true_eq_false, Bool.not_true, Bool.not_false, if_true, if_false, ite_true, ite_false, Nat.reduceEqDiff, Nat.reduceLT, true_and, List.map_cons, List.map_nil, Nat.zero_add, Nat.reduceBEq, load_nm ho]
  refine calledW_of (value_ok d σ1 hv H v h1) ?_
  rintro r σ2 ⟨u, rfl, hu, g2⟩
  simp -dsimp only [↓WPd, ↓wpC_block, ↓wpC_cond, WPu, Bool.false_eq_true, Bool.true_eq_false, Bool.not_true, Bool.not_false, if_true, if_false, ite_true, ite_false, Nat.reduceEqDiff, Nat.reduceLT, true_and, List.map_cons, List.map_nil, Nat.zero_add, Nat.reduceBEq, List.getElem?_cons_zero, List.getElem?_cons_succ]
  refine calledW_of (cclone_ok d σ2 u _ hs (hu σ2)) ?_
  rintro w σ3 ⟨g3, ow, fw, nw⟩
  simp -dsimp only [↓WPd, ↓wpC_block, ↓wpC_cond, WPu, Bool.false_eq_true, Bool.true_eq_false, Bool.not_true, Bool.not_false, if_true, if_false, ite_true, ite_false, Nat.reduceEqDiff, Nat.reduceLT, true_and, List.map_cons, List.map_nil, Nat.zero_add, Nat.reduceBEq]
  exact ⟨w, rfl, ow, fw.le (g0.trans g2).1, nw, (g0.trans g2).trans g3⟩
end
end Go.Proofs.YtkjnanfkclijcaaDoor.Am

namespace Go.Proofs.YtkjnanfkclijcaaDoor.Am
open Go
set_option linter.unusedVariables false
set_option linter.unusedSimpArgs false
set_option linter.unusedSectionVars false
set_option maxRecDepth 100000
theorem Own.setN {σ : Store} {v : AVal} {t : List Cel} (h : Own σ 5 v (CC t)) (hn : NoLit v) {i : Nat} (hi : i < t.length) (x : Int) :
    ∃ q σ', faddrV 2 (addrOf 5 v i) = some q ∧ storeV σ 1 q (.int .i64 x) = some σ' ∧ Own σ' 5 v (CC (t.set i { t[i] with n := x })) ∧ Keeps (fun j => v.sid = some j) σ σ' := by
  have hi' : i < (CC t).length := by simpa using hi
  rcases h.own with ⟨rfl, he⟩ | ⟨tg, rfl⟩ | ⟨id, ep, off, cap, xs, epo, fl, rfl, ho, hf, he, hl, hc⟩
  · rw [he] at hi'; simp at hi'
  · have : CC t = [] := hn
    rw [this] at hi'; simp at hi'
  · rcases hc with ⟨rfl, rfl, rfl, rfl⟩ | rfl
    · have ha : addrOf 5 (.slice 5 id epo 0 (CC t).length none) i = .eptr id epo i 0 := by
        have e : (0 : Int) ≤ (i : Int) ∧ (i : Int) < ((CC t).length : Int) := by omega
        simp only [addrOf, iaddrV, e, and_self, if_true]
        simp
      refine ⟨.eptr id epo i 2, σ.set id (.arr 5 (CC (t.set i { t[i] with n := x })) epo epo), by rw [ha]; rfl, ?_, ?_, (Keeps.set _ _ _).mono fun j _ h => by rw [h]; rfl⟩
      · have e1 : (CC t)[i]? = some t[i].val := by rw [List.getElem?_eq_getElem hi', cel_get]
        have e2 : (CC t).set i (Cel.val { t[i] with n := x }) = CC (t.set i { t[i] with n := x }) := List.map_set.symm
        rw [← e2]
        simp only [storeV, ho, e1]
        rfl
      · have := Own.whole (σ := σ.set id (.arr 5 (CC (t.set i { t[i] with n := x })) epo epo)) (sz := 5) (id := id) (ep := epo) (fl := epo) (es := CC (t.set i { t[i] with n := x })) (by rw [List.getElem?_set_self (List.getElem?_eq_some_iff.1 ho).1]) (Nat.le_refl _)
        simpa using this
    · exact hn.elim
theorem BdArg.all {v : AVal} {bs : Hp} (h : BdArg v bs) {k : Nat} (hk : k < bs.length) : ∃ q0 q2 u, iaddrV 3 v (.int .i64 k) = some (addrOf 3 v k) ∧ faddrV 0 (addrOf 3 v k) = some q0 ∧ (∀ σ, loadV σ 2 true q0 = some (nmV bs[k].1)) ∧ faddrV 2 (addrOf 3 v k) = some q2 ∧ (∀ σ, loadV σ 1 false q2 = some u) ∧ Told u bs[k].2 := by
  obtain ⟨es, h1, h2⟩ := h.row
  have hke : k < es.length := by rw [h2.len]; exact hk
  obtain ⟨e, he1, u, he2, he3⟩ := h2.get hk
  have hee : es[k] = e := by rw [List.getElem?_eq_getElem hke] at he1; exact Option.some.inj he1
  have hb : ∀ σ, behind σ (addrOf 3 v k) = some (bdC (bs[k]).1 u, 0) := fun σ => by
    have hb := ((h1 σ).addr hke .i64).2
    rw [hee, he2] at hb; exact hb
  obtain ⟨q0, p0, -⟩ := faddr_at (hb []) 0
  obtain ⟨q2, p2, -⟩ := faddr_at (hb []) 2
  refine ⟨q0, q2, u, (h1 []).iaddr hke .i64, p0, fun σ => ?_, p2, fun σ => ?_, he3⟩
  · obtain ⟨q, r0, r1⟩ := faddr_at (hb σ) 0
    rw [p0] at r0
    rw [Option.some.inj r0]
    exact loadN_at r1 (by simp [bdC])
  · obtain ⟨q, r0, r1⟩ := faddr_at (hb σ) 2
    rw [p2] at r0
    rw [Option.some.inj r0]
    exact load_at r1
section
variable (d : Nat) (σ : Store)
set_option maxHeartbeats 2000000 in
theorem both5_ok (bv : AVal) (bs : Hp) (h : BdArg bv bs) : Called CU.cfg d 35 [bv] σ fun v σ' => ∃ id mid vs rid A, v = .tuple [.ptr id 0, .ptr rid 0, .bool true] ∧ HeapP σ' id mid vs (bindsH [] bs) ∧ RefP σ' A rid (bindsR [] bs) ∧ Grows σ σ' ∧ (σ.length ≤ id ∧ σ.length ≤ mid ∧ σ.length ≤ rid ∧ ∀ i, A i → σ.length ≤ i) ∧ id ≠ rid ∧ mid ≠ rid ∧ id ≠ mid := by
  refine called_of (fn := CU.a35) rfl (Nat.le_of_ble_eq_true rfl) ?_
  simp only [CU.a35]
  have lb := h.len'
  have hlt := h.len
  simp -dsimp only [↓WPd, ↓wpC_block, ↓wpC_cond, WPu, Bool.false_eq_true, Bool.true_eq_false, Bool.not_true, Bool.not_false, if_true, if_false, ite_true, ite_false, Nat.reduceEqDiff, Nat.reduceLT, true_and, List.map_cons, List.map_nil, Nat.zero_add, Nat.reduceBEq]
  refine calledW_of (hnew_ok d σ) ?_
  rintro r σ1 ⟨id, mid, rfl, h1, g1, l1, l2, m1, m2⟩
  simp -dsimp only [↓WPd, ↓wpC_block, ↓wpC_cond, WPu, Bool.false_eq_true, Bool.true_eq_false, Bool.not_true, Bool.not_false, if_true, if_false, ite_true, ite_false, Nat.reduceEqDiff, Nat.reduceLT, true_and, List.map_cons, List.map_nil, Nat.zero_add, Nat.reduceBEq]
  refine calledW_of (rnew_ok d σ1) ?_
  rintro r σ2 ⟨rid, rfl, r2, g2, l3, m3⟩
  have hm : id ≠ mid := fun e => by have a := h1.obj; rw [e, h1.map] at a; cases a
  simp -dsimp only [↓WPd, ↓wpC_block, ↓wpC_cond, WPu, Bool.false_eq_true, Bool.true_eq_false, Bool.not_true, Bool.not_false, if_true, if_false, ite_true, ite_false, Nat.reduceEqDiff, Nat.reduceLT, true_and, List.map_cons, List.map_nil, Nat.zero_add, Nat.reduceBEq]
  refine loop_rule2 (fun m vs σ' => ∃ k ws A, k ≤ bs.length ∧ m = bs.length - k ∧ vs = [bv, .ptr id 0, .ptr rid 0, .int .i64 (k : Nat)] ∧ HeapP σ' id mid ws (bindsH [] (bs.take k)) ∧ RefP σ' A rid (bindsR [] (bs.take k)) ∧ (∀ i, A i → σ2.length ≤ i) ∧ Grows σ σ' ∧ σ2.length ≤ σ'.length)
    [5, 6] (fun e vs σ' => e = .exit 0 ∧ ∃ ws A, vs = [.ptr id 0, .ptr rid 0] ∧ HeapP σ' id mid ws (bindsH [] bs) ∧ RefP σ' A rid (bindsR [] bs) ∧ (∀ i, A i → σ2.length ≤ i) ∧ Grows σ σ') bs.length
    ⟨0, [], _, Nat.zero_le _, rfl, ?_, h1.grow g2, r2, (fun i h => h.elim), g1.trans g2, Nat.le_refl _⟩ ?_ ?_
  · simp -dsimp only [↓WPd, ↓wpC_block, ↓wpC_cond, WPu, Bool.false_eq_true, Bool.true_eq_false, Bool.not_true, Bool.not_false, if_true, if_false, ite_true, ite_false, Nat.reduceEqDiff, Nat.reduceLT, true_and, List.map_cons, List.map_nil, Nat.zero_add, Nat.reduceBEq]; rfl
  · rintro m vs σ' ⟨k, ws, A, hk, rfl, rfl, hh, hr, hA, g, hl⟩
    simp -dsimp only [↓WPd, ↓wpC_block, ↓wpC_cond, WPu, Bool.false_eq_true, Bool.true_eq_false, Bool.not_true, Bool.not_false, if_true, if_false, ite_true, ite_false, Nat.reduceEqDiff, Nat.reduceLT, true_and, List.map_cons, List.map_nil, Nat.zero_add, Nat.reduceBEq, lb]
    refine condP_dec (fun hc => ?_) (fun hc => ?_)
    · have hk' : k < bs.length := by omega
      obtain ⟨q0, q2, u, a1, a2, a3, a4, a5, a6⟩ := h.all hk'
      have hsm := h.small _ (List.getElem_mem hk')
      have el := (a6 σ').els
      obtain ⟨t8, σ3, p1, p2, p3, p4, p5⟩ := (Own.nil σ' 5).append (CC bs[k].2) 48 (by rw [List.length_map]; have := hsm.1; simp only [List.length_nil]; omega)
      rw [List.nil_append] at p2
      have g3 : Grows σ' σ3 := p3.mono fun i _ h => by cases h
      have f8 : Fresh σ'.length t8 := fun i hi => by
        rcases p4 i hi with e | e
        · cases e
        · omega
      simp -dsimp only [↓WPd, ↓wpC_block, ↓wpC_cond, WPu, Bool.false_eq_true, Bool.true_eq_false, Bool.not_true, Bool.not_false, if_true, if_false, ite_true, ite_false, Nat.reduceEqDiff, Nat.reduceLT, true_and, List.map_cons, List.map_nil, Nat.zero_add, Nat.reduceBEq, a1, a4, a5, el, p1]
      refine drawnP_of rfl ?_
      simp -dsimp only [↓WPd, ↓wpC_block, ↓wpC_cond, WPu, Bool.false_eq_true, Bool.true_eq_false, Bool.not_true, Bool.not_false, if_true, if_false, ite_true, ite_false, Nat.reduceEqDiff, Nat.reduceLT, true_and, List.map_cons, List.map_nil, Nat.zero_add, Nat.reduceBEq, ↓WPed, WPeu, Nat.reduceAdd, and_self, a1, a2, a3, a4, a5]
      refine calledW_of (hbind_ok d σ3 id mid ws _ bs[k].1 t8 bs[k].2 (hh.grow g3) hsm p2.sl) ?_
      rintro r3 σ4 ⟨rfl, ⟨ws4, h4⟩, k4⟩
      have hmid : mid < σ'.length := (List.getElem?_eq_some_iff.1 hh.map).1
      have hr4 : RefP σ4 (fun i => A i ∧ i < σ'.length) rid (bindsR [] (bs.take k)) := by
        refine ((hr.keeps (B := fun i => A i ∧ i < σ'.length) (Keeps.refl (fun _ => False) σ') (fun h => h) fun i hi ha => ⟨⟨ha, hi⟩, fun h => h⟩).grow g3).keeps k4 (by omega) fun i hi ha => ⟨ha, fun e => ?_⟩
        have := hA i ha.1
        have := g2.1
        omega
      have p8 : Own σ4 5 t8 (CC bs[k].2) := p2.keeps k4 fun i hi e => by have := f8 i hi; omega
      have hRl := bindsR_len (bs.take k) []
      have htk : (bs.take k).length ≤ bs.length := by simp; omega
      simp -dsimp only [↓WPd, ↓wpC_block, ↓wpC_cond, WPu, Bool.false_eq_true, Bool.true_eq_false, Bool.not_true, Bool.not_false, if_true, if_false, ite_true, ite_false, Nat.reduceEqDiff, Nat.reduceLT, true_and, List.map_cons, List.map_nil, Nat.zero_add, Nat.reduceBEq, ↓WPed, WPeu, Nat.reduceAdd, and_self, a1, a2, a3, a4, a5]
      refine calledW_of (rbind_ok d σ4 _ rid _ bs[k].1 u bs[k].2 hr4 (by simp only [List.length_nil] at hRl; omega) hsm.1 (a6 σ4)) ?_
      rintro r4 σ5 ⟨rfl, r5, k5⟩
      have p9 : Own σ5 5 t8 (CC bs[k].2) := p8.keeps k5 fun i hi e => by have := f8 i hi; omega
      have hsame : Same (bindsH [] (bs.take k)) (bindsR [] (bs.take k)) := Same.nil.binds _
      have ee : (bindE (bindsH [] (bs.take k)) bs[k].1 bs[k].2 != bindE (bindsR [] (bs.take k)) bs[k].1 bs[k].2) = false := by rw [hsame.bindE]; simp
      simp -dsimp only [↓WPd, ↓wpC_block, ↓wpC_cond, WPu, Bool.false_eq_true, Bool.true_eq_false, Bool.not_true, Bool.not_false, if_true, if_false, ite_true, ite_false, Nat.reduceEqDiff, Nat.reduceLT, true_and, List.map_cons, List.map_nil, Nat.zero_add, Nat.reduceBEq, ↓WPed, WPeu, Nat.reduceAdd, and_self, a1, a2, a3, a4, a5, ee]
      refine calledW_of (cequal_ok d σ5 t8 u bs[k].2 bs[k].2 (by have := hsm.1; omega) p9.sl (a6 σ5)) ?_
      rintro r6 σ6 ⟨rfl, rfl⟩
      simp -dsimp only [↓WPd, ↓wpC_block, ↓wpC_cond, WPu, Bool.false_eq_true, Bool.true_eq_false, Bool.not_true, Bool.not_false, if_true, if_false, ite_true, ite_false, Nat.reduceEqDiff, Nat.reduceLT, true_and, List.map_cons, List.map_nil, Nat.zero_add, Nat.reduceBEq, ↓WPed, WPeu, Nat.reduceAdd, and_self, a1, a2, a3, a4, a5, ee, decide_true]
      have n8 : NoLit t8 := p5 (.inl trivial)
      have s8 : ∀ i, t8.sid = some i → σ'.length ≤ i ∧ i < σ3.length := fun i hi => ⟨f8 i hi, p2.sl.lt hi⟩
      refine loop_rule2 (fun m vs σ' => ∃ (j : Nat) (cs : List Cel), j ≤ bs[k].2.length ∧ cs.length = bs[k].2.length ∧ m = bs[k].2.length - j ∧ vs = [bv, .ptr id 0, .ptr rid 0, .int .i64 (k : Nat), t8, .int .i64 (j : Nat)] ∧ Own σ' 5 t8 (CC cs) ∧ Keeps (fun i => t8.sid = some i) σ6 σ')
        [0, 5, 6, 7] (fun e vs σ' => e = .exit 2 ∧ vs = [bv, .ptr id 0, .ptr rid 0, .int .i64 (k : Nat)] ∧ Keeps (fun i => t8.sid = some i) σ6 σ') bs[k].2.length
        ⟨0, bs[k].2, Nat.zero_le _, rfl, rfl, ?_, p9, Keeps.refl _ _⟩ ?_ ?_
      · simp -dsimp only [↓WPd, ↓wpC_block, ↓wpC_cond, WPu, Bool.false_eq_true, Bool.true_eq_false, Bool.not_true, Bool.not_false, if_true, if_false, ite_true, ite_false, Nat.reduceEqDiff, Nat.reduceLT, true_and, List.map_cons, List.map_nil, Nat.zero_add, Nat.reduceBEq]; rfl
      · rintro m vs σ7 ⟨j, cs, hj, hcl, rfl, rfl, o7, k7⟩
        have l7 := o7.sl.len
        rw [List.length_map] at l7
        simp -dsimp only [↓WPd, ↓wpC_block, ↓wpC_cond, WPu, Bool.false_eq_true, Bool.true_eq_false, Bool.not_true, Bool.not_false, if_true, if_false, ite_true, ite_false, Nat.reduceEqDiff, Nat.reduceLT, true_and, List.map_cons, List.map_nil, Nat.zero_add, Nat.reduceBEq, l7]
        refine condP_dec (fun hc => ?_) (fun hc => ?_)
        · have hj' : j < cs.length := by omega
          obtain ⟨q, σ8, f1, f2, f3, f4⟩ := o7.setN n8 hj' 99
          have ia := o7.sl.iaddr (show j < (CC cs).length by simpa using hj') .i64
          simp -dsimp only [↓WPd, ↓wpC_block, ↓wpC_cond, WPu, Bool.false_eq_true, Bool.true_eq_false, Bool.not_true, Bool.not_false, if_true, if_false, ite_true, ite_false, Nat.reduceEqDiff, Nat.reduceLT, true_and, List.map_cons, List.map_nil, Nat.zero_add, Nat.reduceBEq, ia, f1, f2]
          have := hsm.1
          refine ⟨bs[k].2.length - (j + 1), by omega, j + 1, _, by omega, by simpa using hcl, rfl, by rw [wrap_i64 (by omega) (by omega), Int.natCast_add, Int.natCast_one], f3, Keeps.trans k7 f4 fun i _ e => e⟩
        · simp -dsimp only [↓WPd, ↓wpC_block, ↓wpC_cond, WPu, Bool.false_eq_true, Bool.true_eq_false, Bool.not_true, Bool.not_false, if_true, if_false, ite_true, ite_false, Nat.reduceEqDiff, Nat.reduceLT, true_and, List.map_cons, List.map_nil, Nat.zero_add, Nat.reduceBEq]
          exact k7
      · rintro e σ7 env ⟨rfl, hv, k7⟩
        simp only [List.map_cons, List.map_nil, List.cons.injEq, and_true] at hv
        obtain ⟨v0, v5, v6, v7⟩ := hv
        simp -dsimp only [↓WPd, ↓wpC_block, ↓wpC_cond, WPu, Bool.false_eq_true, Bool.true_eq_false, Bool.not_true, Bool.not_false, if_true, if_false, ite_true, ite_false, Nat.reduceEqDiff, Nat.reduceLT, true_and, List.map_cons, List.map_nil, Nat.zero_add, Nat.reduceBEq, v0, v5, v6, v7]
        have ht : bs.take (k + 1) = bs.take k ++ [bs[k]] := List.take_succ_eq_append_getElem hk'
        have hid : id < σ'.length := (List.getElem?_eq_some_iff.1 hh.obj).1
        have hrid : rid < σ'.length := by obtain ⟨w, es, o1, _⟩ := hr; exact (List.getElem?_eq_some_iff.1 o1).1
        have gs := g3.1
        have ks := k4.1
        have ks5 := k5.1
        have ks7 := k7.1
        have g1s := g1.1
        refine ⟨bs.length - (k + 1), by omega, k + 1, ws4, (fun i => (A i ∧ i < σ'.length) ∨ σ4.length ≤ i), by omega, rfl, by rw [wrap_i64 (by omega) (by omega), Int.natCast_add, Int.natCast_one], ?_, ?_, ?_, ?_, by omega⟩
        · rw [ht, bindsH_snoc]
          exact (h4.keeps k5 (by omega) (by omega)).keeps k7 (fun e => by have := s8 _ e; omega) (fun e => by have := s8 _ e; omega)
        · rw [ht, bindsR_snoc]
          exact r5.keeps k7 (fun e => by have := s8 _ e; omega) fun i hi ha => ⟨ha, fun e => by have := s8 _ e; rcases ha with ha | ha <;> omega⟩
        · rintro i (ha | ha)
          · exact hA i ha.1
          · omega
        · refine Keeps.trans (Keeps.trans (Keeps.trans (g.trans g3) k4 fun i hi e => by omega) k5 fun i hi e => by omega) k7 fun i hi e => by have := s8 _ e; have := g.1; omega
    · have : k = bs.length := by omega
      subst this
      rw [List.take_length] at hh hr
      simp -dsimp only [↓WPd, ↓wpC_block, ↓wpC_cond, WPu, Bool.false_eq_true, Bool.true_eq_false, Bool.not_true, Bool.not_false, if_true, if_false, ite_true, ite_false, Nat.reduceEqDiff, Nat.reduceLT, true_and, List.map_cons, List.map_nil, Nat.zero_add, Nat.reduceBEq]
      exact ⟨ws, A, hh, hr, hA, g⟩
  · rintro e σ' env ⟨rfl, ws, A, hv, hh, hr, hA, g⟩
    simp only [List.map_cons, List.map_nil, List.cons.injEq, and_true] at hv
    obtain ⟨v4, v5⟩ := hv
    simp -dsimp only [↓WPd, ↓wpC_block, ↓wpC_cond, WPu, Bool.false_eq_true, Bool.true_eq_false, Bool.not_true, Bool.not_false, if_true, if_false, ite_true, ite_false, Nat.reduceEqDiff, Nat.reduceLT, true_and, List.map_cons, List.map_nil, Nat.zero_add, Nat.reduceBEq, v4, v5]
    have := g1.1
    exact ⟨id, mid, ws, rid, A, rfl, hh, hr, g, ⟨m1, m2, by omega, fun i ha => by have := hA i ha; have := g2.1; omega⟩, by omega, by omega, hm⟩
end
end Go.Proofs.YtkjnanfkclijcaaDoor.Am

namespace Go.Proofs.YtkjnanfkclijcaaDoor.Am
open Go
set_option linter.unusedVariables false
set_option linter.unusedSimpArgs false
theorem bindH_keeps {H : Hp} {v w : Nm} {t u : List Cel} (h : lk H v = some t) : lk (bindH H w u) v = some t := by
  unfold bindH
  split
  · rename_i e
    have hn := (bindE_zero e).2
    rw [lk_app H w u v hn]
    split
    · rename_i e; subst e; rw [hn] at h; cases h
    · exact h
  · exact h
theorem bindsH_keeps : ∀ (bs : Hp) {H : Hp} {v : Nm} {t : List Cel}, lk H v = some t → lk (bindsH H bs) v = some t
  | [], _, _, _, h => h
  | p :: bs, _, _, _, h => bindsH_keeps bs (bindH_keeps h)
theorem WF.short {H : Hp} (hw : WF H) {p : Nm × List Cel} (hp : p ∈ H) : p.2.length ≤ 256 := (right_len (glob_right (hw.ok _ hp).2.2.1)).2
theorem WF.lk_short {H : Hp} (hw : WF H) (v : Nm) : ((lk H v).getD []).length ≤ 256 := by
  cases h : lk H v with
  | none => simp
  | some t => exact hw.short (lk_mem h)
end Go.Proofs.YtkjnanfkclijcaaDoor.Am

namespace Go.Proofs.YtkjnanfkclijcaaDoor.Am
open Go
set_option maxRecDepth 100000
theorem live05_ran : (run CU.cfg 300 1 39 [] []).map (fun p => p.1) = some (.bool true) := by kernel_rfl
end Go.Proofs.YtkjnanfkclijcaaDoor.Am

namespace Go.Proofs.YtkjnanfkclijcaaDoor.Am
open Go
set_option linter.unusedVariables false
set_option linter.unusedSimpArgs false
set_option linter.unusedSectionVars false
set_option maxRecDepth 100000
theorem BRows.keeps {σ σ' : Store} {M : Nat → Prop} {lo : Nat} {l : AVal} {us : List AVal} {R : Hp} (h : BRows σ lo l us R) (g : Keeps M σ σ') (hm : ∀ i, i < σ.length → lo ≤ i → ¬ M i) : BRows σ' lo l us R := XRows.keeps h g hm
theorem Told.at {u : AVal} {t : List Cel} (h : Told u t) (σ : Store) : SlOf σ 5 u (CC t) := h σ
set_option maxHeartbeats 1000000 in
theorem stays_run (bv mv : AVal) (bs ms : Hp) (hb : BdArg bv bs) (hm : BdArg mv ms) :
    Called CU.cfg 0 7 [bv, mv] [] fun v _ => v = .bool true := by
  refine called_of (fn := CU.a7) rfl (Nat.le_of_ble_eq_true rfl) ?_
  simp only [CU.a7]
  simp -dsimp only [↓WPd, ↓wpC_block, ↓wpC_cond, WPu, Bool.false_eq_true, Bool.true_eq_false, Bool.not_true, Bool.not_false, if_true, if_false, ite_true, ite_false, Nat.reduceEqDiff, Nat.reduceLT, true_and, List.map_cons, List.map_nil, Nat.zero_add, Nat.reduceBEq, WPm]
  refine calledW_of (both5_ok 0 [] bv bs hb) ?_
  rintro r σ1 ⟨id, mid, vs, rid, A, rfl, h1, -, g1, -, -, -, -⟩
  have hw := h1.wf
  have hs : Same (bindsH [] bs) (bindsR [] bs) := Same.nil.binds bs
  have hlen := bindsR_len bs []
  have hlb := hb.len
  have hlm := hm.len
  simp only [List.length_nil] at hlen
  generalize bindsH [] bs = H at *
  generalize bindsR [] bs = R at *
  simp -dsimp only [↓WPd, ↓wpC_block, ↓wpC_cond, WPu, Bool.false_eq_true, Bool.true_eq_false, Bool.not_true, Bool.not_false, if_true, if_false, ite_true, ite_false, Nat.reduceEqDiff, Nat.reduceLT, true_and, List.map_cons, List.map_nil, Nat.zero_add, Nat.reduceBEq, WPm, List.getElem?_cons_zero, List.getElem?_cons_succ]
  refine calledW_of (bindings_ok 0 σ1 id mid vs H R h1 hs (by omega) fun p hp => by have := hs.wfr.short hp; omega) ?_
  rintro l σ2 ⟨g2, us, hl⟩
  have h2 := h1.grow g2
  have hmid : mid < σ1.length := (List.getElem?_eq_some_iff.1 h1.map).1
  have lm := hm.len'
  simp -dsimp only [↓WPd, ↓wpC_block, ↓wpC_cond, WPu, Bool.false_eq_true, Bool.true_eq_false, Bool.not_true, Bool.not_false, if_true, if_false, ite_true, ite_false, Nat.reduceEqDiff, Nat.reduceLT, true_and, List.map_cons, List.map_nil, Nat.zero_add, Nat.reduceBEq, WPm]
  refine loop_rule2 (fun m vs σ' => ∃ k ws, k ≤ ms.length ∧ m = ms.length - k ∧ vs = [mv, .ptr id 0, .bool true, l, .int .i64 (k : Nat)] ∧ HeapP σ' id mid ws (bindsH H (ms.take k)) ∧ BRows σ' σ1.length l us R)
    [5, 7, 8] (fun e vs σ' => e = .exit 0 ∧ vs = [.ptr id 0, .bool true, l] ∧ (∃ ws, HeapP σ' id mid ws (bindsH H ms)) ∧ BRows σ' σ1.length l us R) ms.length
    ⟨0, _, Nat.zero_le _, rfl, ?_, h2, hl⟩ ?_ ?_
  · simp -dsimp only [↓WPd, ↓wpC_block, ↓wpC_cond, WPu, Bool.false_eq_true, Bool.true_eq_false, Bool.not_true, Bool.not_false, if_true, if_false, ite_true, ite_false, Nat.reduceEqDiff, Nat.reduceLT, true_and, List.map_cons, List.map_nil, Nat.zero_add, Nat.reduceBEq]; rfl
  · rintro m vs' σ' ⟨k, ws, hk, rfl, rfl, hh, hx⟩
    simp -dsimp only [↓WPd, ↓wpC_block, ↓wpC_cond, WPu, Bool.false_eq_true, Bool.true_eq_false, Bool.not_true, Bool.not_false, if_true, if_false, ite_true, ite_false, Nat.reduceEqDiff, Nat.reduceLT, true_and, List.map_cons, List.map_nil, Nat.zero_add, Nat.reduceBEq, lm]
    refine condP_dec (fun hc => ?_) (fun hc => ?_)
    · have hk' : k < ms.length := by omega
      obtain ⟨q0, q2, u, a1, a2, a3, a4, a5, a6⟩ := hm.all hk'
      have hsm := hm.small _ (List.getElem_mem hk')
      simp -dsimp only [↓WPd, ↓wpC_block, ↓wpC_cond, WPu, Bool.false_eq_true, Bool.true_eq_false, Bool.not_true, Bool.not_false, if_true, if_false, ite_true, ite_false, Nat.reduceEqDiff, Nat.reduceLT, true_and, List.map_cons, List.map_nil, Nat.zero_add, Nat.reduceBEq, a1, a2, a3, a4, a5]
      refine calledW_of (hbind_ok 0 σ' id mid ws _ ms[k].1 u ms[k].2 hh hsm (a6 σ')) ?_
      rintro r3 σ3 ⟨-, ⟨ws3, h3⟩, k3⟩
      have ht : ms.take (k + 1) = ms.take k ++ [ms[k]] := List.take_succ_eq_append_getElem hk'
      simp -dsimp only [↓WPd, ↓wpC_block, ↓wpC_cond, WPu, Bool.false_eq_true, Bool.true_eq_false, Bool.not_true, Bool.not_false, if_true, if_false, ite_true, ite_false, Nat.reduceEqDiff, Nat.reduceLT, true_and, List.map_cons, List.map_nil, Nat.zero_add, Nat.reduceBEq]
      refine ⟨ms.length - (k + 1), by omega, k + 1, ws3, by omega, rfl, by rw [wrap_i64 (by omega) (by omega), Int.natCast_add, Int.natCast_one], by rw [ht, bindsH_snoc]; exact h3, hx.keeps k3 fun i _ hi e => by omega⟩
    · have : k = ms.length := by omega
      subst this
      rw [List.take_length] at hh
      simp -dsimp only [↓WPd, ↓wpC_block, ↓wpC_cond, WPu, Bool.false_eq_true, Bool.true_eq_false, Bool.not_true, Bool.not_false, if_true, if_false, ite_true, ite_false, Nat.reduceEqDiff, Nat.reduceLT, true_and, List.map_cons, List.map_nil, Nat.zero_add, Nat.reduceBEq]
      exact ⟨⟨ws, hh⟩, hx⟩
  · rintro e σ3 env ⟨rfl, hv, ⟨ws, h3⟩, hx⟩
    simp only [List.map_cons, List.map_nil, List.cons.injEq, and_true] at hv
    obtain ⟨v5, v7, v8⟩ := hv
    simp -dsimp only [↓WPd, ↓wpC_block, ↓wpC_cond, WPu, Bool.false_eq_true, Bool.true_eq_false, Bool.not_true, Bool.not_false, if_true, if_false, ite_true, ite_false, Nat.reduceEqDiff, Nat.reduceLT, true_and, List.map_cons, List.map_nil, Nat.zero_add, Nat.reduceBEq, v5, v7, v8]
    have hB := hx.bds
    have lB := hB.len
    refine loop_rule2 (fun m vs σ' => ∃ k, k ≤ R.length ∧ m = R.length - k ∧ vs = [.ptr id 0, .bool true, l, .int .i64 (k : Nat)] ∧ Grows σ3 σ')
      [7] (fun e vs σ' => e = .exit 2 ∧ vs = [.bool true]) R.length
      ⟨0, Nat.zero_le _, rfl, ?_, Keeps.refl _ _⟩ ?_ ?_
    · simp -dsimp only [↓WPd, ↓wpC_block, ↓wpC_cond, WPu, Bool.false_eq_true, Bool.true_eq_false, Bool.not_true, Bool.not_false, if_true, if_false, ite_true, ite_false, Nat.reduceEqDiff, Nat.reduceLT, true_and, List.map_cons, List.map_nil, Nat.zero_add, Nat.reduceBEq, v5, v7, v8]; rfl
    · rintro m vs' σ' ⟨k, hk, rfl, rfl, g⟩
      simp -dsimp only [↓WPd, ↓wpC_block, ↓wpC_cond, WPu, Bool.false_eq_true, Bool.true_eq_false, Bool.not_true, Bool.not_false, if_true, if_false, ite_true, ite_false, Nat.reduceEqDiff, Nat.reduceLT, true_and, List.map_cons, List.map_nil, Nat.zero_add, Nat.reduceBEq, lB]
      refine condP_dec (fun hc => ?_) (fun hc => ?_)
      · have hk' : k < R.length := by omega
        obtain ⟨q0, q2, u, a1, a2, a3, a4, a5, a6⟩ := (hB.grow g).at hk'
        have hl0 : lk (bindsH H ms) R[k].1 = some R[k].2 := bindsH_keeps ms (lk_of_mem hw.keys (hs.perm.mem_iff.2 (show (R[k].1, R[k].2) ∈ R from List.getElem_mem hk')))
        simp -dsimp only [↓WPd, ↓wpC_block, ↓wpC_cond, WPu, Bool.false_eq_true, Bool.true_eq_false, Bool.not_true, Bool.not_false, if_true, if_false, ite_true, ite_false, Nat.reduceEqDiff, Nat.reduceLT, true_and, List.map_cons, List.map_nil, Nat.zero_add, Nat.reduceBEq, WPm, a1, a2, a3, a4, a5]
        refine calledW_of (hvalue_ok 0 σ' (.ptr id 0) (bindsH H ms) R[k].1 (h3.grow g).v (by have := h3.wf.lk_short R[k].1; omega)) ?_
        rintro r4 σ4 ⟨w, rfl, ow, -, -, g4⟩
        obtain ⟨q0', q2', u', b1, b2, b3, b4, b5, b6⟩ := (hB.grow (g.trans g4)).at hk'
        rw [hl0] at ow
        simp -dsimp only [↓WPd, ↓wpC_block, ↓wpC_cond, WPu, Bool.false_eq_true, Bool.true_eq_false, Bool.not_true, Bool.not_false, if_true, if_false, ite_true, ite_false, Nat.reduceEqDiff, Nat.reduceLT, true_and, List.map_cons, List.map_nil, Nat.zero_add, Nat.reduceBEq, WPm, List.getElem?_cons_zero, List.getElem?_cons_succ, hl0, Option.isSome_some, b1, b2, b3, b4, b5]
        refine calledW_of (cequal_ok 0 σ4 w u' R[k].2 R[k].2 (by have := hs.wfr.short (List.getElem_mem hk'); omega) ow.sl b6) ?_
        rintro r5 σ5 ⟨rfl, rfl⟩
        simp -dsimp only [↓WPd, ↓wpC_block, ↓wpC_cond, WPu, Bool.false_eq_true, Bool.true_eq_false, Bool.not_true, Bool.not_false, if_true, if_false, ite_true, ite_false, Nat.reduceEqDiff, Nat.reduceLT, true_and, List.map_cons, List.map_nil, Nat.zero_add, Nat.reduceBEq, WPm, decide_true]
        refine ⟨R.length - (k + 1), by omega, k + 1, by omega, rfl, by rw [wrap_i64 (by omega) (by omega), Int.natCast_add, Int.natCast_one], g.trans g4⟩
      · simp -dsimp only [↓WPd, ↓wpC_block, ↓wpC_cond, WPu, Bool.false_eq_true, Bool.true_eq_false, Bool.not_true, Bool.not_false, if_true, if_false, ite_true, ite_false, Nat.reduceEqDiff, Nat.reduceLT, true_and, List.map_cons, List.map_nil, Nat.zero_add, Nat.reduceBEq]
    · rintro e σ4 env ⟨rfl, hv⟩
      simp only [List.map_cons, List.map_nil, List.cons.injEq, and_true] at hv
      simp -dsimp only [↓WPd, ↓wpC_block, ↓wpC_cond, WPu, Bool.false_eq_true, Bool.true_eq_false, Bool.not_true, Bool.not_false, if_true, if_false, ite_true, ite_false, Nat.reduceEqDiff, Nat.reduceLT, true_and, List.map_cons, List.map_nil, Nat.zero_add, Nat.reduceBEq, WPm, hv]
      refine isoW_bool live05_ran ?_
      simp -dsimp only [↓WPd, ↓wpC_block, ↓wpC_cond, WPu, Bool.false_eq_true, Bool.true_eq_false, Bool.not_true, Bool.not_false, if_true, if_false, ite_true, ite_false, Nat.reduceEqDiff, Nat.reduceLT, true_and, List.map_cons, List.map_nil, Nat.zero_add, Nat.reduceBEq, WPm, hv, v7]
end Go.Proofs.YtkjnanfkclijcaaDoor.Am

