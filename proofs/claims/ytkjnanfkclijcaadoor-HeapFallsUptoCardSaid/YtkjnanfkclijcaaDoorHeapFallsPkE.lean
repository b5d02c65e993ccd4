/-
  The abstract machine and the functions of the law, 5: texts put together.
-/
import Derived.Test.YtkjnanfkclijcaaDoorHeapFallsPkD
import Derived.Test.YtkjnanfkclijcaaDoorHeapFallsPkC
namespace Go.Proofs.YtkjnanfkclijcaaDoor.Am
open Go
set_option linter.unusedVariables false
set_option linter.unusedSimpArgs false
set_option linter.unusedSectionVars false
set_option maxRecDepth 100000
theorem nm_putB (σ : Store) (v : Nm) : storeV (σ ++ [AObj.cells [.int .i64 0, .int .i64 0]]) 2 (.ptr σ.length 0) (nmV v) = some (σ ++ [AObj.cells (nmC v)]) := by
  have h : (σ ++ [AObj.cells [.int .i64 0, .int .i64 0]])[σ.length]? = some (.cells [.int .i64 0, .int .i64 0]) := by simp
  rw [nm_agg, storeN_cells (cs' := nmC v) (n := 2) h rfl rfl rfl, set_last]
theorem HeapP.look1 {σ : Store} {id mid : Nat} {vs : List AVal} {H : Hp} (h : HeapP σ id mid vs H) (v : Nm) :
    ∃ u, lookupV σ true [.i, .i] .nilslice (.map mid) (nmV v) false = some u ∧ Told u ((lk H v).getD []) := by
  obtain ⟨o, h1, h2⟩ := find_nm v H
  have hk : keyEq true [.i, .i] (nmV v) (nmV v) = some true := by rw [nm_keyEq, decide_eq_true rfl]
  have hf : findKK true [.i, .i] (nmV v) (H.map fun p => nmV p.1) = some o := by simp only [findKK, hk, Option.isSome_some, if_true, h1]
  have hm : mapOf σ (.map mid) = some (H.map fun p => nmV p.1, vs) := by simp only [mapOf, h.map]
  cases o with
  | none =>
    refine ⟨.nilslice, ?_, ?_⟩
    · simp only [lookupV, hm, hf]; rfl
    · rw [h2]; exact Told.nil
  | some i =>
    obtain ⟨p, p1, p2, p3⟩ := h2
    obtain ⟨hi, hpe⟩ := List.getElem?_eq_some_iff.1 p1
    obtain ⟨u, u1, u2⟩ := h.vals.get hi
    refine ⟨u, ?_, ?_⟩
    · simp only [lookupV, hm, hf, u1, Option.map_some]; rfl
    · rw [p3]; rw [hpe] at u2; exact u2
def bdVs (R : Hp) (us : List AVal) : List AVal := List.zipWith (fun p u => bdV p.1 u) R us
abbrev BRows (σ : Store) (lo : Nat) (l : AVal) (us : List AVal) (R : Hp) : Prop := XRows σ lo 3 5 l (bdVs R us) us (R.map fun p => CC p.2)
section
variable (d : Nat) (σ : Store)
theorem mkeys_ok (m : AVal) (hm : m.one = true) : Called CU.cfg d 98 [m] σ fun r σ' => r = .func 143 [] [.ptr σ.length 0] ∧ σ' = σ ++ [.cells [m]] := by
  refine called_of (fn := CU.a98) rfl (Nat.le_of_ble_eq_true rfl) ?_
  simp only [CU.a98]
  have hc : m.cells = [m] := by cases m <;> simp_all [AVal.one]
  have h1 : [m].all AVal.one = true := by simp only [List.all_cons, List.all_nil, hm]; rfl
  simp -dsimp only [↓WPd, ↓wpC_block, ↓wpC_cond, WPu, Bool.false_eq_true, Bool.true_eq_false, Bool.not_true, Bool.not_false, if_true, if_false, ite_true, ite_false, Nat.reduceEqDiff, Nat.reduceLT, true_and, List.map_cons, List.map_nil, Nat.zero_add, Nat.reduceBEq, hc, h1]
theorem sorted_ok (i mid : Nat) (ns : List Nm) (vs : List AVal) (h1 : σ[i]? = some (.cells [.map mid])) (h2 : σ[mid]? = some (.map (ns.map nmV) vs)) (hn : ns.length ≤ 8796093022208) :
    Called CU.cfg d 97 [.func 143 [] [.ptr i 0], .func 99 [] []] σ fun r σ' => SlOf σ' 2 r ((sortN ns).map nmV) ∧ Grows σ σ' := by
  have hk : keysOf σ (.map mid) = some (ns.map nmV) := by simp only [keysOf, h2]
  have he : natSF 143 99 [.func 143 [] [.ptr i 0], .func 99 [] []] σ = some (match ns with | [] => (.nilslice, σ) | _ => (.slice 2 σ.length 0 0 ns.length none, σ ++ [.arr 2 ((sortN ns).map nmV) 0 0])) := by
    simp only [natSF, and_self, if_true, h1, hk, nmsOf_map, if_pos hn]
    cases ns <;> rfl
  cases ns with
  | nil => exact called_nat rfl he ⟨SlOf.nil _ _, Keeps.refl _ _⟩
  | cons x r =>
    refine called_nat rfl he ⟨?_, Grows.app _ _⟩
    have hl : ((sortN (x :: r)).map nmV).length = (x :: r).length := by rw [List.length_map, sortN_len]
    refine ⟨?_, ?_, fun s id ep off len c h => by cases h⟩
    · have e : ((sortN (x :: r)).map nmV).take (x :: r).length = (sortN (x :: r)).map nmV := List.take_of_length_le (by omega)
      simp only [List.length_cons] at e
      simp [elems, hl, e]
    · simp [lenSV, hl]
set_option maxHeartbeats 1000000 in
theorem bindings_ok (id mid : Nat) (vs : List AVal) (H R : Hp) (h : HeapP σ id mid vs H) (hs : Same H R) (hn : R.length < 2 ^ 30) (hsm : ∀ p ∈ R, p.2.length < 2 ^ 30) :
    Called CU.cfg d 36 [.ptr id 0] σ fun l σ' => Grows σ σ' ∧ ∃ us, BRows σ' σ.length l us R := by
  refine called_of (fn := CU.a36) rfl (Nat.le_of_ble_eq_true rfl) ?_
  simp only [CU.a36]
  have e1 : ([AVal.map mid] : List AVal)[0]? = some (.map mid) := rfl
  simp -dsimp only [↓WPd, ↓wpC_block, ↓wpC_cond, WPu, Bool.false_eq_true, Bool.true_eq_false, Bool.not_true, Bool.not_false, if_true, if_false, ite_true, ite_false, Nat.reduceEqDiff, Nat.reduceLT, true_and, List.map_cons, List.map_nil, Nat.zero_add, Nat.reduceBEq, isnil_ptr, faddr_ptr, Nat.add_zero, load_cells h.obj, e1]
  refine calledW_of (mkeys_ok d σ (.map mid) rfl) ?_
  rintro r σ1 ⟨rfl, rfl⟩
  have g1 : Grows σ (σ ++ [AObj.cells [.map mid]]) := Grows.app _ _
  have ho : (σ ++ [AObj.cells [.map mid]])[σ.length]? = some (.cells [.map mid]) := by simp
  have h1 := h.grow g1
  generalize σ ++ [AObj.cells [.map mid]] = σ1 at g1 ho h1
  simp -dsimp only [↓WPd, ↓wpC_block, ↓wpC_cond, WPu, Bool.false_eq_true, Bool.true_eq_false, Bool.not_true, Bool.not_false, if_true, if_false, ite_true, ite_false, Nat.reduceEqDiff, Nat.reduceLT, true_and, List.map_cons, List.map_nil, Nat.zero_add, Nat.reduceBEq]
  have hm := h1.map
  have em : (H.map fun p => nmV p.1) = (H.map (·.1)).map nmV := by rw [List.map_map]; rfl
  rw [em] at hm
  have hHR := hs.perm.length_eq
  refine calledW_of (sorted_ok d σ1 σ.length mid (H.map (·.1)) vs ho hm (by rw [List.length_map]; omega)) ?_
  rintro r σ2 ⟨hr, g2⟩
  rw [hs.sort] at hr
  have g02 := g1.trans g2
  have h2 := h1.grow g2
  have lr : lenSV r = some R.length := by rw [hr.len]; simp
  simp -dsimp only [↓WPd, ↓wpC_block, ↓wpC_cond, WPu, Bool.false_eq_true, Bool.true_eq_false, Bool.not_true, Bool.not_false, if_true, if_false, ite_true, ite_false, Nat.reduceEqDiff, Nat.reduceLT, true_and, List.map_cons, List.map_nil, Nat.zero_add, Nat.reduceBEq, lr]
  refine loop_rule2 (fun m vs' σ' => ∃ (k : Nat) (l : AVal) (us : List AVal), k ≤ R.length ∧ m = R.length - k ∧ vs' = [.ptr id 0, l, r, .int .i64 R.length, .int .i64 (k : Nat)] ∧ Grows σ σ' ∧ Grows σ2 σ' ∧ BRows σ' σ2.length l us (R.take k))
    [3] (fun e vs' σ' => e = .exit 0 ∧ ∃ (l : AVal) (us : List AVal), vs' = [l] ∧ Grows σ σ' ∧ BRows σ' σ2.length l us R) R.length
    ⟨0, .nilslice, [], Nat.zero_le _, rfl, ?_, g02, Keeps.refl _ _, XRows.nil _ _ _ _⟩ ?_ ?_
  · simp -dsimp only [↓WPd, ↓wpC_block, ↓wpC_cond, WPu, Bool.false_eq_true, Bool.true_eq_false, Bool.not_true, Bool.not_false, if_true, if_false, ite_true, ite_false, Nat.reduceEqDiff, Nat.reduceLT, true_and, List.map_cons, List.map_nil, Nat.zero_add, Nat.reduceBEq]; rfl
  · rintro m vs' σ' ⟨k, l, us, hk, rfl, rfl, g, g', hx⟩
    simp -dsimp only [↓WPd, ↓wpC_block, ↓wpC_cond, WPu, Bool.false_eq_true, Bool.true_eq_false, Bool.not_true, Bool.not_false, if_true, if_false, ite_true, ite_false, Nat.reduceEqDiff, Nat.reduceLT, true_and, List.map_cons, List.map_nil, Nat.zero_add, Nat.reduceBEq]
    refine condP_dec (fun hc => ?_) (fun hc => ?_)
    · have hk' : k < R.length := by omega
      have hr' := hr.grow g'
      have hke : k < ((R.map (·.1)).map nmV).length := by simpa using hk'
      have ia : iaddrV 2 r (.int .i64 k) = some (addrOf 2 r k) := hr'.iaddr hke .i64
      have hb := (hr'.addr hke .i64).2
      have hb' : behind σ' (addrOf 2 r k) = some (nmC R[k].1, 0) := by
        rw [hb]; simp only [List.getElem_map, nm_cells]
      have ld : loadV σ' 2 true (addrOf 2 r k) = some (nmV R[k].1) := loadN_at hb' (by simp [nmC])
      have ho' : (σ' ++ [AObj.cells (nmC R[k].1)])[σ'.length]? = some (.cells (nmC R[k].1)) := by simp
      have g3 : Grows σ' (σ' ++ [AObj.cells (nmC R[k].1)]) := Grows.app _ _
      simp -dsimp only [↓WPd, ↓wpC_block, ↓wpC_cond, WPu, Bool.false_eq_true, Bool.true_eq_false, Bool.not_true, Bool.not_false, if_true, if_false, ite_true, ite_false, Nat.reduceEqDiff, Nat.reduceLT, true_and, List.map_cons, List.map_nil, Nat.zero_add, Nat.reduceBEq, ia, ld, nm_putB]
      have h3 := (h2.grow g').grow g3
      have hx3 := hx.grow g3
      have g03 := g.trans g3
      have g23 := g'.trans g3
      have hl3 : σ2.length ≤ (σ' ++ [AObj.cells (nmC R[k].1)]).length := g23.1
      generalize σ' ++ [AObj.cells (nmC R[k].1)] = σ3 at ho' g3 h3 hx3 g03 g23 hl3
      obtain ⟨t, u1, u2⟩ := h3.look1 R[k].1
      have hlk : (lk H R[k].1).getD [] = R[k].2 := by
        rw [lk_of_mem hs.wf.keys (t := R[k].2) (hs.perm.mem_iff.2 (show (R[k].1, R[k].2) ∈ R from List.getElem_mem hk'))]; rfl
      rw [hlk] at u2
      refine drawnP_of rfl ?_
      simp -dsimp only [↓WPd, ↓wpC_block, ↓wpC_cond, WPu, Bool.false_eq_true, Bool.true_eq_false, Bool.not_true, Bool.not_false, if_true, if_false, ite_true, ite_false, Nat.reduceEqDiff, Nat.reduceLT, true_and, List.map_cons, List.map_nil, Nat.zero_add, Nat.reduceBEq, ↓WPed, WPeu, Nat.reduceAdd, and_self, load_nm ho', isnil_ptr, faddr_ptr, Nat.add_zero, load_cells h3.obj, e1, u1]
      refine calledW_of (cclone_ok d σ3 t R[k].2 (hsm _ (List.getElem_mem hk')) (u2 σ3)) ?_
      rintro u σ4 ⟨g4, ou, fu, nu⟩
      obtain ⟨l', σ5, a1, a2, a3⟩ := hx3.push hl3 g4 (x := bdV R[k].1 u) ou (fu.le (Nat.le_refl _)) nu 40 (by have := hx3.lex; have := hx3.len; simp only [List.length_map, List.length_take] at this; omega)
      have fl := elems_fs 3 (AVal.tagL [bdV R[k].1 u]) true σ4 [bdV R[k].1 u]
      simp -dsimp only [↓WPd, ↓wpC_block, ↓wpC_cond, WPu, Bool.false_eq_true, Bool.true_eq_false, Bool.not_true, Bool.not_false, if_true, if_false, ite_true, ite_false, Nat.reduceEqDiff, Nat.reduceLT, true_and, List.map_cons, List.map_nil, Nat.zero_add, Nat.reduceBEq, ↓WPed, WPeu, Nat.reduceAdd, and_self, load_nm ho', load_nm (g4.get ho'), isnil_ptr, faddr_ptr, Nat.add_zero, bd_build R[k].1 u ou.one, bd_lit R[k].1 u ou.one, fl, a1]
      have ht : R.take (k + 1) = R.take k ++ [R[k]] := List.take_succ_eq_append_getElem hk'
      have hul : us.length = (R.take k).length := by have := hx3.len; simpa using this
      have hbd : bdVs (R.take (k + 1)) (us ++ [u]) = bdVs (R.take k) us ++ [bdV R[k].1 u] := by
        rw [ht]; unfold bdVs
        rw [List.zipWith_append hul.symm]; rfl
      refine ⟨R.length - (k + 1), by omega, k + 1, l', us ++ [u], by omega, rfl, by rw [wrap_i64 (by omega) (by omega), Int.natCast_add, Int.natCast_one], ?_, ?_, ?_⟩
      · exact Keeps.trans (g03.trans g4) a3 fun i hi e => by have := g02.1; omega
      · exact Keeps.trans (g23.trans g4) a3 fun i hi e => by omega
      · rw [BRows, hbd, ht, List.map_append]; exact a2
    · have : k = R.length := by omega
      subst this
      rw [List.take_length] at hx
      simp -dsimp only [↓WPd, ↓wpC_block, ↓wpC_cond, WPu, Bool.false_eq_true, Bool.true_eq_false, Bool.not_true, Bool.not_false, if_true, if_false, ite_true, ite_false, Nat.reduceEqDiff, Nat.reduceLT, true_and, List.map_cons, List.map_nil, Nat.zero_add, Nat.reduceBEq]
      exact ⟨l, us, rfl, g, hx⟩
  · rintro e σ' env ⟨rfl, l, us, hv, g, hx⟩
    simp only [List.map_cons, List.map_nil, List.cons.injEq, and_true] at hv
    simp -dsimp only [↓WPd, ↓wpC_block, ↓wpC_cond, WPu, Bool.false_eq_true, Bool.true_eq_false, Bool.not_true, Bool.not_false, if_true, if_false, ite_true, ite_false, Nat.reduceEqDiff, Nat.reduceLT, true_and, List.map_cons, List.map_nil, Nat.zero_add, Nat.reduceBEq, hv]
    exact ⟨g, us, hx.lo g02.1⟩
end
end Go.Proofs.YtkjnanfkclijcaaDoor.Am

namespace Go.Proofs.YtkjnanfkclijcaaDoor.Am
open Go
set_option linter.unusedVariables false
set_option linter.unusedSimpArgs false
set_option linter.unusedSectionVars false
set_option maxRecDepth 100000
def BdSl (σ : Store) (v : AVal) (R : Hp) : Prop := ∃ es, SlOf σ 3 v es ∧ Two (fun e p => ∃ u, e = bdV p.1 u ∧ SlOf σ 5 u (CC p.2)) es R
theorem BdSl.grow {σ σ' : Store} {v : AVal} {R : Hp} (h : BdSl σ v R) (g : Grows σ σ') : BdSl σ' v R := by
  obtain ⟨es, h1, h2⟩ := h
  exact ⟨es, h1.grow g, h2.mono fun e p ⟨u, hu, hs⟩ => ⟨u, hu, hs.grow g⟩⟩
theorem BdSl.len {σ : Store} {v : AVal} {R : Hp} (h : BdSl σ v R) : lenSV v = some R.length := by
  obtain ⟨es, h1, h2⟩ := h
  rw [← h2.len]; exact h1.len
theorem BdSl.at {σ : Store} {v : AVal} {R : Hp} (h : BdSl σ v R) {k : Nat} (hk : k < R.length) : ∃ q0 q2 u, iaddrV 3 v (.int .i64 k) = some (addrOf 3 v k) ∧ faddrV 0 (addrOf 3 v k) = some q0 ∧ loadV σ 2 true q0 = some (nmV R[k].1) ∧ faddrV 2 (addrOf 3 v k) = some q2 ∧ loadV σ 1 false q2 = some u ∧ SlOf σ 5 u (CC R[k].2) := by
  obtain ⟨es, h1, h2⟩ := h
  have hke : k < es.length := by rw [h2.len]; exact hk
  obtain ⟨e, he1, u, he2, he3⟩ := h2.get hk
  have hee : es[k] = e := by rw [List.getElem?_eq_getElem hke] at he1; exact Option.some.inj he1
  have hb := (h1.addr hke .i64).2
  rw [hee, he2] at hb
  have hb' : behind σ (addrOf 3 v k) = some (bdC (R[k]).1 u, 0) := hb
  obtain ⟨q0, p0, b0⟩ := faddr_at hb' 0
  obtain ⟨q2, p2, b2⟩ := faddr_at hb' 2
  exact ⟨q0, q2, u, h1.iaddr hke .i64, p0, loadN_at b0 (by simp [bdC]), p2, load_at b2, he3⟩
theorem RefP.bds {σ : Store} {A : Nat → Prop} {id : Nat} {R : Hp} (h : RefP σ A id R) : ∃ w, σ[id]? = some (.cells [w]) ∧ BdSl σ w R := by
  obtain ⟨w, es, h1, h2, _, h4⟩ := h
  exact ⟨w, h1, es, h2, h4.mono fun e p ⟨u, hu, hs, _⟩ => ⟨u, hu, hs⟩⟩
theorem bdVs_get {R : Hp} {us : List AVal} (h : us.length = R.length) {k : Nat} (hk : k < R.length) : (bdVs R us)[k]? = some (bdV R[k].1 (us[k]'(by omega))) := by
  unfold bdVs
  rw [List.getElem?_zipWith, List.getElem?_eq_getElem hk, List.getElem?_eq_getElem (by omega)]
theorem BRows.bds {σ : Store} {lo : Nat} {l : AVal} {us : List AVal} {R : Hp} (h : BRows σ lo l us R) : BdSl σ l R := by
  have hl : us.length = R.length := by have := h.len; simpa using this
  refine ⟨_, h.row.sl, Two.of_get (by rw [h.lex]; exact hl) fun i a b hi hj => ?_⟩
  obtain ⟨hk, rfl⟩ := List.getElem?_eq_some_iff.1 hj
  have e := bdVs_get hl hk
  rw [hi] at e
  exact ⟨us[i]'(by omega), Option.some.inj e, (h.one i (us[i]'(by omega)) (CC R[i].2) (List.getElem?_eq_getElem _) (by simp [hk])).sl⟩
section
variable (d : Nat) (σ : Store)
set_option maxHeartbeats 1000000 in
theorem hchain_ok (hv tv : AVal) (H : Hp) (t : List Cel) (h : HeapV σ hv H) (hw : WF H) (hH : H.length < 2 ^ 30) (ht : SlOf σ 5 tv (CC t)) (hs : t.length < 2 ^ 30) :
    Called CU.cfg d 40 [hv, tv] σ fun r σ' => Grows σ σ' ∧ ∃ es, XRows σ' σ.length 1 5 r es es ((chain H t).map CC) := by
  refine called_of (fn := CU.a40) rfl (Nat.le_of_ble_eq_true rfl) ?_
  have ll := ht.len
  rw [List.length_map] at ll
  simp only [CU.a40]
  have k0 : ((t.length : Int) == 0) = decide (t = []) := by cases t <;> simp <;> omega
  simp -dsimp only [↓WPd, ↓wpC_block, ↓wpC_cond, WPu, Bool.false_eq_true, Bool.true_eq_false, Bool.not_true, Bool.not_false, if_true, if_false, ite_true, ite_false, Nat.reduceEqDiff, Nat.reduceLT, true_and, List.map_cons, List.map_nil, Nat.zero_add, Nat.reduceBEq, ll, k0]
  refine condP_dec (fun h0 => ?_) (fun h0 => ?_)
  · simp -dsimp only [↓WPd, ↓wpC_block, ↓wpC_cond, WPu, Bool.false_eq_true, Bool.true_eq_false, Bool.not_true, Bool.not_false, if_true, if_false, ite_true, ite_false, Nat.reduceEqDiff, Nat.reduceLT, true_and, List.map_cons, List.map_nil, Nat.zero_add, Nat.reduceBEq]
    rw [chain, if_pos h0]
    exact ⟨Keeps.refl _ _, [], XRows.nil _ _ _ _⟩
  · simp -dsimp only [↓WPd, ↓wpC_block, ↓wpC_cond, WPu, Bool.false_eq_true, Bool.true_eq_false, Bool.not_true, Bool.not_false, if_true, if_false, ite_true, ite_false, Nat.reduceEqDiff, Nat.reduceLT, true_and, List.map_cons, List.map_nil, Nat.zero_add, Nat.reduceBEq]
    refine calledW_of (cclone_ok d σ tv t hs ht) ?_
    rintro u0 σ1 ⟨g1, ou, fu, nu⟩
    have e1 : ∀ u : AVal, u.one = true → fillL 1 false (List.replicate 1 (zel [AVal.nilslice] false)) [(0, u)] = some [u] := fun u hu => by
      have hc : u.cells = [u] := by cases u <;> simp_all [AVal.one]
      have h1 : [u].all AVal.one = true := by simp only [List.all_cons, List.all_nil, hu]; rfl
      have h2 : isAggV u = false := by cases u <;> first | (cases hu; done) | rfl
      simp only [fillL, hc, h1, h2]
      rfl
    simp -dsimp only [↓WPd, ↓wpC_block, ↓wpC_cond, WPu, Bool.false_eq_true, Bool.true_eq_false, Bool.not_true, Bool.not_false, if_true, if_false, ite_true, ite_false, Nat.reduceEqDiff, Nat.reduceLT, true_and, List.map_cons, List.map_nil, Nat.zero_add, Nat.reduceBEq, e1 u0 ou.one]
    refine calledW_of (next_ok d σ1 hv tv H t (h.grow g1) (ht.grow g1)) ?_
    rintro r2 σ2 ⟨u, rfl, hu, g2⟩
    simp -dsimp only [↓WPd, ↓wpC_block, ↓wpC_cond, WPu, Bool.false_eq_true, Bool.true_eq_false, Bool.not_true, Bool.not_false, if_true, if_false, ite_true, ite_false, Nat.reduceEqDiff, Nat.reduceLT, true_and, List.map_cons, List.map_nil, Nat.zero_add, Nat.reduceBEq, List.getElem?_cons_zero, List.getElem?_cons_succ]
    have hcr := chain_rank hw h0
    have X0 : XRows σ2 σ.length 1 5 (.fslice (AVal.tagL [u0]) true 1 [u0]) [u0] [u0] ([t].map CC) := by
      have one : ∀ (i : Nat) (e : AVal), ([u0] : List AVal)[i]? = some e → i = 0 ∧ e = u0 := fun i e h => by
        rw [List.getElem?_singleton] at h
        split at h
        · injection h with h; exact ⟨by assumption, h.symm⟩
        · cases h
      refine ⟨Own.lit _ _ _ _, rfl, rfl, fun i e p h1 h2 => ?_, fun i e h1 => ?_, (fun i h => by cases h), fun i j e e' id h1 h2 _ _ => ?_, (fun i e id h1 h2 h3 => by cases h3), fun i e h1 => ?_⟩
      · obtain ⟨rfl, rfl⟩ := one i e h1
        injection h2 with h2; subst h2
        exact ou.grow g2
      · obtain ⟨rfl, rfl⟩ := one i e h1
        exact fu
      · obtain ⟨rfl, -⟩ := one i e h1
        obtain ⟨rfl, -⟩ := one j e' h2
        rfl
      · obtain ⟨rfl, rfl⟩ := one i e h1
        exact nu
    refine loop_rule2 (fun m vs σ' => ∃ (o y : AVal) (s : List Cel) (es : List AVal) (pre : List (List Cel)), m = rank H s ∧ vs = [hv, o, y, .bool (hnext H s).isSome] ∧ Grows σ σ' ∧ Told y ((hnext H s).getD []) ∧ XRows σ' σ.length 1 5 o es es ((pre ++ [s]).map CC) ∧ pre ++ chainF (rank H s) H s = chain H t)
      [5] (fun e vs σ' => e = .exit 0 ∧ ∃ (o : AVal) (es : List AVal), vs = [o] ∧ Grows σ σ' ∧ XRows σ' σ.length 1 5 o es es ((chain H t).map CC)) (rank H t)
      ⟨_, u, t, [u0], [], rfl, ?_, g1.trans g2, hu, X0, by rw [hcr]; rfl⟩ ?_ ?_
    · simp -dsimp only [↓WPd, ↓wpC_block, ↓wpC_cond, WPu, Bool.false_eq_true, Bool.true_eq_false, Bool.not_true, Bool.not_false, if_true, if_false, ite_true, ite_false, Nat.reduceEqDiff, Nat.reduceLT, true_and, List.map_cons, List.map_nil, Nat.zero_add, Nat.reduceBEq]
    · rintro m vs σ' ⟨o, y, s, es, pre, rfl, rfl, g, hy, hx, hch⟩
      cases hn : hnext H s with
      | none =>
        simp -dsimp only [↓WPd, ↓wpC_block, ↓wpC_cond, WPu, Bool.false_eq_true, Bool.true_eq_false, Bool.not_true, Bool.not_false, if_true, if_false, ite_true, ite_false, Nat.reduceEqDiff, Nat.reduceLT, true_and, List.map_cons, List.map_nil, Nat.zero_add, Nat.reduceBEq, hn, Option.isSome_none]
        rw [chainF_none hn] at hch
        rw [← hch]
        exact ⟨o, es, rfl, g, hx⟩
      | some s' =>
        rw [hn] at hy
        simp only [Option.getD_some] at hy
        have hgs : right s' = true := by
          have hn' := hn
          unfold hnext at hn'
          split at hn'
          · exact glob_right (hw.ok _ (lk_mem hn')).2.2.1
          · cases hn'
        have hs' : s'.length < 2 ^ 30 := (right_small hgs).1
        simp -dsimp only [↓WPd, ↓wpC_block, ↓wpC_cond, WPu, Bool.false_eq_true, Bool.true_eq_false, Bool.not_true, Bool.not_false, if_true, if_false, ite_true, ite_false, Nat.reduceEqDiff, Nat.reduceLT, true_and, List.map_cons, List.map_nil, Nat.zero_add, Nat.reduceBEq, hn, Option.isSome_some]
        refine calledW_of (cclone_ok d σ' y s' hs' (hy σ')) ?_
        rintro w σ3 ⟨g3, ow, fw, nw⟩
        have hlen : (pre ++ [s]).length = es.length := by have := hx.len; simpa using this.symm
        have hlc : (chain H t).length ≤ H.length + 2 := by rw [chain, if_neg h0]; exact chainF_len _ _ _
        have hpl : pre.length + 1 ≤ (chain H t).length := by
          have := congrArg List.length hch
          rw [chainF_step hw hn] at this
          simp only [List.length_append, List.length_cons] at this
          omega
        obtain ⟨o', σ4, a1, a2, a3⟩ := hx.push g.1 g3 (x := w) ow fw nw 24 (by simp at hlen; omega)
        have lit1 : ∀ (tg : Nat) (σ : Store) (x : AVal), elems 1 σ (.fslice tg true 1 [x]) = some [x] := fun tg σ x => elems_fs 1 tg true σ [x]
        simp -dsimp only [↓WPd, ↓wpC_block, ↓wpC_cond, WPu, Bool.false_eq_true, Bool.true_eq_false, Bool.not_true, Bool.not_false, if_true, if_false, ite_true, ite_false, Nat.reduceEqDiff, Nat.reduceLT, true_and, List.map_cons, List.map_nil, Nat.zero_add, Nat.reduceBEq, e1 w ow.one, lit1, a1]
        have g4 : Grows σ σ4 := Keeps.trans (g.trans g3) a3 fun i hi e => by omega
        refine calledW_of (next_ok d σ4 hv y H s' (h.grow g4) (hy σ4)) ?_
        rintro r5 σ5 ⟨u5, rfl, hu5, g5⟩
        simp -dsimp only [↓WPd, ↓wpC_block, ↓wpC_cond, WPu, Bool.false_eq_true, Bool.true_eq_false, Bool.not_true, Bool.not_false, if_true, if_false, ite_true, ite_false, Nat.reduceEqDiff, Nat.reduceLT, true_and, List.map_cons, List.map_nil, Nat.zero_add, Nat.reduceBEq, List.getElem?_cons_zero, List.getElem?_cons_succ]
        refine ⟨rank H s', rank_lt hw hn, o', u5, s', es ++ [w], pre ++ [s], rfl, rfl, g4.trans g5, hu5, ?_, ?_⟩
        · simpa using a2.grow g5
        · rw [List.append_assoc, ← hch, chainF_step hw hn]; rfl
    · rintro e σ' env ⟨rfl, o, es, hv, g, hx⟩
      simp only [List.map_cons, List.map_nil, List.cons.injEq, and_true] at hv
      simp -dsimp only [↓WPd, ↓wpC_block, ↓wpC_cond, WPu, Bool.false_eq_true, Bool.true_eq_false, Bool.not_true, Bool.not_false, if_true, if_false, ite_true, ite_false, Nat.reduceEqDiff, Nat.reduceLT, true_and, List.map_cons, List.map_nil, Nat.zero_add, Nat.reduceBEq, hv]
      exact ⟨g, es, hx⟩
end
end Go.Proofs.YtkjnanfkclijcaaDoor.Am

namespace Go.Proofs.YtkjnanfkclijcaaDoor.Am
open Go
set_option linter.unusedVariables false
set_option linter.unusedSimpArgs false
set_option linter.unusedSectionVars false
set_option maxRecDepth 100000
theorem Own.setN {σ : Store} {v : AVal} {t : List Cel} (h : Own σ 5 v (CC t)) (hn : NoLit v) {i : Nat} (hi : i < t.length) (x : Int) :
    ∃ q σ', faddrV 2 (addrOf 5 v i) = some q ∧ storeV σ 1 q (.int .i64 x) = some σ' ∧ Own σ' 5 v (CC (t.set i { t[i] with n := x })) ∧ Keeps (fun j => v.sid = some j) σ σ' := by
  have hi' : i < (CC t).length := by simpa using hi
  rcases h.own with ⟨rfl, he⟩ | ⟨tg, rfl⟩ | ⟨id, ep, off, cap, xs, epo, fl, rfl, ho, hf, he, hl, hc⟩
  · rw [he] at hi'; simp at hi'
  · have : CC t = [] := hn
    rw [this] at hi'; simp at hi'
  · rcases hc with ⟨rfl, rfl, rfl, rfl⟩ | rfl
    · have ha : addrOf 5 (.slice 5 id epo 0 (CC t).length none) i = .eptr id epo i 0 := by
        have e : (0 : Int) ≤ (i : Int) ∧ (i : Int) < ((CC t).length : Int) := by omega
        simp only [addrOf, iaddrV, e, and_self, if_true]
        simp
      refine ⟨.eptr id epo i 2, σ.set id (.arr 5 (CC (t.set i { t[i] with n := x })) epo epo), by rw [ha]; rfl, ?_, ?_, (Keeps.set _ _ _).mono fun j _ h => by rw [h]; rfl⟩
      · have e1 : (CC t)[i]? = some t[i].val := by rw [List.getElem?_eq_getElem hi', cel_get]
        have e2 : (CC t).set i (Cel.val { t[i] with n := x }) = CC (t.set i { t[i] with n := x }) := List.map_set.symm
        rw [← e2]
        simp only [storeV, ho, e1]
        rfl
      · have := Own.whole (σ := σ.set id (.arr 5 (CC (t.set i { t[i] with n := x })) epo epo)) (sz := 5) (id := id) (ep := epo) (fl := epo) (es := CC (t.set i { t[i] with n := x })) (by rw [List.getElem?_set_self (List.getElem?_eq_some_iff.1 ho).1]) (Nat.le_refl _)
        simpa using this
    · exact hn.elim
theorem BdArg.all {v : AVal} {bs : Hp} (h : BdArg v bs) {k : Nat} (hk : k < bs.length) : ∃ q0 q2 u, iaddrV 3 v (.int .i64 k) = some (addrOf 3 v k) ∧ faddrV 0 (addrOf 3 v k) = some q0 ∧ (∀ σ, loadV σ 2 true q0 = some (nmV bs[k].1)) ∧ faddrV 2 (addrOf 3 v k) = some q2 ∧ (∀ σ, loadV σ 1 false q2 = some u) ∧ Told u bs[k].2 := by
  obtain ⟨es, h1, h2⟩ := h.row
  have hke : k < es.length := by rw [h2.len]; exact hk
  obtain ⟨e, he1, u, he2, he3⟩ := h2.get hk
  have hee : es[k] = e := by rw [List.getElem?_eq_getElem hke] at he1; exact Option.some.inj he1
  have hb : ∀ σ, behind σ (addrOf 3 v k) = some (bdC (bs[k]).1 u, 0) := fun σ => by
    have hb := ((h1 σ).addr hke .i64).2
    rw [hee, he2] at hb; exact hb
  obtain ⟨q0, p0, -⟩ := faddr_at (hb []) 0
  obtain ⟨q2, p2, -⟩ := faddr_at (hb []) 2
  refine ⟨q0, q2, u, (h1 []).iaddr hke .i64, p0, fun σ => ?_, p2, fun σ => ?_, he3⟩
  · obtain ⟨q, r0, r1⟩ := faddr_at (hb σ) 0
    rw [p0] at r0
    rw [Option.some.inj r0]
    exact loadN_at r1 (by simp [bdC])
  · obtain ⟨q, r0, r1⟩ := faddr_at (hb σ) 2
    rw [p2] at r0
    rw [Option.some.inj r0]
    exact load_at r1
section
variable (d : Nat) (σ : Store)
set_option maxHeartbeats 2000000 in
theorem both5_ok (bv : AVal) (bs : Hp) (h : BdArg bv bs) : Called CU.cfg d 35 [bv] σ fun v σ' => ∃ id mid vs rid A, v = .tuple [.ptr id 0, .ptr rid 0, .bool true] ∧ HeapP σ' id mid vs (bindsH [] bs) ∧ RefP σ' A rid (bindsR [] bs) ∧ Grows σ σ' ∧ (σ.length ≤ id ∧ σ.length ≤ mid ∧ σ.length ≤ rid ∧ ∀ i, A i → σ.length ≤ i) ∧ id ≠ rid ∧ mid ≠ rid ∧ id ≠ mid := by
  refine called_of (fn := CU.a35) rfl (Nat.le_of_ble_eq_true rfl) ?_
  simp only [CU.a35]
  have lb := h.len'
  have hlt := h.len
  simp -dsimp only [↓WPd, ↓wpC_block, ↓wpC_cond, WPu, Bool.false_eq_true, Bool.true_eq_false, Bool.not_true, Bool.not_false, if_true, if_false, ite_true, ite_false, Nat.reduceEqDiff, Nat.reduceLT, true_and, List.map_cons, List.map_nil, Nat.zero_add, Nat.reduceBEq]
  refine calledW_of (hnew_ok d σ) ?_
  rintro r σ1 ⟨id, mid, rfl, h1, g1, l1, l2, m1, m2⟩
  simp -dsimp only [↓WPd, ↓wpC_block, ↓wpC_cond, WPu, Bool.false_eq_true, Bool.true_eq_false, Bool.not_true, Bool.not_false, if_true, if_false, ite_true, ite_false, Nat.reduceEqDiff, Nat.reduceLT, true_and, List.map_cons, List.map_nil, Nat.zero_add, Nat.reduceBEq]
  refine calledW_of (rnew_ok d σ1) ?_
  rintro r σ2 ⟨rid, rfl, r2, g2, l3, m3⟩
  have hm : id ≠ mid := fun e => by have a := h1.obj; rw [e, h1.map] at a; cases a
  simp -dsimp only [↓WPd, ↓wpC_block, ↓wpC_cond, WPu, Bool.false_eq_true, Bool.true_eq_false, Bool.not_true, Bool.not_false, if_true, if_false, ite_true, ite_false, Nat.reduceEqDiff, Nat.reduceLT, true_and, List.map_cons, List.map_nil, Nat.zero_add, Nat.reduceBEq]
  refine loop_rule2 (fun m vs σ' => ∃ k ws A, k ≤ bs.length ∧ m = bs.length - k ∧ vs = [bv, .ptr id 0, .ptr rid 0, .int .i64 (k : Nat)] ∧ HeapP σ' id mid ws (bindsH [] (bs.take k)) ∧ RefP σ' A rid (bindsR [] (bs.take k)) ∧ (∀ i, A i → σ2.length ≤ i) ∧ Grows σ σ' ∧ σ2.length ≤ σ'.length)
    [5, 6] (fun e vs σ' => e = .exit 0 ∧ ∃ ws A, vs = [.ptr id 0, .ptr rid 0] ∧ HeapP σ' id mid ws (bindsH [] bs) ∧ RefP σ' A rid (bindsR [] bs) ∧ (∀ i, A i → σ2.length ≤ i) ∧ Grows σ σ') bs.length
    ⟨0, [], _, Nat.zero_le _, rfl, ?_, h1.grow g2, r2, (fun i h => h.elim), g1.trans g2, Nat.le_refl _⟩ ?_ ?_
  · simp -dsimp only [↓WPd, ↓wpC_block, ↓wpC_cond, WPu, Bool.false_eq_true, Bool.true_eq_false, Bool.not_true, Bool.not_false, if_true, if_false, ite_true, ite_false, Nat.reduceEqDiff, Nat.reduceLT, true_and, List.map_cons, List.map_nil, Nat.zero_add, Nat.reduceBEq]; rfl
  · rintro m vs σ' ⟨k, ws, A, hk, rfl, rfl, hh, hr, hA, g, hl⟩
    simp -dsimp only [↓WPd, ↓wpC_block, ↓wpC_cond, WPu, Bool.false_eq_true, Bool.true_eq_false, Bool.not_true, Bool.not_false, if_true, if_false, ite_true, ite_false, Nat.reduceEqDiff, Nat.reduceLT, true_and, List.map_cons, List.map_nil, Nat.zero_add, Nat.reduceBEq, lb]
    refine condP_dec (fun hc => ?_) (fun hc => ?_)
    · have hk' : k < bs.length := by omega
      obtain ⟨q0, q2, u, a1, a2, a3, a4, a5, a6⟩ := h.all hk'
      have hsm := h.small _ (List.getElem_mem hk')
      have el := (a6 σ').els
      obtain ⟨t8, σ3, p1, p2, p3, p4, p5⟩ := (Own.nil σ' 5).append (CC bs[k].2) 48 (by rw [List.length_map]; have := hsm.1; simp only [List.length_nil]; omega)
      rw [List.nil_append] at p2
      have g3 : Grows σ' σ3 := p3.mono fun i _ h => by cases h
      have f8 : Fresh σ'.length t8 := fun i hi => by
        rcases p4 i hi with e | e
        · cases e
        · omega
      simp -dsimp only [↓WPd, ↓wpC_block, ↓wpC_cond, WPu, Bool.false_eq_true, Bool.true_eq_false, Bool.not_true, Bool.not_false, if_true, if_false, ite_true, ite_false, Nat.reduceEqDiff, Nat.reduceLT, true_and, List.map_cons, List.map_nil, Nat.zero_add, Nat.reduceBEq, a1, a4, a5, el, p1]
      refine drawnP_of rfl ?_
      simp -dsimp only [↓WPd, ↓wpC_block, ↓wpC_cond, WPu, Bool.false_eq_true, Bool.true_eq_false, Bool.not_true, Bool.not_false, if_true, if_false, ite_true, ite_false, Nat.reduceEqDiff, Nat.reduceLT, true_and, List.map_cons, List.map_nil, Nat.zero_add, Nat.reduceBEq, ↓WPed, WPeu, Nat.reduceAdd, and_self, a1, a2, a3, a4, a5]
      refine calledW_of (hbind_ok d σ3 id mid ws _ bs[k].1 t8 bs[k].2 (hh.grow g3) hsm p2.sl) ?_
      rintro r3 σ4 ⟨rfl, ⟨ws4, h4⟩, k4⟩
      have hmid : mid < σ'.length := (List.getElem?_eq_some_iff.1 hh.map).1
      have hr4 : RefP σ4 (fun i => A i ∧ i < σ'.length) rid (bindsR [] (bs.take k)) := by
        refine ((hr.keeps (B := fun i => A i ∧ i < σ'.length) (Keeps.refl (fun _ => False) σ') (fun h => h) fun i hi ha => ⟨⟨ha, hi⟩, fun h => h⟩).grow g3).keeps k4 (by omega) fun i hi ha => ⟨ha, fun e => ?_⟩
        have := hA i ha.1
        have := g2.1
        omega
      have p8 : Own σ4 5 t8 (CC bs[k].2) := p2.keeps k4 fun i hi e => by have := f8 i hi; omega
      have hRl := bindsR_len (bs.take k) []
      have htk : (bs.take k).length ≤ bs.length := by simp; omega
      simp -dsimp only [↓WPd, ↓wpC_block, ↓wpC_cond, WPu, Bool.false_eq_true, Bool.true_eq_false, Bool.not_true, Bool.not_false, if_true, if_false, ite_true, ite_false, Nat.reduceEqDiff, Nat.reduceLT, true_and, List.map_cons, List.map_nil, Nat.zero_add, Nat.reduceBEq, ↓WPed, WPeu, Nat.reduceAdd, and_self, a1, a2, a3, a4, a5]
      refine calledW_of (rbind_ok d σ4 _ rid _ bs[k].1 u bs[k].2 hr4 (by simp only [List.length_nil] at hRl; omega) hsm.1 (a6 σ4)) ?_
      rintro r4 σ5 ⟨rfl, r5, k5⟩
      have p9 : Own σ5 5 t8 (CC bs[k].2) := p8.keeps k5 fun i hi e => by have := f8 i hi; omega
      have hsame : Same (bindsH [] (bs.take k)) (bindsR [] (bs.take k)) := Same.nil.binds _
      have ee : (bindE (bindsH [] (bs.take k)) bs[k].1 bs[k].2 != bindE (bindsR [] (bs.take k)) bs[k].1 bs[k].2) = false := by rw [hsame.bindE]; simp
      simp -dsimp only [↓WPd, ↓wpC_block, ↓wpC_cond, WPu, Bool.false_eq_true, Bool.true_eq_false, Bool.not_true, Bool.not_false, if_true, if_false, ite_true, ite_false, Nat.reduceEqDiff, Nat.reduceLT, true_and, List.map_cons, List.map_nil, Nat.zero_add, Nat.reduceBEq, ↓WPed, WPeu, Nat.reduceAdd, and_self, a1, a2, a3, a4, a5, ee]
      refine calledW_of (cequal_ok d σ5 t8 u bs[k].2 bs[k].2 (by have := hsm.1; omega) p9.sl (a6 σ5)) ?_
      rintro r6 σ6 ⟨rfl, rfl⟩
      simp -dsimp only [↓WPd, ↓wpC_block, ↓wpC_cond, WPu, Bool.false_eq_true, Bool.true_eq_false, Bool.not_true, Bool.not_false, if_true, if_false, ite_true, ite_false, Nat.reduceEqDiff, Nat.reduceLT, true_and, List.map_cons, List.map_nil, Nat.zero_add, Nat.reduceBEq, ↓WPed, WPeu, Nat.reduceAdd, and_self, a1, a2, a3, a4, a5, ee, decide_true]
      have n8 : NoLit t8 := p5 (.inl trivial)
      have s8 : ∀ i, t8.sid = some i → σ'.length ≤ i ∧ i < σ3.length := fun i hi => ⟨f8 i hi, p2.sl.lt hi⟩
      refine loop_rule2 (fun m vs σ' => ∃ (j : Nat) (cs : List Cel), j ≤ bs[k].2.length ∧ cs.length = bs[k].2.length ∧ m = bs[k].2.length - j ∧ vs = [bv, .ptr id 0, .ptr rid 0, .int .i64 (k : Nat), t8, .int .i64 (j : Nat)] ∧ Own σ' 5 t8 (CC cs) ∧ Keeps (fun i => t8.sid = some i) σ6 σ')
        [0, 5, 6, 7] (fun e vs σ' => e = .exit 2 ∧ vs = [bv, .ptr id 0, .ptr rid 0, .int .i64 (k : Nat)] ∧ Keeps (fun i => t8.sid = some i) σ6 σ') bs[k].2.length
        ⟨0, bs[k].2, Nat.zero_le _, rfl, rfl, ?_, p9, Keeps.refl _ _⟩ ?_ ?_
      · simp -dsimp only [↓WPd, ↓wpC_block, ↓wpC_cond, WPu, Bool.false_eq_true, Bool.true_eq_false, Bool.not_true, Bool.not_false, if_true, if_false, ite_true, ite_false, Nat.reduceEqDiff, Nat.reduceLT, true_and, List.map_cons, List.map_nil, Nat.zero_add, Nat.reduceBEq]; rfl
      · rintro m vs σ7 ⟨j, cs, hj, hcl, rfl, rfl, o7, k7⟩
        have l7 := o7.sl.len
        rw [List.length_map] at l7
        simp -dsimp only [↓WPd, ↓wpC_block, ↓wpC_cond, WPu, Bool.false_eq_true, Bool.true_eq_false, Bool.not_true, Bool.not_false, if_true, if_false, ite_true, ite_false, Nat.reduceEqDiff, Nat.reduceLT, true_and, List.map_cons, List.map_nil, Nat.zero_add, Nat.reduceBEq, l7]
        refine condP_dec (fun hc => ?_) (fun hc => ?_)
        · have hj' : j < cs.length := by omega
          obtain ⟨q, σ8, f1, f2, f3, f4⟩ := o7.setN n8 hj' 99
          have ia := o7.sl.iaddr (show j < (CC cs).length by simpa using hj') .i64
          simp -dsimp only [↓WPd, ↓wpC_block, ↓wpC_cond, WPu, Bool.false_eq_true, Bool.true_eq_false, Bool.not_true, Bool.not_false, if_true, if_false, ite_true, ite_false, Nat.reduceEqDiff, Nat.reduceLT, true_and, List.map_cons, List.map_nil, Nat.zero_add, Nat.reduceBEq, ia, f1, f2]
          have := hsm.1
          refine ⟨bs[k].2.length - (j + 1), by omega, j + 1, _, by omega, by simpa using hcl, rfl, by rw [wrap_i64 (by omega) (by omega), Int.natCast_add, Int.natCast_one], f3, Keeps.trans k7 f4 fun i _ e => e⟩
        · simp -dsimp only [↓WPd, ↓wpC_block, ↓wpC_cond, WPu, Bool.false_eq_true, Bool.true_eq_false, Bool.not_true, Bool.not_false, if_true, if_false, ite_true, ite_false, Nat.reduceEqDiff, Nat.reduceLT, true_and, List.map_cons, List.map_nil, Nat.zero_add, Nat.reduceBEq]
          exact k7
      · rintro e σ7 env ⟨rfl, hv, k7⟩
        simp only [List.map_cons, List.map_nil, List.cons.injEq, and_true] at hv
        obtain ⟨v0, v5, v6, v7⟩ := hv
        simp -dsimp only [↓WPd, ↓wpC_block, ↓wpC_cond, WPu, Bool.false_eq_true, Bool.true_eq_false, Bool.not_true, Bool.not_false, if_true, if_false, ite_true, ite_false, Nat.reduceEqDiff, Nat.reduceLT, true_and, List.map_cons, List.map_nil, Nat.zero_add, Nat.reduceBEq, v0, v5, v6, v7]
        have ht : bs.take (k + 1) = bs.take k ++ [bs[k]] := List.take_succ_eq_append_getElem hk'
        have hid : id < σ'.length := (List.getElem?_eq_some_iff.1 hh.obj).1
        have hrid : rid < σ'.length := by obtain ⟨w, es, o1, _⟩ := hr; exact (List.getElem?_eq_some_iff.1 o1).1
        have gs := g3.1
        have ks := k4.1
        have ks5 := k5.1
        have ks7 := k7.1
        have g1s := g1.1
        refine ⟨bs.length - (k + 1), by omega, k + 1, ws4, (fun i => (A i ∧ i < σ'.length) ∨ σ4.length ≤ i), by omega, rfl, by rw [wrap_i64 (by omega) (by omega), Int.natCast_add, Int.natCast_one], ?_, ?_, ?_, ?_, by omega⟩
        · rw [ht, bindsH_snoc]
          exact (h4.keeps k5 (by omega) (by omega)).keeps k7 (fun e => by have := s8 _ e; omega) (fun e => by have := s8 _ e; omega)
        · rw [ht, bindsR_snoc]
          exact r5.keeps k7 (fun e => by have := s8 _ e; omega) fun i hi ha => ⟨ha, fun e => by have := s8 _ e; rcases ha with ha | ha <;> omega⟩
        · rintro i (ha | ha)
          · exact hA i ha.1
          · omega
        · refine Keeps.trans (Keeps.trans (Keeps.trans (g.trans g3) k4 fun i hi e => by omega) k5 fun i hi e => by omega) k7 fun i hi e => by have := s8 _ e; have := g.1; omega
    · have : k = bs.length := by omega
      subst this
      rw [List.take_length] at hh hr
      simp -dsimp only [↓WPd, ↓wpC_block, ↓wpC_cond, WPu, Bool.false_eq_true, Bool.true_eq_false, Bool.not_true, Bool.not_false, if_true, if_false, ite_true, ite_false, Nat.reduceEqDiff, Nat.reduceLT, true_and, List.map_cons, List.map_nil, Nat.zero_add, Nat.reduceBEq]
      exact ⟨ws, A, hh, hr, hA, g⟩
  · rintro e σ' env ⟨rfl, ws, A, hv, hh, hr, hA, g⟩
    simp only [List.map_cons, List.map_nil, List.cons.injEq, and_true] at hv
    obtain ⟨v4, v5⟩ := hv
    simp -dsimp only [↓WPd, ↓wpC_block, ↓wpC_cond, WPu, Bool.false_eq_true, Bool.true_eq_false, Bool.not_true, Bool.not_false, if_true, if_false, ite_true, ite_false, Nat.reduceEqDiff, Nat.reduceLT, true_and, List.map_cons, List.map_nil, Nat.zero_add, Nat.reduceBEq, v4, v5]
    have := g1.1
    exact ⟨id, mid, ws, rid, A, rfl, hh, hr, g, ⟨m1, m2, by omega, fun i ha => by have := hA i ha; have := g2.1; omega⟩, by omega, by omega, hm⟩
end
end Go.Proofs.YtkjnanfkclijcaaDoor.Am

namespace Go.Proofs.YtkjnanfkclijcaaDoor.Am
open Go
set_option linter.unusedVariables false
set_option linter.unusedSimpArgs false
theorem rank_le' {H : Hp} (t : List Cel) : rank H t ≤ H.length := by
  unfold rank
  split
  · rename_i hs
    obtain ⟨u, hu⟩ := Option.isSome_iff_exists.1 hs
    obtain ⟨h1, h2, h3⟩ := hnext_mem hu
    have := filter_less (fun p : Nm × List Cel => nless p.1 (t.headD default).v) (fun _ => true) (fun _ _ => rfl) H _ h3 (nless_irrefl _) rfl
    rw [List.filter_eq_self.2 (fun _ _ => rfl)] at this
    omega
  · omega
theorem chain_len {H : Hp} (hw : WF H) (t : List Cel) : (chain H t).length ≤ H.length + 1 := by
  by_cases h0 : t = []
  · simp [chain, h0]
  · rw [chain_rank hw h0]
    have := chainF_len (rank H t) H t
    have := rank_le' (H := H) t
    omega
theorem chain_nil {H : Hp} (t : List Cel) : (chain H t).length = 0 ↔ t = [] := by
  unfold chain
  split
  · rename_i e; simp [e]
  · rename_i e
    constructor
    · intro h; cases hH : H.length <;> simp [chainF] at h
    · intro h; exact (e h).elim
theorem chainF_next {H : Hp} (hw : WF H) : ∀ (n : Nat) (t : List Cel), rank H t = n → ∀ (i : Nat) (h : i + 1 < (chainF (rank H t) H t).length), hnext H ((chainF (rank H t) H t)[i]) = some ((chainF (rank H t) H t)[i + 1]) := by
  intro n
  induction n using Nat.strongRecOn with
  | ind n ih =>
    intro t hn i h
    cases hx : hnext H t with
    | none =>
      have e := chainF_none hx
      rw [e] at h
      simp at h
    | some u =>
      have e := chainF_step hw hx
      have hlt := rank_lt hw hx
      have key : ∀ (l : List (List Cel)) (hl : l = t :: chainF (rank H u) H u) (h : i + 1 < l.length), hnext H l[i] = some l[i + 1] := by
        intro l hl h
        subst hl
        cases i with
        | zero =>
          simp only [List.getElem_cons_zero, List.getElem_cons_succ]
          have c0 : ∀ (m : Nat) (h : 0 < (chainF m H u).length), (chainF m H u)[0] = u := by
            intro m h; cases m <;> simp [chainF]
          rw [hx, c0]
        | succ i =>
          simp only [List.getElem_cons_succ]
          exact ih _ (by omega) u rfl i (by simpa using h)
      exact key _ e h
theorem chain_next {H : Hp} (hw : WF H) (t : List Cel) (i : Nat) (h : i + 1 < (chain H t).length) : hnext H ((chain H t)[i]) = some ((chain H t)[i + 1]) := by
  by_cases h0 : t = []
  · simp [chain, h0] at h
  · have e := chain_rank hw h0
    have key : ∀ (l : List (List Cel)) (hl : l = chainF (rank H t) H t) (h : i + 1 < l.length), hnext H l[i] = some l[i + 1] := by
      intro l hl h
      subst hl
      exact chainF_next hw _ t rfl i h
    exact key _ e h
theorem chain_falls {H : Hp} (hw : WF H) (t : List Cel) (i : Nat) (h : i + 1 < (chain H t).length) : ∃ c d s, (chain H t)[i] = [c] ∧ (chain H t)[i + 1] = d :: s ∧ c.k = 4 ∧ (d.k = 4 → nless d.v c.v = true) := by
  have hn := chain_next hw t i h
  obtain ⟨h1, h2, h3⟩ := hnext_mem hn
  obtain ⟨c, hc⟩ := List.length_eq_one_iff.1 h1
  obtain ⟨_, _, o3, o4⟩ := hw.ok _ h3
  simp only at o3 o4
  obtain ⟨d, s, hd⟩ := List.exists_cons_of_ne_nil (right_ne (glob_right o3))
  have e1 : ((chain H t)[i + 1]).headD default = d := by rw [hd]; rfl
  have e2 : ((chain H t)[i]).headD default = c := by rw [hc]; rfl
  simp only [e1, e2] at o4 h2
  exact ⟨c, d, s, hc, hd, h2, o4⟩
theorem WF.short {H : Hp} (hw : WF H) {p : Nm × List Cel} (hp : p ∈ H) : p.2.length ≤ 256 := (right_len (glob_right (hw.ok _ hp).2.2.1)).2
end Go.Proofs.YtkjnanfkclijcaaDoor.Am

namespace Go.Proofs.YtkjnanfkclijcaaDoor.Am
open Go
set_option maxRecDepth 100000
theorem live05_ran : (run CU.cfg 300 1 39 [] []).map (fun p => p.1) = some (.bool true) := by kernel_rfl
end Go.Proofs.YtkjnanfkclijcaaDoor.Am

namespace Go.Proofs.YtkjnanfkclijcaaDoor.Am
open Go
set_option linter.unusedVariables false
set_option linter.unusedSimpArgs false
set_option linter.unusedSectionVars false
set_option maxRecDepth 100000
theorem BRows.keeps {σ σ' : Store} {M : Nat → Prop} {lo : Nat} {l : AVal} {us : List AVal} {R : Hp} (h : BRows σ lo l us R) (g : Keeps M σ σ') (hm : ∀ i, i < σ.length → lo ≤ i → ¬ M i) : BRows σ' lo l us R := XRows.keeps h g hm
theorem Told.at {u : AVal} {t : List Cel} (h : Told u t) (σ : Store) : SlOf σ 5 u (CC t) := h σ
end Go.Proofs.YtkjnanfkclijcaaDoor.Am

namespace Go.Proofs.YtkjnanfkclijcaaDoor.Am
open Go
set_option linter.unusedVariables false
set_option linter.unusedSimpArgs false
set_option linter.unusedSectionVars false
set_option maxRecDepth 100000
theorem XRows.at {σ : Store} {lo sz : Nat} {l : AVal} {es : List AVal} {ps : List (List AVal)} (h : XRows σ lo 1 sz l es es ps) {i : Nat} (hi : i < ps.length) :
    ∃ e, es[i]? = some e ∧ iaddrV 1 l (.int .i64 i) = some (addrOf 1 l i) ∧ loadV σ 1 false (addrOf 1 l i) = some e ∧ Own σ sz e ps[i] ∧ NoLit e := by
  have hi' : i < es.length := by rw [h.len]; exact hi
  have o := h.one i es[i] ps[i] (List.getElem?_eq_getElem hi') (List.getElem?_eq_getElem hi)
  exact ⟨es[i], List.getElem?_eq_getElem hi', h.row.sl.iaddr hi' .i64, h.row.sl.load1 hi' o.one 1, o, h.lit i _ (List.getElem?_eq_getElem hi')⟩
theorem head5_at {σ : Store} {v : AVal} {c : Cel} {s : List Cel} (h : SlOf σ 5 v (CC (c :: s))) : ∃ q0 q3, iaddrV 5 v (.int .i64 0) = some (addrOf 5 v 0) ∧ faddrV 0 (addrOf 5 v 0) = some q0 ∧ loadV σ 1 false q0 = some (.int .u8 c.k) ∧ faddrV 3 (addrOf 5 v 0) = some q3 ∧ loadV σ 2 true q3 = some (nmV c.v) := by
  have hi0 : 0 < (CC (c :: s)).length := by simp
  have hb := (h.addr hi0 .i64).2
  rw [cel_get] at hb
  have hb' : behind σ (addrOf 5 v 0) = some (c.cs, 0) := hb
  obtain ⟨q0, p0, b0⟩ := faddr_at hb' 0
  obtain ⟨q3, p3, b3⟩ := faddr_at hb' 3
  exact ⟨q0, q3, h.iaddr hi0 .i64, p0, load_at b0, p3, loadN_at b3 (by simp [Cel.cs])⟩
set_option maxHeartbeats 1000000 in
theorem falls_run (bv tv : AVal) (bs : Hp) (t : List Cel) (hb : BdArg bv bs) (ht : Told tv t) (hst : t.length < 2 ^ 30) :
    Called CU.cfg 0 8 [bv, tv] [] fun v _ => v = .bool true := by
  refine called_of (fn := CU.a8) rfl (Nat.le_of_ble_eq_true rfl) ?_
  simp only [CU.a8]
  simp -dsimp only [↓WPd, ↓wpC_block, ↓wpC_cond, WPu, Bool.false_eq_true, Bool.true_eq_false, Bool.not_true, Bool.not_false, if_true, if_false, ite_true, ite_false, Nat.reduceEqDiff, Nat.reduceLT, true_and, List.map_cons, List.map_nil, Nat.zero_add, Nat.reduceBEq, WPm]
  refine calledW_of (both5_ok 0 [] bv bs hb) ?_
  rintro r σ1 ⟨id, mid, vs, rid, A, rfl, h1, -, g1, -, -, -, -⟩
  have hw := h1.wf
  have hs : Same (bindsH [] bs) (bindsR [] bs) := Same.nil.binds bs
  have hlen := bindsR_len bs []
  have hlb := hb.len
  simp only [List.length_nil] at hlen
  generalize bindsH [] bs = H at *
  generalize bindsR [] bs = R at *
  have hHR := hs.len
  simp -dsimp only [↓WPd, ↓wpC_block, ↓wpC_cond, WPu, Bool.false_eq_true, Bool.true_eq_false, Bool.not_true, Bool.not_false, if_true, if_false, ite_true, ite_false, Nat.reduceEqDiff, Nat.reduceLT, true_and, List.map_cons, List.map_nil, Nat.zero_add, Nat.reduceBEq, WPm, List.getElem?_cons_zero, List.getElem?_cons_succ]
  refine calledW_of (hchain_ok 0 σ1 (.ptr id 0) tv H t h1.v hw (by omega) (ht σ1) hst) ?_
  rintro l σ2 ⟨g2, es, hl⟩
  have h2 := h1.grow g2
  have hlc := chain_len hw t
  have ll : lenSV l = some (chain H t).length := by have := hl.row.sl.len; have h' := hl.len; rw [List.length_map] at h'; rw [this, h']
  simp -dsimp only [↓WPd, ↓wpC_block, ↓wpC_cond, WPu, Bool.false_eq_true, Bool.true_eq_false, Bool.not_true, Bool.not_false, if_true, if_false, ite_true, ite_false, Nat.reduceEqDiff, Nat.reduceLT, true_and, List.map_cons, List.map_nil, Nat.zero_add, Nat.reduceBEq, WPm]
  refine loop_rule2 (fun m vs σ' => ∃ k, k ≤ (chain H t).length ∧ m = (chain H t).length - k ∧ vs = [tv, .ptr id 0, .bool true, l, .int .i64 (k : Nat)] ∧ Grows σ2 σ')
    [1, 5, 7, 8] (fun e vs σ' => e = .exit 0 ∧ vs = [tv, .ptr id 0, .bool true, l] ∧ Grows σ2 σ') (chain H t).length
    ⟨0, Nat.zero_le _, rfl, ?_, Keeps.refl _ _⟩ ?_ ?_
  · simp -dsimp only [↓WPd, ↓wpC_block, ↓wpC_cond, WPu, Bool.false_eq_true, Bool.true_eq_false, Bool.not_true, Bool.not_false, if_true, if_false, ite_true, ite_false, Nat.reduceEqDiff, Nat.reduceLT, true_and, List.map_cons, List.map_nil, Nat.zero_add, Nat.reduceBEq]; rfl
  · rintro m vs' σ' ⟨k, hk, rfl, rfl, g⟩
    have hk1 : IntKind.i64.wrap ((k : Int) + 1) = ((k + 1 : Nat) : Int) := by rw [wrap_i64 (by omega) (by omega), Int.natCast_add, Int.natCast_one]
    simp -dsimp only [↓WPd, ↓wpC_block, ↓wpC_cond, WPu, Bool.false_eq_true, Bool.true_eq_false, Bool.not_true, Bool.not_false, if_true, if_false, ite_true, ite_false, Nat.reduceEqDiff, Nat.reduceLT, true_and, List.map_cons, List.map_nil, Nat.zero_add, Nat.reduceBEq, WPm, ll, hk1]
    refine condP_dec (fun hc => ?_) (fun hc => ?_)
    · have hk' : k + 1 < (chain H t).length := by omega
      obtain ⟨c, dc, s, e1, e2, e3, e4⟩ := chain_falls hw t k hk'
      obtain ⟨x, -, a1, a2, a3, -⟩ := (hl.grow g).at (i := k) (by simp; omega)
      obtain ⟨y, -, b1, b2, b3, -⟩ := (hl.grow g).at (i := k + 1) (by simp; omega)
      simp only [List.getElem_map, e1, e2] at a3 b3
      have lx := a3.sl.len
      have ly := b3.sl.len
      have lx' : lenSV x = some 1 := lx
      have ly' : lenSV y = some (s.length + 1) := by rw [ly]; simp
      obtain ⟨qx, qx3, x1, x2, x3, x4, x5⟩ := head5_at a3.sl
      obtain ⟨qy, qy3, y1, y2, y3, y4, y5⟩ := head5_at b3.sl
      have k4 : ((c.k : Int) != 4) = false := by rw [e3]; rfl
      have n1 : (((1 : Nat) : Int) != 1) = false := rfl
      have n2 : (((s.length + 1 : Nat) : Int) == 0) = false := by simp; omega
      have kd : ((dc.k : Int) == 4) = decide (dc.k = 4) := by by_cases h : dc.k = 4 <;> simp [h] <;> omega
      cases hd : decide (dc.k = 4) with
      | false =>
        simp -dsimp only [↓WPd, ↓wpC_block, ↓wpC_cond, WPu, Bool.false_eq_true, Bool.true_eq_false, Bool.not_true, Bool.not_false, if_true, if_false, ite_true, ite_false, Nat.reduceEqDiff, Nat.reduceLT, true_and, List.map_cons, List.map_nil, Nat.zero_add, Nat.reduceBEq, WPm, a1, a2, b1, b2, lx', ly', x1, x2, x3, y1, y2, y3, k4, n1, n2, kd, hd, hk1]
        refine ⟨(chain H t).length - (k + 1), by omega, k + 1, by omega, rfl, rfl, g⟩
      | true =>
        have hn := e4 (of_decide_eq_true hd)
        simp -dsimp only [↓WPd, ↓wpC_block, ↓wpC_cond, WPu, Bool.false_eq_true, Bool.true_eq_false, Bool.not_true, Bool.not_false, if_true, if_false, ite_true, ite_false, Nat.reduceEqDiff, Nat.reduceLT, true_and, List.map_cons, List.map_nil, Nat.zero_add, Nat.reduceBEq, WPm, a1, a2, b1, b2, lx', ly', x1, x2, x3, x4, x5, y1, y2, y3, y4, y5, k4, n1, n2, kd, hd, hk1]
        refine calledW_of (rless_ok 0 σ' dc.v c.v) ?_
        rintro r4 σ4 ⟨rfl, g4⟩
        simp -dsimp only [↓WPd, ↓wpC_block, ↓wpC_cond, WPu, Bool.false_eq_true, Bool.true_eq_false, Bool.not_true, Bool.not_false, if_true, if_false, ite_true, ite_false, Nat.reduceEqDiff, Nat.reduceLT, true_and, List.map_cons, List.map_nil, Nat.zero_add, Nat.reduceBEq, WPm, hn, hk1]
        refine ⟨(chain H t).length - (k + 1), by omega, k + 1, by omega, rfl, rfl, g.trans g4⟩
    · simp -dsimp only [↓WPd, ↓wpC_block, ↓wpC_cond, WPu, Bool.false_eq_true, Bool.true_eq_false, Bool.not_true, Bool.not_false, if_true, if_false, ite_true, ite_false, Nat.reduceEqDiff, Nat.reduceLT, true_and, List.map_cons, List.map_nil, Nat.zero_add, Nat.reduceBEq]
      exact g
  · rintro e σ3 env ⟨rfl, hv, g⟩
    simp only [List.map_cons, List.map_nil, List.cons.injEq, and_true] at hv
    obtain ⟨v1, v5, v7, v8⟩ := hv
    simp -dsimp only [↓WPd, ↓wpC_block, ↓wpC_cond, WPu, Bool.false_eq_true, Bool.true_eq_false, Bool.not_true, Bool.not_false, if_true, if_false, ite_true, ite_false, Nat.reduceEqDiff, Nat.reduceLT, true_and, List.map_cons, List.map_nil, Nat.zero_add, Nat.reduceBEq, WPm, v1, v5, v7, v8]
    refine isoW_bool live05_ran ?_
    simp -dsimp only [↓WPd, ↓wpC_block, ↓wpC_cond, WPu, Bool.false_eq_true, Bool.true_eq_false, Bool.not_true, Bool.not_false, if_true, if_false, ite_true, ite_false, Nat.reduceEqDiff, Nat.reduceLT, true_and, List.map_cons, List.map_nil, Nat.zero_add, Nat.reduceBEq, WPm, v1, v5, v7, v8, ll]
    refine calledW_of (bindings_ok 0 σ3 id mid vs H R (h2.grow g) hs (by omega) fun p hp => by have := hs.wfr.short hp; omega) ?_
    rintro b σ4 ⟨g4, us, hbr⟩
    have lb := hbr.bds.len
    have hk1 : IntKind.i64.wrap ((R.length : Int) + 1) = ((R.length + 1 : Nat) : Int) := by rw [wrap_i64 (by omega) (by omega), Int.natCast_add, Int.natCast_one]
    have hle : decide (((chain H t).length : Int) ≤ ((R.length + 1 : Nat) : Int)) = true := decide_eq_true (by omega)
    have lt := (ht σ4).len
    rw [List.length_map] at lt
    have hn : (((chain H t).length : Int) == 0) = ((t.length : Int) == 0) := by
      have z : ∀ n : Nat, ((n : Int) == 0) = decide (n = 0) := fun n => by by_cases h : n = 0 <;> simp [h]
      rw [z, z]
      exact decide_eq_decide.2 ((chain_nil t).trans List.length_eq_zero_iff.symm)
    simp -dsimp only [↓WPd, ↓wpC_block, ↓wpC_cond, WPu, Bool.false_eq_true, Bool.true_eq_false, Bool.not_true, Bool.not_false, if_true, if_false, ite_true, ite_false, Nat.reduceEqDiff, Nat.reduceLT, true_and, List.map_cons, List.map_nil, Nat.zero_add, Nat.reduceBEq, WPm, v1, v5, v7, v8, ll, lb, hk1, hle, lt, hn, beq_self_eq_true]
end Go.Proofs.YtkjnanfkclijcaaDoor.Am

