/-
  The abstract machine and the functions of the law, 5: texts put together.
-/
import Derived.Test.YtelpjaejmneplaaDoorReachGarbagePkB
import Derived.Test.YtelpjaejmneplaaDoorReachGarbagePkD
import Derived.Test.YtelpjaejmneplaaDoorReachGarbagePkC
set_option linter.unusedVariables false
set_option linter.unusedSimpArgs false
set_option linter.unusedSectionVars false
set_option maxRecDepth 100000
namespace Go.Proofs.YtelpjaejmneplaaDoor.Am
open Go
structure XRows (σ : Store) (lo k sz : Nat) (l : AVal) (xs es : List AVal) (ps : List (List AVal)) : Prop where
 row : Own σ k l xs
 lex : xs.length = es.length
 len : es.length = ps.length
 one : ∀ (i : Nat) (e : AVal) (p : List AVal), es[i]? = some e → ps[i]? = some p → Own σ sz e p
 frs : ∀ (i : Nat) (e : AVal), es[i]? = some e → Fresh lo e
 frl : Fresh lo l
 apart : ∀ (i j : Nat) (e e' : AVal) (id : Nat), es[i]? = some e → es[j]? = some e' → e.sid = some id → e'.sid = some id → i = j
 off : ∀ (i : Nat) (e : AVal) (id : Nat), es[i]? = some e → e.sid = some id → l.sid ≠ some id
 lit : ∀ (i : Nat) (e : AVal), es[i]? = some e → NoLit e
theorem XRows.nil (σ : Store) (lo k sz : Nat) : XRows σ lo k sz .nilslice [] [] [] :=
 ⟨Own.nil _ _, rfl, rfl, fun i e p h => by simp at h, fun i e h => by simp at h, Fresh.nil _, fun i j e e' id h => by simp at h, fun i e id h => by simp at h, fun i e h => by simp at h⟩
theorem XRows.lo {σ : Store} {lo lo' k sz : Nat} {l : AVal} {xs es : List AVal} {ps : List (List AVal)} (h : XRows σ lo k sz l xs es ps) (hl : lo' ≤ lo) : XRows σ lo' k sz l xs es ps :=
 ⟨h.row, h.lex, h.len, h.one, fun i e he => (h.frs i e he).le hl, h.frl.le hl, h.apart, h.off, h.lit⟩
theorem XRows.lt {σ : Store} {lo k sz : Nat} {l : AVal} {xs es : List AVal} {ps : List (List AVal)} (h : XRows σ lo k sz l xs es ps) {i : Nat} {e : AVal} (hi : es[i]? = some e) {id : Nat} (hid : e.sid = some id) : id < σ.length := by
 have hlt := (List.getElem?_eq_some_iff.1 hi).1
 have := h.one i e (ps[i]'(by rw [← h.len]; exact hlt)) hi (List.getElem?_eq_getElem _)
 exact this.sl.lt hid
theorem XRows.grow {σ σ' : Store} {lo k sz : Nat} {l : AVal} {xs es : List AVal} {ps : List (List AVal)} (h : XRows σ lo k sz l xs es ps) (g : Grows σ σ') : XRows σ' lo k sz l xs es ps :=
 ⟨h.row.grow g, h.lex, h.len, fun i e p h1 h2 => (h.one i e p h1 h2).grow g, h.frs, h.frl, h.apart, h.off, h.lit⟩
theorem XRows.keeps {σ σ' : Store} {M : Nat → Prop} {lo k sz : Nat} {l : AVal} {xs es : List AVal} {ps : List (List AVal)} (h : XRows σ lo k sz l xs es ps) (g : Keeps M σ σ') (hm : ∀ i, i < σ.length → lo ≤ i → ¬ M i) : XRows σ' lo k sz l xs es ps :=
 ⟨Own.keeps h.row g fun id hid => hm id (h.row.sl.lt hid) (h.frl id hid), h.lex, h.len, fun i e p h1 h2 => Own.keeps (h.one i e p h1 h2) g fun id hid => hm id (h.lt h1 hid) (h.frs i e h1 id hid), h.frs, h.frl, h.apart, h.off, h.lit⟩
theorem XRows.push {σ σ1 : Store} {lo k sz : Nat} {l : AVal} {xs es : List AVal} {ps : List (List AVal)} (h : XRows σ lo k sz l xs es ps) (hlo : lo ≤ σ.length) (g : Grows σ σ1) {x e : AVal} {p : List AVal} (he : Own σ1 sz e p) (fe : Fresh σ.length e) (le : NoLit e)
  (bytes : Nat) (hb : (es.length + 1) * bytes ≤ 70368744177664) :
  ∃ l' σ2, appendV σ1 k bytes l [x] = some (l', σ2) ∧ XRows σ2 lo k sz l' (xs ++ [x]) (es ++ [e]) (ps ++ [p]) ∧ Keeps (fun i => lo ≤ i) σ1 σ2 := by
 obtain ⟨l', σ2, h1, h2, h3, h4, h5⟩ := (h.row.grow g).append [x] bytes (by rw [h.lex]; exact hb)
 have old : ∀ (i : Nat) (x : AVal), (es ++ [e])[i]? = some x → (es[i]? = some x ∧ i < es.length) ∨ (i = es.length ∧ x = e) := by
  intro i x hx
  rw [List.getElem?_append] at hx
  split at hx
  ·rename_i hlt; exact .inl ⟨hx, hlt⟩
  ·rename_i hlt
   rw [List.getElem?_singleton] at hx
   split at hx
   ·injection hx with hx; exact .inr ⟨by omega, hx.symm⟩
   ·cases hx
 have hll : ∀ id, l.sid = some id → id < σ.length := fun id hid => h.row.sl.lt hid
 have hx1 : ∀ (i : Nat) (x : AVal) (id : Nat), (es ++ [e])[i]? = some x → x.sid = some id → id < σ1.length ∧ l.sid ≠ some id := by
  intro i x id hx hid
  rcases old i x hx with ⟨hx, _⟩ | ⟨_, rfl⟩
  ·exact ⟨Nat.lt_of_lt_of_le (h.lt hx hid) g.1, h.off i x id hx hid⟩
  ·exact ⟨he.sl.lt hid, fun hl => by have := fe id hid; have := hll id hl; omega⟩
 refine ⟨l', σ2, h1, ⟨h2, by simp [h.lex], by simp [h.len], ?_, ?_, ?_, ?_, ?_, ?_⟩, h3.mono fun i hi hs => h.frl i hs⟩
 ·intro i x q hx hq
  refine Own.keeps (σ := σ1) ?_ h3 fun id hid => (hx1 i x id hx hid).2
  rcases old i x hx with ⟨hx, hlt⟩ | ⟨rfl, rfl⟩
  ·rw [List.getElem?_append_left (by rw [← h.len]; exact hlt)] at hq
   exact (h.one i x q hx hq).grow g
  ·rw [h.len, List.getElem?_append_right (Nat.le_refl _), Nat.sub_self] at hq
   simp at hq; subst hq; exact he
 ·intro i x hx
  rcases old i x hx with ⟨hx, _⟩ | ⟨_, rfl⟩
  ·exact h.frs i x hx
  ·exact fe.le hlo
 ·intro id hid
  rcases h4 id hid with hh | hh
  ·exact h.frl id hh
  ·have := g.1; omega
 ·intro i j x y id hx hy hxi hyi
  rcases old i x hx with ⟨hx', hil⟩ | ⟨hi, hxe⟩ <;> rcases old j y hy with ⟨hy', hjl⟩ | ⟨hj, hye⟩
  ·exact h.apart i j x y id hx' hy' hxi hyi
  ·rw [hye] at hyi; have := h.lt hx' hxi; have := fe id hyi; omega
  ·rw [hxe] at hxi; have := h.lt hy' hyi; have := fe id hxi; omega
  ·omega
 ·intro i x id hx hid hl
  obtain ⟨k1, k2⟩ := hx1 i x id hx hid
  rcases h4 id hl with hh | hh
  ·exact k2 hh
  ·omega
 ·intro i x hx
  rcases old i x hx with ⟨hx, _⟩ | ⟨_, rfl⟩
  ·exact h.lit i x hx
  ·exact le
theorem nm_putB (σ : Store) (v : Nm) : storeV (σ ++ [AObj.cells [.int .i64 0, .int .i64 0]]) 2 (.ptr σ.length 0) (nmV v) = some (σ ++ [AObj.cells (nmC v)]) := by
 have h : (σ ++ [AObj.cells [.int .i64 0, .int .i64 0]])[σ.length]? = some (.cells [.int .i64 0, .int .i64 0]) := by simp
 rw [nm_agg, storeN_cells (cs' := nmC v) (n := 2) h rfl rfl rfl, set_last]
theorem HeapP.look1 {σ : Store} {id mid : Nat} {vs : List AVal} {H : Hp} (h : HeapP σ id mid vs H) (v : Nm) :
  ∃ u, lookupV σ true [.i, .i] .nilslice (.map mid) (nmV v) false = some u ∧ Told u ((lk H v).getD []) := by
 obtain ⟨o, h1, h2⟩ := find_nm v H
 have hk : keyEq true [.i, .i] (nmV v) (nmV v) = some true := by rw [nm_keyEq, decide_eq_true rfl]
 have hf : findKK true [.i, .i] (nmV v) (H.map fun p => nmV p.1) = some o := by simp only [findKK, hk, Option.isSome_some, if_true, h1]
 have hm : mapOf σ (.map mid) = some (H.map fun p => nmV p.1, vs) := by simp only [mapOf, h.map]
 cases o with
 | none =>
  refine ⟨.nilslice, ?_, ?_⟩
  ·simp only [lookupV, hm, hf]; rfl
  ·rw [h2]; exact Told.nil
 | some i =>
  obtain ⟨p, p1, p2, p3⟩ := h2
  obtain ⟨hi, hpe⟩ := List.getElem?_eq_some_iff.1 p1
  obtain ⟨u, u1, u2⟩ := h.vals.get hi
  refine ⟨u, ?_, ?_⟩
  ·simp only [lookupV, hm, hf, u1, Option.map_some]; rfl
  ·rw [p3]; rw [hpe] at u2; exact u2
def bdVs (R : Hp) (us : List AVal) : List AVal := List.zipWith (fun p u => bdV p.1 u) R us
abbrev BRows (σ : Store) (lo : Nat) (l : AVal) (us : List AVal) (R : Hp) : Prop := XRows σ lo 3 5 l (bdVs R us) us (R.map fun p => CC p.2)
section
variable (d : Nat) (σ : Store)
theorem mkeys_ok (m : AVal) (hm : m.one = true) : Called CU.cfg d 37 [m] σ fun r σ' => r = .func 62 [] [.ptr σ.length 0] ∧ σ' = σ ++ [.cells [m]] := by
 refine called_of (fn := CU.a37) rfl (Nat.le_of_ble_eq_true rfl) ?_
 simp only [CU.a37]
 have hc : m.cells = [m] := by cases m <;> simp_all [AVal.one]
 have h1 : [m].all AVal.one = true := by simp only [List.all_cons, List.all_nil, hm]; rfl
 simp -dsimp only [↓WPd, ↓wpC_block, ↓wpC_cond, WPu, Bool.false_eq_true, Bool.true_eq_false, Bool.not_true, Bool.not_false, if_true, if_false, ite_true, ite_false, Nat.reduceEqDiff, Nat.reduceLT, true_and, List.map_cons, List.map_nil, Nat.zero_add, Nat.reduceBEq, hc, h1]
theorem sorted_ok (i mid : Nat) (ns : List Nm) (vs : List AVal) (h1 : σ[i]? = some (.cells [.map mid])) (h2 : σ[mid]? = some (.map (ns.map nmV) vs)) (hn : ns.length ≤ 8796093022208) :
  Called CU.cfg d 36 [.func 62 [] [.ptr i 0], .func 38 [] []] σ fun r σ' => SlOf σ' 2 r ((sortN ns).map nmV) ∧ Grows σ σ' := by
 have hk : keysOf σ (.map mid) = some (ns.map nmV) := by simp only [keysOf, h2]
 have he : natSF 62 38 [.func 62 [] [.ptr i 0], .func 38 [] []] σ = some (match ns with | [] => (.nilslice, σ) | _ => (.slice 2 σ.length 0 0 ns.length none, σ ++ [.arr 2 ((sortN ns).map nmV) 0 0])) := by
  simp only [natSF, and_self, if_true, h1, hk, nmsOf_map, if_pos hn]
  cases ns <;> rfl
 cases ns with
 | nil => exact called_nat rfl he ⟨SlOf.nil _ _, Keeps.refl _ _⟩
 | cons x r =>
  refine called_nat rfl he ⟨?_, Grows.app _ _⟩
  have hl : ((sortN (x :: r)).map nmV).length = (x :: r).length := by rw [List.length_map, sortN_len]
  refine ⟨?_, ?_, fun s id ep off len c h => by cases h⟩
  ·have e : ((sortN (x :: r)).map nmV).take (x :: r).length = (sortN (x :: r)).map nmV := List.take_of_length_le (by omega)
   simp only [List.length_cons] at e
   simp [elems, hl, e]
  ·simp [lenSV, hl]
set_option maxHeartbeats 1000000 in
theorem bindings_ok (id mid : Nat) (vs : List AVal) (H R : Hp) (h : HeapP σ id mid vs H) (hs : Same H R) (hn : R.length < 2 ^ 30) (hsm : ∀ p ∈ R, p.2.length < 2 ^ 30) :
  Called CU.cfg d 15 [.ptr id 0] σ fun l σ' => Grows σ σ' ∧ ∃ us, BRows σ' σ.length l us R := by
 refine called_of (fn := CU.a15) rfl (Nat.le_of_ble_eq_true rfl) ?_
 simp only [CU.a15]
 have e1 : ([AVal.map mid] : List AVal)[0]? = some (.map mid) := rfl
 simp -dsimp only [↓WPd, ↓wpC_block, ↓wpC_cond, WPu, Bool.false_eq_true, Bool.true_eq_false, Bool.not_true, Bool.not_false, if_true, if_false, ite_true, ite_false, Nat.reduceEqDiff, Nat.reduceLT, true_and, List.map_cons, List.map_nil, Nat.zero_add, Nat.reduceBEq, isnil_ptr, faddr_ptr, Nat.add_zero, load_cells h.obj, e1]
 refine calledW_of (mkeys_ok d σ (.map mid) rfl) ?_
 rintro r σ1 ⟨rfl, rfl⟩
 have g1 : Grows σ (σ ++ [AObj.cells [.map mid]]) := Grows.app _ _
 have ho : (σ ++ [AObj.cells [.map mid]])[σ.length]? = some (.cells [.map mid]) := by simp
 have h1 := h.grow g1
 generalize σ ++ [AObj.cells [.map mid]] = σ1 at g1 ho h1
 simp -dsimp only [↓WPd, ↓wpC_block, ↓wpC_cond, WPu, Bool.false_eq_true, Bool.true_eq_false, Bool.not_true, Bool.not_false, if_true, if_false, ite_true, ite_false, Nat.reduceEqDiff, Nat.reduceLT, true_and, List.map_cons, List.map_nil, Nat.zero_add, Nat.reduceBEq]
 have hm := h1.map
 have em : (H.map fun p => nmV p.1) = (H.map (·.1)).map nmV := by rw [List.map_map]; rfl
 rw [em] at hm
 have hHR := hs.perm.length_eq
 refine calledW_of (sorted_ok d σ1 σ.length mid (H.map (·.1)) vs ho hm (by rw [List.length_map]; omega)) ?_
 rintro r σ2 ⟨hr, g2⟩
 rw [hs.sort] at hr
 have g02 := g1.trans g2
 have h2 := h1.grow g2
 have lr : lenSV r = some R.length := by rw [hr.len]; simp
 simp -dsimp only [↓WPd, ↓wpC_block, ↓wpC_cond, WPu, Bool.false_eq_true, Bool.true_eq_false, Bool.not_true, Bool.not_false, if_true, if_false, ite_true, ite_false, Nat.reduceEqDiff, Nat.reduceLT, true_and, List.map_cons, List.map_nil, Nat.zero_add, Nat.reduceBEq, lr]
 refine loop_rule2 (fun m vs' σ' => ∃ (k : Nat) (l : AVal) (us : List AVal), k ≤ R.length ∧ m = R.length - k ∧ vs' = [.ptr id 0, l, r, .int .i64 R.length, .int .i64 (k : Nat)] ∧ Grows σ σ' ∧ Grows σ2 σ' ∧ BRows σ' σ2.length l us (R.take k))
  [3] (fun e vs' σ' => e = .exit 0 ∧ ∃ (l : AVal) (us : List AVal), vs' = [l] ∧ Grows σ σ' ∧ BRows σ' σ2.length l us R) R.length
  ⟨0, .nilslice, [], Nat.zero_le _, rfl, ?_, g02, Keeps.refl _ _, XRows.nil _ _ _ _⟩ ?_ ?_
 ·simp -dsimp only [↓WPd, ↓wpC_block, ↓wpC_cond, WPu, Bool.false_eq_true, Bool.true_eq_false, Bool.not_true, Bool.not_false, if_true, if_false, ite_true, ite_false, Nat.reduceEqDiff, Nat.reduceLT, true_and, List.map_cons, List.map_nil, Nat.zero_add, Nat.reduceBEq]; rfl
 ·rintro m vs' σ' ⟨k, l, us, hk, rfl, rfl, g, g', hx⟩
  simp -dsimp only [↓WPd, ↓wpC_block, ↓wpC_cond, WPu, Bool.false_eq_true, Bool.true_eq_false, Bool.not_true, Bool.not_false, if_true, if_false, ite_true, ite_false, Nat.reduceEqDiff, Nat.reduceLT, true_and, List.map_cons, List.map_nil, Nat.zero_add, Nat.reduceBEq]
  refine condP_dec (fun hc => ?_) (fun hc => ?_)
  ·have hk' : k < R.length := by omega
   have hr' := hr.grow g'
   have hke : k < ((R.map (·.1)).map nmV).length := by simpa using hk'
   have ia : iaddrV 2 r (.int .i64 k) = some (addrOf 2 r k) := hr'.iaddr hke .i64
   have hb := (hr'.addr hke .i64).2
   have hb' : behind σ' (addrOf 2 r k) = some (nmC R[k].1, 0) := by
    rw [hb]; simp only [List.getElem_map, nm_cells]
   have ld : loadV σ' 2 true (addrOf 2 r k) = some (nmV R[k].1) := loadN_at hb' (by simp [nmC])
   have ho' : (σ' ++ [AObj.cells (nmC R[k].1)])[σ'.length]? = some (.cells (nmC R[k].1)) := by simp
   have g3 : Grows σ' (σ' ++ [AObj.cells (nmC R[k].1)]) := Grows.app _ _
   simp -dsimp only [↓WPd, ↓wpC_block, ↓wpC_cond, WPu, Bool.false_eq_true, Bool.true_eq_false, Bool.not_true, Bool.not_false, if_true, if_false, ite_true, ite_false, Nat.reduceEqDiff, Nat.reduceLT, true_and, List.map_cons, List.map_nil, Nat.zero_add, Nat.reduceBEq, ia, ld, nm_putB]
   have h3 := (h2.grow g').grow g3
   have hx3 := hx.grow g3
   have g03 := g.trans g3
   have g23 := g'.trans g3
   have hl3 : σ2.length ≤ (σ' ++ [AObj.cells (nmC R[k].1)]).length := g23.1
   generalize σ' ++ [AObj.cells (nmC R[k].1)] = σ3 at ho' g3 h3 hx3 g03 g23 hl3
   obtain ⟨t, u1, u2⟩ := h3.look1 R[k].1
   have hlk : (lk H R[k].1).getD [] = R[k].2 := by
    rw [lk_of_mem hs.wf.keys (t := R[k].2) (hs.perm.mem_iff.2 (show (R[k].1, R[k].2) ∈ R from List.getElem_mem hk'))]; rfl
   rw [hlk] at u2
   refine drawnP_of rfl ?_
   simp -dsimp only [↓WPd, ↓wpC_block, ↓wpC_cond, WPu, Bool.false_eq_true, Bool.true_eq_false, Bool.not_true, Bool.not_false, if_true, if_false, ite_true, ite_false, Nat.reduceEqDiff, Nat.reduceLT, true_and, List.map_cons, List.map_nil, Nat.zero_add, Nat.reduceBEq, ↓WPed, WPeu, Nat.reduceAdd, and_self, load_nm ho', isnil_ptr, faddr_ptr, Nat.add_zero, load_cells h3.obj, e1, u1]
   refine calledW_of (cclone_ok d σ3 t R[k].2 (hsm _ (List.getElem_mem hk')) (u2 σ3)) ?_
   rintro u σ4 ⟨g4, ou, fu, nu⟩
   obtain ⟨l', σ5, a1, a2, a3⟩ := hx3.push hl3 g4 (x := bdV R[k].1 u) ou (fu.le (Nat.le_refl _)) nu 40 (by have := hx3.lex; have := hx3.len; simp only [List.length_map, List.length_take] at this; omega)
   have fl := elems_fs 3 (AVal.tagL [bdV R[k].1 u]) true σ4 [bdV R[k].1 u]
   simp -dsimp only [↓WPd, ↓wpC_block, ↓wpC_cond, WPu, Bool.false_eq_true, Bool.true_eq_false, Bool.not_true, Bool.not_false, if_true, if_false, ite_true, ite_false, Nat.reduceEqDiff, Nat.reduceLT, true_and, List.map_cons, List.map_nil, Nat.zero_add, Nat.reduceBEq, ↓WPed, WPeu, Nat.reduceAdd, and_self, load_nm ho', load_nm (g4.get ho'), isnil_ptr, faddr_ptr, Nat.add_zero, bd_build R[k].1 u ou.one, bd_lit R[k].1 u ou.one, fl, a1]
   have ht : R.take (k + 1) = R.take k ++ [R[k]] := List.take_succ_eq_append_getElem hk'
   have hul : us.length = (R.take k).length := by have := hx3.len; simpa using this
   have hbd : bdVs (R.take (k + 1)) (us ++ [u]) = bdVs (R.take k) us ++ [bdV R[k].1 u] := by
    rw [ht]; unfold bdVs
    rw [List.zipWith_append hul.symm]; rfl
   refine ⟨R.length - (k + 1), by omega, k + 1, l', us ++ [u], by omega, rfl, by rw [wrap_i64 (by omega) (by omega), Int.natCast_add, Int.natCast_one], ?_, ?_, ?_⟩
   ·exact Keeps.trans (g03.trans g4) a3 fun i hi e => by have := g02.1; omega
   ·exact Keeps.trans (g23.trans g4) a3 fun i hi e => by omega
   ·rw [BRows, hbd, ht, List.map_append]; exact a2
  ·have : k = R.length := by omega
   subst this
   rw [List.take_length] at hx
   simp -dsimp only [↓WPd, ↓wpC_block, ↓wpC_cond, WPu, Bool.false_eq_true, Bool.true_eq_false, Bool.not_true, Bool.not_false, if_true, if_false, ite_true, ite_false, Nat.reduceEqDiff, Nat.reduceLT, true_and, List.map_cons, List.map_nil, Nat.zero_add, Nat.reduceBEq]
   exact ⟨l, us, rfl, g, hx⟩
 ·rintro e σ' env ⟨rfl, l, us, hv, g, hx⟩
  simp only [List.map_cons, List.map_nil, List.cons.injEq, and_true] at hv
  simp -dsimp only [↓WPd, ↓wpC_block, ↓wpC_cond, WPu, Bool.false_eq_true, Bool.true_eq_false, Bool.not_true, Bool.not_false, if_true, if_false, ite_true, ite_false, Nat.reduceEqDiff, Nat.reduceLT, true_and, List.map_cons, List.map_nil, Nat.zero_add, Nat.reduceBEq, hv]
  exact ⟨g, us, hx.lo g02.1⟩
end
def BdSl (σ : Store) (v : AVal) (R : Hp) : Prop := ∃ es, SlOf σ 3 v es ∧ Two (fun e p => ∃ u, e = bdV p.1 u ∧ SlOf σ 5 u (CC p.2)) es R
theorem BdSl.grow {σ σ' : Store} {v : AVal} {R : Hp} (h : BdSl σ v R) (g : Grows σ σ') : BdSl σ' v R := by
 obtain ⟨es, h1, h2⟩ := h
 exact ⟨es, h1.grow g, h2.mono fun e p ⟨u, hu, hs⟩ => ⟨u, hu, hs.grow g⟩⟩
theorem BdSl.len {σ : Store} {v : AVal} {R : Hp} (h : BdSl σ v R) : lenSV v = some R.length := by
 obtain ⟨es, h1, h2⟩ := h
 rw [← h2.len]; exact h1.len
theorem BdSl.at {σ : Store} {v : AVal} {R : Hp} (h : BdSl σ v R) {k : Nat} (hk : k < R.length) : ∃ q0 q2 u, iaddrV 3 v (.int .i64 k) = some (addrOf 3 v k) ∧ faddrV 0 (addrOf 3 v k) = some q0 ∧ loadV σ 2 true q0 = some (nmV R[k].1) ∧ faddrV 2 (addrOf 3 v k) = some q2 ∧ loadV σ 1 false q2 = some u ∧ SlOf σ 5 u (CC R[k].2) := by
 obtain ⟨es, h1, h2⟩ := h
 have hke : k < es.length := by rw [h2.len]; exact hk
 obtain ⟨e, he1, u, he2, he3⟩ := h2.get hk
 have hee : es[k] = e := by rw [List.getElem?_eq_getElem hke] at he1; exact Option.some.inj he1
 have hb := (h1.addr hke .i64).2
 rw [hee, he2] at hb
 have hb' : behind σ (addrOf 3 v k) = some (bdC (R[k]).1 u, 0) := hb
 obtain ⟨q0, p0, b0⟩ := faddr_at hb' 0
 obtain ⟨q2, p2, b2⟩ := faddr_at hb' 2
 exact ⟨q0, q2, u, h1.iaddr hke .i64, p0, loadN_at b0 (by simp [bdC]), p2, load_at b2, he3⟩
theorem RefP.bds {σ : Store} {A : Nat → Prop} {id : Nat} {R : Hp} (h : RefP σ A id R) : ∃ w, σ[id]? = some (.cells [w]) ∧ BdSl σ w R := by
 obtain ⟨w, es, h1, h2, _, h4⟩ := h
 exact ⟨w, h1, es, h2, h4.mono fun e p ⟨u, hu, hs, _⟩ => ⟨u, hu, hs⟩⟩
theorem bdVs_get {R : Hp} {us : List AVal} (h : us.length = R.length) {k : Nat} (hk : k < R.length) : (bdVs R us)[k]? = some (bdV R[k].1 (us[k]'(by omega))) := by
 unfold bdVs
 rw [List.getElem?_zipWith, List.getElem?_eq_getElem hk, List.getElem?_eq_getElem (by omega)]
theorem BRows.bds {σ : Store} {lo : Nat} {l : AVal} {us : List AVal} {R : Hp} (h : BRows σ lo l us R) : BdSl σ l R := by
 have hl : us.length = R.length := by have := h.len; simpa using this
 refine ⟨_, h.row.sl, Two.of_get (by rw [h.lex]; exact hl) fun i a b hi hj => ?_⟩
 obtain ⟨hk, rfl⟩ := List.getElem?_eq_some_iff.1 hj
 have e := bdVs_get hl hk
 rw [hi] at e
 exact ⟨us[i]'(by omega), Option.some.inj e, (h.one i (us[i]'(by omega)) (CC R[i].2) (List.getElem?_eq_getElem _) (by simp [hk])).sl⟩
section
variable (d : Nat) (σ : Store)
theorem hvalue_ok (hv : AVal) (H : Hp) (v : Nm) (h : HeapV σ hv H) (hs : ((lk H v).getD []).length < 2 ^ 30) : Called CU.cfg d 9 [hv, nmV v] σ fun r σ' => ∃ u, r = .tuple [u, .bool (lk H v).isSome] ∧ Own σ' 5 u (CC ((lk H v).getD [])) ∧ Fresh σ.length u ∧ NoLit u ∧ Grows σ σ' := by
 refine called_of (fn := CU.a9) rfl (Nat.le_of_ble_eq_true rfl) ?_
 simp only [CU.a9]
 simp -dsimp only [↓WPd, ↓wpC_block, ↓wpC_cond, WPu, Bool.false_eq_true, Bool.true_eq_false, Bool.not_true, Bool.not_false, if_true, if_false, ite_true, ite_false, Nat.reduceEqDiff, Nat.reduceLT, true_and, List.map_cons, List.map_nil, Nat.zero_add, Nat.reduceBEq, nm_cells, nm_one]
 have ho : (σ ++ [AObj.cells (nmC v)])[σ.length]? = some (.cells (nmC v)) := by simp
 have g0 : Grows σ (σ ++ [AObj.cells (nmC v)]) := Grows.app _ _
 have h1 := h.grow g0
 generalize σ ++ [AObj.cells (nmC v)] = σ1 at ho g0 h1
 simp -dsimp only [↓WPd, ↓wpC_block, ↓wpC_cond, WPu, Bool.false_eq_true, Bool.true_eq_false, Bool.not_true, Bool.not_false, if_true, if_false, ite_true, ite_false, Nat.reduceEqDiff, Nat.reduceLT, true_and, List.map_cons, List.map_nil, Nat.zero_add, Nat.reduceBEq, load_nm ho]
 refine calledW_of (value_ok d σ1 hv H v h1) ?_
 rintro r σ2 ⟨u, rfl, hu, g2⟩
 simp -dsimp only [↓WPd, ↓wpC_block, ↓wpC_cond, WPu, Bool.false_eq_true, Bool.true_eq_false, Bool.not_true, Bool.not_false, if_true, if_false, ite_true, ite_false, Nat.reduceEqDiff, Nat.reduceLT, true_and, List.map_cons, List.map_nil, Nat.zero_add, Nat.reduceBEq, List.getElem?_cons_zero, List.getElem?_cons_succ]
 refine calledW_of (cclone_ok d σ2 u _ hs (hu σ2)) ?_
 rintro w σ3 ⟨g3, ow, fw, nw⟩
 simp -dsimp only [↓WPd, ↓wpC_block, ↓wpC_cond, WPu, Bool.false_eq_true, Bool.true_eq_false, Bool.not_true, Bool.not_false, if_true, if_false, ite_true, ite_false, Nat.reduceEqDiff, Nat.reduceLT, true_and, List.map_cons, List.map_nil, Nat.zero_add, Nat.reduceBEq]
 exact ⟨w, rfl, ow, fw.le (g0.trans g2).1, nw, (g0.trans g2).trans g3⟩
end
theorem BdArg.all {v : AVal} {bs : Hp} (h : BdArg v bs) {k : Nat} (hk : k < bs.length) : ∃ q0 q2 u, iaddrV 3 v (.int .i64 k) = some (addrOf 3 v k) ∧ faddrV 0 (addrOf 3 v k) = some q0 ∧ (∀ σ, loadV σ 2 true q0 = some (nmV bs[k].1)) ∧ faddrV 2 (addrOf 3 v k) = some q2 ∧ (∀ σ, loadV σ 1 false q2 = some u) ∧ Told u bs[k].2 := by
 obtain ⟨es, h1, h2⟩ := h.row
 have hke : k < es.length := by rw [h2.len]; exact hk
 obtain ⟨e, he1, u, he2, he3⟩ := h2.get hk
 have hee : es[k] = e := by rw [List.getElem?_eq_getElem hke] at he1; exact Option.some.inj he1
 have hb : ∀ σ, behind σ (addrOf 3 v k) = some (bdC (bs[k]).1 u, 0) := fun σ => by
  have hb := ((h1 σ).addr hke .i64).2
  rw [hee, he2] at hb; exact hb
 obtain ⟨q0, p0, -⟩ := faddr_at (hb []) 0
 obtain ⟨q2, p2, -⟩ := faddr_at (hb []) 2
 refine ⟨q0, q2, u, (h1 []).iaddr hke .i64, p0, fun σ => ?_, p2, fun σ => ?_, he3⟩
 ·obtain ⟨q, r0, r1⟩ := faddr_at (hb σ) 0
  rw [p0] at r0
  rw [Option.some.inj r0]
  exact loadN_at r1 (by simp [bdC])
 ·obtain ⟨q, r0, r1⟩ := faddr_at (hb σ) 2
  rw [p2] at r0
  rw [Option.some.inj r0]
  exact load_at r1
section
variable (d : Nat) (σ : Store)
end
abbrev NN (ws : List Nm) : List AVal := ws.map nmV
theorem names_at {σ : Store} {l : AVal} {ws : List Nm} (hl : SlOf σ 2 l (NN ws)) {i : Nat} (hi : i < ws.length) : iaddrV 2 l (.int .i64 i) = some (addrOf 2 l i) ∧ loadV σ 2 true (addrOf 2 l i) = some (nmV ws[i]) := by
 have hi' : i < (NN ws).length := by rw [List.length_map]; exact hi
 exact ⟨hl.iaddr hi' .i64, hl.loadA hi' (cs := nmC ws[i]) (by rw [List.getElem_map]; rfl)⟩
theorem names_len {σ : Store} {l : AVal} {ws : List Nm} (hl : SlOf σ 2 l (NN ws)) : lenSV l = some ws.length := by
 have := hl.len; rwa [List.length_map] at this
theorem nm_lit (v : Nm) : fillL 2 true (List.replicate 1 (zel [AVal.int IntKind.i64 0, AVal.int IntKind.i64 0] true)) [(0, nmV v)] = some [nmV v] := rfl
theorem elems2 (tg : Nat) (σ : Store) (x : AVal) : elems 2 σ (.fslice tg true 2 [x]) = some [x] := elems_fs 2 tg true σ [x]
theorem contains_not {ws : List Nm} {v : Nm} (h : ∀ (j : Nat) (hj : j < ws.length), ws[j] ≠ v) : ws.contains v = false := by
 rw [Bool.eq_false_iff]
 intro hc
 rw [List.contains_iff_mem] at hc
 obtain ⟨j, hj, e⟩ := List.getElem_of_mem hc
 exact h j hj e
theorem contains_at {ws : List Nm} {v : Nm} {k : Nat} (hk : k < ws.length) (h : ws[k] = v) : ws.contains v = true := by
 rw [List.contains_iff_mem, ← h]; exact List.getElem_mem hk
section
variable (d : Nat) (σ : Store)
theorem nindex_ok (l : AVal) (ws : List Nm) (v : Nm) (hx : ws.length < 2 ^ 40) (hl : SlOf σ 2 l (NN ws)) :
  Called CU.cfg d 78 [l, nmV v] σ fun r σ' => (∃ i : Int, r = .int .i64 i ∧ decide (0 ≤ i) = ws.contains v) ∧ Grows σ σ' := by
 refine called_of (fn := CU.a78) rfl (Nat.le_of_ble_eq_true rfl) ?_
 simp only [CU.a78]
 have ll := names_len hl
 simp -dsimp only [↓WPd, ↓wpC_block, ↓wpC_cond, WPu, Bool.false_eq_true, Bool.true_eq_false, Bool.not_true, Bool.not_false, if_true, if_false, ite_true, ite_false, Nat.reduceEqDiff, Nat.reduceLT, true_and, List.map_cons, List.map_nil, Nat.zero_add, Nat.reduceBEq, nm_cells, nm_one, ll]
 have ho : (σ ++ [AObj.cells (nmC v)])[σ.length]? = some (.cells (nmC v)) := by simp
 have g0 : Grows σ (σ ++ [AObj.cells (nmC v)]) := Grows.app _ _
 have hl1 := hl.grow g0
 generalize σ ++ [AObj.cells (nmC v)] = σ1 at ho g0 hl1
 generalize σ.length = i1 at ho
 refine loop_rule2 (fun m vs σ' => ∃ k, k ≤ ws.length ∧ m = ws.length - k ∧ vs = [l, .ptr i1 0, .int .i64 ws.length, .int .i64 k] ∧ σ' = σ1 ∧ ∀ (j : Nat) (hj : j < ws.length), j < k → ws[j] ≠ v) [4]
  (fun e vs σ' => σ' = σ1 ∧ ((e = .exit 0 ∧ ws.contains v = false) ∨ (e = .ret ∧ ws.contains v = true ∧ ∃ k : Nat, vs = [.int .i64 k]))) ws.length ⟨0, Nat.zero_le _, rfl, ?_, rfl, fun j _ h => by omega⟩ ?_ ?_
 ·simp -dsimp only [↓WPd, ↓wpC_block, ↓wpC_cond, WPu, Bool.false_eq_true, Bool.true_eq_false, Bool.not_true, Bool.not_false, if_true, if_false, ite_true, ite_false, Nat.reduceEqDiff, Nat.reduceLT, true_and, List.map_cons, List.map_nil, Nat.zero_add, Nat.reduceBEq]; rfl
 ·rintro m vs σ' ⟨k, hk, rfl, rfl, rfl, hall⟩
  simp -dsimp only [↓WPd, ↓wpC_block, ↓wpC_cond, WPu, Bool.false_eq_true, Bool.true_eq_false, Bool.not_true, Bool.not_false, if_true, if_false, ite_true, ite_false, Nat.reduceEqDiff, Nat.reduceLT, true_and, List.map_cons, List.map_nil, Nat.zero_add, Nat.reduceBEq]
  refine condP_dec (fun h => ?_) (fun h => ?_)
  ·have hk' : k < ws.length := by omega
   obtain ⟨e1, e2⟩ := names_at hl1 hk'
   simp -dsimp only [↓WPd, ↓wpC_block, ↓wpC_cond, WPu, Bool.false_eq_true, Bool.true_eq_false, Bool.not_true, Bool.not_false, if_true, if_false, ite_true, ite_false, Nat.reduceEqDiff, Nat.reduceLT, true_and, List.map_cons, List.map_nil, Nat.zero_add, Nat.reduceBEq, e1, e2, load_nm ho, nm_eqs]
   refine condP_intro (fun h => ?_) (fun h => ?_)
   ·rw [decide_eq_true_eq] at h
    simp -dsimp only [↓WPd, ↓wpC_block, ↓wpC_cond, WPu, Bool.false_eq_true, Bool.true_eq_false, Bool.not_true, Bool.not_false, if_true, if_false, ite_true, ite_false, Nat.reduceEqDiff, Nat.reduceLT, true_and, List.map_cons, List.map_nil, Nat.zero_add, Nat.reduceBEq]
    exact .inr ⟨contains_at hk' h.symm, k, rfl⟩
   ·rw [decide_eq_false_iff_not] at h
    simp -dsimp only [↓WPd, ↓wpC_block, ↓wpC_cond, WPu, Bool.false_eq_true, Bool.true_eq_false, Bool.not_true, Bool.not_false, if_true, if_false, ite_true, ite_false, Nat.reduceEqDiff, Nat.reduceLT, true_and, List.map_cons, List.map_nil, Nat.zero_add, Nat.reduceBEq]
    refine ⟨ws.length - (k + 1), by omega, k + 1, by omega, rfl, by rw [wrap_i64 (by omega) (by omega), Int.natCast_add, Int.natCast_one], fun j hj hjk => ?_⟩
    by_cases e : j = k
    ·subst e; exact fun e => h e.symm
    ·exact hall j hj (by omega)
  ·simp -dsimp only [↓WPd, ↓wpC_block, ↓wpC_cond, WPu, Bool.false_eq_true, Bool.true_eq_false, Bool.not_true, Bool.not_false, if_true, if_false, ite_true, ite_false, Nat.reduceEqDiff, Nat.reduceLT, true_and, List.map_cons, List.map_nil, Nat.zero_add, Nat.reduceBEq]
   exact .inl (contains_not fun j hj => hall j hj (by omega))
 ·rintro e σ' env ⟨rfl, ⟨rfl, hno⟩ | ⟨rfl, hyes, k, hv⟩⟩
  ·simp -dsimp only [↓WPd, ↓wpC_block, ↓wpC_cond, WPu, Bool.false_eq_true, Bool.true_eq_false, Bool.not_true, Bool.not_false, if_true, if_false, ite_true, ite_false, Nat.reduceEqDiff, Nat.reduceLT, true_and, List.map_cons, List.map_nil, Nat.zero_add, Nat.reduceBEq]
   exact ⟨⟨_, rfl, by rw [hno]; rfl⟩, g0⟩
  ·simp only [List.map_cons, List.map_nil, List.cons.injEq, and_true] at hv
   simp -dsimp only [↓WPd, ↓wpC_block, ↓wpC_cond, WPu, Bool.false_eq_true, Bool.true_eq_false, Bool.not_true, Bool.not_false, if_true, if_false, ite_true, ite_false, Nat.reduceEqDiff, Nat.reduceLT, true_and, List.map_cons, List.map_nil, Nat.zero_add, Nat.reduceBEq, hv]
   exact ⟨⟨_, rfl, by rw [hyes]; simp⟩, g0⟩
theorem ncontains_ok (l : AVal) (ws : List Nm) (v : Nm) (hx : ws.length < 2 ^ 40) (hl : SlOf σ 2 l (NN ws)) :
  Called CU.cfg d 52 [l, nmV v] σ fun r σ' => r = .bool (ws.contains v) ∧ Grows σ σ' := by
 refine called_of (fn := CU.a52) rfl (Nat.le_of_ble_eq_true rfl) ?_
 simp only [CU.a52]
 simp -dsimp only [↓WPd, ↓wpC_block, ↓wpC_cond, WPu, Bool.false_eq_true, Bool.true_eq_false, Bool.not_true, Bool.not_false, if_true, if_false, ite_true, ite_false, Nat.reduceEqDiff, Nat.reduceLT, true_and, List.map_cons, List.map_nil, Nat.zero_add, Nat.reduceBEq, nm_cells, nm_one]
 have ho : (σ ++ [AObj.cells (nmC v)])[σ.length]? = some (.cells (nmC v)) := by simp
 have g0 : Grows σ (σ ++ [AObj.cells (nmC v)]) := Grows.app _ _
 have hl1 := hl.grow g0
 generalize σ ++ [AObj.cells (nmC v)] = σ1 at ho g0 hl1
 generalize σ.length = i1 at ho
 simp -dsimp only [↓WPd, ↓wpC_block, ↓wpC_cond, WPu, Bool.false_eq_true, Bool.true_eq_false, Bool.not_true, Bool.not_false, if_true, if_false, ite_true, ite_false, Nat.reduceEqDiff, Nat.reduceLT, true_and, List.map_cons, List.map_nil, Nat.zero_add, Nat.reduceBEq, load_nm ho]
 refine calledW_of (nindex_ok d σ1 l ws v hx hl1) ?_
 rintro r σ2 ⟨⟨i, rfl, hi⟩, g2⟩
 simp -dsimp only [↓WPd, ↓wpC_block, ↓wpC_cond, WPu, Bool.false_eq_true, Bool.true_eq_false, Bool.not_true, Bool.not_false, if_true, if_false, ite_true, ite_false, Nat.reduceEqDiff, Nat.reduceLT, true_and, List.map_cons, List.map_nil, Nat.zero_add, Nat.reduceBEq]
 have : decide (i ≥ 0) = ws.contains v := hi
 rw [this]
 exact ⟨rfl, g0.trans g2⟩
theorem hasname_ok (l : AVal) (ws : List Nm) (v : Nm) (hx : ws.length < 2 ^ 40) (hl : SlOf σ 2 l (NN ws)) :
  Called CU.cfg d 10 [l, nmV v] σ fun r σ' => r = .bool (ws.contains v) ∧ Grows σ σ' := by
 refine called_of (fn := CU.a10) rfl (Nat.le_of_ble_eq_true rfl) ?_
 simp only [CU.a10]
 have ll := names_len hl
 simp -dsimp only [↓WPd, ↓wpC_block, ↓wpC_cond, WPu, Bool.false_eq_true, Bool.true_eq_false, Bool.not_true, Bool.not_false, if_true, if_false, ite_true, ite_false, Nat.reduceEqDiff, Nat.reduceLT, true_and, List.map_cons, List.map_nil, Nat.zero_add, Nat.reduceBEq, nm_cells, nm_one]
 have ho : (σ ++ [AObj.cells (nmC v)])[σ.length]? = some (.cells (nmC v)) := by simp
 have g0 : Grows σ (σ ++ [AObj.cells (nmC v)]) := Grows.app _ _
 have hl1 := hl.grow g0
 generalize σ ++ [AObj.cells (nmC v)] = σ1 at ho g0 hl1
 generalize σ.length = i1 at ho
 refine loop_rule2 (fun m vs σ' => ∃ k, k ≤ ws.length ∧ m = ws.length - k ∧ vs = [l, .ptr i1 0, .int .i64 k] ∧ σ' = σ1 ∧ ∀ (j : Nat) (hj : j < ws.length), j < k → ws[j] ≠ v) [4]
  (fun e vs σ' => σ' = σ1 ∧ ((e = .exit 0 ∧ ws.contains v = false) ∨ (e = .ret ∧ ws.contains v = true ∧ vs = [.bool true]))) ws.length ⟨0, Nat.zero_le _, rfl, ?_, rfl, fun j _ h => by omega⟩ ?_ ?_
 ·simp -dsimp only [↓WPd, ↓wpC_block, ↓wpC_cond, WPu, Bool.false_eq_true, Bool.true_eq_false, Bool.not_true, Bool.not_false, if_true, if_false, ite_true, ite_false, Nat.reduceEqDiff, Nat.reduceLT, true_and, List.map_cons, List.map_nil, Nat.zero_add, Nat.reduceBEq]; rfl
 ·rintro m vs σ' ⟨k, hk, rfl, rfl, rfl, hall⟩
  simp -dsimp only [↓WPd, ↓wpC_block, ↓wpC_cond, WPu, Bool.false_eq_true, Bool.true_eq_false, Bool.not_true, Bool.not_false, if_true, if_false, ite_true, ite_false, Nat.reduceEqDiff, Nat.reduceLT, true_and, List.map_cons, List.map_nil, Nat.zero_add, Nat.reduceBEq, ll]
  refine condP_dec (fun h => ?_) (fun h => ?_)
  ·have hk' : k < ws.length := by omega
   obtain ⟨e1, e2⟩ := names_at hl1 hk'
   simp -dsimp only [↓WPd, ↓wpC_block, ↓wpC_cond, WPu, Bool.false_eq_true, Bool.true_eq_false, Bool.not_true, Bool.not_false, if_true, if_false, ite_true, ite_false, Nat.reduceEqDiff, Nat.reduceLT, true_and, List.map_cons, List.map_nil, Nat.zero_add, Nat.reduceBEq, e1, e2, load_nm ho, nm_eqs]
   refine condP_intro (fun h => ?_) (fun h => ?_)
   ·rw [decide_eq_true_eq] at h
    simp -dsimp only [↓WPd, ↓wpC_block, ↓wpC_cond, WPu, Bool.false_eq_true, Bool.true_eq_false, Bool.not_true, Bool.not_false, if_true, if_false, ite_true, ite_false, Nat.reduceEqDiff, Nat.reduceLT, true_and, List.map_cons, List.map_nil, Nat.zero_add, Nat.reduceBEq]
    exact .inr ⟨contains_at hk' h, trivial⟩
   ·rw [decide_eq_false_iff_not] at h
    simp -dsimp only [↓WPd, ↓wpC_block, ↓wpC_cond, WPu, Bool.false_eq_true, Bool.true_eq_false, Bool.not_true, Bool.not_false, if_true, if_false, ite_true, ite_false, Nat.reduceEqDiff, Nat.reduceLT, true_and, List.map_cons, List.map_nil, Nat.zero_add, Nat.reduceBEq]
    refine ⟨ws.length - (k + 1), by omega, k + 1, by omega, rfl, by rw [wrap_i64 (by omega) (by omega), Int.natCast_add, Int.natCast_one], fun j hj hjk => ?_⟩
    by_cases e : j = k
    ·subst e; exact h
    ·exact hall j hj (by omega)
  ·simp -dsimp only [↓WPd, ↓wpC_block, ↓wpC_cond, WPu, Bool.false_eq_true, Bool.true_eq_false, Bool.not_true, Bool.not_false, if_true, if_false, ite_true, ite_false, Nat.reduceEqDiff, Nat.reduceLT, true_and, List.map_cons, List.map_nil, Nat.zero_add, Nat.reduceBEq]
   exact .inl (contains_not fun j hj => hall j hj (by omega))
 ·rintro e σ' env ⟨rfl, ⟨rfl, hno⟩ | ⟨rfl, hyes, hv⟩⟩
  ·simp -dsimp only [↓WPd, ↓wpC_block, ↓wpC_cond, WPu, Bool.false_eq_true, Bool.true_eq_false, Bool.not_true, Bool.not_false, if_true, if_false, ite_true, ite_false, Nat.reduceEqDiff, Nat.reduceLT, true_and, List.map_cons, List.map_nil, Nat.zero_add, Nat.reduceBEq, hno]
   exact g0
  ·simp only [List.map_cons, List.map_nil, List.cons.injEq, and_true] at hv
   simp -dsimp only [↓WPd, ↓wpC_block, ↓wpC_cond, WPu, Bool.false_eq_true, Bool.true_eq_false, Bool.not_true, Bool.not_false, if_true, if_false, ite_true, ite_false, Nat.reduceEqDiff, Nat.reduceLT, true_and, List.map_cons, List.map_nil, Nat.zero_add, Nat.reduceBEq, hv, hyes]
   exact g0
theorem Own.name {σ : Store} {l : AVal} {ws : List Nm} (h : Own σ 2 l (NN ws)) (v : Nm) (hx : ws.length < 2 ^ 40) :
  ∃ l' σ', appendV σ 2 16 l [nmV v] = some (l', σ') ∧ Own σ' 2 l' (NN (ws ++ [v])) ∧ Keeps (fun i => l.sid = some i) σ σ' ∧ (∀ id, l'.sid = some id → l.sid = some id ∨ id = σ.length) ∧ NoLit l' := by
 obtain ⟨l', σ', a, b, c, e, f⟩ := h.append [nmV v] 16 (by simp only [List.length_map, List.length_singleton]; omega)
 exact ⟨l', σ', a, by simpa using b, c, e, f (.inr (by simp))⟩
end
theorem cel_put (σ : Store) (c : Cel) : storeV (σ ++ [AObj.cells [.int .u8 0, .str [], .int .i64 0, .int .i64 0, .int .i64 0]]) 5 (.ptr σ.length 0) c.val = some (σ ++ [AObj.cells c.cs]) := by
 have h : (σ ++ [AObj.cells [.int .u8 0, .str [], .int .i64 0, .int .i64 0, .int .i64 0]])[σ.length]? = some (.cells [.int .u8 0, .str [], .int .i64 0, .int .i64 0, .int .i64 0]) := by simp
 have e : c.val = .agg c.cs := rfl
 rw [e, storeN_cells (cs' := c.cs) (n := 5) h rfl rfl rfl, set_last]
theorem cela_at {σ : Store} {l : AVal} {t : List Cel} (hl : SlOf σ 5 l (CC t)) {i : Nat} (hi : i < t.length) : iaddrV 5 l (.int .i64 i) = some (addrOf 5 l i) ∧ loadV σ 5 true (addrOf 5 l i) = some (t[i]).val := by
 have hi' : i < (CC t).length := by rw [List.length_map]; exact hi
 exact ⟨hl.iaddr hi' .i64, hl.loadA hi' (cs := (t[i]).cs) (by rw [cel_get]; rfl)⟩
theorem Terms.at0 {σ : Store} {l : AVal} {ts : List (List Cel)} (h : Terms σ l ts) {i : Nat} (hi : i < ts.length) : ∃ e, SlOf σ 5 e (CC ts[i]) ∧ ∀ σ', Grows σ σ' → iaddrV 1 l (.int .i64 i) = some (addrOf 1 l i) ∧ loadV σ' 1 false (addrOf 1 l i) = some e := by
 obtain ⟨es, h1, h2⟩ := h
 have hi' : i < es.length := by rw [h2.len]; exact hi
 obtain ⟨e, he1, he2⟩ := h2.get hi
 have hee : es[i] = e := by rw [List.getElem?_eq_getElem hi'] at he1; exact Option.some.inj he1
 refine ⟨e, he2, fun σ' g => ⟨h1.iaddr hi' .i64, ?_⟩⟩
 have := (h1.grow g).load1 hi' (by rw [hee]; exact he2.one) 1
 rw [hee] at this; exact this
section
variable (d : Nat) (σ : Store)
theorem vars_ok (lv : AVal) (ts : List (List Cel)) (hx : ts.flatten.length < 2 ^ 30) (hn : ts.length < 2 ^ 30) (hl : Terms σ lv ts) :
  Called CU.cfg d 77 [lv] σ fun r σ' => Grows σ σ' ∧ Own σ' 2 r (NN (varsL [] ts.flatten)) ∧ Fresh σ.length r := by
 refine called_of (fn := CU.a77) rfl (Nat.le_of_ble_eq_true rfl) ?_
 simp only [CU.a77]
 have ll := hl.len
 simp -dsimp only [↓WPd, ↓wpC_block, ↓wpC_cond, WPu, Bool.false_eq_true, Bool.true_eq_false, Bool.not_true, Bool.not_false, if_true, if_false, ite_true, ite_false, Nat.reduceEqDiff, Nat.reduceLT, true_and, List.map_cons, List.map_nil, Nat.zero_add, Nat.reduceBEq, ll]
 refine loop_rule2 (fun m vs σ' => ∃ k acc, k ≤ ts.length ∧ m = ts.length - k ∧ vs = [acc, lv, .int .i64 ts.length, .int .i64 k] ∧ Grows σ σ' ∧ Own σ' 2 acc (NN (varsL [] (ts.take k).flatten)) ∧ Fresh σ.length acc) [3]
  (fun e vs σ' => e = .exit 0 ∧ ∃ acc, vs = [acc] ∧ Grows σ σ' ∧ Own σ' 2 acc (NN (varsL [] ts.flatten)) ∧ Fresh σ.length acc) ts.length ⟨0, .nilslice, Nat.zero_le _, rfl, ?_, Keeps.refl _ _, Own.nil _ _, Fresh.nil _⟩ ?_ ?_
 ·simp -dsimp only [↓WPd, ↓wpC_block, ↓wpC_cond, WPu, Bool.false_eq_true, Bool.true_eq_false, Bool.not_true, Bool.not_false, if_true, if_false, ite_true, ite_false, Nat.reduceEqDiff, Nat.reduceLT, true_and, List.map_cons, List.map_nil, Nat.zero_add, Nat.reduceBEq]; rfl
 ·rintro m vs σ' ⟨k, acc, hk, rfl, rfl, g, ha, fa⟩
  simp -dsimp only [↓WPd, ↓wpC_block, ↓wpC_cond, WPu, Bool.false_eq_true, Bool.true_eq_false, Bool.not_true, Bool.not_false, if_true, if_false, ite_true, ite_false, Nat.reduceEqDiff, Nat.reduceLT, true_and, List.map_cons, List.map_nil, Nat.zero_add, Nat.reduceBEq]
  refine condP_dec (fun h => ?_) (fun h => ?_)
  ·have hk' : k < ts.length := by omega
   obtain ⟨e, e3, e0⟩ := hl.at0 hk'
   obtain ⟨e1, e2⟩ := e0 σ' g
   have le := e3.len
   rw [List.length_map] at le
   have hf : (ts.take (k + 1)).flatten = (ts.take k).flatten ++ ts[k] := by
    rw [List.take_succ_eq_append_getElem hk', List.flatten_append]; simp only [List.flatten_cons, List.flatten_nil, List.append_nil]
   have hb := flat_le ts (k + 1)
   rw [hf, List.length_append] at hb
   simp -dsimp only [↓WPd, ↓wpC_block, ↓wpC_cond, WPu, Bool.false_eq_true, Bool.true_eq_false, Bool.not_true, Bool.not_false, if_true, if_false, ite_true, ite_false, Nat.reduceEqDiff, Nat.reduceLT, true_and, List.map_cons, List.map_nil, Nat.zero_add, Nat.reduceBEq, e1, e2, le]
   refine loop_rule2 (fun m vs σ2 => ∃ j acc, j ≤ (ts[k]).length ∧ m = (ts[k]).length - j ∧ vs = [acc, lv, .int .i64 ts.length, .int .i64 k, e, .int .i64 (ts[k]).length, .int .i64 j] ∧ Grows σ σ2 ∧ Own σ2 2 acc (NN (varsL [] ((ts.take k).flatten ++ (ts[k]).take j))) ∧ Fresh σ.length acc) [3, 8, 9, 10]
    (fun x vs σ2 => x = .exit 2 ∧ ∃ acc, vs = [acc, lv, .int .i64 ts.length, .int .i64 k] ∧ Grows σ σ2 ∧ Own σ2 2 acc (NN (varsL [] ((ts.take k).flatten ++ ts[k]))) ∧ Fresh σ.length acc) (ts[k]).length ⟨0, acc, Nat.zero_le _, rfl, ?_, g, by simpa using ha, fa⟩ ?_ ?_
   ·simp -dsimp only [↓WPd, ↓wpC_block, ↓wpC_cond, WPu, Bool.false_eq_true, Bool.true_eq_false, Bool.not_true, Bool.not_false, if_true, if_false, ite_true, ite_false, Nat.reduceEqDiff, Nat.reduceLT, true_and, List.map_cons, List.map_nil, Nat.zero_add, Nat.reduceBEq]; rfl
   ·rintro m vs σ2 ⟨j, acc, hj, rfl, rfl, g2, ha, fa⟩
    simp -dsimp only [↓WPd, ↓wpC_block, ↓wpC_cond, WPu, Bool.false_eq_true, Bool.true_eq_false, Bool.not_true, Bool.not_false, if_true, if_false, ite_true, ite_false, Nat.reduceEqDiff, Nat.reduceLT, true_and, List.map_cons, List.map_nil, Nat.zero_add, Nat.reduceBEq]
    refine condP_dec (fun h => ?_) (fun h => ?_)
    ·have hj' : j < (ts[k]).length := by omega
     have he := e3.grow g2
     obtain ⟨a1, a2⟩ := cela_at he hj'
     have hv := varsL_snoc [] ((ts.take k).flatten ++ (ts[k]).take j) (ts[k])[j]
     rw [List.append_assoc, ← List.take_succ_eq_append_getElem hj'] at hv
     have hvl := varsL_len [] ((ts.take k).flatten ++ (ts[k]).take j)
     rw [List.length_append, List.length_take] at hvl
     simp only [List.length_nil] at hvl
     simp -dsimp only [↓WPd, ↓wpC_block, ↓wpC_cond, WPu, Bool.false_eq_true, Bool.true_eq_false, Bool.not_true, Bool.not_false, if_true, if_false, ite_true, ite_false, Nat.reduceEqDiff, Nat.reduceLT, true_and, List.map_cons, List.map_nil, Nat.zero_add, Nat.reduceBEq, a1, a2, cel_put]
     generalize hcc : (ts[k])[j] = c at *
     have oc : (σ2 ++ [AObj.cells c.cs])[σ2.length]? = some (.cells c.cs) := by simp
     have g3 : Grows σ2 (σ2 ++ [AObj.cells c.cs]) := Grows.app _ _
     have he3 := he.grow g3
     have ha3 := ha.grow g3
     have gg := g2.trans g3
     generalize σ2 ++ [AObj.cells c.cs] = σ3 at oc g3 he3 ha3 gg
     generalize σ2.length = ic at oc
     have k4 : ((c.k : Int) == 4) = decide (c.k = 4) := by by_cases h : c.k = 4 <;> simp [h] <;> omega
     simp -dsimp only [↓WPd, ↓wpC_block, ↓wpC_cond, WPu, Bool.false_eq_true, Bool.true_eq_false, Bool.not_true, Bool.not_false, if_true, if_false, ite_true, ite_false, Nat.reduceEqDiff, Nat.reduceLT, true_and, List.map_cons, List.map_nil, Nat.zero_add, Nat.reduceBEq, faddr_ptr, Nat.add_zero, load_cells oc, Cel.g0, k4]
     by_cases h4 : c.k = 4
     ·simp -dsimp only [↓WPd, ↓wpC_block, ↓wpC_cond, WPu, Bool.false_eq_true, Bool.true_eq_false, Bool.not_true, Bool.not_false, if_true, if_false, ite_true, ite_false, Nat.reduceEqDiff, Nat.reduceLT, true_and, List.map_cons, List.map_nil, Nat.zero_add, Nat.reduceBEq, decide_eq_true h4, faddr_ptr, Nat.zero_add, celvar_load oc]
      refine calledW_of (ncontains_ok d σ3 acc _ c.v (by omega) ha3.sl) ?_
      rintro r σ4 ⟨rfl, g4⟩
      have oc4 := g4.get oc
      have he4 := he3.grow g4
      have ha4 := ha3.grow g4
      simp -dsimp only [↓WPd, ↓wpC_block, ↓wpC_cond, WPu, Bool.false_eq_true, Bool.true_eq_false, Bool.not_true, Bool.not_false, if_true, if_false, ite_true, ite_false, Nat.reduceEqDiff, Nat.reduceLT, true_and, List.map_cons, List.map_nil, Nat.zero_add, Nat.reduceBEq]
      rw [if_pos h4, addN] at hv
      refine condP_intro (fun hc => ?_) (fun hc => ?_)
      ·simp only [Bool.not_eq_true'] at hc
       rw [hc, if_neg (by simp)] at hv
       obtain ⟨l', σ5, p1, p2, p3, p4, p5⟩ := ha4.name c.v (by omega)
       simp -dsimp only [↓WPd, ↓wpC_block, ↓wpC_cond, WPu, Bool.false_eq_true, Bool.true_eq_false, Bool.not_true, Bool.not_false, if_true, if_false, ite_true, ite_false, Nat.reduceEqDiff, Nat.reduceLT, true_and, List.map_cons, List.map_nil, Nat.zero_add, Nat.reduceBEq, faddr_ptr, Nat.add_zero, celvar_load oc4, nm_lit, elems2, p1]
       refine ⟨(ts[k]).length - (j + 1), by omega, j + 1, l', by omega, rfl, by rw [wrap_i64 (by omega) (by omega), Int.natCast_add, Int.natCast_one], ?_, ?_, ?_⟩
       ·exact Keeps.trans (gg.trans g4) p3 fun i hi e => by have := fa i e; omega
       ·rw [hv]; exact p2
       ·intro i hi
        rcases p4 i hi with e | e
        ·exact fa i e
        ·have := (gg.trans g4).1; omega
      ·simp only [Bool.not_eq_false'] at hc
       rw [hc, if_pos rfl] at hv
       simp -dsimp only [↓WPd, ↓wpC_block, ↓wpC_cond, WPu, Bool.false_eq_true, Bool.true_eq_false, Bool.not_true, Bool.not_false, if_true, if_false, ite_true, ite_false, Nat.reduceEqDiff, Nat.reduceLT, true_and, List.map_cons, List.map_nil, Nat.zero_add, Nat.reduceBEq]
       refine ⟨(ts[k]).length - (j + 1), by omega, j + 1, acc, by omega, rfl, by rw [wrap_i64 (by omega) (by omega), Int.natCast_add, Int.natCast_one], gg.trans g4, ?_, fa⟩
       rw [hv]; exact ha4
     ·rw [if_neg h4] at hv
      simp -dsimp only [↓WPd, ↓wpC_block, ↓wpC_cond, WPu, Bool.false_eq_true, Bool.true_eq_false, Bool.not_true, Bool.not_false, if_true, if_false, ite_true, ite_false, Nat.reduceEqDiff, Nat.reduceLT, true_and, List.map_cons, List.map_nil, Nat.zero_add, Nat.reduceBEq, decide_eq_false h4]
      refine ⟨(ts[k]).length - (j + 1), by omega, j + 1, acc, by omega, rfl, by rw [wrap_i64 (by omega) (by omega), Int.natCast_add, Int.natCast_one], gg, ?_, fa⟩
      rw [hv]; exact ha3
    ·have : j = (ts[k]).length := by omega
     subst this
     rw [List.take_length] at ha
     simp -dsimp only [↓WPd, ↓wpC_block, ↓wpC_cond, WPu, Bool.false_eq_true, Bool.true_eq_false, Bool.not_true, Bool.not_false, if_true, if_false, ite_true, ite_false, Nat.reduceEqDiff, Nat.reduceLT, true_and, List.map_cons, List.map_nil, Nat.zero_add, Nat.reduceBEq]
     exact ⟨acc, rfl, g2, ha, fa⟩
   ·rintro x σ2 env ⟨rfl, acc, hv, g2, ha, fa⟩
    simp only [List.map_cons, List.map_nil, List.cons.injEq, and_true] at hv
    obtain ⟨v1, v2, v3, v4⟩ := hv
    simp -dsimp only [↓WPd, ↓wpC_block, ↓wpC_cond, WPu, Bool.false_eq_true, Bool.true_eq_false, Bool.not_true, Bool.not_false, if_true, if_false, ite_true, ite_false, Nat.reduceEqDiff, Nat.reduceLT, true_and, List.map_cons, List.map_nil, Nat.zero_add, Nat.reduceBEq, v1, v2, v3, v4]
    refine ⟨ts.length - (k + 1), by omega, k + 1, acc, by omega, rfl, by rw [wrap_i64 (by omega) (by omega), Int.natCast_add, Int.natCast_one], g2, ?_, fa⟩
    rw [hf]; exact ha
  ·have : k = ts.length := by omega
   subst this
   rw [List.take_length] at ha
   simp -dsimp only [↓WPd, ↓wpC_block, ↓wpC_cond, WPu, Bool.false_eq_true, Bool.true_eq_false, Bool.not_true, Bool.not_false, if_true, if_false, ite_true, ite_false, Nat.reduceEqDiff, Nat.reduceLT, true_and, List.map_cons, List.map_nil, Nat.zero_add, Nat.reduceBEq]
   exact ⟨acc, rfl, g, ha, fa⟩
 ·rintro e σ' env ⟨rfl, acc, hv, g, ha, fa⟩
  simp only [List.map_cons, List.map_nil, List.cons.injEq, and_true] at hv
  simp -dsimp only [↓WPd, ↓wpC_block, ↓wpC_cond, WPu, Bool.false_eq_true, Bool.true_eq_false, Bool.not_true, Bool.not_false, if_true, if_false, ite_true, ite_false, Nat.reduceEqDiff, Nat.reduceLT, true_and, List.map_cons, List.map_nil, Nat.zero_add, Nat.reduceBEq, hv]
  exact ⟨g, ha, fa⟩
end
def tryC (k : Nat) (lv wv : AVal) : List AVal := [.int .u8 k, .int .i64 (-1), lv, wv]
abbrev tryZ : List AVal := [.int .u8 0, .int .i64 0, .nilslice, .nilslice]
theorem try_put {σ σ' : Store} {i : Nat} {k : Nat} {lv wv : AVal} (h : σ[i]? = some (.cells tryZ)) (hl : lv.one = true) (hw : wv.one = true) :
  storeV σ 4 (.ptr i 0) (.agg (tryC k lv wv)) = some (σ.set i (.cells (tryC k lv wv))) ∧ loadV (σ.set i (.cells (tryC k lv wv))) 4 true (.ptr i 0) = some (.agg (tryC k lv wv)) := by
 refine ⟨storeN_cells (n := 4) (cs' := tryC k lv wv) h rfl rfl ?_, loadN_cells (get_set h) rfl⟩
 simp only [tryC, List.all_cons, List.all_nil, hl, hw]; rfl
section
variable (d : Nat) (σ : Store)
end
theorem SlOf.noMap {σ : Store} {sz : Nat} {v : AVal} {es ks vs : List AVal} {id : Nat} (h : SlOf σ sz v es) (ho : σ[id]? = some (.map ks vs)) : v.sid ≠ some id := by
 intro hs
 rcases h.cases with ⟨rfl, _⟩ | ⟨t, f, rfl⟩ | ⟨id', ep, off, cap, sz', xs, epo, fl, rfl, h1, _⟩
 ·cases hs
 ·cases hs
 ·injection hs with hs; subst hs; rw [ho] at h1; cases h1
def delN (H : Hp) (v : Nm) : Hp := H.filter fun p => decide (p.1 ≠ v)
theorem delN_erase : ∀ {H : Hp} {i : Nat} {p : Nm × List Cel}, (H.map (·.1)).Nodup → H[i]? = some p → delN H p.1 = H.eraseIdx i
 | [], i, p, _, h => by simp at h
 | q :: r, 0, p, hn, h => by
  simp at h; subst h
  simp only [List.map_cons, List.nodup_cons] at hn
  simp only [delN, List.eraseIdx_cons_zero]
  rw [List.filter_cons_of_neg (by simp)]
  exact List.filter_eq_self.2 fun x hx => decide_eq_true fun e => hn.1 (List.mem_map.2 ⟨x, hx, e⟩)
 | q :: r, i + 1, p, hn, h => by
  simp only [List.map_cons, List.nodup_cons] at hn
  simp only [List.getElem?_cons_succ] at h
  have hp : p ∈ r := List.mem_of_getElem? h
  have hne : q.1 ≠ p.1 := fun e => hn.1 (List.mem_map.2 ⟨p, hp, e.symm⟩)
  have ih := delN_erase (i := i) hn.2 h
  simp only [delN] at ih ⊢
  rw [List.filter_cons_of_pos (by simpa using hne), ih]; rfl
theorem delN_none {H : Hp} {v : Nm} (h : lk H v = none) : delN H v = H :=
 List.filter_eq_self.2 fun x hx => decide_eq_true fun e => lk_none.1 h (List.mem_map.2 ⟨x, hx, e⟩)
theorem WF.filter {H : Hp} (h : WF H) (f : Nm × List Cel → Bool) : WF (H.filter f) :=
 ⟨(List.filter_sublist.map _).nodup h.keys, fun p hp => h.ok p (List.mem_filter.1 hp).1⟩
theorem Two.erase {α β : Type} {Q : α → β → Prop} {us : List α} {ws : List β} (h : Two Q us ws) (i : Nat) : Two Q (us.eraseIdx i) (ws.eraseIdx i) := by
 rw [List.eraseIdx_eq_take_drop_succ, List.eraseIdx_eq_take_drop_succ]
 exact (h.take i).append (h.drop (i + 1))
theorem HeapP.del {σ : Store} {id mid : Nat} {vs : List AVal} {H : Hp} (h : HeapP σ id mid vs H) (v : Nm) :
  ∃ σ' vs', mapdelV σ true [.i, .i] (.map mid) (nmV v) = some σ' ∧ HeapP σ' id mid vs' (delN H v) ∧ Keeps (fun i => i = mid) σ σ' := by
 obtain ⟨o, h1, h2⟩ := find_nm v H
 have hk : keyEq true [.i, .i] (nmV v) (nmV v) = some true := by rw [nm_keyEq, decide_eq_true rfl]
 have hf : findKK true [.i, .i] (nmV v) (H.map fun p => nmV p.1) = some o := by simp only [findKK, hk, Option.isSome_some, if_true, h1]
 have hmo := h.map
 have hne : id ≠ mid := fun e => by have h1 := h.obj; rw [e, h.map] at h1; cases h1
 cases o with
 | none =>
  refine ⟨σ, vs, by simp only [mapdelV, hmo, hf], ?_, Keeps.refl _ _⟩
  rw [delN_none h2]; exact h
 | some i =>
  obtain ⟨p, p1, rfl, p3⟩ := h2
  rw [delN_erase h.wf.keys p1]
  refine ⟨σ.set mid (.map ((H.map fun p => nmV p.1).eraseIdx i) (vs.eraseIdx i)), vs.eraseIdx i, by simp only [mapdelV, hmo, hf], ⟨?_, ?_, h.vals.erase i, ?_⟩, Keeps.set _ _ _⟩
  ·rw [List.getElem?_set_ne (fun e => hne e.symm)]; exact h.obj
  ·rw [get_set h.map, map_erase]
  ·rw [← delN_erase h.wf.keys p1]; exact h.wf.filter _
def dropH (H : Hp) (ws : List Nm) : Hp := ws.foldl delN H
def dropR (R : Hp) (ws : List Nm) : Hp := R.filter fun p => !ws.contains p.1
theorem dropH_eq : ∀ (ws : List Nm) (H : Hp), dropH H ws = H.filter fun p => !ws.contains p.1
 | [], H => by
  simp only [dropH, List.foldl_nil]
  exact (List.filter_eq_self.2 fun _ _ => by simp).symm
 | v :: ws, H => by
  have ih := dropH_eq ws (delN H v)
  simp only [dropH, List.foldl_cons] at ih ⊢
  rw [ih, delN, List.filter_filter]
  congr 1
  funext p
  by_cases e : p.1 = v
  ·simp [e]
  ·have e2 : ¬ (v = p.1) := fun h => e h.symm
   simp [List.contains_cons, e]
theorem Same.drop {H R : Hp} (h : Same H R) (ws : List Nm) : Same (dropH H ws) (dropR R ws) := by
 rw [dropH_eq]
 exact ⟨h.wf.filter _, h.perm.filter _, List.Pairwise.sublist List.filter_sublist h.rise⟩
section
variable (d : Nat) (σ : Store)
theorem hdrop_ok (id mid : Nat) (vs : List AVal) (H : Hp) (l : AVal) (ws : List Nm) (h : HeapP σ id mid vs H) (hl : SlOf σ 2 l (ws.map nmV)) (hw : ws.length < 2 ^ 40) : Called CU.cfg d 14 [.ptr id 0, l] σ fun r σ' => (∃ vs', HeapP σ' id mid vs' (dropH H ws)) ∧ Keeps (fun i => i = mid) σ σ' := by
 refine called_of (fn := CU.a14) rfl (Nat.le_of_ble_eq_true rfl) ?_
 simp only [CU.a14]
 have ll : lenSV l = some ws.length := by rw [hl.len]; simp
 have hmid : mid < σ.length := (List.getElem?_eq_some_iff.1 h.map).1
 have hlm : ∀ i, l.sid = some i → ¬ i = mid := fun i hi e => hl.noMap h.map (e ▸ hi)
 simp -dsimp only [↓WPd, ↓wpC_block, ↓wpC_cond, WPu, Bool.false_eq_true, Bool.true_eq_false, Bool.not_true, Bool.not_false, if_true, if_false, ite_true, ite_false, Nat.reduceEqDiff, Nat.reduceLT, true_and, List.map_cons, List.map_nil, Nat.zero_add, Nat.reduceBEq, WPm, ll]
 refine loop_rule2 (fun m xs σ' => ∃ (k : Nat) (us : List AVal), k ≤ ws.length ∧ m = ws.length - k ∧ xs = [.ptr id 0, l, .int .i64 ws.length, .int .i64 (k : Nat)] ∧ HeapP σ' id mid us (dropH H (ws.take k)) ∧ Keeps (fun i => i = mid) σ σ')
  [] (fun e xs σ' => e = .exit 0 ∧ (∃ us, HeapP σ' id mid us (dropH H ws)) ∧ Keeps (fun i => i = mid) σ σ') ws.length ⟨0, vs, Nat.zero_le _, rfl, ?_, h, Keeps.refl _ _⟩ ?_ ?_
 ·simp -dsimp only [↓WPd, ↓wpC_block, ↓wpC_cond, WPu, Bool.false_eq_true, Bool.true_eq_false, Bool.not_true, Bool.not_false, if_true, if_false, ite_true, ite_false, Nat.reduceEqDiff, Nat.reduceLT, true_and, List.map_cons, List.map_nil, Nat.zero_add, Nat.reduceBEq]; rfl
 ·rintro m xs σ' ⟨k, us, hk, rfl, rfl, hh, g⟩
  simp -dsimp only [↓WPd, ↓wpC_block, ↓wpC_cond, WPu, Bool.false_eq_true, Bool.true_eq_false, Bool.not_true, Bool.not_false, if_true, if_false, ite_true, ite_false, Nat.reduceEqDiff, Nat.reduceLT, true_and, List.map_cons, List.map_nil, Nat.zero_add, Nat.reduceBEq]
  refine condP_dec (fun hc => ?_) (fun hc => ?_)
  ·have hk' : k < ws.length := by omega
   have hr' := hl.keeps g hlm
   have hke : k < (ws.map nmV).length := by simpa using hk'
   have ia : iaddrV 2 l (.int .i64 k) = some (addrOf 2 l k) := hr'.iaddr hke .i64
   have hb := (hr'.addr hke .i64).2
   have hb' : behind σ' (addrOf 2 l k) = some (nmC ws[k], 0) := by rw [hb]; simp only [List.getElem_map, nm_cells]
   have ld : loadV σ' 2 true (addrOf 2 l k) = some (nmV ws[k]) := loadN_at hb' (by simp [nmC])
   have oj : (σ' ++ [AObj.cells (nmC ws[k])])[σ'.length]? = some (.cells (nmC ws[k])) := by simp
   have g1 : Grows σ' (σ' ++ [AObj.cells (nmC ws[k])]) := Grows.app _ _
   have e1 : ([AVal.map mid] : List AVal)[0]? = some (.map mid) := rfl
   simp -dsimp only [↓WPd, ↓wpC_block, ↓wpC_cond, WPu, Bool.false_eq_true, Bool.true_eq_false, Bool.not_true, Bool.not_false, if_true, if_false, ite_true, ite_false, Nat.reduceEqDiff, Nat.reduceLT, true_and, List.map_cons, List.map_nil, Nat.zero_add, Nat.reduceBEq, WPm, ia, ld, nm_putB, isnil_ptr]
   have hh1 := hh.grow g1
   generalize σ' ++ [AObj.cells (nmC ws[k])] = σ1 at oj g1 hh1
   obtain ⟨σ2, us2, d1, d2, d3⟩ := hh1.del ws[k]
   simp -dsimp only [↓WPd, ↓wpC_block, ↓wpC_cond, WPu, Bool.false_eq_true, Bool.true_eq_false, Bool.not_true, Bool.not_false, if_true, if_false, ite_true, ite_false, Nat.reduceEqDiff, Nat.reduceLT, true_and, List.map_cons, List.map_nil, Nat.zero_add, Nat.reduceBEq, WPm, isnil_ptr, faddr_ptr, Nat.add_zero, load_cells hh1.obj, e1, load_nm oj, d1]
   have ht : ws.take (k + 1) = ws.take k ++ [ws[k]] := List.take_succ_eq_append_getElem hk'
   refine ⟨ws.length - (k + 1), by omega, k + 1, us2, by omega, rfl, by rw [wrap_i64 (by omega) (by omega), Int.natCast_add, Int.natCast_one], ?_, Keeps.trans (Keeps.trans g g1 fun i _ e => e.elim) d3 fun i _ e => e⟩
   rw [ht, dropH, List.foldl_append]; exact d2
  ·have : k = ws.length := by omega
   subst this
   rw [List.take_length] at hh
   simp -dsimp only [↓WPd, ↓wpC_block, ↓wpC_cond, WPu, Bool.false_eq_true, Bool.true_eq_false, Bool.not_true, Bool.not_false, if_true, if_false, ite_true, ite_false, Nat.reduceEqDiff, Nat.reduceLT, true_and, List.map_cons, List.map_nil, Nat.zero_add, Nat.reduceBEq]
   exact ⟨⟨us, hh⟩, g⟩
 ·rintro e σ' env ⟨rfl, hh, g⟩
  have hr : ∀ s : FS, resultsA [] s = some (.tuple []) := fun _ => rfl
  simp -dsimp only [↓WPd, ↓wpC_block, ↓wpC_cond, WPu, Bool.false_eq_true, Bool.true_eq_false, Bool.not_true, Bool.not_false, if_true, if_false, ite_true, ite_false, Nat.reduceEqDiff, Nat.reduceLT, true_and, List.map_cons, List.map_nil, Nat.zero_add, Nat.reduceBEq, hr]
  exact ⟨hh, g⟩
end
theorem lk_filter {f : Nm → Bool} : ∀ {H : Hp} {v : Nm}, lk (H.filter fun p => f p.1) v = if f v = true then lk H v else none
 | [], v => by simp [lk]
 | p :: r, v => by
  have ih := lk_filter (f := f) (H := r) (v := v)
  by_cases hp : f p.1 = true
  ·rw [List.filter_cons_of_pos (p := fun p : Nm × List Cel => f p.1) hp]
   simp only [lk]
   by_cases e : p.1 = v
   ·subst e; rw [if_pos rfl, if_pos rfl, if_pos hp]
   ·rw [if_neg e, if_neg e, ih]
  ·rw [List.filter_cons_of_neg (p := fun p : Nm × List Cel => f p.1) hp, ih]
   simp only [lk]
   by_cases e : p.1 = v
   ·subst e; rw [if_neg hp, if_neg hp]
   ·rw [if_neg e]
theorem lk_dropH (H : Hp) (ws : List Nm) (v : Nm) : lk (dropH H ws) v = if v ∈ ws then none else lk H v := by
 rw [dropH_eq, lk_filter (f := fun v => !ws.contains v)]
 by_cases h : v ∈ ws <;> simp [h]
theorem rea_drop {H : Hp} {rs gs : List Nm} (hg : ∀ v ∈ gs, ¬ Rea H rs v) (v : Nm) : Rea (dropH H gs) rs v ↔ Rea H rs v := by
 constructor
 ·refine Rea.more (fun _ h => h) fun v t h => ?_
  rw [lk_dropH] at h
  split at h
  ·cases h
  ·exact h
 ·intro h
  induction h with
  | root h => exact .root h
  | step hv hw ih =>
   rename_i v w
   refine .step ih ?_
   have hn : v ∉ gs := fun hm => hg v hm hv
   unfold stepN at hw ⊢
   rw [lk_dropH, if_neg hn]
   exact hw
def garb (R : Hp) (l : List Nm) : List Nm := (R.map (·.1)).filter fun v => !l.contains v
theorem garb_mem {R : Hp} {l : List Nm} {v : Nm} : v ∈ garb R l ↔ v ∈ R.map (·.1) ∧ v ∉ l := by
 simp [garb]
theorem garb_none {R : Hp} {l l' : List Nm} (h : ∀ v, v ∈ l' ↔ v ∈ l) : garb (dropR R (garb R l)) l' = [] := by
 unfold garb
 refine List.filter_eq_nil_iff.2 fun v hv => ?_
 obtain ⟨p, hp, rfl⟩ := List.mem_map.1 hv
 obtain ⟨hp1, hp2⟩ := List.mem_filter.1 hp
 have hn : p.1 ∉ garb R l := fun hm => by
  have : (garb R l).contains p.1 = true := by simpa using hm
  have hp2' : (!(garb R l).contains p.1) = true := hp2
  rw [this] at hp2'; cases hp2'
 rw [garb_mem] at hn
 have : p.1 ∈ l := Classical.byContradiction fun hc => hn ⟨List.mem_map.2 ⟨p, hp1, rfl⟩, hc⟩
 simp [(h _).2 this]
def addB (l bs : List Nm) (v b : Nm) : List Nm := if l.contains v then bs else bs ++ [b]
structure Come (H : Hp) (rs l bs : List Nm) : Prop where
 len : bs.length = l.length
 by_ : ∀ (j : Nat) (hj : j < l.length) (hb : j < bs.length), (l[j] ∈ rs ∧ bs[j] = l[j]) ∨ ∃ (i : Nat) (hi : i < j), bs[j] = l[i]'(by omega) ∧ l[j] ∈ stepN H (l[i]'(by omega))
theorem Come.nil (H : Hp) (rs : List Nm) : Come H rs [] [] := ⟨rfl, fun j hj => by simp at hj⟩
theorem Come.add {H : Hp} {rs l bs : List Nm} (h : Come H rs l bs) {v b : Nm} (hv : (v ∈ rs ∧ b = v) ∨ ∃ (i : Nat) (hi : i < l.length), b = l[i] ∧ v ∈ stepN H l[i]) : Come H rs (addN l v) (addB l bs v b) := by
 unfold addN addB
 by_cases hc : l.contains v = true
 ·rw [if_pos hc, if_pos hc]; exact h
 ·rw [if_neg hc, if_neg hc]
  refine ⟨by simp [h.len], fun j hj hb => ?_⟩
  by_cases hjl : j < l.length
  ·have e1 : (l ++ [v])[j] = l[j] := List.getElem_append_left hjl
   have e2 : (bs ++ [b])[j] = bs[j]'(by rw [h.len]; exact hjl) := List.getElem_append_left (by rw [h.len]; exact hjl)
   rw [e1, e2]
   rcases h.by_ j hjl (by rw [h.len]; exact hjl) with h1 | ⟨i, hi, h1, h2⟩
   ·exact .inl h1
   ·refine .inr ⟨i, hi, ?_, ?_⟩
    ·rw [h1, List.getElem_append_left (by omega)]
    ·rw [List.getElem_append_left (by omega)]; exact h2
  ·have hj' : j = l.length := by simp at hj; omega
   subst hj'
   have e1 : (l ++ [v])[l.length] = v := by simp
   have e2 : (bs ++ [b])[l.length]'hb = b := by simp [← h.len]
   rw [e1, e2]
   rcases hv with h1 | ⟨i, hi, h1, h2⟩
   ·exact .inl h1
   ·refine .inr ⟨i, hi, ?_, ?_⟩
    ·rw [h1, List.getElem_append_left hi]
    ·rw [List.getElem_append_left hi]; exact h2
theorem BRows.keeps {σ σ' : Store} {M : Nat → Prop} {lo : Nat} {l : AVal} {us : List AVal} {R : Hp} (h : BRows σ lo l us R) (g : Keeps M σ σ') (hm : ∀ i, i < σ.length → lo ≤ i → ¬ M i) : BRows σ' lo l us R := XRows.keeps h g hm
theorem Told.at {u : AVal} {t : List Cel} (h : Told u t) (σ : Store) : SlOf σ 5 u (CC t) := h σ
theorem XRows.at {σ : Store} {lo sz : Nat} {l : AVal} {es : List AVal} {ps : List (List AVal)} (h : XRows σ lo 1 sz l es es ps) {i : Nat} (hi : i < ps.length) :
  ∃ e, es[i]? = some e ∧ iaddrV 1 l (.int .i64 i) = some (addrOf 1 l i) ∧ loadV σ 1 false (addrOf 1 l i) = some e ∧ Own σ sz e ps[i] ∧ NoLit e := by
 have hi' : i < es.length := by rw [h.len]; exact hi
 have o := h.one i es[i] ps[i] (List.getElem?_eq_getElem hi') (List.getElem?_eq_getElem hi)
 exact ⟨es[i], List.getElem?_eq_getElem hi', h.row.sl.iaddr hi' .i64, h.row.sl.load1 hi' o.one 1, o, h.lit i _ (List.getElem?_eq_getElem hi')⟩
theorem HeapV.none (σ : Store) : HeapV σ .nilptr [] := .inl ⟨rfl, rfl⟩
section
variable (d : Nat) (σ : Store)
end
inductive Repl : List Cel → List Cel → Prop
 | nil : Repl [] []
 | keep (c : Cel) {t r : List Cel} : c.ok = true → Repl t r → Repl (c :: t) (c :: r)
 | put (c : Cel) (w : List Cel) {t r : List Cel} : c.parts = 0 → right w = true → Repl t r → Repl (c :: t) (w ++ r)
theorem Repl.len {t r : List Cel} (h : Repl t r) : t.length ≤ r.length := by
 induction h with
 | nil => exact Nat.le_refl _
 | keep c _ _ ih => simp; omega
 | put c w _ hw _ ih => have := (right_len hw).1; simp; omega
theorem Repl.oks {t r : List Cel} (h : Repl t r) : ∀ c ∈ r, c.ok = true := by
 induction h with
 | nil => simp
 | keep c hc _ ih => 
  intro x hx
  rcases List.mem_cons.1 hx with rfl | hx
  ·exact hc
  ·exact ih x hx
 | put c w _ hw _ ih => 
  intro x hx
  rcases List.mem_append.1 hx with hx | hx
  ·exact right_ok_mem hw hx
  ·exact ih x hx
theorem Repl.ends {L L' : Nat} (hL : L ≤ L') {t r : List Cel} (h : Repl t r) (hl : r.length ≤ L') : ∀ {q a b : Nat}, endAt L t q a = a + t.length → 0 < a + t.length → endAt L' r q b = b + r.length := by
 induction h with
 | nil =>
  intro q a b h h0
  cases q with
  | zero => rw [endAt_zero]; rfl
  | succ q => rw [endAt_nil] at h; simp at h h0; omega
 | keep c hc hr ih =>
  intro q a b h h0
  cases q with
  | zero => rw [endAt_zero] at h; simp at h
  | succ q =>
   rw [endAt_cons] at h
   simp only [List.length_cons] at h hl ⊢
   split at h
   ·omega
   ·rename_i hp
    rw [endAt_cons, if_neg (by omega), ih (by omega) (a := a + 1) (b := b + 1) (by omega) (by omega)]
    omega
 | put c w hp hw hr ih =>
  intro q a b h h0
  cases q with
  | zero => rw [endAt_zero] at h; simp at h
  | succ q =>
   rw [endAt_cons] at h
   simp only [List.length_cons, List.length_append] at h hl ⊢
   rw [hp, Nat.add_zero] at h
   split at h
   ·omega
   ·rw [show q + 1 = 1 + q by omega, endAt_right hw (by omega), ih (by omega) (a := a + 1) (b := b + w.length) (by omega) (by omega)]
    omega
theorem Repl.right {t r : List Cel} (h : Repl t r) (ht : right t = true) (hl : r.length ≤ 256) : right r = true := by
 have h1 := (right_len ht).1
 have h2 := h.len
 have he := right_end ht
 have e := h.ends (L := t.length) (L' := r.length) h2 (Nat.le_refl _) (b := 0) he (by omega)
 rw [Nat.zero_add] at e
 have ho : r.all Cel.ok = true := List.all_eq_true.2 h.oks
 simp only [Am.right, Bool.and_eq_true, decide_eq_true_eq]
 exact ⟨⟨⟨by omega, hl⟩, e⟩, ho⟩
theorem Own.noMap {σ : Store} {sz : Nat} {v : AVal} {es ks vs : List AVal} {id : Nat} (h : Own σ sz v es) (ho : σ[id]? = some (.map ks vs)) : v.sid ≠ some id := by
 intro hs
 rcases h.own with ⟨rfl, _⟩ | ⟨t, rfl⟩ | ⟨id', ep, off, cap, xs, epo, fl, rfl, h1, _⟩
 ·cases hs
 ·cases hs
 ·injection hs with hs; subst hs; rw [ho] at h1; cases h1
def Mv (id aid : Nat) (nv : AVal) : Nat → Prop := fun i => i = id ∨ i = aid ∨ nv.sid = some i
structure Att (fm : AVal → List AVal) (σ0 : Store) (id aid : Nat) (σ : Store) (nv : AVal) (s : TSt) : Prop where
 old : Grows σ0 σ
 lid : σ0.length ≤ id
 laid : σ0.length ≤ aid
 lnv : Fresh σ0.length nv
 obj : σ[id]? = some (.cells (fm nv))
 names : Own σ 2 nv (NN s.ws)
 arr : ∃ es, σ[aid]? = some (.arr 1 es 0 0) ∧ Two (fun e t => Own σ 5 e (CC t)) es s.ls
theorem Own.noArr {σ : Store} {sz sz' i ep fl : Nat} {v : AVal} {es xs : List AVal} (h : Own σ sz v es) (ho : σ[i]? = some (.arr sz' xs ep fl)) (hn : sz ≠ sz') : v.sid ≠ some i := by
 intro hv
 rcases h.own with ⟨rfl, _⟩ | ⟨t, rfl⟩ | ⟨id, ep, off, cap, ys, epo, fl, rfl, h1, _⟩
 ·cases hv
 ·cases hv
 ·injection hv with hv
  subst hv
  rw [ho] at h1; injection h1 with h1; injection h1 with h1; exact hn h1.symm
section
variable {fm : AVal → List AVal} {σ0 : Store} {id aid : Nat} {σ σ' : Store} {nv : AVal} {s : TSt}
theorem Att.lt (h : Att fm σ0 id aid σ nv s) : id < σ.length ∧ aid < σ.length := by
 obtain ⟨es, ha, -⟩ := h.arr
 exact ⟨(List.getElem?_eq_some_iff.1 h.obj).1, (List.getElem?_eq_some_iff.1 ha).1⟩
theorem Att.own5 (h : Att fm σ0 id aid σ nv s) {e : AVal} {p : List AVal} (he : Own σ 5 e p) (i : Nat) (hi : e.sid = some i) : ¬ Mv id aid nv i := by
 obtain ⟨es, ha, -⟩ := h.arr
 rintro (rfl | rfl | hv)
 ·exact he.noCell h.obj hi
 ·exact he.noArr ha (by decide) hi
 ·exact he.sizes h.names (by decide) hi hv
theorem Att.keep5 (h : Att fm σ0 id aid σ nv s) {e : AVal} {p : List AVal} (he : Own σ 5 e p) (hk : Keeps (Mv id aid nv) σ σ') : Own σ' 5 e p :=
 he.keeps hk fun i hi => h.own5 he i hi
theorem Att.grow (h : Att fm σ0 id aid σ nv s) (g : Grows σ σ') : Att fm σ0 id aid σ' nv s := by
 obtain ⟨es, ha, ht⟩ := h.arr
 exact ⟨h.old.trans g, h.lid, h.laid, h.lnv, g.get h.obj, h.names.grow g, es, g.get ha, ht.mono fun e t ho => ho.grow g⟩
theorem Mv.trans {nv1 : AVal} {σ1 σ2 : Store} (h1 : Keeps (Mv id aid nv) σ σ1) (hs : ∀ i, nv1.sid = some i → nv.sid = some i ∨ σ.length ≤ i) (h2 : Keeps (Mv id aid nv1) σ1 σ2) : Keeps (Mv id aid nv) σ σ2 :=
 Keeps.trans h1 h2 fun i hi e => by
  rcases e with rfl | rfl | e
  ·exact .inl rfl
  ·exact .inr (.inl rfl)
  ·rcases hs i e with e | e
   ·exact .inr (.inr e)
   ·omega
structure OT (σ : Store) (lo : Nat) (l : AVal) (es : List AVal) (ts : List (List Cel)) : Prop where
 row : Own σ 1 l es
 two : Two (fun e t => Own σ 5 e (CC t)) es ts
 frl : Fresh lo l
theorem OT.grow {lo : Nat} {l : AVal} {es : List AVal} {ts : List (List Cel)} (h : OT σ lo l es ts) (g : Grows σ σ') : OT σ' lo l es ts :=
 ⟨h.row.grow g, h.two.mono fun e t ho => ho.grow g, h.frl⟩
theorem OT.keep {lo : Nat} {l : AVal} {es : List AVal} {ts : List (List Cel)} (h : OT σ lo l es ts) (ha : Att fm σ0 id aid σ nv s) (h1 : id < lo) (h2 : aid < lo) (hk : Keeps (Mv id aid nv) σ σ') : OT σ' lo l es ts := by
 refine ⟨h.row.keeps hk fun i hi => ?_, h.two.mono fun e t ho => ha.keep5 ho hk, h.frl⟩
 have := h.frl i hi
 rintro (rfl | rfl | hv)
 ·omega
 ·omega
 ·exact h.row.sizes ha.names (by decide) hi hv
theorem OT.at {lo : Nat} {l : AVal} {es : List AVal} {ts : List (List Cel)} (h : OT σ lo l es ts) {i : Nat} (hi : i < ts.length) : ∃ e, iaddrV 1 l (.int .i64 i) = some (addrOf 1 l i) ∧ loadV σ 1 false (addrOf 1 l i) = some e ∧ Own σ 5 e (CC ts[i]) := by
 have hi' : i < es.length := by rw [h.two.len]; exact hi
 obtain ⟨e, he1, he2⟩ := h.two.get hi
 have hee : es[i] = e := by rw [List.getElem?_eq_getElem hi'] at he1; exact Option.some.inj he1
 refine ⟨e, h.row.sl.iaddr hi' .i64, ?_, he2⟩
 have := h.row.sl.load1 hi' (by rw [hee]; exact he2.one) 1
 rw [hee] at this; exact this
theorem OT.len {lo : Nat} {l : AVal} {es : List AVal} {ts : List (List Cel)} (h : OT σ lo l es ts) : lenSV l = some ts.length := by
 rw [← h.two.len]; exact h.row.sl.len
end
def StepQ (fm : AVal → List AVal) (σ0 : Store) (id aid : Nat) (res : Option TSt) (s : TSt) (add : Nat) (nv : AVal) (σ : Store) : AVal → Store → Prop := fun r σ' =>
 ∃ (b : Bool) (nv' : AVal) (s' : TSt), r = .bool b ∧ Att fm σ0 id aid σ' nv' s' ∧ Keeps (Mv id aid nv) σ σ' ∧ (∀ i, nv'.sid = some i → nv.sid = some i ∨ σ.length ≤ i) ∧ res = (if b then some s' else none) ∧ s'.ws.length ≤ s.ws.length + add ∧ s'.ls.length = s.ls.length
section
variable (d : Nat)
theorem Two.set {α β : Type} {R : α → β → Prop} {us : List α} {ws : List β} (h : Two R us ws) (j : Nat) {a : α} {b : β} (hr : R a b) : Two R (us.set j a) (ws.set j b) :=
 Two.of_get (by simp [h.len]) fun i x y hx hy => by
  rw [List.getElem?_set] at hx hy
  split at hx
  ·rename_i hij
   rw [if_pos hij] at hy
   split at hx
   ·split at hy
    ·injection hx with hx; injection hy with hy; subst hx; subst hy; exact hr
    ·cases hy
   ·cases hx
  ·rename_i hij
   rw [if_neg hij] at hy
   exact h.at hx hy
theorem StepQ.plain {fm : AVal → List AVal} {σ0 : Store} {id aid : Nat} {res : Option TSt} {s : TSt} {add : Nat} {nv : AVal} {σ σ' : Store} (ha : Att fm σ0 id aid σ nv s) (g : Grows σ σ') (hr : res = none) : StepQ fm σ0 id aid res s add nv σ (.bool false) σ' :=
 ⟨false, nv, s, rfl, ha.grow g, g.any, fun i h => .inl h, by rw [hr]; rfl, by omega, rfl⟩
theorem Att.put {fm : AVal → List AVal} {σ0 : Store} {id aid : Nat} {nv : AVal} {s : TSt} {σ : Store} (ha : Att fm σ0 id aid σ nv s) {j : Nat} {u : AVal} {t : List Cel} (hu : Own σ 5 u (CC t)) (hj : j < s.ls.length) :
  ∃ σ', storeV σ 1 (.eptr aid 0 j 0) u = some σ' ∧ Att fm σ0 id aid σ' nv ⟨s.ls.set j t, s.ws⟩ ∧ Keeps (fun i => i = aid) σ σ' := by
 obtain ⟨es, h1, h2⟩ := ha.arr
 have hj' : j < es.length := by rw [h2.len]; exact hj
 obtain ⟨e, he1, he2⟩ := h2.get hj
 have hee : es[j] = e := by rw [List.getElem?_eq_getElem hj'] at he1; exact Option.some.inj he1
 have st := arr_store1 h1 hj' hu.one (by rw [hee]; exact he2.one)
 have k := Keeps.set σ aid (.arr 1 (es.set j u) 0 0)
 have hne : id ≠ aid := fun e => by have a := ha.obj; rw [e, h1] at a; cases a
 refine ⟨_, st, ⟨?_, ha.lid, ha.laid, ha.lnv, k.get ha.obj hne, ha.names.keeps k fun i hi e => ha.names.noArr h1 (by decide) (by rw [← e]; exact hi), es.set j u, get_set h1, ?_⟩, k⟩
 ·exact Keeps.trans ha.old k fun i hi e => by have := ha.laid; omega
 ·refine Two.set (h2.mono fun e t ho => ho.keeps k fun i hi e' => ho.noArr h1 (by decide) (by rw [← e']; exact hi)) j ?_
  exact hu.keeps k fun i hi e' => hu.noArr h1 (by decide) (by rw [← e']; exact hi)
theorem Att.get {fm : AVal → List AVal} {σ0 : Store} {id aid : Nat} {nv : AVal} {s : TSt} {σ : Store} (ha : Att fm σ0 id aid σ nv s) {j : Nat} (hj : j < s.ls.length) : ∃ e, loadV σ 1 false (.eptr aid 0 j 0) = some e ∧ lenSV e = some (s.ls[j]).length := by
 obtain ⟨es, h1, h2⟩ := ha.arr
 have hj' : j < es.length := by rw [h2.len]; exact hj
 obtain ⟨e, he1, he2⟩ := h2.get hj
 have hee : es[j] = e := by rw [List.getElem?_eq_getElem hj'] at he1; exact Option.some.inj he1
 refine ⟨e, ?_, by have := he2.sl.len; rwa [List.length_map] at this⟩
 rw [arr_load1 h1 (Nat.le_refl _) hj' (by rw [hee]; exact he2.one), hee]
end
section
variable (d : Nat)
structure Tried (fm : AVal → List AVal) (σ0 : Store) (id aid : Nat) (F : TSt → List Cel → List Cel → Option TSt) (s : TSt) (azs bs : List (List Cel)) (lo : Nat) (al bl : AVal) (es fs : List AVal) (nv : AVal) (σ2 σ' : Store) (k : Nat) (nk : AVal) (sk : TSt) : Prop where
 att : Att fm σ0 id aid σ' nk sk
 keep : Keeps (Mv id aid nv) σ2 σ'
 nam : ∀ i, nk.sid = some i → nv.sid = some i ∨ σ2.length ≤ i
 ra : OT σ' lo al es azs
 rb : OT σ' lo bl fs bs
 res : foldO F s azs bs = foldO F sk (azs.drop k) (bs.drop k)
 ws : sk.ws.length ≤ s.ws.length + (azs.take k).flatten.length
 ls : sk.ls.length = s.ls.length
theorem Tried.step {fm : AVal → List AVal} {σ0 : Store} {id aid : Nat} {F : TSt → List Cel → List Cel → Option TSt} {s : TSt} {azs bs : List (List Cel)} {lo : Nat} {al bl : AVal} {es fs : List AVal} {nv : AVal} {σ2 σ' : Store} {k : Nat} {nk : AVal} {sk : TSt} (h : Tried fm σ0 id aid F s azs bs lo al bl es fs nv σ2 σ' k nk sk)
  (hk : k < azs.length) (hb : k < bs.length) (h1 : id < lo) (h2 : aid < lo) {σ3 : Store} {r : AVal} (hq : StepQ fm σ0 id aid (F sk azs[k] bs[k]) sk (azs[k]).length nk σ' r σ3) :
  ∃ b : Bool, r = .bool b ∧ ∃ nk' sk', Att fm σ0 id aid σ3 nk' sk' ∧ Keeps (Mv id aid nv) σ2 σ3 ∧ (∀ i, nk'.sid = some i → nv.sid = some i ∨ σ2.length ≤ i) ∧ sk'.ws.length ≤ s.ws.length + (azs.take (k + 1)).flatten.length ∧ sk'.ls.length = s.ls.length ∧ (b = true → Tried fm σ0 id aid F s azs bs lo al bl es fs nv σ2 σ3 (k + 1) nk' sk') ∧ (b = false → foldO F s azs bs = none) := by
 obtain ⟨b, nk', sk', rfl, a1, a2, a3, a4, a5, a6⟩ := hq
 have hfs := flat_step hk
 have stp := foldO_step (f := F) (s := sk) hk hb
 have c1 := Mv.trans h.keep h.nam a2
 have c2 : ∀ i, nk'.sid = some i → nv.sid = some i ∨ σ2.length ≤ i := fun i hi => (a3 i hi).elim (h.nam i) (fun e => .inr (by have := h.keep.1; omega))
 have c3 : sk'.ws.length ≤ s.ws.length + (azs.take (k + 1)).flatten.length := by have := h.ws; omega
 have c4 : sk'.ls.length = s.ls.length := by rw [a6]; exact h.ls
 refine ⟨b, rfl, nk', sk', a1, c1, c2, c3, c4, fun hb' => ?_, fun hb' => ?_⟩
 ·refine ⟨a1, c1, c2, h.ra.keep h.att h1 h2 a2, h.rb.keep h.att h1 h2 a2, ?_, c3, c4⟩
  rw [h.res, stp, a4, hb']; rfl
 ·rw [h.res, stp, a4, hb']; rfl
end
theorem HeapV.one {σ : Store} {hv : AVal} {H : Hp} (h : HeapV σ hv H) : hv.one = true := by
 rcases h with ⟨rfl, _⟩ | ⟨id, mid, vs, rfl, _⟩ <;> rfl
theorem RefV.one {σ : Store} {rv : AVal} {R : Hp} (h : RefV σ rv R) : rv.one = true := by
 rcases h with ⟨rfl, _⟩ | ⟨id, A, rfl, _⟩ <;> rfl
def TryOk (σ : Store) (r : AVal) (x : TryR) : Prop := ∃ lv wv, r = .agg (tryC x.k lv wv) ∧ Terms σ lv x.ls ∧ SlOf σ 2 wv (NN x.ws)
theorem TryOk.grow {σ σ' : Store} {r : AVal} {x : TryR} (h : TryOk σ r x) (g : Grows σ σ') : TryOk σ' r x := by
 obtain ⟨lv, wv, h1, h2, h3⟩ := h
 exact ⟨lv, wv, h1, h2.grow g, h3.grow g⟩
theorem Terms.one {σ : Store} {l : AVal} {ts : List (List Cel)} (h : Terms σ l ts) : l.one = true := by obtain ⟨es, h1, -⟩ := h; exact h1.one
theorem try_told {σ σ0 : Store} {i k : Nat} {lv wv : AVal} {x : TryR} (ho : σ[i]? = some (.cells tryZ)) (hk : x.k = k) (h1 : Terms σ lv x.ls) (h2 : SlOf σ 2 wv (NN x.ws)) (hi : σ0.length ≤ i) (g : Grows σ0 σ) (n1 : ∀ j, lv.sid = some j → j ≠ i) (n2 : ∀ j, wv.sid = some j → j ≠ i) (n3 : ∀ (es : List AVal) (e : AVal) (j : Nat), SlOf σ 1 lv es → e ∈ es → e.sid = some j → j ≠ i) :
  ∃ σ', storeV σ 4 (.ptr i 0) (.agg (tryC k lv wv)) = some σ' ∧ loadV σ' 4 true (.ptr i 0) = some (.agg (tryC k lv wv)) ∧ Grows σ0 σ' ∧ TryOk σ' (.agg (tryC k lv wv)) x := by
 obtain ⟨p1, p2⟩ := try_put (σ' := σ) (k := k) ho h1.one h2.one
 have kk := Keeps.set σ i (.cells (tryC k lv wv))
 refine ⟨_, p1, p2, Keeps.trans g kk fun j hj e => by omega, lv, wv, by rw [hk], ?_, h2.keeps kk fun j hj e => n2 j hj e⟩
 obtain ⟨es, a1, a2⟩ := h1
 refine ⟨es, a1.keeps kk fun j hj e => n1 j hj e, a2.mono_mem fun e t he ht hs => hs.keeps kk fun j hj e' => n3 es e j a1 he hj e'⟩
theorem Att.new (fm : AVal → List AVal) (σ : Store) (n : Nat) : Att fm σ (σ.length + 1) σ.length ((σ ++ [.arr 1 (List.replicate n .nilslice) 0 0]) ++ [.cells (fm .nilslice)]) .nilslice ⟨List.replicate n [], []⟩ := by
 refine ⟨Grows.trans (Grows.app _ _) (Grows.app _ _), by omega, Nat.le_refl _, Fresh.nil _, by simp, Own.nil _ _, List.replicate n .nilslice, by simp, ?_⟩
 refine Two.of_get (by simp) fun i a b ha hb => ?_
 rw [List.getElem?_replicate] at ha hb
 by_cases h : i < n
 ·rw [if_pos h] at ha hb
  cases ha; cases hb; exact Own.nil _ _
 ·rw [if_neg h] at ha
  cases ha
theorem Att.terms {fm : AVal → List AVal} {σ0 : Store} {id aid : Nat} {nv : AVal} {s : TSt} {σ : Store} (ha : Att fm σ0 id aid σ nv s) : ∃ es, Own σ 1 (.slice 1 aid 0 0 s.ls.length (some s.ls.length)) es ∧ Two (fun e t => Own σ 5 e (CC t)) es s.ls := by
 obtain ⟨es, h1, h2⟩ := ha.arr
 refine ⟨es, ⟨.inr (.inr ⟨aid, 0, 0, some s.ls.length, es, 0, 0, by rw [h2.len], h1, Nat.le_refl _, by simp, fun _ => by simp, .inr (by rw [h2.len])⟩)⟩, h2⟩
section
variable (d : Nat) (σ : Store)
end
section
variable (d : Nat) (σ : Store)
end
theorem TryOk.put {σ σ0 : Store} {i : Nat} {r : AVal} {x : TryR} (h : TryOk σ r x) (ho : σ[i]? = some (.cells tryZ)) (hi : σ0.length ≤ i) (g : Grows σ0 σ) :
  ∃ σ', storeV σ 4 (.ptr i 0) r = some σ' ∧ loadV σ' 4 true (.ptr i 0) = some r ∧ Grows σ0 σ' ∧ TryOk σ' r x := by
 obtain ⟨lv, wv, rfl, h2, h3⟩ := h
 have h2' := h2
 obtain ⟨es, a1, a2⟩ := h2'
 refine try_told ho rfl h2 h3 hi g (fun j h e => a1.noCell ho (by rw [← e]; exact h)) (fun j h e => h3.noCell ho (by rw [← e]; exact h)) (fun fs e j hf he hj e' => ?_)
 have : fs = es := Option.some.inj (hf.1.symm.trans a1.1)
 subst this
 obtain ⟨b, _, hb⟩ := a2.mem_left he
 exact hb.noCell ho (by rw [← e']; exact hj)
theorem Terms.lit {σ : Store} {v : AVal} {p : List Cel} (tg : Nat) (h : SlOf σ 5 v (CC p)) : Terms σ (.fslice tg true 1 [v]) [p] := ⟨[v], SlOf.fs _ _ _ _ _, Two.one h⟩
theorem I64.of {i : Int} (h : I64 i) : -9223372036854775808 ≤ i ∧ i < 9223372036854775808 := h
section
variable (d : Nat) (σ : Store)
end
section
variable (d : Nat) (σ : Store)
end
theorem find_names (v : Nm) : ∀ (l : List Nm), ∃ o : Option Nat, findK true [.i, .i] (nmV v) (l.map nmV) = some o ∧ (match o with | some i => l[i]? = some v | none => v ∉ l)
 | [] => ⟨none, rfl, by simp⟩
 | p :: r => by
  obtain ⟨o, h1, h2⟩ := find_names v r
  by_cases e : v = p
  ·refine ⟨some 0, ?_, by simp [e]⟩
   simp only [List.map_cons, findK, nm_keyEq, decide_eq_true e]
  ·refine ⟨o.map (· + 1), ?_, ?_⟩
   ·simp only [List.map_cons, findK, nm_keyEq, decide_eq_false e, h1]
    cases o <;> rfl
   ·cases o with
    | none => simp only [Option.map_none]; simp only at h2; simp [e, h2]
    | some i => simpa using h2
structure WayS (σ : Store) (fi li mid : Nat) (lv : AVal) (l bs : List Nm) : Prop where
 fc : σ[fi]? = some (.cells [.map mid])
 lc : σ[li]? = some (.cells [lv])
 mc : σ[mid]? = some (.map (l.map nmV) (bs.map nmV))
 len : bs.length = l.length
 own : Own σ 2 lv (NN l)
 nilc : l = [] → lv = .nilslice
theorem WayS.grow {σ σ' : Store} {fi li mid : Nat} {lv : AVal} {l bs : List Nm} (h : WayS σ fi li mid lv l bs) (g : Grows σ σ') : WayS σ' fi li mid lv l bs :=
 ⟨g.get h.fc, g.get h.lc, g.get h.mc, h.len, h.own.grow g, h.nilc⟩
def ComeT (mid li : Nat) (lv : AVal) (i : Nat) : Prop := i = mid ∨ i = li ∨ lv.sid = some i
set_option maxHeartbeats 1000000 in
theorem come_ok (d : Nat) (σ : Store) (fi li mid : Nat) (lv : AVal) (l bs : List Nm) (v b : Nm) (h : WayS σ fi li mid lv l bs) (hl : l.length < 2 ^ 40) :
  Called CU.cfg d 56 [nmV v, nmV b, .ptr fi 0, .ptr li 0] σ fun r σ' => (∃ lv', WayS σ' fi li mid lv' (addN l v) (addB l bs v b) ∧ ∀ i, lv'.sid = some i → lv.sid = some i ∨ σ.length ≤ i) ∧ Keeps (ComeT mid li lv) σ σ' := by
 refine called_of (fn := CU.a56) rfl (Nat.le_of_ble_eq_true rfl) ?_
 simp only [CU.a56]
 simp -dsimp only [↓WPd, ↓wpC_block, ↓wpC_cond, WPu, Bool.false_eq_true, Bool.true_eq_false, Bool.not_true, Bool.not_false, if_true, if_false, ite_true, ite_false, Nat.reduceEqDiff, Nat.reduceLT, true_and, List.map_cons, List.map_nil, Nat.zero_add, Nat.reduceBEq, WPm, nm_cells, nm_one]
 have ov : (σ ++ [AObj.cells (nmC v)] ++ [AObj.cells (nmC b)])[σ.length]? = some (.cells (nmC v)) := by simp
 have ob : (σ ++ [AObj.cells (nmC v)] ++ [AObj.cells (nmC b)])[(σ ++ [AObj.cells (nmC v)]).length]? = some (.cells (nmC b)) := by simp
 have g0 : Grows σ (σ ++ [AObj.cells (nmC v)] ++ [AObj.cells (nmC b)]) := (Grows.app _ _).trans (Grows.app _ _)
 have hbl : σ.length < (σ ++ [AObj.cells (nmC v)]).length := by simp
 generalize (σ ++ [AObj.cells (nmC v)]).length = ib at ob hbl
 generalize σ ++ [AObj.cells (nmC v)] ++ [AObj.cells (nmC b)] = σ1 at ov ob g0
 have h1 := h.grow g0
 obtain ⟨o, f1, f2⟩ := find_names v l
 have hk : keyEq true [.i, .i] (nmV v) (nmV v) = some true := by rw [nm_keyEq, decide_eq_true rfl]
 have hf : findKK true [.i, .i] (nmV v) (l.map nmV) = some o := by simp only [findKK, hk, Option.isSome_some, if_true, f1]
 have hm : mapOf σ1 (.map mid) = some (l.map nmV, bs.map nmV) := by simp only [mapOf, h1.mc]
 have e1 : ([AVal.map mid] : List AVal)[0]? = some (.map mid) := rfl
 have e2 : ([lv] : List AVal)[0]? = some lv := rfl
 obtain ⟨x, hlook⟩ : ∃ x : Nm, lookupV σ1 true [.i, .i] (.agg [.int .i64 0, .int .i64 0]) (.map mid) (nmV v) true = some (.tuple [nmV x, .bool o.isSome]) := by
  cases o with
  | none => exact ⟨(0, 0), by simp only [lookupV, hm, hf]; rfl⟩
  | some i =>
   have hi : i < bs.length := by rw [h.len]; exact (List.getElem?_eq_some_iff.1 f2).1
   have e : (bs.map nmV)[i]? = some (nmV bs[i]) := by simp [hi]
   exact ⟨bs[i], by simp only [lookupV, hm, hf, e, Option.map_some]; rfl⟩
 simp -dsimp only [↓WPd, ↓wpC_block, ↓wpC_cond, WPu, Bool.false_eq_true, Bool.true_eq_false, Bool.not_true, Bool.not_false, if_true, if_false, ite_true, ite_false, Nat.reduceEqDiff, Nat.reduceLT, true_and, List.map_cons, List.map_nil, Nat.zero_add, Nat.reduceBEq, WPm, load_cells h1.fc, e1, load_nm ov, hlook, List.getElem?_cons_zero, List.getElem?_cons_succ, nm_putB]
 have g2 : Grows σ1 (σ1 ++ [AObj.cells (nmC x)]) := Grows.app _ _
 generalize σ1 ++ [AObj.cells (nmC x)] = σ2 at g2
 have h2 := h1.grow g2
 have ov2 := g2.get ov
 have ob2 := g2.get ob
 have g02 := g0.trans g2
 have hr : ∀ s : FS, resultsA [] s = some (.tuple []) := fun _ => rfl
 cases o with
 | some i =>
  have hc : l.contains v = true := by simpa using List.mem_of_getElem? f2
  have ha : addN l v = l := by unfold addN; rw [if_pos hc]
  simp -dsimp only [↓WPd, ↓wpC_block, ↓wpC_cond, WPu, Bool.false_eq_true, Bool.true_eq_false, Bool.not_true, Bool.not_false, if_true, if_false, ite_true, ite_false, Nat.reduceEqDiff, Nat.reduceLT, true_and, List.map_cons, List.map_nil, Nat.zero_add, Nat.reduceBEq, WPm, Option.isSome_some, hr]
  have hb : addB l bs v b = bs := by unfold addB; rw [if_pos hc]
  rw [ha, hb]
  exact ⟨⟨lv, h2, fun i hi => .inl hi⟩, g02.any⟩
 | none =>
  have hc : ¬ l.contains v = true := by simpa using f2
  have ha : addN l v = l ++ [v] := by unfold addN; rw [if_neg hc]
  have hb : addB l bs v b = bs ++ [b] := by unfold addB; rw [if_neg hc]
  rw [ha, hb]
  have hset : mapsetV σ2 true [.i, .i] (.map mid) (nmV v) (nmV b) = some (σ2.set mid (.map (l.map nmV ++ [nmV v]) (bs.map nmV ++ [nmV b]))) := by simp only [mapsetV, h2.mc, hf]
  have k3 : Keeps (fun i => i = mid) σ2 (σ2.set mid (.map (l.map nmV ++ [nmV v]) (bs.map nmV ++ [nmV b]))) := Keeps.set _ _ _
  have m3 : (σ2.set mid (.map (l.map nmV ++ [nmV v]) (bs.map nmV ++ [nmV b])))[mid]? = some (.map (l.map nmV ++ [nmV v]) (bs.map nmV ++ [nmV b])) := get_set h2.mc
  simp -dsimp only [↓WPd, ↓wpC_block, ↓wpC_cond, WPu, Bool.false_eq_true, Bool.true_eq_false, Bool.not_true, Bool.not_false, if_true, if_false, ite_true, ite_false, Nat.reduceEqDiff, Nat.reduceLT, true_and, List.map_cons, List.map_nil, Nat.zero_add, Nat.reduceBEq, WPm, Option.isSome_none, load_cells h2.fc, e1, load_nm ov2, load_nm ob2, hset]
  generalize σ2.set mid (.map (l.map nmV ++ [nmV v]) (bs.map nmV ++ [nmV b])) = σ3 at k3 m3
  have nmid : fi ≠ mid ∧ li ≠ mid := ⟨(fun e => by have := h2.fc; rw [e, h2.mc] at this; cases this), (fun e => by have := h2.lc; rw [e, h2.mc] at this; cases this)⟩
  have nfl : fi ≠ li := fun e => by
   have := h2.fc
   rw [e, h2.lc] at this
   injection this with this; injection this with this; injection this with this
   exact absurd h2.own.sl.len (by rw [this]; simp [lenSV])
  have hmlt : mid < σ.length := (List.getElem?_eq_some_iff.1 h.mc).1
  have f3 := k3.get h2.fc nmid.1
  have l3 := k3.get h2.lc nmid.2
  have w3 := h2.own.keeps k3 fun i hi e => h2.own.noMap h2.mc (e ▸ hi)
  have ov3 := k3.get ov2 (by omega)
  obtain ⟨y, σ4, a1, a2, a3, a4, a5⟩ := w3.append [nmV v] 16 (by rw [List.length_map]; simp; omega)
  have lit : fillL 2 true (List.replicate 1 (zel [AVal.int IntKind.i64 0, AVal.int IntKind.i64 0] true)) [(0, nmV v)] = some [nmV v] := rfl
  have fl := elems_fs 2 (AVal.tagL [nmV v]) true σ3 [nmV v]
  have l4 := a3.get l3 (fun e => w3.noCell l3 e)
  have f4 := a3.get f3 (fun e => w3.noCell f3 e)
  have m4 := a3.get m3 (fun e => w3.noMap m3 e)
  have st := store_cells l4 (off := 0) (v := y) (by simp) a2.one
  simp -dsimp only [↓WPd, ↓wpC_block, ↓wpC_cond, WPu, Bool.false_eq_true, Bool.true_eq_false, Bool.not_true, Bool.not_false, if_true, if_false, ite_true, ite_false, Nat.reduceEqDiff, Nat.reduceLT, true_and, List.map_cons, List.map_nil, Nat.zero_add, Nat.reduceBEq, WPm, load_cells l3, e2, load_nm ov3, lit, fl, a1, st, hr]
  have k5 : Keeps (fun i => i = li) σ4 (σ4.set li (.cells [y])) := Keeps.set _ _ _
  refine ⟨⟨y, ⟨k5.get f4 nfl, get_set l4, ?_, by simp [h.len], ?_, fun e => by simp at e⟩, fun i hi => ?_⟩, ?_⟩
  ·have := k5.get m4 (fun e => nmid.2 e.symm)
   simpa using this
  ·have e : NN (l ++ [v]) = NN l ++ [nmV v] := by simp [NN]
   rw [e]
   exact a2.keeps k5 fun i hi e => a2.noCell l4 (e ▸ hi)
  ·rcases a4 i hi with e | e
   ·exact .inl e
   ·have := g02.1; have := k3.1; exact .inr (by omega)
  ·refine Keeps.trans (Keeps.trans (Keeps.trans (g02.any (M := ComeT mid li lv)) k3 fun i hi e => ?_) a3 fun i hi e => ?_) k5 fun i hi e => ?_
   ·exact .inl e
   ·exact .inr (.inr e)
   ·exact .inr (.inl e)
theorem nextn_ok (d : Nat) (σ : Store) (hv : AVal) (H : Hp) (hw : WF H) (v : Nm) (h : HeapV σ hv H) : Called CU.cfg d 51 [hv, nmV v] σ fun r σ' => Grows σ σ' ∧ Own σ' 2 r (NN (stepN H v)) ∧ Fresh σ.length r := by
 refine called_of (fn := CU.a51) rfl (Nat.le_of_ble_eq_true rfl) ?_
 simp only [CU.a51]
 simp -dsimp only [↓WPd, ↓wpC_block, ↓wpC_cond, WPu, Bool.false_eq_true, Bool.true_eq_false, Bool.not_true, Bool.not_false, if_true, if_false, ite_true, ite_false, Nat.reduceEqDiff, Nat.reduceLT, true_and, List.map_cons, List.map_nil, Nat.zero_add, Nat.reduceBEq, WPm, nm_cells, nm_one]
 have ho : (σ ++ [AObj.cells (nmC v)])[σ.length]? = some (.cells (nmC v)) := by simp
 have g0 : Grows σ (σ ++ [AObj.cells (nmC v)]) := Grows.app _ _
 have h1 := h.grow g0
 generalize σ ++ [AObj.cells (nmC v)] = σ1 at ho g0 h1
 have hsh := hw.lk_short v
 simp -dsimp only [↓WPd, ↓wpC_block, ↓wpC_cond, WPu, Bool.false_eq_true, Bool.true_eq_false, Bool.not_true, Bool.not_false, if_true, if_false, ite_true, ite_false, Nat.reduceEqDiff, Nat.reduceLT, true_and, List.map_cons, List.map_nil, Nat.zero_add, Nat.reduceBEq, WPm, load_nm ho]
 refine calledW_of (hvalue_ok d σ1 hv H v h1 (by omega)) ?_
 rintro r σ2 ⟨u, rfl, ou, -, -, g2⟩
 have e1 : fillL 1 false (List.replicate 1 (zel [AVal.nilslice] false)) [(0, u)] = some [u] := by
  have hu := ou.one
  have hc : u.cells = [u] := by cases u <;> simp_all [AVal.one]
  have h1 : [u].all AVal.one = true := by simp only [List.all_cons, List.all_nil, hu]; rfl
  have h2 : isAggV u = false := by cases u <;> first | (cases hu; done) | rfl
  simp only [fillL, hc, h1, h2]
  rfl
 simp -dsimp only [↓WPd, ↓wpC_block, ↓wpC_cond, WPu, Bool.false_eq_true, Bool.true_eq_false, Bool.not_true, Bool.not_false, if_true, if_false, ite_true, ite_false, Nat.reduceEqDiff, Nat.reduceLT, true_and, List.map_cons, List.map_nil, Nat.zero_add, Nat.reduceBEq, WPm, List.getElem?_cons_zero, List.getElem?_cons_succ, e1]
 refine calledW_of (vars_ok d σ2 _ [(lk H v).getD []] (by simp; omega) (by simp) (Terms.lit _ ou.sl)) ?_
 rintro r σ3 ⟨g3, or, fr⟩
 have hfl : [(lk H v).getD []].flatten = (lk H v).getD [] := by simp
 rw [hfl] at or
 simp -dsimp only [↓WPd, ↓wpC_block, ↓wpC_cond, WPu, Bool.false_eq_true, Bool.true_eq_false, Bool.not_true, Bool.not_false, if_true, if_false, ite_true, ite_false, Nat.reduceEqDiff, Nat.reduceLT, true_and, List.map_cons, List.map_nil, Nat.zero_add, Nat.reduceBEq]
 exact ⟨(g0.trans g2).trans g3, or, fr.le (g0.trans g2).1⟩
theorem names_load {σ : Store} {l : AVal} {ws : List Nm} (hl : SlOf σ 2 l (NN ws)) {i : Nat} (hi : i < ws.length) : iaddrV 2 l (.int .i64 i) = some (addrOf 2 l i) ∧ loadV σ 2 true (addrOf 2 l i) = some (nmV ws[i]) := names_at hl hi
theorem adds_len (l ws : List Nm) : (adds l ws).length ≤ l.length + ws.length := by
 induction ws generalizing l with
 | nil => simp [adds]
 | cons v ws ih =>
  have := ih (addN l v)
  have h2 := addN_len l v
  simp only [adds, List.foldl_cons, List.length_cons] at this ⊢
  omega
theorem set_here {σ : Store} {i : Nat} {o : AObj} (h : σ[i]? = some o) : σ.set i o = σ := by
 apply List.ext_getElem?
 intro j
 rw [List.getElem?_set]
 split
 ·rename_i e
  subst e
  rw [h, if_pos (List.getElem?_eq_some_iff.1 h).1]
 ·rfl
set_option maxHeartbeats 4000000 in
theorem walk_ok (d : Nat) (σ : Store) (hv : AVal) (H : Hp) (hw : WF H) (hH : H.length < 2 ^ 28) (rsv : AVal) (rs : List Nm) (h : HeapV σ hv H) (hr : SlOf σ 2 rsv (NN rs)) (hrs : rs.length < 2 ^ 38) :
  Called CU.cfg d 30 [hv, rsv] σ fun r σ' => Grows σ σ' ∧ ∃ (lv : AVal) (mid : Nat) (l bs : List Nm), r = .tuple [lv, .map mid] ∧ Own σ' 2 lv (NN l) ∧ Fresh σ.length lv ∧ l.Nodup ∧ (∀ v, v ∈ l ↔ Rea H rs v) ∧ σ'[mid]? = some (.map (l.map nmV) (bs.map nmV)) ∧ σ.length ≤ mid ∧ (l = [] → lv = .nilslice) ∧ Come H rs l bs := by
 refine called_of (fn := CU.a30) rfl (Nat.le_of_ble_eq_true rfl) ?_
 simp only [CU.a30]
 have hu := univ_len hw rs
 have hu2 : (univ H rs).length < 2 ^ 39 := by omega
 simp -dsimp only [↓WPd, ↓wpC_block, ↓wpC_cond, WPu, Bool.false_eq_true, Bool.true_eq_false, Bool.not_true, Bool.not_false, if_true, if_false, ite_true, ite_false, Nat.reduceEqDiff, Nat.reduceLT, true_and, List.map_cons, List.map_nil, Nat.zero_add, Nat.reduceBEq, WPm]
 have oL : (σ ++ [AObj.cells [.nilslice]] ++ [AObj.cells [.nilmap]] ++ [AObj.map [] []])[σ.length]? = some (.cells [.nilslice]) := by simp
 have oF : (σ ++ [AObj.cells [.nilslice]] ++ [AObj.cells [.nilmap]] ++ [AObj.map [] []])[(σ ++ [AObj.cells [.nilslice]]).length]? = some (.cells [.nilmap]) := by simp
 have oM : (σ ++ [AObj.cells [.nilslice]] ++ [AObj.cells [.nilmap]] ++ [AObj.map [] []])[(σ ++ [AObj.cells [.nilslice]] ++ [AObj.cells [.nilmap]]).length]? = some (.map [] []) := by simp
 have gA : Grows σ (σ ++ [AObj.cells [.nilslice]] ++ [AObj.cells [.nilmap]] ++ [AObj.map [] []]) := ((Grows.app _ _).trans (Grows.app _ _)).trans (Grows.app _ _)
 have lf : σ.length < (σ ++ [AObj.cells [.nilslice]]).length := by simp
 have lm : (σ ++ [AObj.cells [.nilslice]]).length < (σ ++ [AObj.cells [.nilslice]] ++ [AObj.cells [.nilmap]]).length := by simp
 generalize (σ ++ [AObj.cells [.nilslice]] ++ [AObj.cells [.nilmap]]).length = mid at oM lm
 generalize (σ ++ [AObj.cells [.nilslice]]).length = fi at oF lf lm
 generalize σ ++ [AObj.cells [.nilslice]] ++ [AObj.cells [.nilmap]] ++ [AObj.map [] []] = σ3 at oL oF oM gA
 have st := store_cells oF (off := 0) (v := .map mid) (by simp) rfl
 have k4 : Keeps (fun i => i = fi) σ3 (σ3.set fi (.cells ([.nilmap].set 0 (.map mid)))) := Keeps.set _ _ _
 have f4 : (σ3.set fi (.cells ([.nilmap].set 0 (.map mid))))[fi]? = some (.cells [.map mid]) := get_set oF
 generalize σ3.set fi (.cells ([.nilmap].set 0 (.map mid))) = σ4 at st k4 f4
 generalize hli : σ.length = li at oL lf
 have l4 := k4.get oL (by omega)
 have m4 := k4.get oM (by omega)
 have g4 : Grows σ σ4 := Keeps.trans gA k4 fun i hi e => by omega
 have W4 : WayS σ4 fi li mid .nilslice [] [] := ⟨f4, l4, m4, rfl, Own.nil _ _, fun _ => rfl⟩
 have lr := (hr.grow g4).len
 rw [List.length_map] at lr
 simp -dsimp only [↓WPd, ↓wpC_block, ↓wpC_cond, WPu, Bool.false_eq_true, Bool.true_eq_false, Bool.not_true, Bool.not_false, if_true, if_false, ite_true, ite_false, Nat.reduceEqDiff, Nat.reduceLT, true_and, List.map_cons, List.map_nil, Nat.zero_add, Nat.reduceBEq, WPm, st, lr]
 refine loop_rule2 (fun m xs σ' => ∃ (k : Nat) (lv : AVal) (bs : List Nm), k ≤ rs.length ∧ m = rs.length - k ∧ xs = [hv, .ptr li 0, .ptr fi 0, .func 56 [] [.ptr fi 0, .ptr li 0], rsv, .int .i64 rs.length, .int .i64 (k : Nat)] ∧ Grows σ σ' ∧ WayS σ' fi li mid lv (adds [] (rs.take k)) bs ∧ Fresh li lv ∧ Come H rs (adds [] (rs.take k)) bs)
  [0, 4, 5, 6] (fun e xs σ' => e = .exit 0 ∧ xs = [hv, .ptr li 0, .ptr fi 0, .func 56 [] [.ptr fi 0, .ptr li 0]] ∧ Grows σ σ' ∧ ∃ lv bs, WayS σ' fi li mid lv (adds [] rs) bs ∧ Fresh li lv ∧ Come H rs (adds [] rs) bs) rs.length
  ⟨0, .nilslice, [], Nat.zero_le _, rfl, ?_, g4, W4, Fresh.nil _, Come.nil H rs⟩ ?_ ?_
 ·simp -dsimp only [↓WPd, ↓wpC_block, ↓wpC_cond, WPu, Bool.false_eq_true, Bool.true_eq_false, Bool.not_true, Bool.not_false, if_true, if_false, ite_true, ite_false, Nat.reduceEqDiff, Nat.reduceLT, true_and, List.map_cons, List.map_nil, Nat.zero_add, Nat.reduceBEq]; rfl
 ·rintro m xs σ' ⟨k, lv, bs, hk, rfl, rfl, g, W, fl, cm⟩
  simp -dsimp only [↓WPd, ↓wpC_block, ↓wpC_cond, WPu, Bool.false_eq_true, Bool.true_eq_false, Bool.not_true, Bool.not_false, if_true, if_false, ite_true, ite_false, Nat.reduceEqDiff, Nat.reduceLT, true_and, List.map_cons, List.map_nil, Nat.zero_add, Nat.reduceBEq]
  refine condP_dec (fun hc => ?_) (fun hc => ?_)
  ·have hk' : k < rs.length := by omega
   obtain ⟨n1, n2⟩ := names_load (hr.grow g) hk'
   have oj : (σ' ++ [AObj.cells (nmC rs[k])])[σ'.length]? = some (.cells (nmC rs[k])) := by simp
   have g1 : Grows σ' (σ' ++ [AObj.cells (nmC rs[k])]) := Grows.app _ _
   simp -dsimp only [↓WPd, ↓wpC_block, ↓wpC_cond, WPu, Bool.false_eq_true, Bool.true_eq_false, Bool.not_true, Bool.not_false, if_true, if_false, ite_true, ite_false, Nat.reduceEqDiff, Nat.reduceLT, true_and, List.map_cons, List.map_nil, Nat.zero_add, Nat.reduceBEq, WPm, n1, n2, nm_putB]
   generalize σ' ++ [AObj.cells (nmC rs[k])] = σ5 at oj g1
   have hal := adds_len [] (rs.take k)
   have htl : (rs.take k).length ≤ rs.length := by simp; omega
   simp only [List.length_nil] at hal
   simp -dsimp only [↓WPd, ↓wpC_block, ↓wpC_cond, WPu, Bool.false_eq_true, Bool.true_eq_false, Bool.not_true, Bool.not_false, if_true, if_false, ite_true, ite_false, Nat.reduceEqDiff, Nat.reduceLT, true_and, List.map_cons, List.map_nil, Nat.zero_add, Nat.reduceBEq, WPm, load_nm oj]
   refine calledW_of (come_ok d σ5 fi li mid lv _ bs rs[k] rs[k] (W.grow g1) (by omega)) ?_
   rintro r σ6 ⟨⟨lv', W6, hs6⟩, k6⟩
   have ht : rs.take (k + 1) = rs.take k ++ [rs[k]] := List.take_succ_eq_append_getElem hk'
   simp -dsimp only [↓WPd, ↓wpC_block, ↓wpC_cond, WPu, Bool.false_eq_true, Bool.true_eq_false, Bool.not_true, Bool.not_false, if_true, if_false, ite_true, ite_false, Nat.reduceEqDiff, Nat.reduceLT, true_and, List.map_cons, List.map_nil, Nat.zero_add, Nat.reduceBEq, WPm]
   refine ⟨rs.length - (k + 1), by omega, k + 1, lv', _, by omega, rfl, by rw [wrap_i64 (by omega) (by omega), Int.natCast_add, Int.natCast_one], Keeps.trans (g.trans g1) k6 fun i hi e => ?_, by rw [ht, adds_snoc]; exact W6, fun i hi => ?_, by rw [ht, adds_snoc]; exact cm.add (.inl ⟨List.getElem_mem hk', rfl⟩)⟩
   ·rcases e with e | e | e
    ·omega
    ·omega
    ·have := fl i e; omega
   ·rcases hs6 i hi with e | e
    ·exact fl i e
    ·have := (g.trans g1).1; omega
  ·have : k = rs.length := by omega
   subst this
   rw [List.take_length] at W cm
   simp -dsimp only [↓WPd, ↓wpC_block, ↓wpC_cond, WPu, Bool.false_eq_true, Bool.true_eq_false, Bool.not_true, Bool.not_false, if_true, if_false, ite_true, ite_false, Nat.reduceEqDiff, Nat.reduceLT, true_and, List.map_cons, List.map_nil, Nat.zero_add, Nat.reduceBEq]
   exact ⟨g, lv, bs, W, fl, cm⟩
 ·rintro e σ5 env ⟨rfl, hv', g5, lv, bs, W5, fl5, cm5⟩
  simp only [List.map_cons, List.map_nil, List.cons.injEq, and_true] at hv'
  obtain ⟨v0, v4, v5, v6⟩ := hv'
  simp -dsimp only [↓WPd, ↓wpC_block, ↓wpC_cond, WPu, Bool.false_eq_true, Bool.true_eq_false, Bool.not_true, Bool.not_false, if_true, if_false, ite_true, ite_false, Nat.reduceEqDiff, Nat.reduceLT, true_and, List.map_cons, List.map_nil, Nat.zero_add, Nat.reduceBEq, WPm, v0, v4, v5, v6]
  refine loop_rule2 (fun m xs σ' => ∃ (i : Nat) (lv : AVal) (l bs : List Nm), i ≤ l.length ∧ m = (univ H rs).length - i ∧ xs = [hv, .ptr li 0, .ptr fi 0, .func 56 [] [.ptr fi 0, .ptr li 0], .int .i64 (i : Nat)] ∧ Grows σ σ' ∧ WayS σ' fi li mid lv l bs ∧ Fresh li lv ∧ Way H rs l i ∧ Come H rs l bs)
   [4, 5] (fun e xs σ' => e = .exit 2 ∧ xs = [.ptr li 0, .ptr fi 0] ∧ Grows σ σ' ∧ ∃ (lv : AVal) (l bs : List Nm), WayS σ' fi li mid lv l bs ∧ Fresh li lv ∧ Way H rs l l.length ∧ Come H rs l bs) (univ H rs).length
   ⟨0, lv, adds [] rs, bs, Nat.zero_le _, rfl, ?_, g5, W5, fl5, Way.start H rs, cm5⟩ ?_ ?_
  ·simp -dsimp only [↓WPd, ↓wpC_block, ↓wpC_cond, WPu, Bool.false_eq_true, Bool.true_eq_false, Bool.not_true, Bool.not_false, if_true, if_false, ite_true, ite_false, Nat.reduceEqDiff, Nat.reduceLT, true_and, List.map_cons, List.map_nil, Nat.zero_add, Nat.reduceBEq, v0, v4, v5, v6]; rfl
  ·rintro m xs σ' ⟨i, lv, l, bs, hi, rfl, rfl, g, W, fl, wy, cm⟩
   have e1 : ([lv] : List AVal)[0]? = some lv := rfl
   have ll := W.own.sl.len
   rw [List.length_map] at ll
   have hlu := wy.len
   simp -dsimp only [↓WPd, ↓wpC_block, ↓wpC_cond, WPu, Bool.false_eq_true, Bool.true_eq_false, Bool.not_true, Bool.not_false, if_true, if_false, ite_true, ite_false, Nat.reduceEqDiff, Nat.reduceLT, true_and, List.map_cons, List.map_nil, Nat.zero_add, Nat.reduceBEq, WPm, load_cells W.lc, e1, ll]
   refine condP_dec (fun hc => ?_) (fun hc => ?_)
   ·have hi' : i < l.length := by omega
    obtain ⟨n1, n2⟩ := names_load W.own.sl hi'
    simp -dsimp only [↓WPd, ↓wpC_block, ↓wpC_cond, WPu, Bool.false_eq_true, Bool.true_eq_false, Bool.not_true, Bool.not_false, if_true, if_false, ite_true, ite_false, Nat.reduceEqDiff, Nat.reduceLT, true_and, List.map_cons, List.map_nil, Nat.zero_add, Nat.reduceBEq, WPm, load_cells W.lc, e1, n1, n2]
    refine calledW_of (nextn_ok d σ' hv H hw l[i] (h.grow g)) ?_
    rintro r σ6 ⟨g6, or, fr⟩
    have sl := stepN_len hw l[i]
    have lr6 := or.sl.len
    rw [List.length_map] at lr6
    have hg6 := g6.1
    have W6 := W.grow g6
    have fl6 : ∀ j, lv.sid = some j → r.sid ≠ some j := fun j hj e => by have := W.own.sl.lt hj; have := fr j e; omega
    have hrs6 : ∀ j, r.sid = some j → j < σ6.length := fun j hj => or.sl.lt hj
    obtain ⟨w0, hw0⟩ : ∃ w0, w0 = l[i] := ⟨_, rfl⟩
    rw [← hw0] at or sl lr6
    simp -dsimp only [↓WPd, ↓wpC_block, ↓wpC_cond, WPu, Bool.false_eq_true, Bool.true_eq_false, Bool.not_true, Bool.not_false, if_true, if_false, ite_true, ite_false, Nat.reduceEqDiff, Nat.reduceLT, true_and, List.map_cons, List.map_nil, Nat.zero_add, Nat.reduceBEq, WPm, lr6]
    refine loop_rule2 (fun m xs σ' => ∃ (k : Nat) (lv2 : AVal) (l2 bs2 : List Nm), k ≤ (stepN H w0).length ∧ m = (stepN H w0).length - k ∧ xs = [hv, .ptr li 0, .ptr fi 0, .func 56 [] [.ptr fi 0, .ptr li 0], .int .i64 (i : Nat), r, .int .i64 (stepN H w0).length, .int .i64 (k : Nat)] ∧ Grows σ σ' ∧ σ6.length ≤ σ'.length ∧ l2 = adds l ((stepN H w0).take k) ∧ WayS σ' fi li mid lv2 l2 bs2 ∧ Fresh li lv2 ∧ Own σ' 2 r (NN (stepN H w0)) ∧ (∀ j, lv2.sid = some j → r.sid ≠ some j) ∧ Come H rs l2 bs2)
     [0, 4, 5, 6, 9] (fun e xs σ' => e = .exit 4 ∧ xs = [hv, .ptr li 0, .ptr fi 0, .func 56 [] [.ptr fi 0, .ptr li 0], .int .i64 (i : Nat)] ∧ Grows σ σ' ∧ ∃ (lv2 : AVal) (bs2 : List Nm), WayS σ' fi li mid lv2 (adds l (stepN H w0)) bs2 ∧ Fresh li lv2 ∧ Come H rs (adds l (stepN H w0)) bs2) (stepN H w0).length
     ⟨0, lv, l, bs, Nat.zero_le _, rfl, ?_, g.trans g6, Nat.le_refl _, by simp [adds], W6, fl, or, fl6, cm⟩ ?_ ?_
    ·simp -dsimp only [↓WPd, ↓wpC_block, ↓wpC_cond, WPu, Bool.false_eq_true, Bool.true_eq_false, Bool.not_true, Bool.not_false, if_true, if_false, ite_true, ite_false, Nat.reduceEqDiff, Nat.reduceLT, true_and, List.map_cons, List.map_nil, Nat.zero_add, Nat.reduceBEq]; rfl
    ·rintro m xs σ7 ⟨k, lv2, l2, bs2, hk, rfl, rfl, g7, hl7, hl2, W7, f7, o7, d7, cm7⟩
     simp -dsimp only [↓WPd, ↓wpC_block, ↓wpC_cond, WPu, Bool.false_eq_true, Bool.true_eq_false, Bool.not_true, Bool.not_false, if_true, if_false, ite_true, ite_false, Nat.reduceEqDiff, Nat.reduceLT, true_and, List.map_cons, List.map_nil, Nat.zero_add, Nat.reduceBEq]
     refine condP_dec (fun hc => ?_) (fun hc => ?_)
     ·have hk' : k < (stepN H w0).length := by omega
      obtain ⟨m1, m2⟩ := names_load o7.sl hk'
      have oj : (σ7 ++ [AObj.cells (nmC (stepN H w0)[k])])[σ7.length]? = some (.cells (nmC (stepN H w0)[k])) := by simp
      have g8 : Grows σ7 (σ7 ++ [AObj.cells (nmC (stepN H w0)[k])]) := Grows.app _ _
      simp -dsimp only [↓WPd, ↓wpC_block, ↓wpC_cond, WPu, Bool.false_eq_true, Bool.true_eq_false, Bool.not_true, Bool.not_false, if_true, if_false, ite_true, ite_false, Nat.reduceEqDiff, Nat.reduceLT, true_and, List.map_cons, List.map_nil, Nat.zero_add, Nat.reduceBEq, WPm, m1, m2, nm_putB]
      generalize σ7 ++ [AObj.cells (nmC (stepN H w0)[k])] = σ8 at oj g8
      have W8 := W7.grow g8
      have e2 : ([lv2] : List AVal)[0]? = some lv2 := rfl
      obtain ⟨x, hx⟩ := adds_pre ((stepN H w0).take k) l
      have hl2i : i < l2.length := by rw [hl2, hx, List.length_append]; omega
      obtain ⟨p1, p2⟩ := names_load W8.own.sl hl2i
      have hl2l : l2.length ≤ l.length + 256 := by
       have := adds_len l ((stepN H w0).take k)
       rw [hl2]
       have : ((stepN H w0).take k).length ≤ 256 := by simp; omega
       omega
      simp -dsimp only [↓WPd, ↓wpC_block, ↓wpC_cond, WPu, Bool.false_eq_true, Bool.true_eq_false, Bool.not_true, Bool.not_false, if_true, if_false, ite_true, ite_false, Nat.reduceEqDiff, Nat.reduceLT, true_and, List.map_cons, List.map_nil, Nat.zero_add, Nat.reduceBEq, WPm, load_nm oj, load_cells W8.lc, e2, p1, p2]
      refine calledW_of (come_ok d σ8 fi li mid lv2 l2 bs2 _ _ W8 (by omega)) ?_
      rintro r9 σ9 ⟨⟨lv3, W9, hs9⟩, k9⟩
      have ht : (stepN H w0).take (k + 1) = (stepN H w0).take k ++ [(stepN H w0)[k]] := List.take_succ_eq_append_getElem hk'
      have o8 := o7.grow g8
      have hk9 := k9.1
      have hg8 := g8.1
      have hg7 := g7.1
      simp -dsimp only [↓WPd, ↓wpC_block, ↓wpC_cond, WPu, Bool.false_eq_true, Bool.true_eq_false, Bool.not_true, Bool.not_false, if_true, if_false, ite_true, ite_false, Nat.reduceEqDiff, Nat.reduceLT, true_and, List.map_cons, List.map_nil, Nat.zero_add, Nat.reduceBEq, WPm]
      refine ⟨(stepN H w0).length - (k + 1), by omega, k + 1, lv3, addN l2 (stepN H w0)[k], _, by omega, rfl, by rw [wrap_i64 (by omega) (by omega), Int.natCast_add, Int.natCast_one], Keeps.trans (g7.trans g8) k9 fun j hj e => ?_, by omega, by rw [ht, adds_snoc, hl2], W9, fun j hj => ?_, o8.keeps k9 fun j hj e => ?_, fun j hj e => ?_, cm7.add (.inr ⟨i, hl2i, rfl, ?_⟩)⟩
      ·rcases e with e | e | e
       ·omega
       ·omega
       ·have := f7 j e; omega
      ·rcases hs9 j hj with e | e
       ·exact f7 j e
       ·omega
      ·rcases e with e | e | e
       ·exact o8.noMap W8.mc (e ▸ hj)
       ·exact o8.noCell W8.lc (e ▸ hj)
       ·exact d7 j e hj
      ·rcases hs9 j hj with e' | e'
       ·exact d7 j e' e
       ·have := hrs6 j e; omega
      ·have e : l2[i] = w0 := by
        have key : ∀ (y : List Nm) (hy : y = l ++ x) (h : i < y.length), y[i] = l[i] := by
         intro y hy h; subst hy; exact List.getElem_append_left hi'
        rw [hw0]; exact key l2 (by rw [hl2, hx]) hl2i
       rw [e]; exact List.getElem_mem hk'
     ·have : k = (stepN H w0).length := by omega
      subst this
      rw [List.take_length] at hl2
      subst hl2
      simp -dsimp only [↓WPd, ↓wpC_block, ↓wpC_cond, WPu, Bool.false_eq_true, Bool.true_eq_false, Bool.not_true, Bool.not_false, if_true, if_false, ite_true, ite_false, Nat.reduceEqDiff, Nat.reduceLT, true_and, List.map_cons, List.map_nil, Nat.zero_add, Nat.reduceBEq]
      exact ⟨g7, lv2, bs2, W7, f7, cm7⟩
    ·rintro e σ7 env ⟨rfl, hv', g7, lv2, bs2, W7, f7, cm7⟩
     simp only [List.map_cons, List.map_nil, List.cons.injEq, and_true] at hv'
     obtain ⟨v0, v4, v5, v6, v9⟩ := hv'
     have wn := wy.next hi'
     rw [← hw0] at wn
     have hil : i + 1 ≤ (adds l (stepN H w0)).length := by
      obtain ⟨x, hx⟩ := adds_pre (stepN H w0) l
      rw [hx, List.length_append]; omega
     have hnu := wn.len
     simp -dsimp only [↓WPd, ↓wpC_block, ↓wpC_cond, WPu, Bool.false_eq_true, Bool.true_eq_false, Bool.not_true, Bool.not_false, if_true, if_false, ite_true, ite_false, Nat.reduceEqDiff, Nat.reduceLT, true_and, List.map_cons, List.map_nil, Nat.zero_add, Nat.reduceBEq, WPm, v0, v4, v5, v6, v9]
     refine ⟨(univ H rs).length - (i + 1), by omega, i + 1, lv2, _, bs2, hil, rfl, by rw [wrap_i64 (by omega) (by omega), Int.natCast_add, Int.natCast_one], g7, W7, f7, wn, cm7⟩
   ·have : i = l.length := by omega
    subst this
    simp -dsimp only [↓WPd, ↓wpC_block, ↓wpC_cond, WPu, Bool.false_eq_true, Bool.true_eq_false, Bool.not_true, Bool.not_false, if_true, if_false, ite_true, ite_false, Nat.reduceEqDiff, Nat.reduceLT, true_and, List.map_cons, List.map_nil, Nat.zero_add, Nat.reduceBEq]
    exact ⟨g, lv, l, bs, W, fl, wy, cm⟩
  ·rintro e σ6 env ⟨rfl, hv', g6, lv, l, bs, W, fl, wy, cm⟩
   simp only [List.map_cons, List.map_nil, List.cons.injEq, and_true] at hv'
   obtain ⟨v4, v5⟩ := hv'
   have e1 : ([lv] : List AVal)[0]? = some lv := rfl
   have e2 : ([AVal.map mid] : List AVal)[0]? = some (.map mid) := rfl
   simp -dsimp only [↓WPd, ↓wpC_block, ↓wpC_cond, WPu, Bool.false_eq_true, Bool.true_eq_false, Bool.not_true, Bool.not_false, if_true, if_false, ite_true, ite_false, Nat.reduceEqDiff, Nat.reduceLT, true_and, List.map_cons, List.map_nil, Nat.zero_add, Nat.reduceBEq, WPm, v4, v5]
   refine drawnP_of rfl ?_
   have s1 : storeV σ6 1 (.ptr li 0) lv = some σ6 := by
    rw [store_cells W.lc (off := 0) (by simp) W.own.one]
    exact congrArg some (set_here W.lc)
   have s2 : storeV σ6 1 (.ptr fi 0) (.map mid) = some σ6 := by
    rw [store_cells W.fc (off := 0) (by simp) rfl]
    exact congrArg some (set_here W.fc)
   simp -dsimp only [↓WPd, ↓wpC_block, ↓wpC_cond, WPu, Bool.false_eq_true, Bool.true_eq_false, Bool.not_true, Bool.not_false, if_true, if_false, ite_true, ite_false, Nat.reduceEqDiff, Nat.reduceLT, true_and, List.map_cons, List.map_nil, Nat.zero_add, Nat.reduceBEq, ↓WPed, WPeu, Nat.reduceAdd, and_self, v4, v5, load_cells W.lc, load_cells W.fc, e1, e2, s1, s2, resultsA, resOf, mapO]
   exact ⟨g6, lv, mid, l, bs, rfl, W.own, fl, wy.nodup, wy.all, W.mc, by omega, W.nilc, cm⟩
theorem Own.shape {σ : Store} {sz : Nat} {v : AVal} {es : List AVal} (h : Own σ sz v es) (hn : NoLit v) (he : es ≠ []) : ∃ id ep fl, v = .slice sz id ep 0 es.length none ∧ σ[id]? = some (.arr sz es ep fl) := by
 rcases h.own with ⟨_, e⟩ | ⟨t, rfl⟩ | ⟨id, ep, off, cap, xs, epo, fl, rfl, ho, hf, he', hl, hc⟩
 ·exact (he e).elim
 ·exact (he hn).elim
 ·rcases hc with ⟨rfl, rfl, rfl, rfl⟩ | rfl
  ·exact ⟨id, _, fl, rfl, ho⟩
  ·exact hn.elim
theorem nclone_ok (d : Nat) (σ : Store) (b : AVal) (t : List Nm) (hs : t.length < 2 ^ 40) (hb : SlOf σ 2 b (NN t)) (hnil : t = [] → b = .nilslice) : Called CU.cfg d 57 [b] σ fun v σ' => Grows σ σ' ∧ Own σ' 2 v (NN t) ∧ Fresh σ.length v ∧ NoLit v ∧ (t = [] → v = .nilslice) := by
 refine called_of (fn := CU.a57) rfl (Nat.le_of_ble_eq_true rfl) ?_
 obtain ⟨x, hx, hx'⟩ := hb.isnil
 simp only [CU.a57]
 simp -dsimp only [↓WPd, ↓wpC_block, ↓wpC_cond, WPu, Bool.false_eq_true, Bool.true_eq_false, Bool.not_true, Bool.not_false, if_true, if_false, ite_true, ite_false, Nat.reduceEqDiff, Nat.reduceLT, true_and, List.map_cons, List.map_nil, Nat.zero_add, Nat.reduceBEq, hx, Bool.false_eq_true]
 refine condP_intro (fun h => ?_) (fun h => ?_)
 ·obtain ⟨rfl, he⟩ := hx' h
  simp -dsimp only [↓WPd, ↓wpC_block, ↓wpC_cond, WPu, Bool.false_eq_true, Bool.true_eq_false, Bool.not_true, Bool.not_false, if_true, if_false, ite_true, ite_false, Nat.reduceEqDiff, Nat.reduceLT, true_and, List.map_cons, List.map_nil, Nat.zero_add, Nat.reduceBEq]
  exact ⟨Keeps.refl _ _, by rw [he]; exact Own.nil _ _, (fun id h => by cases h), trivial, fun _ => trivial⟩
 ·have hne : t ≠ [] := fun e => by
   rw [hnil e] at hx
   cases hx
   cases h
  simp -dsimp only [↓WPd, ↓wpC_block, ↓wpC_cond, WPu, Bool.false_eq_true, Bool.true_eq_false, Bool.not_true, Bool.not_false, if_true, if_false, ite_true, ite_false, Nat.reduceEqDiff, Nat.reduceLT, true_and, List.map_cons, List.map_nil, Nat.zero_add, Nat.reduceBEq, hb.els]
  refine stepP_of [] rfl ?_
  have ho : Own σ 2 (.fslice (AVal.tagL []) true 2 []) [] := ⟨.inr (.inl ⟨_, rfl⟩)⟩
  obtain ⟨v', σ', h1, h2, h3, h4, h5⟩ := ho.append (NN t) 16 (by rw [List.length_map]; simp; omega)
  simp -dsimp only [↓WPd, ↓wpC_block, ↓wpC_cond, WPu, Bool.false_eq_true, Bool.true_eq_false, Bool.not_true, Bool.not_false, if_true, if_false, ite_true, ite_false, Nat.reduceEqDiff, Nat.reduceLT, true_and, List.map_cons, List.map_nil, Nat.zero_add, Nat.reduceBEq, hb.els, h1]
  refine ⟨h3.mono (fun i _ h => by cases h), by simpa using h2, fun id hid => ?_, h5 (.inl rfl), fun e => (hne e).elim⟩
  rcases h4 id hid with h | h
  ·cases h
  ·omega
theorem sortf_ok (d : Nat) (σ : Store) (v : AVal) (l : List Nm) (h : Own σ 2 v (NN l)) (hn : NoLit v) (hnil : l = [] → v = .nilslice) (hl : l.length < 2 ^ 40) : Called CU.cfg d 58 [v, .func 59 [] []] σ fun r σ' => Own σ' 2 v (NN (sortN l)) ∧ Keeps (fun i => v.sid = some i) σ σ' := by
 cases l with
 | nil =>
  rw [hnil rfl]
  refine called_nat (g := natSO 59) rfl rfl ⟨Own.nil _ _, Keeps.refl _ _⟩
 | cons x r =>
  obtain ⟨id, ep, fl, rfl, ho⟩ := h.shape hn (by simp)
  have he : natSO 59 [.slice 2 id ep 0 (NN (x :: r)).length none, .func 59 [] []] σ = some (.tuple [], σ.set id (.arr 2 ((sortN (x :: r)).map nmV) ep ep)) := by
   have hp : 0 < (NN (x :: r)).length ∧ (NN (x :: r)).length ≤ 8796093022208 := by rw [List.length_map]; simp only [List.length_cons] at hl ⊢; omega
   simp only [natSO, if_true, ho, hp, and_self, nmsOf_map]
  refine called_nat (g := natSO 59) rfl he ⟨?_, Keeps.set _ _ _ |>.mono fun i _ e => by rw [e]; rfl⟩
  have hlen : (NN (sortN (x :: r))).length = (NN (x :: r)).length := by rw [List.length_map, List.length_map, sortN_len]
  have hw := Own.whole (σ := σ.set id (.arr 2 (NN (sortN (x :: r))) ep ep)) (sz := 2) (id := id) (ep := ep) (fl := ep) (es := NN (sortN (x :: r))) (get_set ho) (Nat.le_refl _)
  rw [hlen] at hw
  exact hw
theorem names_eqs {σ : Store} {l : AVal} {ws : List Nm} (hl : SlOf σ 2 l (NN ws)) {i : Nat} (hi : i < ws.length) : iaddrV 2 l (.int .i64 i) = some (addrOf 2 l i) ∧ loadV σ 2 true (addrOf 2 l i) = some (nmV ws[i]) := names_at hl hi
theorem compact_ok (d : Nat) (σ : Store) (v : AVal) (l : List Nm) (h : SlOf σ 2 v (NN l)) (hd : l.Nodup) (hl : l.length < 2 ^ 40) : Called CU.cfg d 60 [v] σ fun r σ' => r = v ∧ σ' = σ := by
 refine called_of (fn := CU.a60) rfl (Nat.le_of_ble_eq_true rfl) ?_
 simp only [CU.a60]
 have ll := h.len
 rw [List.length_map] at ll
 simp -dsimp only [↓WPd, ↓wpC_block, ↓wpC_cond, WPu, Bool.false_eq_true, Bool.true_eq_false, Bool.not_true, Bool.not_false, if_true, if_false, ite_true, ite_false, Nat.reduceEqDiff, Nat.reduceLT, true_and, List.map_cons, List.map_nil, Nat.zero_add, Nat.reduceBEq, ll]
 refine condP_dec (fun hc => ?_) (fun hc => ?_)
 ·simp -dsimp only [↓WPd, ↓wpC_block, ↓wpC_cond, WPu, Bool.false_eq_true, Bool.true_eq_false, Bool.not_true, Bool.not_false, if_true, if_false, ite_true, ite_false, Nat.reduceEqDiff, Nat.reduceLT, true_and, List.map_cons, List.map_nil, Nat.zero_add, Nat.reduceBEq]
 ·simp -dsimp only [↓WPd, ↓wpC_block, ↓wpC_cond, WPu, Bool.false_eq_true, Bool.true_eq_false, Bool.not_true, Bool.not_false, if_true, if_false, ite_true, ite_false, Nat.reduceEqDiff, Nat.reduceLT, true_and, List.map_cons, List.map_nil, Nat.zero_add, Nat.reduceBEq]
  refine loop_rule2 (fun m vs σ' => ∃ k : Nat, 1 ≤ k ∧ k ≤ l.length ∧ m = l.length - k ∧ vs = [v, .int .i64 (k : Nat)] ∧ σ' = σ) [0] (fun e vs σ' => e = .exit 0 ∧ vs = [v] ∧ σ' = σ) (l.length - 1) ⟨1, Nat.le_refl _, by omega, rfl, ?_, rfl⟩ ?_ ?_
  ·simp -dsimp only [↓WPd, ↓wpC_block, ↓wpC_cond, WPu, Bool.false_eq_true, Bool.true_eq_false, Bool.not_true, Bool.not_false, if_true, if_false, ite_true, ite_false, Nat.reduceEqDiff, Nat.reduceLT, true_and, List.map_cons, List.map_nil, Nat.zero_add, Nat.reduceBEq]; rfl
  ·rintro m vs σ' ⟨k, hk1, hk, rfl, rfl, rfl⟩
   simp -dsimp only [↓WPd, ↓wpC_block, ↓wpC_cond, WPu, Bool.false_eq_true, Bool.true_eq_false, Bool.not_true, Bool.not_false, if_true, if_false, ite_true, ite_false, Nat.reduceEqDiff, Nat.reduceLT, true_and, List.map_cons, List.map_nil, Nat.zero_add, Nat.reduceBEq, ll]
   refine condP_dec (fun hc => ?_) (fun hc => ?_)
   ·have hk' : k < l.length := by omega
    have e1 : IntKind.i64.wrap ((k : Int) - 1) = ((k - 1 : Nat) : Int) := by rw [wrap_i64 (by omega) (by omega)]; omega
    obtain ⟨n1, n2⟩ := names_eqs h hk'
    obtain ⟨m1, m2⟩ := names_eqs h (show k - 1 < l.length by omega)
    have hne : l[k] ≠ l[k - 1] := fun e => List.pairwise_iff_getElem.1 hd (k - 1) k (by omega) hk' (by omega) e.symm
    simp -dsimp only [↓WPd, ↓wpC_block, ↓wpC_cond, WPu, Bool.false_eq_true, Bool.true_eq_false, Bool.not_true, Bool.not_false, if_true, if_false, ite_true, ite_false, Nat.reduceEqDiff, Nat.reduceLT, true_and, List.map_cons, List.map_nil, Nat.zero_add, Nat.reduceBEq, WPm, n1, n2, e1, m1, m2, nm_eqs, decide_eq_false hne]
    refine ⟨l.length - (k + 1), by omega, k + 1, by omega, by omega, rfl, by rw [wrap_i64 (by omega) (by omega), Int.natCast_add, Int.natCast_one], trivial⟩
   ·simp -dsimp only [↓WPd, ↓wpC_block, ↓wpC_cond, WPu, Bool.false_eq_true, Bool.true_eq_false, Bool.not_true, Bool.not_false, if_true, if_false, ite_true, ite_false, Nat.reduceEqDiff, Nat.reduceLT, true_and, List.map_cons, List.map_nil, Nat.zero_add, Nat.reduceBEq]
  ·rintro e σ' env ⟨rfl, hv, rfl⟩
   simp only [List.map_cons, List.map_nil, List.cons.injEq, and_true] at hv
   simp -dsimp only [↓WPd, ↓wpC_block, ↓wpC_cond, WPu, Bool.false_eq_true, Bool.true_eq_false, Bool.not_true, Bool.not_false, if_true, if_false, ite_true, ite_false, Nat.reduceEqDiff, Nat.reduceLT, true_and, List.map_cons, List.map_nil, Nat.zero_add, Nat.reduceBEq, hv]
theorem nsorted_ok (d : Nat) (σ : Store) (lv : AVal) (l : List Nm) (h : SlOf σ 2 lv (NN l)) (hd : l.Nodup) (hnil : l = [] → lv = .nilslice) (hl : l.length < 2 ^ 40) : Called CU.cfg d 35 [lv] σ fun r σ' => Grows σ σ' ∧ Own σ' 2 r (NN (sortN l)) ∧ Fresh σ.length r ∧ NoLit r := by
 refine called_of (fn := CU.a35) rfl (Nat.le_of_ble_eq_true rfl) ?_
 simp only [CU.a35]
 simp -dsimp only [↓WPd, ↓wpC_block, ↓wpC_cond, WPu, Bool.false_eq_true, Bool.true_eq_false, Bool.not_true, Bool.not_false, if_true, if_false, ite_true, ite_false, Nat.reduceEqDiff, Nat.reduceLT, true_and, List.map_cons, List.map_nil, Nat.zero_add, Nat.reduceBEq]
 refine calledW_of (nclone_ok d σ lv l hl h hnil) ?_
 rintro v σ1 ⟨g1, ov, fv, nv, hvn⟩
 simp -dsimp only [↓WPd, ↓wpC_block, ↓wpC_cond, WPu, Bool.false_eq_true, Bool.true_eq_false, Bool.not_true, Bool.not_false, if_true, if_false, ite_true, ite_false, Nat.reduceEqDiff, Nat.reduceLT, true_and, List.map_cons, List.map_nil, Nat.zero_add, Nat.reduceBEq]
 refine calledW_of (sortf_ok d σ1 v l ov nv hvn hl) ?_
 rintro r σ2 ⟨os, k2⟩
 simp -dsimp only [↓WPd, ↓wpC_block, ↓wpC_cond, WPu, Bool.false_eq_true, Bool.true_eq_false, Bool.not_true, Bool.not_false, if_true, if_false, ite_true, ite_false, Nat.reduceEqDiff, Nat.reduceLT, true_and, List.map_cons, List.map_nil, Nat.zero_add, Nat.reduceBEq]
 refine calledW_of (compact_ok d σ2 v (sortN l) os.sl ((sortN_perm l).nodup_iff.2 hd) (by rw [sortN_len]; exact hl)) ?_
 rintro r σ3 ⟨rfl, rfl⟩
 simp -dsimp only [↓WPd, ↓wpC_block, ↓wpC_cond, WPu, Bool.false_eq_true, Bool.true_eq_false, Bool.not_true, Bool.not_false, if_true, if_false, ite_true, ite_false, Nat.reduceEqDiff, Nat.reduceLT, true_and, List.map_cons, List.map_nil, Nat.zero_add, Nat.reduceBEq]
 exact ⟨Keeps.trans g1 k2 fun i hi e => by have := fv i e; omega, os, fv, nv⟩
theorem needed_ok (d : Nat) (σ : Store) (hv : AVal) (H : Hp) (hw : WF H) (hH : H.length < 2 ^ 28) (rsv : AVal) (rs : List Nm) (h : HeapV σ hv H) (hr : SlOf σ 2 rsv (NN rs)) (hrs : rs.length < 2 ^ 38) :
  Called CU.cfg d 12 [hv, rsv] σ fun r σ' => Grows σ σ' ∧ ∃ l, Own σ' 2 r (NN (sortN l)) ∧ (Fresh σ.length r ∧ NoLit r) ∧ l.Nodup ∧ (∀ v, v ∈ l ↔ Rea H rs v) ∧ l.length < 2 ^ 40 := by
 refine called_of (fn := CU.a12) rfl (Nat.le_of_ble_eq_true rfl) ?_
 simp only [CU.a12]
 simp -dsimp only [↓WPd, ↓wpC_block, ↓wpC_cond, WPu, Bool.false_eq_true, Bool.true_eq_false, Bool.not_true, Bool.not_false, if_true, if_false, ite_true, ite_false, Nat.reduceEqDiff, Nat.reduceLT, true_and, List.map_cons, List.map_nil, Nat.zero_add, Nat.reduceBEq]
 refine calledW_of (walk_ok d σ hv H hw hH rsv rs h hr hrs) ?_
 rintro r σ1 ⟨g1, lv, mid, l, bs, rfl, ol, fl, hd, hm, -, -, hnil, -⟩
 have hu := univ_len hw rs
 have hll : l.length ≤ (univ H rs).length := nodup_le hd fun v hv => ((hm v).1 hv).univ
 simp -dsimp only [↓WPd, ↓wpC_block, ↓wpC_cond, WPu, Bool.false_eq_true, Bool.true_eq_false, Bool.not_true, Bool.not_false, if_true, if_false, ite_true, ite_false, Nat.reduceEqDiff, Nat.reduceLT, true_and, List.map_cons, List.map_nil, Nat.zero_add, Nat.reduceBEq, List.getElem?_cons_zero, List.getElem?_cons_succ]
 refine calledW_of (nsorted_ok d σ1 lv l ol.sl hd hnil (by omega)) ?_
 rintro r σ2 ⟨g2, os, fs⟩
 simp -dsimp only [↓WPd, ↓wpC_block, ↓wpC_cond, WPu, Bool.false_eq_true, Bool.true_eq_false, Bool.not_true, Bool.not_false, if_true, if_false, ite_true, ite_false, Nat.reduceEqDiff, Nat.reduceLT, true_and, List.map_cons, List.map_nil, Nat.zero_add, Nat.reduceBEq]
 exact ⟨g1.trans g2, l, os, ⟨fs.1.le g1.1, fs.2⟩, hd, hm, by omega⟩
theorem from_look {σ : Store} {mid : Nat} {l bs : List Nm} (hm : σ[mid]? = some (.map (l.map nmV) (bs.map nmV))) (hl : bs.length = l.length) (v : Nm) :
  ∃ x : Nm, lookupV σ true [.i, .i] (.agg [.int .i64 0, .int .i64 0]) (.map mid) (nmV v) true = some (.tuple [nmV x, .bool (l.contains v)]) ∧
   lookupV σ true [.i, .i] (.agg [.int .i64 0, .int .i64 0]) (.map mid) (nmV v) false = some (nmV x) ∧ (v ∈ l → ∃ (i : Nat) (hi : i < l.length) (hb : i < bs.length), l[i] = v ∧ x = bs[i]) := by
 obtain ⟨o, f1, f2⟩ := find_names v l
 have hk : keyEq true [.i, .i] (nmV v) (nmV v) = some true := by rw [nm_keyEq, decide_eq_true rfl]
 have hf : findKK true [.i, .i] (nmV v) (l.map nmV) = some o := by simp only [findKK, hk, Option.isSome_some, if_true, f1]
 have hmo : mapOf σ (.map mid) = some (l.map nmV, bs.map nmV) := by simp only [mapOf, hm]
 cases o with
 | none =>
  have hc : l.contains v = false := by simpa using f2
  refine ⟨(0, 0), ?_, ?_, fun h => (f2 h).elim⟩
  ·rw [hc]; simp only [lookupV, hmo, hf]; rfl
  ·simp only [lookupV, hmo, hf]; rfl
 | some i =>
  obtain ⟨hi, he⟩ := List.getElem?_eq_some_iff.1 f2
  have hib : i < bs.length := by rw [hl]; exact hi
  have hc : l.contains v = true := by simpa using List.mem_of_getElem? f2
  have e : (bs.map nmV)[i]? = some (nmV bs[i]) := by simp [hib]
  refine ⟨bs[i], ?_, ?_, fun _ => ⟨i, hi, hib, he, rfl⟩⟩
  ·rw [hc]; simp only [lookupV, hmo, hf, e, Option.map_some]; rfl
  ·simp only [lookupV, hmo, hf, e, Option.map_some]; rfl
set_option maxHeartbeats 1000000 in
theorem garbage_ok (d : Nat) (σ : Store) (id mid : Nat) (vs : List AVal) (H R : Hp) (h : HeapP σ id mid vs H) (hs : Same H R) (hH : H.length < 2 ^ 28) (rsv : AVal) (rs : List Nm) (hr : SlOf σ 2 rsv (NN rs)) (hrs : rs.length < 2 ^ 38) :
  Called CU.cfg d 13 [.ptr id 0, rsv] σ fun r σ' => Grows σ σ' ∧ ∃ l, Own σ' 2 r (NN (garb R l)) ∧ (Fresh σ.length r ∧ NoLit r) ∧ l.Nodup ∧ (∀ v, v ∈ l ↔ Rea H rs v) := by
 refine called_of (fn := CU.a13) rfl (Nat.le_of_ble_eq_true rfl) ?_
 simp only [CU.a13]
 have hw := h.wf
 have hHR := hs.len
 simp -dsimp only [↓WPd, ↓wpC_block, ↓wpC_cond, WPu, Bool.false_eq_true, Bool.true_eq_false, Bool.not_true, Bool.not_false, if_true, if_false, ite_true, ite_false, Nat.reduceEqDiff, Nat.reduceLT, true_and, List.map_cons, List.map_nil, Nat.zero_add, Nat.reduceBEq]
 refine calledW_of (walk_ok d σ (.ptr id 0) H hw hH rsv rs h.v hr hrs) ?_
 rintro r σ1 ⟨g1, lv, fm, l, bs, rfl, ol, fl, hd, hm, hfm, -, -, cm⟩
 simp -dsimp only [↓WPd, ↓wpC_block, ↓wpC_cond, WPu, Bool.false_eq_true, Bool.true_eq_false, Bool.not_true, Bool.not_false, if_true, if_false, ite_true, ite_false, Nat.reduceEqDiff, Nat.reduceLT, true_and, List.map_cons, List.map_nil, Nat.zero_add, Nat.reduceBEq, List.getElem?_cons_zero, List.getElem?_cons_succ]
 refine calledW_of (bindings_ok d σ1 id mid vs H R (h.grow g1) hs (by omega) fun p hp => by have := hs.wfr.short hp; omega) ?_
 rintro b σ2 ⟨g2, us, hb⟩
 have hB := hb.bds
 have lb := hB.len
 simp -dsimp only [↓WPd, ↓wpC_block, ↓wpC_cond, WPu, Bool.false_eq_true, Bool.true_eq_false, Bool.not_true, Bool.not_false, if_true, if_false, ite_true, ite_false, Nat.reduceEqDiff, Nat.reduceLT, true_and, List.map_cons, List.map_nil, Nat.zero_add, Nat.reduceBEq, lb]
 refine loop_rule2 (fun m xs σ' => ∃ (k : Nat) (o : AVal), k ≤ R.length ∧ m = R.length - k ∧ xs = [.map fm, o, b, .int .i64 R.length, .int .i64 (k : Nat)] ∧ Grows σ2 σ' ∧ Own σ' 2 o (NN (garb (R.take k) l)) ∧ Fresh σ2.length o ∧ NoLit o)
  [7] (fun e xs σ' => e = .exit 0 ∧ ∃ o, xs = [o] ∧ Grows σ2 σ' ∧ Own σ' 2 o (NN (garb R l)) ∧ Fresh σ2.length o ∧ NoLit o) R.length
  ⟨0, .nilslice, Nat.zero_le _, rfl, ?_, Keeps.refl _ _, by simp [garb]; exact Own.nil _ _, Fresh.nil _, trivial⟩ ?_ ?_
 ·simp -dsimp only [↓WPd, ↓wpC_block, ↓wpC_cond, WPu, Bool.false_eq_true, Bool.true_eq_false, Bool.not_true, Bool.not_false, if_true, if_false, ite_true, ite_false, Nat.reduceEqDiff, Nat.reduceLT, true_and, List.map_cons, List.map_nil, Nat.zero_add, Nat.reduceBEq]; rfl
 ·rintro m xs σ' ⟨k, o, hk, rfl, rfl, g, oo, fo, no⟩
  simp -dsimp only [↓WPd, ↓wpC_block, ↓wpC_cond, WPu, Bool.false_eq_true, Bool.true_eq_false, Bool.not_true, Bool.not_false, if_true, if_false, ite_true, ite_false, Nat.reduceEqDiff, Nat.reduceLT, true_and, List.map_cons, List.map_nil, Nat.zero_add, Nat.reduceBEq]
  refine condP_dec (fun hc => ?_) (fun hc => ?_)
  ·have hk' : k < R.length := by omega
   have hB' := hB.grow g
   obtain ⟨es, E1, E2⟩ := hB'
   have hke : k < es.length := by rw [E2.len]; exact hk'
   obtain ⟨e, he1, u, he2, he3⟩ := E2.get hk'
   have hee : es[k] = e := by rw [List.getElem?_eq_getElem hke] at he1; exact Option.some.inj he1
   have hbh := (E1.addr hke .i64).2
   rw [hee, he2] at hbh
   have hbh' : behind σ' (addrOf 3 b k) = some (bdC (R[k]).1 u, 0) := hbh
   have ia : iaddrV 3 b (.int .i64 k) = some (addrOf 3 b k) := E1.iaddr hke .i64
   have ld : loadV σ' 3 true (addrOf 3 b k) = some (bdV R[k].1 u) := loadN_at hbh' (by simp [bdC])
   have hu1 := bdV_one R[k].1 he3
   have st : storeV (σ' ++ [AObj.cells [.int .i64 0, .int .i64 0, .nilslice]]) 3 (.ptr σ'.length 0) (bdV R[k].1 u) = some (σ' ++ [AObj.cells (bdC R[k].1 u)]) := by
    have h : (σ' ++ [AObj.cells [.int .i64 0, .int .i64 0, .nilslice]])[σ'.length]? = some (.cells [.int .i64 0, .int .i64 0, .nilslice]) := by simp
    rw [show bdV R[k].1 u = .agg (bdC R[k].1 u) from rfl, storeN_cells (cs' := bdC R[k].1 u) (n := 3) h rfl rfl hu1, set_last]
   simp -dsimp only [↓WPd, ↓wpC_block, ↓wpC_cond, WPu, Bool.false_eq_true, Bool.true_eq_false, Bool.not_true, Bool.not_false, if_true, if_false, ite_true, ite_false, Nat.reduceEqDiff, Nat.reduceLT, true_and, List.map_cons, List.map_nil, Nat.zero_add, Nat.reduceBEq, WPm, ia, ld, st]
   have oj : (σ' ++ [AObj.cells (bdC R[k].1 u)])[σ'.length]? = some (.cells (bdC R[k].1 u)) := by simp
   have g3 : Grows σ' (σ' ++ [AObj.cells (bdC R[k].1 u)]) := Grows.app _ _
   generalize σ' ++ [AObj.cells (bdC R[k].1 u)] = σ3 at oj g3
   have lj : ∀ {σ4 : Store}, Grows σ3 σ4 → loadV σ4 2 true (.ptr σ'.length 0) = some (nmV R[k].1) := fun {σ4} g4 => loadN_at (q := .ptr σ'.length 0) (cs := bdC R[k].1 u) (off := 0) (by simp only [behind, g4.get oj]) (by simp [bdC])
   have gm : Grows σ1 σ3 := (g2.trans g).trans g3
   obtain ⟨x, k1, -, -⟩ := from_look (gm.get hfm) cm.len R[k].1
   simp -dsimp only [↓WPd, ↓wpC_block, ↓wpC_cond, WPu, Bool.false_eq_true, Bool.true_eq_false, Bool.not_true, Bool.not_false, if_true, if_false, ite_true, ite_false, Nat.reduceEqDiff, Nat.reduceLT, true_and, List.map_cons, List.map_nil, Nat.zero_add, Nat.reduceBEq, WPm, faddr_ptr, Nat.add_zero, lj (Keeps.refl _ _), k1, List.getElem?_cons_zero, List.getElem?_cons_succ, nm_putB]
   have g4 : Grows σ3 (σ3 ++ [AObj.cells (nmC x)]) := Grows.app _ _
   generalize σ3 ++ [AObj.cells (nmC x)] = σ4 at g4
   have ht : R.take (k + 1) = R.take k ++ [R[k]] := List.take_succ_eq_append_getElem hk'
   have g34 := g3.trans g4
   cases hcl : l.contains R[k].1 with
   | true =>
    have eg : garb (R.take (k + 1)) l = garb (R.take k) l := by
     rw [ht]; unfold garb
     rw [List.map_append, List.filter_append]
     have hcl' : R[k].1 ∈ l := by simpa using hcl
     simp [hcl']
    simp -dsimp only [↓WPd, ↓wpC_block, ↓wpC_cond, WPu, Bool.false_eq_true, Bool.true_eq_false, Bool.not_true, Bool.not_false, if_true, if_false, ite_true, ite_false, Nat.reduceEqDiff, Nat.reduceLT, true_and, List.map_cons, List.map_nil, Nat.zero_add, Nat.reduceBEq, WPm]
    refine ⟨R.length - (k + 1), by omega, k + 1, o, by omega, rfl, by rw [wrap_i64 (by omega) (by omega), Int.natCast_add, Int.natCast_one], g.trans g34, by rw [eg]; exact oo.grow g34, fo, no⟩
   | false =>
    have eg : garb (R.take (k + 1)) l = garb (R.take k) l ++ [R[k].1] := by
     rw [ht]; unfold garb
     rw [List.map_append, List.filter_append]
     have hcl' : R[k].1 ∉ l := by simpa using hcl
     simp [hcl']
    have hgl : (garb (R.take k) l).length ≤ R.length := by
     have h1 : (garb (R.take k) l).length ≤ ((R.take k).map (·.1)).length := List.length_filter_le _ _
     simp at h1; omega
    obtain ⟨w, σ5, a1, a2, a3, a4, a5⟩ := (oo.grow g34).append [nmV R[k].1] 16 (by rw [List.length_map]; simp; omega)
    have lit : fillL 2 true (List.replicate 1 (zel [AVal.int IntKind.i64 0, AVal.int IntKind.i64 0] true)) [(0, nmV R[k].1)] = some [nmV R[k].1] := rfl
    have fle := elems_fs 2 (AVal.tagL [nmV R[k].1]) true σ4 [nmV R[k].1]
    simp -dsimp only [↓WPd, ↓wpC_block, ↓wpC_cond, WPu, Bool.false_eq_true, Bool.true_eq_false, Bool.not_true, Bool.not_false, if_true, if_false, ite_true, ite_false, Nat.reduceEqDiff, Nat.reduceLT, true_and, List.map_cons, List.map_nil, Nat.zero_add, Nat.reduceBEq, WPm, faddr_ptr, Nat.add_zero, lj g4, lit, fle, a1]
    have e : NN (garb (R.take k) l ++ [R[k].1]) = NN (garb (R.take k) l) ++ [nmV R[k].1] := by simp [NN]
    refine ⟨R.length - (k + 1), by omega, k + 1, w, by omega, rfl, by rw [wrap_i64 (by omega) (by omega), Int.natCast_add, Int.natCast_one], Keeps.trans (g.trans g34) a3 fun i hi e => by have := fo i e; omega, by rw [eg, e]; exact a2, fun i hi => ?_, a5 (.inr (by simp))⟩
    rcases a4 i hi with e | e
    ·exact fo i e
    ·have := (g.trans g34).1; omega
  ·have : k = R.length := by omega
   subst this
   rw [List.take_length] at oo
   simp -dsimp only [↓WPd, ↓wpC_block, ↓wpC_cond, WPu, Bool.false_eq_true, Bool.true_eq_false, Bool.not_true, Bool.not_false, if_true, if_false, ite_true, ite_false, Nat.reduceEqDiff, Nat.reduceLT, true_and, List.map_cons, List.map_nil, Nat.zero_add, Nat.reduceBEq]
   exact ⟨o, rfl, g, oo, fo, no⟩
 ·rintro e σ' env ⟨rfl, o, hv, g, oo, fo, no⟩
  simp only [List.map_cons, List.map_nil, List.cons.injEq, and_true] at hv
  simp -dsimp only [↓WPd, ↓wpC_block, ↓wpC_cond, WPu, Bool.false_eq_true, Bool.true_eq_false, Bool.not_true, Bool.not_false, if_true, if_false, ite_true, ite_false, Nat.reduceEqDiff, Nat.reduceLT, true_and, List.map_cons, List.map_nil, Nat.zero_add, Nat.reduceBEq, hv]
  exact ⟨(g1.trans g2).trans g, l, oo, ⟨fo.le (g1.trans g2).1, no⟩, hd, hm⟩
theorem live18_ran : (run CU.cfg 300 1 6 [] []).map (fun p => p.1) = some (.bool true) := by kernel_rfl
def BdIn (σ : Store) (v : AVal) (bs : Hp) : Prop := ∃ es, SlOf σ 3 v es ∧ Two (fun e p => ∃ u, e = bdV p.1 u ∧ Told u p.2) es bs
theorem BdArg.in {v : AVal} {bs : Hp} (h : BdArg v bs) (σ : Store) : BdIn σ v bs := by
 obtain ⟨es, h1, h2⟩ := h.row
 exact ⟨es, h1 σ, h2⟩
theorem BdIn.len {σ : Store} {v : AVal} {bs : Hp} (h : BdIn σ v bs) : lenSV v = some bs.length := by
 obtain ⟨es, h1, h2⟩ := h
 rw [← h2.len]; exact h1.len
theorem BdIn.grow {σ σ' : Store} {v : AVal} {bs : Hp} (h : BdIn σ v bs) (g : Grows σ σ') : BdIn σ' v bs := by
 obtain ⟨es, h1, h2⟩ := h
 exact ⟨es, h1.grow g, h2⟩
theorem BdIn.keepM {σ σ' : Store} {v : AVal} {bs : Hp} {j : Nat} {ks vs : List AVal} (h : BdIn σ v bs) (hm : σ[j]? = some (.map ks vs)) (k : Keeps (fun i => i = j) σ σ') : BdIn σ' v bs := by
 obtain ⟨es, h1, h2⟩ := h
 exact ⟨es, h1.keeps k fun i hi e => h1.noMap hm (e ▸ hi), h2⟩
theorem BdIn.keepC {σ σ' : Store} {v : AVal} {bs : Hp} {j : Nat} {cs : List AVal} (h : BdIn σ v bs) (hm : σ[j]? = some (.cells cs)) (k : Keeps (fun i => i = j) σ σ') : BdIn σ' v bs := by
 obtain ⟨es, h1, h2⟩ := h
 exact ⟨es, h1.keeps k fun i hi e => h1.noCell hm (e ▸ hi), h2⟩
theorem BdIn.at {σ : Store} {v : AVal} {bs : Hp} (h : BdIn σ v bs) {k : Nat} (hk : k < bs.length) : ∃ q0 q2 u, iaddrV 3 v (.int .i64 k) = some (addrOf 3 v k) ∧ faddrV 0 (addrOf 3 v k) = some q0 ∧ loadV σ 2 true q0 = some (nmV bs[k].1) ∧ faddrV 2 (addrOf 3 v k) = some q2 ∧ loadV σ 1 false q2 = some u ∧ Told u bs[k].2 := by
 obtain ⟨es, h1, h2⟩ := h
 have hke : k < es.length := by rw [h2.len]; exact hk
 obtain ⟨e, he1, u, he2, he3⟩ := h2.get hk
 have hee : es[k] = e := by rw [List.getElem?_eq_getElem hke] at he1; exact Option.some.inj he1
 have hb := (h1.addr hke .i64).2
 rw [hee, he2] at hb
 have hb' : behind σ (addrOf 3 v k) = some (bdC (bs[k]).1 u, 0) := hb
 obtain ⟨q0, p0, b0⟩ := faddr_at hb' 0
 obtain ⟨q2, p2, b2⟩ := faddr_at hb' 2
 exact ⟨q0, q2, u, h1.iaddr hke .i64, p0, loadN_at b0 (by simp [bdC]), p2, load_at b2, he3⟩
section
variable (d : Nat) (σ : Store)
set_option maxHeartbeats 1000000 in
theorem maps18_ok (bv : AVal) (bs : Hp) (h : BdIn σ bv bs) (hsm : ∀ p ∈ bs, Small p.2) (hlt : bs.length < 2 ^ 27) : Called CU.cfg d 7 [bv] σ fun v σ' => ∃ id mid vs rid A, v = .tuple [.ptr id 0, .ptr rid 0] ∧ HeapP σ' id mid vs (bindsH [] bs) ∧ RefP σ' A rid (bindsR [] bs) ∧ Grows σ σ' ∧ (σ.length ≤ id ∧ σ.length ≤ mid ∧ σ.length ≤ rid ∧ ∀ i, A i → σ.length ≤ i) ∧ id ≠ rid ∧ mid ≠ rid ∧ id ≠ mid := by
 refine called_of (fn := CU.a7) rfl (Nat.le_of_ble_eq_true rfl) ?_
 simp only [CU.a7]
 have lb := h.len
 simp -dsimp only [↓WPd, ↓wpC_block, ↓wpC_cond, WPu, Bool.false_eq_true, Bool.true_eq_false, Bool.not_true, Bool.not_false, if_true, if_false, ite_true, ite_false, Nat.reduceEqDiff, Nat.reduceLT, true_and, List.map_cons, List.map_nil, Nat.zero_add, Nat.reduceBEq]
 refine calledW_of (hnew_ok d σ) ?_
 rintro r σ1 ⟨id, mid, rfl, h1, g1, l1, l2, m1, m2⟩
 simp -dsimp only [↓WPd, ↓wpC_block, ↓wpC_cond, WPu, Bool.false_eq_true, Bool.true_eq_false, Bool.not_true, Bool.not_false, if_true, if_false, ite_true, ite_false, Nat.reduceEqDiff, Nat.reduceLT, true_and, List.map_cons, List.map_nil, Nat.zero_add, Nat.reduceBEq]
 refine calledW_of (rnew_ok d σ1) ?_
 rintro r σ2 ⟨rid, rfl, r2, g2, l3, m3⟩
 have hm : id ≠ mid := fun e => by have a := h1.obj; rw [e, h1.map] at a; cases a
 simp -dsimp only [↓WPd, ↓wpC_block, ↓wpC_cond, WPu, Bool.false_eq_true, Bool.true_eq_false, Bool.not_true, Bool.not_false, if_true, if_false, ite_true, ite_false, Nat.reduceEqDiff, Nat.reduceLT, true_and, List.map_cons, List.map_nil, Nat.zero_add, Nat.reduceBEq]
 refine loop_rule2 (fun m vs σ' => ∃ k ws A, k ≤ bs.length ∧ m = bs.length - k ∧ vs = [bv, .ptr id 0, .ptr rid 0, .int .i64 (k : Nat)] ∧ HeapP σ' id mid ws (bindsH [] (bs.take k)) ∧ RefP σ' A rid (bindsR [] (bs.take k)) ∧ (∀ i, A i → σ2.length ≤ i) ∧ Grows σ σ' ∧ σ2.length ≤ σ'.length ∧ BdIn σ' bv bs)
  [4, 5] (fun e vs σ' => e = .exit 0 ∧ ∃ ws A, vs = [.ptr id 0, .ptr rid 0] ∧ HeapP σ' id mid ws (bindsH [] bs) ∧ RefP σ' A rid (bindsR [] bs) ∧ (∀ i, A i → σ2.length ≤ i) ∧ Grows σ σ') bs.length
  ⟨0, [], _, Nat.zero_le _, rfl, ?_, h1.grow g2, r2, (fun i h => h.elim), g1.trans g2, Nat.le_refl _, h.grow (g1.trans g2)⟩ ?_ ?_
 ·simp -dsimp only [↓WPd, ↓wpC_block, ↓wpC_cond, WPu, Bool.false_eq_true, Bool.true_eq_false, Bool.not_true, Bool.not_false, if_true, if_false, ite_true, ite_false, Nat.reduceEqDiff, Nat.reduceLT, true_and, List.map_cons, List.map_nil, Nat.zero_add, Nat.reduceBEq]; rfl
 ·rintro m vs σ' ⟨k, ws, A, hk, rfl, rfl, hh, hr, hA, g, hl, hb⟩
  simp -dsimp only [↓WPd, ↓wpC_block, ↓wpC_cond, WPu, Bool.false_eq_true, Bool.true_eq_false, Bool.not_true, Bool.not_false, if_true, if_false, ite_true, ite_false, Nat.reduceEqDiff, Nat.reduceLT, true_and, List.map_cons, List.map_nil, Nat.zero_add, Nat.reduceBEq, lb]
  refine condP_dec (fun hc => ?_) (fun hc => ?_)
  ·have hk' : k < bs.length := by omega
   obtain ⟨q0, q2, u, a1, a2, a3, a4, a5, a6⟩ := hb.at hk'
   have hsm := hsm _ (List.getElem_mem hk')
   simp -dsimp only [↓WPd, ↓wpC_block, ↓wpC_cond, WPu, Bool.false_eq_true, Bool.true_eq_false, Bool.not_true, Bool.not_false, if_true, if_false, ite_true, ite_false, Nat.reduceEqDiff, Nat.reduceLT, true_and, List.map_cons, List.map_nil, Nat.zero_add, Nat.reduceBEq, a1, a2, a3, a4, a5]
   refine calledW_of (hbind_ok d σ' id mid ws _ bs[k].1 u bs[k].2 hh hsm (a6 σ')) ?_
   rintro r3 σ3 ⟨-, ⟨ws3, h3⟩, k3⟩
   have hb3 := hb.keepM hh.map k3
   obtain ⟨q0', q2', u', b1, b2, b3, b4, b5, b6⟩ := hb3.at hk'
   have hr3 : RefP σ3 A rid (bindsR [] (bs.take k)) := by
    refine hr.keeps k3 (by omega) fun i hi ha => ⟨ha, fun e => ?_⟩
    have := hA i ha
    have := g2.1
    omega
   have hRl := bindsR_len (bs.take k) []
   have htk : (bs.take k).length ≤ bs.length := by simp; omega
   simp -dsimp only [↓WPd, ↓wpC_block, ↓wpC_cond, WPu, Bool.false_eq_true, Bool.true_eq_false, Bool.not_true, Bool.not_false, if_true, if_false, ite_true, ite_false, Nat.reduceEqDiff, Nat.reduceLT, true_and, List.map_cons, List.map_nil, Nat.zero_add, Nat.reduceBEq, b1, b2, b3, b4, b5]
   refine calledW_of (rbind_ok d σ3 A rid _ bs[k].1 u' bs[k].2 hr3 (by simp only [List.length_nil] at hRl; omega) hsm.1 (b6 σ3)) ?_
   rintro r4 σ4 ⟨-, r4', k4⟩
   have hb4 : BdIn σ4 bv bs := by
    obtain ⟨w, w1, -⟩ := hr3.bds
    exact hb3.keepC w1 k4
   have ht : bs.take (k + 1) = bs.take k ++ [bs[k]] := List.take_succ_eq_append_getElem hk'
   simp -dsimp only [↓WPd, ↓wpC_block, ↓wpC_cond, WPu, Bool.false_eq_true, Bool.true_eq_false, Bool.not_true, Bool.not_false, if_true, if_false, ite_true, ite_false, Nat.reduceEqDiff, Nat.reduceLT, true_and, List.map_cons, List.map_nil, Nat.zero_add, Nat.reduceBEq]
   refine ⟨bs.length - (k + 1), by omega, k + 1, ws3, (fun i => A i ∨ σ3.length ≤ i), by omega, rfl, by rw [wrap_i64 (by omega) (by omega), Int.natCast_add, Int.natCast_one], ?_, ?_, ?_, ?_, by have := k3.1; have := k4.1; omega, hb4⟩
   ·rw [ht, bindsH_snoc]; exact h3.keeps k4 (by omega) (by omega)
   ·rw [ht, bindsR_snoc]; exact r4'
   ·rintro i (ha | ha)
    ·exact hA i ha
    ·have := k3.1; omega
   ·exact Keeps.trans (Keeps.trans g k3 fun i hi e => by omega) k4 fun i hi e => by have := g1.1; omega
  ·have : k = bs.length := by omega
   subst this
   rw [List.take_length] at hh hr
   simp -dsimp only [↓WPd, ↓wpC_block, ↓wpC_cond, WPu, Bool.false_eq_true, Bool.true_eq_false, Bool.not_true, Bool.not_false, if_true, if_false, ite_true, ite_false, Nat.reduceEqDiff, Nat.reduceLT, true_and, List.map_cons, List.map_nil, Nat.zero_add, Nat.reduceBEq]
   exact ⟨ws, A, hh, hr, hA, g⟩
 ·rintro e σ' env ⟨rfl, ws, A, hv, hh, hr, hA, g⟩
  simp only [List.map_cons, List.map_nil, List.cons.injEq, and_true] at hv
  obtain ⟨v4, v5⟩ := hv
  simp -dsimp only [↓WPd, ↓wpC_block, ↓wpC_cond, WPu, Bool.false_eq_true, Bool.true_eq_false, Bool.not_true, Bool.not_false, if_true, if_false, ite_true, ite_false, Nat.reduceEqDiff, Nat.reduceLT, true_and, List.map_cons, List.map_nil, Nat.zero_add, Nat.reduceBEq, v4, v5]
  have := g1.1
  exact ⟨id, mid, ws, rid, A, rfl, hh, hr, g, ⟨m1, m2, by omega, fun i ha => by have := hA i ha; have := g2.1; omega⟩, by omega, by omega, hm⟩
theorem msamenames_ok (a b : AVal) (ws : List Nm) (hx : ws.length < 2 ^ 41) (ha : SlOf σ 2 a (NN ws)) (hb : SlOf σ 2 b (NN ws)) : Called CU.cfg d 16 [a, b] σ fun v σ' => v = .bool true ∧ σ' = σ := by
 refine called_of (fn := CU.a16) rfl (Nat.le_of_ble_eq_true rfl) ?_
 simp only [CU.a16]
 have la := names_len ha
 have lb := names_len hb
 have e0 : ((ws.length : Int) != (ws.length : Int)) = false := by simp
 simp -dsimp only [↓WPd, ↓wpC_block, ↓wpC_cond, WPu, Bool.false_eq_true, Bool.true_eq_false, Bool.not_true, Bool.not_false, if_true, if_false, ite_true, ite_false, Nat.reduceEqDiff, Nat.reduceLT, true_and, List.map_cons, List.map_nil, Nat.zero_add, Nat.reduceBEq, la, lb, e0]
 refine loop_rule2 (fun m vs σ' => ∃ k, k ≤ ws.length ∧ m = ws.length - k ∧ vs = [a, b, .int .i64 (k : Nat)] ∧ σ' = σ) [] (fun e vs σ' => e = .exit 0 ∧ σ' = σ) ws.length ⟨0, Nat.zero_le _, rfl, ?_, rfl⟩ ?_ ?_
 ·simp -dsimp only [↓WPd, ↓wpC_block, ↓wpC_cond, WPu, Bool.false_eq_true, Bool.true_eq_false, Bool.not_true, Bool.not_false, if_true, if_false, ite_true, ite_false, Nat.reduceEqDiff, Nat.reduceLT, true_and, List.map_cons, List.map_nil, Nat.zero_add, Nat.reduceBEq]; rfl
 ·rintro m vs σ' ⟨k, hk, rfl, rfl, rfl⟩
  simp -dsimp only [↓WPd, ↓wpC_block, ↓wpC_cond, WPu, Bool.false_eq_true, Bool.true_eq_false, Bool.not_true, Bool.not_false, if_true, if_false, ite_true, ite_false, Nat.reduceEqDiff, Nat.reduceLT, true_and, List.map_cons, List.map_nil, Nat.zero_add, Nat.reduceBEq, la]
  refine condP_dec (fun h => ?_) (fun h => ?_)
  ·have hk' : k < ws.length := by omega
   obtain ⟨a1, a2⟩ := names_at ha hk'
   obtain ⟨b1, b2⟩ := names_at hb hk'
   simp -dsimp only [↓WPd, ↓wpC_block, ↓wpC_cond, WPu, Bool.false_eq_true, Bool.true_eq_false, Bool.not_true, Bool.not_false, if_true, if_false, ite_true, ite_false, Nat.reduceEqDiff, Nat.reduceLT, true_and, List.map_cons, List.map_nil, Nat.zero_add, Nat.reduceBEq, a1, a2, b1, b2, nm_eqs, decide_true]
   exact ⟨ws.length - (k + 1), by omega, k + 1, by omega, rfl, by rw [wrap_i64 (by omega) (by omega), Int.natCast_add, Int.natCast_one], trivial⟩
  ·simp -dsimp only [↓WPd, ↓wpC_block, ↓wpC_cond, WPu, Bool.false_eq_true, Bool.true_eq_false, Bool.not_true, Bool.not_false, if_true, if_false, ite_true, ite_false, Nat.reduceEqDiff, Nat.reduceLT, true_and, List.map_cons, List.map_nil, Nat.zero_add, Nat.reduceBEq]
 ·rintro e σ' env ⟨rfl, rfl⟩
  simp -dsimp only [↓WPd, ↓wpC_block, ↓wpC_cond, WPu, Bool.false_eq_true, Bool.true_eq_false, Bool.not_true, Bool.not_false, if_true, if_false, ite_true, ite_false, Nat.reduceEqDiff, Nat.reduceLT, true_and, List.map_cons, List.map_nil, Nat.zero_add, Nat.reduceBEq]
end
theorem mem_keys_lk {R : Hp} {v : Nm} (h : v ∈ R.map (·.1)) : (lk R v).isSome = true := by
 cases hl : lk R v with
 | none => exact (lk_none.1 hl h).elim
 | some t => rfl
set_option maxHeartbeats 2000000 in
theorem garbage_run (bv rv : AVal) (bs : Hp) (rs : List Nm) (hb : BdArg bv bs) (hr : ∀ σ : Store, SlOf σ 2 rv (NN rs)) (l0 : rs.length < 2 ^ 30) :
  Called CU.cfg 0 4 [bv, rv] [] fun v _ => v = .bool true := by
 refine called_of (fn := CU.a4) rfl (Nat.le_of_ble_eq_true rfl) ?_
 simp only [CU.a4]
 simp -dsimp only [↓WPd, ↓wpC_block, ↓wpC_cond, WPu, Bool.false_eq_true, Bool.true_eq_false, Bool.not_true, Bool.not_false, if_true, if_false, ite_true, ite_false, Nat.reduceEqDiff, Nat.reduceLT, true_and, List.map_cons, List.map_nil, Nat.zero_add, Nat.reduceBEq, WPm]
 refine isoW_bool live18_ran ?_
 simp -dsimp only [↓WPd, ↓wpC_block, ↓wpC_cond, WPu, Bool.false_eq_true, Bool.true_eq_false, Bool.not_true, Bool.not_false, if_true, if_false, ite_true, ite_false, Nat.reduceEqDiff, Nat.reduceLT, true_and, List.map_cons, List.map_nil, Nat.zero_add, Nat.reduceBEq, WPm]
 refine calledW_of (maps18_ok 0 [] bv bs (hb.in []) hb.small (by have := hb.len; omega)) ?_
 rintro r σ1 ⟨id, mid, vs, rid, A, rfl, hh, -, g1, -, -, -, -⟩
 have hw := hh.wf
 have hs : Same (bindsH [] bs) (bindsR [] bs) := Same.nil.binds bs
 have hlen := bindsR_len bs []
 have hlb := hb.len
 simp only [List.length_nil] at hlen
 have hHl := hs.len
 generalize bindsH [] bs = H at *
 generalize bindsR [] bs = R at *
 simp -dsimp only [↓WPd, ↓wpC_block, ↓wpC_cond, WPu, Bool.false_eq_true, Bool.true_eq_false, Bool.not_true, Bool.not_false, if_true, if_false, ite_true, ite_false, Nat.reduceEqDiff, Nat.reduceLT, true_and, List.map_cons, List.map_nil, Nat.zero_add, Nat.reduceBEq, WPm, List.getElem?_cons_zero, List.getElem?_cons_succ, isnil_ptr]
 refine calledW_of (needed_ok 0 σ1 (.ptr id 0) H hw (by omega) rv rs hh.v (hr σ1) (by omega)) ?_
 rintro x σ2 ⟨g2, l, ox, -, hd, hm, hll⟩
 simp -dsimp only [↓WPd, ↓wpC_block, ↓wpC_cond, WPu, Bool.false_eq_true, Bool.true_eq_false, Bool.not_true, Bool.not_false, if_true, if_false, ite_true, ite_false, Nat.reduceEqDiff, Nat.reduceLT, true_and, List.map_cons, List.map_nil, Nat.zero_add, Nat.reduceBEq, WPm]
 refine calledW_of (garbage_ok 0 σ2 id mid vs H R (hh.grow g2) hs (by omega) rv rs (hr σ2) (by omega)) ?_
 rintro gv σ3 ⟨g3, l', og0, -, hd', hm'⟩
 have og := og0.sl
 have hsame : ∀ v, v ∈ l' ↔ v ∈ l := fun v => (hm' v).trans (hm v).symm
 have hgl : (garb R l').length ≤ R.length := by
  have h1 : (garb R l').length ≤ (R.map (·.1)).length := List.length_filter_le _ _
  simpa using h1
 have lg := og.len
 rw [List.length_map] at lg
 have h3 := (hh.grow g2).grow g3
 have ox3 := ox.grow g3
 simp -dsimp only [↓WPd, ↓wpC_block, ↓wpC_cond, WPu, Bool.false_eq_true, Bool.true_eq_false, Bool.not_true, Bool.not_false, if_true, if_false, ite_true, ite_false, Nat.reduceEqDiff, Nat.reduceLT, true_and, List.map_cons, List.map_nil, Nat.zero_add, Nat.reduceBEq, WPm]
 refine loop_rule2 (fun m xs σ' => ∃ k : Nat, k ≤ (garb R l').length ∧ m = (garb R l').length - k ∧ xs = [rv, .ptr id 0, x, gv, .int .i64 (k : Nat)] ∧ Grows σ3 σ')
  [1, 5, 7, 8] (fun e xs σ' => e = .exit 0 ∧ xs = [rv, .ptr id 0, x, gv] ∧ Grows σ3 σ') (garb R l').length ⟨0, Nat.zero_le _, rfl, ?_, Keeps.refl _ _⟩ ?_ ?_
 ·simp -dsimp only [↓WPd, ↓wpC_block, ↓wpC_cond, WPu, Bool.false_eq_true, Bool.true_eq_false, Bool.not_true, Bool.not_false, if_true, if_false, ite_true, ite_false, Nat.reduceEqDiff, Nat.reduceLT, true_and, List.map_cons, List.map_nil, Nat.zero_add, Nat.reduceBEq]; rfl
 ·rintro m xs σ' ⟨k, hk, rfl, rfl, g⟩
  simp -dsimp only [↓WPd, ↓wpC_block, ↓wpC_cond, WPu, Bool.false_eq_true, Bool.true_eq_false, Bool.not_true, Bool.not_false, if_true, if_false, ite_true, ite_false, Nat.reduceEqDiff, Nat.reduceLT, true_and, List.map_cons, List.map_nil, Nat.zero_add, Nat.reduceBEq, lg]
  refine condP_dec (fun hc => ?_) (fun hc => ?_)
  ·have hk' : k < (garb R l').length := by omega
   obtain ⟨n1, n2⟩ := names_at (og.grow g) hk'
   have n3 : ∀ {s : Store}, Grows σ' s → loadV s 2 true (addrOf 2 gv k) = some (nmV (garb R l')[k]) := fun g' => (names_at (og.grow (g.trans g')) hk').2
   have hmem := garb_mem.1 (List.getElem_mem hk')
   generalize (garb R l')[k] = v at n2 n3 hmem
   have hsome : (lk H v).isSome = true := by rw [hs.lk]; exact mem_keys_lk hmem.1
   have hno : (sortN l).contains v = false := by
    have : v ∉ sortN l := fun h => hmem.2 ((hsame v).2 ((sortN_perm l).mem_iff.1 h))
    simpa using this
   simp -dsimp only [↓WPd, ↓wpC_block, ↓wpC_cond, WPu, Bool.false_eq_true, Bool.true_eq_false, Bool.not_true, Bool.not_false, if_true, if_false, ite_true, ite_false, Nat.reduceEqDiff, Nat.reduceLT, true_and, List.map_cons, List.map_nil, Nat.zero_add, Nat.reduceBEq, WPm, n1, n2]
   refine calledW_of (hvalue_ok 0 σ' (.ptr id 0) H v (h3.grow g).v (by have := hw.lk_short v; omega)) ?_
   rintro r4 σ4 ⟨w, rfl, -, -, -, g4⟩
   simp -dsimp only [↓WPd, ↓wpC_block, ↓wpC_cond, WPu, Bool.false_eq_true, Bool.true_eq_false, Bool.not_true, Bool.not_false, if_true, if_false, ite_true, ite_false, Nat.reduceEqDiff, Nat.reduceLT, true_and, List.map_cons, List.map_nil, Nat.zero_add, Nat.reduceBEq, WPm, List.getElem?_cons_zero, List.getElem?_cons_succ, hsome, n1, n3 g4]
   refine calledW_of (hasname_ok 0 σ4 x (sortN l) v (by rw [sortN_len]; omega) (ox3.grow (g.trans g4)).sl) ?_
   rintro r5 σ5 ⟨rfl, g5⟩
   simp -dsimp only [↓WPd, ↓wpC_block, ↓wpC_cond, WPu, Bool.false_eq_true, Bool.true_eq_false, Bool.not_true, Bool.not_false, if_true, if_false, ite_true, ite_false, Nat.reduceEqDiff, Nat.reduceLT, true_and, List.map_cons, List.map_nil, Nat.zero_add, Nat.reduceBEq, WPm, hno]
   exact ⟨(garb R l').length - (k + 1), by omega, k + 1, by omega, rfl, by rw [wrap_i64 (by omega) (by omega), Int.natCast_add, Int.natCast_one], (g.trans g4).trans g5⟩
  ·simp -dsimp only [↓WPd, ↓wpC_block, ↓wpC_cond, WPu, Bool.false_eq_true, Bool.true_eq_false, Bool.not_true, Bool.not_false, if_true, if_false, ite_true, ite_false, Nat.reduceEqDiff, Nat.reduceLT, true_and, List.map_cons, List.map_nil, Nat.zero_add, Nat.reduceBEq]
   exact g
 ·rintro e σ4 env ⟨rfl, hv, g4⟩
  simp only [List.map_cons, List.map_nil, List.cons.injEq, and_true] at hv
  obtain ⟨v1, v5, v7, v8⟩ := hv
  have h4 := h3.grow g4
  have ox4 := ox3.grow g4
  simp -dsimp only [↓WPd, ↓wpC_block, ↓wpC_cond, WPu, Bool.false_eq_true, Bool.true_eq_false, Bool.not_true, Bool.not_false, if_true, if_false, ite_true, ite_false, Nat.reduceEqDiff, Nat.reduceLT, true_and, List.map_cons, List.map_nil, Nat.zero_add, Nat.reduceBEq, WPm, v1, v5, v7, v8]
  refine calledW_of (hdrop_ok 0 σ4 id mid vs H gv (garb R l') h4 (og.grow g4) (by omega)) ?_
  rintro r5 σ5 ⟨⟨vs5, h5⟩, k5⟩
  have ox5 : Own σ5 2 x (NN (sortN l)) := ox4.keeps k5 fun i hi e => ox4.noMap h4.map (e ▸ hi)
  have hsd := hs.drop (garb R l')
  have hwd := hsd.wf
  have hdl := hsd.len
  have hEl : (dropR R (garb R l')).length ≤ R.length := List.length_filter_le _ _
  simp -dsimp only [↓WPd, ↓wpC_block, ↓wpC_cond, WPu, Bool.false_eq_true, Bool.true_eq_false, Bool.not_true, Bool.not_false, if_true, if_false, ite_true, ite_false, Nat.reduceEqDiff, Nat.reduceLT, true_and, List.map_cons, List.map_nil, Nat.zero_add, Nat.reduceBEq, WPm, v1, v5, v7, v8]
  refine calledW_of (bindings_ok 0 σ5 id mid vs5 _ _ h5 hsd (by omega) fun p hp => by have := hsd.wfr.short hp; omega) ?_
  rintro b σ6 ⟨g6, us, hB⟩
  have hBd := hB.bds
  have lb := hBd.len
  have h6 := h5.grow g6
  have ox6 := ox5.grow g6
  have hin : ∀ p ∈ dropR R (garb R l'), p.1 ∈ sortN l := fun p hp => by
   obtain ⟨hp1, hp2⟩ := List.mem_filter.1 hp
   have hn : p.1 ∉ garb R l' := by simpa using hp2
   rw [garb_mem] at hn
   have : p.1 ∈ l' := Classical.byContradiction fun hc => hn ⟨List.mem_map.2 ⟨p, hp1, rfl⟩, hc⟩
   exact (sortN_perm l).mem_iff.2 ((hsame _).1 this)
  simp -dsimp only [↓WPd, ↓wpC_block, ↓wpC_cond, WPu, Bool.false_eq_true, Bool.true_eq_false, Bool.not_true, Bool.not_false, if_true, if_false, ite_true, ite_false, Nat.reduceEqDiff, Nat.reduceLT, true_and, List.map_cons, List.map_nil, Nat.zero_add, Nat.reduceBEq, WPm, v1, v5, v7, v8]
  refine loop_rule2 (fun m xs σ' => ∃ k : Nat, k ≤ (dropR R (garb R l')).length ∧ m = (dropR R (garb R l')).length - k ∧ xs = [rv, .ptr id 0, x, b, .int .i64 (k : Nat)] ∧ Grows σ6 σ')
   [1, 5, 7] (fun e xs σ' => e = .exit 2 ∧ xs = [rv, .ptr id 0, x] ∧ Grows σ6 σ') (dropR R (garb R l')).length ⟨0, Nat.zero_le _, rfl, ?_, Keeps.refl _ _⟩ ?_ ?_
  ·simp -dsimp only [↓WPd, ↓wpC_block, ↓wpC_cond, WPu, Bool.false_eq_true, Bool.true_eq_false, Bool.not_true, Bool.not_false, if_true, if_false, ite_true, ite_false, Nat.reduceEqDiff, Nat.reduceLT, true_and, List.map_cons, List.map_nil, Nat.zero_add, Nat.reduceBEq, v1, v5, v7]; rfl
  ·rintro m xs σ' ⟨k, hk, rfl, rfl, g⟩
   have lb' := (hBd.grow g).len
   simp -dsimp only [↓WPd, ↓wpC_block, ↓wpC_cond, WPu, Bool.false_eq_true, Bool.true_eq_false, Bool.not_true, Bool.not_false, if_true, if_false, ite_true, ite_false, Nat.reduceEqDiff, Nat.reduceLT, true_and, List.map_cons, List.map_nil, Nat.zero_add, Nat.reduceBEq, lb']
   refine condP_dec (fun hc => ?_) (fun hc => ?_)
   ·have hk' : k < (dropR R (garb R l')).length := by omega
    obtain ⟨q0, q2, u, b1, b2, b3, b4, b5, b6⟩ := (hBd.grow g).at hk'
    have hyes : (sortN l).contains ((dropR R (garb R l'))[k]).1 = true := by
     have := hin _ (List.getElem_mem hk')
     simpa using this
    simp -dsimp only [↓WPd, ↓wpC_block, ↓wpC_cond, WPu, Bool.false_eq_true, Bool.true_eq_false, Bool.not_true, Bool.not_false, if_true, if_false, ite_true, ite_false, Nat.reduceEqDiff, Nat.reduceLT, true_and, List.map_cons, List.map_nil, Nat.zero_add, Nat.reduceBEq, WPm, b1, b2, b3]
    refine calledW_of (hasname_ok 0 σ' x (sortN l) _ (by rw [sortN_len]; omega) (ox6.grow g).sl) ?_
    rintro r7 σ7 ⟨rfl, g7⟩
    simp -dsimp only [↓WPd, ↓wpC_block, ↓wpC_cond, WPu, Bool.false_eq_true, Bool.true_eq_false, Bool.not_true, Bool.not_false, if_true, if_false, ite_true, ite_false, Nat.reduceEqDiff, Nat.reduceLT, true_and, List.map_cons, List.map_nil, Nat.zero_add, Nat.reduceBEq, WPm, hyes]
    exact ⟨(dropR R (garb R l')).length - (k + 1), by omega, k + 1, by omega, rfl, by rw [wrap_i64 (by omega) (by omega), Int.natCast_add, Int.natCast_one], g.trans g7⟩
   ·simp -dsimp only [↓WPd, ↓wpC_block, ↓wpC_cond, WPu, Bool.false_eq_true, Bool.true_eq_false, Bool.not_true, Bool.not_false, if_true, if_false, ite_true, ite_false, Nat.reduceEqDiff, Nat.reduceLT, true_and, List.map_cons, List.map_nil, Nat.zero_add, Nat.reduceBEq]
    exact g
  ·rintro e σ7 env ⟨rfl, hv, g7⟩
   simp only [List.map_cons, List.map_nil, List.cons.injEq, and_true] at hv
   obtain ⟨v1, v5, v7⟩ := hv
   have h7 := h6.grow g7
   have ox7 := ox6.grow g7
   have hng : ∀ v ∈ garb R l', ¬ Rea H rs v := fun v hv hr => (garb_mem.1 hv).2 ((hm' v).2 hr)
   simp -dsimp only [↓WPd, ↓wpC_block, ↓wpC_cond, WPu, Bool.false_eq_true, Bool.true_eq_false, Bool.not_true, Bool.not_false, if_true, if_false, ite_true, ite_false, Nat.reduceEqDiff, Nat.reduceLT, true_and, List.map_cons, List.map_nil, Nat.zero_add, Nat.reduceBEq, WPm, v1, v5, v7]
   refine calledW_of (needed_ok 0 σ7 (.ptr id 0) _ hwd (by omega) rv rs h7.v (hr σ7) (by omega)) ?_
   rintro x8 σ8 ⟨g8, l8, ox8, -, hd8, hm8, hl8⟩
   have e8 : sortN l8 = sortN l := sortN_same hd8 hd fun v => (hm8 v).trans ((rea_drop hng v).trans (hm v).symm)
   rw [e8] at ox8
   simp -dsimp only [↓WPd, ↓wpC_block, ↓wpC_cond, WPu, Bool.false_eq_true, Bool.true_eq_false, Bool.not_true, Bool.not_false, if_true, if_false, ite_true, ite_false, Nat.reduceEqDiff, Nat.reduceLT, true_and, List.map_cons, List.map_nil, Nat.zero_add, Nat.reduceBEq, WPm, v1, v5, v7]
   refine calledW_of (msamenames_ok 0 σ8 x8 x (sortN l) (by rw [sortN_len]; omega) ox8.sl (ox7.grow g8).sl) ?_
   rintro r9 σ9 ⟨rfl, rfl⟩
   simp -dsimp only [↓WPd, ↓wpC_block, ↓wpC_cond, WPu, Bool.false_eq_true, Bool.true_eq_false, Bool.not_true, Bool.not_false, if_true, if_false, ite_true, ite_false, Nat.reduceEqDiff, Nat.reduceLT, true_and, List.map_cons, List.map_nil, Nat.zero_add, Nat.reduceBEq, WPm, v1, v5, v7]
   refine calledW_of (garbage_ok 0 σ9 id mid vs5 _ _ (h7.grow g8) hsd (by omega) rv rs (hr σ9) (by omega)) ?_
   rintro gv10 σ10 ⟨g10, l10, o10, -, d10, m10⟩
   have e10 : garb (dropR R (garb R l')) l10 = [] := garb_none fun v => (m10 v).trans ((rea_drop hng v).trans (hm' v).symm)
   rw [e10] at o10
   have l10' : lenSV gv10 = some 0 := o10.sl.len
   have z0 : (((0 : Nat) : Int) == 0) = true := rfl
   simp -dsimp only [↓WPd, ↓wpC_block, ↓wpC_cond, WPu, Bool.false_eq_true, Bool.true_eq_false, Bool.not_true, Bool.not_false, if_true, if_false, ite_true, ite_false, Nat.reduceEqDiff, Nat.reduceLT, true_and, List.map_cons, List.map_nil, Nat.zero_add, Nat.reduceBEq, WPm, l10', z0]
def lkL (ls : List (List Cel)) (i : Nat) : List Cel := ls[i]?.getD []
def isLoc (c : Cel) : Bool := decide (c.k = 4) && decide (c.v.1 = -1)
def badT (l : List Cel) : Bool := decide (l ≠ []) && !right l
def putB (t : List Cel) (ls : List (List Cel)) : Bool := t.any fun c => isLoc c && decide (lkL ls c.v.2.toNat = [])
def putC (ls : List (List Cel)) (c : Cel) : List Cel := if isLoc c then lkL ls c.v.2.toNat else [c]
def putO (t : List Cel) (ls : List (List Cel)) : List Cel := (t.map (putC ls)).flatten
def putE (t : List Cel) (ls : List (List Cel)) : Int := if !right t || ls.any badT then 6 else if putB t ls then 4 else if 256 < (putO t ls).length then 5 else 0
def putT (t : List Cel) (ls : List (List Cel)) : List Cel := if putE t ls = 0 then putO t ls else []
section
variable (d : Nat) (σ : Store)
def PutOk (σ σ' : Store) (r : AVal) (t : List Cel) (ls : List (List Cel)) : Prop := ∃ u, r = .tuple [u, .int .i64 (putE t ls)] ∧ Grows σ σ' ∧ Own σ' 5 u (CC (putT t ls)) ∧ Fresh σ.length u ∧ NoLit u
theorem PutOk.fail {σ σ' : Store} {t : List Cel} {ls : List (List Cel)} {e : Int} (h : putE t ls = e) (he : e ≠ 0) (g : Grows σ σ') : PutOk σ σ' (.tuple [.nilslice, .int .i64 e]) t ls :=
 ⟨.nilslice, by rw [h], g, by rw [putT, if_neg (by rw [h]; exact he)]; exact Own.nil _ _, Fresh.nil _, trivial⟩
end
section
variable (d : Nat) (σ : Store)
end
section
variable (d : Nat) (σ : Store)
end
def TT (σ : Store) (v : AVal) (ls : List (List Cel)) : Prop := ∃ es, Own σ 1 v es ∧ NoLit v ∧ Two Told es ls
theorem TT.terms {σ : Store} {v : AVal} {ls : List (List Cel)} (h : TT σ v ls) : Terms σ v ls := by
 obtain ⟨es, h1, -, h3⟩ := h
 exact ⟨es, h1.sl, h3.mono fun e t h => h σ⟩
theorem TT.grow {σ σ' : Store} {v : AVal} {ls : List (List Cel)} (h : TT σ v ls) (g : Grows σ σ') : TT σ' v ls := by
 obtain ⟨es, h1, h2, h3⟩ := h
 exact ⟨es, h1.grow g, h2, h3⟩
theorem TT.len {σ : Store} {v : AVal} {ls : List (List Cel)} (h : TT σ v ls) : lenSV v = some ls.length := h.terms.len
def TA (v : AVal) (ls : List (List Cel)) : Prop := ∃ es, (∀ σ : Store, SlOf σ 1 v es) ∧ Two Told es ls
theorem TA.terms {v : AVal} {ls : List (List Cel)} (h : TA v ls) (σ : Store) : Terms σ v ls := by
 obtain ⟨es, h1, h3⟩ := h
 exact ⟨es, h1 σ, h3.mono fun e t h => h σ⟩
theorem TT.set {σ : Store} {v : AVal} {ls : List (List Cel)} {lo j : Nat} {u : AVal} {t : List Cel} (h : TT σ v ls) (hf : Fresh lo v) (hj : j < ls.length) (hu : Told u t) : ∃ σ', storeV σ 1 (addrOf 1 v j) u = some σ' ∧ TT σ' v (ls.set j t) ∧ Keeps (fun i => lo ≤ i) σ σ' := by
 obtain ⟨es, h1, h2, h3⟩ := h
 have hj' : j < es.length := by rw [h3.len]; exact hj
 obtain ⟨e, e1, e2⟩ := h3.get hj
 have hee : es[j] = e := by rw [List.getElem?_eq_getElem hj'] at e1; exact Option.some.inj e1
 have o1 := (e2 σ).one
 have o2 := (hu σ).one
 have hc : u.cells = [u] := by cases u <;> simp_all [AVal.one]
 have hc2 : e.cells = [e] := by cases e <;> simp_all [AVal.one]
 have hr : e.reform [u] = u := by cases e <;> simp_all [AVal.one, AVal.reform]
 obtain ⟨σ', p1, p2, p3, -⟩ := h1.store h2 hj' (x := u) (by rw [hc]; simp only [List.all_cons, List.all_nil, o2]; rfl) (by rw [hc]; rfl) (by rw [hee, hc2]; rfl) (by rw [hee, hc]; exact hr)
 exact ⟨σ', p1, ⟨_, p2, h2, Two.set h3 j hu⟩, p3.mono fun i _ e => hf i e⟩
section
variable (d : Nat) (σ : Store)
end
def AR (σ : Store) (aid : Nat) (ls : List (List Cel)) : Prop := ∃ es, σ[aid]? = some (.arr 1 es 0 0) ∧ Two Told es ls
theorem AR.grow {σ σ' : Store} {aid : Nat} {ls : List (List Cel)} (h : AR σ aid ls) (g : Grows σ σ') : AR σ' aid ls := by
 obtain ⟨es, h1, h2⟩ := h; exact ⟨es, g.get h1, h2⟩
theorem AR.terms {σ : Store} {aid : Nat} {ls : List (List Cel)} (h : AR σ aid ls) {N : Nat} (hN : ls.length = N) : Terms σ (.slice 1 aid 0 0 N (some N)) ls := by
 obtain ⟨es, h1, h2⟩ := h
 subst hN
 have ho : Own σ 1 (.slice 1 aid 0 0 ls.length (some ls.length)) es := ⟨.inr (.inr ⟨aid, 0, 0, some ls.length, es, 0, 0, by rw [h2.len], h1, Nat.le_refl _, by simp, fun _ => by simp, .inr (by rw [h2.len])⟩)⟩
 exact ⟨es, ho.sl, h2.mono fun e t h => h σ⟩
theorem AR.set {σ : Store} {aid : Nat} {ls : List (List Cel)} (h : AR σ aid ls) {j : Nat} (hj : j < ls.length) {u : AVal} {t : List Cel} (hu : Told u t) : ∃ σ', storeV σ 1 (.eptr aid 0 j 0) u = some σ' ∧ AR σ' aid (ls.set j t) ∧ Keeps (fun i => i = aid) σ σ' := by
 obtain ⟨es, h1, h2⟩ := h
 have hj' : j < es.length := by rw [h2.len]; exact hj
 obtain ⟨e, e1, e2⟩ := h2.get hj
 have hee : es[j] = e := by rw [List.getElem?_eq_getElem hj'] at e1; exact Option.some.inj e1
 have st := arr_store1 h1 hj' (hu σ).one (by rw [hee]; exact (e2 σ).one)
 exact ⟨_, st, ⟨_, get_set h1, Two.set h2 j hu⟩, Keeps.set _ _ _⟩
section
variable (d : Nat) (σ : Store)
end
end Go.Proofs.YtelpjaejmneplaaDoor.Am
namespace Go.Proofs.YtelpjaejmneplaaDoor.Am
open Go Go.RowKit Go.ChangeShapes Go.WideShapes Go.ChangeAt Go.Proofs.YtelpjaejmneplaaDoor.Rows
section
variable {H : Type}
theorem names_rd {n : Nat} {d : DataW H} (h : Typed Tryd.prog (n + 3) 23 d) (hb : uptoBulk d ≤ 1048576) : ∃ fr : List Nm, (∀ σ : Store, SlOf σ 2 (argV Tryd.prog (n + 3) 23 d) (NN fr)) ∧ fr.length ≤ uptoBulk d := by
 rcases slice_of Tryd.underlying23 h with rfl | ⟨ds, rest, rfl, hd, ha, hb2⟩
 ·exact ⟨[], fun σ => by rw [argV_nil Tryd.underlying23]; exact SlOf.nil σ 2, Nat.zero_le _⟩
 ·obtain ⟨xs, h1, h2, h3, h4⟩ := list_of (R := fun a (v : Nm) => a = nmV v) (size := fun _ => 0) (fun d h => by
   obtain ⟨v, a1, a2⟩ := name_at (n := n) h
   exact ⟨v, by rw [struct_argV Tryd.underlying25, a1]; rfl, Nat.zero_le _⟩) ds hd
  have e : (ds.map fun x => argV Tryd.prog (n + 2) 25 x) = NN xs := by
   refine List.ext_getElem? fun i => ?_
   by_cases hi : i < ds.length
   ·have e1 : (ds.map fun x => argV Tryd.prog (n + 2) 25 x)[i]? = some (argV Tryd.prog (n + 2) 25 ds[i]) := by simp [List.getElem?_eq_getElem hi]
    have e2 : xs[i]? = some (xs[i]'(by omega)) := List.getElem?_eq_getElem (by omega)
    rw [e1, h2 i _ _ e1 e2, List.getElem?_map, e2]; rfl
   ·rw [List.getElem?_eq_none (by simp; omega), List.getElem?_eq_none (by simp; omega)]
  refine ⟨xs, fun σ => ?_, by omega⟩
  rw [ha, e]; exact SlOf.fs _ _ _ _ _
end
end Go.Proofs.YtelpjaejmneplaaDoor.Am
