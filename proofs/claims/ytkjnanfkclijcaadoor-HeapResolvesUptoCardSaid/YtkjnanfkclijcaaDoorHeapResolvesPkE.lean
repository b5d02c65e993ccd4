/-
  The abstract machine and the functions of the law, 5: texts put together.
-/
import Derived.Test.YtkjnanfkclijcaaDoorHeapResolvesPkC
import Derived.Test.YtkjnanfkclijcaaDoorHeapResolvesPkD
namespace Go.Proofs.YtkjnanfkclijcaaDoor.Am
open Go
set_option linter.unusedVariables false
set_option linter.unusedSimpArgs false
structure XRows (σ : Store) (lo k sz : Nat) (l : AVal) (xs es : List AVal) (ps : List (List AVal)) : Prop where
  row : Own σ k l xs
  lex : xs.length = es.length
  len : es.length = ps.length
  one : ∀ (i : Nat) (e : AVal) (p : List AVal), es[i]? = some e → ps[i]? = some p → Own σ sz e p
  frs : ∀ (i : Nat) (e : AVal), es[i]? = some e → Fresh lo e
  frl : Fresh lo l
  apart : ∀ (i j : Nat) (e e' : AVal) (id : Nat), es[i]? = some e → es[j]? = some e' → e.sid = some id → e'.sid = some id → i = j
  off : ∀ (i : Nat) (e : AVal) (id : Nat), es[i]? = some e → e.sid = some id → l.sid ≠ some id
  lit : ∀ (i : Nat) (e : AVal), es[i]? = some e → NoLit e
theorem XRows.nil (σ : Store) (lo k sz : Nat) : XRows σ lo k sz .nilslice [] [] [] :=
  ⟨Own.nil _ _, rfl, rfl, fun i e p h => by simp at h, fun i e h => by simp at h, Fresh.nil _, fun i j e e' id h => by simp at h, fun i e id h => by simp at h, fun i e h => by simp at h⟩
theorem XRows.lo {σ : Store} {lo lo' k sz : Nat} {l : AVal} {xs es : List AVal} {ps : List (List AVal)} (h : XRows σ lo k sz l xs es ps) (hl : lo' ≤ lo) : XRows σ lo' k sz l xs es ps :=
  ⟨h.row, h.lex, h.len, h.one, fun i e he => (h.frs i e he).le hl, h.frl.le hl, h.apart, h.off, h.lit⟩
theorem XRows.lt {σ : Store} {lo k sz : Nat} {l : AVal} {xs es : List AVal} {ps : List (List AVal)} (h : XRows σ lo k sz l xs es ps) {i : Nat} {e : AVal} (hi : es[i]? = some e) {id : Nat} (hid : e.sid = some id) : id < σ.length := by
  have hlt := (List.getElem?_eq_some_iff.1 hi).1
  have := h.one i e (ps[i]'(by rw [← h.len]; exact hlt)) hi (List.getElem?_eq_getElem _)
  exact this.sl.lt hid
theorem XRows.grow {σ σ' : Store} {lo k sz : Nat} {l : AVal} {xs es : List AVal} {ps : List (List AVal)} (h : XRows σ lo k sz l xs es ps) (g : Grows σ σ') : XRows σ' lo k sz l xs es ps :=
  ⟨h.row.grow g, h.lex, h.len, fun i e p h1 h2 => (h.one i e p h1 h2).grow g, h.frs, h.frl, h.apart, h.off, h.lit⟩
theorem XRows.keeps {σ σ' : Store} {M : Nat → Prop} {lo k sz : Nat} {l : AVal} {xs es : List AVal} {ps : List (List AVal)} (h : XRows σ lo k sz l xs es ps) (g : Keeps M σ σ') (hm : ∀ i, i < σ.length → lo ≤ i → ¬ M i) : XRows σ' lo k sz l xs es ps :=
  ⟨Own.keeps h.row g fun id hid => hm id (h.row.sl.lt hid) (h.frl id hid), h.lex, h.len, fun i e p h1 h2 => Own.keeps (h.one i e p h1 h2) g fun id hid => hm id (h.lt h1 hid) (h.frs i e h1 id hid), h.frs, h.frl, h.apart, h.off, h.lit⟩
theorem XRows.push {σ σ1 : Store} {lo k sz : Nat} {l : AVal} {xs es : List AVal} {ps : List (List AVal)} (h : XRows σ lo k sz l xs es ps) (hlo : lo ≤ σ.length) (g : Grows σ σ1) {x e : AVal} {p : List AVal} (he : Own σ1 sz e p) (fe : Fresh σ.length e) (le : NoLit e)
    (bytes : Nat) (hb : (es.length + 1) * bytes ≤ 70368744177664) :
    ∃ l' σ2, appendV σ1 k bytes l [x] = some (l', σ2) ∧ XRows σ2 lo k sz l' (xs ++ [x]) (es ++ [e]) (ps ++ [p]) ∧ Keeps (fun i => lo ≤ i) σ1 σ2 := by
  obtain ⟨l', σ2, h1, h2, h3, h4, h5⟩ := (h.row.grow g).append [x] bytes (by rw [h.lex]; exact hb)
  have old : ∀ (i : Nat) (x : AVal), (es ++ [e])[i]? = some x → (es[i]? = some x ∧ i < es.length) ∨ (i = es.length ∧ x = e) := by
    intro i x hx
    rw [List.getElem?_append] at hx
    split at hx
    · rename_i hlt; exact .inl ⟨hx, hlt⟩
    · rename_i hlt
      rw [List.getElem?_singleton] at hx
      split at hx
      · injection hx with hx; exact .inr ⟨by omega, hx.symm⟩
      · cases hx
  have hll : ∀ id, l.sid = some id → id < σ.length := fun id hid => h.row.sl.lt hid
  have hx1 : ∀ (i : Nat) (x : AVal) (id : Nat), (es ++ [e])[i]? = some x → x.sid = some id → id < σ1.length ∧ l.sid ≠ some id := by
    intro i x id hx hid
    rcases old i x hx with ⟨hx, _⟩ | ⟨_, rfl⟩
    · exact ⟨Nat.lt_of_lt_of_le (h.lt hx hid) g.1, h.off i x id hx hid⟩
    · exact ⟨he.sl.lt hid, fun hl => by have := fe id hid; have := hll id hl; omega⟩
  refine ⟨l', σ2, h1, ⟨h2, by simp [h.lex], by simp [h.len], ?_, ?_, ?_, ?_, ?_, ?_⟩, h3.mono fun i hi hs => h.frl i hs⟩
  · intro i x q hx hq
    refine Own.keeps (σ := σ1) ?_ h3 fun id hid => (hx1 i x id hx hid).2
    rcases old i x hx with ⟨hx, hlt⟩ | ⟨rfl, rfl⟩
    · rw [List.getElem?_append_left (by rw [← h.len]; exact hlt)] at hq
      exact (h.one i x q hx hq).grow g
    · rw [h.len, List.getElem?_append_right (Nat.le_refl _), Nat.sub_self] at hq
      simp at hq; subst hq; exact he
  · intro i x hx
    rcases old i x hx with ⟨hx, _⟩ | ⟨_, rfl⟩
    · exact h.frs i x hx
    · exact fe.le hlo
  · intro id hid
    rcases h4 id hid with hh | hh
    · exact h.frl id hh
    · have := g.1; omega
  · intro i j x y id hx hy hxi hyi
    rcases old i x hx with ⟨hx', hil⟩ | ⟨hi, hxe⟩ <;> rcases old j y hy with ⟨hy', hjl⟩ | ⟨hj, hye⟩
    · exact h.apart i j x y id hx' hy' hxi hyi
    · rw [hye] at hyi; have := h.lt hx' hxi; have := fe id hyi; omega
    · rw [hxe] at hxi; have := h.lt hy' hyi; have := fe id hxi; omega
    · omega
  · intro i x id hx hid hl
    obtain ⟨k1, k2⟩ := hx1 i x id hx hid
    rcases h4 id hl with hh | hh
    · exact k2 hh
    · omega
  · intro i x hx
    rcases old i x hx with ⟨hx, _⟩ | ⟨_, rfl⟩
    · exact h.lit i x hx
    · exact le
end Go.Proofs.YtkjnanfkclijcaaDoor.Am

namespace Go.Proofs.YtkjnanfkclijcaaDoor.Am
open Go
set_option linter.unusedVariables false
set_option linter.unusedSimpArgs false
set_option linter.unusedSectionVars false
set_option maxRecDepth 100000
def bdVs (R : Hp) (us : List AVal) : List AVal := List.zipWith (fun p u => bdV p.1 u) R us
abbrev BRows (σ : Store) (lo : Nat) (l : AVal) (us : List AVal) (R : Hp) : Prop := XRows σ lo 3 5 l (bdVs R us) us (R.map fun p => CC p.2)
section
variable (d : Nat) (σ : Store)
end
end Go.Proofs.YtkjnanfkclijcaaDoor.Am

namespace Go.Proofs.YtkjnanfkclijcaaDoor.Am
open Go
set_option linter.unusedVariables false
set_option linter.unusedSimpArgs false
set_option linter.unusedSectionVars false
set_option maxRecDepth 100000
def BdSl (σ : Store) (v : AVal) (R : Hp) : Prop := ∃ es, SlOf σ 3 v es ∧ Two (fun e p => ∃ u, e = bdV p.1 u ∧ SlOf σ 5 u (CC p.2)) es R
theorem BdSl.grow {σ σ' : Store} {v : AVal} {R : Hp} (h : BdSl σ v R) (g : Grows σ σ') : BdSl σ' v R := by
  obtain ⟨es, h1, h2⟩ := h
  exact ⟨es, h1.grow g, h2.mono fun e p ⟨u, hu, hs⟩ => ⟨u, hu, hs.grow g⟩⟩
theorem BdSl.len {σ : Store} {v : AVal} {R : Hp} (h : BdSl σ v R) : lenSV v = some R.length := by
  obtain ⟨es, h1, h2⟩ := h
  rw [← h2.len]; exact h1.len
theorem BdSl.at {σ : Store} {v : AVal} {R : Hp} (h : BdSl σ v R) {k : Nat} (hk : k < R.length) : ∃ q0 q2 u, iaddrV 3 v (.int .i64 k) = some (addrOf 3 v k) ∧ faddrV 0 (addrOf 3 v k) = some q0 ∧ loadV σ 2 true q0 = some (nmV R[k].1) ∧ faddrV 2 (addrOf 3 v k) = some q2 ∧ loadV σ 1 false q2 = some u ∧ SlOf σ 5 u (CC R[k].2) := by
  obtain ⟨es, h1, h2⟩ := h
  have hke : k < es.length := by rw [h2.len]; exact hk
  obtain ⟨e, he1, u, he2, he3⟩ := h2.get hk
  have hee : es[k] = e := by rw [List.getElem?_eq_getElem hke] at he1; exact Option.some.inj he1
  have hb := (h1.addr hke .i64).2
  rw [hee, he2] at hb
  have hb' : behind σ (addrOf 3 v k) = some (bdC (R[k]).1 u, 0) := hb
  obtain ⟨q0, p0, b0⟩ := faddr_at hb' 0
  obtain ⟨q2, p2, b2⟩ := faddr_at hb' 2
  exact ⟨q0, q2, u, h1.iaddr hke .i64, p0, loadN_at b0 (by simp [bdC]), p2, load_at b2, he3⟩
section
variable (d : Nat) (σ : Store)
theorem hvalue_ok (hv : AVal) (H : Hp) (v : Nm) (h : HeapV σ hv H) (hs : ((lk H v).getD []).length < 2 ^ 30) : Called CU.cfg d 38 [hv, nmV v] σ fun r σ' => ∃ u, r = .tuple [u, .bool (lk H v).isSome] ∧ Own σ' 5 u (CC ((lk H v).getD [])) ∧ Fresh σ.length u ∧ NoLit u ∧ Grows σ σ' := by
  refine called_of (fn := CU.a38) rfl (Nat.le_of_ble_eq_true rfl) ?_
  simp only [CU.a38]
  simp -dsimp only [↓WPd, ↓wpC_block, ↓wpC_cond, WPu, Bool.false_eq_true, Bool.true_eq_false, Bool.not_true, Bool.not_false, if_true, if_false, ite_true, ite_false, Nat.reduceEqDiff, Nat.reduceLT, true_and, List.map_cons, List.map_nil, Nat.zero_add, Nat.reduceBEq, nm_cells, nm_one]
  have ho : (σ ++ [AObj.cells (nmC v)])[σ.length]? = some (.cells (nmC v)) := by simp
  have g0 : Grows σ (σ ++ [AObj.cells (nmC v)]) := Grows.app _ _
  have h1 := h.grow g0
  generalize σ ++ [AObj.cells (nmC v)] = σ1 at ho g0 h1
  simp -dsimp only [↓WPd, ↓wpC_block, ↓wpC_cond, WPu, Bool.false_eq_true, Bool.true_eq_false, Bool.not_true, Bool.not_false, if_true, if_false, ite_true, ite_false, Nat.reduceEqDiff, Nat.reduceLT, true_and, List.map_cons, List.map_nil, Nat.zero_add, Nat.reduceBEq, load_nm ho]
  refine calledW_of (value_ok d σ1 hv H v h1) ?_
  rintro r σ2 ⟨u, rfl, hu, g2⟩
  simp -dsimp only [↓WPd, ↓wpC_block, ↓wpC_cond, WPu, Bool.false_eq_true, Bool.true_eq_false, Bool.not_true, Bool.not_false, if_true, if_false, ite_true, ite_false, Nat.reduceEqDiff, Nat.reduceLT, true_and, List.map_cons, List.map_nil, Nat.zero_add, Nat.reduceBEq, List.getElem?_cons_zero, List.getElem?_cons_succ]
  refine calledW_of (cclone_ok d σ2 u _ hs (hu σ2)) ?_
  rintro w σ3 ⟨g3, ow, fw, nw⟩
  simp -dsimp only [↓WPd, ↓wpC_block, ↓wpC_cond, WPu, Bool.false_eq_true, Bool.true_eq_false, Bool.not_true, Bool.not_false, if_true, if_false, ite_true, ite_false, Nat.reduceEqDiff, Nat.reduceLT, true_and, List.map_cons, List.map_nil, Nat.zero_add, Nat.reduceBEq]
  exact ⟨w, rfl, ow, fw.le (g0.trans g2).1, nw, (g0.trans g2).trans g3⟩
end
end Go.Proofs.YtkjnanfkclijcaaDoor.Am

namespace Go.Proofs.YtkjnanfkclijcaaDoor.Am
open Go
set_option linter.unusedVariables false
set_option linter.unusedSimpArgs false
set_option linter.unusedSectionVars false
set_option maxRecDepth 100000
theorem Own.setN {σ : Store} {v : AVal} {t : List Cel} (h : Own σ 5 v (CC t)) (hn : NoLit v) {i : Nat} (hi : i < t.length) (x : Int) :
    ∃ q σ', faddrV 2 (addrOf 5 v i) = some q ∧ storeV σ 1 q (.int .i64 x) = some σ' ∧ Own σ' 5 v (CC (t.set i { t[i] with n := x })) ∧ Keeps (fun j => v.sid = some j) σ σ' := by
  have hi' : i < (CC t).length := by simpa using hi
  rcases h.own with ⟨rfl, he⟩ | ⟨tg, rfl⟩ | ⟨id, ep, off, cap, xs, epo, fl, rfl, ho, hf, he, hl, hc⟩
  · rw [he] at hi'; simp at hi'
  · have : CC t = [] := hn
    rw [this] at hi'; simp at hi'
  · rcases hc with ⟨rfl, rfl, rfl, rfl⟩ | rfl
    · have ha : addrOf 5 (.slice 5 id epo 0 (CC t).length none) i = .eptr id epo i 0 := by
        have e : (0 : Int) ≤ (i : Int) ∧ (i : Int) < ((CC t).length : Int) := by omega
        simp only [addrOf, iaddrV, e, and_self, if_true]
        simp
      refine ⟨.eptr id epo i 2, σ.set id (.arr 5 (CC (t.set i { t[i] with n := x })) epo epo), by rw [ha]; rfl, ?_, ?_, (Keeps.set _ _ _).mono fun j _ h => by rw [h]; rfl⟩
      · have e1 : (CC t)[i]? = some t[i].val := by rw [List.getElem?_eq_getElem hi', cel_get]
        have e2 : (CC t).set i (Cel.val { t[i] with n := x }) = CC (t.set i { t[i] with n := x }) := List.map_set.symm
        rw [← e2]
        simp only [storeV, ho, e1]
        rfl
      · have := Own.whole (σ := σ.set id (.arr 5 (CC (t.set i { t[i] with n := x })) epo epo)) (sz := 5) (id := id) (ep := epo) (fl := epo) (es := CC (t.set i { t[i] with n := x })) (by rw [List.getElem?_set_self (List.getElem?_eq_some_iff.1 ho).1]) (Nat.le_refl _)
        simpa using this
    · exact hn.elim
theorem BdArg.all {v : AVal} {bs : Hp} (h : BdArg v bs) {k : Nat} (hk : k < bs.length) : ∃ q0 q2 u, iaddrV 3 v (.int .i64 k) = some (addrOf 3 v k) ∧ faddrV 0 (addrOf 3 v k) = some q0 ∧ (∀ σ, loadV σ 2 true q0 = some (nmV bs[k].1)) ∧ faddrV 2 (addrOf 3 v k) = some q2 ∧ (∀ σ, loadV σ 1 false q2 = some u) ∧ Told u bs[k].2 := by
  obtain ⟨es, h1, h2⟩ := h.row
  have hke : k < es.length := by rw [h2.len]; exact hk
  obtain ⟨e, he1, u, he2, he3⟩ := h2.get hk
  have hee : es[k] = e := by rw [List.getElem?_eq_getElem hke] at he1; exact Option.some.inj he1
  have hb : ∀ σ, behind σ (addrOf 3 v k) = some (bdC (bs[k]).1 u, 0) := fun σ => by
    have hb := ((h1 σ).addr hke .i64).2
    rw [hee, he2] at hb; exact hb
  obtain ⟨q0, p0, -⟩ := faddr_at (hb []) 0
  obtain ⟨q2, p2, -⟩ := faddr_at (hb []) 2
  refine ⟨q0, q2, u, (h1 []).iaddr hke .i64, p0, fun σ => ?_, p2, fun σ => ?_, he3⟩
  · obtain ⟨q, r0, r1⟩ := faddr_at (hb σ) 0
    rw [p0] at r0
    rw [Option.some.inj r0]
    exact loadN_at r1 (by simp [bdC])
  · obtain ⟨q, r0, r1⟩ := faddr_at (hb σ) 2
    rw [p2] at r0
    rw [Option.some.inj r0]
    exact load_at r1
section
variable (d : Nat) (σ : Store)
set_option maxHeartbeats 2000000 in
theorem both5_ok (bv : AVal) (bs : Hp) (h : BdArg bv bs) : Called CU.cfg d 35 [bv] σ fun v σ' => ∃ id mid vs rid A, v = .tuple [.ptr id 0, .ptr rid 0, .bool true] ∧ HeapP σ' id mid vs (bindsH [] bs) ∧ RefP σ' A rid (bindsR [] bs) ∧ Grows σ σ' ∧ (σ.length ≤ id ∧ σ.length ≤ mid ∧ σ.length ≤ rid ∧ ∀ i, A i → σ.length ≤ i) ∧ id ≠ rid ∧ mid ≠ rid ∧ id ≠ mid := by
  refine called_of (fn := CU.a35) rfl (Nat.le_of_ble_eq_true rfl) ?_
  simp only [CU.a35]
  have lb := h.len'
  have hlt := h.len
  simp -dsimp only [↓WPd, ↓wpC_block, ↓wpC_cond, WPu, Bool.false_eq_true, Bool.true_eq_false, Bool.not_true, Bool.not_false, if_true, if_false, ite_true, ite_false, Nat.reduceEqDiff, Nat.reduceLT, true_and, List.map_cons, List.map_nil, Nat.zero_add, Nat.reduceBEq]
  refine calledW_of (hnew_ok d σ) ?_
  rintro r σ1 ⟨id, mid, rfl, h1, g1, l1, l2, m1, m2⟩
  simp -dsimp only [↓WPd, ↓wpC_block, ↓wpC_cond, WPu, Bool.false_eq_true, Bool.true_eq_false, Bool.not_true, Bool.not_false, if_true, if_false, ite_true, ite_false, Nat.reduceEqDiff, Nat.reduceLT, true_and, List.map_cons, List.map_nil, Nat.zero_add, Nat.reduceBEq]
  refine calledW_of (rnew_ok d σ1) ?_
  rintro r σ2 ⟨rid, rfl, r2, g2, l3, m3⟩
  have hm : id ≠ mid := fun e => by have a := h1.obj; rw [e, h1.map] at a; cases a
  simp -dsimp only [↓WPd, ↓wpC_block, ↓wpC_cond, WPu, Bool.false_eq_true, Bool.true_eq_false, Bool.not_true, Bool.not_false, if_true, if_false, ite_true, ite_false, Nat.reduceEqDiff, Nat.reduceLT, true_and, List.map_cons, List.map_nil, Nat.zero_add, Nat.reduceBEq]
  refine loop_rule2 (fun m vs σ' => ∃ k ws A, k ≤ bs.length ∧ m = bs.length - k ∧ vs = [bv, .ptr id 0, .ptr rid 0, .int .i64 (k : Nat)] ∧ HeapP σ' id mid ws (bindsH [] (bs.take k)) ∧ RefP σ' A rid (bindsR [] (bs.take k)) ∧ (∀ i, A i → σ2.length ≤ i) ∧ Grows σ σ' ∧ σ2.length ≤ σ'.length)
    [5, 6] (fun e vs σ' => e = .exit 0 ∧ ∃ ws A, vs = [.ptr id 0, .ptr rid 0] ∧ HeapP σ' id mid ws (bindsH [] bs) ∧ RefP σ' A rid (bindsR [] bs) ∧ (∀ i, A i → σ2.length ≤ i) ∧ Grows σ σ') bs.length
    ⟨0, [], _, Nat.zero_le _, rfl, ?_, h1.grow g2, r2, (fun i h => h.elim), g1.trans g2, Nat.le_refl _⟩ ?_ ?_
  · simp -dsimp only [↓WPd, ↓wpC_block, ↓wpC_cond, WPu, Bool.false_eq_true, Bool.true_eq_false, Bool.not_true, Bool.not_false, if_true, if_false, ite_true, ite_false, Nat.reduceEqDiff, Nat.reduceLT, true_and, List.map_cons, List.map_nil, Nat.zero_add, Nat.reduceBEq]; rfl
  · rintro m vs σ' ⟨k, ws, A, hk, rfl, rfl, hh, hr, hA, g, hl⟩
    simp -dsimp only [↓WPd, ↓wpC_block, ↓wpC_cond, WPu, Bool.false_eq_true, Bool.true_eq_false, Bool.not_true, Bool.not_false, if_true, if_false, ite_true, ite_false, Nat.reduceEqDiff, Nat.reduceLT, true_and, List.map_cons, List.map_nil, Nat.zero_add, Nat.reduceBEq, lb]
    refine condP_dec (fun hc => ?_) (fun hc => ?_)
    · have hk' : k < bs.length := by omega
      obtain ⟨q0, q2, u, a1, a2, a3, a4, a5, a6⟩ := h.all hk'
      have hsm := h.small _ (List.getElem_mem hk')
      have el := (a6 σ').els
      obtain ⟨t8, σ3, p1, p2, p3, p4, p5⟩ := (Own.nil σ' 5).append (CC bs[k].2) 48 (by rw [List.length_map]; have := hsm.1; simp only [List.length_nil]; omega)
      rw [List.nil_append] at p2
      have g3 : Grows σ' σ3 := p3.mono fun i _ h => by cases h
      have f8 : Fresh σ'.length t8 := fun i hi => by
        rcases p4 i hi with e | e
        · cases e
        · omega
      simp -dsimp only [↓WPd, ↓wpC_block, ↓wpC_cond, WPu, Bool.false_eq_true, Bool.true_eq_false, Bool.not_true, Bool.not_false, if_true, if_false, ite_true, ite_false, Nat.reduceEqDiff, Nat.reduceLT, true_and, List.map_cons, List.map_nil, Nat.zero_add, Nat.reduceBEq, a1, a4, a5, el, p1]
      refine drawnP_of rfl ?_
      simp -dsimp only [↓WPd, ↓wpC_block, ↓wpC_cond, WPu, Bool.false_eq_true, Bool.true_eq_false, Bool.not_true, Bool.not_false, if_true, if_false, ite_true, ite_false, Nat.reduceEqDiff, Nat.reduceLT, true_and, List.map_cons, List.map_nil, Nat.zero_add, Nat.reduceBEq, ↓WPed, WPeu, Nat.reduceAdd, and_self, a1, a2, a3, a4, a5]
      refine calledW_of (hbind_ok d σ3 id mid ws _ bs[k].1 t8 bs[k].2 (hh.grow g3) hsm p2.sl) ?_
      rintro r3 σ4 ⟨rfl, ⟨ws4, h4⟩, k4⟩
      have hmid : mid < σ'.length := (List.getElem?_eq_some_iff.1 hh.map).1
      have hr4 : RefP σ4 (fun i => A i ∧ i < σ'.length) rid (bindsR [] (bs.take k)) := by
        refine ((hr.keeps (B := fun i => A i ∧ i < σ'.length) (Keeps.refl (fun _ => False) σ') (fun h => h) fun i hi ha => ⟨⟨ha, hi⟩, fun h => h⟩).grow g3).keeps k4 (by omega) fun i hi ha => ⟨ha, fun e => ?_⟩
        have := hA i ha.1
        have := g2.1
        omega
      have p8 : Own σ4 5 t8 (CC bs[k].2) := p2.keeps k4 fun i hi e => by have := f8 i hi; omega
      have hRl := bindsR_len (bs.take k) []
      have htk : (bs.take k).length ≤ bs.length := by simp; omega
      simp -dsimp only [↓WPd, ↓wpC_block, ↓wpC_cond, WPu, Bool.false_eq_true, Bool.true_eq_false, Bool.not_true, Bool.not_false, if_true, if_false, ite_true, ite_false, Nat.reduceEqDiff, Nat.reduceLT, true_and, List.map_cons, List.map_nil, Nat.zero_add, Nat.reduceBEq, ↓WPed, WPeu, Nat.reduceAdd, and_self, a1, a2, a3, a4, a5]
      refine calledW_of (rbind_ok d σ4 _ rid _ bs[k].1 u bs[k].2 hr4 (by simp only [List.length_nil] at hRl; omega) hsm.1 (a6 σ4)) ?_
      rintro r4 σ5 ⟨rfl, r5, k5⟩
      have p9 : Own σ5 5 t8 (CC bs[k].2) := p8.keeps k5 fun i hi e => by have := f8 i hi; omega
      have hsame : Same (bindsH [] (bs.take k)) (bindsR [] (bs.take k)) := Same.nil.binds _
      have ee : (bindE (bindsH [] (bs.take k)) bs[k].1 bs[k].2 != bindE (bindsR [] (bs.take k)) bs[k].1 bs[k].2) = false := by rw [hsame.bindE]; simp
      simp -dsimp only [↓WPd, ↓wpC_block, ↓wpC_cond, WPu, Bool.false_eq_true, Bool.true_eq_false, Bool.not_true, Bool.not_false, if_true, if_false, ite_true, ite_false, Nat.reduceEqDiff, Nat.reduceLT, true_and, List.map_cons, List.map_nil, Nat.zero_add, Nat.reduceBEq, ↓WPed, WPeu, Nat.reduceAdd, and_self, a1, a2, a3, a4, a5, ee]
      refine calledW_of (cequal_ok d σ5 t8 u bs[k].2 bs[k].2 (by have := hsm.1; omega) p9.sl (a6 σ5)) ?_
      rintro r6 σ6 ⟨rfl, rfl⟩
      simp -dsimp only [↓WPd, ↓wpC_block, ↓wpC_cond, WPu, Bool.false_eq_true, Bool.true_eq_false, Bool.not_true, Bool.not_false, if_true, if_false, ite_true, ite_false, Nat.reduceEqDiff, Nat.reduceLT, true_and, List.map_cons, List.map_nil, Nat.zero_add, Nat.reduceBEq, ↓WPed, WPeu, Nat.reduceAdd, and_self, a1, a2, a3, a4, a5, ee, decide_true]
      have n8 : NoLit t8 := p5 (.inl trivial)
      have s8 : ∀ i, t8.sid = some i → σ'.length ≤ i ∧ i < σ3.length := fun i hi => ⟨f8 i hi, p2.sl.lt hi⟩
      refine loop_rule2 (fun m vs σ' => ∃ (j : Nat) (cs : List Cel), j ≤ bs[k].2.length ∧ cs.length = bs[k].2.length ∧ m = bs[k].2.length - j ∧ vs = [bv, .ptr id 0, .ptr rid 0, .int .i64 (k : Nat), t8, .int .i64 (j : Nat)] ∧ Own σ' 5 t8 (CC cs) ∧ Keeps (fun i => t8.sid = some i) σ6 σ')
        [0, 5, 6, 7] (fun e vs σ' => e = .exit 2 ∧ vs = [bv, .ptr id 0, .ptr rid 0, .int .i64 (k : Nat)] ∧ Keeps (fun i => t8.sid = some i) σ6 σ') bs[k].2.length
        ⟨0, bs[k].2, Nat.zero_le _, rfl, rfl, ?_, p9, Keeps.refl _ _⟩ ?_ ?_
      · simp -dsimp only [↓WPd, ↓wpC_block, ↓wpC_cond, WPu, Bool.false_eq_true, Bool.true_eq_false, Bool.not_true, Bool.not_false, if_true, if_false, ite_true, ite_false, Nat.reduceEqDiff, Nat.reduceLT, true_and, List.map_cons, List.map_nil, Nat.zero_add, Nat.reduceBEq]; rfl
      · rintro m vs σ7 ⟨j, cs, hj, hcl, rfl, rfl, o7, k7⟩
        have l7 := o7.sl.len
        rw [List.length_map] at l7
        simp -dsimp only [↓WPd, ↓wpC_block, ↓wpC_cond, WPu, Bool.false_eq_true, Bool.true_eq_false, Bool.not_true, Bool.not_false, if_true, if_false, ite_true, ite_false, Nat.reduceEqDiff, Nat.reduceLT, true_and, List.map_cons, List.map_nil, Nat.zero_add, Nat.reduceBEq, l7]
        refine condP_dec (fun hc => ?_) (fun hc => ?_)
        · have hj' : j < cs.length := by omega
          obtain ⟨q, σ8, f1, f2, f3, f4⟩ := o7.setN n8 hj' 99
          have ia := o7.sl.iaddr (show j < (CC cs).length by simpa using hj') .i64
          simp -dsimp only [↓WPd, ↓wpC_block, ↓wpC_cond, WPu, Bool.false_eq_true, Bool.true_eq_false, Bool.not_true, Bool.not_false, if_true, if_false, ite_true, ite_false, Nat.reduceEqDiff, Nat.reduceLT, true_and, List.map_cons, List.map_nil, Nat.zero_add, Nat.reduceBEq, ia, f1, f2]
          have := hsm.1
          refine ⟨bs[k].2.length - (j + 1), by omega, j + 1, _, by omega, by simpa using hcl, rfl, by rw [wrap_i64 (by omega) (by omega), Int.natCast_add, Int.natCast_one], f3, Keeps.trans k7 f4 fun i _ e => e⟩
        · simp -dsimp only [↓WPd, ↓wpC_block, ↓wpC_cond, WPu, Bool.false_eq_true, Bool.true_eq_false, Bool.not_true, Bool.not_false, if_true, if_false, ite_true, ite_false, Nat.reduceEqDiff, Nat.reduceLT, true_and, List.map_cons, List.map_nil, Nat.zero_add, Nat.reduceBEq]
          exact k7
      · rintro e σ7 env ⟨rfl, hv, k7⟩
        simp only [List.map_cons, List.map_nil, List.cons.injEq, and_true] at hv
        obtain ⟨v0, v5, v6, v7⟩ := hv
        simp -dsimp only [↓WPd, ↓wpC_block, ↓wpC_cond, WPu, Bool.false_eq_true, Bool.true_eq_false, Bool.not_true, Bool.not_false, if_true, if_false, ite_true, ite_false, Nat.reduceEqDiff, Nat.reduceLT, true_and, List.map_cons, List.map_nil, Nat.zero_add, Nat.reduceBEq, v0, v5, v6, v7]
        have ht : bs.take (k + 1) = bs.take k ++ [bs[k]] := List.take_succ_eq_append_getElem hk'
        have hid : id < σ'.length := (List.getElem?_eq_some_iff.1 hh.obj).1
        have hrid : rid < σ'.length := by obtain ⟨w, es, o1, _⟩ := hr; exact (List.getElem?_eq_some_iff.1 o1).1
        have gs := g3.1
        have ks := k4.1
        have ks5 := k5.1
        have ks7 := k7.1
        have g1s := g1.1
        refine ⟨bs.length - (k + 1), by omega, k + 1, ws4, (fun i => (A i ∧ i < σ'.length) ∨ σ4.length ≤ i), by omega, rfl, by rw [wrap_i64 (by omega) (by omega), Int.natCast_add, Int.natCast_one], ?_, ?_, ?_, ?_, by omega⟩
        · rw [ht, bindsH_snoc]
          exact (h4.keeps k5 (by omega) (by omega)).keeps k7 (fun e => by have := s8 _ e; omega) (fun e => by have := s8 _ e; omega)
        · rw [ht, bindsR_snoc]
          exact r5.keeps k7 (fun e => by have := s8 _ e; omega) fun i hi ha => ⟨ha, fun e => by have := s8 _ e; rcases ha with ha | ha <;> omega⟩
        · rintro i (ha | ha)
          · exact hA i ha.1
          · omega
        · refine Keeps.trans (Keeps.trans (Keeps.trans (g.trans g3) k4 fun i hi e => by omega) k5 fun i hi e => by omega) k7 fun i hi e => by have := s8 _ e; have := g.1; omega
    · have : k = bs.length := by omega
      subst this
      rw [List.take_length] at hh hr
      simp -dsimp only [↓WPd, ↓wpC_block, ↓wpC_cond, WPu, Bool.false_eq_true, Bool.true_eq_false, Bool.not_true, Bool.not_false, if_true, if_false, ite_true, ite_false, Nat.reduceEqDiff, Nat.reduceLT, true_and, List.map_cons, List.map_nil, Nat.zero_add, Nat.reduceBEq]
      exact ⟨ws, A, hh, hr, hA, g⟩
  · rintro e σ' env ⟨rfl, ws, A, hv, hh, hr, hA, g⟩
    simp only [List.map_cons, List.map_nil, List.cons.injEq, and_true] at hv
    obtain ⟨v4, v5⟩ := hv
    simp -dsimp only [↓WPd, ↓wpC_block, ↓wpC_cond, WPu, Bool.false_eq_true, Bool.true_eq_false, Bool.not_true, Bool.not_false, if_true, if_false, ite_true, ite_false, Nat.reduceEqDiff, Nat.reduceLT, true_and, List.map_cons, List.map_nil, Nat.zero_add, Nat.reduceBEq, v4, v5]
    have := g1.1
    exact ⟨id, mid, ws, rid, A, rfl, hh, hr, g, ⟨m1, m2, by omega, fun i ha => by have := hA i ha; have := g2.1; omega⟩, by omega, by omega, hm⟩
end
end Go.Proofs.YtkjnanfkclijcaaDoor.Am

namespace Go.Proofs.YtkjnanfkclijcaaDoor.Am
open Go
set_option linter.unusedVariables false
set_option linter.unusedSimpArgs false
end Go.Proofs.YtkjnanfkclijcaaDoor.Am

namespace Go.Proofs.YtkjnanfkclijcaaDoor.Am
open Go
set_option maxRecDepth 100000
theorem live05_ran : (run CU.cfg 300 1 39 [] []).map (fun p => p.1) = some (.bool true) := by kernel_rfl
end Go.Proofs.YtkjnanfkclijcaaDoor.Am

namespace Go.Proofs.YtkjnanfkclijcaaDoor.Am
open Go
set_option linter.unusedVariables false
set_option linter.unusedSimpArgs false
set_option linter.unusedSectionVars false
set_option maxRecDepth 100000
theorem BRows.keeps {σ σ' : Store} {M : Nat → Prop} {lo : Nat} {l : AVal} {us : List AVal} {R : Hp} (h : BRows σ lo l us R) (g : Keeps M σ σ') (hm : ∀ i, i < σ.length → lo ≤ i → ¬ M i) : BRows σ' lo l us R := XRows.keeps h g hm
theorem Told.at {u : AVal} {t : List Cel} (h : Told u t) (σ : Store) : SlOf σ 5 u (CC t) := h σ
end Go.Proofs.YtkjnanfkclijcaaDoor.Am

namespace Go.Proofs.YtkjnanfkclijcaaDoor.Am
open Go
set_option linter.unusedVariables false
set_option linter.unusedSimpArgs false
set_option linter.unusedSectionVars false
set_option maxRecDepth 100000
theorem XRows.at {σ : Store} {lo sz : Nat} {l : AVal} {es : List AVal} {ps : List (List AVal)} (h : XRows σ lo 1 sz l es es ps) {i : Nat} (hi : i < ps.length) :
    ∃ e, es[i]? = some e ∧ iaddrV 1 l (.int .i64 i) = some (addrOf 1 l i) ∧ loadV σ 1 false (addrOf 1 l i) = some e ∧ Own σ sz e ps[i] ∧ NoLit e := by
  have hi' : i < es.length := by rw [h.len]; exact hi
  have o := h.one i es[i] ps[i] (List.getElem?_eq_getElem hi') (List.getElem?_eq_getElem hi)
  exact ⟨es[i], List.getElem?_eq_getElem hi', h.row.sl.iaddr hi' .i64, h.row.sl.load1 hi' o.one 1, o, h.lit i _ (List.getElem?_eq_getElem hi')⟩
end Go.Proofs.YtkjnanfkclijcaaDoor.Am

namespace Go.Proofs.YtkjnanfkclijcaaDoor.Am
open Go
set_option linter.unusedVariables false
set_option linter.unusedSimpArgs false
def resL (H : Hp) (g : List Cel → List Cel → Option (List Cel)) : List Cel → List Cel → Option (List Cel)
  | o, [] => some o
  | o, c :: s => match hnext H [c] with
    | none => if (o ++ [c]).length ≤ 256 then resL H g (o ++ [c]) s else none
    | some u => match g o (deref H u) with
      | some o' => if o'.length ≤ 256 then resL H g o' s else none
      | none => none
def resD (H : Hp) : Nat → List Cel → List Cel → Option (List Cel)
  | 0 => resL H fun _ _ => none
  | n + 1 => resL H (resD H n)
inductive Repl : List Cel → List Cel → Prop
  | nil : Repl [] []
  | keep (c : Cel) {t r : List Cel} : c.ok = true → Repl t r → Repl (c :: t) (c :: r)
  | put (c : Cel) (w : List Cel) {t r : List Cel} : c.parts = 0 → right w = true → Repl t r → Repl (c :: t) (w ++ r)
theorem Repl.len {t r : List Cel} (h : Repl t r) : t.length ≤ r.length := by
  induction h with
  | nil => exact Nat.le_refl _
  | keep c _ _ ih => simp; omega
  | put c w _ hw _ ih => have := (right_len hw).1; simp; omega
theorem Repl.oks {t r : List Cel} (h : Repl t r) : ∀ c ∈ r, c.ok = true := by
  induction h with
  | nil => simp
  | keep c hc _ ih => 
    intro x hx
    rcases List.mem_cons.1 hx with rfl | hx
    · exact hc
    · exact ih x hx
  | put c w _ hw _ ih => 
    intro x hx
    rcases List.mem_append.1 hx with hx | hx
    · exact right_ok_mem hw hx
    · exact ih x hx
theorem Repl.ends {L L' : Nat} (hL : L ≤ L') {t r : List Cel} (h : Repl t r) (hl : r.length ≤ L') : ∀ {q a b : Nat}, endAt L t q a = a + t.length → 0 < a + t.length → endAt L' r q b = b + r.length := by
  induction h with
  | nil =>
    intro q a b h h0
    cases q with
    | zero => rw [endAt_zero]; rfl
    | succ q => rw [endAt_nil] at h; simp at h h0; omega
  | keep c hc hr ih =>
    intro q a b h h0
    cases q with
    | zero => rw [endAt_zero] at h; simp at h
    | succ q =>
      rw [endAt_cons] at h
      simp only [List.length_cons] at h hl ⊢
      split at h
      · omega
      · rename_i hp
        rw [endAt_cons, if_neg (by omega), ih (by omega) (a := a + 1) (b := b + 1) (by omega) (by omega)]
        omega
  | put c w hp hw hr ih =>
    intro q a b h h0
    cases q with
    | zero => rw [endAt_zero] at h; simp at h
    | succ q =>
      rw [endAt_cons] at h
      simp only [List.length_cons, List.length_append] at h hl ⊢
      rw [hp, Nat.add_zero] at h
      split at h
      · omega
      · rw [show q + 1 = 1 + q by omega, endAt_right hw (by omega), ih (by omega) (a := a + 1) (b := b + w.length) (by omega) (by omega)]
        omega
theorem Repl.right {t r : List Cel} (h : Repl t r) (ht : right t = true) (hl : r.length ≤ 256) : right r = true := by
  have h1 := (right_len ht).1
  have h2 := h.len
  have he := right_end ht
  have e := h.ends (L := t.length) (L' := r.length) h2 (Nat.le_refl _) (b := 0) he (by omega)
  rw [Nat.zero_add] at e
  have ho : r.all Cel.ok = true := List.all_eq_true.2 h.oks
  simp only [Am.right, Bool.and_eq_true, decide_eq_true_eq]
  exact ⟨⟨⟨by omega, hl⟩, e⟩, ho⟩
theorem hnext_var {H : Hp} {c : Cel} {u : List Cel} (h : hnext H [c] = some u) : c.k = 4 := (hnext_mem h).2.1
theorem var_parts {c : Cel} (h : c.k = 4) : c.parts = 0 := by simp [Cel.parts, h]
structure Res (H : Hp) (t o o' : List Cel) : Prop where
  ex : ∃ r, o' = o ++ r ∧ Repl t r ∧ ∀ c ∈ r, hnext H [c] = none
  le : t ≠ [] → o'.length ≤ 256
theorem resL_ok {H : Hp} (hw : WF H) {g : List Cel → List Cel → Option (List Cel)} (hg : ∀ o o' t, right t = true → g o t = some o' → Res H t o o') : ∀ (t o o' : List Cel), (∀ c ∈ t, c.ok = true) → resL H g o t = some o' → Res H t o o'
  | [], o, o', _, h => by
    simp only [resL] at h
    injection h with h; subst h
    exact ⟨⟨[], by simp, .nil, by simp⟩, fun h => (h rfl).elim⟩
  | c :: s, o, o', hc, h => by
    have hs : ∀ c ∈ s, c.ok = true := fun x hx => hc x (List.mem_cons_of_mem _ hx)
    simp only [resL] at h
    split at h
    · rename_i hn
      split at h
      · rename_i hle
        obtain ⟨⟨r, h1, h2, h3⟩, h4⟩ := resL_ok hw hg s (o ++ [c]) o' hs h
        refine ⟨⟨c :: r, by rw [h1]; simp, .keep c (hc c List.mem_cons_self) h2, fun x hx => ?_⟩, fun _ => ?_⟩
        · rcases List.mem_cons.1 hx with rfl | hx
          · exact hn
          · exact h3 x hx
        · by_cases e : s = []
          · subst e
            simp only [resL] at h
            injection h with h; subst h
            exact hle
          · exact h4 e
      · cases h
    · rename_i u hn
      split at h
      · rename_i o1 ho1
        split at h
        · rename_i hle
          have gu : glob u = true := (hw.ok _ (hnext_mem hn).2.2).2.2.1
          have ru := glob_right (deref_glob hw gu)
          obtain ⟨⟨w, w1, w2, w3⟩, w4⟩ := hg o o1 _ ru ho1
          have hwl : w.length ≤ 256 := by rw [w1] at hle; simp at hle; omega
          obtain ⟨⟨r, h1, h2, h3⟩, h4⟩ := resL_ok hw hg s o1 o' hs h
          refine ⟨⟨w ++ r, by rw [h1, w1, List.append_assoc], .put c w (var_parts (hnext_var hn)) (w2.right ru hwl) h2, fun x hx => ?_⟩, fun _ => ?_⟩
          · rcases List.mem_append.1 hx with hx | hx
            · exact w3 x hx
            · exact h3 x hx
          · by_cases e : s = []
            · subst e
              simp only [resL] at h
              injection h with h; subst h
              exact hle
            · exact h4 e
        · cases h
      · cases h
theorem resD_ok {H : Hp} (hw : WF H) : ∀ (n : Nat) (o o' t : List Cel), right t = true → resD H n o t = some o' → Res H t o o'
  | 0, o, o', t, ht, h => resL_ok hw (fun _ _ _ _ h => by cases h) t o o' (fun _ hc => right_ok_mem ht hc) h
  | n + 1, o, o', t, ht, h => resL_ok hw (fun o o' t => resD_ok hw n o o' t) t o o' (fun _ hc => right_ok_mem ht hc) h
theorem resL_id {H : Hp} {g : List Cel → List Cel → Option (List Cel)} : ∀ (t o : List Cel), (∀ c ∈ t, hnext H [c] = none) → (o ++ t).length ≤ 256 → resL H g o t = some (o ++ t)
  | [], o, _, _ => by simp [resL]
  | c :: s, o, h, hl => by
    have hl' : (o ++ [c]).length ≤ 256 := by simp at hl ⊢; omega
    simp only [resL, h c List.mem_cons_self]
    rw [if_pos hl', resL_id s (o ++ [c]) (fun x hx => h x (List.mem_cons_of_mem _ hx)) (by simpa using hl)]
    simp
theorem resD_id {H : Hp} (n : Nat) {t : List Cel} (h : ∀ c ∈ t, hnext H [c] = none) (hl : t.length ≤ 256) : resD H n [] t = some t := by
  cases n with
  | zero => exact (resL_id t [] h (by simpa using hl)).trans (by simp)
  | succ n => exact (resL_id t [] h (by simpa using hl)).trans (by simp)
theorem resolved_ok {H : Hp} (hw : WF H) {t a : List Cel} (ht : right t = true) (h : resD H 256 [] t = some a) : right a = true ∧ (∀ c ∈ a, hnext H [c] = none) ∧ resD H 256 [] a = some a := by
  obtain ⟨⟨r, h1, h2, h3⟩, h4⟩ := resD_ok hw 256 [] a t ht h
  rw [List.nil_append] at h1
  subst h1
  have hl := h4 (right_ne ht)
  exact ⟨h2.right ht hl, h3, resD_id 256 h3 hl⟩
end Go.Proofs.YtkjnanfkclijcaaDoor.Am

namespace Go.Proofs.YtkjnanfkclijcaaDoor.Am
open Go
set_option linter.unusedVariables false
set_option linter.unusedSimpArgs false
set_option linter.unusedSectionVars false
set_option maxRecDepth 100000
def gD (H : Hp) : Nat → List Cel → List Cel → Option (List Cel)
  | 0 => fun _ _ => none
  | n + 1 => resD H n
theorem resD_eq (H : Hp) (n : Nat) : resD H n = resL H (gD H n) := by cases n <;> rfl
theorem cel_putR (σ : Store) (c : Cel) : storeV (σ ++ [AObj.cells [.int .u8 0, .str [], .int .i64 0, .int .i64 0, .int .i64 0]]) 5 (.ptr σ.length 0) c.val = some (σ ++ [AObj.cells c.cs]) := by
  have h : (σ ++ [AObj.cells [.int .u8 0, .str [], .int .i64 0, .int .i64 0, .int .i64 0]])[σ.length]? = some (.cells [.int .u8 0, .str [], .int .i64 0, .int .i64 0, .int .i64 0]) := by simp
  have e : c.val = .agg c.cs := rfl
  rw [e, storeN_cells (cs' := c.cs) (n := 5) h rfl rfl rfl, set_last]
theorem cel_inj {x y : Cel} (h : x.val = y.val) : x = y := by
  obtain ⟨k, s, n, v1, v2⟩ := x
  obtain ⟨k', s', n', w1, w2⟩ := y
  simp only [Cel.val, Cel.cs, AVal.agg.injEq, List.cons.injEq, AVal.int.injEq, AVal.str.injEq, and_true, true_and] at h
  obtain ⟨h1, rfl, rfl, rfl, rfl⟩ := h
  have : k = k' := Int.ofNat.inj h1
  subst this; rfl
theorem CC_inj : ∀ {a b : List Cel}, CC a = CC b → a = b := fun {a b} h => (List.map_inj_right fun x y h => cel_inj h).1 h
theorem Own.noMap {σ : Store} {sz : Nat} {v : AVal} {es ks vs : List AVal} {id : Nat} (h : Own σ sz v es) (ho : σ[id]? = some (.map ks vs)) : v.sid ≠ some id := by
  intro hs
  rcases h.own with ⟨rfl, _⟩ | ⟨t, rfl⟩ | ⟨id', ep, off, cap, xs, epo, fl, rfl, h1, _⟩
  · cases hs
  · cases hs
  · injection hs with hs; subst hs; rw [ho] at h1; cases h1
structure OutP (σ : Store) (oid : Nat) (ov : AVal) (o : List Cel) : Prop where
  cell : σ[oid]? = some (.cells [ov])
  own : Own σ 5 ov (CC o)
set_option maxHeartbeats 2000000 in
theorem resolve_ok (d : Nat) (H : Hp) (hw : WF H) (id mid : Nat) (vs : List AVal) (oid : Nat) : ∀ (n : Nat) (hn : n < 2 ^ 30) (σ : Store) (ov tv : AVal) (o t : List Cel) (h : HeapP σ id mid vs H) (ho : OutP σ oid ov o) (hol : o.length ≤ 256) (ht : SlOf σ 5 tv (CC t)) (htl : t.length ≤ 256)
    (hne : ∀ i, tv.sid = some i → ov.sid ≠ some i),
    Called CU.cfg d 102 [.ptr id 0, .ptr oid 0, tv, .int .i64 (n : Nat)] σ fun v σ' => Keeps (fun i => i = oid ∨ ov.sid = some i) σ σ' ∧ match resD H n o t with
      | some o' => v = .bool true ∧ ∃ ov', OutP σ' oid ov' o' ∧ ∀ i, ov'.sid = some i → ov.sid = some i ∨ σ.length ≤ i
      | none => v = .bool false := by
  intro n
  induction n using Nat.strongRecOn with
  | ind n ih =>
  intro hn30 σ ov tv o t h ho hol ht htl hne
  rw [resD_eq]
  refine called_of (fn := CU.a102) rfl (Nat.le_of_ble_eq_true rfl) ?_
  simp only [CU.a102]
  have lt := ht.len
  rw [List.length_map] at lt
  have hoid : oid ≠ id := fun e => by
    have := ho.cell
    rw [e, h.obj] at this
    injection this with this; injection this with this; injection this with this
    subst this
    exact absurd ho.own.sl.len (by simp [lenSV])
  have hoid2 : oid ≠ mid := fun e => by have := ho.cell; rw [e, h.map] at this; cases this
  have hovid : ∀ i, ov.sid = some i → i ≠ id ∧ i ≠ mid ∧ i ≠ oid := fun i hi => ⟨fun e => ho.own.noCell h.obj (e ▸ hi), fun e => ho.own.noMap h.map (e ▸ hi), fun e => ho.own.noCell ho.cell (e ▸ hi)⟩
  simp -dsimp only [↓WPd, ↓wpC_block, ↓wpC_cond, WPu, Bool.false_eq_true, Bool.true_eq_false, Bool.not_true, Bool.not_false, if_true, if_false, ite_true, ite_false, Nat.reduceEqDiff, Nat.reduceLT, true_and, List.map_cons, List.map_nil, Nat.zero_add, Nat.reduceBEq, lt]
  refine loop_rule2 (fun m ws σ' => ∃ (k : Nat) (ov' : AVal) (o' : List Cel), k ≤ t.length ∧ m = t.length - k ∧ ws = [.ptr id 0, .ptr oid 0, .int .i64 (n : Nat), tv, .int .i64 t.length, .int .i64 (k : Nat)] ∧ Keeps (fun i => i = oid ∨ ov.sid = some i) σ σ' ∧ OutP σ' oid ov' o' ∧ o'.length ≤ 256 ∧ (∀ i, ov'.sid = some i → ov.sid = some i ∨ σ.length ≤ i) ∧ resL H (gD H n) o t = resL H (gD H n) o' (t.drop k))
    [8] (fun e ws σ' => Keeps (fun i => i = oid ∨ ov.sid = some i) σ σ' ∧ match resL H (gD H n) o t with
      | some o' => e = .exit 0 ∧ ∃ ov', OutP σ' oid ov' o' ∧ ∀ i, ov'.sid = some i → ov.sid = some i ∨ σ.length ≤ i
      | none => e = .ret ∧ ws = [.bool false]) t.length
    ⟨0, ov, o, Nat.zero_le _, rfl, ?_, Keeps.refl _ _, ho, hol, fun i hi => .inl hi, by simp⟩ ?_ ?_
  · simp -dsimp only [↓WPd, ↓wpC_block, ↓wpC_cond, WPu, Bool.false_eq_true, Bool.true_eq_false, Bool.not_true, Bool.not_false, if_true, if_false, ite_true, ite_false, Nat.reduceEqDiff, Nat.reduceLT, true_and, List.map_cons, List.map_nil, Nat.zero_add, Nat.reduceBEq]; rfl
  · rintro m ws σ' ⟨k, ov', o', hk, rfl, rfl, g, ho', hol', hov', hres⟩
    simp -dsimp only [↓WPd, ↓wpC_block, ↓wpC_cond, WPu, Bool.false_eq_true, Bool.true_eq_false, Bool.not_true, Bool.not_false, if_true, if_false, ite_true, ite_false, Nat.reduceEqDiff, Nat.reduceLT, true_and, List.map_cons, List.map_nil, Nat.zero_add, Nat.reduceBEq]
    refine condP_dec (fun hc => ?_) (fun hc => ?_)
    · have hk' : k < t.length := by omega
      have ht' : SlOf σ' 5 tv (CC t) := ht.keeps g fun i hi e => by
        rcases e with e | e
        · exact ht.noCell ho.cell (e ▸ hi)
        · exact hne i hi e
      have hke : k < (CC t).length := by simpa using hk'
      have ia : iaddrV 5 tv (.int .i64 k) = some (addrOf 5 tv k) := ht'.iaddr hke .i64
      have ld : loadV σ' 5 true (addrOf 5 tv k) = some (t[k]).val := ht'.loadA hke (cs := (t[k]).cs) (by rw [cel_get]; rfl)
      simp -dsimp only [↓WPd, ↓wpC_block, ↓wpC_cond, WPu, Bool.false_eq_true, Bool.true_eq_false, Bool.not_true, Bool.not_false, if_true, if_false, ite_true, ite_false, Nat.reduceEqDiff, Nat.reduceLT, true_and, List.map_cons, List.map_nil, Nat.zero_add, Nat.reduceBEq, ia, ld, cel_putR]
      have oj : (σ' ++ [AObj.cells (t[k]).cs])[σ'.length]? = some (.cells (t[k]).cs) := by simp
      have g1 : Grows σ' (σ' ++ [AObj.cells (t[k]).cs]) := Grows.app _ _
      generalize σ' ++ [AObj.cells (t[k]).cs] = σ1 at oj g1
      have lj : loadV σ1 5 true (.ptr σ'.length 0) = some (t[k]).val := loadN_cells oj rfl
      have h1 : HeapP σ1 id mid vs H := (h.keeps g (by rintro (e | e); exact hoid e.symm; exact (hovid _ e).1 rfl) (by rintro (e | e); exact hoid2 e.symm; exact (hovid _ e).2.1 rfl)).grow g1
      generalize σ'.length = j at oj lj
      simp -dsimp only [↓WPd, ↓wpC_block, ↓wpC_cond, WPu, Bool.false_eq_true, Bool.true_eq_false, Bool.not_true, Bool.not_false, if_true, if_false, ite_true, ite_false, Nat.reduceEqDiff, Nat.reduceLT, true_and, List.map_cons, List.map_nil, Nat.zero_add, Nat.reduceBEq, lj, cel_lit]
      refine calledW_of (next_ok d σ1 (.ptr id 0) _ H [t[k]] h1.v (SlOf.fs _ _ _ _ _)) ?_
      rintro r σ2 ⟨u, rfl, hu, g2⟩
      have lj2 : loadV σ2 5 true (.ptr j 0) = some (t[k]).val := loadN_cells (g2.get oj) rfl
      have g12 := g1.trans g2
      have hc2 : σ2[oid]? = some (.cells [ov']) := g12.get ho'.cell
      have ow2 := ho'.own.grow g12
      have h2 := h1.grow g2
      have e0 : ([ov'] : List AVal)[0]? = some ov' := rfl
      have hdr : t.drop k = t[k] :: t.drop (k + 1) := List.drop_eq_getElem_cons hk'
      rw [hdr] at hres
      cases hn : hnext H [t[k]] with
      | none =>
        obtain ⟨w, σ3, a1, a2, a3, a4, a5⟩ := ow2.append [(t[k]).val] 48 (by rw [List.length_map]; simp; omega)
        have lit1 : elems 5 σ2 (.fslice (AVal.tagL [(t[k]).val]) true 5 [(t[k]).val]) = some [(t[k]).val] := elems_fs 5 _ true σ2 _
        have hc3 : σ3[oid]? = some (.cells [ov']) := a3.get hc2 (fun e => ow2.noCell hc2 e)
        have st := store_cells hc3 (off := 0) (v := w) (by simp) a2.one
        simp -dsimp only [↓WPd, ↓wpC_block, ↓wpC_cond, WPu, Bool.false_eq_true, Bool.true_eq_false, Bool.not_true, Bool.not_false, if_true, if_false, ite_true, ite_false, Nat.reduceEqDiff, Nat.reduceLT, true_and, List.map_cons, List.map_nil, Nat.zero_add, Nat.reduceBEq, WPm, List.getElem?_cons_zero, List.getElem?_cons_succ, hn, Option.isSome_none, isnil_ptr, load_cells hc2, e0, lj2, cel_lit, lit1, a1, st]
        have hc4 : (σ3.set oid (AObj.cells [w]))[oid]? = some (.cells [w]) := get_set hc3
        have k4 : Keeps (fun i => i = oid) σ3 (σ3.set oid (AObj.cells [w])) := Keeps.set _ _ _
        have o4 : Own (σ3.set oid (AObj.cells [w])) 5 w (CC (o' ++ [t[k]])) := by rw [show CC (o' ++ [t[k]]) = CC o' ++ [(t[k]).val] by simp]; exact a2.keeps k4 fun i hi e => a2.noCell hc3 (e ▸ hi)
        have gg : Keeps (fun i => i = oid ∨ ov.sid = some i) σ (σ3.set oid (AObj.cells [w])) := by
          refine Keeps.trans (Keeps.trans (Keeps.trans g g12 fun i _ e => e.elim) a3 fun i hi e => ?_) k4 fun i _ e => .inl e
          rcases hov' i e with e | e
          · exact .inr e
          · omega
        have hst : ([ov'] : List AVal).set 0 w = [w] := rfl
        rw [hst]
        generalize σ3.set oid (AObj.cells [w]) = σ4 at hc4 o4 gg
        have e1 : ([w] : List AVal)[0]? = some w := rfl
        have lw := o4.sl.len
        rw [List.length_map, List.length_append, List.length_singleton] at lw
        have hr : resL H (gD H n) o' (t[k] :: t.drop (k + 1)) = if (o' ++ [t[k]]).length ≤ 256 then resL H (gD H n) (o' ++ [t[k]]) (t.drop (k + 1)) else none := by simp only [resL, hn]
        rw [hr] at hres
        simp -dsimp only [↓WPd, ↓wpC_block, ↓wpC_cond, WPu, Bool.false_eq_true, Bool.true_eq_false, Bool.not_true, Bool.not_false, if_true, if_false, ite_true, ite_false, Nat.reduceEqDiff, Nat.reduceLT, true_and, List.map_cons, List.map_nil, Nat.zero_add, Nat.reduceBEq, WPm, load_cells hc4, e1, lw]
        by_cases h256 : o'.length + 1 ≤ 256
        · have e2 : decide (((o'.length + 1 : Nat) : Int) > 256) = false := decide_eq_false (by omega)
          rw [if_pos (by simpa using h256)] at hres
          simp -dsimp only [↓WPd, ↓wpC_block, ↓wpC_cond, WPu, Bool.false_eq_true, Bool.true_eq_false, Bool.not_true, Bool.not_false, if_true, if_false, ite_true, ite_false, Nat.reduceEqDiff, Nat.reduceLT, true_and, List.map_cons, List.map_nil, Nat.zero_add, Nat.reduceBEq, WPm, e2]
          refine ⟨t.length - (k + 1), by omega, k + 1, w, o' ++ [t[k]], by omega, rfl, by rw [wrap_i64 (by omega) (by omega), Int.natCast_add, Int.natCast_one], gg, ⟨hc4, o4⟩, by simpa using h256, fun i hi => ?_, hres⟩
          rcases a4 i hi with e | e
          · exact hov' i e
          · have := (Keeps.trans g g12 fun i _ e => e.elim).1; exact .inr (by omega)
        · have e2 : decide (((o'.length + 1 : Nat) : Int) > 256) = true := decide_eq_true (by omega)
          rw [if_neg (by simpa using h256)] at hres
          simp -dsimp only [↓WPd, ↓wpC_block, ↓wpC_cond, WPu, Bool.false_eq_true, Bool.true_eq_false, Bool.not_true, Bool.not_false, if_true, if_false, ite_true, ite_false, Nat.reduceEqDiff, Nat.reduceLT, true_and, List.map_cons, List.map_nil, Nat.zero_add, Nat.reduceBEq, WPm, e2]
          refine ⟨gg, ?_⟩
          rw [hres]
          trivial
      | some u' =>
        rw [hn] at hu
        simp only [Option.getD_some] at hu
        have gu : glob u' = true := (hw.ok _ (hnext_mem hn).2.2).2.2.1
        have rd := glob_right (deref_glob hw gu)
        have gk : Keeps (fun i => i = oid ∨ ov.sid = some i) σ σ2 := Keeps.trans g g12 fun i _ e => e.elim
        cases n with
        | zero =>
          have hr : resL H (gD H 0) o' (t[k] :: t.drop (k + 1)) = none := by simp only [resL, hn, gD]
          rw [hr] at hres
          have e0 : (((0 : Nat) : Int) == 0) = true := rfl
          simp -dsimp only [↓WPd, ↓wpC_block, ↓wpC_cond, WPu, Bool.false_eq_true, Bool.true_eq_false, Bool.not_true, Bool.not_false, if_true, if_false, ite_true, ite_false, Nat.reduceEqDiff, Nat.reduceLT, true_and, List.map_cons, List.map_nil, Nat.zero_add, Nat.reduceBEq, WPm, List.getElem?_cons_zero, List.getElem?_cons_succ, hn, Option.isSome_some, e0]
          refine ⟨gk, ?_⟩
          rw [hres]
          trivial
        | succ m =>
          have e3 : (((m + 1 : Nat) : Int) == 0) = false := by simp; omega
          have e4 : IntKind.i64.wrap (((m + 1 : Nat) : Int) - 1) = (m : Int) := by rw [wrap_i64 (by omega) (by omega)]; omega
          simp -dsimp only [↓WPd, ↓wpC_block, ↓wpC_cond, WPu, Bool.false_eq_true, Bool.true_eq_false, Bool.not_true, Bool.not_false, if_true, if_false, ite_true, ite_false, Nat.reduceEqDiff, Nat.reduceLT, true_and, List.map_cons, List.map_nil, Nat.zero_add, Nat.reduceBEq, WPm, List.getElem?_cons_zero, List.getElem?_cons_succ, hn, Option.isSome_some, e3, e4]
          refine calledW_of (follow_ok d σ2 (.ptr id 0) u H u' h2.v (hu σ2)) ?_
          rintro x σ3 ⟨hx, g3, hxt⟩
          have hxT : Told x (deref H u') := by
            rcases hxt with rfl | h
            · have e := (hu σ3).els
              rw [hx.els] at e
              injection e with e
              rw [CC_inj e]; exact hu
            · exact h
          simp -dsimp only [↓WPd, ↓wpC_block, ↓wpC_cond, WPu, Bool.false_eq_true, Bool.true_eq_false, Bool.not_true, Bool.not_false, if_true, if_false, ite_true, ite_false, Nat.reduceEqDiff, Nat.reduceLT, true_and, List.map_cons, List.map_nil, Nat.zero_add, Nat.reduceBEq, WPm, e4]
          refine calledW_of (ih m (by omega) (by omega) σ3 ov' x o' (deref H u') (h2.grow g3) ⟨g3.get hc2, ow2.grow g3⟩ hol' hx (right_len rd).2 fun i hi => ?_) ?_
          · have := (hxT []).lt hi; simp at this
          rintro r4 σ4 ⟨k4, hm⟩
          have gg : Keeps (fun i => i = oid ∨ ov.sid = some i) σ σ4 := by
            refine Keeps.trans (Keeps.trans gk g3 fun i _ e => e.elim) k4 fun i hi e => ?_
            rcases e with e | e
            · exact .inl e
            · rcases hov' i e with e | e
              · exact .inr e
              · omega
          cases hd : resD H m o' (deref H u') with
          | none =>
            rw [hd] at hm
            simp only at hm
            subst hm
            have hr : resL H (gD H (m + 1)) o' (t[k] :: t.drop (k + 1)) = none := by simp only [resL, hn, gD, hd]
            rw [hr] at hres
            simp -dsimp only [↓WPd, ↓wpC_block, ↓wpC_cond, WPu, Bool.false_eq_true, Bool.true_eq_false, Bool.not_true, Bool.not_false, if_true, if_false, ite_true, ite_false, Nat.reduceEqDiff, Nat.reduceLT, true_and, List.map_cons, List.map_nil, Nat.zero_add, Nat.reduceBEq, WPm]
            refine ⟨gg, ?_⟩
            rw [hres]
            trivial
          | some o1 =>
            rw [hd] at hm
            obtain ⟨rfl, ov1, ⟨hc5, o5⟩, hov1⟩ := hm
            have e1 : ([ov1] : List AVal)[0]? = some ov1 := rfl
            have lw := o5.sl.len
            rw [List.length_map] at lw
            have hr : resL H (gD H (m + 1)) o' (t[k] :: t.drop (k + 1)) = if o1.length ≤ 256 then resL H (gD H (m + 1)) o1 (t.drop (k + 1)) else none := by simp only [resL, hn, gD, hd]
            rw [hr] at hres
            simp -dsimp only [↓WPd, ↓wpC_block, ↓wpC_cond, WPu, Bool.false_eq_true, Bool.true_eq_false, Bool.not_true, Bool.not_false, if_true, if_false, ite_true, ite_false, Nat.reduceEqDiff, Nat.reduceLT, true_and, List.map_cons, List.map_nil, Nat.zero_add, Nat.reduceBEq, WPm, isnil_ptr, load_cells hc5, e1, lw]
            by_cases h256 : o1.length ≤ 256
            · have e2 : decide (((o1.length : Nat) : Int) > 256) = false := decide_eq_false (by omega)
              rw [if_pos h256] at hres
              simp -dsimp only [↓WPd, ↓wpC_block, ↓wpC_cond, WPu, Bool.false_eq_true, Bool.true_eq_false, Bool.not_true, Bool.not_false, if_true, if_false, ite_true, ite_false, Nat.reduceEqDiff, Nat.reduceLT, true_and, List.map_cons, List.map_nil, Nat.zero_add, Nat.reduceBEq, WPm, e2]
              refine ⟨t.length - (k + 1), by omega, k + 1, ov1, o1, by omega, rfl, by rw [wrap_i64 (by omega) (by omega)]; simp only [Int.natCast_add, Int.natCast_one], gg, ⟨hc5, o5⟩, h256, fun i hi => ?_, hres⟩
              rcases hov1 i hi with e | e
              · exact hov' i e
              · have := gk.1; have := g3.1; exact .inr (by omega)
            · have e2 : decide (((o1.length : Nat) : Int) > 256) = true := decide_eq_true (by omega)
              rw [if_neg h256] at hres
              simp -dsimp only [↓WPd, ↓wpC_block, ↓wpC_cond, WPu, Bool.false_eq_true, Bool.true_eq_false, Bool.not_true, Bool.not_false, if_true, if_false, ite_true, ite_false, Nat.reduceEqDiff, Nat.reduceLT, true_and, List.map_cons, List.map_nil, Nat.zero_add, Nat.reduceBEq, WPm, e2]
              refine ⟨gg, ?_⟩
              rw [hres]
              trivial
    · have : k = t.length := by omega
      subst this
      rw [List.drop_length] at hres
      simp only [resL] at hres
      simp -dsimp only [↓WPd, ↓wpC_block, ↓wpC_cond, WPu, Bool.false_eq_true, Bool.true_eq_false, Bool.not_true, Bool.not_false, if_true, if_false, ite_true, ite_false, Nat.reduceEqDiff, Nat.reduceLT, true_and, List.map_cons, List.map_nil, Nat.zero_add, Nat.reduceBEq]
      refine ⟨g, ?_⟩
      rw [hres]
      exact ⟨ov', ho', hov'⟩
  · rintro e σ' env ⟨g, hm⟩
    cases hd : resL H (gD H n) o t with
    | none =>
      rw [hd] at hm
      obtain ⟨rfl, hv⟩ := hm
      simp only [List.map_cons, List.map_nil, List.cons.injEq, and_true] at hv
      simp -dsimp only [↓WPd, ↓wpC_block, ↓wpC_cond, WPu, Bool.false_eq_true, Bool.true_eq_false, Bool.not_true, Bool.not_false, if_true, if_false, ite_true, ite_false, Nat.reduceEqDiff, Nat.reduceLT, true_and, List.map_cons, List.map_nil, Nat.zero_add, Nat.reduceBEq, hv]
      exact ⟨g, trivial⟩
    | some o' =>
      rw [hd] at hm
      obtain ⟨rfl, ov', h1, h2⟩ := hm
      simp -dsimp only [↓WPd, ↓wpC_block, ↓wpC_cond, WPu, Bool.false_eq_true, Bool.true_eq_false, Bool.not_true, Bool.not_false, if_true, if_false, ite_true, ite_false, Nat.reduceEqDiff, Nat.reduceLT, true_and, List.map_cons, List.map_nil, Nat.zero_add, Nat.reduceBEq]
      exact ⟨g, ov', h1, h2⟩
end Go.Proofs.YtkjnanfkclijcaaDoor.Am

namespace Go.Proofs.YtkjnanfkclijcaaDoor.Am
open Go
set_option linter.unusedVariables false
set_option linter.unusedSimpArgs false
set_option linter.unusedSectionVars false
def addN (ws : List Nm) (v : Nm) : List Nm := if ws.contains v then ws else ws ++ [v]
theorem addN_len (ws : List Nm) (v : Nm) : (addN ws v).length ≤ ws.length + 1 := by unfold addN; split <;> simp
def varsL (ws : List Nm) (t : List Cel) : List Nm := t.foldl (fun ws c => if c.k = 4 then addN ws c.v else ws) ws
theorem varsL_snoc (ws : List Nm) (t : List Cel) (c : Cel) : varsL ws (t ++ [c]) = if c.k = 4 then addN (varsL ws t) c.v else varsL ws t := by simp [varsL]
theorem varsL_len (ws : List Nm) : ∀ (t : List Cel), (varsL ws t).length ≤ ws.length + t.length := by
  intro t
  induction t generalizing ws with
  | nil => simp [varsL]
  | cons c t ih =>
    simp only [varsL, List.foldl_cons, List.length_cons]
    have := ih (if c.k = 4 then addN ws c.v else ws)
    simp only [varsL] at this
    have h2 : (if c.k = 4 then addN ws c.v else ws).length ≤ ws.length + 1 := by
      split
      · exact addN_len _ _
      · omega
    omega
structure TSt where
  ls : List (List Cel)
  ws : List Nm
def foldO {S α : Type} (f : S → α → α → Option S) : S → List α → List α → Option S
  | s, [], _ => some s
  | s, _ :: _, [] => some s
  | s, a :: azs, b :: bs => (f s a b).bind fun s' => foldO f s' azs bs
theorem foldO_step {S α : Type} {f : S → α → α → Option S} {s : S} {azs bs : List α} {k : Nat} (ha : k < azs.length) (hb : k < bs.length) : foldO f s (azs.drop k) (bs.drop k) = (f s azs[k] bs[k]).bind fun s' => foldO f s' (azs.drop (k + 1)) (bs.drop (k + 1)) := by
  rw [List.drop_eq_getElem_cons ha, List.drop_eq_getElem_cons hb, foldO]
theorem flat_step {azs : List (List Cel)} {k : Nat} (h : k < azs.length) : (azs.take (k + 1)).flatten.length = (azs.take k).flatten.length + (azs[k]).length := by
  rw [List.take_succ_eq_append_getElem h, List.flatten_append, List.length_append]; simp only [List.flatten_cons, List.flatten_nil, List.append_nil]
theorem flat_le (azs : List (List Cel)) (k : Nat) : (azs.take k).flatten.length ≤ azs.flatten.length := by
  have h : azs.flatten = (azs.take k).flatten ++ (azs.drop k).flatten := by rw [← List.flatten_append, List.take_append_drop]
  rw [h]; simp
structure TryR where
  k : Nat
  ls : List (List Cel)
  ws : List Nm
end Go.Proofs.YtkjnanfkclijcaaDoor.Am

namespace Go.Proofs.YtkjnanfkclijcaaDoor.Am
open Go
set_option linter.unusedVariables false
set_option linter.unusedSimpArgs false
set_option linter.unusedSectionVars false
set_option maxRecDepth 100000
abbrev NN (ws : List Nm) : List AVal := ws.map nmV
theorem names_at {σ : Store} {l : AVal} {ws : List Nm} (hl : SlOf σ 2 l (NN ws)) {i : Nat} (hi : i < ws.length) : iaddrV 2 l (.int .i64 i) = some (addrOf 2 l i) ∧ loadV σ 2 true (addrOf 2 l i) = some (nmV ws[i]) := by
  have hi' : i < (NN ws).length := by rw [List.length_map]; exact hi
  exact ⟨hl.iaddr hi' .i64, hl.loadA hi' (cs := nmC ws[i]) (by rw [List.getElem_map]; rfl)⟩
theorem names_len {σ : Store} {l : AVal} {ws : List Nm} (hl : SlOf σ 2 l (NN ws)) : lenSV l = some ws.length := by
  have := hl.len; rwa [List.length_map] at this
theorem nm_lit (v : Nm) : fillL 2 true (List.replicate 1 (zel [AVal.int IntKind.i64 0, AVal.int IntKind.i64 0] true)) [(0, nmV v)] = some [nmV v] := rfl
theorem elems2 (tg : Nat) (σ : Store) (x : AVal) : elems 2 σ (.fslice tg true 2 [x]) = some [x] := elems_fs 2 tg true σ [x]
theorem contains_not {ws : List Nm} {v : Nm} (h : ∀ (j : Nat) (hj : j < ws.length), ws[j] ≠ v) : ws.contains v = false := by
  rw [Bool.eq_false_iff]
  intro hc
  rw [List.contains_iff_mem] at hc
  obtain ⟨j, hj, e⟩ := List.getElem_of_mem hc
  exact h j hj e
theorem contains_at {ws : List Nm} {v : Nm} {k : Nat} (hk : k < ws.length) (h : ws[k] = v) : ws.contains v = true := by
  rw [List.contains_iff_mem, ← h]; exact List.getElem_mem hk
section
variable (d : Nat) (σ : Store)
theorem hasname_ok (l : AVal) (ws : List Nm) (v : Nm) (hx : ws.length < 2 ^ 40) (hl : SlOf σ 2 l (NN ws)) :
    Called CU.cfg d 96 [l, nmV v] σ fun r σ' => r = .bool (ws.contains v) ∧ Grows σ σ' := by
  refine called_of (fn := CU.a96) rfl (Nat.le_of_ble_eq_true rfl) ?_
  simp only [CU.a96]
  have ll := names_len hl
  simp -dsimp only [↓WPd, ↓wpC_block, ↓wpC_cond, WPu, Bool.false_eq_true, Bool.true_eq_false, Bool.not_true, Bool.not_false, if_true, if_false, ite_true, ite_false, Nat.reduceEqDiff, Nat.reduceLT, true_and, List.map_cons, List.map_nil, Nat.zero_add, Nat.reduceBEq, nm_cells, nm_one]
  have ho : (σ ++ [AObj.cells (nmC v)])[σ.length]? = some (.cells (nmC v)) := by simp
  have g0 : Grows σ (σ ++ [AObj.cells (nmC v)]) := Grows.app _ _
  have hl1 := hl.grow g0
  generalize σ ++ [AObj.cells (nmC v)] = σ1 at ho g0 hl1
  generalize σ.length = i1 at ho
  refine loop_rule2 (fun m vs σ' => ∃ k, k ≤ ws.length ∧ m = ws.length - k ∧ vs = [l, .ptr i1 0, .int .i64 k] ∧ σ' = σ1 ∧ ∀ (j : Nat) (hj : j < ws.length), j < k → ws[j] ≠ v) [4]
    (fun e vs σ' => σ' = σ1 ∧ ((e = .exit 0 ∧ ws.contains v = false) ∨ (e = .ret ∧ ws.contains v = true ∧ vs = [.bool true]))) ws.length ⟨0, Nat.zero_le _, rfl, ?_, rfl, fun j _ h => by omega⟩ ?_ ?_
  · simp -dsimp only [↓WPd, ↓wpC_block, ↓wpC_cond, WPu, Bool.false_eq_true, Bool.true_eq_false, Bool.not_true, Bool.not_false, if_true, if_false, ite_true, ite_false, Nat.reduceEqDiff, Nat.reduceLT, true_and, List.map_cons, List.map_nil, Nat.zero_add, Nat.reduceBEq]; rfl
  · rintro m vs σ' ⟨k, hk, rfl, rfl, rfl, hall⟩
    simp -dsimp only [↓WPd, ↓wpC_block, ↓wpC_cond, WPu, Bool.false_eq_true, Bool.true_eq_false, Bool.not_true, Bool.not_false, if_true, if_false, ite_true, ite_false, Nat.reduceEqDiff, Nat.reduceLT, true_and, List.map_cons, List.map_nil, Nat.zero_add, Nat.reduceBEq, ll]
    refine condP_dec (fun h => ?_) (fun h => ?_)
    · have hk' : k < ws.length := by omega
      obtain ⟨e1, e2⟩ := names_at hl1 hk'
      simp -dsimp only [↓WPd, ↓wpC_block, ↓wpC_cond, WPu, Bool.false_eq_true, Bool.true_eq_false, Bool.not_true, Bool.not_false, if_true, if_false, ite_true, ite_false, Nat.reduceEqDiff, Nat.reduceLT, true_and, List.map_cons, List.map_nil, Nat.zero_add, Nat.reduceBEq, e1, e2, load_nm ho, nm_eqs]
      refine condP_intro (fun h => ?_) (fun h => ?_)
      · rw [decide_eq_true_eq] at h
        simp -dsimp only [↓WPd, ↓wpC_block, ↓wpC_cond, WPu, Bool.false_eq_true, Bool.true_eq_false, Bool.not_true, Bool.not_false, if_true, if_false, ite_true, ite_false, Nat.reduceEqDiff, Nat.reduceLT, true_and, List.map_cons, List.map_nil, Nat.zero_add, Nat.reduceBEq]
        exact .inr ⟨contains_at hk' h, trivial⟩
      · rw [decide_eq_false_iff_not] at h
        simp -dsimp only [↓WPd, ↓wpC_block, ↓wpC_cond, WPu, Bool.false_eq_true, Bool.true_eq_false, Bool.not_true, Bool.not_false, if_true, if_false, ite_true, ite_false, Nat.reduceEqDiff, Nat.reduceLT, true_and, List.map_cons, List.map_nil, Nat.zero_add, Nat.reduceBEq]
        refine ⟨ws.length - (k + 1), by omega, k + 1, by omega, rfl, by rw [wrap_i64 (by omega) (by omega), Int.natCast_add, Int.natCast_one], fun j hj hjk => ?_⟩
        by_cases e : j = k
        · subst e; exact h
        · exact hall j hj (by omega)
    · simp -dsimp only [↓WPd, ↓wpC_block, ↓wpC_cond, WPu, Bool.false_eq_true, Bool.true_eq_false, Bool.not_true, Bool.not_false, if_true, if_false, ite_true, ite_false, Nat.reduceEqDiff, Nat.reduceLT, true_and, List.map_cons, List.map_nil, Nat.zero_add, Nat.reduceBEq]
      exact .inl (contains_not fun j hj => hall j hj (by omega))
  · rintro e σ' env ⟨rfl, ⟨rfl, hno⟩ | ⟨rfl, hyes, hv⟩⟩
    · simp -dsimp only [↓WPd, ↓wpC_block, ↓wpC_cond, WPu, Bool.false_eq_true, Bool.true_eq_false, Bool.not_true, Bool.not_false, if_true, if_false, ite_true, ite_false, Nat.reduceEqDiff, Nat.reduceLT, true_and, List.map_cons, List.map_nil, Nat.zero_add, Nat.reduceBEq, hno]
      exact g0
    · simp only [List.map_cons, List.map_nil, List.cons.injEq, and_true] at hv
      simp -dsimp only [↓WPd, ↓wpC_block, ↓wpC_cond, WPu, Bool.false_eq_true, Bool.true_eq_false, Bool.not_true, Bool.not_false, if_true, if_false, ite_true, ite_false, Nat.reduceEqDiff, Nat.reduceLT, true_and, List.map_cons, List.map_nil, Nat.zero_add, Nat.reduceBEq, hv, hyes]
      exact g0
theorem Own.name {σ : Store} {l : AVal} {ws : List Nm} (h : Own σ 2 l (NN ws)) (v : Nm) (hx : ws.length < 2 ^ 40) :
    ∃ l' σ', appendV σ 2 16 l [nmV v] = some (l', σ') ∧ Own σ' 2 l' (NN (ws ++ [v])) ∧ Keeps (fun i => l.sid = some i) σ σ' ∧ (∀ id, l'.sid = some id → l.sid = some id ∨ id = σ.length) ∧ NoLit l' := by
  obtain ⟨l', σ', a, b, c, e, f⟩ := h.append [nmV v] 16 (by simp only [List.length_map, List.length_singleton]; omega)
  exact ⟨l', σ', a, by simpa using b, c, e, f (.inr (by simp))⟩
end
end Go.Proofs.YtkjnanfkclijcaaDoor.Am

namespace Go.Proofs.YtkjnanfkclijcaaDoor.Am
open Go
set_option linter.unusedVariables false
set_option linter.unusedSimpArgs false
set_option linter.unusedSectionVars false
set_option maxRecDepth 100000
theorem cel_put (σ : Store) (c : Cel) : storeV (σ ++ [AObj.cells [.int .u8 0, .str [], .int .i64 0, .int .i64 0, .int .i64 0]]) 5 (.ptr σ.length 0) c.val = some (σ ++ [AObj.cells c.cs]) := by
  have h : (σ ++ [AObj.cells [.int .u8 0, .str [], .int .i64 0, .int .i64 0, .int .i64 0]])[σ.length]? = some (.cells [.int .u8 0, .str [], .int .i64 0, .int .i64 0, .int .i64 0]) := by simp
  have e : c.val = .agg c.cs := rfl
  rw [e, storeN_cells (cs' := c.cs) (n := 5) h rfl rfl rfl, set_last]
theorem cela_at {σ : Store} {l : AVal} {t : List Cel} (hl : SlOf σ 5 l (CC t)) {i : Nat} (hi : i < t.length) : iaddrV 5 l (.int .i64 i) = some (addrOf 5 l i) ∧ loadV σ 5 true (addrOf 5 l i) = some (t[i]).val := by
  have hi' : i < (CC t).length := by rw [List.length_map]; exact hi
  exact ⟨hl.iaddr hi' .i64, hl.loadA hi' (cs := (t[i]).cs) (by rw [cel_get]; rfl)⟩
theorem Terms.at0 {σ : Store} {l : AVal} {ts : List (List Cel)} (h : Terms σ l ts) {i : Nat} (hi : i < ts.length) : ∃ e, SlOf σ 5 e (CC ts[i]) ∧ ∀ σ', Grows σ σ' → iaddrV 1 l (.int .i64 i) = some (addrOf 1 l i) ∧ loadV σ' 1 false (addrOf 1 l i) = some e := by
  obtain ⟨es, h1, h2⟩ := h
  have hi' : i < es.length := by rw [h2.len]; exact hi
  obtain ⟨e, he1, he2⟩ := h2.get hi
  have hee : es[i] = e := by rw [List.getElem?_eq_getElem hi'] at he1; exact Option.some.inj he1
  refine ⟨e, he2, fun σ' g => ⟨h1.iaddr hi' .i64, ?_⟩⟩
  have := (h1.grow g).load1 hi' (by rw [hee]; exact he2.one) 1
  rw [hee] at this; exact this
section
variable (d : Nat) (σ : Store)
theorem rvars_ok (lv : AVal) (ts : List (List Cel)) (hx : ts.flatten.length < 2 ^ 30) (hn : ts.length < 2 ^ 30) (hl : Terms σ lv ts) :
    Called CU.cfg d 103 [lv] σ fun r σ' => Grows σ σ' ∧ Own σ' 2 r (NN (varsL [] ts.flatten)) ∧ Fresh σ.length r := by
  refine called_of (fn := CU.a103) rfl (Nat.le_of_ble_eq_true rfl) ?_
  simp only [CU.a103]
  have ll := hl.len
  simp -dsimp only [↓WPd, ↓wpC_block, ↓wpC_cond, WPu, Bool.false_eq_true, Bool.true_eq_false, Bool.not_true, Bool.not_false, if_true, if_false, ite_true, ite_false, Nat.reduceEqDiff, Nat.reduceLT, true_and, List.map_cons, List.map_nil, Nat.zero_add, Nat.reduceBEq, ll]
  refine loop_rule2 (fun m vs σ' => ∃ k acc, k ≤ ts.length ∧ m = ts.length - k ∧ vs = [lv, acc, .int .i64 k] ∧ Grows σ σ' ∧ Own σ' 2 acc (NN (varsL [] (ts.take k).flatten)) ∧ Fresh σ.length acc) [3]
    (fun e vs σ' => e = .exit 0 ∧ ∃ acc, vs = [acc] ∧ Grows σ σ' ∧ Own σ' 2 acc (NN (varsL [] ts.flatten)) ∧ Fresh σ.length acc) ts.length ⟨0, .nilslice, Nat.zero_le _, rfl, ?_, Keeps.refl _ _, Own.nil _ _, Fresh.nil _⟩ ?_ ?_
  · simp -dsimp only [↓WPd, ↓wpC_block, ↓wpC_cond, WPu, Bool.false_eq_true, Bool.true_eq_false, Bool.not_true, Bool.not_false, if_true, if_false, ite_true, ite_false, Nat.reduceEqDiff, Nat.reduceLT, true_and, List.map_cons, List.map_nil, Nat.zero_add, Nat.reduceBEq]; rfl
  · rintro m vs σ' ⟨k, acc, hk, rfl, rfl, g, ha, fa⟩
    simp -dsimp only [↓WPd, ↓wpC_block, ↓wpC_cond, WPu, Bool.false_eq_true, Bool.true_eq_false, Bool.not_true, Bool.not_false, if_true, if_false, ite_true, ite_false, Nat.reduceEqDiff, Nat.reduceLT, true_and, List.map_cons, List.map_nil, Nat.zero_add, Nat.reduceBEq, ll]
    refine condP_dec (fun h => ?_) (fun h => ?_)
    · have hk' : k < ts.length := by omega
      obtain ⟨e, e3, e0⟩ := hl.at0 hk'
      obtain ⟨e1, e2⟩ := e0 σ' g
      have le := e3.len
      rw [List.length_map] at le
      have hf : (ts.take (k + 1)).flatten = (ts.take k).flatten ++ ts[k] := by
        rw [List.take_succ_eq_append_getElem hk', List.flatten_append]; simp only [List.flatten_cons, List.flatten_nil, List.append_nil]
      have hb := flat_le ts (k + 1)
      rw [hf, List.length_append] at hb
      simp -dsimp only [↓WPd, ↓wpC_block, ↓wpC_cond, WPu, Bool.false_eq_true, Bool.true_eq_false, Bool.not_true, Bool.not_false, if_true, if_false, ite_true, ite_false, Nat.reduceEqDiff, Nat.reduceLT, true_and, List.map_cons, List.map_nil, Nat.zero_add, Nat.reduceBEq]
      refine loop_rule2 (fun m vs σ2 => ∃ j acc, j ≤ (ts[k]).length ∧ m = (ts[k]).length - j ∧ vs = [lv, acc, .int .i64 k, .int .i64 j] ∧ Grows σ σ2 ∧ Own σ2 2 acc (NN (varsL [] ((ts.take k).flatten ++ (ts[k]).take j))) ∧ Fresh σ.length acc) [0, 3, 4]
        (fun x vs σ2 => x = .exit 2 ∧ ∃ acc, vs = [lv, acc, .int .i64 k] ∧ Grows σ σ2 ∧ Own σ2 2 acc (NN (varsL [] ((ts.take k).flatten ++ ts[k]))) ∧ Fresh σ.length acc) (ts[k]).length ⟨0, acc, Nat.zero_le _, rfl, ?_, g, by simpa using ha, fa⟩ ?_ ?_
      · simp -dsimp only [↓WPd, ↓wpC_block, ↓wpC_cond, WPu, Bool.false_eq_true, Bool.true_eq_false, Bool.not_true, Bool.not_false, if_true, if_false, ite_true, ite_false, Nat.reduceEqDiff, Nat.reduceLT, true_and, List.map_cons, List.map_nil, Nat.zero_add, Nat.reduceBEq]; rfl
      · rintro m vs σ2 ⟨j, acc, hj, rfl, rfl, g2, ha, fa⟩
        obtain ⟨b1, b2⟩ := e0 σ2 g2
        simp -dsimp only [↓WPd, ↓wpC_block, ↓wpC_cond, WPu, Bool.false_eq_true, Bool.true_eq_false, Bool.not_true, Bool.not_false, if_true, if_false, ite_true, ite_false, Nat.reduceEqDiff, Nat.reduceLT, true_and, List.map_cons, List.map_nil, Nat.zero_add, Nat.reduceBEq, b1, b2, le]
        refine condP_dec (fun h => ?_) (fun h => ?_)
        · have hj' : j < (ts[k]).length := by omega
          have he := e3.grow g2
          obtain ⟨a1, a2⟩ := cela_at he hj'
          have hv := varsL_snoc [] ((ts.take k).flatten ++ (ts[k]).take j) (ts[k])[j]
          rw [List.append_assoc, ← List.take_succ_eq_append_getElem hj'] at hv
          have hvl := varsL_len [] ((ts.take k).flatten ++ (ts[k]).take j)
          rw [List.length_append, List.length_take] at hvl
          simp only [List.length_nil] at hvl
          simp -dsimp only [↓WPd, ↓wpC_block, ↓wpC_cond, WPu, Bool.false_eq_true, Bool.true_eq_false, Bool.not_true, Bool.not_false, if_true, if_false, ite_true, ite_false, Nat.reduceEqDiff, Nat.reduceLT, true_and, List.map_cons, List.map_nil, Nat.zero_add, Nat.reduceBEq, b1, b2, a1, a2, cel_put]
          generalize hcc : (ts[k])[j] = c at *
          have oc : (σ2 ++ [AObj.cells c.cs])[σ2.length]? = some (.cells c.cs) := by simp
          have g3 : Grows σ2 (σ2 ++ [AObj.cells c.cs]) := Grows.app _ _
          have he3 := he.grow g3
          have ha3 := ha.grow g3
          have gg := g2.trans g3
          generalize σ2 ++ [AObj.cells c.cs] = σ3 at oc g3 he3 ha3 gg
          generalize σ2.length = ic at oc
          have k4 : ((c.k : Int) == 4) = decide (c.k = 4) := by by_cases h : c.k = 4 <;> simp [h] <;> omega
          simp -dsimp only [↓WPd, ↓wpC_block, ↓wpC_cond, WPu, Bool.false_eq_true, Bool.true_eq_false, Bool.not_true, Bool.not_false, if_true, if_false, ite_true, ite_false, Nat.reduceEqDiff, Nat.reduceLT, true_and, List.map_cons, List.map_nil, Nat.zero_add, Nat.reduceBEq, faddr_ptr, Nat.add_zero, load_cells oc, Cel.g0, k4]
          by_cases h4 : c.k = 4
          · simp -dsimp only [↓WPd, ↓wpC_block, ↓wpC_cond, WPu, Bool.false_eq_true, Bool.true_eq_false, Bool.not_true, Bool.not_false, if_true, if_false, ite_true, ite_false, Nat.reduceEqDiff, Nat.reduceLT, true_and, List.map_cons, List.map_nil, Nat.zero_add, Nat.reduceBEq, decide_eq_true h4, faddr_ptr, Nat.zero_add, celvar_load oc]
            refine calledW_of (hasname_ok d σ3 acc _ c.v (by omega) ha3.sl) ?_
            rintro r σ4 ⟨rfl, g4⟩
            have oc4 := g4.get oc
            have he4 := he3.grow g4
            have ha4 := ha3.grow g4
            simp -dsimp only [↓WPd, ↓wpC_block, ↓wpC_cond, WPu, Bool.false_eq_true, Bool.true_eq_false, Bool.not_true, Bool.not_false, if_true, if_false, ite_true, ite_false, Nat.reduceEqDiff, Nat.reduceLT, true_and, List.map_cons, List.map_nil, Nat.zero_add, Nat.reduceBEq]
            rw [if_pos h4, addN] at hv
            refine condP_intro (fun hc => ?_) (fun hc => ?_)
            · simp only [Bool.not_eq_true'] at hc
              rw [hc, if_neg (by simp)] at hv
              obtain ⟨l', σ5, p1, p2, p3, p4, p5⟩ := ha4.name c.v (by omega)
              simp -dsimp only [↓WPd, ↓wpC_block, ↓wpC_cond, WPu, Bool.false_eq_true, Bool.true_eq_false, Bool.not_true, Bool.not_false, if_true, if_false, ite_true, ite_false, Nat.reduceEqDiff, Nat.reduceLT, true_and, List.map_cons, List.map_nil, Nat.zero_add, Nat.reduceBEq, faddr_ptr, Nat.add_zero, celvar_load oc4, nm_lit, elems2, p1]
              refine ⟨(ts[k]).length - (j + 1), by omega, j + 1, l', by omega, rfl, by rw [wrap_i64 (by omega) (by omega), Int.natCast_add, Int.natCast_one], ?_, ?_, ?_⟩
              · exact Keeps.trans (gg.trans g4) p3 fun i hi e => by have := fa i e; omega
              · rw [hv]; exact p2
              · intro i hi
                rcases p4 i hi with e | e
                · exact fa i e
                · have := (gg.trans g4).1; omega
            · simp only [Bool.not_eq_false'] at hc
              rw [hc, if_pos rfl] at hv
              simp -dsimp only [↓WPd, ↓wpC_block, ↓wpC_cond, WPu, Bool.false_eq_true, Bool.true_eq_false, Bool.not_true, Bool.not_false, if_true, if_false, ite_true, ite_false, Nat.reduceEqDiff, Nat.reduceLT, true_and, List.map_cons, List.map_nil, Nat.zero_add, Nat.reduceBEq]
              refine ⟨(ts[k]).length - (j + 1), by omega, j + 1, acc, by omega, rfl, by rw [wrap_i64 (by omega) (by omega), Int.natCast_add, Int.natCast_one], gg.trans g4, ?_, fa⟩
              rw [hv]; exact ha4
          · rw [if_neg h4] at hv
            simp -dsimp only [↓WPd, ↓wpC_block, ↓wpC_cond, WPu, Bool.false_eq_true, Bool.true_eq_false, Bool.not_true, Bool.not_false, if_true, if_false, ite_true, ite_false, Nat.reduceEqDiff, Nat.reduceLT, true_and, List.map_cons, List.map_nil, Nat.zero_add, Nat.reduceBEq, decide_eq_false h4]
            refine ⟨(ts[k]).length - (j + 1), by omega, j + 1, acc, by omega, rfl, by rw [wrap_i64 (by omega) (by omega), Int.natCast_add, Int.natCast_one], gg, ?_, fa⟩
            rw [hv]; exact ha3
        · have : j = (ts[k]).length := by omega
          subst this
          rw [List.take_length] at ha
          simp -dsimp only [↓WPd, ↓wpC_block, ↓wpC_cond, WPu, Bool.false_eq_true, Bool.true_eq_false, Bool.not_true, Bool.not_false, if_true, if_false, ite_true, ite_false, Nat.reduceEqDiff, Nat.reduceLT, true_and, List.map_cons, List.map_nil, Nat.zero_add, Nat.reduceBEq]
          exact ⟨acc, rfl, g2, ha, fa⟩
      · rintro x σ2 env ⟨rfl, acc, hv, g2, ha, fa⟩
        simp only [List.map_cons, List.map_nil, List.cons.injEq, and_true] at hv
        obtain ⟨v1, v2, v3⟩ := hv
        simp -dsimp only [↓WPd, ↓wpC_block, ↓wpC_cond, WPu, Bool.false_eq_true, Bool.true_eq_false, Bool.not_true, Bool.not_false, if_true, if_false, ite_true, ite_false, Nat.reduceEqDiff, Nat.reduceLT, true_and, List.map_cons, List.map_nil, Nat.zero_add, Nat.reduceBEq, v1, v2, v3]
        refine ⟨ts.length - (k + 1), by omega, k + 1, acc, by omega, rfl, by rw [wrap_i64 (by omega) (by omega), Int.natCast_add, Int.natCast_one], g2, ?_, fa⟩
        rw [hf]; exact ha
    · have : k = ts.length := by omega
      subst this
      rw [List.take_length] at ha
      simp -dsimp only [↓WPd, ↓wpC_block, ↓wpC_cond, WPu, Bool.false_eq_true, Bool.true_eq_false, Bool.not_true, Bool.not_false, if_true, if_false, ite_true, ite_false, Nat.reduceEqDiff, Nat.reduceLT, true_and, List.map_cons, List.map_nil, Nat.zero_add, Nat.reduceBEq]
      exact ⟨acc, rfl, g, ha, fa⟩
  · rintro e σ' env ⟨rfl, acc, hv, g, ha, fa⟩
    simp only [List.map_cons, List.map_nil, List.cons.injEq, and_true] at hv
    simp -dsimp only [↓WPd, ↓wpC_block, ↓wpC_cond, WPu, Bool.false_eq_true, Bool.true_eq_false, Bool.not_true, Bool.not_false, if_true, if_false, ite_true, ite_false, Nat.reduceEqDiff, Nat.reduceLT, true_and, List.map_cons, List.map_nil, Nat.zero_add, Nat.reduceBEq, hv]
    exact ⟨g, ha, fa⟩
end
end Go.Proofs.YtkjnanfkclijcaaDoor.Am

namespace Go.Proofs.YtkjnanfkclijcaaDoor.Am
open Go
set_option linter.unusedVariables false
set_option linter.unusedSimpArgs false
set_option linter.unusedSectionVars false
set_option maxRecDepth 100000
def tryC (k : Nat) (lv wv : AVal) : List AVal := [.int .u8 k, .int .i64 (-1), lv, wv]
abbrev tryZ : List AVal := [.int .u8 0, .int .i64 0, .nilslice, .nilslice]
theorem try_put {σ σ' : Store} {i : Nat} {k : Nat} {lv wv : AVal} (h : σ[i]? = some (.cells tryZ)) (hl : lv.one = true) (hw : wv.one = true) :
    storeV σ 4 (.ptr i 0) (.agg (tryC k lv wv)) = some (σ.set i (.cells (tryC k lv wv))) ∧ loadV (σ.set i (.cells (tryC k lv wv))) 4 true (.ptr i 0) = some (.agg (tryC k lv wv)) := by
  refine ⟨storeN_cells (n := 4) (cs' := tryC k lv wv) h rfl rfl ?_, loadN_cells (get_set h) rfl⟩
  simp only [tryC, List.all_cons, List.all_nil, hl, hw]; rfl
section
variable (d : Nat) (σ : Store)
end
end Go.Proofs.YtkjnanfkclijcaaDoor.Am

namespace Go.Proofs.YtkjnanfkclijcaaDoor.Am
open Go
set_option linter.unusedVariables false
set_option linter.unusedSimpArgs false
set_option linter.unusedSectionVars false
set_option maxRecDepth 100000
def Mv (id aid : Nat) (nv : AVal) : Nat → Prop := fun i => i = id ∨ i = aid ∨ nv.sid = some i
structure Att (fm : AVal → List AVal) (σ0 : Store) (id aid : Nat) (σ : Store) (nv : AVal) (s : TSt) : Prop where
  old : Grows σ0 σ
  lid : σ0.length ≤ id
  laid : σ0.length ≤ aid
  lnv : Fresh σ0.length nv
  obj : σ[id]? = some (.cells (fm nv))
  names : Own σ 2 nv (NN s.ws)
  arr : ∃ es, σ[aid]? = some (.arr 1 es 0 0) ∧ Two (fun e t => Own σ 5 e (CC t)) es s.ls
theorem Own.noArr {σ : Store} {sz sz' i ep fl : Nat} {v : AVal} {es xs : List AVal} (h : Own σ sz v es) (ho : σ[i]? = some (.arr sz' xs ep fl)) (hn : sz ≠ sz') : v.sid ≠ some i := by
  intro hv
  rcases h.own with ⟨rfl, _⟩ | ⟨t, rfl⟩ | ⟨id, ep, off, cap, ys, epo, fl, rfl, h1, _⟩
  · cases hv
  · cases hv
  · injection hv with hv
    subst hv
    rw [ho] at h1; injection h1 with h1; injection h1 with h1; exact hn h1.symm
section
variable {fm : AVal → List AVal} {σ0 : Store} {id aid : Nat} {σ σ' : Store} {nv : AVal} {s : TSt}
theorem Att.lt (h : Att fm σ0 id aid σ nv s) : id < σ.length ∧ aid < σ.length := by
  obtain ⟨es, ha, -⟩ := h.arr
  exact ⟨(List.getElem?_eq_some_iff.1 h.obj).1, (List.getElem?_eq_some_iff.1 ha).1⟩
theorem Att.own5 (h : Att fm σ0 id aid σ nv s) {e : AVal} {p : List AVal} (he : Own σ 5 e p) (i : Nat) (hi : e.sid = some i) : ¬ Mv id aid nv i := by
  obtain ⟨es, ha, -⟩ := h.arr
  rintro (rfl | rfl | hv)
  · exact he.noCell h.obj hi
  · exact he.noArr ha (by decide) hi
  · exact he.sizes h.names (by decide) hi hv
theorem Att.keep5 (h : Att fm σ0 id aid σ nv s) {e : AVal} {p : List AVal} (he : Own σ 5 e p) (hk : Keeps (Mv id aid nv) σ σ') : Own σ' 5 e p :=
  he.keeps hk fun i hi => h.own5 he i hi
theorem Att.grow (h : Att fm σ0 id aid σ nv s) (g : Grows σ σ') : Att fm σ0 id aid σ' nv s := by
  obtain ⟨es, ha, ht⟩ := h.arr
  exact ⟨h.old.trans g, h.lid, h.laid, h.lnv, g.get h.obj, h.names.grow g, es, g.get ha, ht.mono fun e t ho => ho.grow g⟩
theorem Mv.trans {nv1 : AVal} {σ1 σ2 : Store} (h1 : Keeps (Mv id aid nv) σ σ1) (hs : ∀ i, nv1.sid = some i → nv.sid = some i ∨ σ.length ≤ i) (h2 : Keeps (Mv id aid nv1) σ1 σ2) : Keeps (Mv id aid nv) σ σ2 :=
  Keeps.trans h1 h2 fun i hi e => by
    rcases e with rfl | rfl | e
    · exact .inl rfl
    · exact .inr (.inl rfl)
    · rcases hs i e with e | e
      · exact .inr (.inr e)
      · omega
structure OT (σ : Store) (lo : Nat) (l : AVal) (es : List AVal) (ts : List (List Cel)) : Prop where
  row : Own σ 1 l es
  two : Two (fun e t => Own σ 5 e (CC t)) es ts
  frl : Fresh lo l
theorem OT.grow {lo : Nat} {l : AVal} {es : List AVal} {ts : List (List Cel)} (h : OT σ lo l es ts) (g : Grows σ σ') : OT σ' lo l es ts :=
  ⟨h.row.grow g, h.two.mono fun e t ho => ho.grow g, h.frl⟩
theorem OT.keep {lo : Nat} {l : AVal} {es : List AVal} {ts : List (List Cel)} (h : OT σ lo l es ts) (ha : Att fm σ0 id aid σ nv s) (h1 : id < lo) (h2 : aid < lo) (hk : Keeps (Mv id aid nv) σ σ') : OT σ' lo l es ts := by
  refine ⟨h.row.keeps hk fun i hi => ?_, h.two.mono fun e t ho => ha.keep5 ho hk, h.frl⟩
  have := h.frl i hi
  rintro (rfl | rfl | hv)
  · omega
  · omega
  · exact h.row.sizes ha.names (by decide) hi hv
theorem OT.at {lo : Nat} {l : AVal} {es : List AVal} {ts : List (List Cel)} (h : OT σ lo l es ts) {i : Nat} (hi : i < ts.length) : ∃ e, iaddrV 1 l (.int .i64 i) = some (addrOf 1 l i) ∧ loadV σ 1 false (addrOf 1 l i) = some e ∧ Own σ 5 e (CC ts[i]) := by
  have hi' : i < es.length := by rw [h.two.len]; exact hi
  obtain ⟨e, he1, he2⟩ := h.two.get hi
  have hee : es[i] = e := by rw [List.getElem?_eq_getElem hi'] at he1; exact Option.some.inj he1
  refine ⟨e, h.row.sl.iaddr hi' .i64, ?_, he2⟩
  have := h.row.sl.load1 hi' (by rw [hee]; exact he2.one) 1
  rw [hee] at this; exact this
theorem OT.len {lo : Nat} {l : AVal} {es : List AVal} {ts : List (List Cel)} (h : OT σ lo l es ts) : lenSV l = some ts.length := by
  rw [← h.two.len]; exact h.row.sl.len
end
def StepQ (fm : AVal → List AVal) (σ0 : Store) (id aid : Nat) (res : Option TSt) (s : TSt) (add : Nat) (nv : AVal) (σ : Store) : AVal → Store → Prop := fun r σ' =>
  ∃ (b : Bool) (nv' : AVal) (s' : TSt), r = .bool b ∧ Att fm σ0 id aid σ' nv' s' ∧ Keeps (Mv id aid nv) σ σ' ∧ (∀ i, nv'.sid = some i → nv.sid = some i ∨ σ.length ≤ i) ∧ res = (if b then some s' else none) ∧ s'.ws.length ≤ s.ws.length + add ∧ s'.ls.length = s.ls.length
section
variable (d : Nat)
theorem Two.set {α β : Type} {R : α → β → Prop} {us : List α} {ws : List β} (h : Two R us ws) (j : Nat) {a : α} {b : β} (hr : R a b) : Two R (us.set j a) (ws.set j b) :=
  Two.of_get (by simp [h.len]) fun i x y hx hy => by
    rw [List.getElem?_set] at hx hy
    split at hx
    · rename_i hij
      rw [if_pos hij] at hy
      split at hx
      · split at hy
        · injection hx with hx; injection hy with hy; subst hx; subst hy; exact hr
        · cases hy
      · cases hx
    · rename_i hij
      rw [if_neg hij] at hy
      exact h.at hx hy
theorem StepQ.plain {fm : AVal → List AVal} {σ0 : Store} {id aid : Nat} {res : Option TSt} {s : TSt} {add : Nat} {nv : AVal} {σ σ' : Store} (ha : Att fm σ0 id aid σ nv s) (g : Grows σ σ') (hr : res = none) : StepQ fm σ0 id aid res s add nv σ (.bool false) σ' :=
  ⟨false, nv, s, rfl, ha.grow g, g.any, fun i h => .inl h, by rw [hr]; rfl, by omega, rfl⟩
theorem Att.put {fm : AVal → List AVal} {σ0 : Store} {id aid : Nat} {nv : AVal} {s : TSt} {σ : Store} (ha : Att fm σ0 id aid σ nv s) {j : Nat} {u : AVal} {t : List Cel} (hu : Own σ 5 u (CC t)) (hj : j < s.ls.length) :
    ∃ σ', storeV σ 1 (.eptr aid 0 j 0) u = some σ' ∧ Att fm σ0 id aid σ' nv ⟨s.ls.set j t, s.ws⟩ ∧ Keeps (fun i => i = aid) σ σ' := by
  obtain ⟨es, h1, h2⟩ := ha.arr
  have hj' : j < es.length := by rw [h2.len]; exact hj
  obtain ⟨e, he1, he2⟩ := h2.get hj
  have hee : es[j] = e := by rw [List.getElem?_eq_getElem hj'] at he1; exact Option.some.inj he1
  have st := arr_store1 h1 hj' hu.one (by rw [hee]; exact he2.one)
  have k := Keeps.set σ aid (.arr 1 (es.set j u) 0 0)
  have hne : id ≠ aid := fun e => by have a := ha.obj; rw [e, h1] at a; cases a
  refine ⟨_, st, ⟨?_, ha.lid, ha.laid, ha.lnv, k.get ha.obj hne, ha.names.keeps k fun i hi e => ha.names.noArr h1 (by decide) (by rw [← e]; exact hi), es.set j u, get_set h1, ?_⟩, k⟩
  · exact Keeps.trans ha.old k fun i hi e => by have := ha.laid; omega
  · refine Two.set (h2.mono fun e t ho => ho.keeps k fun i hi e' => ho.noArr h1 (by decide) (by rw [← e']; exact hi)) j ?_
    exact hu.keeps k fun i hi e' => hu.noArr h1 (by decide) (by rw [← e']; exact hi)
theorem Att.get {fm : AVal → List AVal} {σ0 : Store} {id aid : Nat} {nv : AVal} {s : TSt} {σ : Store} (ha : Att fm σ0 id aid σ nv s) {j : Nat} (hj : j < s.ls.length) : ∃ e, loadV σ 1 false (.eptr aid 0 j 0) = some e ∧ lenSV e = some (s.ls[j]).length := by
  obtain ⟨es, h1, h2⟩ := ha.arr
  have hj' : j < es.length := by rw [h2.len]; exact hj
  obtain ⟨e, he1, he2⟩ := h2.get hj
  have hee : es[j] = e := by rw [List.getElem?_eq_getElem hj'] at he1; exact Option.some.inj he1
  refine ⟨e, ?_, by have := he2.sl.len; rwa [List.length_map] at this⟩
  rw [arr_load1 h1 (Nat.le_refl _) hj' (by rw [hee]; exact he2.one), hee]
end
end Go.Proofs.YtkjnanfkclijcaaDoor.Am

namespace Go.Proofs.YtkjnanfkclijcaaDoor.Am
open Go
set_option linter.unusedVariables false
set_option linter.unusedSimpArgs false
set_option linter.unusedSectionVars false
set_option maxRecDepth 100000
section
variable (d : Nat)
structure Tried (fm : AVal → List AVal) (σ0 : Store) (id aid : Nat) (F : TSt → List Cel → List Cel → Option TSt) (s : TSt) (azs bs : List (List Cel)) (lo : Nat) (al bl : AVal) (es fs : List AVal) (nv : AVal) (σ2 σ' : Store) (k : Nat) (nk : AVal) (sk : TSt) : Prop where
  att : Att fm σ0 id aid σ' nk sk
  keep : Keeps (Mv id aid nv) σ2 σ'
  nam : ∀ i, nk.sid = some i → nv.sid = some i ∨ σ2.length ≤ i
  ra : OT σ' lo al es azs
  rb : OT σ' lo bl fs bs
  res : foldO F s azs bs = foldO F sk (azs.drop k) (bs.drop k)
  ws : sk.ws.length ≤ s.ws.length + (azs.take k).flatten.length
  ls : sk.ls.length = s.ls.length
theorem Tried.step {fm : AVal → List AVal} {σ0 : Store} {id aid : Nat} {F : TSt → List Cel → List Cel → Option TSt} {s : TSt} {azs bs : List (List Cel)} {lo : Nat} {al bl : AVal} {es fs : List AVal} {nv : AVal} {σ2 σ' : Store} {k : Nat} {nk : AVal} {sk : TSt} (h : Tried fm σ0 id aid F s azs bs lo al bl es fs nv σ2 σ' k nk sk)
    (hk : k < azs.length) (hb : k < bs.length) (h1 : id < lo) (h2 : aid < lo) {σ3 : Store} {r : AVal} (hq : StepQ fm σ0 id aid (F sk azs[k] bs[k]) sk (azs[k]).length nk σ' r σ3) :
    ∃ b : Bool, r = .bool b ∧ ∃ nk' sk', Att fm σ0 id aid σ3 nk' sk' ∧ Keeps (Mv id aid nv) σ2 σ3 ∧ (∀ i, nk'.sid = some i → nv.sid = some i ∨ σ2.length ≤ i) ∧ sk'.ws.length ≤ s.ws.length + (azs.take (k + 1)).flatten.length ∧ sk'.ls.length = s.ls.length ∧ (b = true → Tried fm σ0 id aid F s azs bs lo al bl es fs nv σ2 σ3 (k + 1) nk' sk') ∧ (b = false → foldO F s azs bs = none) := by
  obtain ⟨b, nk', sk', rfl, a1, a2, a3, a4, a5, a6⟩ := hq
  have hfs := flat_step hk
  have stp := foldO_step (f := F) (s := sk) hk hb
  have c1 := Mv.trans h.keep h.nam a2
  have c2 : ∀ i, nk'.sid = some i → nv.sid = some i ∨ σ2.length ≤ i := fun i hi => (a3 i hi).elim (h.nam i) (fun e => .inr (by have := h.keep.1; omega))
  have c3 : sk'.ws.length ≤ s.ws.length + (azs.take (k + 1)).flatten.length := by have := h.ws; omega
  have c4 : sk'.ls.length = s.ls.length := by rw [a6]; exact h.ls
  refine ⟨b, rfl, nk', sk', a1, c1, c2, c3, c4, fun hb' => ?_, fun hb' => ?_⟩
  · refine ⟨a1, c1, c2, h.ra.keep h.att h1 h2 a2, h.rb.keep h.att h1 h2 a2, ?_, c3, c4⟩
    rw [h.res, stp, a4, hb']; rfl
  · rw [h.res, stp, a4, hb']; rfl
end
end Go.Proofs.YtkjnanfkclijcaaDoor.Am

namespace Go.Proofs.YtkjnanfkclijcaaDoor.Am
open Go
set_option linter.unusedVariables false
set_option linter.unusedSimpArgs false
set_option linter.unusedSectionVars false
set_option maxRecDepth 100000
theorem HeapV.one {σ : Store} {hv : AVal} {H : Hp} (h : HeapV σ hv H) : hv.one = true := by
  rcases h with ⟨rfl, _⟩ | ⟨id, mid, vs, rfl, _⟩ <;> rfl
theorem RefV.one {σ : Store} {rv : AVal} {R : Hp} (h : RefV σ rv R) : rv.one = true := by
  rcases h with ⟨rfl, _⟩ | ⟨id, A, rfl, _⟩ <;> rfl
def TryOk (σ : Store) (r : AVal) (x : TryR) : Prop := ∃ lv wv, r = .agg (tryC x.k lv wv) ∧ Terms σ lv x.ls ∧ SlOf σ 2 wv (NN x.ws)
theorem TryOk.grow {σ σ' : Store} {r : AVal} {x : TryR} (h : TryOk σ r x) (g : Grows σ σ') : TryOk σ' r x := by
  obtain ⟨lv, wv, h1, h2, h3⟩ := h
  exact ⟨lv, wv, h1, h2.grow g, h3.grow g⟩
theorem Terms.one {σ : Store} {l : AVal} {ts : List (List Cel)} (h : Terms σ l ts) : l.one = true := by obtain ⟨es, h1, -⟩ := h; exact h1.one
theorem try_told {σ σ0 : Store} {i k : Nat} {lv wv : AVal} {x : TryR} (ho : σ[i]? = some (.cells tryZ)) (hk : x.k = k) (h1 : Terms σ lv x.ls) (h2 : SlOf σ 2 wv (NN x.ws)) (hi : σ0.length ≤ i) (g : Grows σ0 σ) (n1 : ∀ j, lv.sid = some j → j ≠ i) (n2 : ∀ j, wv.sid = some j → j ≠ i) (n3 : ∀ (es : List AVal) (e : AVal) (j : Nat), SlOf σ 1 lv es → e ∈ es → e.sid = some j → j ≠ i) :
    ∃ σ', storeV σ 4 (.ptr i 0) (.agg (tryC k lv wv)) = some σ' ∧ loadV σ' 4 true (.ptr i 0) = some (.agg (tryC k lv wv)) ∧ Grows σ0 σ' ∧ TryOk σ' (.agg (tryC k lv wv)) x := by
  obtain ⟨p1, p2⟩ := try_put (σ' := σ) (k := k) ho h1.one h2.one
  have kk := Keeps.set σ i (.cells (tryC k lv wv))
  refine ⟨_, p1, p2, Keeps.trans g kk fun j hj e => by omega, lv, wv, by rw [hk], ?_, h2.keeps kk fun j hj e => n2 j hj e⟩
  obtain ⟨es, a1, a2⟩ := h1
  refine ⟨es, a1.keeps kk fun j hj e => n1 j hj e, a2.mono_mem fun e t he ht hs => hs.keeps kk fun j hj e' => n3 es e j a1 he hj e'⟩
theorem Att.new (fm : AVal → List AVal) (σ : Store) (n : Nat) : Att fm σ (σ.length + 1) σ.length ((σ ++ [.arr 1 (List.replicate n .nilslice) 0 0]) ++ [.cells (fm .nilslice)]) .nilslice ⟨List.replicate n [], []⟩ := by
  refine ⟨Grows.trans (Grows.app _ _) (Grows.app _ _), by omega, Nat.le_refl _, Fresh.nil _, by simp, Own.nil _ _, List.replicate n .nilslice, by simp, ?_⟩
  refine Two.of_get (by simp) fun i a b ha hb => ?_
  rw [List.getElem?_replicate] at ha hb
  by_cases h : i < n
  · rw [if_pos h] at ha hb
    cases ha; cases hb; exact Own.nil _ _
  · rw [if_neg h] at ha
    cases ha
section
variable (d : Nat) (σ : Store)
end
end Go.Proofs.YtkjnanfkclijcaaDoor.Am

namespace Go.Proofs.YtkjnanfkclijcaaDoor.Am
open Go
set_option linter.unusedVariables false
set_option linter.unusedSimpArgs false
set_option linter.unusedSectionVars false
set_option maxRecDepth 100000
section
variable (d : Nat) (σ : Store)
end
end Go.Proofs.YtkjnanfkclijcaaDoor.Am

namespace Go.Proofs.YtkjnanfkclijcaaDoor.Am
open Go
set_option linter.unusedVariables false
set_option linter.unusedSimpArgs false
set_option linter.unusedSectionVars false
set_option maxRecDepth 100000
theorem TryOk.put {σ σ0 : Store} {i : Nat} {r : AVal} {x : TryR} (h : TryOk σ r x) (ho : σ[i]? = some (.cells tryZ)) (hi : σ0.length ≤ i) (g : Grows σ0 σ) :
    ∃ σ', storeV σ 4 (.ptr i 0) r = some σ' ∧ loadV σ' 4 true (.ptr i 0) = some r ∧ Grows σ0 σ' ∧ TryOk σ' r x := by
  obtain ⟨lv, wv, rfl, h2, h3⟩ := h
  have h2' := h2
  obtain ⟨es, a1, a2⟩ := h2'
  refine try_told ho rfl h2 h3 hi g (fun j h e => a1.noCell ho (by rw [← e]; exact h)) (fun j h e => h3.noCell ho (by rw [← e]; exact h)) (fun fs e j hf he hj e' => ?_)
  have : fs = es := Option.some.inj (hf.1.symm.trans a1.1)
  subst this
  obtain ⟨b, _, hb⟩ := a2.mem_left he
  exact hb.noCell ho (by rw [← e']; exact hj)
theorem Terms.lit {σ : Store} {v : AVal} {p : List Cel} (tg : Nat) (h : SlOf σ 5 v (CC p)) : Terms σ (.fslice tg true 1 [v]) [p] := ⟨[v], SlOf.fs _ _ _ _ _, Two.one h⟩
theorem I64.of {i : Int} (h : I64 i) : -9223372036854775808 ≤ i ∧ i < 9223372036854775808 := h
section
variable (d : Nat) (σ : Store)
theorem rvarsof_ok (pv : AVal) (p : List Cel) (sp : Small p) (hp : SlOf σ 5 pv (CC p)) : Called CU.cfg d 44 [pv] σ fun r σ' => Grows σ σ' ∧ Own σ' 2 r (NN (varsL [] p)) := by
  refine called_of (fn := CU.a44) rfl (Nat.le_of_ble_eq_true rfl) ?_
  simp only [CU.a44]
  simp -dsimp only [↓WPd, ↓wpC_block, ↓wpC_cond, WPu, Bool.false_eq_true, Bool.true_eq_false, Bool.not_true, Bool.not_false, if_true, if_false, ite_true, ite_false, Nat.reduceEqDiff, Nat.reduceLT, true_and, List.map_cons, List.map_nil, Nat.zero_add, Nat.reduceBEq, lit1_ok hp.one]
  refine calledW_of (rvars_ok d σ _ [p] (by simpa using sp.1) (by simp) (Terms.lit _ hp)) ?_
  rintro l σ2 ⟨g2, ol, -⟩
  have hfl : [p].flatten = p := by simp
  rw [hfl] at ol
  simp -dsimp only [↓WPd, ↓wpC_block, ↓wpC_cond, WPu, Bool.false_eq_true, Bool.true_eq_false, Bool.not_true, Bool.not_false, if_true, if_false, ite_true, ite_false, Nat.reduceEqDiff, Nat.reduceLT, true_and, List.map_cons, List.map_nil, Nat.zero_add, Nat.reduceBEq]
  exact ⟨g2, ol⟩
end
end Go.Proofs.YtkjnanfkclijcaaDoor.Am

namespace Go.Proofs.YtkjnanfkclijcaaDoor.Am
open Go
set_option linter.unusedVariables false
set_option linter.unusedSimpArgs false
set_option linter.unusedSectionVars false
set_option maxRecDepth 100000
theorem varsL_mem4 : ∀ {t : List Cel} {ws : List Nm} {v : Nm}, v ∈ varsL ws t → v ∈ ws ∨ ∃ c ∈ t, c.k = 4 ∧ c.v = v
  | [], ws, v, h => .inl h
  | c :: t, ws, v, h => by
    simp only [varsL, List.foldl_cons] at h
    rcases varsL_mem4 (t := t) h with h | ⟨e, he, hv⟩
    · split at h
      · rename_i hk
        unfold addN at h
        split at h
        · exact .inl h
        · rcases List.mem_append.1 h with h | h
          · exact .inl h
          · simp at h; exact .inr ⟨c, List.mem_cons_self, hk, h.symm⟩
      · exact .inl h
    · exact .inr ⟨e, List.mem_cons_of_mem _ he, hv⟩
set_option maxHeartbeats 1000000 in
theorem hresolve_ok (d : Nat) (σ : Store) (H : Hp) (hw : WF H) (id mid : Nat) (vs : List AVal) (tv : AVal) (t : List Cel) (h : HeapP σ id mid vs H) (ht : SlOf σ 5 tv (CC t)) (hs : Small t) :
    Called CU.cfg d 43 [.ptr id 0, tv] σ fun r σ' => Grows σ σ' ∧ ∃ u e, r = .tuple [u, .int .i64 e] ∧ ((right t = false ∧ e = 6) ∨ (right t = true ∧ resD H 256 [] t = none ∧ e = 5) ∨
      ∃ a, right t = true ∧ resD H 256 [] t = some a ∧ e = 0 ∧ Own σ' 5 u (CC a)) := by
  refine called_of (fn := CU.a43) rfl (Nat.le_of_ble_eq_true rfl) ?_
  simp only [CU.a43]
  simp -dsimp only [↓WPd, ↓wpC_block, ↓wpC_cond, WPu, Bool.false_eq_true, Bool.true_eq_false, Bool.not_true, Bool.not_false, if_true, if_false, ite_true, ite_false, Nat.reduceEqDiff, Nat.reduceLT, true_and, List.map_cons, List.map_nil, Nat.zero_add, Nat.reduceBEq, WPm, isnil_ptr]
  refine calledW_of (right_ok d σ tv t hs.1 hs.2 ht) ?_
  rintro r σ1 ⟨rfl, g1⟩
  cases hr : right t with
  | false =>
    simp -dsimp only [↓WPd, ↓wpC_block, ↓wpC_cond, WPu, Bool.false_eq_true, Bool.true_eq_false, Bool.not_true, Bool.not_false, if_true, if_false, ite_true, ite_false, Nat.reduceEqDiff, Nat.reduceLT, true_and, List.map_cons, List.map_nil, Nat.zero_add, Nat.reduceBEq, WPm]
    exact ⟨g1, _, _, rfl, .inl rfl⟩
  | true =>
    simp -dsimp only [↓WPd, ↓wpC_block, ↓wpC_cond, WPu, Bool.false_eq_true, Bool.true_eq_false, Bool.not_true, Bool.not_false, if_true, if_false, ite_true, ite_false, Nat.reduceEqDiff, Nat.reduceLT, true_and, List.map_cons, List.map_nil, Nat.zero_add, Nat.reduceBEq, WPm]
    have hc : (σ1 ++ [AObj.cells [.nilslice]])[σ1.length]? = some (.cells [.nilslice]) := by simp
    have g2 : Grows σ1 (σ1 ++ [AObj.cells [.nilslice]]) := Grows.app _ _
    generalize hσ2 : σ1 ++ [AObj.cells [.nilslice]] = σ2 at hc g2
    have hl : σ1.length < σ2.length := by rw [← hσ2]; simp
    have g12 := g1.trans g2
    refine calledW_of (resolve_ok d H hw id mid vs σ1.length 256 (by decide) σ2 .nilslice tv [] t (h.grow g12) ⟨hc, Own.nil _ _⟩ (by simp) (ht.grow g12) (right_len hr).2 (fun i _ e => by cases e)) ?_
    rintro r σ3 ⟨k3, hm⟩
    have gg : Grows σ σ3 := Keeps.trans g12 k3 fun i hi e => by
      rcases e with e | e
      · have := g1.1; omega
      · cases e
    cases hd : resD H 256 [] t with
    | none =>
      rw [hd] at hm
      simp only at hm
      subst hm
      simp -dsimp only [↓WPd, ↓wpC_block, ↓wpC_cond, WPu, Bool.false_eq_true, Bool.true_eq_false, Bool.not_true, Bool.not_false, if_true, if_false, ite_true, ite_false, Nat.reduceEqDiff, Nat.reduceLT, true_and, List.map_cons, List.map_nil, Nat.zero_add, Nat.reduceBEq, WPm]
      exact ⟨gg, _, _, rfl, .inr (.inl rfl)⟩
    | some a =>
      rw [hd] at hm
      obtain ⟨rfl, ov, ⟨o1, o2⟩, -⟩ := hm
      have e1 : ([ov] : List AVal)[0]? = some ov := rfl
      simp -dsimp only [↓WPd, ↓wpC_block, ↓wpC_cond, WPu, Bool.false_eq_true, Bool.true_eq_false, Bool.not_true, Bool.not_false, if_true, if_false, ite_true, ite_false, Nat.reduceEqDiff, Nat.reduceLT, true_and, List.map_cons, List.map_nil, Nat.zero_add, Nat.reduceBEq, WPm, load_cells o1, e1]
      exact ⟨gg, _, _, rfl, .inr (.inr ⟨a, rfl, rfl, o2⟩)⟩
set_option maxHeartbeats 1000000 in
theorem resolves_run (bv tv : AVal) (bs : Hp) (t : List Cel) (hb : BdArg bv bs) (ht : Told tv t) (hst : Small t) :
    Called CU.cfg 0 10 [bv, tv] [] fun v _ => v = .bool true := by
  refine called_of (fn := CU.a10) rfl (Nat.le_of_ble_eq_true rfl) ?_
  simp only [CU.a10]
  simp -dsimp only [↓WPd, ↓wpC_block, ↓wpC_cond, WPu, Bool.false_eq_true, Bool.true_eq_false, Bool.not_true, Bool.not_false, if_true, if_false, ite_true, ite_false, Nat.reduceEqDiff, Nat.reduceLT, true_and, List.map_cons, List.map_nil, Nat.zero_add, Nat.reduceBEq, WPm]
  refine calledW_of (both5_ok 0 [] bv bs hb) ?_
  rintro r σ1 ⟨id, mid, vs, rid, A, rfl, h1, -, g1, -, -, -, -⟩
  have hw := h1.wf
  generalize bindsH [] bs = H at *
  simp -dsimp only [↓WPd, ↓wpC_block, ↓wpC_cond, WPu, Bool.false_eq_true, Bool.true_eq_false, Bool.not_true, Bool.not_false, if_true, if_false, ite_true, ite_false, Nat.reduceEqDiff, Nat.reduceLT, true_and, List.map_cons, List.map_nil, Nat.zero_add, Nat.reduceBEq, WPm, List.getElem?_cons_zero, List.getElem?_cons_succ]
  refine calledW_of (hresolve_ok 0 σ1 H hw id mid vs tv t h1 (ht σ1) hst) ?_
  rintro r σ2 ⟨g2, u, e, rfl, hres⟩
  have h2 := h1.grow g2
  rcases hres with ⟨-, rfl⟩ | ⟨-, -, rfl⟩ | ⟨a, hr, hd, rfl, ou⟩
  · have e1 : ((6 : Int) != 0) = true := rfl
    simp -dsimp only [↓WPd, ↓wpC_block, ↓wpC_cond, WPu, Bool.false_eq_true, Bool.true_eq_false, Bool.not_true, Bool.not_false, if_true, if_false, ite_true, ite_false, Nat.reduceEqDiff, Nat.reduceLT, true_and, List.map_cons, List.map_nil, Nat.zero_add, Nat.reduceBEq, WPm, List.getElem?_cons_zero, List.getElem?_cons_succ, e1]
    refine isoW_bool live05_ran ?_
    have e2 : ((6 : Int) == 6) = true := rfl
    simp -dsimp only [↓WPd, ↓wpC_block, ↓wpC_cond, WPu, Bool.false_eq_true, Bool.true_eq_false, Bool.not_true, Bool.not_false, if_true, if_false, ite_true, ite_false, Nat.reduceEqDiff, Nat.reduceLT, true_and, List.map_cons, List.map_nil, Nat.zero_add, Nat.reduceBEq, WPm, e2]
  · have e1 : ((5 : Int) != 0) = true := rfl
    simp -dsimp only [↓WPd, ↓wpC_block, ↓wpC_cond, WPu, Bool.false_eq_true, Bool.true_eq_false, Bool.not_true, Bool.not_false, if_true, if_false, ite_true, ite_false, Nat.reduceEqDiff, Nat.reduceLT, true_and, List.map_cons, List.map_nil, Nat.zero_add, Nat.reduceBEq, WPm, List.getElem?_cons_zero, List.getElem?_cons_succ, e1]
    refine isoW_bool live05_ran ?_
    have e2 : ((5 : Int) == 6) = false := rfl
    have e3 : ((5 : Int) == 5) = true := rfl
    simp -dsimp only [↓WPd, ↓wpC_block, ↓wpC_cond, WPu, Bool.false_eq_true, Bool.true_eq_false, Bool.not_true, Bool.not_false, if_true, if_false, ite_true, ite_false, Nat.reduceEqDiff, Nat.reduceLT, true_and, List.map_cons, List.map_nil, Nat.zero_add, Nat.reduceBEq, WPm, e2, e3]
  · obtain ⟨ra, na, ida⟩ := resolved_ok hw hr hd
    have e1 : ((0 : Int) != 0) = false := rfl
    simp -dsimp only [↓WPd, ↓wpC_block, ↓wpC_cond, WPu, Bool.false_eq_true, Bool.true_eq_false, Bool.not_true, Bool.not_false, if_true, if_false, ite_true, ite_false, Nat.reduceEqDiff, Nat.reduceLT, true_and, List.map_cons, List.map_nil, Nat.zero_add, Nat.reduceBEq, WPm, List.getElem?_cons_zero, List.getElem?_cons_succ, e1]
    refine calledW_of (hresolve_ok 0 σ2 H hw id mid vs u a h2 ou.sl (right_small ra)) ?_
    rintro r3 σ3 ⟨g3, u3, e3, rfl, hres⟩
    obtain ⟨rfl, ou3⟩ : e3 = 0 ∧ Own σ3 5 u3 (CC a) := by
      rcases hres with ⟨hf, _⟩ | ⟨_, hf, _⟩ | ⟨a', _, hd', he, ho⟩
      · rw [ra] at hf; cases hf
      · rw [ida] at hf; cases hf
      · rw [ida] at hd'; injection hd' with hd'; subst hd'; exact ⟨he, ho⟩
    have h3 := h2.grow g3
    have ou' := ou.grow g3
    simp -dsimp only [↓WPd, ↓wpC_block, ↓wpC_cond, WPu, Bool.false_eq_true, Bool.true_eq_false, Bool.not_true, Bool.not_false, if_true, if_false, ite_true, ite_false, Nat.reduceEqDiff, Nat.reduceLT, true_and, List.map_cons, List.map_nil, Nat.zero_add, Nat.reduceBEq, WPm, List.getElem?_cons_zero, List.getElem?_cons_succ]
    refine calledW_of (rvarsof_ok 0 σ3 u a (right_small ra) ou'.sl) ?_
    rintro r4 σ4 ⟨g4, ov⟩
    have lv := ov.sl.len
    rw [List.length_map] at lv
    have hvl := varsL_len [] a
    have ral := (right_len ra).2
    simp only [List.length_nil] at hvl
    simp -dsimp only [↓WPd, ↓wpC_block, ↓wpC_cond, WPu, Bool.false_eq_true, Bool.true_eq_false, Bool.not_true, Bool.not_false, if_true, if_false, ite_true, ite_false, Nat.reduceEqDiff, Nat.reduceLT, true_and, List.map_cons, List.map_nil, Nat.zero_add, Nat.reduceBEq, WPm]
    refine loop_rule2 (fun m ws σ' => ∃ k : Nat, k ≤ (varsL [] a).length ∧ m = (varsL [] a).length - k ∧ ws = [.ptr id 0, .bool true, u, u3, .int .i64 0, r4, .int .i64 (k : Nat)] ∧ Grows σ4 σ')
      [7, 8, 10, 11] (fun e ws σ' => e = .exit 0 ∧ ws = [.bool true, u, u3, .int .i64 0] ∧ Grows σ4 σ') (varsL [] a).length ⟨0, Nat.zero_le _, rfl, ?_, Keeps.refl _ _⟩ ?_ ?_
    · simp -dsimp only [↓WPd, ↓wpC_block, ↓wpC_cond, WPu, Bool.false_eq_true, Bool.true_eq_false, Bool.not_true, Bool.not_false, if_true, if_false, ite_true, ite_false, Nat.reduceEqDiff, Nat.reduceLT, true_and, List.map_cons, List.map_nil, Nat.zero_add, Nat.reduceBEq]; rfl
    · rintro m ws σ' ⟨k, hk, rfl, rfl, g⟩
      simp -dsimp only [↓WPd, ↓wpC_block, ↓wpC_cond, WPu, Bool.false_eq_true, Bool.true_eq_false, Bool.not_true, Bool.not_false, if_true, if_false, ite_true, ite_false, Nat.reduceEqDiff, Nat.reduceLT, true_and, List.map_cons, List.map_nil, Nat.zero_add, Nat.reduceBEq, lv]
      refine condP_dec (fun hc => ?_) (fun hc => ?_)
      · have hk' : k < (varsL [] a).length := by omega
        obtain ⟨n1, n2⟩ := names_at (ov.sl.grow g) hk'
        simp -dsimp only [↓WPd, ↓wpC_block, ↓wpC_cond, WPu, Bool.false_eq_true, Bool.true_eq_false, Bool.not_true, Bool.not_false, if_true, if_false, ite_true, ite_false, Nat.reduceEqDiff, Nat.reduceLT, true_and, List.map_cons, List.map_nil, Nat.zero_add, Nat.reduceBEq, n1, n2]
        have hl : lk H (varsL [] a)[k] = none := by
          rcases varsL_mem4 (List.getElem_mem hk') with hx | ⟨c, hc1, hc2, hc3⟩
          · cases hx
          · have := na c hc1
            simp only [hnext, List.length_singleton, List.headD_cons, hc2, and_self, if_true] at this
            rw [hc3] at this; exact this
        refine calledW_of (hvalue_ok 0 σ' (.ptr id 0) H _ ((h3.grow g4).grow g).v (by rw [hl]; simp)) ?_
        rintro r5 σ5 ⟨w, rfl, -, -, -, g5⟩
        simp -dsimp only [↓WPd, ↓wpC_block, ↓wpC_cond, WPu, Bool.false_eq_true, Bool.true_eq_false, Bool.not_true, Bool.not_false, if_true, if_false, ite_true, ite_false, Nat.reduceEqDiff, Nat.reduceLT, true_and, List.map_cons, List.map_nil, Nat.zero_add, Nat.reduceBEq, WPm, List.getElem?_cons_zero, List.getElem?_cons_succ, hl, Option.isSome_none]
        refine ⟨(varsL [] a).length - (k + 1), by omega, k + 1, by omega, rfl, by rw [wrap_i64 (by omega) (by omega), Int.natCast_add, Int.natCast_one], g.trans g5⟩
      · simp -dsimp only [↓WPd, ↓wpC_block, ↓wpC_cond, WPu, Bool.false_eq_true, Bool.true_eq_false, Bool.not_true, Bool.not_false, if_true, if_false, ite_true, ite_false, Nat.reduceEqDiff, Nat.reduceLT, true_and, List.map_cons, List.map_nil, Nat.zero_add, Nat.reduceBEq]
        exact g
    · rintro e σ5 env ⟨rfl, hv, g⟩
      simp only [List.map_cons, List.map_nil, List.cons.injEq, and_true] at hv
      obtain ⟨v7, v8, v10, v11⟩ := hv
      simp -dsimp only [↓WPd, ↓wpC_block, ↓wpC_cond, WPu, Bool.false_eq_true, Bool.true_eq_false, Bool.not_true, Bool.not_false, if_true, if_false, ite_true, ite_false, Nat.reduceEqDiff, Nat.reduceLT, true_and, List.map_cons, List.map_nil, Nat.zero_add, Nat.reduceBEq, WPm, v7, v8, v10, v11]
      refine isoW_bool live05_ran ?_
      have e0 : ((0 : Int) == 0) = true := rfl
      simp -dsimp only [↓WPd, ↓wpC_block, ↓wpC_cond, WPu, Bool.false_eq_true, Bool.true_eq_false, Bool.not_true, Bool.not_false, if_true, if_false, ite_true, ite_false, Nat.reduceEqDiff, Nat.reduceLT, true_and, List.map_cons, List.map_nil, Nat.zero_add, Nat.reduceBEq, WPm, v7, v8, v10, v11, e0]
      have g45 := g4.trans g
      refine calledW_of (cequal_ok 0 σ5 u u3 a a (by omega) (ou'.grow g45).sl (ou3.grow g45).sl) ?_
      rintro r6 σ6 ⟨rfl, rfl⟩
      simp -dsimp only [↓WPd, ↓wpC_block, ↓wpC_cond, WPu, Bool.false_eq_true, Bool.true_eq_false, Bool.not_true, Bool.not_false, if_true, if_false, ite_true, ite_false, Nat.reduceEqDiff, Nat.reduceLT, true_and, List.map_cons, List.map_nil, Nat.zero_add, Nat.reduceBEq, WPm, decide_true]
end Go.Proofs.YtkjnanfkclijcaaDoor.Am

