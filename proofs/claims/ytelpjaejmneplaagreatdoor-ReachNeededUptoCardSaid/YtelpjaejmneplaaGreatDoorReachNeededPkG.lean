/-
  The abstract machine and the functions of the law, 7: texts put together.
-/
import Derived.Test.YtelpjaejmneplaaGreatDoorReachNeededPkF
import Derived.Test.YtelpjaejmneplaaGreatDoorReachNeededPkE
set_option linter.unusedVariables false
set_option linter.unusedSimpArgs false
set_option linter.unusedSectionVars false
set_option maxRecDepth 100000
namespace Go.Proofs.YtelpjaejmneplaaGreatDoor.Am
open Go
section
variable (d : Nat) (σ : Store)
theorem alonecells0_ok (id : Nat) (c0 c1 c2 c3 c4 : AVal) (h : σ[id]? = some (.cells [c0, c1, c2, c3, c4])) (hc : c3 = .nilslice) : Called CU.cfg d 70 [.ptr id 0] σ fun r σ' => r = .bool true ∧ σ' = σ := by
 subst hc
 refine called_of (fn := CU.a70) rfl (Nat.le_of_ble_eq_true rfl) ?_
 have el : lenSV .nilslice = some 0 := rfl
 have d0 : decide ((0 : Int) < ((0 : Nat) : Int)) = false := rfl
 simp only [CU.a70]
 simp -dsimp only [↓WPd, ↓wpC_block, ↓wpC_cond, WPu, Bool.false_eq_true, Bool.true_eq_false, Bool.not_true, Bool.not_false, if_true, if_false, ite_true, ite_false, Nat.reduceEqDiff, Nat.reduceLT, true_and, List.map_cons, List.map_nil, Nat.zero_add, Nat.reduceBEq]
 refine loop_rule (fun m vs σ' => σ' = σ ∧ vs = [.ptr id 0, .int .i64 0]) 0 ⟨rfl, ?_⟩ ?_
 ·simp -dsimp only [↓WPd, ↓wpC_block, ↓wpC_cond, WPu, Bool.false_eq_true, Bool.true_eq_false, Bool.not_true, Bool.not_false, if_true, if_false, ite_true, ite_false, Nat.reduceEqDiff, Nat.reduceLT, true_and, List.map_cons, List.map_nil, Nat.zero_add, Nat.reduceBEq]
 rintro m vs σ' ⟨rfl, rfl⟩
 simp -dsimp only [↓WPd, ↓wpC_block, ↓wpC_cond, WPu, Bool.false_eq_true, Bool.true_eq_false, Bool.not_true, Bool.not_false, if_true, if_false, ite_true, ite_false, Nat.reduceEqDiff, Nat.reduceLT, true_and, List.map_cons, List.map_nil, Nat.zero_add, Nat.reduceBEq, faddr_ptr, load_cells h, List.getElem?_cons_zero, List.getElem?_cons_succ, el, d0]
 refine loop_rule (fun m vs σ2 => σ2 = σ' ∧ vs = [.ptr id 0, .nilslice, .int .i64 0]) 0 ⟨rfl, ?_⟩ ?_
 ·simp -dsimp only [↓WPd, ↓wpC_block, ↓wpC_cond, WPu, Bool.false_eq_true, Bool.true_eq_false, Bool.not_true, Bool.not_false, if_true, if_false, ite_true, ite_false, Nat.reduceEqDiff, Nat.reduceLT, true_and, List.map_cons, List.map_nil, Nat.zero_add, Nat.reduceBEq]
 rintro m vs σ2 ⟨rfl, rfl⟩
 simp -dsimp only [↓WPd, ↓wpC_block, ↓wpC_cond, WPu, Bool.false_eq_true, Bool.true_eq_false, Bool.not_true, Bool.not_false, if_true, if_false, ite_true, ite_false, Nat.reduceEqDiff, Nat.reduceLT, true_and, List.map_cons, List.map_nil, Nat.zero_add, Nat.reduceBEq, faddr_ptr, load_cells h, List.getElem?_cons_zero, List.getElem?_cons_succ, el, d0]
 refine loop_rule (fun m vs σ3 => σ3 = σ2 ∧ vs = [.ptr id 0, .nilslice, .int .i64 0]) 0 ⟨rfl, ?_⟩ ?_
 ·simp -dsimp only [↓WPd, ↓wpC_block, ↓wpC_cond, WPu, Bool.false_eq_true, Bool.true_eq_false, Bool.not_true, Bool.not_false, if_true, if_false, ite_true, ite_false, Nat.reduceEqDiff, Nat.reduceLT, true_and, List.map_cons, List.map_nil, Nat.zero_add, Nat.reduceBEq]
 rintro m vs σ3 ⟨rfl, rfl⟩
 simp -dsimp only [↓WPd, ↓wpC_block, ↓wpC_cond, WPu, Bool.false_eq_true, Bool.true_eq_false, Bool.not_true, Bool.not_false, if_true, if_false, ite_true, ite_false, Nat.reduceEqDiff, Nat.reduceLT, true_and, List.map_cons, List.map_nil, Nat.zero_add, Nat.reduceBEq, faddr_ptr, load_cells h, List.getElem?_cons_zero, List.getElem?_cons_succ, el, d0]
theorem alonenm_ok (lo id : Nat) (w : AVal) (es : List AVal) (qs : List (List Nm)) (h : BookN .nilslice .nilslice .nilslice .nilslice lo σ id w es qs) (hn : qs.length < 2 ^ 38) (hq : ∀ q ∈ qs, q.length < 2 ^ 38) :
  Called CU.cfg d 20 [.ptr id 0] σ fun r σ' => r = .bool true ∧ Keeps (fun j => j = id ∨ ∃ (i : Nat) (e : AVal), es[i]? = some e ∧ e.sid = some j) σ σ' := by
 refine called_of (fn := CU.a20) rfl (Nat.le_of_ble_eq_true rfl) ?_
 have e1 : fillA [AVal.nilslice, .nilslice, .nilslice, .nilslice, .nilslice] [] = some [AVal.nilslice, .nilslice, .nilslice, .nilslice, .nilslice] := rfl
 simp only [CU.a20]
 simp -dsimp only [↓WPd, ↓wpC_block, ↓wpC_cond, WPu, Bool.false_eq_true, Bool.true_eq_false, Bool.not_true, Bool.not_false, if_true, if_false, ite_true, ite_false, Nat.reduceEqDiff, Nat.reduceLT, true_and, List.map_cons, List.map_nil, Nat.zero_add, Nat.reduceBEq]
 refine calledW_of (alonebytes_ok d σ id _ _ _ _ _ h.obj rfl) ?_
 rintro r σ1 ⟨rfl, rfl⟩
 simp -dsimp only [↓WPd, ↓wpC_block, ↓wpC_cond, WPu, Bool.false_eq_true, Bool.true_eq_false, Bool.not_true, Bool.not_false, if_true, if_false, ite_true, ite_false, Nat.reduceEqDiff, Nat.reduceLT, true_and, List.map_cons, List.map_nil, Nat.zero_add, Nat.reduceBEq]
 refine calledW_of (alonetexts_ok d σ1 id _ _ _ _ _ h.obj rfl) ?_
 rintro r σ2 ⟨rfl, rfl⟩
 simp -dsimp only [↓WPd, ↓wpC_block, ↓wpC_cond, WPu, Bool.false_eq_true, Bool.true_eq_false, Bool.not_true, Bool.not_false, if_true, if_false, ite_true, ite_false, Nat.reduceEqDiff, Nat.reduceLT, true_and, List.map_cons, List.map_nil, Nat.zero_add, Nat.reduceBEq]
 refine calledW_of (aloneints_ok d σ2 id _ _ _ _ _ h.obj rfl) ?_
 rintro r σ3 ⟨rfl, rfl⟩
 simp -dsimp only [↓WPd, ↓wpC_block, ↓wpC_cond, WPu, Bool.false_eq_true, Bool.true_eq_false, Bool.not_true, Bool.not_false, if_true, if_false, ite_true, ite_false, Nat.reduceEqDiff, Nat.reduceLT, true_and, List.map_cons, List.map_nil, Nat.zero_add, Nat.reduceBEq]
 refine calledW_of (alonecells0_ok d σ3 id _ _ _ _ _ h.obj rfl) ?_
 rintro r σ4 ⟨rfl, rfl⟩
 simp -dsimp only [↓WPd, ↓wpC_block, ↓wpC_cond, WPu, Bool.false_eq_true, Bool.true_eq_false, Bool.not_true, Bool.not_false, if_true, if_false, ite_true, ite_false, Nat.reduceEqDiff, Nat.reduceLT, true_and, List.map_cons, List.map_nil, Nat.zero_add, Nat.reduceBEq]
 refine calledW_of (alonen_ok d σ4 _ _ _ _ lo id w es qs h hn hq) ?_
 rintro r σ5 ⟨rfl, o1, k1⟩
 simp -dsimp only [↓WPd, ↓wpC_block, ↓wpC_cond, WPu, Bool.false_eq_true, Bool.true_eq_false, Bool.not_true, Bool.not_false, if_true, if_false, ite_true, ite_false, Nat.reduceEqDiff, Nat.reduceLT, true_and, List.map_cons, List.map_nil, Nat.zero_add, Nat.reduceBEq, e1, store5 o1 rfl]
 exact Keeps.trans (k1.mono fun i _ h => .inr h) (Keeps.set _ _ _) fun i hi e => .inl e
end
def lkL (ls : List (List Cel)) (i : Nat) : List Cel := ls[i]?.getD []
def isLoc (c : Cel) : Bool := decide (c.k = 4) && decide (c.v.1 = -1)
def badT (l : List Cel) : Bool := decide (l ≠ []) && !right l
def putB (t : List Cel) (ls : List (List Cel)) : Bool := t.any fun c => isLoc c && decide (lkL ls c.v.2.toNat = [])
def putC (ls : List (List Cel)) (c : Cel) : List Cel := if isLoc c then lkL ls c.v.2.toNat else [c]
def putO (t : List Cel) (ls : List (List Cel)) : List Cel := (t.map (putC ls)).flatten
def putE (t : List Cel) (ls : List (List Cel)) : Int := if !right t || ls.any badT then 6 else if putB t ls then 4 else if 256 < (putO t ls).length then 5 else 0
def putT (t : List Cel) (ls : List (List Cel)) : List Cel := if putE t ls = 0 then putO t ls else []
section
variable (d : Nat) (σ : Store)
def PutOk (σ σ' : Store) (r : AVal) (t : List Cel) (ls : List (List Cel)) : Prop := ∃ u, r = .tuple [u, .int .i64 (putE t ls)] ∧ Grows σ σ' ∧ Own σ' 5 u (CC (putT t ls)) ∧ Fresh σ.length u ∧ NoLit u
theorem PutOk.fail {σ σ' : Store} {t : List Cel} {ls : List (List Cel)} {e : Int} (h : putE t ls = e) (he : e ≠ 0) (g : Grows σ σ') : PutOk σ σ' (.tuple [.nilslice, .int .i64 e]) t ls :=
 ⟨.nilslice, by rw [h], g, by rw [putT, if_neg (by rw [h]; exact he)]; exact Own.nil _ _, Fresh.nil _, trivial⟩
end
section
variable (d : Nat) (σ : Store)
end
section
variable (d : Nat) (σ : Store)
end
def TT (σ : Store) (v : AVal) (ls : List (List Cel)) : Prop := ∃ es, Own σ 1 v es ∧ NoLit v ∧ Two Told es ls
theorem TT.terms {σ : Store} {v : AVal} {ls : List (List Cel)} (h : TT σ v ls) : Terms σ v ls := by
 obtain ⟨es, h1, -, h3⟩ := h
 exact ⟨es, h1.sl, h3.mono fun e t h => h σ⟩
theorem TT.grow {σ σ' : Store} {v : AVal} {ls : List (List Cel)} (h : TT σ v ls) (g : Grows σ σ') : TT σ' v ls := by
 obtain ⟨es, h1, h2, h3⟩ := h
 exact ⟨es, h1.grow g, h2, h3⟩
theorem TT.len {σ : Store} {v : AVal} {ls : List (List Cel)} (h : TT σ v ls) : lenSV v = some ls.length := h.terms.len
def TA (v : AVal) (ls : List (List Cel)) : Prop := ∃ es, (∀ σ : Store, SlOf σ 1 v es) ∧ Two Told es ls
theorem TA.terms {v : AVal} {ls : List (List Cel)} (h : TA v ls) (σ : Store) : Terms σ v ls := by
 obtain ⟨es, h1, h3⟩ := h
 exact ⟨es, h1 σ, h3.mono fun e t h => h σ⟩
theorem TT.set {σ : Store} {v : AVal} {ls : List (List Cel)} {lo j : Nat} {u : AVal} {t : List Cel} (h : TT σ v ls) (hf : Fresh lo v) (hj : j < ls.length) (hu : Told u t) : ∃ σ', storeV σ 1 (addrOf 1 v j) u = some σ' ∧ TT σ' v (ls.set j t) ∧ Keeps (fun i => lo ≤ i) σ σ' := by
 obtain ⟨es, h1, h2, h3⟩ := h
 have hj' : j < es.length := by rw [h3.len]; exact hj
 obtain ⟨e, e1, e2⟩ := h3.get hj
 have hee : es[j] = e := by rw [List.getElem?_eq_getElem hj'] at e1; exact Option.some.inj e1
 have o1 := (e2 σ).one
 have o2 := (hu σ).one
 have hc : u.cells = [u] := by cases u <;> simp_all [AVal.one]
 have hc2 : e.cells = [e] := by cases e <;> simp_all [AVal.one]
 have hr : e.reform [u] = u := by cases e <;> simp_all [AVal.one, AVal.reform]
 obtain ⟨σ', p1, p2, p3, -⟩ := h1.store h2 hj' (x := u) (by rw [hc]; simp only [List.all_cons, List.all_nil, o2]; rfl) (by rw [hc]; rfl) (by rw [hee, hc2]; rfl) (by rw [hee, hc]; exact hr)
 exact ⟨σ', p1, ⟨_, p2, h2, Two.set h3 j hu⟩, p3.mono fun i _ e => hf i e⟩
section
variable (d : Nat) (σ : Store)
end
structure HandedT (σ : Store) (v : AVal) (xs : List (List Cel)) (lo hi : Nat) : Prop where
 row : ∃ es, Own σ 1 v es ∧ Two (fun e x => ∃ id, lo ≤ id ∧ id < hi ∧ HandedC σ e x id) es xs
 frs : ∀ j, v.sid = some j → lo ≤ j ∧ j < hi
theorem HandedT.keep {σ σ' : Store} {v : AVal} {xs : List (List Cel)} {lo hi : Nat} (h : HandedT σ v xs lo hi) {M : Nat → Prop} (k : Keeps M σ σ') (hm : ∀ j, lo ≤ j → j < hi → ¬ M j) : HandedT σ' v xs lo hi := by
 obtain ⟨⟨es, h1, h2⟩, h3⟩ := h
 exact ⟨⟨es, h1.keeps k fun j hj => hm j (h3 j hj).1 (h3 j hj).2, h2.mono fun e x ⟨id, a, b, c⟩ => ⟨id, a, b, c.keep k (hm id a b)⟩⟩, h3⟩
theorem HandedT.terms {σ : Store} {v : AVal} {xs : List (List Cel)} {lo hi : Nat} (h : HandedT σ v xs lo hi) : Terms σ v xs := by
 obtain ⟨⟨es, h1, h2⟩, -⟩ := h
 exact ⟨es, h1.sl, h2.mono fun e x ⟨id, _, _, c⟩ => c.sl⟩
section
variable (d : Nat) (σ : Store)
theorem handterms_ok (l : AVal) (xs : List (List Cel)) (hn : xs.length < 2 ^ 30) (hx : ∀ x ∈ xs, x.length < 2 ^ 30) (hl : Terms σ l xs) : Called CU.cfg d 10 [l] σ fun v σ' => HandedT σ' v xs σ.length σ'.length ∧ Grows σ σ' := by
 refine called_of (fn := CU.a10) rfl (Nat.le_of_ble_eq_true rfl) ?_
 simp only [CU.a10]
 have ll := hl.len
 simp -dsimp only [↓WPd, ↓wpC_block, ↓wpC_cond, WPu, Bool.false_eq_true, Bool.true_eq_false, Bool.not_true, Bool.not_false, if_true, if_false, ite_true, ite_false, Nat.reduceEqDiff, Nat.reduceLT, true_and, List.map_cons, List.map_nil, Nat.zero_add, Nat.reduceBEq]
 refine loop_rule2 (fun m vs σ' => ∃ (k : Nat) (o : AVal) (es : List AVal), k ≤ xs.length ∧ m = xs.length - k ∧ vs = [l, o, .int .i64 (k : Nat)] ∧ Grows σ σ' ∧ Own σ' 1 o es ∧ Fresh σ.length o ∧ Two (fun e x => ∃ id, σ.length ≤ id ∧ id < σ'.length ∧ HandedC σ' e x id) es (xs.take k))
  [3] (fun e vs σ' => e = .exit 0 ∧ ∃ (o : AVal) (es : List AVal), vs = [o] ∧ Grows σ σ' ∧ Own σ' 1 o es ∧ Fresh σ.length o ∧ Two (fun e x => ∃ id, σ.length ≤ id ∧ id < σ'.length ∧ HandedC σ' e x id) es xs) xs.length
  ⟨0, .nilslice, [], Nat.zero_le _, rfl, ?_, Keeps.refl _ _, Own.nil _ _, Fresh.nil _, .nil⟩ ?_ ?_
 ·simp -dsimp only [↓WPd, ↓wpC_block, ↓wpC_cond, WPu, Bool.false_eq_true, Bool.true_eq_false, Bool.not_true, Bool.not_false, if_true, if_false, ite_true, ite_false, Nat.reduceEqDiff, Nat.reduceLT, true_and, List.map_cons, List.map_nil, Nat.zero_add, Nat.reduceBEq]; rfl
 ·rintro m vs σ' ⟨k, o, es, hk, rfl, rfl, g, oo, fo, tw⟩
  simp -dsimp only [↓WPd, ↓wpC_block, ↓wpC_cond, WPu, Bool.false_eq_true, Bool.true_eq_false, Bool.not_true, Bool.not_false, if_true, if_false, ite_true, ite_false, Nat.reduceEqDiff, Nat.reduceLT, true_and, List.map_cons, List.map_nil, Nat.zero_add, Nat.reduceBEq, ll]
  refine condP_dec (fun hc => ?_) (fun hc => ?_)
  ·have hk' : k < xs.length := by omega
   obtain ⟨e, e1, e2, e3⟩ := (hl.grow g).at hk'
   simp -dsimp only [↓WPd, ↓wpC_block, ↓wpC_cond, WPu, Bool.false_eq_true, Bool.true_eq_false, Bool.not_true, Bool.not_false, if_true, if_false, ite_true, ite_false, Nat.reduceEqDiff, Nat.reduceLT, true_and, List.map_cons, List.map_nil, Nat.zero_add, Nat.reduceBEq, e1, e2]
   refine calledW_of (handc_ok d σ' e xs[k] (hx _ (List.getElem_mem hk')) e3) ?_
   rintro u σ2 ⟨hu, g2⟩
   have ht : xs.take (k + 1) = xs.take k ++ [xs[k]] := List.take_succ_eq_append_getElem hk'
   have hel := tw.len
   rw [List.length_take, Nat.min_eq_left (by omega)] at hel
   obtain ⟨o', σ3, a1, a2, a3, a4, a5⟩ := (oo.grow g2).append [u] 24 (by simp; omega)
   have l1 := lit1_ok (a := u) hu.sl.one
   have el := fun tg => elems_fs 1 tg true σ2 [u]
   have kC : ∀ {e : AVal} {x : List Cel} {id : Nat}, HandedC σ2 e x id → HandedC σ3 e x id := fun h => h.keep a3 fun hj => (oo.grow g2).noArr h.obj (by decide) hj
   have hlt := (List.getElem?_eq_some_iff.1 hu.obj).1
   simp -dsimp only [↓WPd, ↓wpC_block, ↓wpC_cond, WPu, Bool.false_eq_true, Bool.true_eq_false, Bool.not_true, Bool.not_false, if_true, if_false, ite_true, ite_false, Nat.reduceEqDiff, Nat.reduceLT, true_and, List.map_cons, List.map_nil, Nat.zero_add, Nat.reduceBEq, l1, el, a1]
   refine ⟨xs.length - (k + 1), by omega, k + 1, o', es ++ [u], by omega, rfl, by rw [wrap_i64 (by omega) (by omega), Int.natCast_add, Int.natCast_one], Keeps.trans (g.trans g2) a3 fun i hi e => by have := fo i e; omega, a2, fun i hi => ?_, ?_⟩
   ·rcases a4 i hi with e | e
    ·exact fo i e
    ·have := (g.trans g2).1; omega
   ·rw [ht]
    refine (tw.mono fun e x ⟨id, q1, q2, q3⟩ => ⟨id, q1, by have := g2.1; have := a3.1; omega, kC (q3.keep g2 fun h => h)⟩).push ⟨σ'.length, g.1, by have := a3.1; omega, kC hu⟩
  ·have : k = xs.length := by omega
   subst this
   rw [List.take_length] at tw
   simp -dsimp only [↓WPd, ↓wpC_block, ↓wpC_cond, WPu, Bool.false_eq_true, Bool.true_eq_false, Bool.not_true, Bool.not_false, if_true, if_false, ite_true, ite_false, Nat.reduceEqDiff, Nat.reduceLT, true_and, List.map_cons, List.map_nil, Nat.zero_add, Nat.reduceBEq]
   exact ⟨o, es, rfl, g, oo, fo, tw⟩
 ·rintro e σ' env ⟨rfl, o, es, hv, g, oo, fo, tw⟩
  simp only [List.map_cons, List.map_nil, List.cons.injEq, and_true] at hv
  simp -dsimp only [↓WPd, ↓wpC_block, ↓wpC_cond, WPu, Bool.false_eq_true, Bool.true_eq_false, Bool.not_true, Bool.not_false, if_true, if_false, ite_true, ite_false, Nat.reduceEqDiff, Nat.reduceLT, true_and, List.map_cons, List.map_nil, Nat.zero_add, Nat.reduceBEq, hv]
  exact ⟨⟨⟨es, oo, tw⟩, fun j hj => ⟨fo j hj, oo.sl.lt hj⟩⟩, g⟩
theorem keptterms_ok (v l : AVal) (xs : List (List Cel)) (lo hi : Nat) (hn : xs.length < 2 ^ 30) (hx : ∀ x ∈ xs, x.length < 2 ^ 30) (hv : HandedT σ v xs lo hi) (hl : Terms σ l xs) : Called CU.cfg d 22 [v, l] σ fun r σ' => r = .bool true ∧ σ' = σ := by
 refine called_of (fn := CU.a22) rfl (Nat.le_of_ble_eq_true rfl) ?_
 simp only [CU.a22]
 have ll := hl.len
 have lv := hv.terms.len
 have n1 : ((xs.length : Int) != (xs.length : Int)) = false := by simp
 simp -dsimp only [↓WPd, ↓wpC_block, ↓wpC_cond, WPu, Bool.false_eq_true, Bool.true_eq_false, Bool.not_true, Bool.not_false, if_true, if_false, ite_true, ite_false, Nat.reduceEqDiff, Nat.reduceLT, true_and, List.map_cons, List.map_nil, Nat.zero_add, Nat.reduceBEq, ll, lv, n1]
 refine loop_rule (fun m vs σ' => ∃ k : Nat, k ≤ xs.length ∧ m = xs.length - k ∧ σ' = σ ∧ vs = [v, l, .int .i64 (k : Nat)]) xs.length ⟨0, Nat.zero_le _, rfl, rfl, ?_⟩ ?_
 ·simp -dsimp only [↓WPd, ↓wpC_block, ↓wpC_cond, WPu, Bool.false_eq_true, Bool.true_eq_false, Bool.not_true, Bool.not_false, if_true, if_false, ite_true, ite_false, Nat.reduceEqDiff, Nat.reduceLT, true_and, List.map_cons, List.map_nil, Nat.zero_add, Nat.reduceBEq]; rfl
 ·rintro m vs σ' ⟨k, hk, rfl, rfl, rfl⟩
  simp -dsimp only [↓WPd, ↓wpC_block, ↓wpC_cond, WPu, Bool.false_eq_true, Bool.true_eq_false, Bool.not_true, Bool.not_false, if_true, if_false, ite_true, ite_false, Nat.reduceEqDiff, Nat.reduceLT, true_and, List.map_cons, List.map_nil, Nat.zero_add, Nat.reduceBEq, ll]
  refine condP_dec (fun hc => ?_) (fun hc => ?_)
  ·have hk' : k < xs.length := by omega
   obtain ⟨e, e1, e2, e3⟩ := hl.at hk'
   obtain ⟨⟨es, h1, h2⟩, -⟩ := hv
   have hke : k < es.length := by rw [h2.len]; exact hk'
   obtain ⟨u, u1, id, u2, u3, u4⟩ := h2.get hk'
   have hu : es[k] = u := by rw [List.getElem?_eq_getElem hke] at u1; exact Option.some.inj u1
   have b1 := h1.sl.iaddr hke .i64
   have b2 := h1.sl.load1 hke (by rw [hu]; exact u4.sl.one) 1
   rw [hu] at b2
   simp -dsimp only [↓WPd, ↓wpC_block, ↓wpC_cond, WPu, Bool.false_eq_true, Bool.true_eq_false, Bool.not_true, Bool.not_false, if_true, if_false, ite_true, ite_false, Nat.reduceEqDiff, Nat.reduceLT, true_and, List.map_cons, List.map_nil, Nat.zero_add, Nat.reduceBEq, e1, e2, b1, b2]
   refine calledW_of (keptc_ok d σ' u e xs[k] id (hx _ (List.getElem_mem hk')) u4 e3) ?_
   rintro r σ2 ⟨rfl, rfl⟩
   simp -dsimp only [↓WPd, ↓wpC_block, ↓wpC_cond, WPu, Bool.false_eq_true, Bool.true_eq_false, Bool.not_true, Bool.not_false, if_true, if_false, ite_true, ite_false, Nat.reduceEqDiff, Nat.reduceLT, true_and, List.map_cons, List.map_nil, Nat.zero_add, Nat.reduceBEq]
   exact ⟨xs.length - (k + 1), by omega, k + 1, by omega, rfl, by rw [wrap_i64 (by omega) (by omega), Int.natCast_add, Int.natCast_one]⟩
  ·simp -dsimp only [↓WPd, ↓wpC_block, ↓wpC_cond, WPu, Bool.false_eq_true, Bool.true_eq_false, Bool.not_true, Bool.not_false, if_true, if_false, ite_true, ite_false, Nat.reduceEqDiff, Nat.reduceLT, true_and, List.map_cons, List.map_nil, Nat.zero_add, Nat.reduceBEq]
end
theorem ngarbage_ok (d : Nat) (σ : Store) (rsv : AVal) (rs : List Nm) (hr : SlOf σ 2 rsv (NN rs)) (hrs : rs.length < 2 ^ 38) : Called CU.cfg d 12 [.nilptr, rsv] σ fun r σ' => Grows σ σ' ∧ r = .nilslice := by
 refine called_of (fn := CU.a12) rfl (Nat.le_of_ble_eq_true rfl) ?_
 simp only [CU.a12]
 simp -dsimp only [↓WPd, ↓wpC_block, ↓wpC_cond, WPu, Bool.false_eq_true, Bool.true_eq_false, Bool.not_true, Bool.not_false, if_true, if_false, ite_true, ite_false, Nat.reduceEqDiff, Nat.reduceLT, true_and, List.map_cons, List.map_nil, Nat.zero_add, Nat.reduceBEq]
 refine calledW_of (walk_ok d σ .nilptr [] WF.nil (by simp) rsv rs (HeapV.none σ) hr hrs) ?_
 rintro r σ1 ⟨g1, lv, fm, l, bs, rfl, -⟩
 simp -dsimp only [↓WPd, ↓wpC_block, ↓wpC_cond, WPu, Bool.false_eq_true, Bool.true_eq_false, Bool.not_true, Bool.not_false, if_true, if_false, ite_true, ite_false, Nat.reduceEqDiff, Nat.reduceLT, true_and, List.map_cons, List.map_nil, Nat.zero_add, Nat.reduceBEq, List.getElem?_cons_zero, List.getElem?_cons_succ]
 refine calledW_of (nbindings_ok d σ1) ?_
 rintro b σ2 ⟨rfl, g2⟩
 have l0 : lenSV .nilslice = some 0 := rfl
 simp -dsimp only [↓WPd, ↓wpC_block, ↓wpC_cond, WPu, Bool.false_eq_true, Bool.true_eq_false, Bool.not_true, Bool.not_false, if_true, if_false, ite_true, ite_false, Nat.reduceEqDiff, Nat.reduceLT, true_and, List.map_cons, List.map_nil, Nat.zero_add, Nat.reduceBEq, l0]
 refine loop_rule2 (fun m xs σ' => xs = [.map fm, .nilslice, .nilslice, .int .i64 ((0 : Nat) : Int), .int .i64 ((0 : Nat) : Int)] ∧ σ' = σ2) [7] (fun e xs σ' => e = .exit 0 ∧ xs = [.nilslice] ∧ σ' = σ2) 0 ⟨?_, rfl⟩ ?_ ?_
 ·simp -dsimp only [↓WPd, ↓wpC_block, ↓wpC_cond, WPu, Bool.false_eq_true, Bool.true_eq_false, Bool.not_true, Bool.not_false, if_true, if_false, ite_true, ite_false, Nat.reduceEqDiff, Nat.reduceLT, true_and, List.map_cons, List.map_nil, Nat.zero_add, Nat.reduceBEq]; rfl
 ·rintro m xs σ' ⟨rfl, rfl⟩
  have d0 : decide (((0 : Nat) : Int) < ((0 : Nat) : Int)) = false := rfl
  simp -dsimp only [↓WPd, ↓wpC_block, ↓wpC_cond, WPu, Bool.false_eq_true, Bool.true_eq_false, Bool.not_true, Bool.not_false, if_true, if_false, ite_true, ite_false, Nat.reduceEqDiff, Nat.reduceLT, true_and, List.map_cons, List.map_nil, Nat.zero_add, Nat.reduceBEq, d0]
 ·rintro e σ' env ⟨rfl, hv, rfl⟩
  simp only [List.map_cons, List.map_nil, List.cons.injEq, and_true] at hv
  simp -dsimp only [↓WPd, ↓wpC_block, ↓wpC_cond, WPu, Bool.false_eq_true, Bool.true_eq_false, Bool.not_true, Bool.not_false, if_true, if_false, ite_true, ite_false, Nat.reduceEqDiff, Nat.reduceLT, true_and, List.map_cons, List.map_nil, Nat.zero_add, Nat.reduceBEq, hv]
  exact ⟨g1.trans g2, trivial⟩
set_option maxHeartbeats 4000000 in
theorem reachneeded_run (bv rv tv : AVal) (bs : Hp) (rs : List Nm) (ts : List (List Cel)) (hb : BdArg bv bs) (hr : ∀ σ : Store, SlOf σ 2 rv (NN rs)) (l0 : rs.length < 2 ^ 27) (ht : TA tv ts) (t0 : ts.flatten.length < 2 ^ 27) (t1 : ts.length < 2 ^ 27) (t2 : ∀ t ∈ ts, t.length < 2 ^ 28) :
  Called CU.cfg 0 3 [bv, rv, tv] [] fun v _ => v = .bool true := by
 refine called_of (fn := CU.a3) rfl (Nat.le_of_ble_eq_true rfl) ?_
 simp only [CU.a3]
 have hlb := hb.len
 simp -dsimp only [↓WPd, ↓wpC_block, ↓wpC_cond, WPu, Bool.false_eq_true, Bool.true_eq_false, Bool.not_true, Bool.not_false, if_true, if_false, ite_true, ite_false, Nat.reduceEqDiff, Nat.reduceLT, true_and, List.map_cons, List.map_nil, Nat.zero_add, Nat.reduceBEq]
 refine calledW_of (maps18_ok 0 [] bv bs (hb.in []) hb.small (by omega)) ?_
 rintro r σ1 ⟨id, mid, vs, rid, A, rfl, hh, hrf, g1, -, -, -, -⟩
 have hw := hh.wf
 have hs : Same (bindsH [] bs) (bindsR [] bs) := Same.nil.binds bs
 have hlen := bindsR_len bs []
 simp only [List.length_nil] at hlen
 have hHl := hs.len
 have hwr := hs.wfr
 generalize bindsH [] bs = H at *
 generalize bindsR [] bs = R at *
 simp -dsimp only [↓WPd, ↓wpC_block, ↓wpC_cond, WPu, Bool.false_eq_true, Bool.true_eq_false, Bool.not_true, Bool.not_false, if_true, if_false, ite_true, ite_false, Nat.reduceEqDiff, Nat.reduceLT, true_and, List.map_cons, List.map_nil, Nat.zero_add, Nat.reduceBEq, List.getElem?_cons_zero, List.getElem?_cons_succ]
 refine calledW_of (handn_ok 0 σ1 rv rs (by omega) (hr σ1)) ?_
 rintro iv σ2 ⟨hin, g2⟩
 simp -dsimp only [↓WPd, ↓wpC_block, ↓wpC_cond, WPu, Bool.false_eq_true, Bool.true_eq_false, Bool.not_true, Bool.not_false, if_true, if_false, ite_true, ite_false, Nat.reduceEqDiff, Nat.reduceLT, true_and, List.map_cons, List.map_nil, Nat.zero_add, Nat.reduceBEq]
 refine calledW_of (handterms_ok 0 σ2 tv ts (by omega) (fun x hx => by have := t2 x hx; omega) (ht.terms σ2)) ?_
 rintro jv σ3 ⟨hjn, g3⟩
 have h3 := (hh.grow g2).grow g3
 have r3 := (hrf.grow g2).grow g3
 have i3 := hin.keep g3 fun h => h
 simp -dsimp only [↓WPd, ↓wpC_block, ↓wpC_cond, WPu, Bool.false_eq_true, Bool.true_eq_false, Bool.not_true, Bool.not_false, if_true, if_false, ite_true, ite_false, Nat.reduceEqDiff, Nat.reduceLT, true_and, List.map_cons, List.map_nil, Nat.zero_add, Nat.reduceBEq]
 refine calledW_of (needed_ok 0 σ3 (.ptr id 0) H hw (by omega) iv rs h3.v i3.sl (by omega)) ?_
 rintro x σ4 ⟨g4, lx, ox, ⟨fx, ux⟩, dx, mx, nx⟩
 simp -dsimp only [↓WPd, ↓wpC_block, ↓wpC_cond, WPu, Bool.false_eq_true, Bool.true_eq_false, Bool.not_true, Bool.not_false, if_true, if_false, ite_true, ite_false, Nat.reduceEqDiff, Nat.reduceLT, true_and, List.map_cons, List.map_nil, Nat.zero_add, Nat.reduceBEq]
 refine calledW_of (garbage_ok 0 σ4 id mid vs H R (h3.grow g4) hs (by omega) iv rs (i3.sl.grow g4) (by omega)) ?_
 rintro y σ5 ⟨g5, ly, oy, ⟨fy, uy⟩, dy, my⟩
 simp -dsimp only [↓WPd, ↓wpC_block, ↓wpC_cond, WPu, Bool.false_eq_true, Bool.true_eq_false, Bool.not_true, Bool.not_false, if_true, if_false, ite_true, ite_false, Nat.reduceEqDiff, Nat.reduceLT, true_and, List.map_cons, List.map_nil, Nat.zero_add, Nat.reduceBEq]
 refine calledW_of (pterms_ok 0 σ5 (.ptr id 0) H hw (by omega) jv ts ((h3.grow g4).grow g5).v (hjn.terms.grow (g4.trans g5)) (by omega) (by omega)) ?_
 rintro z σ6 ⟨g6, lz, oz, ⟨fz, uz⟩, dz, mz, nz⟩
 simp -dsimp only [↓WPd, ↓wpC_block, ↓wpC_cond, WPu, Bool.false_eq_true, Bool.true_eq_false, Bool.not_true, Bool.not_false, if_true, if_false, ite_true, ite_false, Nat.reduceEqDiff, Nat.reduceLT, true_and, List.map_cons, List.map_nil, Nat.zero_add, Nat.reduceBEq]
 refine isoW_bool live18_ran ?_
 have g36 := (g4.trans g5).trans g6
 simp -dsimp only [↓WPd, ↓wpC_block, ↓wpC_cond, WPu, Bool.false_eq_true, Bool.true_eq_false, Bool.not_true, Bool.not_false, if_true, if_false, ite_true, ite_false, Nat.reduceEqDiff, Nat.reduceLT, true_and, List.map_cons, List.map_nil, Nat.zero_add, Nat.reduceBEq]
 refine calledW_of (rneeded_ok 0 σ6 (.ptr rid 0) R hwr (by omega) rv rs (r3.grow g36).v (hr σ6) (by omega)) ?_
 rintro q7 σ7 ⟨g7, l7, s7, d7, m7, n7⟩
 have e7 : sortN l7 = sortN lx := sortN_same d7 dx fun v => (m7 v).trans ((hs.rea rs v).trans (mx v).symm)
 rw [e7] at s7
 simp -dsimp only [↓WPd, ↓wpC_block, ↓wpC_cond, WPu, Bool.false_eq_true, Bool.true_eq_false, Bool.not_true, Bool.not_false, if_true, if_false, ite_true, ite_false, Nat.reduceEqDiff, Nat.reduceLT, true_and, List.map_cons, List.map_nil, Nat.zero_add, Nat.reduceBEq]
 refine calledW_of (msamenames_ok 0 σ7 x q7 (sortN lx) (by rw [sortN_len]; omega) ((ox.grow g5).grow (g6.trans g7)).sl s7) ?_
 rintro r8 σ8 ⟨rfl, rfl⟩
 simp -dsimp only [↓WPd, ↓wpC_block, ↓wpC_cond, WPu, Bool.false_eq_true, Bool.true_eq_false, Bool.not_true, Bool.not_false, if_true, if_false, ite_true, ite_false, Nat.reduceEqDiff, Nat.reduceLT, true_and, List.map_cons, List.map_nil, Nat.zero_add, Nat.reduceBEq]
 refine calledW_of (rgarbage_ok 0 σ8 A rid R ((r3.grow g36).grow g7) hwr (by omega) rv rs (hr σ8) (by omega)) ?_
 rintro q9 σ9 ⟨g9, l9, s9, d9, m9⟩
 have e9 : garb R l9 = garb R ly := by
  unfold garb
  have : ∀ v, l9.contains v = ly.contains v := fun v => by
   rw [Bool.eq_iff_iff]
   have := (m9 v).trans ((hs.rea rs v).trans (my v).symm)
   simpa using this
  simp only [this]
 rw [e9] at s9
 simp -dsimp only [↓WPd, ↓wpC_block, ↓wpC_cond, WPu, Bool.false_eq_true, Bool.true_eq_false, Bool.not_true, Bool.not_false, if_true, if_false, ite_true, ite_false, Nat.reduceEqDiff, Nat.reduceLT, true_and, List.map_cons, List.map_nil, Nat.zero_add, Nat.reduceBEq]
 refine calledW_of (msamenames_ok 0 σ9 y q9 (garb R ly) (by
  have h1 : (garb R ly).length ≤ (R.map (·.1)).length := List.length_filter_le _ _
  simp at h1; omega) ((oy.grow g6).grow (g7.trans g9)).sl s9) ?_
 rintro r10 σ10 ⟨rfl, rfl⟩
 have g610 := g7.trans g9
 simp -dsimp only [↓WPd, ↓wpC_block, ↓wpC_cond, WPu, Bool.false_eq_true, Bool.true_eq_false, Bool.not_true, Bool.not_false, if_true, if_false, ite_true, ite_false, Nat.reduceEqDiff, Nat.reduceLT, true_and, List.map_cons, List.map_nil, Nat.zero_add, Nat.reduceBEq]
 refine calledW_of (rterms_ok 0 σ10 (.ptr rid 0) R hwr (by omega) tv ts ((r3.grow g36).grow g610).v (ht.terms σ10) (by omega) (by omega)) ?_
 rintro q11 σ11 ⟨g11, l11, s11, d11, m11, n11⟩
 have e11 : sortN l11 = sortN lz := sortN_same d11 dz fun v => (m11 v).trans ((hs.rea _ v).trans (mz v).symm)
 rw [e11] at s11
 simp -dsimp only [↓WPd, ↓wpC_block, ↓wpC_cond, WPu, Bool.false_eq_true, Bool.true_eq_false, Bool.not_true, Bool.not_false, if_true, if_false, ite_true, ite_false, Nat.reduceEqDiff, Nat.reduceLT, true_and, List.map_cons, List.map_nil, Nat.zero_add, Nat.reduceBEq]
 refine calledW_of (msamenames_ok 0 σ11 z q11 (sortN lz) (by rw [sortN_len]; omega) (oz.grow (g610.trans g11)).sl s11) ?_
 rintro r12 σ12 ⟨rfl, rfl⟩
 have g612 := g610.trans g11
 have i12 := (i3.sl.grow g36).grow g612
 simp -dsimp only [↓WPd, ↓wpC_block, ↓wpC_cond, WPu, Bool.false_eq_true, Bool.true_eq_false, Bool.not_true, Bool.not_false, if_true, if_false, ite_true, ite_false, Nat.reduceEqDiff, Nat.reduceLT, true_and, List.map_cons, List.map_nil, Nat.zero_add, Nat.reduceBEq]
 refine calledW_of (needed_ok 0 σ12 .nilptr [] WF.nil (by simp) iv rs (HeapV.none σ12) i12 (by omega)) ?_
 rintro q13 σ13 ⟨g13, l13, o13, f13, d13, m13, n13⟩
 simp -dsimp only [↓WPd, ↓wpC_block, ↓wpC_cond, WPu, Bool.false_eq_true, Bool.true_eq_false, Bool.not_true, Bool.not_false, if_true, if_false, ite_true, ite_false, Nat.reduceEqDiff, Nat.reduceLT, true_and, List.map_cons, List.map_nil, Nat.zero_add, Nat.reduceBEq]
 refine calledW_of (rneeded_ok 0 σ13 .nilptr [] WF.nil (by simp) rv rs (.inl ⟨rfl, rfl⟩) (hr σ13) (by omega)) ?_
 rintro q14 σ14 ⟨g14, l14, s14, d14, m14, n14⟩
 have e14 : sortN l14 = sortN l13 := sortN_same d14 d13 fun v => (m14 v).trans (m13 v).symm
 rw [e14] at s14
 simp -dsimp only [↓WPd, ↓wpC_block, ↓wpC_cond, WPu, Bool.false_eq_true, Bool.true_eq_false, Bool.not_true, Bool.not_false, if_true, if_false, ite_true, ite_false, Nat.reduceEqDiff, Nat.reduceLT, true_and, List.map_cons, List.map_nil, Nat.zero_add, Nat.reduceBEq]
 refine calledW_of (msamenames_ok 0 σ14 q13 q14 (sortN l13) (by rw [sortN_len]; omega) (o13.grow g14).sl s14) ?_
 rintro r15 σ15 ⟨rfl, rfl⟩
 have g615 := g612.trans (g13.trans g14)
 have i15 := i12.grow (g13.trans g14)
 simp -dsimp only [↓WPd, ↓wpC_block, ↓wpC_cond, WPu, Bool.false_eq_true, Bool.true_eq_false, Bool.not_true, Bool.not_false, if_true, if_false, ite_true, ite_false, Nat.reduceEqDiff, Nat.reduceLT, true_and, List.map_cons, List.map_nil, Nat.zero_add, Nat.reduceBEq]
 refine calledW_of (ngarbage_ok 0 σ15 iv rs i15 (by omega)) ?_
 rintro r16 σ16 ⟨g16, rfl⟩
 have l0 : lenSV .nilslice = some 0 := rfl
 have z0 : (((0 : Nat) : Int) != 0) = false := rfl
 have e5 : fillA [AVal.nilslice, .nilslice, .nilslice, .nilslice, .nilslice] [] = some [AVal.nilslice, .nilslice, .nilslice, .nilslice, .nilslice] := rfl
 have e6 : [AVal.nilslice, .nilslice, .nilslice, .nilslice, .nilslice].all AVal.one = true := rfl
 simp -dsimp only [↓WPd, ↓wpC_block, ↓wpC_cond, WPu, Bool.false_eq_true, Bool.true_eq_false, Bool.not_true, Bool.not_false, if_true, if_false, ite_true, ite_false, Nat.reduceEqDiff, Nat.reduceLT, true_and, List.map_cons, List.map_nil, Nat.zero_add, Nat.reduceBEq, l0, z0, e5, e6, cells_agg]
 have gb : Grows σ16 (σ16 ++ [AObj.cells [.nilslice, .nilslice, .nilslice, .nilslice, .nilslice]]) := Grows.app _ _
 have bk0 : BookN .nilslice .nilslice .nilslice .nilslice 0 (σ16 ++ [AObj.cells [.nilslice, .nilslice, .nilslice, .nilslice, .nilslice]]) σ16.length .nilslice [] [] := ⟨by simp, ORows.nil _ _ _⟩
 have lb : σ16.length < (σ16 ++ [AObj.cells [.nilslice, .nilslice, .nilslice, .nilslice, .nilslice]]).length := by simp
 generalize σ16 ++ [AObj.cells [.nilslice, .nilslice, .nilslice, .nilslice, .nilslice]] = σb at gb bk0 lb
 generalize hib : σ16.length = ib at bk0 lb
 have g6b := (g615.trans g16).trans gb
 have oxb := (ox.grow (g5.trans g6)).grow g6b
 have oyb := (oy.grow g6).grow g6b
 have ozb := oz.grow g6b
 have tx : ∀ j, x.sid = some j → σ3.length ≤ j ∧ j < σ4.length := fun j hj => ⟨fx j hj, ox.sl.lt hj⟩
 have ty : ∀ j, y.sid = some j → σ4.length ≤ j ∧ j < σ5.length := fun j hj => ⟨fy j hj, oy.sl.lt hj⟩
 have tz : ∀ j, z.sid = some j → σ5.length ≤ j ∧ j < σ6.length := fun j hj => ⟨fz j hj, oz.sl.lt hj⟩
 have q45 := g5.1
 have q56 := g6.1
 have q6i : σ6.length ≤ ib := by rw [← hib]; exact (g615.trans g16).1
 have w0 : ∀ j, AVal.nilslice.sid = some j → σ16.length ≤ j := fun j h => by cases h
 refine calledW_of (taken_ok 0 σb _ _ _ _ 0 ib .nilslice x [] [] (sortN lx) bk0 oxb (fun j _ => Nat.zero_le _) (Nat.zero_le _) ux (by simp) (fun j _ h => by cases h) (fun i x j h => by simp at h)) ?_
 rintro r17 σ17 ⟨k17, w17, bk17, s17⟩
 have out17 : ∀ j, j < ib → ¬ (j = ib ∨ AVal.nilslice.sid = some j) := fun j hj e => by
  rcases e with e | e
  ·omega
  ·cases e
 have w17' : ∀ j, w17.sid = some j → ib < j := fun j hj => by
  rcases s17 j hj with e | e
  ·cases e
  ·omega
 simp -dsimp only [↓WPd, ↓wpC_block, ↓wpC_cond, WPu, Bool.false_eq_true, Bool.true_eq_false, Bool.not_true, Bool.not_false, if_true, if_false, ite_true, ite_false, Nat.reduceEqDiff, Nat.reduceLT, true_and, List.map_cons, List.map_nil, Nat.zero_add, Nat.reduceBEq]
 have oy17 := oyb.keeps k17 fun j hj => out17 j (by have := ty j hj; omega)
 refine calledW_of (taken_ok 0 σ17 _ _ _ _ 0 ib w17 y ([] ++ [x]) ([] ++ [sortN lx]) (garb R ly) bk17 oy17 (fun j _ => Nat.zero_le _) (Nat.zero_le _) uy (by simp) (fun j hj e => by have := ty j hj; have := w17' j e; omega) (fun i u j hu hj e => by
  have : u = x := by
   cases i with
   | zero => simpa using hu.symm
   | succ i => simp at hu
  subst this
  have := tx j e; have := ty j hj; omega)) ?_
 rintro r18 σ18 ⟨k18, w18, bk18, s18⟩
 have out18 : ∀ j, j < ib → ¬ (j = ib ∨ w17.sid = some j) := fun j hj e => by
  rcases e with e | e
  ·omega
  ·have := w17' j e; omega
 have lb17 := k17.1
 have w18' : ∀ j, w18.sid = some j → ib < j := fun j hj => by
  rcases s18 j hj with e | e
  ·exact w17' j e
  ·omega
 simp -dsimp only [↓WPd, ↓wpC_block, ↓wpC_cond, WPu, Bool.false_eq_true, Bool.true_eq_false, Bool.not_true, Bool.not_false, if_true, if_false, ite_true, ite_false, Nat.reduceEqDiff, Nat.reduceLT, true_and, List.map_cons, List.map_nil, Nat.zero_add, Nat.reduceBEq]
 have oz17 := ozb.keeps k17 fun j hj => out17 j (by have := tz j hj; omega)
 have oz18 := oz17.keeps k18 fun j hj => out18 j (by have := tz j hj; omega)
 refine calledW_of (taken_ok 0 σ18 _ _ _ _ 0 ib w18 z ([] ++ [x] ++ [y]) ([] ++ [sortN lx] ++ [garb R ly]) (sortN lz) bk18 oz18 (fun j _ => Nat.zero_le _) (Nat.zero_le _) uz (by simp) (fun j hj e => by have := tz j hj; have := w18' j e; omega) (fun i u j hu hj e => by
  have : u = x ∨ u = y := by
   match i, hu with
   | 0, hu => left; simpa using hu.symm
   | 1, hu => right; simpa using hu.symm
  rcases this with rfl | rfl
  ·have := tx j e; have := tz j hj; omega
  ·have := ty j e; have := tz j hj; omega)) ?_
 rintro r19 σ19 ⟨k19, w19, bk19, s19⟩
 have out19 : ∀ j, j < ib → ¬ (j = ib ∨ w18.sid = some j) := fun j hj e => by
  rcases e with e | e
  ·omega
  ·have := w18' j e; omega
 have lb18 := k18.1
 have lb19 := k19.1
 have w19' : ∀ j, w19.sid = some j → ib < j := fun j hj => by
  rcases s19 j hj with e | e
  ·exact w18' j e
  ·omega
 have k3b : Keeps (fun j => ib ≤ j) σb σ19 := Keeps.trans (Keeps.trans (k17.mono fun j hj e => by
   rcases e with e | e
   ·omega
   ·cases e) k18 fun j hj e => by
   rcases e with e | e
   ·omega
   ·have := w17' j e; omega) k19 fun j hj e => by
   rcases e with e | e
   ·omega
   ·have := w18' j e; omega
 have q34 := g4.1
 have hid : id < σ3.length := (List.getElem?_eq_some_iff.1 h3.obj).1
 have hmd : mid < σ3.length := (List.getElem?_eq_some_iff.1 h3.map).1
 have hii : σ1.length < σ3.length := (List.getElem?_eq_some_iff.1 i3.obj).1
 have h19 := ((h3.grow g36).grow g6b).keeps k3b (by omega) (by omega)
 have ib3 := (i3.keep g36 fun h => h).keep g6b fun h => h
 have i19 := ib3.keep k3b (by omega)
 simp -dsimp only [↓WPd, ↓wpC_block, ↓wpC_cond, WPu, Bool.false_eq_true, Bool.true_eq_false, Bool.not_true, Bool.not_false, if_true, if_false, ite_true, ite_false, Nat.reduceEqDiff, Nat.reduceLT, true_and, List.map_cons, List.map_nil, Nat.zero_add, Nat.reduceBEq]
 refine calledW_of (needed_ok 0 σ19 (.ptr id 0) H hw (by omega) iv rs h19.v i19.sl (by omega)) ?_
 rintro x20 σ20 ⟨g20, l20, o20, ⟨f20, u20⟩, d20, m20, n20⟩
 have bk20 : BookN .nilslice .nilslice .nilslice .nilslice 0 σ20 ib w19 ([] ++ [x] ++ [y] ++ [z]) ([] ++ [sortN lx] ++ [garb R ly] ++ [sortN lz]) := ⟨g20.get bk19.obj, bk19.rows.grow g20⟩
 simp -dsimp only [↓WPd, ↓wpC_block, ↓wpC_cond, WPu, Bool.false_eq_true, Bool.true_eq_false, Bool.not_true, Bool.not_false, if_true, if_false, ite_true, ite_false, Nat.reduceEqDiff, Nat.reduceLT, true_and, List.map_cons, List.map_nil, Nat.zero_add, Nat.reduceBEq]
 refine calledW_of (taken_ok 0 σ20 _ _ _ _ 0 ib w19 x20 _ _ (sortN l20) bk20 o20 (fun j _ => Nat.zero_le _) (Nat.zero_le _) u20 (by simp) (fun j hj e => by have := f20 j hj; have := bk19.rows.row.sl.lt e; omega) (fun i u j hu hj e => by have := f20 j hj; have := bk19.rows.lt hu e; omega)) ?_
 rintro r21 σ21 ⟨k21, w21, bk21, s21⟩
 have lb20 := g20.1
 have lb21 := k21.1
 have hgl : (garb R ly).length ≤ R.length := by
  have h1 : (garb R ly).length ≤ (R.map (·.1)).length := List.length_filter_le _ _
  simpa using h1
 simp -dsimp only [↓WPd, ↓wpC_block, ↓wpC_cond, WPu, Bool.false_eq_true, Bool.true_eq_false, Bool.not_true, Bool.not_false, if_true, if_false, ite_true, ite_false, Nat.reduceEqDiff, Nat.reduceLT, true_and, List.map_cons, List.map_nil, Nat.zero_add, Nat.reduceBEq]
 refine calledW_of (alonenm_ok 0 σ21 0 ib w21 _ _ bk21 (by simp) (fun q hq => ?_)) ?_
 ·simp only [List.nil_append, List.cons_append, List.mem_cons, List.not_mem_nil, or_false] at hq
  rcases hq with rfl | rfl | rfl | rfl
  ·rw [sortN_len]
   have := nodup_le dx fun v hv => ((mx v).1 hv).univ
   have := univ_len hw rs
   omega
  ·omega
  ·rw [sortN_len]
   have := nodup_le dz fun v hv => ((mz v).1 hv).univ
   have := univ_len hw (varsL [] ts.flatten)
   have hl := varsL_len [] ts.flatten
   simp only [List.length_nil] at hl
   omega
  ·rw [sortN_len]
   have := nodup_le d20 fun v hv => ((m20 v).1 hv).univ
   have := univ_len hw rs
   omega
 rintro r22 σ22 ⟨rfl, k22⟩
 have k3c : Keeps (fun j => ib ≤ j ∨ σ3.length ≤ j) σb σ22 := by
  refine Keeps.trans (Keeps.trans (Keeps.trans (k3b.mono fun j hj e => .inl e) g20 fun j hj e => e.elim) k21 fun j hj e => ?_) k22 fun j hj e => ?_
  ·rcases e with e | e
   ·exact .inl (by omega)
   ·exact .inl (by have := w19' j e; omega)
  ·rcases e with e | ⟨i, u, hu, e⟩
   ·exact .inl (by omega)
   ·have : u = x ∨ u = y ∨ u = z ∨ u = x20 := by
     match i, hu with
     | 0, hu => left; simpa using hu.symm
     | 1, hu => right; left; simpa using hu.symm
     | 2, hu => right; right; left; simpa using hu.symm
     | 3, hu => right; right; right; simpa using hu.symm
    rcases this with rfl | rfl | rfl | rfl
    ·have := tx j e; exact .inr (by omega)
    ·have := ty j e; exact .inr (by omega)
    ·have := tz j e; exact .inr (by omega)
    ·have := f20 j e; exact .inr (by omega)
 have i22 := ib3.keep k3c (by omega)
 have j22 := ((hjn.keep g36 fun _ _ _ h => h).keep g6b fun _ _ _ h => h).keep k3c fun j h1 h2 e => by omega
 simp -dsimp only [↓WPd, ↓wpC_block, ↓wpC_cond, WPu, Bool.false_eq_true, Bool.true_eq_false, Bool.not_true, Bool.not_false, if_true, if_false, ite_true, ite_false, Nat.reduceEqDiff, Nat.reduceLT, true_and, List.map_cons, List.map_nil, Nat.zero_add, Nat.reduceBEq]
 refine calledW_of (keptn_ok 0 σ22 iv rv rs _ (by omega) i22 (hr σ22)) ?_
 rintro r23 σ23 ⟨rfl, rfl⟩
 simp -dsimp only [↓WPd, ↓wpC_block, ↓wpC_cond, WPu, Bool.false_eq_true, Bool.true_eq_false, Bool.not_true, Bool.not_false, if_true, if_false, ite_true, ite_false, Nat.reduceEqDiff, Nat.reduceLT, true_and, List.map_cons, List.map_nil, Nat.zero_add, Nat.reduceBEq]
 refine calledW_of (keptterms_ok 0 σ23 jv tv ts _ _ (by omega) (fun x hx => by have := t2 x hx; omega) j22 (ht.terms σ23)) ?_
 rintro r24 σ24 ⟨rfl, rfl⟩
 simp -dsimp only [↓WPd, ↓wpC_block, ↓wpC_cond, WPu, Bool.false_eq_true, Bool.true_eq_false, Bool.not_true, Bool.not_false, if_true, if_false, ite_true, ite_false, Nat.reduceEqDiff, Nat.reduceLT, true_and, List.map_cons, List.map_nil, Nat.zero_add, Nat.reduceBEq]
def AR (σ : Store) (aid : Nat) (ls : List (List Cel)) : Prop := ∃ es, σ[aid]? = some (.arr 1 es 0 0) ∧ Two Told es ls
theorem AR.grow {σ σ' : Store} {aid : Nat} {ls : List (List Cel)} (h : AR σ aid ls) (g : Grows σ σ') : AR σ' aid ls := by
 obtain ⟨es, h1, h2⟩ := h; exact ⟨es, g.get h1, h2⟩
theorem AR.terms {σ : Store} {aid : Nat} {ls : List (List Cel)} (h : AR σ aid ls) {N : Nat} (hN : ls.length = N) : Terms σ (.slice 1 aid 0 0 N (some N)) ls := by
 obtain ⟨es, h1, h2⟩ := h
 subst hN
 have ho : Own σ 1 (.slice 1 aid 0 0 ls.length (some ls.length)) es := ⟨.inr (.inr ⟨aid, 0, 0, some ls.length, es, 0, 0, by rw [h2.len], h1, Nat.le_refl _, by simp, fun _ => by simp, .inr (by rw [h2.len])⟩)⟩
 exact ⟨es, ho.sl, h2.mono fun e t h => h σ⟩
theorem AR.set {σ : Store} {aid : Nat} {ls : List (List Cel)} (h : AR σ aid ls) {j : Nat} (hj : j < ls.length) {u : AVal} {t : List Cel} (hu : Told u t) : ∃ σ', storeV σ 1 (.eptr aid 0 j 0) u = some σ' ∧ AR σ' aid (ls.set j t) ∧ Keeps (fun i => i = aid) σ σ' := by
 obtain ⟨es, h1, h2⟩ := h
 have hj' : j < es.length := by rw [h2.len]; exact hj
 obtain ⟨e, e1, e2⟩ := h2.get hj
 have hee : es[j] = e := by rw [List.getElem?_eq_getElem hj'] at e1; exact Option.some.inj e1
 have st := arr_store1 h1 hj' (hu σ).one (by rw [hee]; exact (e2 σ).one)
 exact ⟨_, st, ⟨_, get_set h1, Two.set h2 j hu⟩, Keeps.set _ _ _⟩
section
variable (d : Nat) (σ : Store)
end
end Go.Proofs.YtelpjaejmneplaaGreatDoor.Am
namespace Go.Proofs.YtelpjaejmneplaaGreatDoor.Am
open Go Go.RowKit Go.ChangeShapes Go.WideShapes Go.ChangeAt Go.Proofs.YtelpjaejmneplaaGreatDoor.Rows
section
variable {H : Type}
theorem names_rd {n : Nat} {d : DataW H} (h : Typed Tryz.prog (n + 3) 23 d) (hb : uptoBulk d ≤ 1048576) : ∃ fr : List Nm, (∀ σ : Store, SlOf σ 2 (argV Tryz.prog (n + 3) 23 d) (NN fr)) ∧ fr.length ≤ uptoBulk d := by
 rcases slice_of Tryz.underlying23 h with rfl | ⟨ds, rest, rfl, hd, ha, hb2⟩
 ·exact ⟨[], fun σ => by rw [argV_nil Tryz.underlying23]; exact SlOf.nil σ 2, Nat.zero_le _⟩
 ·obtain ⟨xs, h1, h2, h3, h4⟩ := list_of (R := fun a (v : Nm) => a = nmV v) (size := fun _ => 0) (fun d h => by
   obtain ⟨v, a1, a2⟩ := name_at (n := n) h
   exact ⟨v, by rw [struct_argV Tryz.underlying49, a1]; rfl, Nat.zero_le _⟩) ds hd
  have e : (ds.map fun x => argV Tryz.prog (n + 2) 49 x) = NN xs := by
   refine List.ext_getElem? fun i => ?_
   by_cases hi : i < ds.length
   ·have e1 : (ds.map fun x => argV Tryz.prog (n + 2) 49 x)[i]? = some (argV Tryz.prog (n + 2) 49 ds[i]) := by simp [List.getElem?_eq_getElem hi]
    have e2 : xs[i]? = some (xs[i]'(by omega)) := List.getElem?_eq_getElem (by omega)
    rw [e1, h2 i _ _ e1 e2, List.getElem?_map, e2]; rfl
   ·rw [List.getElem?_eq_none (by simp; omega), List.getElem?_eq_none (by simp; omega)]
  refine ⟨xs, fun σ => ?_, by omega⟩
  rw [ha, e]; exact SlOf.fs _ _ _ _ _
end
theorem flat_sum (f : List Cel → Nat) (hf : ∀ x, x.length ≤ f x) : ∀ xs : List (List Cel), xs.flatten.length ≤ (xs.map f).sum
 | [] => by simp
 | x :: xs => by
  have ih := flat_sum f hf xs
  have := hf x
  simp only [List.flatten_cons, List.length_append, List.map_cons, List.sum_cons]
  omega
section
variable {H : Type}
theorem terms_rd2 {n : Nat} {d : DataW H} (h : Typed Tryz.prog (n + 5) 24 d) (hb : uptoBulk d ≤ 1048576) : ∃ ls : List (List Cel), TA (argV Tryz.prog (n + 5) 24 d) ls ∧ (∀ t ∈ ls, Small t ∧ t.length < 2 ^ 28) ∧ ls.length ≤ uptoBulk d ∧ ls.flatten.length ≤ uptoBulk d := by
 rcases slice_of Tryz.underlying24 h with rfl | ⟨ds, rest, rfl, hd, ha, hb2⟩
 ·exact ⟨[], ⟨[], fun σ => by rw [argV_nil Tryz.underlying24]; exact SlOf.nil σ 1, .nil⟩, (fun t ht => by cases ht), Nat.zero_le _, Nat.zero_le _⟩
 ·obtain ⟨xs, h1, h2, h3, h4⟩ := list_of (R := fun a (cs : List Cel) => Told a cs ∧ ∀ c ∈ cs, c.In) (size := fun cs : List Cel => max cs.length (cs.map fun c => c.s.length).sum) (fun d h => by
   obtain ⟨cs, a1, a2, a3, a4⟩ := term_at (n := n) h
   exact ⟨cs, ⟨a1, a2⟩, by omega⟩) ds hd
  have hget : ∀ (i : Nat) (cs : List Cel), xs[i]? = some cs → Told ((ds.map fun x => argV Tryz.prog (n + 4) 60 x)[i]?.getD .undef) cs ∧ ∀ c ∈ cs, c.In := fun i cs hi => by
   have hlt := (List.getElem?_eq_some_iff.1 hi).1
   have e1 : (ds.map fun x => argV Tryz.prog (n + 4) 60 x)[i]? = some (argV Tryz.prog (n + 4) 60 (ds[i]'(by omega))) := by simp [List.getElem?_eq_getElem (show i < ds.length by omega)]
   rw [e1]; exact h2 i _ _ e1 hi
  refine ⟨xs, ⟨_, fun σ => by rw [ha]; exact SlOf.fs _ _ _ _ _, Two.of_get (by rw [List.length_map]; exact h1.symm) fun i a b h5 h6 => ?_⟩, fun t ht => ?_, by omega, ?_⟩
  ·have := (hget i b h6).1; rw [h5] at this; exact this
  ·obtain ⟨i, hi⟩ := List.getElem?_of_mem ht
   have h7 := mem_sum (fun cs : List Cel => max cs.length (cs.map fun c => c.s.length).sum) ht
   have h8 := (hget i t hi).2
   exact ⟨⟨by omega, cells_in (b := 1048576) h8 (by omega) (by omega)⟩, by omega⟩
  ·have := flat_sum (fun cs : List Cel => max cs.length (cs.map fun c => c.s.length).sum) (fun x => Nat.le_max_left _ _) xs
   omega
end
end Go.Proofs.YtelpjaejmneplaaGreatDoor.Am
