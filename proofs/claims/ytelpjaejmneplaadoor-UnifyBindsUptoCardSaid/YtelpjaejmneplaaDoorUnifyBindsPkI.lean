/-
  The abstract machine and the functions of the law, 9: texts put together.
-/
import Derived.Test.YtelpjaejmneplaaDoorUnifyBindsPkF
import Derived.Test.YtelpjaejmneplaaDoorUnifyBindsPkH
import Derived.Test.YtelpjaejmneplaaDoorUnifyBindsPkG
import Derived.Test.YtelpjaejmneplaaDoorUnifyBindsPkE
set_option linter.unusedVariables false
set_option linter.unusedSimpArgs false
set_option linter.unusedSectionVars false
set_option maxRecDepth 100000
namespace Go.Proofs.YtelpjaejmneplaaDoor.Am
open Go
theorem BRows.keeps {σ σ' : Store} {M : Nat → Prop} {lo : Nat} {l : AVal} {us : List AVal} {R : Hp} (h : BRows σ lo l us R) (g : Keeps M σ σ') (hm : ∀ i, i < σ.length → lo ≤ i → ¬ M i) : BRows σ' lo l us R := XRows.keeps h g hm
theorem Told.at {u : AVal} {t : List Cel} (h : Told u t) (σ : Store) : SlOf σ 5 u (CC t) := h σ
theorem XRows.at {σ : Store} {lo sz : Nat} {l : AVal} {es : List AVal} {ps : List (List AVal)} (h : XRows σ lo 1 sz l es es ps) {i : Nat} (hi : i < ps.length) :
  ∃ e, es[i]? = some e ∧ iaddrV 1 l (.int .i64 i) = some (addrOf 1 l i) ∧ loadV σ 1 false (addrOf 1 l i) = some e ∧ Own σ sz e ps[i] ∧ NoLit e := by
 have hi' : i < es.length := by rw [h.len]; exact hi
 have o := h.one i es[i] ps[i] (List.getElem?_eq_getElem hi') (List.getElem?_eq_getElem hi)
 exact ⟨es[i], List.getElem?_eq_getElem hi', h.row.sl.iaddr hi' .i64, h.row.sl.load1 hi' o.one 1, o, h.lit i _ (List.getElem?_eq_getElem hi')⟩
def gD (H : Hp) : Nat → List Cel → List Cel → Option (List Cel)
 | 0 => fun _ _ => none
 | n + 1 => resD H n
theorem resD_eq (H : Hp) (n : Nat) : resD H n = resL H (gD H n) := by cases n <;> rfl
theorem cel_putR (σ : Store) (c : Cel) : storeV (σ ++ [AObj.cells [.int .u8 0, .str [], .int .i64 0, .int .i64 0, .int .i64 0]]) 5 (.ptr σ.length 0) c.val = some (σ ++ [AObj.cells c.cs]) := by
 have h : (σ ++ [AObj.cells [.int .u8 0, .str [], .int .i64 0, .int .i64 0, .int .i64 0]])[σ.length]? = some (.cells [.int .u8 0, .str [], .int .i64 0, .int .i64 0, .int .i64 0]) := by simp
 have e : c.val = .agg c.cs := rfl
 rw [e, storeN_cells (cs' := c.cs) (n := 5) h rfl rfl rfl, set_last]
theorem cel_inj {x y : Cel} (h : x.val = y.val) : x = y := by
 obtain ⟨k, s, n, v1, v2⟩ := x
 obtain ⟨k', s', n', w1, w2⟩ := y
 simp only [Cel.val, Cel.cs, AVal.agg.injEq, List.cons.injEq, AVal.int.injEq, AVal.str.injEq, and_true, true_and] at h
 obtain ⟨h1, rfl, rfl, rfl, rfl⟩ := h
 have : k = k' := Int.ofNat.inj h1
 subst this; rfl
theorem CC_inj : ∀ {a b : List Cel}, CC a = CC b → a = b := fun {a b} h => (List.map_inj_right fun x y h => cel_inj h).1 h
theorem Own.noMap {σ : Store} {sz : Nat} {v : AVal} {es ks vs : List AVal} {id : Nat} (h : Own σ sz v es) (ho : σ[id]? = some (.map ks vs)) : v.sid ≠ some id := by
 intro hs
 rcases h.own with ⟨rfl, _⟩ | ⟨t, rfl⟩ | ⟨id', ep, off, cap, xs, epo, fl, rfl, h1, _⟩
 ·cases hs
 ·cases hs
 ·injection hs with hs; subst hs; rw [ho] at h1; cases h1
structure OutP (σ : Store) (oid : Nat) (ov : AVal) (o : List Cel) : Prop where
 cell : σ[oid]? = some (.cells [ov])
 own : Own σ 5 ov (CC o)
set_option maxHeartbeats 2000000 in
theorem resolve_ok (d : Nat) (H : Hp) (hw : WF H) (id mid : Nat) (vs : List AVal) (oid : Nat) : ∀ (n : Nat) (hn : n < 2 ^ 30) (σ : Store) (ov tv : AVal) (o t : List Cel) (h : HeapP σ id mid vs H) (ho : OutP σ oid ov o) (hol : o.length ≤ 256) (ht : SlOf σ 5 tv (CC t)) (htl : t.length ≤ 256)
  (hne : ∀ i, tv.sid = some i → ov.sid ≠ some i),
  Called CU.cfg d 50 [.ptr id 0, .ptr oid 0, tv, .int .i64 (n : Nat)] σ fun v σ' => Keeps (fun i => i = oid ∨ ov.sid = some i) σ σ' ∧ match resD H n o t with
   | some o' => v = .bool true ∧ ∃ ov', OutP σ' oid ov' o' ∧ ∀ i, ov'.sid = some i → ov.sid = some i ∨ σ.length ≤ i
   | none => v = .bool false := by
 intro n
 induction n using Nat.strongRecOn with
 | ind n ih =>
 intro hn30 σ ov tv o t h ho hol ht htl hne
 rw [resD_eq]
 refine called_of (fn := CU.a50) rfl (Nat.le_of_ble_eq_true rfl) ?_
 simp only [CU.a50]
 have lt := ht.len
 rw [List.length_map] at lt
 have hoid : oid ≠ id := fun e => by
  have := ho.cell
  rw [e, h.obj] at this
  injection this with this; injection this with this; injection this with this
  subst this
  exact absurd ho.own.sl.len (by simp [lenSV])
 have hoid2 : oid ≠ mid := fun e => by have := ho.cell; rw [e, h.map] at this; cases this
 have hovid : ∀ i, ov.sid = some i → i ≠ id ∧ i ≠ mid ∧ i ≠ oid := fun i hi => ⟨fun e => ho.own.noCell h.obj (e ▸ hi), fun e => ho.own.noMap h.map (e ▸ hi), fun e => ho.own.noCell ho.cell (e ▸ hi)⟩
 simp -dsimp only [↓WPd, ↓wpC_block, ↓wpC_cond, WPu, Bool.false_eq_true, Bool.true_eq_false, Bool.not_true, Bool.not_false, if_true, if_false, ite_true, ite_false, Nat.reduceEqDiff, Nat.reduceLT, true_and, List.map_cons, List.map_nil, Nat.zero_add, Nat.reduceBEq, lt]
 refine loop_rule2 (fun m ws σ' => ∃ (k : Nat) (ov' : AVal) (o' : List Cel), k ≤ t.length ∧ m = t.length - k ∧ ws = [.ptr id 0, .ptr oid 0, .int .i64 (n : Nat), tv, .int .i64 t.length, .int .i64 (k : Nat)] ∧ Keeps (fun i => i = oid ∨ ov.sid = some i) σ σ' ∧ OutP σ' oid ov' o' ∧ o'.length ≤ 256 ∧ (∀ i, ov'.sid = some i → ov.sid = some i ∨ σ.length ≤ i) ∧ resL H (gD H n) o t = resL H (gD H n) o' (t.drop k))
  [8] (fun e ws σ' => Keeps (fun i => i = oid ∨ ov.sid = some i) σ σ' ∧ match resL H (gD H n) o t with
   | some o' => e = .exit 0 ∧ ∃ ov', OutP σ' oid ov' o' ∧ ∀ i, ov'.sid = some i → ov.sid = some i ∨ σ.length ≤ i
   | none => e = .ret ∧ ws = [.bool false]) t.length
  ⟨0, ov, o, Nat.zero_le _, rfl, ?_, Keeps.refl _ _, ho, hol, fun i hi => .inl hi, by simp⟩ ?_ ?_
 ·simp -dsimp only [↓WPd, ↓wpC_block, ↓wpC_cond, WPu, Bool.false_eq_true, Bool.true_eq_false, Bool.not_true, Bool.not_false, if_true, if_false, ite_true, ite_false, Nat.reduceEqDiff, Nat.reduceLT, true_and, List.map_cons, List.map_nil, Nat.zero_add, Nat.reduceBEq]; rfl
 ·rintro m ws σ' ⟨k, ov', o', hk, rfl, rfl, g, ho', hol', hov', hres⟩
  simp -dsimp only [↓WPd, ↓wpC_block, ↓wpC_cond, WPu, Bool.false_eq_true, Bool.true_eq_false, Bool.not_true, Bool.not_false, if_true, if_false, ite_true, ite_false, Nat.reduceEqDiff, Nat.reduceLT, true_and, List.map_cons, List.map_nil, Nat.zero_add, Nat.reduceBEq]
  refine condP_dec (fun hc => ?_) (fun hc => ?_)
  ·have hk' : k < t.length := by omega
   have ht' : SlOf σ' 5 tv (CC t) := ht.keeps g fun i hi e => by
    rcases e with e | e
    ·exact ht.noCell ho.cell (e ▸ hi)
    ·exact hne i hi e
   have hke : k < (CC t).length := by simpa using hk'
   have ia : iaddrV 5 tv (.int .i64 k) = some (addrOf 5 tv k) := ht'.iaddr hke .i64
   have ld : loadV σ' 5 true (addrOf 5 tv k) = some (t[k]).val := ht'.loadA hke (cs := (t[k]).cs) (by rw [cel_get]; rfl)
   simp -dsimp only [↓WPd, ↓wpC_block, ↓wpC_cond, WPu, Bool.false_eq_true, Bool.true_eq_false, Bool.not_true, Bool.not_false, if_true, if_false, ite_true, ite_false, Nat.reduceEqDiff, Nat.reduceLT, true_and, List.map_cons, List.map_nil, Nat.zero_add, Nat.reduceBEq, ia, ld, cel_putR]
   have oj : (σ' ++ [AObj.cells (t[k]).cs])[σ'.length]? = some (.cells (t[k]).cs) := by simp
   have g1 : Grows σ' (σ' ++ [AObj.cells (t[k]).cs]) := Grows.app _ _
   generalize σ' ++ [AObj.cells (t[k]).cs] = σ1 at oj g1
   have lj : loadV σ1 5 true (.ptr σ'.length 0) = some (t[k]).val := loadN_cells oj rfl
   have h1 : HeapP σ1 id mid vs H := (h.keeps g (by rintro (e | e); exact hoid e.symm; exact (hovid _ e).1 rfl) (by rintro (e | e); exact hoid2 e.symm; exact (hovid _ e).2.1 rfl)).grow g1
   generalize σ'.length = j at oj lj
   simp -dsimp only [↓WPd, ↓wpC_block, ↓wpC_cond, WPu, Bool.false_eq_true, Bool.true_eq_false, Bool.not_true, Bool.not_false, if_true, if_false, ite_true, ite_false, Nat.reduceEqDiff, Nat.reduceLT, true_and, List.map_cons, List.map_nil, Nat.zero_add, Nat.reduceBEq, lj, cel_lit]
   refine calledW_of (next_ok d σ1 (.ptr id 0) _ H [t[k]] h1.v (SlOf.fs _ _ _ _ _)) ?_
   rintro r σ2 ⟨u, rfl, hu, g2⟩
   have lj2 : loadV σ2 5 true (.ptr j 0) = some (t[k]).val := loadN_cells (g2.get oj) rfl
   have g12 := g1.trans g2
   have hc2 : σ2[oid]? = some (.cells [ov']) := g12.get ho'.cell
   have ow2 := ho'.own.grow g12
   have h2 := h1.grow g2
   have e0 : ([ov'] : List AVal)[0]? = some ov' := rfl
   have hdr : t.drop k = t[k] :: t.drop (k + 1) := List.drop_eq_getElem_cons hk'
   rw [hdr] at hres
   cases hn : hnext H [t[k]] with
   | none =>
    obtain ⟨w, σ3, a1, a2, a3, a4, a5⟩ := ow2.append [(t[k]).val] 48 (by rw [List.length_map]; simp; omega)
    have lit1 : elems 5 σ2 (.fslice (AVal.tagL [(t[k]).val]) true 5 [(t[k]).val]) = some [(t[k]).val] := elems_fs 5 _ true σ2 _
    have hc3 : σ3[oid]? = some (.cells [ov']) := a3.get hc2 (fun e => ow2.noCell hc2 e)
    have st := store_cells hc3 (off := 0) (v := w) (by simp) a2.one
    simp -dsimp only [↓WPd, ↓wpC_block, ↓wpC_cond, WPu, Bool.false_eq_true, Bool.true_eq_false, Bool.not_true, Bool.not_false, if_true, if_false, ite_true, ite_false, Nat.reduceEqDiff, Nat.reduceLT, true_and, List.map_cons, List.map_nil, Nat.zero_add, Nat.reduceBEq, WPm, List.getElem?_cons_zero, List.getElem?_cons_succ, hn, Option.isSome_none, isnil_ptr, load_cells hc2, e0, lj2, cel_lit, lit1, a1, st]
    have hc4 : (σ3.set oid (AObj.cells [w]))[oid]? = some (.cells [w]) := get_set hc3
    have k4 : Keeps (fun i => i = oid) σ3 (σ3.set oid (AObj.cells [w])) := Keeps.set _ _ _
    have o4 : Own (σ3.set oid (AObj.cells [w])) 5 w (CC (o' ++ [t[k]])) := by rw [show CC (o' ++ [t[k]]) = CC o' ++ [(t[k]).val] by simp]; exact a2.keeps k4 fun i hi e => a2.noCell hc3 (e ▸ hi)
    have gg : Keeps (fun i => i = oid ∨ ov.sid = some i) σ (σ3.set oid (AObj.cells [w])) := by
     refine Keeps.trans (Keeps.trans (Keeps.trans g g12 fun i _ e => e.elim) a3 fun i hi e => ?_) k4 fun i _ e => .inl e
     rcases hov' i e with e | e
     ·exact .inr e
     ·omega
    have hst : ([ov'] : List AVal).set 0 w = [w] := rfl
    rw [hst]
    generalize σ3.set oid (AObj.cells [w]) = σ4 at hc4 o4 gg
    have e1 : ([w] : List AVal)[0]? = some w := rfl
    have lw := o4.sl.len
    rw [List.length_map, List.length_append, List.length_singleton] at lw
    have hr : resL H (gD H n) o' (t[k] :: t.drop (k + 1)) = if (o' ++ [t[k]]).length ≤ 256 then resL H (gD H n) (o' ++ [t[k]]) (t.drop (k + 1)) else none := by simp only [resL, hn]
    rw [hr] at hres
    simp -dsimp only [↓WPd, ↓wpC_block, ↓wpC_cond, WPu, Bool.false_eq_true, Bool.true_eq_false, Bool.not_true, Bool.not_false, if_true, if_false, ite_true, ite_false, Nat.reduceEqDiff, Nat.reduceLT, true_and, List.map_cons, List.map_nil, Nat.zero_add, Nat.reduceBEq, WPm, load_cells hc4, e1, lw]
    by_cases h256 : o'.length + 1 ≤ 256
    ·have e2 : decide (((o'.length + 1 : Nat) : Int) > 256) = false := decide_eq_false (by omega)
     rw [if_pos (by simpa using h256)] at hres
     simp -dsimp only [↓WPd, ↓wpC_block, ↓wpC_cond, WPu, Bool.false_eq_true, Bool.true_eq_false, Bool.not_true, Bool.not_false, if_true, if_false, ite_true, ite_false, Nat.reduceEqDiff, Nat.reduceLT, true_and, List.map_cons, List.map_nil, Nat.zero_add, Nat.reduceBEq, WPm, e2]
     refine ⟨t.length - (k + 1), by omega, k + 1, w, o' ++ [t[k]], by omega, rfl, by rw [wrap_i64 (by omega) (by omega), Int.natCast_add, Int.natCast_one], gg, ⟨hc4, o4⟩, by simpa using h256, fun i hi => ?_, hres⟩
     rcases a4 i hi with e | e
     ·exact hov' i e
     ·have := (Keeps.trans g g12 fun i _ e => e.elim).1; exact .inr (by omega)
    ·have e2 : decide (((o'.length + 1 : Nat) : Int) > 256) = true := decide_eq_true (by omega)
     rw [if_neg (by simpa using h256)] at hres
     simp -dsimp only [↓WPd, ↓wpC_block, ↓wpC_cond, WPu, Bool.false_eq_true, Bool.true_eq_false, Bool.not_true, Bool.not_false, if_true, if_false, ite_true, ite_false, Nat.reduceEqDiff, Nat.reduceLT, true_and, List.map_cons, List.map_nil, Nat.zero_add, Nat.reduceBEq, WPm, e2]
     refine ⟨gg, ?_⟩
     rw [hres]
     trivial
   | some u' =>
    rw [hn] at hu
    simp only [Option.getD_some] at hu
    have gu : glob u' = true := (hw.ok _ (hnext_mem hn).2.2).2.2.1
    have rd := glob_right (deref_glob hw gu)
    have gk : Keeps (fun i => i = oid ∨ ov.sid = some i) σ σ2 := Keeps.trans g g12 fun i _ e => e.elim
    cases n with
    | zero =>
     have hr : resL H (gD H 0) o' (t[k] :: t.drop (k + 1)) = none := by simp only [resL, hn, gD]
     rw [hr] at hres
     have e0 : (((0 : Nat) : Int) == 0) = true := rfl
     simp -dsimp only [↓WPd, ↓wpC_block, ↓wpC_cond, WPu, Bool.false_eq_true, Bool.true_eq_false, Bool.not_true, Bool.not_false, if_true, if_false, ite_true, ite_false, Nat.reduceEqDiff, Nat.reduceLT, true_and, List.map_cons, List.map_nil, Nat.zero_add, Nat.reduceBEq, WPm, List.getElem?_cons_zero, List.getElem?_cons_succ, hn, Option.isSome_some, e0]
     refine ⟨gk, ?_⟩
     rw [hres]
     trivial
    | succ m =>
     have e3 : (((m + 1 : Nat) : Int) == 0) = false := by simp; omega
     have e4 : IntKind.i64.wrap (((m + 1 : Nat) : Int) - 1) = (m : Int) := by rw [wrap_i64 (by omega) (by omega)]; omega
     simp -dsimp only [↓WPd, ↓wpC_block, ↓wpC_cond, WPu, Bool.false_eq_true, Bool.true_eq_false, Bool.not_true, Bool.not_false, if_true, if_false, ite_true, ite_false, Nat.reduceEqDiff, Nat.reduceLT, true_and, List.map_cons, List.map_nil, Nat.zero_add, Nat.reduceBEq, WPm, List.getElem?_cons_zero, List.getElem?_cons_succ, hn, Option.isSome_some, e3, e4]
     refine calledW_of (follow_ok d σ2 (.ptr id 0) u H u' h2.v (hu σ2)) ?_
     rintro x σ3 ⟨hx, g3, hxt⟩
     have hxT : Told x (deref H u') := by
      rcases hxt with rfl | h
      ·have e := (hu σ3).els
       rw [hx.els] at e
       injection e with e
       rw [CC_inj e]; exact hu
      ·exact h
     simp -dsimp only [↓WPd, ↓wpC_block, ↓wpC_cond, WPu, Bool.false_eq_true, Bool.true_eq_false, Bool.not_true, Bool.not_false, if_true, if_false, ite_true, ite_false, Nat.reduceEqDiff, Nat.reduceLT, true_and, List.map_cons, List.map_nil, Nat.zero_add, Nat.reduceBEq, WPm, e4]
     refine calledW_of (ih m (by omega) (by omega) σ3 ov' x o' (deref H u') (h2.grow g3) ⟨g3.get hc2, ow2.grow g3⟩ hol' hx (right_len rd).2 fun i hi => ?_) ?_
     ·have := (hxT []).lt hi; simp at this
     rintro r4 σ4 ⟨k4, hm⟩
     have gg : Keeps (fun i => i = oid ∨ ov.sid = some i) σ σ4 := by
      refine Keeps.trans (Keeps.trans gk g3 fun i _ e => e.elim) k4 fun i hi e => ?_
      rcases e with e | e
      ·exact .inl e
      ·rcases hov' i e with e | e
       ·exact .inr e
       ·omega
     cases hd : resD H m o' (deref H u') with
     | none =>
      rw [hd] at hm
      simp only at hm
      subst hm
      have hr : resL H (gD H (m + 1)) o' (t[k] :: t.drop (k + 1)) = none := by simp only [resL, hn, gD, hd]
      rw [hr] at hres
      simp -dsimp only [↓WPd, ↓wpC_block, ↓wpC_cond, WPu, Bool.false_eq_true, Bool.true_eq_false, Bool.not_true, Bool.not_false, if_true, if_false, ite_true, ite_false, Nat.reduceEqDiff, Nat.reduceLT, true_and, List.map_cons, List.map_nil, Nat.zero_add, Nat.reduceBEq, WPm]
      refine ⟨gg, ?_⟩
      rw [hres]
      trivial
     | some o1 =>
      rw [hd] at hm
      obtain ⟨rfl, ov1, ⟨hc5, o5⟩, hov1⟩ := hm
      have e1 : ([ov1] : List AVal)[0]? = some ov1 := rfl
      have lw := o5.sl.len
      rw [List.length_map] at lw
      have hr : resL H (gD H (m + 1)) o' (t[k] :: t.drop (k + 1)) = if o1.length ≤ 256 then resL H (gD H (m + 1)) o1 (t.drop (k + 1)) else none := by simp only [resL, hn, gD, hd]
      rw [hr] at hres
      simp -dsimp only [↓WPd, ↓wpC_block, ↓wpC_cond, WPu, Bool.false_eq_true, Bool.true_eq_false, Bool.not_true, Bool.not_false, if_true, if_false, ite_true, ite_false, Nat.reduceEqDiff, Nat.reduceLT, true_and, List.map_cons, List.map_nil, Nat.zero_add, Nat.reduceBEq, WPm, isnil_ptr, load_cells hc5, e1, lw]
      by_cases h256 : o1.length ≤ 256
      ·have e2 : decide (((o1.length : Nat) : Int) > 256) = false := decide_eq_false (by omega)
       rw [if_pos h256] at hres
       simp -dsimp only [↓WPd, ↓wpC_block, ↓wpC_cond, WPu, Bool.false_eq_true, Bool.true_eq_false, Bool.not_true, Bool.not_false, if_true, if_false, ite_true, ite_false, Nat.reduceEqDiff, Nat.reduceLT, true_and, List.map_cons, List.map_nil, Nat.zero_add, Nat.reduceBEq, WPm, e2]
       refine ⟨t.length - (k + 1), by omega, k + 1, ov1, o1, by omega, rfl, by rw [wrap_i64 (by omega) (by omega)]; simp only [Int.natCast_add, Int.natCast_one], gg, ⟨hc5, o5⟩, h256, fun i hi => ?_, hres⟩
       rcases hov1 i hi with e | e
       ·exact hov' i e
       ·have := gk.1; have := g3.1; exact .inr (by omega)
      ·have e2 : decide (((o1.length : Nat) : Int) > 256) = true := decide_eq_true (by omega)
       rw [if_neg h256] at hres
       simp -dsimp only [↓WPd, ↓wpC_block, ↓wpC_cond, WPu, Bool.false_eq_true, Bool.true_eq_false, Bool.not_true, Bool.not_false, if_true, if_false, ite_true, ite_false, Nat.reduceEqDiff, Nat.reduceLT, true_and, List.map_cons, List.map_nil, Nat.zero_add, Nat.reduceBEq, WPm, e2]
       refine ⟨gg, ?_⟩
       rw [hres]
       trivial
  ·have : k = t.length := by omega
   subst this
   rw [List.drop_length] at hres
   simp only [resL] at hres
   simp -dsimp only [↓WPd, ↓wpC_block, ↓wpC_cond, WPu, Bool.false_eq_true, Bool.true_eq_false, Bool.not_true, Bool.not_false, if_true, if_false, ite_true, ite_false, Nat.reduceEqDiff, Nat.reduceLT, true_and, List.map_cons, List.map_nil, Nat.zero_add, Nat.reduceBEq]
   refine ⟨g, ?_⟩
   rw [hres]
   exact ⟨ov', ho', hov'⟩
 ·rintro e σ' env ⟨g, hm⟩
  cases hd : resL H (gD H n) o t with
  | none =>
   rw [hd] at hm
   obtain ⟨rfl, hv⟩ := hm
   simp only [List.map_cons, List.map_nil, List.cons.injEq, and_true] at hv
   simp -dsimp only [↓WPd, ↓wpC_block, ↓wpC_cond, WPu, Bool.false_eq_true, Bool.true_eq_false, Bool.not_true, Bool.not_false, if_true, if_false, ite_true, ite_false, Nat.reduceEqDiff, Nat.reduceLT, true_and, List.map_cons, List.map_nil, Nat.zero_add, Nat.reduceBEq, hv]
   exact ⟨g, trivial⟩
  | some o' =>
   rw [hd] at hm
   obtain ⟨rfl, ov', h1, h2⟩ := hm
   simp -dsimp only [↓WPd, ↓wpC_block, ↓wpC_cond, WPu, Bool.false_eq_true, Bool.true_eq_false, Bool.not_true, Bool.not_false, if_true, if_false, ite_true, ite_false, Nat.reduceEqDiff, Nat.reduceLT, true_and, List.map_cons, List.map_nil, Nat.zero_add, Nat.reduceBEq]
   exact ⟨g, ov', h1, h2⟩
set_option maxHeartbeats 1000000 in
theorem hresolve_ok (d : Nat) (σ : Store) (H : Hp) (hw : WF H) (id mid : Nat) (vs : List AVal) (tv : AVal) (t : List Cel) (h : HeapP σ id mid vs H) (ht : SlOf σ 5 tv (CC t)) (hs : Small t) :
  Called CU.cfg d 24 [.ptr id 0, tv] σ fun r σ' => Grows σ σ' ∧ ∃ u e, r = .tuple [u, .int .i64 e] ∧ ((right t = false ∧ e = 6 ∧ u = .nilslice) ∨ (right t = true ∧ resD H 256 [] t = none ∧ e = 5 ∧ u = .nilslice) ∨
   ∃ a, right t = true ∧ resD H 256 [] t = some a ∧ e = 0 ∧ Own σ' 5 u (CC a)) := by
 refine called_of (fn := CU.a24) rfl (Nat.le_of_ble_eq_true rfl) ?_
 simp only [CU.a24]
 simp -dsimp only [↓WPd, ↓wpC_block, ↓wpC_cond, WPu, Bool.false_eq_true, Bool.true_eq_false, Bool.not_true, Bool.not_false, if_true, if_false, ite_true, ite_false, Nat.reduceEqDiff, Nat.reduceLT, true_and, List.map_cons, List.map_nil, Nat.zero_add, Nat.reduceBEq, WPm, isnil_ptr]
 refine calledW_of (right_ok d σ tv t hs.1 hs.2 ht) ?_
 rintro r σ1 ⟨rfl, g1⟩
 cases hr : right t with
 | false =>
  simp -dsimp only [↓WPd, ↓wpC_block, ↓wpC_cond, WPu, Bool.false_eq_true, Bool.true_eq_false, Bool.not_true, Bool.not_false, if_true, if_false, ite_true, ite_false, Nat.reduceEqDiff, Nat.reduceLT, true_and, List.map_cons, List.map_nil, Nat.zero_add, Nat.reduceBEq, WPm]
  exact ⟨g1, _, _, rfl, .inl ⟨rfl, rfl⟩⟩
 | true =>
  simp -dsimp only [↓WPd, ↓wpC_block, ↓wpC_cond, WPu, Bool.false_eq_true, Bool.true_eq_false, Bool.not_true, Bool.not_false, if_true, if_false, ite_true, ite_false, Nat.reduceEqDiff, Nat.reduceLT, true_and, List.map_cons, List.map_nil, Nat.zero_add, Nat.reduceBEq, WPm]
  have hc : (σ1 ++ [AObj.cells [.nilslice]])[σ1.length]? = some (.cells [.nilslice]) := by simp
  have g2 : Grows σ1 (σ1 ++ [AObj.cells [.nilslice]]) := Grows.app _ _
  generalize hσ2 : σ1 ++ [AObj.cells [.nilslice]] = σ2 at hc g2
  have hl : σ1.length < σ2.length := by rw [← hσ2]; simp
  have g12 := g1.trans g2
  refine calledW_of (resolve_ok d H hw id mid vs σ1.length 256 (by decide) σ2 .nilslice tv [] t (h.grow g12) ⟨hc, Own.nil _ _⟩ (by simp) (ht.grow g12) (right_len hr).2 (fun i _ e => by cases e)) ?_
  rintro r σ3 ⟨k3, hm⟩
  have gg : Grows σ σ3 := Keeps.trans g12 k3 fun i hi e => by
   rcases e with e | e
   ·have := g1.1; omega
   ·cases e
  cases hd : resD H 256 [] t with
  | none =>
   rw [hd] at hm
   simp only at hm
   subst hm
   simp -dsimp only [↓WPd, ↓wpC_block, ↓wpC_cond, WPu, Bool.false_eq_true, Bool.true_eq_false, Bool.not_true, Bool.not_false, if_true, if_false, ite_true, ite_false, Nat.reduceEqDiff, Nat.reduceLT, true_and, List.map_cons, List.map_nil, Nat.zero_add, Nat.reduceBEq, WPm]
   exact ⟨gg, _, _, rfl, .inr (.inl ⟨rfl, rfl⟩)⟩
  | some a =>
   rw [hd] at hm
   obtain ⟨rfl, ov, ⟨o1, o2⟩, -⟩ := hm
   have e1 : ([ov] : List AVal)[0]? = some ov := rfl
   simp -dsimp only [↓WPd, ↓wpC_block, ↓wpC_cond, WPu, Bool.false_eq_true, Bool.true_eq_false, Bool.not_true, Bool.not_false, if_true, if_false, ite_true, ite_false, Nat.reduceEqDiff, Nat.reduceLT, true_and, List.map_cons, List.map_nil, Nat.zero_add, Nat.reduceBEq, WPm, load_cells o1, e1]
   exact ⟨gg, _, _, rfl, .inr (.inr ⟨a, rfl, rfl, o2⟩)⟩
structure HandedT (σ : Store) (v : AVal) (xs : List (List Cel)) (lo hi : Nat) : Prop where
 row : ∃ es, Own σ 1 v es ∧ Two (fun e x => ∃ id, lo ≤ id ∧ id < hi ∧ HandedC σ e x id) es xs
 frs : ∀ j, v.sid = some j → lo ≤ j ∧ j < hi
theorem HandedT.keep {σ σ' : Store} {v : AVal} {xs : List (List Cel)} {lo hi : Nat} (h : HandedT σ v xs lo hi) {M : Nat → Prop} (k : Keeps M σ σ') (hm : ∀ j, lo ≤ j → j < hi → ¬ M j) : HandedT σ' v xs lo hi := by
 obtain ⟨⟨es, h1, h2⟩, h3⟩ := h
 exact ⟨⟨es, h1.keeps k fun j hj => hm j (h3 j hj).1 (h3 j hj).2, h2.mono fun e x ⟨id, a, b, c⟩ => ⟨id, a, b, c.keep k (hm id a b)⟩⟩, h3⟩
theorem HandedT.terms {σ : Store} {v : AVal} {xs : List (List Cel)} {lo hi : Nat} (h : HandedT σ v xs lo hi) : Terms σ v xs := by
 obtain ⟨⟨es, h1, h2⟩, -⟩ := h
 exact ⟨es, h1.sl, h2.mono fun e x ⟨id, _, _, c⟩ => c.sl⟩
section
variable (d : Nat) (σ : Store)
end
section
variable (d : Nat) (σ : Store)
end
theorem solveN_bd_len : ∀ (n : Nat) (M : Hp) (row : List (List Cel)) (bd : Hp) (k : Nat), (solveN n M row bd k).bd.length ≤ bd.length + n
 | n, M, [], bd, k => by rw [solveN_nil]; simp
 | 0, M, t :: rest, bd, k => by rw [solveN_zero]; simp
 | n + 1, M, t :: rest, bd, k => by
  rw [solveN_succ]
  split
  ·simp
  ·split
   ·have := solveN_bd_len n (bindH M (stepL M (sides t).1 (sides t).2).v (stepL M (sides t).1 (sides t).2).t) rest (bd ++ [((stepL M (sides t).1 (sides t).2).v, (stepL M (sides t).1 (sides t).2).t)]) (k + 1)
    simp only [List.length_append, List.length_cons, List.length_nil] at this
    omega
   ·have := solveN_bd_len n M ((stepL M (sides t).1 (sides t).2).ps ++ rest) bd (k + 1)
    omega
structure RanL (H : Hp) (n : Nat) (l : List (List Cel)) (S : SolveR) : Prop where
 chn : Chn H S.bd
 len : S.bd.length ≤ n
 fails : S.out = 2 → S.bd = []
 waits : S.out = 3 → S.left ≠ [] ∧ S.steps = n
 out : S.out = 1 ∨ S.out = 2 ∨ S.out = 3
 ev : S.out = 1 → eqsOk l = true ∧ ∀ t ∈ l, Ev (bindsH H S.bd) (sides t).1 (sides t).2
theorem solveL_ran {H : Hp} (hw : WF H) (n : Nat) (l : List (List Cel)) : RanL H n l (solveL H n l) := by
 unfold solveL
 by_cases hok : eqsOk l = true
 ·rw [if_pos hok]
  have R := solveN_ran hw n H l [] 0 rfl trivial (eqsOk_mem hok)
  have hl := solveN_bd_len n H l [] 0
  exact ⟨R.chn, by simpa using hl, R.fails, fun h => ⟨(R.waits h).1, by rw [(R.waits h).2]; omega⟩, R.out, fun h => ⟨hok, (R.ev h).2⟩⟩
 ·rw [if_neg hok]
  exact ⟨trivial, Nat.zero_le _, fun _ => rfl, (fun h => by cases h), .inr (.inl rfl), fun h => by cases h⟩
def shortB (R : Hp) (l : List (List Cel)) : Bool := (R.all fun p => decide (p.2.length ≤ 127)) && l.all fun t => decide (t.length ≤ 127)
theorem sides_len {t : List Cel} (h : isEqT t = true) : (sides t).1.length ≤ t.length ∧ (sides t).2.length ≤ t.length := by
 have ha := sides_args h
 exact ⟨args_short (x := (sides t).1) (by rw [ha]; simp), args_short (x := (sides t).2) (by rw [ha]; simp)⟩
theorem BRows.atV {σ : Store} {lo : Nat} {l : AVal} {us : List AVal} {R : Hp} (h : BRows σ lo l us R) {k : Nat} (hk : k < R.length) : ∃ (hu : k < us.length), iaddrV 3 l (.int .i64 k) = some (addrOf 3 l k) ∧ loadV σ 3 true (addrOf 3 l k) = some (.agg (bdC R[k].1 us[k])) ∧ Own σ 5 us[k] (CC R[k].2) := by
 have hl : us.length = R.length := by have := h.len; simpa using this
 have hlx := h.lex
 have hx : k < (bdVs R us).length := by omega
 have hu : k < us.length := by omega
 have hg := bdVs_get hl hk
 have he : (bdVs R us)[k] = bdV R[k].1 us[k] := by rw [List.getElem?_eq_getElem hx] at hg; exact Option.some.inj hg
 exact ⟨hu, h.row.sl.iaddr hx .i64, h.row.sl.loadA hx (cs := bdC R[k].1 us[k]) he, h.one k us[k] (CC R[k].2) (List.getElem?_eq_getElem hu) (by simp [hk])⟩
section
variable (d : Nat) (σ : Store)
theorem short_ok (id mid : Nat) (vs : List AVal) (H R : Hp) (lv : AVal) (l : List (List Cel)) (h : HeapP σ id mid vs H) (hs : Same H R) (hn : R.length < 2 ^ 30) (hsm : ∀ p ∈ R, p.2.length < 2 ^ 30) (hl : Terms σ lv l) (hll : l.length < 2 ^ 30) :
  Called CU.cfg d 22 [.ptr id 0, lv] σ fun v σ' => v = .bool (shortB R l) ∧ Grows σ σ' := by
 refine called_of (fn := CU.a22) rfl (Nat.le_of_ble_eq_true rfl) ?_
 simp only [CU.a22]
 simp -dsimp only [↓WPd, ↓wpC_block, ↓wpC_cond, WPu, Bool.false_eq_true, Bool.true_eq_false, Bool.not_true, Bool.not_false, if_true, if_false, ite_true, ite_false, Nat.reduceEqDiff, Nat.reduceLT, true_and, List.map_cons, List.map_nil, Nat.zero_add, Nat.reduceBEq, WPm]
 refine calledW_of (bindings_ok d σ id mid vs H R h hs hn hsm) ?_
 rintro b σ1 ⟨g1, us, br⟩
 have bs := br.bds
 have lb := bs.len
 simp -dsimp only [↓WPd, ↓wpC_block, ↓wpC_cond, WPu, Bool.false_eq_true, Bool.true_eq_false, Bool.not_true, Bool.not_false, if_true, if_false, ite_true, ite_false, Nat.reduceEqDiff, Nat.reduceLT, true_and, List.map_cons, List.map_nil, Nat.zero_add, Nat.reduceBEq, WPm]
 refine loop_rule2 (fun m xs σ' => ∃ k : Nat, k ≤ R.length ∧ m = R.length - k ∧ xs = [lv, b, .int .i64 (k : Nat)] ∧ σ' = σ1 ∧ ∀ (j : Nat) (hj : j < R.length), j < k → R[j].2.length ≤ 127)
  [1, 4] (fun e xs σ' => σ' = σ1 ∧ ((e = .exit 0 ∧ (∃ z, xs = [lv, z]) ∧ ∀ p ∈ R, p.2.length ≤ 127) ∨ (e = .ret ∧ xs = [lv, .bool false] ∧ ∃ p ∈ R, ¬ p.2.length ≤ 127))) R.length ⟨0, Nat.zero_le _, rfl, ?_, rfl, fun j _ h => by omega⟩ ?_ ?_
 ·simp -dsimp only [↓WPd, ↓wpC_block, ↓wpC_cond, WPu, Bool.false_eq_true, Bool.true_eq_false, Bool.not_true, Bool.not_false, if_true, if_false, ite_true, ite_false, Nat.reduceEqDiff, Nat.reduceLT, true_and, List.map_cons, List.map_nil, Nat.zero_add, Nat.reduceBEq]; rfl
 ·rintro m xs σ' ⟨k, hk, rfl, rfl, rfl, hall⟩
  simp -dsimp only [↓WPd, ↓wpC_block, ↓wpC_cond, WPu, Bool.false_eq_true, Bool.true_eq_false, Bool.not_true, Bool.not_false, if_true, if_false, ite_true, ite_false, Nat.reduceEqDiff, Nat.reduceLT, true_and, List.map_cons, List.map_nil, Nat.zero_add, Nat.reduceBEq, WPm, lb]
  refine condP_dec (fun hc => ?_) (fun hc => ?_)
  ·have hk' : k < R.length := by omega
   obtain ⟨q0, q2, u, a1, a2, a3, a4, a5, a6⟩ := bs.at hk'
   have lu := a6.len
   rw [List.length_map] at lu
   simp -dsimp only [↓WPd, ↓wpC_block, ↓wpC_cond, WPu, Bool.false_eq_true, Bool.true_eq_false, Bool.not_true, Bool.not_false, if_true, if_false, ite_true, ite_false, Nat.reduceEqDiff, Nat.reduceLT, true_and, List.map_cons, List.map_nil, Nat.zero_add, Nat.reduceBEq, WPm, a1, a4, a5, lu]
   refine condP_dec (fun h => ?_) (fun h => ?_)
   ·simp -dsimp only [↓WPd, ↓wpC_block, ↓wpC_cond, WPu, Bool.false_eq_true, Bool.true_eq_false, Bool.not_true, Bool.not_false, if_true, if_false, ite_true, ite_false, Nat.reduceEqDiff, Nat.reduceLT, true_and, List.map_cons, List.map_nil, Nat.zero_add, Nat.reduceBEq, WPm]
    exact .inr ⟨R[k], List.getElem_mem hk', by omega⟩
   ·simp -dsimp only [↓WPd, ↓wpC_block, ↓wpC_cond, WPu, Bool.false_eq_true, Bool.true_eq_false, Bool.not_true, Bool.not_false, if_true, if_false, ite_true, ite_false, Nat.reduceEqDiff, Nat.reduceLT, true_and, List.map_cons, List.map_nil, Nat.zero_add, Nat.reduceBEq, WPm]
    refine ⟨R.length - (k + 1), by omega, k + 1, by omega, rfl, by rw [wrap_i64 (by omega) (by omega), Int.natCast_add, Int.natCast_one], fun j hj hjk => ?_⟩
    by_cases e : j = k
    ·subst e; omega
    ·exact hall j hj (by omega)
  ·simp -dsimp only [↓WPd, ↓wpC_block, ↓wpC_cond, WPu, Bool.false_eq_true, Bool.true_eq_false, Bool.not_true, Bool.not_false, if_true, if_false, ite_true, ite_false, Nat.reduceEqDiff, Nat.reduceLT, true_and, List.map_cons, List.map_nil, Nat.zero_add, Nat.reduceBEq, WPm]
   refine .inl ⟨⟨_, rfl⟩, fun p hp => ?_⟩
   obtain ⟨j, hj, rfl⟩ := List.getElem_of_mem hp
   exact hall j hj (by omega)
 ·rintro e σ1 env ⟨rfl, h⟩
  rcases h with ⟨rfl, ⟨z, hv⟩, hall⟩ | ⟨rfl, hv, p, hp, hlt⟩
  ·simp only [List.map_cons, List.map_nil, List.cons.injEq, and_true] at hv
   obtain ⟨v1, -⟩ := hv
   have hR : (R.all fun p => decide (p.2.length ≤ 127)) = true := List.all_eq_true.2 fun p hp => decide_eq_true (hall p hp)
   have hl1 := hl.grow g1
   have ll := hl1.len
   simp -dsimp only [↓WPd, ↓wpC_block, ↓wpC_cond, WPu, Bool.false_eq_true, Bool.true_eq_false, Bool.not_true, Bool.not_false, if_true, if_false, ite_true, ite_false, Nat.reduceEqDiff, Nat.reduceLT, true_and, List.map_cons, List.map_nil, Nat.zero_add, Nat.reduceBEq, WPm, v1]
   refine loop_rule2 (fun m xs σ' => ∃ k : Nat, k ≤ l.length ∧ m = l.length - k ∧ xs = [lv, .int .i64 (k : Nat)] ∧ σ' = σ1 ∧ ∀ (j : Nat) (hj : j < l.length), j < k → l[j].length ≤ 127)
    [4] (fun e xs σ' => σ' = σ1 ∧ ((e = .exit 2 ∧ ∀ t ∈ l, t.length ≤ 127) ∨ (e = .ret ∧ xs = [.bool false] ∧ ∃ t ∈ l, ¬ t.length ≤ 127))) l.length ⟨0, Nat.zero_le _, rfl, ?_, rfl, fun j _ h => by omega⟩ ?_ ?_
   ·simp -dsimp only [↓WPd, ↓wpC_block, ↓wpC_cond, WPu, Bool.false_eq_true, Bool.true_eq_false, Bool.not_true, Bool.not_false, if_true, if_false, ite_true, ite_false, Nat.reduceEqDiff, Nat.reduceLT, true_and, List.map_cons, List.map_nil, Nat.zero_add, Nat.reduceBEq, v1]; rfl
   ·rintro m xs σ' ⟨k, hk, rfl, rfl, rfl, hall⟩
    simp -dsimp only [↓WPd, ↓wpC_block, ↓wpC_cond, WPu, Bool.false_eq_true, Bool.true_eq_false, Bool.not_true, Bool.not_false, if_true, if_false, ite_true, ite_false, Nat.reduceEqDiff, Nat.reduceLT, true_and, List.map_cons, List.map_nil, Nat.zero_add, Nat.reduceBEq, WPm, ll]
    refine condP_dec (fun hc => ?_) (fun hc => ?_)
    ·have hk' : k < l.length := by omega
     obtain ⟨e, a1, a2, a3⟩ := hl1.at hk'
     have lu := a3.len
     rw [List.length_map] at lu
     simp -dsimp only [↓WPd, ↓wpC_block, ↓wpC_cond, WPu, Bool.false_eq_true, Bool.true_eq_false, Bool.not_true, Bool.not_false, if_true, if_false, ite_true, ite_false, Nat.reduceEqDiff, Nat.reduceLT, true_and, List.map_cons, List.map_nil, Nat.zero_add, Nat.reduceBEq, WPm, a1, a2, lu]
     refine condP_dec (fun h => ?_) (fun h => ?_)
     ·simp -dsimp only [↓WPd, ↓wpC_block, ↓wpC_cond, WPu, Bool.false_eq_true, Bool.true_eq_false, Bool.not_true, Bool.not_false, if_true, if_false, ite_true, ite_false, Nat.reduceEqDiff, Nat.reduceLT, true_and, List.map_cons, List.map_nil, Nat.zero_add, Nat.reduceBEq, WPm]
      exact .inr ⟨l[k], List.getElem_mem hk', by omega⟩
     ·simp -dsimp only [↓WPd, ↓wpC_block, ↓wpC_cond, WPu, Bool.false_eq_true, Bool.true_eq_false, Bool.not_true, Bool.not_false, if_true, if_false, ite_true, ite_false, Nat.reduceEqDiff, Nat.reduceLT, true_and, List.map_cons, List.map_nil, Nat.zero_add, Nat.reduceBEq, WPm]
      refine ⟨l.length - (k + 1), by omega, k + 1, by omega, rfl, by rw [wrap_i64 (by omega) (by omega), Int.natCast_add, Int.natCast_one], fun j hj hjk => ?_⟩
      by_cases e : j = k
      ·subst e; omega
      ·exact hall j hj (by omega)
    ·simp -dsimp only [↓WPd, ↓wpC_block, ↓wpC_cond, WPu, Bool.false_eq_true, Bool.true_eq_false, Bool.not_true, Bool.not_false, if_true, if_false, ite_true, ite_false, Nat.reduceEqDiff, Nat.reduceLT, true_and, List.map_cons, List.map_nil, Nat.zero_add, Nat.reduceBEq, WPm]
     refine .inl fun p hp => ?_
     obtain ⟨j, hj, rfl⟩ := List.getElem_of_mem hp
     exact hall j hj (by omega)
   ·rintro e σ' env ⟨rfl, h⟩
    rcases h with ⟨rfl, hall⟩ | ⟨rfl, hv, p, hp, hlt⟩
    ·have hl : (l.all fun t => decide (t.length ≤ 127)) = true := List.all_eq_true.2 fun p hp => decide_eq_true (hall p hp)
     simp -dsimp only [↓WPd, ↓wpC_block, ↓wpC_cond, WPu, Bool.false_eq_true, Bool.true_eq_false, Bool.not_true, Bool.not_false, if_true, if_false, ite_true, ite_false, Nat.reduceEqDiff, Nat.reduceLT, true_and, List.map_cons, List.map_nil, Nat.zero_add, Nat.reduceBEq, WPm]
     exact ⟨by rw [shortB, hR, hl]; rfl, g1⟩
    ·simp only [List.map_cons, List.map_nil, List.cons.injEq, and_true] at hv
     have hl : (l.all fun t => decide (t.length ≤ 127)) = false := List.all_eq_false.2 ⟨p, hp, by simpa using hlt⟩
     simp -dsimp only [↓WPd, ↓wpC_block, ↓wpC_cond, WPu, Bool.false_eq_true, Bool.true_eq_false, Bool.not_true, Bool.not_false, if_true, if_false, ite_true, ite_false, Nat.reduceEqDiff, Nat.reduceLT, true_and, List.map_cons, List.map_nil, Nat.zero_add, Nat.reduceBEq, WPm, hv]
     exact ⟨by rw [shortB, hl, Bool.and_false], g1⟩
  ·simp only [List.map_cons, List.map_nil, List.cons.injEq, and_true] at hv
   have hR : (R.all fun p => decide (p.2.length ≤ 127)) = false := List.all_eq_false.2 ⟨p, hp, by simpa using hlt⟩
   simp -dsimp only [↓WPd, ↓wpC_block, ↓wpC_cond, WPu, Bool.false_eq_true, Bool.true_eq_false, Bool.not_true, Bool.not_false, if_true, if_false, ite_true, ite_false, Nat.reduceEqDiff, Nat.reduceLT, true_and, List.map_cons, List.map_nil, Nat.zero_add, Nat.reduceBEq, WPm, hv]
   exact ⟨by rw [shortB, hR, Bool.false_and], g1⟩
end
theorem solv_one {σ : Store} {bv lv : AVal} (o s : Nat) (h1 : bv.one = true) (h2 : lv.one = true) : [AVal.int .u8 (o : Nat), bv, lv, .int .i64 (s : Nat)].all AVal.one = true := by
 simp only [List.all_cons, List.all_nil, h1, h2]; rfl
def bindsT : ACode := seqR (seqR (seqR (seqR (seqR (seqR (seqR (seqR (seqR CU.a5.body))))))))
set_option maxHeartbeats 2000000 in
theorem binds_tail (σ1 : Store) (e : Nat → AVal) (id mid : Nat) (vs : List AVal) (M : Hp) (lv : AVal) (l : List (List Cel)) (K : AExit → List AVal → Store → Prop) (e1 : e 1 = lv) (e5 : e 5 = .ptr id 0)
  (hp : HeapP σ1 id mid vs M) (hl : TA lv l) (hsm : ∀ t ∈ l, Small t) (hlen : l.length < 2 ^ 30) (heq : ∀ t ∈ l, EqG t) (hev : ∀ t ∈ l, Ev M (sides t).1 (sides t).2) (hK : ∀ (e' : Nat → AVal) (σ' : Store), e' 4 = .bool true → K .ret (Fr' 163 e') σ') :
  wpC CU.cfg 0 bindsT (Fr' 163 e) σ1 K := by
 simp only [bindsT, seqR, CU.a5]
 have ll := (hl.terms σ1).len
 have hwM := hp.wf
 simp -dsimp only [↓WPd, ↓wpC_block, ↓wpC_cond, WPu, Bool.false_eq_true, Bool.true_eq_false, Bool.not_true, Bool.not_false, if_true, if_false, ite_true, ite_false, Nat.reduceEqDiff, Nat.reduceLT, true_and, List.map_cons, List.map_nil, Nat.zero_add, Nat.reduceBEq, WPm, e1, e5]
 refine loop_rule2 (fun m xs σ' => ∃ k : Nat, k ≤ l.length ∧ m = l.length - k ∧ xs = [lv, .ptr id 0, .int .i64 (k : Nat)] ∧ Grows σ1 σ') [] (fun x xs σ' => x = .exit 2) l.length ⟨0, Nat.zero_le _, rfl, ?_, Keeps.refl _ _⟩ ?_ ?_
 ·simp -dsimp only [↓WPd, ↓wpC_block, ↓wpC_cond, WPu, Bool.false_eq_true, Bool.true_eq_false, Bool.not_true, Bool.not_false, if_true, if_false, ite_true, ite_false, Nat.reduceEqDiff, Nat.reduceLT, true_and, List.map_cons, List.map_nil, Nat.zero_add, Nat.reduceBEq, e1, e5]; rfl
 ·rintro m xs σ' ⟨k, hk, rfl, rfl, g⟩
  simp -dsimp only [↓WPd, ↓wpC_block, ↓wpC_cond, WPu, Bool.false_eq_true, Bool.true_eq_false, Bool.not_true, Bool.not_false, if_true, if_false, ite_true, ite_false, Nat.reduceEqDiff, Nat.reduceLT, true_and, List.map_cons, List.map_nil, Nat.zero_add, Nat.reduceBEq, WPm, ll]
  refine condP_dec (fun hc => ?_) (fun hc => ?_)
  ·have hk' : k < l.length := by omega
   obtain ⟨te, t1, t2, t3⟩ := (hl.terms σ').at hk'
   have ht := heq _ (List.getElem_mem hk')
   have he := hev _ (List.getElem_mem hk')
   have sm := ht.small
   have ss := ht.sides_small
   have next : ∀ {σ6 : Store}, Grows σ' σ6 → ∃ m', m' < l.length - k ∧ ∃ k_1 : Nat, k_1 ≤ l.length ∧ m' = l.length - k_1 ∧ [lv, AVal.ptr id 0, AVal.int .i64 (IntKind.i64.wrap ((k : Int) + 1))] = [lv, .ptr id 0, .int .i64 (k_1 : Nat)] ∧ Grows σ1 σ6 := fun g6 =>
    ⟨l.length - (k + 1), by omega, k + 1, by omega, rfl, by rw [wrap_i64 (by omega) (by omega), Int.natCast_add, Int.natCast_one], g.trans g6⟩
   simp -dsimp only [↓WPd, ↓wpC_block, ↓wpC_cond, WPu, Bool.false_eq_true, Bool.true_eq_false, Bool.not_true, Bool.not_false, if_true, if_false, ite_true, ite_false, Nat.reduceEqDiff, Nat.reduceLT, true_and, List.map_cons, List.map_nil, Nat.zero_add, Nat.reduceBEq, WPm, t1, t2]
   refine calledW_of (equation_ok 0 σ' te l[k] sm.1 sm.2 t3) ?_
   rintro w σ2 ⟨a, b, rfl, hE⟩
   obtain ⟨g2, oa, ob, -⟩ := hE.own
   have hp2 := (hp.grow g).grow g2
   simp -dsimp only [↓WPd, ↓wpC_block, ↓wpC_cond, WPu, Bool.false_eq_true, Bool.true_eq_false, Bool.not_true, Bool.not_false, if_true, if_false, ite_true, ite_false, Nat.reduceEqDiff, Nat.reduceLT, true_and, List.map_cons, List.map_nil, Nat.zero_add, Nat.reduceBEq, WPm, List.getElem?_cons_zero, List.getElem?_cons_succ]
   refine calledW_of (hresolve_ok 0 σ2 M hwM id mid vs a (sides l[k]).1 hp2 oa.sl ss.1) ?_
   rintro w σ3 ⟨g3, u, eu, rfl, hu⟩
   simp -dsimp only [↓WPd, ↓wpC_block, ↓wpC_cond, WPu, Bool.false_eq_true, Bool.true_eq_false, Bool.not_true, Bool.not_false, if_true, if_false, ite_true, ite_false, Nat.reduceEqDiff, Nat.reduceLT, true_and, List.map_cons, List.map_nil, Nat.zero_add, Nat.reduceBEq, WPm, List.getElem?_cons_zero, List.getElem?_cons_succ]
   refine calledW_of (hresolve_ok 0 σ3 M hwM id mid vs b (sides l[k]).2 (hp2.grow g3) (ob.grow g3).sl ss.2) ?_
   rintro w σ4 ⟨g4, v, ev, rfl, hv⟩
   have g24 := (g2.trans g3).trans g4
   have r1 := glob_right ht.2.1
   have r2 := glob_right ht.2.2
   have z5 : ((5 : Int) == 0) = false := rfl
   have z0 : ((0 : Int) == 0) = true := rfl
   rw [ht.1]
   rcases hu with ⟨h, -⟩ | ⟨-, -, rfl, rfl⟩ | ⟨p, -, n1, rfl, op⟩
   ·rw [r1] at h; cases h
   ·simp -dsimp only [↓WPd, ↓wpC_block, ↓wpC_cond, WPu, Bool.false_eq_true, Bool.true_eq_false, Bool.not_true, Bool.not_false, if_true, if_false, ite_true, ite_false, Nat.reduceEqDiff, Nat.reduceLT, true_and, List.map_cons, List.map_nil, Nat.zero_add, Nat.reduceBEq, WPm, List.getElem?_cons_zero, List.getElem?_cons_succ, z5]
    exact next g24
   ·rcases hv with ⟨h, -⟩ | ⟨-, -, rfl, rfl⟩ | ⟨q, -, n2, rfl, oq⟩
    ·rw [r2] at h; cases h
    ·simp -dsimp only [↓WPd, ↓wpC_block, ↓wpC_cond, WPu, Bool.false_eq_true, Bool.true_eq_false, Bool.not_true, Bool.not_false, if_true, if_false, ite_true, ite_false, Nat.reduceEqDiff, Nat.reduceLT, true_and, List.map_cons, List.map_nil, Nat.zero_add, Nat.reduceBEq, WPm, List.getElem?_cons_zero, List.getElem?_cons_succ, z5, z0]
     exact next g24
    ·have hpq := he.resolved hwM ht.2.1 ht.2.2 n1 n2
     subst hpq
     have lp := (right_len (resolved_ok hwM r1 n1).1).2
     simp -dsimp only [↓WPd, ↓wpC_block, ↓wpC_cond, WPu, Bool.false_eq_true, Bool.true_eq_false, Bool.not_true, Bool.not_false, if_true, if_false, ite_true, ite_false, Nat.reduceEqDiff, Nat.reduceLT, true_and, List.map_cons, List.map_nil, Nat.zero_add, Nat.reduceBEq, WPm, List.getElem?_cons_zero, List.getElem?_cons_succ, z0]
     refine calledW_of (cequal_ok 0 σ4 u v p p (by omega) (op.grow g4).sl oq.sl) ?_
     rintro w σ5 ⟨rfl, rfl⟩
     simp -dsimp only [↓WPd, ↓wpC_block, ↓wpC_cond, WPu, Bool.false_eq_true, Bool.true_eq_false, Bool.not_true, Bool.not_false, if_true, if_false, ite_true, ite_false, Nat.reduceEqDiff, Nat.reduceLT, true_and, List.map_cons, List.map_nil, Nat.zero_add, Nat.reduceBEq, WPm, decide_true]
     exact next g24
  ·simp -dsimp only [↓WPd, ↓wpC_block, ↓wpC_cond, WPu, Bool.false_eq_true, Bool.true_eq_false, Bool.not_true, Bool.not_false, if_true, if_false, ite_true, ite_false, Nat.reduceEqDiff, Nat.reduceLT, true_and, List.map_cons, List.map_nil, Nat.zero_add, Nat.reduceBEq, WPm]
 ·rintro x σ' env rfl
  simp -dsimp only [↓WPd, ↓wpC_block, ↓wpC_cond, WPu, Bool.false_eq_true, Bool.true_eq_false, Bool.not_true, Bool.not_false, if_true, if_false, ite_true, ite_false, Nat.reduceEqDiff, Nat.reduceLT, true_and, List.map_cons, List.map_nil, Nat.zero_add, Nat.reduceBEq, WPm]
  exact hK _ _ (by simp -dsimp only [↓WPd, ↓wpC_block, ↓wpC_cond, WPu, Bool.false_eq_true, Bool.true_eq_false, Bool.not_true, Bool.not_false, if_true, if_false, ite_true, ite_false, Nat.reduceEqDiff, Nat.reduceLT, true_and, List.map_cons, List.map_nil, Nat.zero_add, Nat.reduceBEq])
set_option maxHeartbeats 4000000 in
theorem binds_run (bv lv : AVal) (bs : Hp) (l : List (List Cel)) (hb : BdArg bv bs) (hl : TA lv l) (hsm : ∀ t ∈ l, Small t) (hlen : l.length < 2 ^ 27) :
  Called CU.cfg 0 5 [bv, lv] [] fun v _ => v = .bool true := by
 refine called_of (fn := CU.a5) rfl (Nat.le_of_ble_eq_true rfl) ?_
 rw [show CU.a5.body = (.seq (seqL CU.a5.body) (.seq (seqL (seqR CU.a5.body)) (.seq (seqL (seqR (seqR CU.a5.body))) (.seq (seqL (seqR (seqR (seqR CU.a5.body)))) (.seq (seqL (seqR (seqR (seqR (seqR CU.a5.body))))) (.seq (seqL (seqR (seqR (seqR (seqR (seqR CU.a5.body)))))) (.seq (seqL (seqR (seqR (seqR (seqR (seqR (seqR CU.a5.body))))))) (.seq (seqL (seqR (seqR (seqR (seqR (seqR (seqR (seqR CU.a5.body)))))))) (.seq (seqL (seqR (seqR (seqR (seqR (seqR (seqR (seqR (seqR CU.a5.body))))))))) bindsT))))))))) from rfl]
 simp only [CU.a5, seqL, seqR]
 simp -dsimp only [↓WPd, ↓wpC_block, ↓wpC_cond, WPu, Bool.false_eq_true, Bool.true_eq_false, Bool.not_true, Bool.not_false, if_true, if_false, ite_true, ite_false, Nat.reduceEqDiff, Nat.reduceLT, true_and, List.map_cons, List.map_nil, Nat.zero_add, Nat.reduceBEq, WPm]
 refine isoW_bool live08_ran ?_
 simp -dsimp only [↓WPd, ↓wpC_block, ↓wpC_cond, WPu, Bool.false_eq_true, Bool.true_eq_false, Bool.not_true, Bool.not_false, if_true, if_false, ite_true, ite_false, Nat.reduceEqDiff, Nat.reduceLT, true_and, List.map_cons, List.map_nil, Nat.zero_add, Nat.reduceBEq, WPm]
 refine calledW_of (maps_ok 0 [] bv bs hb) ?_
 rintro r σ1 ⟨id, mid, vs, rid, A, rfl, h1, -, -, -, -, -, -⟩
 have hw := h1.wf
 have hs : Same (bindsH [] bs) (bindsR [] bs) := Same.nil.binds bs
 have hRl := bindsR_len bs []
 have hbl := hb.len
 simp only [List.length_nil] at hRl
 generalize bindsH [] bs = H at *
 generalize bindsR [] bs = R at *
 simp -dsimp only [↓WPd, ↓wpC_block, ↓wpC_cond, WPu, Bool.false_eq_true, Bool.true_eq_false, Bool.not_true, Bool.not_false, if_true, if_false, ite_true, ite_false, Nat.reduceEqDiff, Nat.reduceLT, true_and, List.map_cons, List.map_nil, Nat.zero_add, Nat.reduceBEq, WPm, List.getElem?_cons_zero, List.getElem?_cons_succ, isnil_ptr]
 refine calledW_of (solve_ok 0 σ1 (.ptr id 0) lv H 2000 l h1.v (hl.terms σ1) hsm (by decide) hlen) ?_
 rintro r σ2 ⟨g2, bdv, lfv, us, es, c, rfl, B, O, c1, c2, c3, c4⟩
 have e2000 : (2000 : Int).toNat = 2000 := rfl
 rw [e2000] at B O ⊢
 have RL := solveL_ran hw 2000 l
 generalize hS : solveL H 2000 l = S at *
 have z4 : ∀ (σ : Store) (cs : List AVal), cs.length = 4 → cs.all AVal.one = true → storeV (σ ++ [.cells [.int .u8 0, .nilslice, .nilslice, .int .i64 0]]) 4 (.ptr σ.length 0) (.agg cs) = some (σ ++ [.cells cs]) := fun σ cs h1 h2 => by
  have h : (σ ++ [AObj.cells [.int .u8 0, .nilslice, .nilslice, .int .i64 0]])[σ.length]? = some (.cells [.int .u8 0, .nilslice, .nilslice, .int .i64 0]) := by simp
  rw [storeN_cells (cs' := cs) (n := 4) h rfl h1 h2, set_last]
 simp -dsimp only [↓WPd, ↓wpC_block, ↓wpC_cond, WPu, Bool.false_eq_true, Bool.true_eq_false, Bool.not_true, Bool.not_false, if_true, if_false, ite_true, ite_false, Nat.reduceEqDiff, Nat.reduceLT, true_and, List.map_cons, List.map_nil, Nat.zero_add, Nat.reduceBEq, WPm, z4 σ2 [.int .u8 S.out, bdv, lfv, .int .i64 S.steps] rfl (solv_one (σ := σ2) S.out S.steps B.row.one O.row.one)]
 have o3 : (σ2 ++ [AObj.cells [.int .u8 S.out, bdv, lfv, .int .i64 S.steps]])[σ2.length]? = some (.cells [.int .u8 S.out, bdv, lfv, .int .i64 S.steps]) := by simp
 have g3 : Grows σ2 (σ2 ++ [AObj.cells [.int .u8 S.out, bdv, lfv, .int .i64 S.steps]]) := Grows.app _ _
 generalize σ2 ++ [AObj.cells [.int .u8 S.out, bdv, lfv, .int .i64 S.steps]] = σ3 at o3 g3
 have hmd : mid < σ1.length := (List.getElem?_eq_some_iff.1 h1.map).1
 have l12 := g2.1
 generalize hi7 : σ2.length = i7 at o3 l12
 have B3 := B.grow g3
 have O3 := O.grow g3
 have h3 := (h1.grow g2).grow g3
 have d1 : ∀ a b c d : AVal, [a, b, c, d][1]? = some b := fun _ _ _ _ => rfl
 have d0 : ∀ a b c d : AVal, [a, b, c, d][0]? = some a := fun _ _ _ _ => rfl
 have d2 : ∀ a b c d : AVal, [a, b, c, d][2]? = some c := fun _ _ _ _ => rfl
 have d3 : ∀ a b c d : AVal, [a, b, c, d][3]? = some d := fun _ _ _ _ => rfl
 have hbn := RL.len
 have lbd := BRows.bds B3 |>.len
 refine loop_rule2 (fun m xs σ' => ∃ (k : Nat) (vs' : List AVal), k ≤ S.bd.length ∧ m = S.bd.length - k ∧ xs = [lv, .ptr id 0, .ptr i7 0, .int .i64 (k : Nat)] ∧ HeapP σ' id mid vs' (bindsH H (S.bd.take k)) ∧ Keeps (fun i => i = mid) σ3 σ')
  [1, 5, 7] (fun e xs σ' => e = .exit 0 ∧ ∃ vs', xs = [lv, .ptr id 0, .ptr i7 0] ∧ HeapP σ' id mid vs' (bindsH H S.bd) ∧ Keeps (fun i => i = mid) σ3 σ') S.bd.length
  ⟨0, vs, Nat.zero_le _, rfl, ?_, h3, Keeps.refl _ _⟩ ?_ ?_
 ·simp -dsimp only [↓WPd, ↓wpC_block, ↓wpC_cond, WPu, Bool.false_eq_true, Bool.true_eq_false, Bool.not_true, Bool.not_false, if_true, if_false, ite_true, ite_false, Nat.reduceEqDiff, Nat.reduceLT, true_and, List.map_cons, List.map_nil, Nat.zero_add, Nat.reduceBEq]; rfl
 ·rintro m xs σ' ⟨k, vs', hk, rfl, rfl, hp, K⟩
  have o' := K.get o3 (by omega)
  simp -dsimp only [↓WPd, ↓wpC_block, ↓wpC_cond, WPu, Bool.false_eq_true, Bool.true_eq_false, Bool.not_true, Bool.not_false, if_true, if_false, ite_true, ite_false, Nat.reduceEqDiff, Nat.reduceLT, true_and, List.map_cons, List.map_nil, Nat.zero_add, Nat.reduceBEq, WPm, faddr_ptr, Nat.zero_add, Nat.add_zero, load_cells o', d1, lbd]
  refine condP_dec (fun hc => ?_) (fun hc => ?_)
  ·have hk' : k < S.bd.length := by omega
   have B' := XRows.keeps B3 K (fun i _ hlo e => by omega)
   obtain ⟨hu, a1, a2, a3⟩ := BRows.atV B' hk'
   have hE := RL.chn.get k hk'
   obtain ⟨b1, b2, b3, b4⟩ := bindE_okB hE
   simp only at b1 b2 b3 b4
   have z3 : storeV (σ' ++ [.cells [.int .i64 0, .int .i64 0, .nilslice]]) 3 (.ptr σ'.length 0) (.agg (bdC S.bd[k].1 us[k])) = some (σ' ++ [.cells (bdC S.bd[k].1 us[k])]) := by
    have h : (σ' ++ [AObj.cells [.int .i64 0, .int .i64 0, .nilslice]])[σ'.length]? = some (.cells [.int .i64 0, .int .i64 0, .nilslice]) := by simp
    rw [storeN_cells (cs' := bdC S.bd[k].1 us[k]) (n := 3) h rfl rfl (bdV_one _ a3.sl), set_last]
   simp -dsimp only [↓WPd, ↓wpC_block, ↓wpC_cond, WPu, Bool.false_eq_true, Bool.true_eq_false, Bool.not_true, Bool.not_false, if_true, if_false, ite_true, ite_false, Nat.reduceEqDiff, Nat.reduceLT, true_and, List.map_cons, List.map_nil, Nat.zero_add, Nat.reduceBEq, WPm, faddr_ptr, Nat.zero_add, Nat.add_zero, load_cells o', d1, a1, a2, z3]
   have o4 : (σ' ++ [AObj.cells (bdC S.bd[k].1 us[k])])[σ'.length]? = some (.cells (bdC S.bd[k].1 us[k])) := by simp
   have g4 : Grows σ' (σ' ++ [AObj.cells (bdC S.bd[k].1 us[k])]) := Grows.app _ _
   have l4 : mid < σ'.length := (List.getElem?_eq_some_iff.1 hp.map).1
   generalize σ' ++ [AObj.cells (bdC S.bd[k].1 us[k])] = σ4 at o4 g4
   generalize hi9 : σ'.length = i9 at o4 l4
   have nm : ∀ {σ : Store}, σ[i9]? = some (.cells (bdC S.bd[k].1 us[k])) → loadV σ 2 true (.ptr i9 0) = some (nmV S.bd[k].1) := fun {σ} ho => loadN_at (q := .ptr i9 0) (cs := bdC S.bd[k].1 us[k]) (off := 0) (by simp only [behind, ho]) (by simp [bdC])
   have u2 : (bdC S.bd[k].1 us[k])[2]? = some us[k] := rfl
   have sm := right_small (glob_right b3)
   have hp4 := hp.grow g4
   have a4 := a3.grow g4
   simp -dsimp only [↓WPd, ↓wpC_block, ↓wpC_cond, WPu, Bool.false_eq_true, Bool.true_eq_false, Bool.not_true, Bool.not_false, if_true, if_false, ite_true, ite_false, Nat.reduceEqDiff, Nat.reduceLT, true_and, List.map_cons, List.map_nil, Nat.zero_add, Nat.reduceBEq, WPm, faddr_ptr, Nat.zero_add, Nat.add_zero, nm o4, load_cells o4, u2]
   refine calledW_of (hbind_ok 0 σ4 id mid vs' _ S.bd[k].1 us[k] S.bd[k].2 hp4 sm a4.sl) ?_
   rintro r σ5 ⟨rfl, ⟨vs5, h5⟩, k5⟩
   rw [hE]
   have n0 : ((0 : Int) != 0) = false := rfl
   have o5 := k5.get o4 (by omega)
   have a5 := a4.sl.keeps k5 fun i hi e => a4.sl.noMap hp4.map (e ▸ hi)
   have lu := a5.len
   rw [List.length_map] at lu
   have ht : S.bd.take (k + 1) = S.bd.take k ++ [S.bd[k]] := List.take_succ_eq_append_getElem hk'
   have next : ∀ {σ6 : Store}, Grows σ5 σ6 → ∃ m', m' < S.bd.length - k ∧ ∃ (k_1 : Nat) (vs' : List AVal), k_1 ≤ S.bd.length ∧ m' = S.bd.length - k_1 ∧ [lv, AVal.ptr id 0, AVal.ptr i7 0, AVal.int .i64 (IntKind.i64.wrap ((k : Int) + 1))] = [lv, .ptr id 0, .ptr i7 0, .int .i64 (k_1 : Nat)] ∧ HeapP σ6 id mid vs' (bindsH H (S.bd.take k_1)) ∧ Keeps (fun i => i = mid) σ3 σ6 := fun g =>
    ⟨S.bd.length - (k + 1), by omega, k + 1, vs5, by omega, rfl, by rw [wrap_i64 (by omega) (by omega), Int.natCast_add, Int.natCast_one], by rw [ht, bindsH_snoc]; exact h5.grow g, Keeps.trans (Keeps.trans (Keeps.trans K g4 fun i hi e => e.elim) k5 fun i hi e => e) g fun i hi e => e.elim⟩
   by_cases hl1 : S.bd[k].2.length = 1
   ·have e1 : (((S.bd[k].2.length : Nat) : Int) == 1) = true := by rw [hl1]; rfl
    obtain ⟨c, hc⟩ : ∃ c, S.bd[k].2 = [c] := List.length_eq_one_iff.1 hl1
    have a5' : SlOf σ5 5 us[k] (CC (c :: [])) := by rw [hc] at a5; exact a5
    obtain ⟨x1, x2, q0, q3, x3, x4, x5, x6⟩ := hcell_at a5'
    by_cases hk4 : c.k = 4
    ·have m4 : ((c.k : Int) == 4) = true := by rw [hk4]; rfl
     have hn : nless c.v S.bd[k].1 = true := by
      have := b4 (by rw [hc]; exact hk4)
      rw [hc] at this; exact this
     simp -dsimp only [↓WPd, ↓wpC_block, ↓wpC_cond, WPu, Bool.false_eq_true, Bool.true_eq_false, Bool.not_true, Bool.not_false, if_true, if_false, ite_true, ite_false, Nat.reduceEqDiff, Nat.reduceLT, true_and, List.map_cons, List.map_nil, Nat.zero_add, Nat.reduceBEq, WPm, n0, faddr_ptr, Nat.zero_add, Nat.add_zero, load_cells o5, nm o5, u2, lu, e1, x1, x3, x4, x5, x6, m4]
     refine calledW_of (rless_ok 0 σ5 c.v S.bd[k].1) ?_
     rintro w σ6 ⟨rfl, g6⟩
     rw [hn]
     simp -dsimp only [↓WPd, ↓wpC_block, ↓wpC_cond, WPu, Bool.false_eq_true, Bool.true_eq_false, Bool.not_true, Bool.not_false, if_true, if_false, ite_true, ite_false, Nat.reduceEqDiff, Nat.reduceLT, true_and, List.map_cons, List.map_nil, Nat.zero_add, Nat.reduceBEq, WPm]
     exact next g6
    ·have m4 : ((c.k : Int) == 4) = false := by simp; omega
     simp -dsimp only [↓WPd, ↓wpC_block, ↓wpC_cond, WPu, Bool.false_eq_true, Bool.true_eq_false, Bool.not_true, Bool.not_false, if_true, if_false, ite_true, ite_false, Nat.reduceEqDiff, Nat.reduceLT, true_and, List.map_cons, List.map_nil, Nat.zero_add, Nat.reduceBEq, WPm, n0, faddr_ptr, Nat.zero_add, Nat.add_zero, load_cells o5, nm o5, u2, lu, e1, x1, x3, x4, x5, x6, m4]
     exact next (Keeps.refl _ _)
   ·have e1 : (((S.bd[k].2.length : Nat) : Int) == 1) = false := by simp; omega
    simp -dsimp only [↓WPd, ↓wpC_block, ↓wpC_cond, WPu, Bool.false_eq_true, Bool.true_eq_false, Bool.not_true, Bool.not_false, if_true, if_false, ite_true, ite_false, Nat.reduceEqDiff, Nat.reduceLT, true_and, List.map_cons, List.map_nil, Nat.zero_add, Nat.reduceBEq, WPm, n0, faddr_ptr, Nat.zero_add, Nat.add_zero, load_cells o5, nm o5, u2, lu, e1]
    exact next (Keeps.refl _ _)
  ·have : k = S.bd.length := by omega
   subst this
   rw [List.take_length] at hp
   simp -dsimp only [↓WPd, ↓wpC_block, ↓wpC_cond, WPu, Bool.false_eq_true, Bool.true_eq_false, Bool.not_true, Bool.not_false, if_true, if_false, ite_true, ite_false, Nat.reduceEqDiff, Nat.reduceLT, true_and, List.map_cons, List.map_nil, Nat.zero_add, Nat.reduceBEq]
   exact ⟨vs', hp, K⟩
 ·rintro e σ' env ⟨rfl, vs', hv, hp, K⟩
  simp only [List.map_cons, List.map_nil, List.cons.injEq, and_true] at hv
  obtain ⟨v1, v5, v7⟩ := hv
  have o' := K.get o3 (by omega)
  have llf := (ORows.terms O3).len
  by_cases ho : S.out = 1
  ·have m1 : (((S.out : Nat) : Int) != 1) = false := by rw [ho]; rfl
   have hwM := hp.wf
   obtain ⟨hok, hev⟩ := RL.ev ho
   have heq := eqsOk_mem hok
   have hag := solveN_again hwM 2000 l 0 (fun t ht => ⟨heq t ht, hev t ht⟩)
   have hS2 : solveL (bindsH H S.bd) 2000 l = solveN 2000 (bindsH H S.bd) l [] 0 := by rw [solveL, if_pos hok]
   simp -dsimp only [↓WPd, ↓wpC_block, ↓wpC_cond, WPu, Bool.false_eq_true, Bool.true_eq_false, Bool.not_true, Bool.not_false, if_true, if_false, ite_true, ite_false, Nat.reduceEqDiff, Nat.reduceLT, true_and, List.map_cons, List.map_nil, Nat.zero_add, Nat.reduceBEq, WPm, v1, v5, v7, faddr_ptr, Nat.zero_add, Nat.add_zero, load_cells o', d0, m1]
   refine calledW_of (solve_ok 0 σ' (.ptr id 0) lv (bindsH H S.bd) 2000 l hp.v (hl.terms σ') hsm (by decide) hlen) ?_
   rintro r σ4 ⟨g4, bdw, lfw, us2, es2, c', rfl, B2, O2, -, -, -, -⟩
   rw [e2000, hS2] at B2 O2 ⊢
   generalize hS3 : solveN 2000 (bindsH H S.bd) l [] 0 = S2 at *
   simp -dsimp only [↓WPd, ↓wpC_block, ↓wpC_cond, WPu, Bool.false_eq_true, Bool.true_eq_false, Bool.not_true, Bool.not_false, if_true, if_false, ite_true, ite_false, Nat.reduceEqDiff, Nat.reduceLT, true_and, List.map_cons, List.map_nil, Nat.zero_add, Nat.reduceBEq, WPm, z4 σ4 [.int .u8 S2.out, bdw, lfw, .int .i64 S2.steps] rfl (solv_one (σ := σ4) S2.out S2.steps B2.row.one O2.row.one)]
   have o5 : (σ4 ++ [AObj.cells [.int .u8 S2.out, bdw, lfw, .int .i64 S2.steps]])[σ4.length]? = some (.cells [.int .u8 S2.out, bdw, lfw, .int .i64 S2.steps]) := by simp
   have g5 : Grows σ4 (σ4 ++ [AObj.cells [.int .u8 S2.out, bdw, lfw, .int .i64 S2.steps]]) := Grows.app _ _
   generalize σ4 ++ [AObj.cells [.int .u8 S2.out, bdw, lfw, .int .i64 S2.steps]] = σ5 at o5 g5
   generalize hi10 : σ4.length = i10 at o5
   have hp5 := (hp.grow g4).grow g5
   have lb2 := (BRows.bds B2).len
   rw [hag.1] at lb2
   have z0 : ((((([] : Hp).length : Nat)) : Int) != 0) = false := rfl
   by_cases ho2 : S2.out = 2
   ·have m2 : (((S2.out : Nat) : Int) == 2) = true := by rw [ho2]; rfl
    simp -dsimp only [↓WPd, ↓wpC_block, ↓wpC_cond, WPu, Bool.false_eq_true, Bool.true_eq_false, Bool.not_true, Bool.not_false, if_true, if_false, ite_true, ite_false, Nat.reduceEqDiff, Nat.reduceLT, true_and, List.map_cons, List.map_nil, Nat.zero_add, Nat.reduceBEq, WPm, v1, v5, v7, faddr_ptr, Nat.zero_add, Nat.add_zero, load_cells o5, d0, d1, lb2, z0, m2]
    have hsm2 : Same (bindsH H S.bd) (bindsR R S.bd) := hs.binds S.bd
    have hR2 := bindsR_len S.bd R
    refine calledW_of (short_ok 0 σ5 id mid vs' (bindsH H S.bd) (bindsR R S.bd) lv l hp5 hsm2 (by omega) (fun p hp => by have := hsm2.wfr.short hp; omega) (hl.terms σ5) (by omega)) ?_
    rintro w σ6 ⟨rfl, g6⟩
    have hsf : shortB (bindsR R S.bd) l = false := by
     cases hb : shortB (bindsR R S.bd) l with
     | false => rfl
     | true =>
      simp only [shortB, Bool.and_eq_true, List.all_eq_true, decide_eq_true_eq] at hb
      refine (hag.2 (fun p hp => hb.1 p (hsm2.perm.mem_iff.1 hp)) (fun t ht => ?_) ho2).elim
      have := hb.2 t ht
      have := sides_len (heq t ht).1
      exact ⟨by omega, by omega⟩
    rw [hsf]
    simp -dsimp only [↓WPd, ↓wpC_block, ↓wpC_cond, WPu, Bool.false_eq_true, Bool.true_eq_false, Bool.not_true, Bool.not_false, if_true, if_false, ite_true, ite_false, Nat.reduceEqDiff, Nat.reduceLT, true_and, List.map_cons, List.map_nil, Nat.zero_add, Nat.reduceBEq, WPm]
    exact binds_tail σ6 _ id mid vs' (bindsH H S.bd) lv l _ (by simp -dsimp only [↓WPd, ↓wpC_block, ↓wpC_cond, WPu, Bool.false_eq_true, Bool.true_eq_false, Bool.not_true, Bool.not_false, if_true, if_false, ite_true, ite_false, Nat.reduceEqDiff, Nat.reduceLT, true_and, List.map_cons, List.map_nil, Nat.zero_add, Nat.reduceBEq, v1]) (by simp -dsimp only [↓WPd, ↓wpC_block, ↓wpC_cond, WPu, Bool.false_eq_true, Bool.true_eq_false, Bool.not_true, Bool.not_false, if_true, if_false, ite_true, ite_false, Nat.reduceEqDiff, Nat.reduceLT, true_and, List.map_cons, List.map_nil, Nat.zero_add, Nat.reduceBEq, v5]) (hp5.grow g6) hl hsm (by omega) heq hev fun e' σ7 w4 => by simp -dsimp only [↓WPd, ↓wpC_block, ↓wpC_cond, WPu, Bool.false_eq_true, Bool.true_eq_false, Bool.not_true, Bool.not_false, if_true, if_false, ite_true, ite_false, Nat.reduceEqDiff, Nat.reduceLT, true_and, List.map_cons, List.map_nil, Nat.zero_add, Nat.reduceBEq, WPm, w4]
   ·have m2 : (((S2.out : Nat) : Int) == 2) = false := by simp; omega
    simp -dsimp only [↓WPd, ↓wpC_block, ↓wpC_cond, WPu, Bool.false_eq_true, Bool.true_eq_false, Bool.not_true, Bool.not_false, if_true, if_false, ite_true, ite_false, Nat.reduceEqDiff, Nat.reduceLT, true_and, List.map_cons, List.map_nil, Nat.zero_add, Nat.reduceBEq, WPm, v1, v5, v7, faddr_ptr, Nat.zero_add, Nat.add_zero, load_cells o5, d0, d1, lb2, z0, m2]
    exact binds_tail σ5 _ id mid vs' (bindsH H S.bd) lv l _ (by simp -dsimp only [↓WPd, ↓wpC_block, ↓wpC_cond, WPu, Bool.false_eq_true, Bool.true_eq_false, Bool.not_true, Bool.not_false, if_true, if_false, ite_true, ite_false, Nat.reduceEqDiff, Nat.reduceLT, true_and, List.map_cons, List.map_nil, Nat.zero_add, Nat.reduceBEq, v1]) (by simp -dsimp only [↓WPd, ↓wpC_block, ↓wpC_cond, WPu, Bool.false_eq_true, Bool.true_eq_false, Bool.not_true, Bool.not_false, if_true, if_false, ite_true, ite_false, Nat.reduceEqDiff, Nat.reduceLT, true_and, List.map_cons, List.map_nil, Nat.zero_add, Nat.reduceBEq, v5]) hp5 hl hsm (by omega) heq hev fun e' σ7 w4 => by simp -dsimp only [↓WPd, ↓wpC_block, ↓wpC_cond, WPu, Bool.false_eq_true, Bool.true_eq_false, Bool.not_true, Bool.not_false, if_true, if_false, ite_true, ite_false, Nat.reduceEqDiff, Nat.reduceLT, true_and, List.map_cons, List.map_nil, Nat.zero_add, Nat.reduceBEq, WPm, w4]
  ·have m1 : (((S.out : Nat) : Int) != 1) = true := by simp; omega
   rcases RL.out with h | h | h
   ·exact (ho h).elim
   ·have m2 : (((S.out : Nat) : Int) == 2) = true := by rw [h]; rfl
    have z0 : (((S.bd.length : Nat) : Int) == 0) = true := by rw [RL.fails h]; rfl
    simp -dsimp only [↓WPd, ↓wpC_block, ↓wpC_cond, WPu, Bool.false_eq_true, Bool.true_eq_false, Bool.not_true, Bool.not_false, if_true, if_false, ite_true, ite_false, Nat.reduceEqDiff, Nat.reduceLT, true_and, List.map_cons, List.map_nil, Nat.zero_add, Nat.reduceBEq, WPm, v1, v5, v7, faddr_ptr, Nat.zero_add, Nat.add_zero, load_cells o', d0, d1, m1, m2, lbd, z0]
   ·have m2 : (((S.out : Nat) : Int) == 2) = false := by rw [h]; rfl
    have m3 : (((S.out : Nat) : Int) == 3) = true := by rw [h]; rfl
    obtain ⟨w1, w2⟩ := RL.waits h
    have z0 : decide (((S.left.length : Nat) : Int) > 0) = true := by
     have := List.length_pos_iff.2 w1
     simp; omega
    have z1 : (((S.steps : Nat) : Int) == 2000) = true := by rw [w2]; rfl
    simp -dsimp only [↓WPd, ↓wpC_block, ↓wpC_cond, WPu, Bool.false_eq_true, Bool.true_eq_false, Bool.not_true, Bool.not_false, if_true, if_false, ite_true, ite_false, Nat.reduceEqDiff, Nat.reduceLT, true_and, List.map_cons, List.map_nil, Nat.zero_add, Nat.reduceBEq, WPm, v1, v5, v7, faddr_ptr, Nat.zero_add, Nat.add_zero, load_cells o', d0, d1, d2, d3, m1, m2, m3, llf, z0, z1]
def AR (σ : Store) (aid : Nat) (ls : List (List Cel)) : Prop := ∃ es, σ[aid]? = some (.arr 1 es 0 0) ∧ Two Told es ls
theorem AR.grow {σ σ' : Store} {aid : Nat} {ls : List (List Cel)} (h : AR σ aid ls) (g : Grows σ σ') : AR σ' aid ls := by
 obtain ⟨es, h1, h2⟩ := h; exact ⟨es, g.get h1, h2⟩
theorem AR.terms {σ : Store} {aid : Nat} {ls : List (List Cel)} (h : AR σ aid ls) {N : Nat} (hN : ls.length = N) : Terms σ (.slice 1 aid 0 0 N (some N)) ls := by
 obtain ⟨es, h1, h2⟩ := h
 subst hN
 have ho : Own σ 1 (.slice 1 aid 0 0 ls.length (some ls.length)) es := ⟨.inr (.inr ⟨aid, 0, 0, some ls.length, es, 0, 0, by rw [h2.len], h1, Nat.le_refl _, by simp, fun _ => by simp, .inr (by rw [h2.len])⟩)⟩
 exact ⟨es, ho.sl, h2.mono fun e t h => h σ⟩
theorem AR.set {σ : Store} {aid : Nat} {ls : List (List Cel)} (h : AR σ aid ls) {j : Nat} (hj : j < ls.length) {u : AVal} {t : List Cel} (hu : Told u t) : ∃ σ', storeV σ 1 (.eptr aid 0 j 0) u = some σ' ∧ AR σ' aid (ls.set j t) ∧ Keeps (fun i => i = aid) σ σ' := by
 obtain ⟨es, h1, h2⟩ := h
 have hj' : j < es.length := by rw [h2.len]; exact hj
 obtain ⟨e, e1, e2⟩ := h2.get hj
 have hee : es[j] = e := by rw [List.getElem?_eq_getElem hj'] at e1; exact Option.some.inj e1
 have st := arr_store1 h1 hj' (hu σ).one (by rw [hee]; exact (e2 σ).one)
 exact ⟨_, st, ⟨_, get_set h1, Two.set h2 j hu⟩, Keeps.set _ _ _⟩
section
variable (d : Nat) (σ : Store)
end
end Go.Proofs.YtelpjaejmneplaaDoor.Am
namespace Go.Proofs.YtelpjaejmneplaaDoor.Am
open Go Go.RowKit Go.ChangeShapes Go.WideShapes Go.ChangeAt Go.Proofs.YtelpjaejmneplaaDoor.Rows
section
variable {H : Type}
end
theorem flat_sum (f : List Cel → Nat) (hf : ∀ x, x.length ≤ f x) : ∀ xs : List (List Cel), xs.flatten.length ≤ (xs.map f).sum
 | [] => by simp
 | x :: xs => by
  have ih := flat_sum f hf xs
  have := hf x
  simp only [List.flatten_cons, List.length_append, List.map_cons, List.sum_cons]
  omega
section
variable {H : Type}
theorem terms_rd2 {n : Nat} {d : DataW H} (h : Typed Tryd.prog (n + 5) 47 d) (hb : uptoBulk d ≤ 1048576) : ∃ ls : List (List Cel), TA (argV Tryd.prog (n + 5) 47 d) ls ∧ (∀ t ∈ ls, Small t ∧ t.length < 2 ^ 28) ∧ ls.length ≤ uptoBulk d ∧ ls.flatten.length ≤ uptoBulk d := by
 rcases slice_of Tryd.underlying47 h with rfl | ⟨ds, rest, rfl, hd, ha, hb2⟩
 ·exact ⟨[], ⟨[], fun σ => by rw [argV_nil Tryd.underlying47]; exact SlOf.nil σ 1, .nil⟩, (fun t ht => by cases ht), Nat.zero_le _, Nat.zero_le _⟩
 ·obtain ⟨xs, h1, h2, h3, h4⟩ := list_of (R := fun a (cs : List Cel) => Told a cs ∧ ∀ c ∈ cs, c.In) (size := fun cs : List Cel => max cs.length (cs.map fun c => c.s.length).sum) (fun d h => by
   obtain ⟨cs, a1, a2, a3, a4⟩ := term_at (n := n) h
   exact ⟨cs, ⟨a1, a2⟩, by omega⟩) ds hd
  have hget : ∀ (i : Nat) (cs : List Cel), xs[i]? = some cs → Told ((ds.map fun x => argV Tryd.prog (n + 4) 34 x)[i]?.getD .undef) cs ∧ ∀ c ∈ cs, c.In := fun i cs hi => by
   have hlt := (List.getElem?_eq_some_iff.1 hi).1
   have e1 : (ds.map fun x => argV Tryd.prog (n + 4) 34 x)[i]? = some (argV Tryd.prog (n + 4) 34 (ds[i]'(by omega))) := by simp [List.getElem?_eq_getElem (show i < ds.length by omega)]
   rw [e1]; exact h2 i _ _ e1 hi
  refine ⟨xs, ⟨_, fun σ => by rw [ha]; exact SlOf.fs _ _ _ _ _, Two.of_get (by rw [List.length_map]; exact h1.symm) fun i a b h5 h6 => ?_⟩, fun t ht => ?_, by omega, ?_⟩
  ·have := (hget i b h6).1; rw [h5] at this; exact this
  ·obtain ⟨i, hi⟩ := List.getElem?_of_mem ht
   have h7 := mem_sum (fun cs : List Cel => max cs.length (cs.map fun c => c.s.length).sum) ht
   have h8 := (hget i t hi).2
   exact ⟨⟨by omega, cells_in (b := 1048576) h8 (by omega) (by omega)⟩, by omega⟩
  ·have := flat_sum (fun cs : List Cel => max cs.length (cs.map fun c => c.s.length).sum) (fun x => Nat.le_max_left _ _) xs
   omega
end
end Go.Proofs.YtelpjaejmneplaaDoor.Am
