/-
  The abstract machine and the functions of the law, 5: texts put together.
-/
import Derived.Test.YtmocplkpnickgaaNetOwnPkD
/-
  Net: what is sent; what waits.
-/
namespace Go.Proofs.Ytmocplkpnickgaa.Am
open Go
set_option linter.unusedVariables false
set_option linter.unusedSimpArgs false
set_option linter.unusedSectionVars false
set_option maxRecDepth 100000

theorem Two.load5 {σ : Store} {F : Nat → Prop} {l : AVal} {es : List AVal} {ds : List Dg} (hl : SlOf σ 5 l es) (hr : Two (DgOk σ F) es ds) {k : Nat} (hk : k < ds.length) :
    ∃ u, iaddrV 5 l (.int .i64 k) = some (addrOf 5 l k) ∧ loadV σ 5 true (addrOf 5 l k) = some u ∧ DgOk σ F u ds[k] ∧ es[k]? = some u := by
  obtain ⟨u, u1, u2⟩ := hr.get hk
  have hi : k < es.length := by rw [hr.len]; exact hk
  have eu : es[k] = u := by rw [List.getElem?_eq_getElem hi] at u1; exact Option.some.inj u1
  obtain ⟨e, e1, e2, e3⟩ := cp u2
  exact ⟨u, hl.iaddr hi .i64, by have := hl.loadA hi (by rw [eu, e1]; rfl); rw [e1]; exact this, u2, u1⟩

section
variable (d : Nat) (σ : Store)

theorem netlen_ok {F : Nat → Prop} (id : Nat) (v : AVal) (c0 c1 c2 c3 n : Int) (es : List AVal) (ds : List Dg) (h : NetOk σ F id v c0 c1 c2 c3 n es ds) : Called CN.cfg d 45 [.ptr id 0] σ fun r σ' => r = .int .i64 ds.length ∧ σ' = σ := by
  refine called_of (fn := CN.a45) rfl (Nat.le_of_ble_eq_true rfl) ?_
  have ll := h.own.sl.len
  rw [h.rows.len] at ll
  simp only [CN.a45]
  simp -dsimp only [↓WPd, ↓wpC_block, ↓wpC_cond, WPu, Bool.false_eq_true, Bool.true_eq_false, Bool.not_true, Bool.not_false, if_true, if_false, ite_true, ite_false, Nat.reduceEqDiff, Nat.reduceLT, true_and, List.map_cons, List.map_nil, Nat.zero_add, Nat.reduceBEq, isnil_ptr, faddr_ptr, load_cells h.obj, List.getElem?_cons_zero, List.getElem?_cons_succ, ll, and_self]

/-- a row that was handed out: each of its datagrams has bytes of its own -/
structure DRow (σ : Store) (lo : Nat) (l : AVal) (us : List AVal) (ds : List Dg) : Prop where
  len : us.length = ds.length
  row : Own σ 5 l (List.zipWith Dg.val ds us)
  frl : Fresh lo l
  one : ∀ (i : Nat) (e : AVal) (p : Dg), us[i]? = some e → ds[i]? = some p → Own σ 1 e (B p.bs)
  frs : ∀ (i : Nat) (e : AVal), us[i]? = some e → Fresh lo e
  lit : ∀ (i : Nat) (e : AVal), us[i]? = some e → NoLit e
  apart : ∀ (i j : Nat) (e e' : AVal) (id : Nat), us[i]? = some e → us[j]? = some e' → e.sid = some id → e'.sid = some id → i = j

theorem DRow.nil (σ : Store) (lo : Nat) : DRow σ lo .nilslice [] [] := ⟨rfl, Own.nil _ _, Fresh.nil _, fun i e p h => by simp at h, fun i e h => by simp at h, fun i e h => by simp at h, fun i j e e' id h => by simp at h⟩
theorem DRow.grow {σ σ' : Store} {lo : Nat} {l : AVal} {us : List AVal} {ds : List Dg} (h : DRow σ lo l us ds) (g : Grows σ σ') : DRow σ' lo l us ds :=
  ⟨h.len, h.row.grow g, h.frl, fun i e p h1 h2 => (h.one i e p h1 h2).grow g, h.frs, h.lit, h.apart⟩
theorem DRow.lt {σ : Store} {lo : Nat} {l : AVal} {us : List AVal} {ds : List Dg} (h : DRow σ lo l us ds) {i : Nat} {e : AVal} (hi : us[i]? = some e) {j : Nat} (hj : e.sid = some j) : j < σ.length := by
  have hlt := (List.getElem?_eq_some_iff.1 hi).1
  exact (h.one i e (ds[i]'(by rw [← h.len]; exact hlt)) hi (List.getElem?_eq_getElem _)).sl.lt hj
theorem DRow.two {σ : Store} {lo : Nat} {l : AVal} {us : List AVal} {ds : List Dg} (h : DRow σ lo l us ds) : Two (DgOwn σ (fun j => lo ≤ j)) (List.zipWith Dg.val ds us) ds := by
  have hl := h.len
  refine Two.of_get (by simp [hl]) fun i a b ha hb => ?_
  have hi := (List.getElem?_eq_some_iff.1 hb).1
  have hu : us[i]? = some (us[i]'(by omega)) := List.getElem?_eq_getElem _
  rw [List.getElem?_zipWith, hb, hu] at ha
  simp only [Option.some.injEq] at ha
  subst ha
  exact ⟨_, rfl, h.one i _ b hu hb, fun j hj => h.frs i _ hu j hj⟩
theorem snoc_get {α : Type} {es : List α} {e x : α} {i : Nat} (hx : (es ++ [e])[i]? = some x) : (es[i]? = some x ∧ i < es.length) ∨ (i = es.length ∧ x = e) := by
  rw [List.getElem?_append] at hx
  split at hx
  · rename_i hlt; exact .inl ⟨hx, hlt⟩
  · rename_i hlt
    rw [List.getElem?_singleton] at hx
    split at hx
    · injection hx with hx; exact .inr ⟨by omega, hx.symm⟩
    · cases hx
theorem DRow.push {σ σ1 : Store} {lo : Nat} {l : AVal} {us : List AVal} {ds : List Dg} (h : DRow σ lo l us ds) (hlo : lo ≤ σ.length) (g : Grows σ σ1) {e : AVal} {p : Dg} (he : Own σ1 1 e (B p.bs)) (fe : Fresh σ.length e) (le : NoLit e)
    (hb : (ds.length + 1) * 56 ≤ 70368744177664) :
    ∃ l' σ2, appendV σ1 5 56 l [p.val e] = some (l', σ2) ∧ DRow σ2 lo l' (us ++ [e]) (ds ++ [p]) ∧ Keeps (fun i => lo ≤ i) σ1 σ2 := by
  have hl := h.len
  obtain ⟨l', σ2, h1, h2, h3, h4, h5⟩ := (h.row.grow g).append [p.val e] 56 (by simp [hl]; omega)
  have ez : List.zipWith Dg.val ds us ++ [p.val e] = List.zipWith Dg.val (ds ++ [p]) (us ++ [e]) := by
    rw [List.zipWith_append (by omega)]; rfl
  rw [ez] at h2
  have off : ∀ (u : AVal) (q : List AVal), Own σ1 1 u q → ∀ j, u.sid = some j → ¬ l.sid = some j := fun u q hu j hj hl' => (h.row.grow g).sizes hu (by decide) hl' hj
  refine ⟨l', σ2, h1, ⟨by simp [hl], h2, fun j hj => ?_, fun i x q hx hq => ?_, fun i x hx => ?_, fun i x hx => ?_, fun i j x y id hx hy hxi hyi => ?_⟩, h3.mono fun i hi hs => h.frl i hs⟩
  · rcases h4 j hj with hh | hh
    · exact h.frl j hh
    · have := g.1; omega
  · rcases snoc_get hx with ⟨hx, hlt⟩ | ⟨rfl, rfl⟩
    · rw [List.getElem?_append_left (by omega)] at hq
      have := (h.one i x q hx hq).grow g
      exact this.keeps h3 (off _ _ this)
    · rw [hl, List.getElem?_append_right (Nat.le_refl _), Nat.sub_self] at hq
      simp at hq; subst hq
      exact he.keeps h3 (off _ _ he)
  · rcases snoc_get hx with ⟨hx, hlt⟩ | ⟨rfl, rfl⟩
    · exact h.frs i x hx
    · exact fe.le hlo
  · rcases snoc_get hx with ⟨hx, hlt⟩ | ⟨rfl, rfl⟩
    · exact h.lit i x hx
    · exact le
  · rcases snoc_get hx with ⟨hx', hil⟩ | ⟨hi, hxe⟩ <;> rcases snoc_get hy with ⟨hy', hjl⟩ | ⟨hj, hye⟩
    · exact h.apart i j x y id hx' hy' hxi hyi
    · rw [hye] at hyi; have := h.lt hx' hxi; have := fe id hyi; omega
    · rw [hxe] at hxi; have := h.lt hy' hyi; have := fe id hxi; omega
    · omega

theorem one_lit (p : Dg) (e : AVal) (he : e.one = true) : fillL 5 true (List.replicate 1 (zel [AVal.int .i64 0, .int .i64 0, .bool false, .int .i64 0, .nilslice] true)) [(0, p.val e)] = some [p.val e] := by
  have := all5 he p.f p.t p.s p.ack
  simp [Dg.val, zel] at this ⊢
  exact this

theorem waiting_ok {F : Nat → Prop} (id : Nat) (v : AVal) (c0 c1 c2 c3 n : Int) (es : List AVal) (ds : List Dg) (h : NetOk σ F id v c0 c1 c2 c3 n es ds) (hl : ds.length < 2 ^ 40) (hs : ∀ p ∈ ds, p.bs.length < 2 ^ 40) :
    Called CN.cfg d 47 [.ptr id 0] σ fun r σ' => ∃ us, DRow σ' σ.length r us ds ∧ Grows σ σ' := by
  refine called_of (fn := CN.a47) rfl (Nat.le_of_ble_eq_true rfl) ?_
  have ll := h.own.sl.len
  rw [h.rows.len] at ll
  simp only [CN.a47]
  simp -dsimp only [↓WPd, ↓wpC_block, ↓wpC_cond, WPu, Bool.false_eq_true, Bool.true_eq_false, Bool.not_true, Bool.not_false, if_true, if_false, ite_true, ite_false, Nat.reduceEqDiff, Nat.reduceLT, true_and, List.map_cons, List.map_nil, Nat.zero_add, Nat.reduceBEq, isnil_ptr, faddr_ptr, load_cells h.obj, List.getElem?_cons_zero, List.getElem?_cons_succ, ll]
  refine loop_rule (fun m vs σ' => ∃ (k : Nat) (l : AVal) (us : List AVal), k ≤ ds.length ∧ m = ds.length - k ∧ Grows σ σ' ∧ DRow σ' σ.length l us (ds.take k) ∧ vs = [l, v, .int .i64 ds.length, .int .i64 k]) ds.length ⟨0, .nilslice, [], Nat.zero_le _, rfl, Keeps.refl _ _, DRow.nil _ _, ?_⟩ ?_
  · simp -dsimp only [↓WPd, ↓wpC_block, ↓wpC_cond, WPu, Bool.false_eq_true, Bool.true_eq_false, Bool.not_true, Bool.not_false, if_true, if_false, ite_true, ite_false, Nat.reduceEqDiff, Nat.reduceLT, true_and, List.map_cons, List.map_nil, Nat.zero_add, Nat.reduceBEq]; rfl
  · rintro m vs σ1 ⟨k, l, us, hk, rfl, g, hr, rfl⟩
    simp -dsimp only [↓WPd, ↓wpC_block, ↓wpC_cond, WPu, Bool.false_eq_true, Bool.true_eq_false, Bool.not_true, Bool.not_false, if_true, if_false, ite_true, ite_false, Nat.reduceEqDiff, Nat.reduceLT, true_and, List.map_cons, List.map_nil, Nat.zero_add, Nat.reduceBEq]
    refine condP_dec (fun hc => ?_) (fun hc => ?_)
    · have hk' : k < ds.length := by omega
      obtain ⟨u, a1, a2, a3, a4⟩ := Two.load5 (h.own.sl.grow g) ((h.rows.mono fun _ _ h => h.ok).mono fun _ _ h => h.grow g) hk'
      obtain ⟨e, e1, e2, e3⟩ := cp a3
      simp -dsimp only [↓WPd, ↓wpC_block, ↓wpC_cond, WPu, Bool.false_eq_true, Bool.true_eq_false, Bool.not_true, Bool.not_false, if_true, if_false, ite_true, ite_false, Nat.reduceEqDiff, Nat.reduceLT, true_and, List.map_cons, List.map_nil, Nat.zero_add, Nat.reduceBEq, a1, a2]
      subst e1
      have st := new_store (σ := σ1) (n := 5) (zs := [.int .i64 0, .int .i64 0, .bool false, .int .i64 0, .nilslice]) rfl (cs := [.int .i64 ds[k].f, .int .i64 ds[k].t, .bool ds[k].ack, .int .i64 ds[k].s, e]) rfl (all5 e2.one _ _ _ _)
      have g2 : Grows σ1 (σ1 ++ [.cells [.int .i64 ds[k].f, .int .i64 ds[k].t, .bool ds[k].ack, .int .i64 ds[k].s, e]]) := Grows.app _ _
      have ld := new_load (σ := σ1) (n := 5) (cs := [.int .i64 ds[k].f, .int .i64 ds[k].t, .bool ds[k].ack, .int .i64 ds[k].s, e]) rfl
      simp -dsimp only [↓WPd, ↓wpC_block, ↓wpC_cond, WPu, Bool.false_eq_true, Bool.true_eq_false, Bool.not_true, Bool.not_false, if_true, if_false, ite_true, ite_false, Nat.reduceEqDiff, Nat.reduceLT, true_and, List.map_cons, List.map_nil, Nat.zero_add, Nat.reduceBEq, Dg.val, st, ld]
      refine calledW_of (copied_ok d _ (ds[k].val e) ds[k] (F := F) ⟨e, rfl, e2.grow g2, e3⟩ (hs _ (List.getElem_mem hk'))) ?_
      rintro r σ2 ⟨e', rfl, o1, f1, n1, g3⟩
      have l2 := g2.1
      obtain ⟨l', σ3, p1, p2, p3⟩ := hr.push g.1 (g2.trans g3) o1 (f1.le l2) n1 (by simp; omega)
      simp -dsimp only [↓WPd, ↓wpC_block, ↓wpC_cond, WPu, Bool.false_eq_true, Bool.true_eq_false, Bool.not_true, Bool.not_false, if_true, if_false, ite_true, ite_false, Nat.reduceEqDiff, Nat.reduceLT, true_and, List.map_cons, List.map_nil, Nat.zero_add, Nat.reduceBEq, one_lit ds[k] e' o1.one, elems_fs, p1]
      refine ⟨ds.length - (k + 1), by omega, k + 1, l', us ++ [e'], by omega, rfl, ?_, ?_, ?_⟩
      · exact Keeps.trans (g.trans (g2.trans g3)) p3 fun i hi e => by omega
      · rw [List.take_add_one, List.getElem?_eq_getElem hk']; exact p2
      · rw [wrap_i64 (by omega) (by omega), Int.natCast_add, Int.natCast_one]
    · simp -dsimp only [↓WPd, ↓wpC_block, ↓wpC_cond, WPu, Bool.false_eq_true, Bool.true_eq_false, Bool.not_true, Bool.not_false, if_true, if_false, ite_true, ite_false, Nat.reduceEqDiff, Nat.reduceLT, true_and, List.map_cons, List.map_nil, Nat.zero_add, Nat.reduceBEq]
      have : k = ds.length := by omega
      subst this
      rw [List.take_length] at hr
      exact ⟨us, hr, g⟩

theorem sendE_drop {n : Int} {ds : List Dg} {k : Nat} (hk : k < ds.length) : sendE n (ds.drop k) = if wrongD n ds[k] = 0 then sendE n (ds.drop (k + 1)) else wrongD n ds[k] := by
  rw [List.drop_eq_getElem_cons hk]; rfl

set_option maxHeartbeats 2000000 in
theorem send_ok {F G : Nat → Prop} (id : Nat) (v : AVal) (c0 c1 c2 c3 n : Int) (es : List AVal) (ds : List Dg) (h : NetOk σ F id v c0 c1 c2 c3 n es ds) (l : AVal) (fs : List AVal) (xs : List Dg) (hl : SlOf σ 5 l fs) (hx : Two (DgOk σ G) fs xs) (hG : ∀ j, G j → j ≠ id ∧ v.sid ≠ some j)
    (hG2 : ∀ j, l.sid = some j → j ≠ id ∧ v.sid ≠ some j) (hn : ds.length + xs.length < 2 ^ 40) (hs : ∀ p ∈ xs, p.bs.length < 2 ^ 40) :
    Called CN.cfg d 44 [.ptr id 0, l] σ fun r σ' => r = .int .i64 (sendE n xs) ∧
      if sendE n xs = 0 then Keeps (fun i => i = id ∨ v.sid = some i) σ σ' ∧ ∃ v' es', NetOk σ' (fun j => F j ∨ σ.length ≤ j) id v' (IntKind.i64.wrap (c0 + xs.length)) c1 c2 c3 n es' (ds ++ xs) ∧ ∀ j, v'.sid = some j → v.sid = some j ∨ σ.length ≤ j
      else Grows σ σ' := by
  refine called_of (fn := CN.a44) rfl (Nat.le_of_ble_eq_true rfl) ?_
  have ll := hl.len
  rw [hx.len] at ll
  simp only [CN.a44]
  simp -dsimp only [↓WPd, ↓wpC_block, ↓wpC_cond, WPu, Bool.false_eq_true, Bool.true_eq_false, Bool.not_true, Bool.not_false, if_true, if_false, ite_true, ite_false, Nat.reduceEqDiff, Nat.reduceLT, true_and, List.map_cons, List.map_nil, Nat.zero_add, Nat.reduceBEq, isnil_ptr, ll]
  refine loop_rule2 (fun m vs σ' => ∃ k : Nat, k ≤ xs.length ∧ m = xs.length - k ∧ Grows σ σ' ∧ sendE n xs = sendE n (xs.drop k) ∧ vs = [.ptr id 0, l, l, .int .i64 xs.length, .int .i64 k])
    [0, 1, 4] (fun x vs σ' => Grows σ σ' ∧ ((x = .exit 0 ∧ sendE n xs = 0 ∧ ∃ y, vs = [.ptr id 0, l, y]) ∨ (x = .ret ∧ sendE n xs ≠ 0 ∧ ∃ a b, vs = [a, b, .int .i64 (sendE n xs)]))) xs.length
    ⟨0, Nat.zero_le _, rfl, Keeps.refl _ _, rfl, ?_⟩ ?_ ?_
  · simp -dsimp only [↓WPd, ↓wpC_block, ↓wpC_cond, WPu, Bool.false_eq_true, Bool.true_eq_false, Bool.not_true, Bool.not_false, if_true, if_false, ite_true, ite_false, Nat.reduceEqDiff, Nat.reduceLT, true_and, List.map_cons, List.map_nil, Nat.zero_add, Nat.reduceBEq]; rfl
  · rintro m vs σ1 ⟨k, hk, rfl, g, he, rfl⟩
    simp -dsimp only [↓WPd, ↓wpC_block, ↓wpC_cond, WPu, Bool.false_eq_true, Bool.true_eq_false, Bool.not_true, Bool.not_false, if_true, if_false, ite_true, ite_false, Nat.reduceEqDiff, Nat.reduceLT, true_and, List.map_cons, List.map_nil, Nat.zero_add, Nat.reduceBEq]
    refine condP_dec (fun hc => ?_) (fun hc => ?_)
    · have hk' : k < xs.length := by omega
      obtain ⟨u, a1, a2, a3, a4⟩ := Two.load5 (hl.grow g) (hx.mono fun _ _ h => h.grow g) hk'
      obtain ⟨e, e1, e2, e3⟩ := cp a3
      rw [sendE_drop hk'] at he
      simp -dsimp only [↓WPd, ↓wpC_block, ↓wpC_cond, WPu, Bool.false_eq_true, Bool.true_eq_false, Bool.not_true, Bool.not_false, if_true, if_false, ite_true, ite_false, Nat.reduceEqDiff, Nat.reduceLT, true_and, List.map_cons, List.map_nil, Nat.zero_add, Nat.reduceBEq, a1, a2]
      subst e1
      have st := new_store (σ := σ1) (n := 5) (zs := [.int .i64 0, .int .i64 0, .bool false, .int .i64 0, .nilslice]) rfl (cs := [.int .i64 xs[k].f, .int .i64 xs[k].t, .bool xs[k].ack, .int .i64 xs[k].s, e]) rfl (all5 e2.one _ _ _ _)
      have g2 : Grows σ1 (σ1 ++ [.cells [.int .i64 xs[k].f, .int .i64 xs[k].t, .bool xs[k].ack, .int .i64 xs[k].s, e]]) := Grows.app _ _
      have ld := new_load (σ := σ1) (n := 5) (cs := [.int .i64 xs[k].f, .int .i64 xs[k].t, .bool xs[k].ack, .int .i64 xs[k].s, e]) rfl
      simp -dsimp only [↓WPd, ↓wpC_block, ↓wpC_cond, WPu, Bool.false_eq_true, Bool.true_eq_false, Bool.not_true, Bool.not_false, if_true, if_false, ite_true, ite_false, Nat.reduceEqDiff, Nat.reduceLT, true_and, List.map_cons, List.map_nil, Nat.zero_add, Nat.reduceBEq, Dg.val, st, ld]
      refine calledW_of (look_ok d _ id _ _ _ _ v n ((g.trans g2).get h.obj) (xs[k].val e) xs[k] (F := G) ⟨e, rfl, e2.grow g2, e3⟩) ?_
      rintro r σ2 ⟨rfl, g3⟩
      by_cases hw : wrongD n xs[k] = 0
      · rw [if_pos hw] at he
        have cw : (wrongD n xs[k] != 0) = false := by simp [hw]
        simp -dsimp only [↓WPd, ↓wpC_block, ↓wpC_cond, WPu, Bool.false_eq_true, Bool.true_eq_false, Bool.not_true, Bool.not_false, if_true, if_false, ite_true, ite_false, Nat.reduceEqDiff, Nat.reduceLT, true_and, List.map_cons, List.map_nil, Nat.zero_add, Nat.reduceBEq, cw]
        refine ⟨xs.length - (k + 1), by omega, k + 1, by omega, rfl, g.trans (g2.trans g3), he, ?_⟩
        rw [wrap_i64 (by omega) (by omega), Int.natCast_add, Int.natCast_one]
      · rw [if_neg hw] at he
        have cw : (wrongD n xs[k] != 0) = true := by simp [hw]
        simp -dsimp only [↓WPd, ↓wpC_block, ↓wpC_cond, WPu, Bool.false_eq_true, Bool.true_eq_false, Bool.not_true, Bool.not_false, if_true, if_false, ite_true, ite_false, Nat.reduceEqDiff, Nat.reduceLT, true_and, List.map_cons, List.map_nil, Nat.zero_add, Nat.reduceBEq, cw]
        exact ⟨g.trans (g2.trans g3), .inr ⟨by rw [he]; exact hw, by simp [he]⟩⟩
    · simp -dsimp only [↓WPd, ↓wpC_block, ↓wpC_cond, WPu, Bool.false_eq_true, Bool.true_eq_false, Bool.not_true, Bool.not_false, if_true, if_false, ite_true, ite_false, Nat.reduceEqDiff, Nat.reduceLT, true_and, List.map_cons, List.map_nil, Nat.zero_add, Nat.reduceBEq]
      have : k = xs.length := by omega
      subst this
      rw [List.drop_length] at he
      exact ⟨g, .inl ⟨he, _, rfl⟩⟩
  · rintro x σ1 env ⟨g, h1⟩
    rcases h1 with ⟨rfl, h0, y, hv⟩ | ⟨rfl, h0, a, b, hv⟩
    · simp only [List.map_cons, List.map_nil, List.cons.injEq, and_true] at hv
      obtain ⟨v0, v1, -⟩ := hv
      simp -dsimp only [↓WPd, ↓wpC_block, ↓wpC_cond, WPu, Bool.false_eq_true, Bool.true_eq_false, Bool.not_true, Bool.not_false, if_true, if_false, ite_true, ite_false, Nat.reduceEqDiff, Nat.reduceLT, true_and, List.map_cons, List.map_nil, Nat.zero_add, Nat.reduceBEq, v0, v1, ll]
      refine loop_rule2 (fun m vs σ' => ∃ (k : Nat) (v' : AVal) (es' : List AVal), k ≤ xs.length ∧ m = xs.length - k ∧ Keeps (fun i => i = id ∨ v.sid = some i) σ σ' ∧ NetOk σ' (fun j => F j ∨ σ.length ≤ j) id v' c0 c1 c2 c3 n es' (ds ++ xs.take k) ∧
          (∀ j, v'.sid = some j → v.sid = some j ∨ σ.length ≤ j) ∧ vs = [.ptr id 0, l, l, .int .i64 xs.length, .int .i64 k])
        [0, 1] (fun x vs σ' => x = .exit 2 ∧ vs = [.ptr id 0, l] ∧ Keeps (fun i => i = id ∨ v.sid = some i) σ σ' ∧ ∃ v' es', NetOk σ' (fun j => F j ∨ σ.length ≤ j) id v' c0 c1 c2 c3 n es' (ds ++ xs) ∧ (∀ j, v'.sid = some j → v.sid = some j ∨ σ.length ≤ j)) xs.length
        ⟨0, v, es, Nat.zero_le _, rfl, Grows.any g, by simpa using (h.grow g).mono fun j h => .inl h, fun j hj => .inl hj, ?_⟩ ?_ ?_
      · simp -dsimp only [↓WPd, ↓wpC_block, ↓wpC_cond, WPu, Bool.false_eq_true, Bool.true_eq_false, Bool.not_true, Bool.not_false, if_true, if_false, ite_true, ite_false, Nat.reduceEqDiff, Nat.reduceLT, true_and, List.map_cons, List.map_nil, Nat.zero_add, Nat.reduceBEq, v0, v1]; rfl
      · rintro m vs σ2 ⟨k, v', es', hk, rfl, kk, hN, hv', rfl⟩
        simp -dsimp only [↓WPd, ↓wpC_block, ↓wpC_cond, WPu, Bool.false_eq_true, Bool.true_eq_false, Bool.not_true, Bool.not_false, if_true, if_false, ite_true, ite_false, Nat.reduceEqDiff, Nat.reduceLT, true_and, List.map_cons, List.map_nil, Nat.zero_add, Nat.reduceBEq]
        refine condP_dec (fun hc => ?_) (fun hc => ?_)
        · have hk' : k < xs.length := by omega
          have nG : ∀ j, G j → ¬ (j = id ∨ v.sid = some j) := fun j hj h => by
            rcases h with h | h
            · exact (hG j hj).1 h
            · exact (hG j hj).2 h
          have nL : ∀ j, l.sid = some j → ¬ (j = id ∨ v.sid = some j) := fun j hj h => by
            rcases h with h | h
            · exact (hG2 j hj).1 h
            · exact (hG2 j hj).2 h
          obtain ⟨u, a1, a2, a3, a4⟩ := Two.load5 (hl.keeps kk nL) (hx.mono fun _ _ h => h.keeps kk nG) hk'
          obtain ⟨e, e1, e2, e3⟩ := cp a3
          simp -dsimp only [↓WPd, ↓wpC_block, ↓wpC_cond, WPu, Bool.false_eq_true, Bool.true_eq_false, Bool.not_true, Bool.not_false, if_true, if_false, ite_true, ite_false, Nat.reduceEqDiff, Nat.reduceLT, true_and, List.map_cons, List.map_nil, Nat.zero_add, Nat.reduceBEq, a1, a2]
          subst e1
          have st := new_store (σ := σ2) (n := 5) (zs := [.int .i64 0, .int .i64 0, .bool false, .int .i64 0, .nilslice]) rfl (cs := [.int .i64 xs[k].f, .int .i64 xs[k].t, .bool xs[k].ack, .int .i64 xs[k].s, e]) rfl (all5 e2.one _ _ _ _)
          have g2 : Grows σ2 (σ2 ++ [.cells [.int .i64 xs[k].f, .int .i64 xs[k].t, .bool xs[k].ack, .int .i64 xs[k].s, e]]) := Grows.app _ _
          have ld := new_load (σ := σ2) (n := 5) (cs := [.int .i64 xs[k].f, .int .i64 xs[k].t, .bool xs[k].ack, .int .i64 xs[k].s, e]) rfl
          have N2 := hN.grow g2
          simp -dsimp only [↓WPd, ↓wpC_block, ↓wpC_cond, WPu, Bool.false_eq_true, Bool.true_eq_false, Bool.not_true, Bool.not_false, if_true, if_false, ite_true, ite_false, Nat.reduceEqDiff, Nat.reduceLT, true_and, List.map_cons, List.map_nil, Nat.zero_add, Nat.reduceBEq, Dg.val, st]
          refine drawnP_of rfl ?_
          have nc : isNil .p (.ptr id 0) = some false := rfl
          simp -dsimp only [↓WPd, ↓wpC_block, ↓wpC_cond, WPu, Bool.false_eq_true, Bool.true_eq_false, Bool.not_true, Bool.not_false, if_true, if_false, ite_true, ite_false, Nat.reduceEqDiff, Nat.reduceLT, true_and, List.map_cons, List.map_nil, Nat.zero_add, Nat.reduceBEq, ↓WPed, WPeu, Nat.reduceAdd, and_self, faddr_ptr, load_cells N2.obj, List.getElem?_cons_zero, List.getElem?_cons_succ, ld]
          refine calledW_of (copied_ok d _ (xs[k].val e) xs[k] (F := G) ⟨e, rfl, e2.grow g2, e3⟩ (hs _ (List.getElem_mem hk'))) ?_
          rintro r σ3 ⟨e', rfl, o1, f1, n1, g3⟩
          have N3 := N2.grow g3
          have l12 := kk.1
          have l23 := g2.1
          have lr := hN.rows.len
          simp only [List.length_append, List.length_take] at lr
          obtain ⟨w, σ4, p1, p2, p3, p4, _⟩ := N3.own.append [xs[k].val e'] 56 (by simp; omega)
          have o4 := p3.get N3.obj (N3.own.noCell N3.obj)
          have stw := store_cells o4 (off := 5) (by simp) (v := w) p2.one
          simp only [List.set_cons_zero, List.set_cons_succ] at stw
          have o5 := get_set (o' := .cells [.int .i64 c0, .int .i64 c1, .int .i64 c2, .int .i64 c3, .int .i64 n, w]) o4
          simp -dsimp only [↓WPd, ↓wpC_block, ↓wpC_cond, WPu, Bool.false_eq_true, Bool.true_eq_false, Bool.not_true, Bool.not_false, if_true, if_false, ite_true, ite_false, Nat.reduceEqDiff, Nat.reduceLT, true_and, List.map_cons, List.map_nil, Nat.zero_add, Nat.reduceBEq, ↓WPed, WPeu, Nat.reduceAdd, and_self, faddr_ptr, load_cells N2.obj, load_cells N3.obj, List.getElem?_cons_zero, List.getElem?_cons_succ, ld, one_lit xs[k] e' o1.one, elems_fs, p1, stw]
          have r4 : Two (DgOwn σ4 (fun j => F j ∨ σ.length ≤ j)) (es' ++ [xs[k].val e']) (ds ++ xs.take k ++ [xs[k]]) := by
            refine Two.push (N3.rows.mono fun _ _ h => ?_) ?_
            · obtain ⟨b, b1, b2, b3⟩ := h
              exact ⟨b, b1, b2.keeps p3 fun j hj hm => N3.own.sizes b2 (by decide) hm hj, b3⟩
            · exact ⟨e', rfl, o1.keeps p3 fun j hj hm => N3.own.sizes o1 (by decide) hm hj, fun j hj => .inr (by have := f1 j hj; omega)⟩
          have k5 := Keeps.set σ4 id (.cells [.int .i64 c0, .int .i64 c1, .int .i64 c2, .int .i64 c3, .int .i64 n, w])
          refine ⟨xs.length - (k + 1), by omega, k + 1, w, es' ++ [xs[k].val e'], by omega, rfl, ?_, ⟨o5, ?_, ?_⟩, fun j hj => ?_, ?_⟩
          · refine Keeps.trans (Keeps.trans (Keeps.trans kk (g2.trans g3) fun _ _ h => h.elim) p3 fun i hi hm => ?_) k5 fun i hi hm => .inl hm
            rcases hv' i hm with h | h
            · exact .inr h
            · omega
          · exact p2.keeps k5 fun j hj hm => p2.noCell o4 (by rw [← hm]; exact hj)
          · rw [List.take_add_one, List.getElem?_eq_getElem hk', Option.toList_some, ← List.append_assoc]
            refine r4.mono fun _ _ h => ?_
            obtain ⟨b, b1, b2, b3⟩ := h
            exact ⟨b, b1, b2.keeps k5 fun j hj hm => b2.noCell o4 (by rw [← hm]; exact hj), b3⟩
          · rcases p4 j hj with h | h
            · exact hv' j h
            · have := g3.1; exact .inr (by omega)
          · rw [wrap_i64 (by omega) (by omega), Int.natCast_add, Int.natCast_one]
        · simp -dsimp only [↓WPd, ↓wpC_block, ↓wpC_cond, WPu, Bool.false_eq_true, Bool.true_eq_false, Bool.not_true, Bool.not_false, if_true, if_false, ite_true, ite_false, Nat.reduceEqDiff, Nat.reduceLT, true_and, List.map_cons, List.map_nil, Nat.zero_add, Nat.reduceBEq]
          have : k = xs.length := by omega
          subst this
          rw [List.take_length] at hN
          exact ⟨kk, v', es', hN, hv'⟩
      · rintro x σ2 env2 ⟨rfl, hv2, kk, v', es', hN, hv'⟩
        simp only [List.map_cons, List.map_nil, List.cons.injEq, and_true] at hv2
        obtain ⟨w0, w1⟩ := hv2
        have stw := store_cells hN.obj (off := 0) (by simp) (v := .int .i64 (IntKind.i64.wrap (c0 + xs.length))) rfl
        simp only [List.set_cons_zero, List.set_cons_succ] at stw
        simp -dsimp only [↓WPd, ↓wpC_block, ↓wpC_cond, WPu, Bool.false_eq_true, Bool.true_eq_false, Bool.not_true, Bool.not_false, if_true, if_false, ite_true, ite_false, Nat.reduceEqDiff, Nat.reduceLT, true_and, List.map_cons, List.map_nil, Nat.zero_add, Nat.reduceBEq, w0, w1, faddr_ptr, load_cells hN.obj, List.getElem?_cons_zero, List.getElem?_cons_succ, ll, stw]
        rw [h0, if_pos rfl]
        have k5 := Keeps.set σ2 id (.cells [.int .i64 (IntKind.i64.wrap (c0 + xs.length)), .int .i64 c1, .int .i64 c2, .int .i64 c3, .int .i64 n, v'])
        refine ⟨rfl, Keeps.trans kk k5 fun i hi hm => .inl hm, v', es', ⟨get_set hN.obj, ?_, ?_⟩, hv'⟩
        · exact hN.own.keeps k5 fun j hj hm => hN.own.noCell hN.obj (by rw [← hm]; exact hj)
        · refine hN.rows.mono fun _ _ h => ?_
          obtain ⟨b, b1, b2, b3⟩ := h
          exact ⟨b, b1, b2.keeps k5 fun j hj hm => b2.noCell hN.obj (by rw [← hm]; exact hj), b3⟩
    · simp only [List.map_cons, List.map_nil, List.cons.injEq, and_true] at hv
      obtain ⟨-, -, v4⟩ := hv
      simp -dsimp only [↓WPd, ↓wpC_block, ↓wpC_cond, WPu, Bool.false_eq_true, Bool.true_eq_false, Bool.not_true, Bool.not_false, if_true, if_false, ite_true, ite_false, Nat.reduceEqDiff, Nat.reduceLT, true_and, List.map_cons, List.map_nil, Nat.zero_add, Nat.reduceBEq, v4]
      rw [if_neg h0]
      exact g
end
end Go.Proofs.Ytmocplkpnickgaa.Am

/-
  Net: what is taken out; what is doubled.
-/
namespace Go.Proofs.Ytmocplkpnickgaa.Am
open Go
set_option linter.unusedVariables false
set_option linter.unusedSimpArgs false
set_option linter.unusedSectionVars false
set_option maxRecDepth 100000

/-- an array that is being filled -/
def Filled (σ : Store) (id : Nat) (w : AVal) (done : List AVal) (total : Nat) (z : AVal) : Prop :=
  done.length ≤ total ∧ ((total = 0 ∧ w = .nilslice) ∨ (0 < total ∧ w = .slice 5 id 0 0 done.length none ∧ σ[id]? = some (.arr 5 (done ++ List.replicate (total - done.length) z) 0 0)))
theorem Filled.own {σ : Store} {id : Nat} {w : AVal} {done : List AVal} {total : Nat} {z : AVal} (h : Filled σ id w done total z) (hl : done.length = total) : Own σ 5 w done ∧ NoLit w ∧ ∀ j, w.sid = some j → j = id := by
  obtain ⟨h0, ⟨h1, rfl⟩ | ⟨h1, rfl, h3⟩⟩ := h
  · have : done = [] := List.eq_nil_of_length_eq_zero (by omega)
    subst this
    exact ⟨Own.nil _ _, trivial, fun j h => by cases h⟩
  · rw [hl, Nat.sub_self, List.replicate_zero, List.append_nil] at h3
    exact ⟨by have := Own.whole (ep := 0) h3 (Nat.le_refl _); rw [hl] at this ⊢; exact this, trivial, fun j h => by injection h with h; exact h.symm⟩
theorem Filled.append {σ : Store} {id : Nat} {w : AVal} {done : List AVal} {total : Nat} {z : AVal} (h : Filled σ id w done total z) {ys : List AVal} (hy : done.length + ys.length ≤ total) (ht : total * 56 ≤ 70368744177664) :
    ∃ w' σ', appendV σ 5 56 w ys = some (w', σ') ∧ Filled σ' id w' (done ++ ys) total z ∧ Keeps (fun j => j = id) σ σ' := by
  cases ys with
  | nil =>
    refine ⟨w, σ, ?_, by simpa using h, Keeps.refl _ _⟩
    obtain ⟨h0, ⟨h1, rfl⟩ | ⟨h1, rfl, h3⟩⟩ := h <;> simp
  | cons y ys =>
    obtain ⟨h0, ⟨h1, rfl⟩ | ⟨h1, rfl, h3⟩⟩ := h
    · simp at hy; omega
    · refine ⟨.slice 5 id 0 0 (done.length + (y :: ys).length) none, σ.set id (.arr 5 ((done ++ List.replicate (total - done.length) z).take (0 + done.length) ++ y :: ys ++ (done ++ List.replicate (total - done.length) z).drop (0 + done.length + (y :: ys).length)) 0 0), ?_, ⟨by simpa using hy, .inr ⟨h1, by simp, ?_⟩⟩, Keeps.set _ _ _⟩
      · have e1 : ¬ (Option.none.getD ((done ++ List.replicate (total - done.length) z).length - 0)) < done.length + (y :: ys).length := by simp at hy ⊢; omega
        have e2 : (done.length + (y :: ys).length) * 56 ≤ apLim := by have : apLim = 70368744177664 := rfl; omega
        simp only [appendV, growV, List.isEmpty_cons, Bool.false_eq_true, if_false, h3, e2, Nat.le_refl, and_self, if_true, if_neg e1]
      · rw [List.getElem?_set_self (List.getElem?_eq_some_iff.1 h3).1]
        have e3 : total - done.length - (done.length + (y :: ys).length - done.length) = total - (done ++ y :: ys).length := by rw [List.length_append]; omega
        rw [Nat.zero_add, List.take_left, List.drop_append, List.drop_of_length_le (by omega), List.nil_append, List.drop_replicate, e3]

def zD : AVal := .agg [.int .i64 0, .int .i64 0, .bool false, .int .i64 0, .nilslice]

section
variable (d : Nat) (σ : Store)

theorem at_ok {F : Nat → Prop} (id : Nat) (v : AVal) (c0 c1 c2 c3 n : Int) (es : List AVal) (ds : List Dg) (h : NetOk σ F id v c0 c1 c2 c3 n es ds) (k : Int) :
    Called CN.cfg d 80 [.ptr id 0, .int .i64 k] σ fun r σ' => r = .int .i64 (if 0 ≤ k ∧ k < ds.length then 0 else 4) ∧ σ' = σ := by
  refine called_of (fn := CN.a80) rfl (Nat.le_of_ble_eq_true rfl) ?_
  have ll := h.own.sl.len
  rw [h.rows.len] at ll
  simp only [CN.a80]
  by_cases h1 : k < 0
  · rw [if_neg (by omega)]
    simp -dsimp only [↓WPd, ↓wpC_block, ↓wpC_cond, WPu, Bool.false_eq_true, Bool.true_eq_false, Bool.not_true, Bool.not_false, if_true, if_false, ite_true, ite_false, Nat.reduceEqDiff, Nat.reduceLT, true_and, List.map_cons, List.map_nil, Nat.zero_add, Nat.reduceBEq, isnil_ptr, decide_eq_true h1, and_self]
  · by_cases h2 : k < ds.length
    · have d2 : decide (k ≥ (ds.length : Int)) = false := decide_eq_false (by omega)
      rw [if_pos (by omega)]
      simp -dsimp only [↓WPd, ↓wpC_block, ↓wpC_cond, WPu, Bool.false_eq_true, Bool.true_eq_false, Bool.not_true, Bool.not_false, if_true, if_false, ite_true, ite_false, Nat.reduceEqDiff, Nat.reduceLT, true_and, List.map_cons, List.map_nil, Nat.zero_add, Nat.reduceBEq, isnil_ptr, decide_eq_false h1, faddr_ptr, load_cells h.obj, List.getElem?_cons_zero, List.getElem?_cons_succ, ll, d2, and_self]
    · have d2 : decide (k ≥ (ds.length : Int)) = true := decide_eq_true (by omega)
      rw [if_neg (by omega)]
      simp -dsimp only [↓WPd, ↓wpC_block, ↓wpC_cond, WPu, Bool.false_eq_true, Bool.true_eq_false, Bool.not_true, Bool.not_false, if_true, if_false, ite_true, ite_false, Nat.reduceEqDiff, Nat.reduceLT, true_and, List.map_cons, List.map_nil, Nat.zero_add, Nat.reduceBEq, isnil_ptr, decide_eq_false h1, faddr_ptr, load_cells h.obj, List.getElem?_cons_zero, List.getElem?_cons_succ, ll, d2, and_self]

theorem grow_ok (m : Nat) (hm : m < 2 ^ 40) : Called CN.cfg d 100 [.nilslice, .int .i64 m] σ fun r σ' => Filled σ' σ.length r [] m zD ∧ Grows σ σ' := by
  refine called_of (fn := CN.a100) rfl (Nat.le_of_ble_eq_true rfl) ?_
  simp only [CN.a100]
  have d0 : decide (((m : Nat) : Int) < 0) = false := by simp
  have e0 : capSV .nilslice = some 0 := rfl
  have e1 : lenSV .nilslice = some 0 := rfl
  have w0 : IntKind.i64.wrap (((0 : Nat) : Int) - ((0 : Nat) : Int)) = 0 := rfl
  have w1 : IntKind.i64.wrap (((m : Nat) : Int) - 0) = ((m : Nat) : Int) := by rw [wrap_i64 (by omega) (by omega)]; omega
  by_cases h : 0 < m
  · have d1 : decide (((m : Nat) : Int) > 0) = true := decide_eq_true (by omega)
    have s1 : sliceV 5 .nilslice none (some (.int .i64 ((0 : Nat) : Int))) none = some .nilslice := rfl
    have ap : appzV σ 5 56 [.int .i64 0, .int .i64 0, .bool false, .int .i64 0, .nilslice] true .nilslice (.int .i64 (m : Nat)) = some (.slice 5 σ.length 0 0 m none, σ ++ [.arr 5 (List.replicate m zD) 0 0]) := by
      have : (0 : Int) ≤ (m : Int) ∧ (m : Int) * ((56 : Nat) : Int) ≤ apLim := by
        have : (apLim : Int) = 70368744177664 := rfl
        omega
      simp only [appzV]
      rw [if_pos this, if_neg (by omega)]
      simp [zD, zel]
    have s2 : sliceV 5 (.slice 5 σ.length 0 0 m none) none (some (.int .i64 ((0 : Nat) : Int))) none = some (.slice 5 σ.length 0 0 0 none) := by
      simp [sliceV]
    simp -dsimp only [↓WPd, ↓wpC_block, ↓wpC_cond, WPu, Bool.false_eq_true, Bool.true_eq_false, Bool.not_true, Bool.not_false, if_true, if_false, ite_true, ite_false, Nat.reduceEqDiff, Nat.reduceLT, true_and, List.map_cons, List.map_nil, Nat.zero_add, Nat.reduceBEq, d0, e0, e1, w0, w1, d1, oev, s1, ap, s2]
    exact ⟨⟨Nat.zero_le _, .inr ⟨h, rfl, by simp⟩⟩, Grows.app _ _⟩
  · have : m = 0 := by omega
    subst this
    have d1 : decide (((0 : Nat) : Int) > 0) = false := rfl
    simp -dsimp only [↓WPd, ↓wpC_block, ↓wpC_cond, WPu, Bool.false_eq_true, Bool.true_eq_false, Bool.not_true, Bool.not_false, if_true, if_false, ite_true, ite_false, Nat.reduceEqDiff, Nat.reduceLT, true_and, List.map_cons, List.map_nil, Nat.zero_add, Nat.reduceBEq, d0, e0, e1, w0, w1, d1]
    exact ⟨⟨Nat.le_refl _, .inl ⟨rfl, rfl⟩⟩, Keeps.refl _ _⟩

/-- the lengths of all -/
def lens (ps : List (List AVal)) : Nat := (ps.map List.length).sum
theorem lens_cons (p : List AVal) (ps : List (List AVal)) : lens (p :: ps) = p.length + lens ps := rfl
theorem lens_app (a b : List (List AVal)) : lens (a ++ b) = lens a + lens b := by
  induction a with
  | nil => simp [lens]
  | cons x a ih => rw [List.cons_append, lens_cons, lens_cons, ih, Nat.add_assoc]
theorem lens_take {ps : List (List AVal)} {k : Nat} (hk : k < ps.length) : lens (ps.take (k + 1)) = lens (ps.take k) + ps[k].length := by
  rw [List.take_add_one, List.getElem?_eq_getElem hk, lens_app]; rfl
theorem lens_take_le (ps : List (List AVal)) (k : Nat) : lens (ps.take k) ≤ lens ps := by
  conv => rhs; rw [← List.take_append_drop k ps]
  rw [lens_app]; omega
theorem lens_flat (ps : List (List AVal)) : ps.flatten.length = lens ps := by simp [lens, List.length_flatten]

theorem concat_ok (s : AVal) (us : List AVal) (ps : List (List AVal)) (hs : SlOf σ 1 s us) (hp : Two (fun u p => SlOf σ 5 u p) us ps) (hl : lens ps < 2 ^ 40) (hn : ps.length < 2 ^ 40) :
    Called CN.cfg d 96 [s] σ fun r σ' => Own σ' 5 r ps.flatten ∧ NoLit r ∧ Fresh σ.length r ∧ Grows σ σ' := by
  refine called_of (fn := CN.a96) rfl (Nat.le_of_ble_eq_true rfl) ?_
  have ls := hs.len
  rw [hp.len] at ls
  have one : ∀ {k : Nat} {σ' : Store} (hk : k < ps.length), Grows σ σ' → ∃ u, iaddrV 1 s (.int .i64 k) = some (addrOf 1 s k) ∧ loadV σ' 1 false (addrOf 1 s k) = some u ∧ SlOf σ' 5 u ps[k] := fun {k σ'} hk g => by
    obtain ⟨u, u1, u2⟩ := hp.get hk
    have hi : k < us.length := by rw [hp.len]; exact hk
    have eu : us[k] = u := by rw [List.getElem?_eq_getElem hi] at u1; exact Option.some.inj u1
    exact ⟨u, hs.iaddr hi .i64, by have := (hs.grow g).load1 hi (by rw [eu]; exact u2.one) 1; rwa [eu] at this, u2.grow g⟩
  simp only [CN.a96]
  simp -dsimp only [↓WPd, ↓wpC_block, ↓wpC_cond, WPu, Bool.false_eq_true, Bool.true_eq_false, Bool.not_true, Bool.not_false, if_true, if_false, ite_true, ite_false, Nat.reduceEqDiff, Nat.reduceLT, true_and, List.map_cons, List.map_nil, Nat.zero_add, Nat.reduceBEq, ls]
  refine loop_rule2 (fun m vs σ' => ∃ k : Nat, k ≤ ps.length ∧ m = ps.length - k ∧ σ' = σ ∧ vs = [s, .int .i64 (lens (ps.take k) : Nat), s, .int .i64 ps.length, .int .i64 k])
    [0, 3] (fun x vs σ' => x = .exit 0 ∧ σ' = σ ∧ vs = [s, .int .i64 (lens ps : Nat)]) ps.length ⟨0, Nat.zero_le _, rfl, rfl, ?_⟩ ?_ ?_
  · simp -dsimp only [↓WPd, ↓wpC_block, ↓wpC_cond, WPu, Bool.false_eq_true, Bool.true_eq_false, Bool.not_true, Bool.not_false, if_true, if_false, ite_true, ite_false, Nat.reduceEqDiff, Nat.reduceLT, true_and, List.map_cons, List.map_nil, Nat.zero_add, Nat.reduceBEq]; rfl
  · rintro m vs σ1 ⟨k, hk, rfl, rfl, rfl⟩
    simp -dsimp only [↓WPd, ↓wpC_block, ↓wpC_cond, WPu, Bool.false_eq_true, Bool.true_eq_false, Bool.not_true, Bool.not_false, if_true, if_false, ite_true, ite_false, Nat.reduceEqDiff, Nat.reduceLT, true_and, List.map_cons, List.map_nil, Nat.zero_add, Nat.reduceBEq]
    refine condP_dec (fun hc => ?_) (fun hc => ?_)
    · have hk' : k < ps.length := by omega
      obtain ⟨u, u1, u2, u3⟩ := one hk' (Keeps.refl _ _)
      have lu := u3.len
      have hle := lens_take_le ps (k + 1)
      rw [lens_take hk'] at hle
      have w : IntKind.i64.wrap (((lens (ps.take k) : Nat) : Int) + ((ps[k].length : Nat) : Int)) = ((lens (ps.take (k + 1)) : Nat) : Int) := by rw [lens_take hk', wrap_i64 (by omega) (by omega)]; omega
      have dn : decide (((lens (ps.take (k + 1)) : Nat) : Int) < 0) = false := decide_eq_false (by omega)
      simp -dsimp only [↓WPd, ↓wpC_block, ↓wpC_cond, WPu, Bool.false_eq_true, Bool.true_eq_false, Bool.not_true, Bool.not_false, if_true, if_false, ite_true, ite_false, Nat.reduceEqDiff, Nat.reduceLT, true_and, List.map_cons, List.map_nil, Nat.zero_add, Nat.reduceBEq, u1, u2, lu, w, dn]
      refine ⟨ps.length - (k + 1), by omega, k + 1, by omega, rfl, ?_⟩
      rw [wrap_i64 (by omega) (by omega), Int.natCast_add, Int.natCast_one]
    · simp -dsimp only [↓WPd, ↓wpC_block, ↓wpC_cond, WPu, Bool.false_eq_true, Bool.true_eq_false, Bool.not_true, Bool.not_false, if_true, if_false, ite_true, ite_false, Nat.reduceEqDiff, Nat.reduceLT, true_and, List.map_cons, List.map_nil, Nat.zero_add, Nat.reduceBEq]
      have : k = ps.length := by omega
      subst this
      rw [List.take_length]
  · rintro x σ1 env ⟨rfl, rfl, hv⟩
    simp only [List.map_cons, List.map_nil, List.cons.injEq, and_true] at hv
    obtain ⟨v0, v3⟩ := hv
    simp -dsimp only [↓WPd, ↓wpC_block, ↓wpC_cond, WPu, Bool.false_eq_true, Bool.true_eq_false, Bool.not_true, Bool.not_false, if_true, if_false, ite_true, ite_false, Nat.reduceEqDiff, Nat.reduceLT, true_and, List.map_cons, List.map_nil, Nat.zero_add, Nat.reduceBEq, v0, v3]
    refine calledW_of (grow_ok d σ1 (lens ps) hl) ?_
    rintro w σ2 ⟨f2, g2⟩
    simp -dsimp only [↓WPd, ↓wpC_block, ↓wpC_cond, WPu, Bool.false_eq_true, Bool.true_eq_false, Bool.not_true, Bool.not_false, if_true, if_false, ite_true, ite_false, Nat.reduceEqDiff, Nat.reduceLT, true_and, List.map_cons, List.map_nil, Nat.zero_add, Nat.reduceBEq, v0, v3, ls]
    refine loop_rule (fun m vs σ' => ∃ (k : Nat) (w : AVal), k ≤ ps.length ∧ m = ps.length - k ∧ Grows σ1 σ' ∧ Filled σ' σ1.length w (ps.take k).flatten (lens ps) zD ∧ vs = [w, s, .int .i64 ps.length, .int .i64 k]) ps.length ⟨0, w, Nat.zero_le _, rfl, g2, by simpa using f2, ?_⟩ ?_
    · simp -dsimp only [↓WPd, ↓wpC_block, ↓wpC_cond, WPu, Bool.false_eq_true, Bool.true_eq_false, Bool.not_true, Bool.not_false, if_true, if_false, ite_true, ite_false, Nat.reduceEqDiff, Nat.reduceLT, true_and, List.map_cons, List.map_nil, Nat.zero_add, Nat.reduceBEq, v0]; rfl
    · rintro m vs σ3 ⟨k, w, hk, rfl, g, hf, rfl⟩
      simp -dsimp only [↓WPd, ↓wpC_block, ↓wpC_cond, WPu, Bool.false_eq_true, Bool.true_eq_false, Bool.not_true, Bool.not_false, if_true, if_false, ite_true, ite_false, Nat.reduceEqDiff, Nat.reduceLT, true_and, List.map_cons, List.map_nil, Nat.zero_add, Nat.reduceBEq]
      refine condP_dec (fun hc => ?_) (fun hc => ?_)
      · have hk' : k < ps.length := by omega
        obtain ⟨u, u1, u2, u3⟩ := one hk' g
        have hle := lens_take_le ps (k + 1)
        rw [lens_take hk'] at hle
        obtain ⟨w', σ4, p1, p2, p3⟩ := hf.append (ys := ps[k]) (by rw [lens_flat]; exact hle) (by omega)
        simp -dsimp only [↓WPd, ↓wpC_block, ↓wpC_cond, WPu, Bool.false_eq_true, Bool.true_eq_false, Bool.not_true, Bool.not_false, if_true, if_false, ite_true, ite_false, Nat.reduceEqDiff, Nat.reduceLT, true_and, List.map_cons, List.map_nil, Nat.zero_add, Nat.reduceBEq, u1, u2, u3.els, p1]
        refine ⟨ps.length - (k + 1), by omega, k + 1, w', by omega, rfl, ?_, ?_, ?_⟩
        · exact Keeps.trans g p3 fun i hi e => by omega
        · rw [List.take_add_one, List.getElem?_eq_getElem hk', List.flatten_append]; simpa only [Option.toList_some, List.flatten_cons, List.flatten_nil, List.append_nil] using p2
        · rw [wrap_i64 (by omega) (by omega), Int.natCast_add, Int.natCast_one]
      · simp -dsimp only [↓WPd, ↓wpC_block, ↓wpC_cond, WPu, Bool.false_eq_true, Bool.true_eq_false, Bool.not_true, Bool.not_false, if_true, if_false, ite_true, ite_false, Nat.reduceEqDiff, Nat.reduceLT, true_and, List.map_cons, List.map_nil, Nat.zero_add, Nat.reduceBEq]
        have : k = ps.length := by omega
        subst this
        rw [List.take_length] at hf
        obtain ⟨q1, q2, q3⟩ := hf.own (lens_flat _)
        exact ⟨q1, q2, fun j hj => by have := q3 j hj; omega, g⟩
end
end Go.Proofs.Ytmocplkpnickgaa.Am

/-
  Net: Deliver, Drop, Double; how many are like a datagram.
-/
namespace Go.Proofs.Ytmocplkpnickgaa.Am
open Go
set_option linter.unusedVariables false
set_option linter.unusedSimpArgs false
set_option linter.unusedSectionVars false
set_option maxRecDepth 100000

theorem two_lit (a b : AVal) (ha : a.one = true) (hb : b.one = true) : fillL 1 false (List.replicate 2 (zel [AVal.nilslice] false)) [(0, a), (1, b)] = some [a, b] := by
  cases a <;> first | (cases ha; done) | (cases b <;> first | (cases hb; done) | rfl)

def outL (ds : List Dg) (k : Nat) : List Dg := ds.take k ++ ds.drop (k + 1)

section
variable (d : Nat) (σ : Store) {F : Nat → Prop} (id : Nat) (v : AVal) (c0 c1 c2 c3 n : Int) (es : List AVal) (ds : List Dg) (h : NetOk σ F id v c0 c1 c2 c3 n es ds) (hl : ds.length < 2 ^ 39)
include h hl

set_option maxHeartbeats 1000000 in
theorem out_ok (k : Nat) (hk : k < ds.length) : Called CN.cfg d 81 [.ptr id 0, .int .i64 k] σ fun r σ' => DgOwn σ' F r ds[k] ∧ Keeps (fun i => i = id) σ σ' ∧ ∃ v' es', NetOk σ' F id v' c0 c1 c2 c3 n es' (outL ds k) ∧ Fresh σ.length v' := by
  refine called_of (fn := CN.a81) rfl (Nat.le_of_ble_eq_true rfl) ?_
  have lr := h.rows.len
  obtain ⟨u, u1, u2⟩ := h.rows.get hk
  obtain ⟨e, rfl, e2, e3⟩ := cp u2
  have hi : k < es.length := by omega
  have eu : es[k] = ds[k].val e := by rw [List.getElem?_eq_getElem hi] at u1; exact Option.some.inj u1
  -- the variables
  have g1 : Grows σ (σ ++ [AObj.cells [.int .i64 0, .int .i64 0, .bool false, .int .i64 0, .nilslice]]) := Grows.app _ _
  have o1 : (σ ++ [AObj.cells [.int .i64 0, .int .i64 0, .bool false, .int .i64 0, .nilslice]])[σ.length]? = some (.cells [.int .i64 0, .int .i64 0, .bool false, .int .i64 0, .nilslice]) := by simp
  simp only [CN.a81]
  simp -dsimp only [↓WPd, ↓wpC_block, ↓wpC_cond, WPu, Bool.false_eq_true, Bool.true_eq_false, Bool.not_true, Bool.not_false, if_true, if_false, ite_true, ite_false, Nat.reduceEqDiff, Nat.reduceLT, true_and, List.map_cons, List.map_nil, Nat.zero_add, Nat.reduceBEq]
  have l1 : (σ ++ [AObj.cells [.int .i64 0, .int .i64 0, .bool false, .int .i64 0, .nilslice]]).length = σ.length + 1 := by simp
  generalize σ ++ [AObj.cells [.int .i64 0, .int .i64 0, .bool false, .int .i64 0, .nilslice]] = σ1 at g1 o1 l1
  have N1 := h.grow g1
  have ld := N1.own.sl.loadA hi (by rw [eu]; rfl)
  have ld' : loadV σ1 5 true (addrOf 5 v k) = some (.agg [.int .i64 ds[k].f, .int .i64 ds[k].t, .bool ds[k].ack, .int .i64 ds[k].s, e]) := ld
  have st := new_store (σ := σ1) (n := 5) (zs := [.int .i64 0, .int .i64 0, .bool false, .int .i64 0, .nilslice]) rfl (cs := [.int .i64 ds[k].f, .int .i64 ds[k].t, .bool ds[k].ack, .int .i64 ds[k].s, e]) rfl (all5 e2.one _ _ _ _)
  simp -dsimp only [↓WPd, ↓wpC_block, ↓wpC_cond, WPu, Bool.false_eq_true, Bool.true_eq_false, Bool.not_true, Bool.not_false, if_true, if_false, ite_true, ite_false, Nat.reduceEqDiff, Nat.reduceLT, true_and, List.map_cons, List.map_nil, Nat.zero_add, Nat.reduceBEq, faddr_ptr, load_cells N1.obj, List.getElem?_cons_zero, List.getElem?_cons_succ, N1.own.sl.iaddr hi, ld', st]
  have g2 : Grows σ1 (σ1 ++ [AObj.cells [.int .i64 ds[k].f, .int .i64 ds[k].t, .bool ds[k].ack, .int .i64 ds[k].s, e]]) := Grows.app _ _
  have o2 : (σ1 ++ [AObj.cells [.int .i64 ds[k].f, .int .i64 ds[k].t, .bool ds[k].ack, .int .i64 ds[k].s, e]])[σ1.length]? = some (.cells [.int .i64 ds[k].f, .int .i64 ds[k].t, .bool ds[k].ack, .int .i64 ds[k].s, e]) := by simp
  generalize hj : σ1.length = j at o2
  generalize σ1 ++ [AObj.cells [.int .i64 ds[k].f, .int .i64 ds[k].t, .bool ds[k].ack, .int .i64 ds[k].s, e]] = σ2 at g2 o2
  have N2 := N1.grow g2
  obtain ⟨a, a1, a2, a3⟩ := N2.own.sl.sub_hi (hi := k) (by omega) .i64
  obtain ⟨b, b1, b2, b3⟩ := N2.own.sl.sub_lo (lo := k + 1) (by omega) .i64
  have w : IntKind.i64.wrap ((k : Int) + 1) = ((k + 1 : Nat) : Int) := by rw [wrap_i64 (by omega) (by omega), Int.natCast_add, Int.natCast_one]
  simp -dsimp only [↓WPd, ↓wpC_block, ↓wpC_cond, WPu, Bool.false_eq_true, Bool.true_eq_false, Bool.not_true, Bool.not_false, if_true, if_false, ite_true, ite_false, Nat.reduceEqDiff, Nat.reduceLT, true_and, List.map_cons, List.map_nil, Nat.zero_add, Nat.reduceBEq, faddr_ptr, load_cells N2.obj, List.getElem?_cons_zero, List.getElem?_cons_succ, oev, a1, w, b1, two_lit a b a2.one b2.one]
  refine calledW_of (concat_ok d σ2 _ [a, b] [es.take k, es.drop (k + 1)] (SlOf.fs _ _ _ _ _) (.cons a2 (.cons b2 .nil)) (by simp [lens]; omega) (by simp)) ?_
  rintro r σ3 ⟨or, nr, fr, g3⟩
  have er : [es.take k, es.drop (k + 1)].flatten = es.take k ++ es.drop (k + 1) := by simp
  rw [er] at or
  have N3 := N2.grow g3
  have stn := store_cells N3.obj (off := 5) (by simp) (v := r) or.one
  simp only [List.set_cons_zero, List.set_cons_succ] at stn
  have idlt := (List.getElem?_eq_some_iff.1 h.obj).1
  have o1' := g3.get (g2.get o1)
  have o2' := g3.get o2
  have k4 := Keeps.set σ3 id (.cells [.int .i64 c0, .int .i64 c1, .int .i64 c2, .int .i64 c3, .int .i64 n, r])
  have o4 := get_set (o' := .cells [.int .i64 c0, .int .i64 c1, .int .i64 c2, .int .i64 c3, .int .i64 n, r]) N3.obj
  have o14 := k4.get o1' (by omega)
  have o24 := k4.get o2' (by omega)
  have or4 : Own (σ3.set id (.cells [.int .i64 c0, .int .i64 c1, .int .i64 c2, .int .i64 c3, .int .i64 n, r])) 5 r (es.take k ++ es.drop (k + 1)) := or.keeps k4 fun i hi hm => or.noCell N3.obj (by rw [← hm]; exact hi)
  have rows4 : Two (DgOwn (σ3.set id (.cells [.int .i64 c0, .int .i64 c1, .int .i64 c2, .int .i64 c3, .int .i64 n, r])) F) es ds := N3.rows.mono fun _ _ h => by
    obtain ⟨b, b1, b2, b3⟩ := h
    exact ⟨b, b1, b2.keeps k4 fun j hj hm => b2.noCell N3.obj (by rw [← hm]; exact hj), b3⟩
  have gk : Keeps (fun i => i = id) σ (σ3.set id (.cells [.int .i64 c0, .int .i64 c1, .int .i64 c2, .int .i64 c3, .int .i64 n, r])) := Keeps.trans (Grows.any (g1.trans (g2.trans g3))) k4 fun i hi hm => hm
  generalize σ3.set id (.cells [.int .i64 c0, .int .i64 c1, .int .i64 c2, .int .i64 c3, .int .i64 n, r]) = σ4 at k4 o4 o14 o24 or4 rows4 gk stn
  have st4 := storeN_cells (n := 5) o14 rfl (cs' := [.int .i64 ds[k].f, .int .i64 ds[k].t, .bool ds[k].ack, .int .i64 ds[k].s, e]) rfl (all5 e2.one _ _ _ _)
  have o5 := get_set (o' := .cells [.int .i64 ds[k].f, .int .i64 ds[k].t, .bool ds[k].ack, .int .i64 ds[k].s, e]) o14
  simp -dsimp only [↓WPd, ↓wpC_block, ↓wpC_cond, WPu, Bool.false_eq_true, Bool.true_eq_false, Bool.not_true, Bool.not_false, if_true, if_false, ite_true, ite_false, Nat.reduceEqDiff, Nat.reduceLT, true_and, List.map_cons, List.map_nil, Nat.zero_add, Nat.reduceBEq, faddr_ptr, stn, loadN_cells (n := 5) o24 rfl, st4, loadN_cells (n := 5) o5 rfl]
  have k5 := Keeps.set σ4 σ.length (.cells [.int .i64 ds[k].f, .int .i64 ds[k].t, .bool ds[k].ack, .int .i64 ds[k].s, e])
  have rows5 : Two (DgOwn (σ4.set σ.length (.cells [.int .i64 ds[k].f, .int .i64 ds[k].t, .bool ds[k].ack, .int .i64 ds[k].s, e])) F) es ds := rows4.mono fun _ _ h => by
    obtain ⟨b, b1, b2, b3⟩ := h
    exact ⟨b, b1, b2.keeps k5 fun j hj hm => b2.noCell o14 (by rw [← hm]; exact hj), b3⟩
  have l12 := g2.1
  refine ⟨?_, ?_, r, es.take k ++ es.drop (k + 1), ⟨?_, ?_, ?_⟩, fr.le (by omega)⟩
  · exact rows5.at u1 (List.getElem?_eq_getElem hk)
  · exact Keeps.trans gk k5 fun i hi hm => by omega
  · exact k5.get o4 (by omega)
  · exact or4.keeps k5 fun i hi hm => or4.noCell o14 (by rw [← hm]; exact hi)
  · exact (rows5.take k).append (rows5.drop (k + 1))

theorem deliver_ok (k : Nat) (hk : k < ds.length) : Called CN.cfg d 48 [.ptr id 0, .int .i64 k] σ fun r σ' =>
    ∃ x, r = .tuple [x, .int .i64 0] ∧ DgOwn σ' F x ds[k] ∧ Keeps (fun i => i = id) σ σ' ∧ ∃ v' es', NetOk σ' F id v' c0 (IntKind.i64.wrap (c1 + 1)) c2 c3 n es' (outL ds k) ∧ Fresh σ.length v' := by
  refine called_of (fn := CN.a48) rfl (Nat.le_of_ble_eq_true rfl) ?_
  simp only [CN.a48]
  simp -dsimp only [↓WPd, ↓wpC_block, ↓wpC_cond, WPu, Bool.false_eq_true, Bool.true_eq_false, Bool.not_true, Bool.not_false, if_true, if_false, ite_true, ite_false, Nat.reduceEqDiff, Nat.reduceLT, true_and, List.map_cons, List.map_nil, Nat.zero_add, Nat.reduceBEq]
  have g1 : Grows σ (σ ++ [AObj.cells [.int .i64 0, .int .i64 0, .bool false, .int .i64 0, .nilslice]]) := Grows.app _ _
  have o1 : (σ ++ [AObj.cells [.int .i64 0, .int .i64 0, .bool false, .int .i64 0, .nilslice]])[σ.length]? = some (.cells [.int .i64 0, .int .i64 0, .bool false, .int .i64 0, .nilslice]) := by simp
  have l1 : (σ ++ [AObj.cells [.int .i64 0, .int .i64 0, .bool false, .int .i64 0, .nilslice]]).length = σ.length + 1 := by simp
  generalize σ ++ [AObj.cells [.int .i64 0, .int .i64 0, .bool false, .int .i64 0, .nilslice]] = σ1 at g1 o1 l1
  have N1 := h.grow g1
  have idlt := (List.getElem?_eq_some_iff.1 h.obj).1
  refine calledW_of (at_ok d σ1 id v c0 c1 c2 c3 n es ds N1 k) ?_
  rintro r σ2 ⟨rfl, rfl⟩
  rw [if_pos ⟨by omega, by omega⟩]
  have c0' : ((0 : Int) != 0) = false := rfl
  have st := store_cells N1.obj (off := 1) (by simp) (v := .int .i64 (IntKind.i64.wrap (c1 + 1))) rfl
  simp only [List.set_cons_zero, List.set_cons_succ] at st
  simp -dsimp only [↓WPd, ↓wpC_block, ↓wpC_cond, WPu, Bool.false_eq_true, Bool.true_eq_false, Bool.not_true, Bool.not_false, if_true, if_false, ite_true, ite_false, Nat.reduceEqDiff, Nat.reduceLT, true_and, List.map_cons, List.map_nil, Nat.zero_add, Nat.reduceBEq, c0', faddr_ptr, load_cells N1.obj, List.getElem?_cons_zero, List.getElem?_cons_succ, st]
  have k3 := Keeps.set σ2 id (.cells [.int .i64 c0, .int .i64 (IntKind.i64.wrap (c1 + 1)), .int .i64 c2, .int .i64 c3, .int .i64 n, v])
  have N3 : NetOk (σ2.set id (.cells [.int .i64 c0, .int .i64 (IntKind.i64.wrap (c1 + 1)), .int .i64 c2, .int .i64 c3, .int .i64 n, v])) F id v c0 (IntKind.i64.wrap (c1 + 1)) c2 c3 n es ds := ⟨get_set N1.obj, N1.own.keeps k3 fun i hi hm => N1.own.noCell N1.obj (by rw [← hm]; exact hi), N1.rows.mono fun _ _ h => by
    obtain ⟨b, b1, b2, b3⟩ := h
    exact ⟨b, b1, b2.keeps k3 fun j hj hm => b2.noCell N1.obj (by rw [← hm]; exact hj), b3⟩⟩
  have o3 := k3.get o1 (by omega)
  have l3 := k3.1
  generalize σ2.set id (.cells [.int .i64 c0, .int .i64 (IntKind.i64.wrap (c1 + 1)), .int .i64 c2, .int .i64 c3, .int .i64 n, v]) = σ3 at k3 N3 o3 l3
  refine calledW_of (out_ok d σ3 id v c0 _ c2 c3 n es ds N3 hl k hk) ?_
  rintro r σ4 ⟨hx, k4, v', es', N4, fv⟩
  obtain ⟨e, rfl, e2, e3⟩ := hx
  have o4 := k4.get o3 (by omega)
  have st4 := storeN_cells (n := 5) o4 rfl (cs' := [.int .i64 ds[k].f, .int .i64 ds[k].t, .bool ds[k].ack, .int .i64 ds[k].s, e]) rfl (all5 e2.one _ _ _ _)
  have o5 := get_set (o' := .cells [.int .i64 ds[k].f, .int .i64 ds[k].t, .bool ds[k].ack, .int .i64 ds[k].s, e]) o4
  simp -dsimp only [↓WPd, ↓wpC_block, ↓wpC_cond, WPu, Bool.false_eq_true, Bool.true_eq_false, Bool.not_true, Bool.not_false, if_true, if_false, ite_true, ite_false, Nat.reduceEqDiff, Nat.reduceLT, true_and, List.map_cons, List.map_nil, Nat.zero_add, Nat.reduceBEq, Dg.val, st4, loadN_cells (n := 5) o5 rfl, resultsA, mapO]
  have k5 := Keeps.set σ4 σ.length (.cells [.int .i64 ds[k].f, .int .i64 ds[k].t, .bool ds[k].ack, .int .i64 ds[k].s, e])
  refine ⟨_, rfl, ⟨e, rfl, e2.keeps k5 fun i hi hm => e2.noCell o4 (by rw [← hm]; exact hi), e3⟩, ?_, v', es', ⟨k5.get N4.obj (by omega), N4.own.keeps k5 fun i hi hm => N4.own.noCell o4 (by rw [← hm]; exact hi), N4.rows.mono fun _ _ h => ?_⟩, fv.le (by omega)⟩
  · refine Keeps.trans (Keeps.trans (Keeps.trans (Grows.any g1) k3 fun i hi hm => hm) k4 fun i hi hm => hm) k5 fun i hi hm => by omega
  · obtain ⟨b, b1, b2, b3⟩ := h
    exact ⟨b, b1, b2.keeps k5 fun j hj hm => b2.noCell o4 (by rw [← hm]; exact hj), b3⟩

theorem deliver_no (k : Int) (hk : ¬ (0 ≤ k ∧ k < ds.length)) : Called CN.cfg d 48 [.ptr id 0, .int .i64 k] σ fun r σ' => r = .tuple [zD, .int .i64 4] ∧ Grows σ σ' := by
  refine called_of (fn := CN.a48) rfl (Nat.le_of_ble_eq_true rfl) ?_
  simp only [CN.a48]
  simp -dsimp only [↓WPd, ↓wpC_block, ↓wpC_cond, WPu, Bool.false_eq_true, Bool.true_eq_false, Bool.not_true, Bool.not_false, if_true, if_false, ite_true, ite_false, Nat.reduceEqDiff, Nat.reduceLT, true_and, List.map_cons, List.map_nil, Nat.zero_add, Nat.reduceBEq]
  have g1 : Grows σ (σ ++ [AObj.cells [.int .i64 0, .int .i64 0, .bool false, .int .i64 0, .nilslice]]) := Grows.app _ _
  have o1 : (σ ++ [AObj.cells [.int .i64 0, .int .i64 0, .bool false, .int .i64 0, .nilslice]])[σ.length]? = some (.cells [.int .i64 0, .int .i64 0, .bool false, .int .i64 0, .nilslice]) := by simp
  have l1 : (σ ++ [AObj.cells [.int .i64 0, .int .i64 0, .bool false, .int .i64 0, .nilslice]]).length = σ.length + 1 := by simp
  generalize σ ++ [AObj.cells [.int .i64 0, .int .i64 0, .bool false, .int .i64 0, .nilslice]] = σ1 at g1 o1 l1
  have N1 := h.grow g1
  have idlt := (List.getElem?_eq_some_iff.1 h.obj).1
  refine calledW_of (at_ok d σ1 id v c0 c1 c2 c3 n es ds N1 k) ?_
  rintro r σ2 ⟨rfl, rfl⟩
  rw [if_neg hk]
  have c0' : ((4 : Int) != 0) = true := rfl
  have e1 : fillA [AVal.int .i64 0, .int .i64 0, .bool false, .int .i64 0, .nilslice] [] = some [AVal.int .i64 0, .int .i64 0, .bool false, .int .i64 0, .nilslice] := rfl
  have st := storeN_cells (n := 5) o1 rfl (cs' := [.int .i64 0, .int .i64 0, .bool false, .int .i64 0, .nilslice]) rfl rfl
  have o5 := get_set (o' := .cells [.int .i64 0, .int .i64 0, .bool false, .int .i64 0, .nilslice]) o1
  simp -dsimp only [↓WPd, ↓wpC_block, ↓wpC_cond, WPu, Bool.false_eq_true, Bool.true_eq_false, Bool.not_true, Bool.not_false, if_true, if_false, ite_true, ite_false, Nat.reduceEqDiff, Nat.reduceLT, true_and, List.map_cons, List.map_nil, Nat.zero_add, Nat.reduceBEq, c0', e1, st, loadN_cells (n := 5) o5 rfl, resultsA, mapO]
  exact ⟨rfl, Keeps.trans g1 (Keeps.set _ _ _) fun i hi hm => by omega⟩

theorem drop_ok (k : Nat) (hk : k < ds.length) : Called CN.cfg d 51 [.ptr id 0, .int .i64 k] σ fun r σ' =>
    r = .int .i64 0 ∧ Keeps (fun i => i = id) σ σ' ∧ ∃ v' es', NetOk σ' F id v' c0 c1 (IntKind.i64.wrap (c2 + 1)) c3 n es' (outL ds k) ∧ Fresh σ.length v' := by
  refine called_of (fn := CN.a51) rfl (Nat.le_of_ble_eq_true rfl) ?_
  simp only [CN.a51]
  simp -dsimp only [↓WPd, ↓wpC_block, ↓wpC_cond, WPu, Bool.false_eq_true, Bool.true_eq_false, Bool.not_true, Bool.not_false, if_true, if_false, ite_true, ite_false, Nat.reduceEqDiff, Nat.reduceLT, true_and, List.map_cons, List.map_nil, Nat.zero_add, Nat.reduceBEq]
  refine calledW_of (at_ok d σ id v c0 c1 c2 c3 n es ds h k) ?_
  rintro r σ2 ⟨rfl, rfl⟩
  rw [if_pos ⟨by omega, by omega⟩]
  have c0' : ((0 : Int) != 0) = false := rfl
  have st := store_cells h.obj (off := 2) (by simp) (v := .int .i64 (IntKind.i64.wrap (c2 + 1))) rfl
  simp only [List.set_cons_zero, List.set_cons_succ] at st
  simp -dsimp only [↓WPd, ↓wpC_block, ↓wpC_cond, WPu, Bool.false_eq_true, Bool.true_eq_false, Bool.not_true, Bool.not_false, if_true, if_false, ite_true, ite_false, Nat.reduceEqDiff, Nat.reduceLT, true_and, List.map_cons, List.map_nil, Nat.zero_add, Nat.reduceBEq, c0', faddr_ptr, load_cells h.obj, List.getElem?_cons_zero, List.getElem?_cons_succ, st]
  have k3 := Keeps.set σ2 id (.cells [.int .i64 c0, .int .i64 c1, .int .i64 (IntKind.i64.wrap (c2 + 1)), .int .i64 c3, .int .i64 n, v])
  have N3 : NetOk (σ2.set id (.cells [.int .i64 c0, .int .i64 c1, .int .i64 (IntKind.i64.wrap (c2 + 1)), .int .i64 c3, .int .i64 n, v])) F id v c0 c1 (IntKind.i64.wrap (c2 + 1)) c3 n es ds := ⟨get_set h.obj, h.own.keeps k3 fun i hi hm => h.own.noCell h.obj (by rw [← hm]; exact hi), h.rows.mono fun _ _ hh => by
    obtain ⟨b, b1, b2, b3⟩ := hh
    exact ⟨b, b1, b2.keeps k3 fun j hj hm => b2.noCell h.obj (by rw [← hm]; exact hj), b3⟩⟩
  have l3 := k3.1
  refine calledW_of (out_ok d _ id v c0 c1 _ c3 n es ds N3 hl k hk) ?_
  rintro r σ4 ⟨hx, k4, v', es', N4, fv⟩
  simp -dsimp only [↓WPd, ↓wpC_block, ↓wpC_cond, WPu, Bool.false_eq_true, Bool.true_eq_false, Bool.not_true, Bool.not_false, if_true, if_false, ite_true, ite_false, Nat.reduceEqDiff, Nat.reduceLT, true_and, List.map_cons, List.map_nil, Nat.zero_add, Nat.reduceBEq]
  exact ⟨Keeps.trans k3 k4 fun i hi hm => hm, v', es', N4, fv.le l3⟩

theorem drop_no (k : Int) (hk : ¬ (0 ≤ k ∧ k < ds.length)) : Called CN.cfg d 51 [.ptr id 0, .int .i64 k] σ fun r σ' => r = .int .i64 4 ∧ Grows σ σ' := by
  refine called_of (fn := CN.a51) rfl (Nat.le_of_ble_eq_true rfl) ?_
  simp only [CN.a51]
  simp -dsimp only [↓WPd, ↓wpC_block, ↓wpC_cond, WPu, Bool.false_eq_true, Bool.true_eq_false, Bool.not_true, Bool.not_false, if_true, if_false, ite_true, ite_false, Nat.reduceEqDiff, Nat.reduceLT, true_and, List.map_cons, List.map_nil, Nat.zero_add, Nat.reduceBEq]
  refine calledW_of (at_ok d σ id v c0 c1 c2 c3 n es ds h k) ?_
  rintro r σ2 ⟨rfl, rfl⟩
  rw [if_neg hk]
  have c0' : ((4 : Int) != 0) = true := rfl
  simp -dsimp only [↓WPd, ↓wpC_block, ↓wpC_cond, WPu, Bool.false_eq_true, Bool.true_eq_false, Bool.not_true, Bool.not_false, if_true, if_false, ite_true, ite_false, Nat.reduceEqDiff, Nat.reduceLT, true_and, List.map_cons, List.map_nil, Nat.zero_add, Nat.reduceBEq, c0']
  exact Keeps.refl _ _
set_option maxHeartbeats 1000000 in
theorem double_ok (hs : ∀ p ∈ ds, p.bs.length < 2 ^ 40) (k : Nat) (hk : k < ds.length) : Called CN.cfg d 52 [.ptr id 0, .int .i64 k] σ fun r σ' =>
    r = .int .i64 0 ∧ Keeps (fun i => i = id ∨ v.sid = some i) σ σ' ∧ ∃ v' es', NetOk σ' (fun j => F j ∨ σ.length ≤ j) id v' c0 c1 c2 (IntKind.i64.wrap (c3 + 1)) n es' (ds ++ [ds[k]]) ∧ ∀ j, v'.sid = some j → v.sid = some j ∨ σ.length ≤ j := by
  refine called_of (fn := CN.a52) rfl (Nat.le_of_ble_eq_true rfl) ?_
  simp only [CN.a52]
  simp -dsimp only [↓WPd, ↓wpC_block, ↓wpC_cond, WPu, Bool.false_eq_true, Bool.true_eq_false, Bool.not_true, Bool.not_false, if_true, if_false, ite_true, ite_false, Nat.reduceEqDiff, Nat.reduceLT, true_and, List.map_cons, List.map_nil, Nat.zero_add, Nat.reduceBEq]
  refine calledW_of (at_ok d σ id v c0 c1 c2 c3 n es ds h k) ?_
  rintro r σ2 ⟨rfl, rfl⟩
  rw [if_pos ⟨by omega, by omega⟩]
  have c0' : ((0 : Int) != 0) = false := rfl
  have st := store_cells h.obj (off := 3) (by simp) (v := .int .i64 (IntKind.i64.wrap (c3 + 1))) rfl
  simp only [List.set_cons_zero, List.set_cons_succ] at st
  simp -dsimp only [↓WPd, ↓wpC_block, ↓wpC_cond, WPu, Bool.false_eq_true, Bool.true_eq_false, Bool.not_true, Bool.not_false, if_true, if_false, ite_true, ite_false, Nat.reduceEqDiff, Nat.reduceLT, true_and, List.map_cons, List.map_nil, Nat.zero_add, Nat.reduceBEq, c0', faddr_ptr, load_cells h.obj, List.getElem?_cons_zero, List.getElem?_cons_succ, st]
  have k3 := Keeps.set σ2 id (.cells [.int .i64 c0, .int .i64 c1, .int .i64 c2, .int .i64 (IntKind.i64.wrap (c3 + 1)), .int .i64 n, v])
  have N3 : NetOk (σ2.set id (.cells [.int .i64 c0, .int .i64 c1, .int .i64 c2, .int .i64 (IntKind.i64.wrap (c3 + 1)), .int .i64 n, v])) F id v c0 c1 c2 (IntKind.i64.wrap (c3 + 1)) n es ds := ⟨get_set h.obj, h.own.keeps k3 fun i hi hm => h.own.noCell h.obj (by rw [← hm]; exact hi), h.rows.mono fun _ _ hh => by
    obtain ⟨b, b1, b2, b3⟩ := hh
    exact ⟨b, b1, b2.keeps k3 fun j hj hm => b2.noCell h.obj (by rw [← hm]; exact hj), b3⟩⟩
  generalize σ2.set id (.cells [.int .i64 c0, .int .i64 c1, .int .i64 c2, .int .i64 (IntKind.i64.wrap (c3 + 1)), .int .i64 n, v]) = σ3 at k3 N3
  obtain ⟨u, a1, a2, a3, a4⟩ := Two.load5 N3.own.sl (N3.rows.mono fun _ _ h => h.ok) hk
  refine drawnP_of rfl ?_
  simp -dsimp only [↓WPd, ↓wpC_block, ↓wpC_cond, WPu, Bool.false_eq_true, Bool.true_eq_false, Bool.not_true, Bool.not_false, if_true, if_false, ite_true, ite_false, Nat.reduceEqDiff, Nat.reduceLT, true_and, List.map_cons, List.map_nil, Nat.zero_add, Nat.reduceBEq, ↓WPed, WPeu, Nat.reduceAdd, and_self, faddr_ptr, load_cells N3.obj, List.getElem?_cons_zero, List.getElem?_cons_succ, a1, a2]
  refine calledW_of (copied_ok d σ3 u ds[k] a3 (hs _ (List.getElem_mem hk))) ?_
  rintro r σ4 ⟨e', rfl, o1, f1, n1, g4⟩
  have N4 := N3.grow g4
  have lr := h.rows.len
  obtain ⟨w, σ5, p1, p2, p3, p4, _⟩ := N4.own.append [ds[k].val e'] 56 (by simp; omega)
  have o4 := p3.get N4.obj (N4.own.noCell N4.obj)
  have stw := store_cells o4 (off := 5) (by simp) (v := w) p2.one
  simp only [List.set_cons_zero, List.set_cons_succ] at stw
  have o5 := get_set (o' := .cells [.int .i64 c0, .int .i64 c1, .int .i64 c2, .int .i64 (IntKind.i64.wrap (c3 + 1)), .int .i64 n, w]) o4
  simp -dsimp only [↓WPd, ↓wpC_block, ↓wpC_cond, WPu, Bool.false_eq_true, Bool.true_eq_false, Bool.not_true, Bool.not_false, if_true, if_false, ite_true, ite_false, Nat.reduceEqDiff, Nat.reduceLT, true_and, List.map_cons, List.map_nil, Nat.zero_add, Nat.reduceBEq, ↓WPed, WPeu, Nat.reduceAdd, and_self, faddr_ptr, load_cells N3.obj, load_cells N4.obj, List.getElem?_cons_zero, List.getElem?_cons_succ, one_lit ds[k] e' o1.one, elems_fs, p1, stw]
  have l23 := k3.1
  have l34 := g4.1
  have r4 : Two (DgOwn σ5 (fun j => F j ∨ σ2.length ≤ j)) (es ++ [ds[k].val e']) (ds ++ [ds[k]]) := by
    refine Two.push (N4.rows.mono fun _ _ h => ?_) ?_
    · obtain ⟨b, b1, b2, b3⟩ := h
      exact ⟨b, b1, b2.keeps p3 fun j hj hm => N4.own.sizes b2 (by decide) hm hj, fun j hj => .inl (b3 j hj)⟩
    · exact ⟨e', rfl, o1.keeps p3 fun j hj hm => N4.own.sizes o1 (by decide) hm hj, fun j hj => .inr (by have := f1 j hj; omega)⟩
  have k5 := Keeps.set σ5 id (.cells [.int .i64 c0, .int .i64 c1, .int .i64 c2, .int .i64 (IntKind.i64.wrap (c3 + 1)), .int .i64 n, w])
  refine ⟨?_, w, es ++ [ds[k].val e'], ⟨o5, ?_, ?_⟩, fun j hj => ?_⟩
  · refine Keeps.trans (Keeps.trans (Keeps.trans (k3.mono fun _ _ h => .inl h) g4 fun _ _ h => h.elim) p3 fun i hi hm => .inr hm) k5 fun i hi hm => .inl hm
  · exact p2.keeps k5 fun j hj hm => p2.noCell o4 (by rw [← hm]; exact hj)
  · refine r4.mono fun _ _ h => ?_
    obtain ⟨b, b1, b2, b3⟩ := h
    exact ⟨b, b1, b2.keeps k5 fun j hj hm => b2.noCell o4 (by rw [← hm]; exact hj), b3⟩
  · rcases p4 j hj with h | h
    · exact .inl h
    · exact .inr (by omega)

theorem double_no (k : Int) (hk : ¬ (0 ≤ k ∧ k < ds.length)) : Called CN.cfg d 52 [.ptr id 0, .int .i64 k] σ fun r σ' => r = .int .i64 4 ∧ Grows σ σ' := by
  refine called_of (fn := CN.a52) rfl (Nat.le_of_ble_eq_true rfl) ?_
  simp only [CN.a52]
  simp -dsimp only [↓WPd, ↓wpC_block, ↓wpC_cond, WPu, Bool.false_eq_true, Bool.true_eq_false, Bool.not_true, Bool.not_false, if_true, if_false, ite_true, ite_false, Nat.reduceEqDiff, Nat.reduceLT, true_and, List.map_cons, List.map_nil, Nat.zero_add, Nat.reduceBEq]
  refine calledW_of (at_ok d σ id v c0 c1 c2 c3 n es ds h k) ?_
  rintro r σ2 ⟨rfl, rfl⟩
  rw [if_neg hk]
  have c0' : ((4 : Int) != 0) = true := rfl
  simp -dsimp only [↓WPd, ↓wpC_block, ↓wpC_cond, WPu, Bool.false_eq_true, Bool.true_eq_false, Bool.not_true, Bool.not_false, if_true, if_false, ite_true, ite_false, Nat.reduceEqDiff, Nat.reduceLT, true_and, List.map_cons, List.map_nil, Nat.zero_add, Nat.reduceBEq, c0']
  exact Keeps.refl _ _
end

section
variable (d : Nat) (σ : Store)
theorem of_ok {F G : Nat → Prop} (l x : AVal) (es : List AVal) (ds : List Dg) (p : Dg) (hl : SlOf σ 5 l es) (hr : Two (DgOk σ F) es ds) (hx : DgOk σ G x p) (hn : ds.length < 2 ^ 40) (hs : ∀ q ∈ ds, q.bs.length < 2 ^ 40) :
    Called CN.cfg d 50 [l, x] σ fun r σ' => r = .int .i64 (ds.count p : Nat) ∧ Grows σ σ' := by
  refine called_of (fn := CN.a50) rfl (Nat.le_of_ble_eq_true rfl) ?_
  have ll := hl.len
  rw [hr.len] at ll
  obtain ⟨e, rfl, e2, e3⟩ := cp hx
  have e2' := e2
  simp only [CN.a50, Dg.val]
  simp -dsimp only [↓WPd, ↓wpC_cond, WPu, Bool.false_eq_true, Bool.true_eq_false, Bool.not_true, Bool.not_false, if_true, if_false, ite_true, ite_false, Nat.reduceEqDiff, Nat.reduceLT, true_and, List.map_cons, List.map_nil, Nat.zero_add, Nat.reduceBEq, all5 e2.one, cells_agg]
  have g1 : Grows σ (σ ++ [AObj.cells [.int .i64 p.f, .int .i64 p.t, .bool p.ack, .int .i64 p.s, e]]) := Grows.app _ _
  have o1 : (σ ++ [AObj.cells [.int .i64 p.f, .int .i64 p.t, .bool p.ack, .int .i64 p.s, e]])[σ.length]? = some (.cells [.int .i64 p.f, .int .i64 p.t, .bool p.ack, .int .i64 p.s, e]) := by simp
  generalize σ ++ [AObj.cells [.int .i64 p.f, .int .i64 p.t, .bool p.ack, .int .i64 p.s, e]] = σ1 at g1 o1
  rw [wpC_block]
  simp -dsimp only [↓WPd, ↓wpC_block, ↓wpC_cond, WPu, Bool.false_eq_true, Bool.true_eq_false, Bool.not_true, Bool.not_false, if_true, if_false, ite_true, ite_false, Nat.reduceEqDiff, Nat.reduceLT, true_and, List.map_cons, List.map_nil, Nat.zero_add, Nat.reduceBEq]
  refine loop_rule (fun m vs σ' => ∃ k : Nat, k ≤ ds.length ∧ m = ds.length - k ∧ Grows σ1 σ' ∧ vs = [l, .ptr σ.length 0, .int .i64 ((ds.take k).count p : Nat), .int .i64 k]) ds.length ⟨0, Nat.zero_le _, rfl, Keeps.refl _ _, ?_⟩ ?_
  · simp -dsimp only [↓WPd, ↓wpC_block, ↓wpC_cond, WPu, Bool.false_eq_true, Bool.true_eq_false, Bool.not_true, Bool.not_false, if_true, if_false, ite_true, ite_false, Nat.reduceEqDiff, Nat.reduceLT, true_and, List.map_cons, List.map_nil, Nat.zero_add, Nat.reduceBEq]; rfl
  · rintro m vs σ2 ⟨k, hk, rfl, g2, rfl⟩
    simp -dsimp only [↓WPd, ↓wpC_block, ↓wpC_cond, WPu, Bool.false_eq_true, Bool.true_eq_false, Bool.not_true, Bool.not_false, if_true, if_false, ite_true, ite_false, Nat.reduceEqDiff, Nat.reduceLT, true_and, List.map_cons, List.map_nil, Nat.zero_add, Nat.reduceBEq, ll]
    refine condP_dec (fun hc => ?_) (fun hc => ?_)
    · have hk' : k < ds.length := by omega
      have gg := g1.trans g2
      obtain ⟨u, a1, a2, a3, a4⟩ := Two.load5 (hl.grow gg) (hr.mono fun _ _ h => h.grow gg) hk'
      simp -dsimp only [↓WPd, ↓wpC_block, ↓wpC_cond, WPu, Bool.false_eq_true, Bool.true_eq_false, Bool.not_true, Bool.not_false, if_true, if_false, ite_true, ite_false, Nat.reduceEqDiff, Nat.reduceLT, true_and, List.map_cons, List.map_nil, Nat.zero_add, Nat.reduceBEq, a1, a2, loadN_cells (n := 5) (g2.get o1) rfl]
      refine calledW_of (samedg_ok d σ2 u (p.val e) ds[k] p a3 (G := G) ⟨e, rfl, e2.grow gg, e3⟩ (hs _ (List.getElem_mem hk'))) ?_
      rintro r σ3 ⟨rfl, g3⟩
      have cle : (ds.take k).count p ≤ k := Nat.le_trans List.count_le_length (by simp; omega)
      by_cases hq : ds[k] = p
      · have hc1 : (ds.take (k + 1)).count p = (ds.take k).count p + 1 := by
          rw [List.take_add_one, List.getElem?_eq_getElem hk', List.count_append]; simp [hq]
        simp -dsimp only [↓WPd, ↓wpC_block, ↓wpC_cond, WPu, Bool.false_eq_true, Bool.true_eq_false, Bool.not_true, Bool.not_false, if_true, if_false, ite_true, ite_false, Nat.reduceEqDiff, Nat.reduceLT, true_and, List.map_cons, List.map_nil, Nat.zero_add, Nat.reduceBEq, decide_eq_true hq]
        refine ⟨ds.length - (k + 1), by omega, k + 1, by omega, rfl, g2.trans g3, ?_⟩
        rw [hc1, wrap_i64 (by omega) (by omega), wrap_i64 (by omega) (by omega), Int.natCast_add, Int.natCast_add, Int.natCast_one]
      · have hc1 : (ds.take (k + 1)).count p = (ds.take k).count p := by
          rw [List.take_add_one, List.getElem?_eq_getElem hk', List.count_append]; simp [hq]
        simp -dsimp only [↓WPd, ↓wpC_block, ↓wpC_cond, WPu, Bool.false_eq_true, Bool.true_eq_false, Bool.not_true, Bool.not_false, if_true, if_false, ite_true, ite_false, Nat.reduceEqDiff, Nat.reduceLT, true_and, List.map_cons, List.map_nil, Nat.zero_add, Nat.reduceBEq, decide_eq_false hq]
        refine ⟨ds.length - (k + 1), by omega, k + 1, by omega, rfl, g2.trans g3, ?_⟩
        rw [hc1, wrap_i64 (by omega) (by omega), Int.natCast_add, Int.natCast_one]
    · simp -dsimp only [↓WPd, ↓wpC_block, ↓wpC_cond, WPu, Bool.false_eq_true, Bool.true_eq_false, Bool.not_true, Bool.not_false, if_true, if_false, ite_true, ite_false, Nat.reduceEqDiff, Nat.reduceLT, true_and, List.map_cons, List.map_nil, Nat.zero_add, Nat.reduceBEq]
      have : k = ds.length := by omega
      subst this
      rw [List.take_length]
      exact ⟨rfl, g1.trans g2⟩
end
end Go.Proofs.Ytmocplkpnickgaa.Am

/-
  Net, the document's.
-/
namespace Go.Proofs.Ytmocplkpnickgaa.Am
open Go
set_option linter.unusedVariables false
set_option linter.unusedSimpArgs false
set_option linter.unusedSectionVars false
set_option maxRecDepth 100000

abbrev NoF : Nat → Prop := fun _ => False
/-- a network of the document's -/
structure RNetOk (σ : Store) (id : Nat) (v : AVal) (c0 c1 c2 c3 n : Int) (es : List AVal) (ds : List Dg) : Prop where
  obj : σ[id]? = some (.cells [v, .int .i64 n, .int .i64 c0, .int .i64 c1, .int .i64 c2, .int .i64 c3])
  own : Own σ 5 v es
  rows : Two (DgOk σ NoF) es ds
theorem DgOk.free {σ σ' : Store} {x : AVal} {d : Dg} (h : DgOk σ NoF x d) {M : Nat → Prop} (k : Keeps M σ σ') : DgOk σ' NoF x d := h.keeps k fun _ h => h.elim
theorem rows_free {σ σ' : Store} {es : List AVal} {ds : List Dg} (h : Two (DgOk σ NoF) es ds) {M : Nat → Prop} (k : Keeps M σ σ') : Two (DgOk σ' NoF) es ds := h.mono fun _ _ h => h.free k
theorem RNetOk.grow {σ σ' : Store} {id : Nat} {v : AVal} {c0 c1 c2 c3 n : Int} {es : List AVal} {ds : List Dg} (h : RNetOk σ id v c0 c1 c2 c3 n es ds) (g : Grows σ σ') : RNetOk σ' id v c0 c1 c2 c3 n es ds := ⟨g.get h.obj, h.own.grow g, rows_free h.rows g⟩
theorem RNetOk.keeps {σ σ' : Store} {M : Nat → Prop} {id : Nat} {v : AVal} {c0 c1 c2 c3 n : Int} {es : List AVal} {ds : List Dg} (h : RNetOk σ id v c0 c1 c2 c3 n es ds) (k : Keeps M σ σ') (hid : ¬ M id) (hv : ∀ j, v.sid = some j → ¬ M j) : RNetOk σ' id v c0 c1 c2 c3 n es ds :=
  ⟨k.get h.obj hid, h.own.keeps k hv, rows_free h.rows k⟩
/-- one of its cells is written -/
theorem RNetOk.put {σ : Store} {id : Nat} {v : AVal} {c0 c1 c2 c3 n b0 b1 b2 b3 : Int} {es : List AVal} {ds : List Dg} (h : RNetOk σ id v c0 c1 c2 c3 n es ds) :
    RNetOk (σ.set id (.cells [v, .int .i64 n, .int .i64 b0, .int .i64 b1, .int .i64 b2, .int .i64 b3])) id v b0 b1 b2 b3 n es ds :=
  ⟨get_set h.obj, h.own.keeps (Keeps.set _ _ _) fun i hi hm => h.own.noCell h.obj (by rw [← hm]; exact hi), rows_free h.rows (Keeps.set _ _ _)⟩
theorem NetOk.put {σ : Store} {F : Nat → Prop} {id : Nat} {v : AVal} {c0 c1 c2 c3 n b0 b1 b2 b3 : Int} {es : List AVal} {ds : List Dg} (h : NetOk σ F id v c0 c1 c2 c3 n es ds) :
    NetOk (σ.set id (.cells [.int .i64 b0, .int .i64 b1, .int .i64 b2, .int .i64 b3, .int .i64 n, v])) F id v b0 b1 b2 b3 n es ds :=
  ⟨get_set h.obj, h.own.keeps (Keeps.set _ _ _) fun i hi hm => h.own.noCell h.obj (by rw [← hm]; exact hi), h.rows.mono fun _ _ hh => by
    obtain ⟨b, b1, b2, b3⟩ := hh
    exact ⟨b, b1, b2.keeps (Keeps.set _ _ _) fun j hj hm => b2.noCell h.obj (by rw [← hm]; exact hj), b3⟩⟩

section
variable (d : Nat) (σ : Store)

theorem refnew_ok (n : Int) (hn : 1 ≤ n ∧ n ≤ 4) : Called CN.cfg d 56 [.int .i64 n] σ fun r σ' => ∃ id, r = .tuple [.ptr id 0, .int .i64 0] ∧ RNetOk σ' id .nilslice 0 0 0 0 n [] [] ∧ Grows σ σ' ∧ id = σ.length := by
  refine called_of (fn := CN.a56) rfl (Nat.le_of_ble_eq_true rfl) ?_
  have d1 : decide (n < 1) = false := decide_eq_false (by omega)
  have d2 : decide (n > 4) = false := decide_eq_false (by omega)
  have e1 : fillA [AVal.nilslice, .int .i64 0, .int .i64 0, .int .i64 0, .int .i64 0, .int .i64 0] [(1, 1, .int .i64 n)] = some [AVal.nilslice, .int .i64 n, .int .i64 0, .int .i64 0, .int .i64 0, .int .i64 0] := rfl
  have e2 : [AVal.nilslice, .int .i64 n, .int .i64 0, .int .i64 0, .int .i64 0, .int .i64 0].all AVal.one = true := rfl
  simp only [CN.a56]
  simp -dsimp only [↓WPd, ↓wpC_block, ↓wpC_cond, WPu, Bool.false_eq_true, Bool.true_eq_false, Bool.not_true, Bool.not_false, if_true, if_false, ite_true, ite_false, Nat.reduceEqDiff, Nat.reduceLT, true_and, List.map_cons, List.map_nil, Nat.zero_add, Nat.reduceBEq, d1, d2, e1, e2, cells_agg]
  exact ⟨σ.length, rfl, ⟨by simp, Own.nil _ _, .nil⟩, Grows.app _ _, rfl⟩

theorem netnew_no (n : Int) (hn : ¬ (1 ≤ n ∧ n ≤ 4)) : Called CN.cfg d 43 [.int .i64 n] σ fun r σ' => r = .tuple [.nilptr, .int .i64 2] ∧ σ' = σ := by
  refine called_of (fn := CN.a43) rfl (Nat.le_of_ble_eq_true rfl) ?_
  simp only [CN.a43]
  by_cases h : n < 1
  · simp -dsimp only [↓WPd, ↓wpC_block, ↓wpC_cond, WPu, Bool.false_eq_true, Bool.true_eq_false, Bool.not_true, Bool.not_false, if_true, if_false, ite_true, ite_false, Nat.reduceEqDiff, Nat.reduceLT, true_and, List.map_cons, List.map_nil, Nat.zero_add, Nat.reduceBEq, decide_eq_true h, and_self]
  · have d2 : decide (n > 4) = true := decide_eq_true (by omega)
    simp -dsimp only [↓WPd, ↓wpC_block, ↓wpC_cond, WPu, Bool.false_eq_true, Bool.true_eq_false, Bool.not_true, Bool.not_false, if_true, if_false, ite_true, ite_false, Nat.reduceEqDiff, Nat.reduceLT, true_and, List.map_cons, List.map_nil, Nat.zero_add, Nat.reduceBEq, decide_eq_false h, d2, and_self]
theorem refnew_no (n : Int) (hn : ¬ (1 ≤ n ∧ n ≤ 4)) : Called CN.cfg d 56 [.int .i64 n] σ fun r σ' => r = .tuple [.nilptr, .int .i64 2] ∧ σ' = σ := by
  refine called_of (fn := CN.a56) rfl (Nat.le_of_ble_eq_true rfl) ?_
  simp only [CN.a56]
  by_cases h : n < 1
  · simp -dsimp only [↓WPd, ↓wpC_block, ↓wpC_cond, WPu, Bool.false_eq_true, Bool.true_eq_false, Bool.not_true, Bool.not_false, if_true, if_false, ite_true, ite_false, Nat.reduceEqDiff, Nat.reduceLT, true_and, List.map_cons, List.map_nil, Nat.zero_add, Nat.reduceBEq, decide_eq_true h, and_self]
  · have d2 : decide (n > 4) = true := decide_eq_true (by omega)
    simp -dsimp only [↓WPd, ↓wpC_block, ↓wpC_cond, WPu, Bool.false_eq_true, Bool.true_eq_false, Bool.not_true, Bool.not_false, if_true, if_false, ite_true, ite_false, Nat.reduceEqDiff, Nat.reduceLT, true_and, List.map_cons, List.map_nil, Nat.zero_add, Nat.reduceBEq, decide_eq_false h, d2, and_self]

set_option maxHeartbeats 2000000 in
theorem wrong_ok {F : Nat → Prop} (id : Nat) (v c0 c1 c2 c3 : AVal) (n : Int) (ho : σ[id]? = some (.cells [v, .int .i64 n, c0, c1, c2, c3])) (x : AVal) (p : Dg) (hx : DgOk σ F x p) :
    Called CN.cfg d 97 [.ptr id 0, x] σ fun r σ' => r = .int .i64 (wrongD n p) ∧ Grows σ σ' := by
  obtain ⟨e, rfl, he, -⟩ := hx
  refine called_of (fn := CN.a97) rfl (Nat.le_of_ble_eq_true rfl) ?_
  simp only [CN.a97, Dg.val]
  have lb := he.len
  rw [B_len] at lb
  simp -dsimp only [↓WPd, ↓wpC_cond, WPu, Bool.false_eq_true, Bool.true_eq_false, Bool.not_true, Bool.not_false, if_true, if_false, ite_true, ite_false, Nat.reduceEqDiff, Nat.reduceLT, true_and, List.map_cons, List.map_nil, Nat.zero_add, Nat.reduceBEq, all5 he.one, cells_agg]
  have g0 : Grows σ (σ ++ [AObj.cells [.int .i64 p.f, .int .i64 p.t, .bool p.ack, .int .i64 p.s, e]]) := Grows.app _ _
  have o2 : (σ ++ [AObj.cells [.int .i64 p.f, .int .i64 p.t, .bool p.ack, .int .i64 p.s, e]])[σ.length]? = some (.cells [.int .i64 p.f, .int .i64 p.t, .bool p.ack, .int .i64 p.s, e]) := by simp
  have o3 := g0.get ho
  generalize σ ++ [AObj.cells [.int .i64 p.f, .int .i64 p.t, .bool p.ack, .int .i64 p.s, e]] = σ1 at g0 o2 o3
  have two : wrongD n p = 2 → AVal.int .i64 2 = .int .i64 (wrongD n p) ∧ Grows σ σ1 := fun h => ⟨by rw [h], g0⟩
  by_cases hA : 0 ≤ p.f
  · have dA : decide (p.f < 0) = false := decide_eq_false (by omega)
    by_cases hA' : p.f < n
    · have dA' : decide (p.f ≥ n) = false := decide_eq_false (by omega)
      by_cases hB : 0 ≤ p.t
      · have dB : decide (p.t < 0) = false := decide_eq_false (by omega)
        by_cases hB' : p.t < n
        · have dB' : decide (p.t ≥ n) = false := decide_eq_false (by omega)
          by_cases hC : p.f = p.t
          · have c3 : (p.f == p.t) = true := by simp [hC]
            simp -dsimp only [↓WPd, ↓wpC_block, ↓wpC_cond, WPu, Bool.false_eq_true, Bool.true_eq_false, Bool.not_true, Bool.not_false, if_true, if_false, ite_true, ite_false, Nat.reduceEqDiff, Nat.reduceLT, true_and, List.map_cons, List.map_nil, Nat.zero_add, Nat.reduceBEq, faddr_ptr, load_cells o2, load_cells o3, List.getElem?_cons_zero, List.getElem?_cons_succ, dA, dA', dB, dB', c3]
            exact two (by unfold wrongD; rw [if_neg]; simp [hC])
          · have c3 : (p.f == p.t) = false := by simp [hC]
            by_cases hD : p.s < 0
            · simp -dsimp only [↓WPd, ↓wpC_block, ↓wpC_cond, WPu, Bool.false_eq_true, Bool.true_eq_false, Bool.not_true, Bool.not_false, if_true, if_false, ite_true, ite_false, Nat.reduceEqDiff, Nat.reduceLT, true_and, List.map_cons, List.map_nil, Nat.zero_add, Nat.reduceBEq, faddr_ptr, load_cells o2, load_cells o3, List.getElem?_cons_zero, List.getElem?_cons_succ, dA, dA', dB, dB', c3, decide_eq_true hD]
              exact two (by unfold wrongD; rw [if_neg]; simp [hD])
            · have hw : wrongD n p = (if 65536 < p.bs.length then 5 else if p.ack = true ∧ 0 < p.bs.length then 6 else 0) := by unfold wrongD; rw [if_pos ⟨⟨hA, hA'⟩, ⟨hB, hB'⟩, hC, hD⟩]
              by_cases hE : 65536 < p.bs.length
              · have d5 : decide (((p.bs.length : Nat) : Int) > 65536) = true := decide_eq_true (by omega)
                simp -dsimp only [↓WPd, ↓wpC_block, ↓wpC_cond, WPu, Bool.false_eq_true, Bool.true_eq_false, Bool.not_true, Bool.not_false, if_true, if_false, ite_true, ite_false, Nat.reduceEqDiff, Nat.reduceLT, true_and, List.map_cons, List.map_nil, Nat.zero_add, Nat.reduceBEq, faddr_ptr, load_cells o2, load_cells o3, List.getElem?_cons_zero, List.getElem?_cons_succ, dA, dA', dB, dB', c3, decide_eq_false hD, lb, d5]
                exact ⟨by rw [hw, if_pos hE], g0⟩
              · have d5 : decide (((p.bs.length : Nat) : Int) > 65536) = false := decide_eq_false (by omega)
                cases ha : p.ack with
                | false =>
                  simp -dsimp only [↓WPd, ↓wpC_block, ↓wpC_cond, WPu, Bool.false_eq_true, Bool.true_eq_false, Bool.not_true, Bool.not_false, if_true, if_false, ite_true, ite_false, Nat.reduceEqDiff, Nat.reduceLT, true_and, List.map_cons, List.map_nil, Nat.zero_add, Nat.reduceBEq, faddr_ptr, load_cells o2, load_cells o3, List.getElem?_cons_zero, List.getElem?_cons_succ, dA, dA', dB, dB', c3, decide_eq_false hD, lb, d5, ha]
                  exact ⟨by rw [hw, if_neg hE, if_neg (by simp [ha])], g0⟩
                | true =>
                  by_cases hG : 0 < p.bs.length
                  · have d6 : decide (((p.bs.length : Nat) : Int) > 0) = true := decide_eq_true (by omega)
                    simp -dsimp only [↓WPd, ↓wpC_block, ↓wpC_cond, WPu, Bool.false_eq_true, Bool.true_eq_false, Bool.not_true, Bool.not_false, if_true, if_false, ite_true, ite_false, Nat.reduceEqDiff, Nat.reduceLT, true_and, List.map_cons, List.map_nil, Nat.zero_add, Nat.reduceBEq, faddr_ptr, load_cells o2, load_cells o3, List.getElem?_cons_zero, List.getElem?_cons_succ, dA, dA', dB, dB', c3, decide_eq_false hD, lb, d5, ha, d6]
                    exact ⟨by rw [hw, if_neg hE, if_pos ⟨ha, hG⟩], g0⟩
                  · have d6 : decide (((p.bs.length : Nat) : Int) > 0) = false := decide_eq_false (by omega)
                    simp -dsimp only [↓WPd, ↓wpC_block, ↓wpC_cond, WPu, Bool.false_eq_true, Bool.true_eq_false, Bool.not_true, Bool.not_false, if_true, if_false, ite_true, ite_false, Nat.reduceEqDiff, Nat.reduceLT, true_and, List.map_cons, List.map_nil, Nat.zero_add, Nat.reduceBEq, faddr_ptr, load_cells o2, load_cells o3, List.getElem?_cons_zero, List.getElem?_cons_succ, dA, dA', dB, dB', c3, decide_eq_false hD, lb, d5, ha, d6]
                    exact ⟨by rw [hw, if_neg hE, if_neg (by simp [hG])], g0⟩
        · have dB' : decide (p.t ≥ n) = true := decide_eq_true (by omega)
          simp -dsimp only [↓WPd, ↓wpC_block, ↓wpC_cond, WPu, Bool.false_eq_true, Bool.true_eq_false, Bool.not_true, Bool.not_false, if_true, if_false, ite_true, ite_false, Nat.reduceEqDiff, Nat.reduceLT, true_and, List.map_cons, List.map_nil, Nat.zero_add, Nat.reduceBEq, faddr_ptr, load_cells o2, load_cells o3, List.getElem?_cons_zero, List.getElem?_cons_succ, dA, dA', dB, dB']
          exact two (by unfold wrongD; rw [if_neg]; exact fun h => hB' h.2.1.2)
      · have dB : decide (p.t < 0) = true := decide_eq_true (by omega)
        simp -dsimp only [↓WPd, ↓wpC_block, ↓wpC_cond, WPu, Bool.false_eq_true, Bool.true_eq_false, Bool.not_true, Bool.not_false, if_true, if_false, ite_true, ite_false, Nat.reduceEqDiff, Nat.reduceLT, true_and, List.map_cons, List.map_nil, Nat.zero_add, Nat.reduceBEq, faddr_ptr, load_cells o2, load_cells o3, List.getElem?_cons_zero, List.getElem?_cons_succ, dA, dA', dB]
        exact two (by unfold wrongD; rw [if_neg]; exact fun h => hB h.2.1.1)
    · have dA' : decide (p.f ≥ n) = true := decide_eq_true (by omega)
      simp -dsimp only [↓WPd, ↓wpC_block, ↓wpC_cond, WPu, Bool.false_eq_true, Bool.true_eq_false, Bool.not_true, Bool.not_false, if_true, if_false, ite_true, ite_false, Nat.reduceEqDiff, Nat.reduceLT, true_and, List.map_cons, List.map_nil, Nat.zero_add, Nat.reduceBEq, faddr_ptr, load_cells o2, load_cells o3, List.getElem?_cons_zero, List.getElem?_cons_succ, dA, dA']
      exact two (by unfold wrongD; rw [if_neg]; exact fun h => hA' h.1.2)
  · have dA : decide (p.f < 0) = true := decide_eq_true (by omega)
    simp -dsimp only [↓WPd, ↓wpC_block, ↓wpC_cond, WPu, Bool.false_eq_true, Bool.true_eq_false, Bool.not_true, Bool.not_false, if_true, if_false, ite_true, ite_false, Nat.reduceEqDiff, Nat.reduceLT, true_and, List.map_cons, List.map_nil, Nat.zero_add, Nat.reduceBEq, faddr_ptr, load_cells o2, load_cells o3, List.getElem?_cons_zero, List.getElem?_cons_succ, dA]
    exact two (by unfold wrongD; rw [if_neg]; exact fun h => hA h.1.1)
end

section
variable (d : Nat) (σ : Store) (id : Nat) (v : AVal) (c0 c1 c2 c3 n : Int) (es : List AVal) (ds : List Dg) (h : RNetOk σ id v c0 c1 c2 c3 n es ds) (hl : ds.length < 2 ^ 39)
include h hl

theorem refsend_ok (l : AVal) (fs : List AVal) (xs : List Dg) (hL : SlOf [] 5 l fs) (hx : Two (DgOk [] NoF) fs xs) (hn : xs.length < 2 ^ 39) :
    Called CN.cfg d 83 [.ptr id 0, l] σ fun r σ' => r = .int .i64 (sendE n xs) ∧
      if sendE n xs = 0 then Keeps (fun i => i = id ∨ v.sid = some i) σ σ' ∧ ∃ v' es', RNetOk σ' id v' (IntKind.i64.wrap (c0 + xs.length)) c1 c2 c3 n es' (ds ++ xs) ∧ ∀ j, v'.sid = some j → v.sid = some j ∨ σ.length ≤ j
      else Grows σ σ' := by
  refine called_of (fn := CN.a83) rfl (Nat.le_of_ble_eq_true rfl) ?_
  have ll := hL.len
  rw [hx.len] at ll
  simp only [CN.a83]
  simp -dsimp only [↓WPd, ↓wpC_block, ↓wpC_cond, WPu, Bool.false_eq_true, Bool.true_eq_false, Bool.not_true, Bool.not_false, if_true, if_false, ite_true, ite_false, Nat.reduceEqDiff, Nat.reduceLT, true_and, List.map_cons, List.map_nil, Nat.zero_add, Nat.reduceBEq, isnil_ptr, ll]
  refine loop_rule (fun m vs σ' => ∃ k : Nat, k ≤ xs.length ∧ m = xs.length - k ∧ Grows σ σ' ∧ sendE n xs = sendE n (xs.drop k) ∧ vs = [.ptr id 0, l, .int .i64 k]) xs.length
    ⟨0, Nat.zero_le _, rfl, Keeps.refl _ _, rfl, ?_⟩ ?_
  · simp -dsimp only [↓WPd, ↓wpC_block, ↓wpC_cond, WPu, Bool.false_eq_true, Bool.true_eq_false, Bool.not_true, Bool.not_false, if_true, if_false, ite_true, ite_false, Nat.reduceEqDiff, Nat.reduceLT, true_and, List.map_cons, List.map_nil, Nat.zero_add, Nat.reduceBEq]; rfl
  · rintro m vs σ1 ⟨k, hk, rfl, g, he, rfl⟩
    simp -dsimp only [↓WPd, ↓wpC_block, ↓wpC_cond, WPu, Bool.false_eq_true, Bool.true_eq_false, Bool.not_true, Bool.not_false, if_true, if_false, ite_true, ite_false, Nat.reduceEqDiff, Nat.reduceLT, true_and, List.map_cons, List.map_nil, Nat.zero_add, Nat.reduceBEq, ll]
    refine condP_dec (fun hc => ?_) (fun hc => ?_)
    · have hk' : k < xs.length := by omega
      obtain ⟨u, a1, a2, a3, a4⟩ := Two.load5 (hL.grow (grows_nil σ1)) (rows_free hx (grows_nil σ1)) hk'
      rw [sendE_drop hk'] at he
      simp -dsimp only [↓WPd, ↓wpC_block, ↓wpC_cond, WPu, Bool.false_eq_true, Bool.true_eq_false, Bool.not_true, Bool.not_false, if_true, if_false, ite_true, ite_false, Nat.reduceEqDiff, Nat.reduceLT, true_and, List.map_cons, List.map_nil, Nat.zero_add, Nat.reduceBEq, a1, a2]
      refine calledW_of (wrong_ok d σ1 id v _ _ _ _ n (g.get h.obj) u xs[k] a3) ?_
      rintro r σ2 ⟨rfl, g2⟩
      by_cases hw : wrongD n xs[k] = 0
      · rw [if_pos hw] at he
        have cw : (wrongD n xs[k] != 0) = false := by simp [hw]
        simp -dsimp only [↓WPd, ↓wpC_block, ↓wpC_cond, WPu, Bool.false_eq_true, Bool.true_eq_false, Bool.not_true, Bool.not_false, if_true, if_false, ite_true, ite_false, Nat.reduceEqDiff, Nat.reduceLT, true_and, List.map_cons, List.map_nil, Nat.zero_add, Nat.reduceBEq, cw]
        refine ⟨xs.length - (k + 1), by omega, k + 1, by omega, rfl, g.trans g2, he, ?_⟩
        rw [wrap_i64 (by omega) (by omega), Int.natCast_add, Int.natCast_one]
      · rw [if_neg hw] at he
        have cw : (wrongD n xs[k] != 0) = true := by simp [hw]
        simp -dsimp only [↓WPd, ↓wpC_block, ↓wpC_cond, WPu, Bool.false_eq_true, Bool.true_eq_false, Bool.not_true, Bool.not_false, if_true, if_false, ite_true, ite_false, Nat.reduceEqDiff, Nat.reduceLT, true_and, List.map_cons, List.map_nil, Nat.zero_add, Nat.reduceBEq, cw]
        rw [he, if_neg hw]
        exact ⟨rfl, g.trans g2⟩
    · have : k = xs.length := by omega
      subst this
      rw [List.drop_length] at he
      have h0 : sendE n xs = 0 := he
      have N1 := h.grow g
      have lr := h.rows.len
      have lf := hx.len
      obtain ⟨w, σ4, p1, p2, p3, p4, _⟩ := N1.own.append fs 56 (by omega)
      have o4 := p3.get N1.obj (N1.own.noCell N1.obj)
      have stw := store_cells o4 (off := 0) (by simp) (v := w) p2.one
      simp only [List.set_cons_zero, List.set_cons_succ] at stw
      have N4 : RNetOk (σ4.set id (.cells [w, .int .i64 n, .int .i64 c0, .int .i64 c1, .int .i64 c2, .int .i64 c3])) id w c0 c1 c2 c3 n (es ++ fs) (ds ++ xs) :=
        ⟨get_set o4, p2.keeps (Keeps.set _ _ _) fun i hi hm => p2.noCell o4 (by rw [← hm]; exact hi), rows_free ((rows_free N1.rows p3).append (rows_free hx (grows_nil σ4))) (Keeps.set _ _ _)⟩
      have k4 := Keeps.set σ4 id (.cells [w, .int .i64 n, .int .i64 c0, .int .i64 c1, .int .i64 c2, .int .i64 c3])
      generalize σ4.set id (.cells [w, .int .i64 n, .int .i64 c0, .int .i64 c1, .int .i64 c2, .int .i64 c3]) = σ5 at stw N4 k4
      have st5 := store_cells N4.obj (off := 2) (by simp) (v := .int .i64 (IntKind.i64.wrap (c0 + xs.length))) rfl
      simp only [List.set_cons_zero, List.set_cons_succ] at st5
      have aa : aaddrV 4 1 (.ptr id 2) (.int .i64 0) = some (.ptr id 2) := rfl
      simp -dsimp only [↓WPd, ↓wpC_block, ↓wpC_cond, WPu, Bool.false_eq_true, Bool.true_eq_false, Bool.not_true, Bool.not_false, if_true, if_false, ite_true, ite_false, Nat.reduceEqDiff, Nat.reduceLT, true_and, List.map_cons, List.map_nil, Nat.zero_add, Nat.reduceBEq, faddr_ptr, load_cells N1.obj, List.getElem?_cons_zero, List.getElem?_cons_succ, (hL.grow (grows_nil σ1)).els, p1, stw, aa, load_cells N4.obj, ll, st5]
      rw [if_pos h0, h0]
      refine ⟨rfl, ?_, w, es ++ fs, N4.put, fun j hj => ?_⟩
      · refine Keeps.trans (Keeps.trans (Keeps.trans (Grows.any g) p3 fun i hi hm => .inr hm) k4 fun i hi hm => .inl hm) (Keeps.set _ _ _) fun i hi hm => .inl hm
      · rcases p4 j hj with h | h
        · exact .inl h
        · have := g.1; exact .inr (by omega)

theorem refat_ok (k : Int) :
    Called CN.cfg d 98 [.ptr id 0, .int .i64 k] σ fun r σ' => r = .int .i64 (if 0 ≤ k ∧ k < ds.length then 0 else 4) ∧ σ' = σ := by
  refine called_of (fn := CN.a98) rfl (Nat.le_of_ble_eq_true rfl) ?_
  have ll := h.own.sl.len
  rw [h.rows.len] at ll
  simp only [CN.a98]
  by_cases h1 : k < 0
  · rw [if_neg (by omega)]
    simp -dsimp only [↓WPd, ↓wpC_block, ↓wpC_cond, WPu, Bool.false_eq_true, Bool.true_eq_false, Bool.not_true, Bool.not_false, if_true, if_false, ite_true, ite_false, Nat.reduceEqDiff, Nat.reduceLT, true_and, List.map_cons, List.map_nil, Nat.zero_add, Nat.reduceBEq, isnil_ptr, decide_eq_true h1, and_self]
  · by_cases h2 : k < ds.length
    · have d2 : decide (k ≥ (ds.length : Int)) = false := decide_eq_false (by omega)
      rw [if_pos (by omega)]
      simp -dsimp only [↓WPd, ↓wpC_block, ↓wpC_cond, WPu, Bool.false_eq_true, Bool.true_eq_false, Bool.not_true, Bool.not_false, if_true, if_false, ite_true, ite_false, Nat.reduceEqDiff, Nat.reduceLT, true_and, List.map_cons, List.map_nil, Nat.zero_add, Nat.reduceBEq, isnil_ptr, decide_eq_false h1, faddr_ptr, load_cells h.obj, List.getElem?_cons_zero, List.getElem?_cons_succ, ll, d2, and_self]
    · have d2 : decide (k ≥ (ds.length : Int)) = true := decide_eq_true (by omega)
      rw [if_neg (by omega)]
      simp -dsimp only [↓WPd, ↓wpC_block, ↓wpC_cond, WPu, Bool.false_eq_true, Bool.true_eq_false, Bool.not_true, Bool.not_false, if_true, if_false, ite_true, ite_false, Nat.reduceEqDiff, Nat.reduceLT, true_and, List.map_cons, List.map_nil, Nat.zero_add, Nat.reduceBEq, isnil_ptr, decide_eq_false h1, faddr_ptr, load_cells h.obj, List.getElem?_cons_zero, List.getElem?_cons_succ, ll, d2, and_self]

set_option maxHeartbeats 1000000 in
theorem refout1_ok (k : Nat) (hk : k < ds.length) : Called CN.cfg d 99 [.ptr id 0, .int .i64 k, .int .i64 1] σ fun r σ' => DgOk σ' NoF r ds[k] ∧ Keeps (fun i => i = id) σ σ' ∧ ∃ v' es', RNetOk σ' id v' c0 (IntKind.i64.wrap (c1 + 1)) c2 c3 n es' (outL ds k) ∧ Fresh σ.length v' := by
  refine called_of (fn := CN.a99) rfl (Nat.le_of_ble_eq_true rfl) ?_
  have lr := h.rows.len
  obtain ⟨u, u1, u2⟩ := h.rows.get hk
  obtain ⟨e, rfl, e2, e3⟩ := cp u2
  have hi : k < es.length := by omega
  have eu : es[k] = ds[k].val e := by rw [List.getElem?_eq_getElem hi] at u1; exact Option.some.inj u1
  have g1 : Grows σ (σ ++ [AObj.cells [.int .i64 0, .int .i64 0, .bool false, .int .i64 0, .nilslice]]) := Grows.app _ _
  have o1 : (σ ++ [AObj.cells [.int .i64 0, .int .i64 0, .bool false, .int .i64 0, .nilslice]])[σ.length]? = some (.cells [.int .i64 0, .int .i64 0, .bool false, .int .i64 0, .nilslice]) := by simp
  simp only [CN.a99]
  simp -dsimp only [↓WPd, ↓wpC_block, ↓wpC_cond, WPu, Bool.false_eq_true, Bool.true_eq_false, Bool.not_true, Bool.not_false, if_true, if_false, ite_true, ite_false, Nat.reduceEqDiff, Nat.reduceLT, true_and, List.map_cons, List.map_nil, Nat.zero_add, Nat.reduceBEq]
  have l1 : (σ ++ [AObj.cells [.int .i64 0, .int .i64 0, .bool false, .int .i64 0, .nilslice]]).length = σ.length + 1 := by simp
  generalize σ ++ [AObj.cells [.int .i64 0, .int .i64 0, .bool false, .int .i64 0, .nilslice]] = σ1 at g1 o1 l1
  have N1 := h.grow g1
  have ld := N1.own.sl.loadA hi (by rw [eu]; rfl)
  have ld' : loadV σ1 5 true (addrOf 5 v k) = some (.agg [.int .i64 ds[k].f, .int .i64 ds[k].t, .bool ds[k].ack, .int .i64 ds[k].s, e]) := ld
  have st := new_store (σ := σ1) (n := 5) (zs := [.int .i64 0, .int .i64 0, .bool false, .int .i64 0, .nilslice]) rfl (cs := [.int .i64 ds[k].f, .int .i64 ds[k].t, .bool ds[k].ack, .int .i64 ds[k].s, e]) rfl (all5 e2.one _ _ _ _)
  simp -dsimp only [↓WPd, ↓wpC_block, ↓wpC_cond, WPu, Bool.false_eq_true, Bool.true_eq_false, Bool.not_true, Bool.not_false, if_true, if_false, ite_true, ite_false, Nat.reduceEqDiff, Nat.reduceLT, true_and, List.map_cons, List.map_nil, Nat.zero_add, Nat.reduceBEq, faddr_ptr, load_cells N1.obj, List.getElem?_cons_zero, List.getElem?_cons_succ, N1.own.sl.iaddr hi, ld', st]
  have g2 : Grows σ1 (σ1 ++ [AObj.cells [.int .i64 ds[k].f, .int .i64 ds[k].t, .bool ds[k].ack, .int .i64 ds[k].s, e]]) := Grows.app _ _
  have o2 : (σ1 ++ [AObj.cells [.int .i64 ds[k].f, .int .i64 ds[k].t, .bool ds[k].ack, .int .i64 ds[k].s, e]])[σ1.length]? = some (.cells [.int .i64 ds[k].f, .int .i64 ds[k].t, .bool ds[k].ack, .int .i64 ds[k].s, e]) := by simp
  generalize hj : σ1.length = j at o2
  generalize σ1 ++ [AObj.cells [.int .i64 ds[k].f, .int .i64 ds[k].t, .bool ds[k].ack, .int .i64 ds[k].s, e]] = σ2 at g2 o2
  have N2 := N1.grow g2
  have idlt := (List.getElem?_eq_some_iff.1 h.obj).1
  obtain ⟨a, a1, a2, a3⟩ := N2.own.sl.sub_hi (hi := k) (by omega) .i64
  have e0 : fillL 5 true (List.replicate 0 (zel [AVal.int .i64 0, .int .i64 0, .bool false, .int .i64 0, .nilslice] true)) [] = some [] := rfl
  have ob : Own σ2 5 (.fslice (AVal.tagL []) true 5 []) [] := Own.lit _ _ _ _
  have lt : (es.take k).length = k := by simp; omega
  obtain ⟨x, σ3, p1, p2, p3, p4, _⟩ := ob.append (es.take k) 56 (by rw [lt]; simp; omega)
  rw [List.nil_append] at p2
  have g3 : Grows σ2 σ3 := p3.mono fun i hi hm => by cases hm
  have N3 := N2.grow g3
  obtain ⟨b, b1, b2, b3⟩ := N3.own.sl.sub_lo (lo := k + 1) (by omega) .i64
  have w : IntKind.i64.wrap ((k : Int) + 1) = ((k + 1 : Nat) : Int) := by rw [wrap_i64 (by omega) (by omega), Int.natCast_add, Int.natCast_one]
  obtain ⟨y, σ4, q1, q2, q3, q4, _⟩ := p2.append (es.drop (k + 1)) 56 (by rw [lt]; simp; omega)
  have xf : ∀ i, x.sid = some i → σ2.length ≤ i := fun i hi => by
    rcases p4 i hi with hh | hh
    · cases hh
    · omega
  have g24 : Grows σ2 σ4 := Keeps.trans g3 q3 fun i hi hm => by have := xf i hm; omega
  have N4 := N2.grow g24
  have stn := store_cells N4.obj (off := 0) (by simp) (v := y) q2.one
  simp only [List.set_cons_zero, List.set_cons_succ] at stn
  refine drawnP_of rfl ?_
  simp -dsimp only [↓WPd, ↓wpC_block, ↓wpC_cond, WPu, Bool.false_eq_true, Bool.true_eq_false, Bool.not_true, Bool.not_false, if_true, if_false, ite_true, ite_false, Nat.reduceEqDiff, Nat.reduceLT, true_and, List.map_cons, List.map_nil, Nat.zero_add, Nat.reduceBEq, ↓WPed, WPeu, Nat.reduceAdd, and_self, e0, faddr_ptr, load_cells N2.obj, load_cells N3.obj, List.getElem?_cons_zero, List.getElem?_cons_succ, oev, a1, a2.els, p1, w, b1, b2.els, q1, stn]
  have yf : ∀ i, y.sid = some i → σ2.length ≤ i := fun i hi => by
    rcases q4 i hi with hh | hh
    · exact xf i hh
    · have := g3.1; omega
  have k5 := Keeps.set σ4 id (.cells [y, .int .i64 n, .int .i64 c0, .int .i64 c1, .int .i64 c2, .int .i64 c3])
  have rows5 : Two (DgOk (σ4.set id (.cells [y, .int .i64 n, .int .i64 c0, .int .i64 c1, .int .i64 c2, .int .i64 c3])) NoF) es ds := rows_free N4.rows k5
  have N5 : RNetOk (σ4.set id (.cells [y, .int .i64 n, .int .i64 c0, .int .i64 c1, .int .i64 c2, .int .i64 c3])) id y c0 c1 c2 c3 n (es.take k ++ es.drop (k + 1)) (outL ds k) :=
    ⟨get_set N4.obj, q2.keeps k5 fun i hi hm => q2.noCell N4.obj (by rw [← hm]; exact hi), (rows5.take k).append (rows5.drop (k + 1))⟩
  have o15 := k5.get (g24.get (g2.get o1)) (by omega)
  have o25 := k5.get (g24.get o2) (by omega)
  have gk : Keeps (fun i => i = id) σ (σ4.set id (.cells [y, .int .i64 n, .int .i64 c0, .int .i64 c1, .int .i64 c2, .int .i64 c3])) := Keeps.trans (Grows.any (g1.trans (g2.trans g24))) k5 fun i hi hm => hm
  generalize σ4.set id (.cells [y, .int .i64 n, .int .i64 c0, .int .i64 c1, .int .i64 c2, .int .i64 c3]) = σ5 at stn k5 rows5 N5 o15 o25 gk
  have aa : aaddrV 4 1 (.ptr id 2) (.int .i64 1) = some (.ptr id 3) := rfl
  have st6 := store_cells N5.obj (off := 3) (by simp) (v := .int .i64 (IntKind.i64.wrap (c1 + 1))) rfl
  simp only [List.set_cons_zero, List.set_cons_succ] at st6
  have N6 : RNetOk (σ5.set id (.cells [y, .int .i64 n, .int .i64 c0, .int .i64 (IntKind.i64.wrap (c1 + 1)), .int .i64 c2, .int .i64 c3])) id y c0 (IntKind.i64.wrap (c1 + 1)) c2 c3 n (es.take k ++ es.drop (k + 1)) (outL ds k) := N5.put
  have k6 := Keeps.set σ5 id (.cells [y, .int .i64 n, .int .i64 c0, .int .i64 (IntKind.i64.wrap (c1 + 1)), .int .i64 c2, .int .i64 c3])
  have o16 := k6.get o15 (by omega)
  have o26 := k6.get o25 (by omega)
  have ea : loadV σ5 1 false (.ptr id 3) = some (.int .i64 c1) := by rw [load_cells N5.obj]; rfl
  simp -dsimp only [↓WPd, ↓wpC_block, ↓wpC_cond, WPu, Bool.false_eq_true, Bool.true_eq_false, Bool.not_true, Bool.not_false, if_true, if_false, ite_true, ite_false, Nat.reduceEqDiff, Nat.reduceLT, true_and, List.map_cons, List.map_nil, Nat.zero_add, Nat.reduceBEq, faddr_ptr, aa, ea, st6]
  generalize σ5.set id (.cells [y, .int .i64 n, .int .i64 c0, .int .i64 (IntKind.i64.wrap (c1 + 1)), .int .i64 c2, .int .i64 c3]) = σ6 at k6 N6 o16 o26
  have st7 := storeN_cells (n := 5) o16 rfl (cs' := [.int .i64 ds[k].f, .int .i64 ds[k].t, .bool ds[k].ack, .int .i64 ds[k].s, e]) rfl (all5 e2.one _ _ _ _)
  have o7 := get_set (o' := .cells [.int .i64 ds[k].f, .int .i64 ds[k].t, .bool ds[k].ack, .int .i64 ds[k].s, e]) o16
  simp -dsimp only [↓WPd, ↓wpC_block, ↓wpC_cond, WPu, Bool.false_eq_true, Bool.true_eq_false, Bool.not_true, Bool.not_false, if_true, if_false, ite_true, ite_false, Nat.reduceEqDiff, Nat.reduceLT, true_and, List.map_cons, List.map_nil, Nat.zero_add, Nat.reduceBEq, loadN_cells (n := 5) o26 rfl, st7, loadN_cells (n := 5) o7 rfl]
  have k7 := Keeps.set σ6 σ.length (.cells [.int .i64 ds[k].f, .int .i64 ds[k].t, .bool ds[k].ack, .int .i64 ds[k].s, e])
  have l12 := g2.1
  refine ⟨(rows_free (rows_free rows5 k6) k7).at u1 (List.getElem?_eq_getElem hk), ?_, y, _, N6.keeps k7 (by omega) (fun j hj hm => by have := yf j hj; omega), fun j hj => by have := yf j hj; omega⟩
  exact Keeps.trans (Keeps.trans gk k6 fun i hi hm => hm) k7 fun i hi hm => by omega
set_option maxHeartbeats 1000000 in
theorem refout2_ok (k : Nat) (hk : k < ds.length) : Called CN.cfg d 99 [.ptr id 0, .int .i64 k, .int .i64 2] σ fun r σ' => DgOk σ' NoF r ds[k] ∧ Keeps (fun i => i = id) σ σ' ∧ ∃ v' es', RNetOk σ' id v' c0 c1 (IntKind.i64.wrap (c2 + 1)) c3 n es' (outL ds k) ∧ Fresh σ.length v' := by
  refine called_of (fn := CN.a99) rfl (Nat.le_of_ble_eq_true rfl) ?_
  have lr := h.rows.len
  obtain ⟨u, u1, u2⟩ := h.rows.get hk
  obtain ⟨e, rfl, e2, e3⟩ := cp u2
  have hi : k < es.length := by omega
  have eu : es[k] = ds[k].val e := by rw [List.getElem?_eq_getElem hi] at u1; exact Option.some.inj u1
  have g1 : Grows σ (σ ++ [AObj.cells [.int .i64 0, .int .i64 0, .bool false, .int .i64 0, .nilslice]]) := Grows.app _ _
  have o1 : (σ ++ [AObj.cells [.int .i64 0, .int .i64 0, .bool false, .int .i64 0, .nilslice]])[σ.length]? = some (.cells [.int .i64 0, .int .i64 0, .bool false, .int .i64 0, .nilslice]) := by simp
  simp only [CN.a99]
  simp -dsimp only [↓WPd, ↓wpC_block, ↓wpC_cond, WPu, Bool.false_eq_true, Bool.true_eq_false, Bool.not_true, Bool.not_false, if_true, if_false, ite_true, ite_false, Nat.reduceEqDiff, Nat.reduceLT, true_and, List.map_cons, List.map_nil, Nat.zero_add, Nat.reduceBEq]
  have l1 : (σ ++ [AObj.cells [.int .i64 0, .int .i64 0, .bool false, .int .i64 0, .nilslice]]).length = σ.length + 1 := by simp
  generalize σ ++ [AObj.cells [.int .i64 0, .int .i64 0, .bool false, .int .i64 0, .nilslice]] = σ1 at g1 o1 l1
  have N1 := h.grow g1
  have ld := N1.own.sl.loadA hi (by rw [eu]; rfl)
  have ld' : loadV σ1 5 true (addrOf 5 v k) = some (.agg [.int .i64 ds[k].f, .int .i64 ds[k].t, .bool ds[k].ack, .int .i64 ds[k].s, e]) := ld
  have st := new_store (σ := σ1) (n := 5) (zs := [.int .i64 0, .int .i64 0, .bool false, .int .i64 0, .nilslice]) rfl (cs := [.int .i64 ds[k].f, .int .i64 ds[k].t, .bool ds[k].ack, .int .i64 ds[k].s, e]) rfl (all5 e2.one _ _ _ _)
  simp -dsimp only [↓WPd, ↓wpC_block, ↓wpC_cond, WPu, Bool.false_eq_true, Bool.true_eq_false, Bool.not_true, Bool.not_false, if_true, if_false, ite_true, ite_false, Nat.reduceEqDiff, Nat.reduceLT, true_and, List.map_cons, List.map_nil, Nat.zero_add, Nat.reduceBEq, faddr_ptr, load_cells N1.obj, List.getElem?_cons_zero, List.getElem?_cons_succ, N1.own.sl.iaddr hi, ld', st]
  have g2 : Grows σ1 (σ1 ++ [AObj.cells [.int .i64 ds[k].f, .int .i64 ds[k].t, .bool ds[k].ack, .int .i64 ds[k].s, e]]) := Grows.app _ _
  have o2 : (σ1 ++ [AObj.cells [.int .i64 ds[k].f, .int .i64 ds[k].t, .bool ds[k].ack, .int .i64 ds[k].s, e]])[σ1.length]? = some (.cells [.int .i64 ds[k].f, .int .i64 ds[k].t, .bool ds[k].ack, .int .i64 ds[k].s, e]) := by simp
  generalize hj : σ1.length = j at o2
  generalize σ1 ++ [AObj.cells [.int .i64 ds[k].f, .int .i64 ds[k].t, .bool ds[k].ack, .int .i64 ds[k].s, e]] = σ2 at g2 o2
  have N2 := N1.grow g2
  have idlt := (List.getElem?_eq_some_iff.1 h.obj).1
  obtain ⟨a, a1, a2, a3⟩ := N2.own.sl.sub_hi (hi := k) (by omega) .i64
  have e0 : fillL 5 true (List.replicate 0 (zel [AVal.int .i64 0, .int .i64 0, .bool false, .int .i64 0, .nilslice] true)) [] = some [] := rfl
  have ob : Own σ2 5 (.fslice (AVal.tagL []) true 5 []) [] := Own.lit _ _ _ _
  have lt : (es.take k).length = k := by simp; omega
  obtain ⟨x, σ3, p1, p2, p3, p4, _⟩ := ob.append (es.take k) 56 (by rw [lt]; simp; omega)
  rw [List.nil_append] at p2
  have g3 : Grows σ2 σ3 := p3.mono fun i hi hm => by cases hm
  have N3 := N2.grow g3
  obtain ⟨b, b1, b2, b3⟩ := N3.own.sl.sub_lo (lo := k + 1) (by omega) .i64
  have w : IntKind.i64.wrap ((k : Int) + 1) = ((k + 1 : Nat) : Int) := by rw [wrap_i64 (by omega) (by omega), Int.natCast_add, Int.natCast_one]
  obtain ⟨y, σ4, q1, q2, q3, q4, _⟩ := p2.append (es.drop (k + 1)) 56 (by rw [lt]; simp; omega)
  have xf : ∀ i, x.sid = some i → σ2.length ≤ i := fun i hi => by
    rcases p4 i hi with hh | hh
    · cases hh
    · omega
  have g24 : Grows σ2 σ4 := Keeps.trans g3 q3 fun i hi hm => by have := xf i hm; omega
  have N4 := N2.grow g24
  have stn := store_cells N4.obj (off := 0) (by simp) (v := y) q2.one
  simp only [List.set_cons_zero, List.set_cons_succ] at stn
  refine drawnP_of rfl ?_
  simp -dsimp only [↓WPd, ↓wpC_block, ↓wpC_cond, WPu, Bool.false_eq_true, Bool.true_eq_false, Bool.not_true, Bool.not_false, if_true, if_false, ite_true, ite_false, Nat.reduceEqDiff, Nat.reduceLT, true_and, List.map_cons, List.map_nil, Nat.zero_add, Nat.reduceBEq, ↓WPed, WPeu, Nat.reduceAdd, and_self, e0, faddr_ptr, load_cells N2.obj, load_cells N3.obj, List.getElem?_cons_zero, List.getElem?_cons_succ, oev, a1, a2.els, p1, w, b1, b2.els, q1, stn]
  have yf : ∀ i, y.sid = some i → σ2.length ≤ i := fun i hi => by
    rcases q4 i hi with hh | hh
    · exact xf i hh
    · have := g3.1; omega
  have k5 := Keeps.set σ4 id (.cells [y, .int .i64 n, .int .i64 c0, .int .i64 c1, .int .i64 c2, .int .i64 c3])
  have rows5 : Two (DgOk (σ4.set id (.cells [y, .int .i64 n, .int .i64 c0, .int .i64 c1, .int .i64 c2, .int .i64 c3])) NoF) es ds := rows_free N4.rows k5
  have N5 : RNetOk (σ4.set id (.cells [y, .int .i64 n, .int .i64 c0, .int .i64 c1, .int .i64 c2, .int .i64 c3])) id y c0 c1 c2 c3 n (es.take k ++ es.drop (k + 1)) (outL ds k) :=
    ⟨get_set N4.obj, q2.keeps k5 fun i hi hm => q2.noCell N4.obj (by rw [← hm]; exact hi), (rows5.take k).append (rows5.drop (k + 1))⟩
  have o15 := k5.get (g24.get (g2.get o1)) (by omega)
  have o25 := k5.get (g24.get o2) (by omega)
  have gk : Keeps (fun i => i = id) σ (σ4.set id (.cells [y, .int .i64 n, .int .i64 c0, .int .i64 c1, .int .i64 c2, .int .i64 c3])) := Keeps.trans (Grows.any (g1.trans (g2.trans g24))) k5 fun i hi hm => hm
  generalize σ4.set id (.cells [y, .int .i64 n, .int .i64 c0, .int .i64 c1, .int .i64 c2, .int .i64 c3]) = σ5 at stn k5 rows5 N5 o15 o25 gk
  have aa : aaddrV 4 1 (.ptr id 2) (.int .i64 2) = some (.ptr id 4) := rfl
  have st6 := store_cells N5.obj (off := 4) (by simp) (v := .int .i64 (IntKind.i64.wrap (c2 + 1))) rfl
  simp only [List.set_cons_zero, List.set_cons_succ] at st6
  have N6 : RNetOk (σ5.set id (.cells [y, .int .i64 n, .int .i64 c0, .int .i64 c1, .int .i64 (IntKind.i64.wrap (c2 + 1)), .int .i64 c3])) id y c0 c1 (IntKind.i64.wrap (c2 + 1)) c3 n (es.take k ++ es.drop (k + 1)) (outL ds k) := N5.put
  have k6 := Keeps.set σ5 id (.cells [y, .int .i64 n, .int .i64 c0, .int .i64 c1, .int .i64 (IntKind.i64.wrap (c2 + 1)), .int .i64 c3])
  have o16 := k6.get o15 (by omega)
  have o26 := k6.get o25 (by omega)
  have ea : loadV σ5 1 false (.ptr id 4) = some (.int .i64 c2) := by rw [load_cells N5.obj]; rfl
  simp -dsimp only [↓WPd, ↓wpC_block, ↓wpC_cond, WPu, Bool.false_eq_true, Bool.true_eq_false, Bool.not_true, Bool.not_false, if_true, if_false, ite_true, ite_false, Nat.reduceEqDiff, Nat.reduceLT, true_and, List.map_cons, List.map_nil, Nat.zero_add, Nat.reduceBEq, faddr_ptr, aa, ea, st6]
  generalize σ5.set id (.cells [y, .int .i64 n, .int .i64 c0, .int .i64 c1, .int .i64 (IntKind.i64.wrap (c2 + 1)), .int .i64 c3]) = σ6 at k6 N6 o16 o26
  have st7 := storeN_cells (n := 5) o16 rfl (cs' := [.int .i64 ds[k].f, .int .i64 ds[k].t, .bool ds[k].ack, .int .i64 ds[k].s, e]) rfl (all5 e2.one _ _ _ _)
  have o7 := get_set (o' := .cells [.int .i64 ds[k].f, .int .i64 ds[k].t, .bool ds[k].ack, .int .i64 ds[k].s, e]) o16
  simp -dsimp only [↓WPd, ↓wpC_block, ↓wpC_cond, WPu, Bool.false_eq_true, Bool.true_eq_false, Bool.not_true, Bool.not_false, if_true, if_false, ite_true, ite_false, Nat.reduceEqDiff, Nat.reduceLT, true_and, List.map_cons, List.map_nil, Nat.zero_add, Nat.reduceBEq, loadN_cells (n := 5) o26 rfl, st7, loadN_cells (n := 5) o7 rfl]
  have k7 := Keeps.set σ6 σ.length (.cells [.int .i64 ds[k].f, .int .i64 ds[k].t, .bool ds[k].ack, .int .i64 ds[k].s, e])
  have l12 := g2.1
  refine ⟨(rows_free (rows_free rows5 k6) k7).at u1 (List.getElem?_eq_getElem hk), ?_, y, _, N6.keeps k7 (by omega) (fun j hj hm => by have := yf j hj; omega), fun j hj => by have := yf j hj; omega⟩
  exact Keeps.trans (Keeps.trans gk k6 fun i hi hm => hm) k7 fun i hi hm => by omega
end
end Go.Proofs.Ytmocplkpnickgaa.Am

/-
  Net, both: Deliver, Drop, Double of the document's; counts; who goes where; forks.
-/
namespace Go.Proofs.Ytmocplkpnickgaa.Am
open Go
set_option linter.unusedVariables false
set_option linter.unusedSimpArgs false
set_option linter.unusedSectionVars false
set_option maxRecDepth 100000

/-- numbers as elements -/
def I (l : List Nat) : List AVal := l.map fun (i : Nat) => .int .i64 ((i : Nat) : Int)
theorem I_len (l : List Nat) : (I l).length = l.length := by simp [I]
theorem I_get (l : List Nat) (i : Nat) (h : i < (I l).length) : (I l)[i] = .int .i64 (l[i]'(by simpa [I] using h) : Nat) := by simp [I]
theorem I_app (a b : List Nat) : I a ++ I b = I (a ++ b) := by simp [I]

/-- the numbers of those that go to a node, out of the first k -/
def toL (ds : List Dg) (node : Int) (k : Nat) : List Nat := (List.range k).filter fun i => (ds[i]?.map (·.t)) == some node
theorem toL_succ {ds : List Dg} {node : Int} {k : Nat} (hk : k < ds.length) : toL ds node (k + 1) = if ds[k].t = node then toL ds node k ++ [k] else toL ds node k := by
  unfold toL
  rw [List.range_succ, List.filter_append]
  by_cases h : ds[k].t = node
  · simp [List.getElem?_eq_getElem hk, h]
  · simp [List.getElem?_eq_getElem hk, h]
theorem toL_len (ds : List Dg) (node : Int) (k : Nat) : (toL ds node k).length ≤ k := by
  unfold toL
  exact Nat.le_trans (List.length_filter_le _ _) (by simp)

section
variable (d : Nat) (σ : Store)

theorem sameints_ok (a b : AVal) (x : List Nat) (hx : x.length < 2 ^ 40) (ha : SlOf σ 1 a (I x)) (hb : SlOf σ 1 b (I x)) : Called CN.cfg d 90 [a, b] σ fun v σ' => v = .bool true ∧ σ' = σ := by
  refine called_of (fn := CN.a90) rfl (Nat.le_of_ble_eq_true rfl) ?_
  have la := ha.len
  have lb := hb.len
  rw [I_len] at la lb
  have c0 : (((x.length : Nat) : Int) != ((x.length : Nat) : Int)) = false := by simp
  simp only [CN.a90]
  simp -dsimp only [↓WPd, ↓wpC_block, ↓wpC_cond, WPu, Bool.false_eq_true, Bool.true_eq_false, Bool.not_true, Bool.not_false, if_true, if_false, ite_true, ite_false, Nat.reduceEqDiff, Nat.reduceLT, true_and, List.map_cons, List.map_nil, Nat.zero_add, Nat.reduceBEq, la, lb, c0]
  refine loop_rule (fun m vs σ' => ∃ k : Nat, k ≤ x.length ∧ m = x.length - k ∧ σ' = σ ∧ vs = [a, b, .int .i64 k]) x.length ⟨0, Nat.zero_le _, rfl, rfl, ?_⟩ ?_
  · simp -dsimp only [↓WPd, ↓wpC_block, ↓wpC_cond, WPu, Bool.false_eq_true, Bool.true_eq_false, Bool.not_true, Bool.not_false, if_true, if_false, ite_true, ite_false, Nat.reduceEqDiff, Nat.reduceLT, true_and, List.map_cons, List.map_nil, Nat.zero_add, Nat.reduceBEq]; rfl
  · rintro m vs σ' ⟨k, hk, rfl, rfl, rfl⟩
    simp -dsimp only [↓WPd, ↓wpC_block, ↓wpC_cond, WPu, Bool.false_eq_true, Bool.true_eq_false, Bool.not_true, Bool.not_false, if_true, if_false, ite_true, ite_false, Nat.reduceEqDiff, Nat.reduceLT, true_and, List.map_cons, List.map_nil, Nat.zero_add, Nat.reduceBEq, la]
    refine condP_dec (fun h => ?_) (fun h => ?_)
    · have hi : k < (I x).length := by rw [I_len]; omega
      have c1 : (((x[k]'(by omega) : Nat) : Int) != ((x[k]'(by omega) : Nat) : Int)) = false := by simp
      simp -dsimp only [↓WPd, ↓wpC_block, ↓wpC_cond, WPu, Bool.false_eq_true, Bool.true_eq_false, Bool.not_true, Bool.not_false, if_true, if_false, ite_true, ite_false, Nat.reduceEqDiff, Nat.reduceLT, true_and, List.map_cons, List.map_nil, Nat.zero_add, Nat.reduceBEq, ha.iaddr hi, ha.load1 hi (by rw [I_get]; rfl), hb.iaddr hi, hb.load1 hi (by rw [I_get]; rfl), I_get, c1]
      refine ⟨x.length - (k + 1), by omega, k + 1, by omega, rfl, ?_⟩
      rw [wrap_i64 (by omega) (by omega), Int.natCast_add, Int.natCast_one]
    · simp -dsimp only [↓WPd, ↓wpC_block, ↓wpC_cond, WPu, Bool.false_eq_true, Bool.true_eq_false, Bool.not_true, Bool.not_false, if_true, if_false, ite_true, ite_false, Nat.reduceEqDiff, Nat.reduceLT, true_and, List.map_cons, List.map_nil, Nat.zero_add, Nat.reduceBEq]

theorem int_lit (i : Int) : fillL 1 false (List.replicate 1 (zel [AVal.int .i64 0] false)) [(0, .int .i64 i)] = some [.int .i64 i] := rfl
end

section
variable (d : Nat) (σ : Store) {F : Nat → Prop} (id : Nat) (v : AVal) (c0 c1 c2 c3 n : Int) (es : List AVal) (ds : List Dg) (h : NetOk σ F id v c0 c1 c2 c3 n es ds) (hl : ds.length < 2 ^ 39)
include h hl

theorem counts_ok : Called CN.cfg d 61 [.ptr id 0] σ fun r σ' => r = .tuple [.int .i64 c0, .int .i64 c1, .int .i64 c2, .int .i64 c3] ∧ σ' = σ := by
  refine called_of (fn := CN.a61) rfl (Nat.le_of_ble_eq_true rfl) ?_
  simp only [CN.a61]
  simp -dsimp only [↓WPd, ↓wpC_block, ↓wpC_cond, WPu, Bool.false_eq_true, Bool.true_eq_false, Bool.not_true, Bool.not_false, if_true, if_false, ite_true, ite_false, Nat.reduceEqDiff, Nat.reduceLT, true_and, List.map_cons, List.map_nil, Nat.zero_add, Nat.reduceBEq, isnil_ptr, faddr_ptr, load_cells h.obj, List.getElem?_cons_zero, List.getElem?_cons_succ, and_self]

theorem netto_ok (node : Int) : Called CN.cfg d 55 [.ptr id 0, .int .i64 node] σ fun r σ' => Own σ' 1 r (I (toL ds node ds.length)) ∧ Fresh σ.length r ∧ NoLit r ∧ Grows σ σ' := by
  refine called_of (fn := CN.a55) rfl (Nat.le_of_ble_eq_true rfl) ?_
  have ll := h.own.sl.len
  rw [h.rows.len] at ll
  simp only [CN.a55]
  simp -dsimp only [↓WPd, ↓wpC_cond, WPu, Bool.false_eq_true, Bool.true_eq_false, Bool.not_true, Bool.not_false, if_true, if_false, ite_true, ite_false, Nat.reduceEqDiff, Nat.reduceLT, true_and, List.map_cons, List.map_nil, Nat.zero_add, Nat.reduceBEq, isnil_ptr, faddr_ptr, load_cells h.obj, List.getElem?_cons_zero, List.getElem?_cons_succ, ll]
  rw [wpC_block]
  simp -dsimp only [↓WPd, ↓wpC_block, ↓wpC_cond, WPu, Bool.false_eq_true, Bool.true_eq_false, Bool.not_true, Bool.not_false, if_true, if_false, ite_true, ite_false, Nat.reduceEqDiff, Nat.reduceLT, true_and, List.map_cons, List.map_nil, Nat.zero_add, Nat.reduceBEq]
  refine loop_rule (fun m vs σ' => ∃ (k : Nat) (l : AVal), k ≤ ds.length ∧ m = ds.length - k ∧ Grows σ σ' ∧ Own σ' 1 l (I (toL ds node k)) ∧ Fresh σ.length l ∧ NoLit l ∧ vs = [.int .i64 node, l, v, .int .i64 ds.length, .int .i64 k]) ds.length ⟨0, .nilslice, Nat.zero_le _, rfl, Keeps.refl _ _, Own.nil _ _, Fresh.nil _, trivial, ?_⟩ ?_
  · simp -dsimp only [↓WPd, ↓wpC_block, ↓wpC_cond, WPu, Bool.false_eq_true, Bool.true_eq_false, Bool.not_true, Bool.not_false, if_true, if_false, ite_true, ite_false, Nat.reduceEqDiff, Nat.reduceLT, true_and, List.map_cons, List.map_nil, Nat.zero_add, Nat.reduceBEq]; rfl
  · rintro m vs σ1 ⟨k, l, hk, rfl, g, hr, fr, nr, rfl⟩
    simp -dsimp only [↓WPd, ↓wpC_cond, WPu, Bool.false_eq_true, Bool.true_eq_false, Bool.not_true, Bool.not_false, if_true, if_false, ite_true, ite_false, Nat.reduceEqDiff, Nat.reduceLT, true_and, List.map_cons, List.map_nil, Nat.zero_add, Nat.reduceBEq]
    refine condP_dec (fun hc => ?_) (fun hc => ?_)
    · have hk' : k < ds.length := by omega
      obtain ⟨u, a1, a2, a3, a4⟩ := Two.load5 (h.own.sl.grow g) ((h.rows.mono fun _ _ h => h.ok).mono fun _ _ h => h.grow g) hk'
      obtain ⟨e, e1, e2, e3⟩ := cp a3
      subst e1
      have st := new_store (σ := σ1) (n := 5) (zs := [.int .i64 0, .int .i64 0, .bool false, .int .i64 0, .nilslice]) rfl (cs := [.int .i64 ds[k].f, .int .i64 ds[k].t, .bool ds[k].ack, .int .i64 ds[k].s, e]) rfl (all5 e2.one _ _ _ _)
      have g2 : Grows σ1 (σ1 ++ [AObj.cells [.int .i64 ds[k].f, .int .i64 ds[k].t, .bool ds[k].ack, .int .i64 ds[k].s, e]]) := Grows.app _ _
      have o2 : (σ1 ++ [AObj.cells [.int .i64 ds[k].f, .int .i64 ds[k].t, .bool ds[k].ack, .int .i64 ds[k].s, e]])[σ1.length]? = some (.cells [.int .i64 ds[k].f, .int .i64 ds[k].t, .bool ds[k].ack, .int .i64 ds[k].s, e]) := by simp
      have hlen := toL_len ds node k
      have hw : IntKind.i64.wrap ((k : Int) + 1) = ((k + 1 : Nat) : Int) := by rw [wrap_i64 (by omega) (by omega), Int.natCast_add, Int.natCast_one]
      simp -dsimp only [↓WPd, ↓wpC_cond, WPu, Bool.false_eq_true, Bool.true_eq_false, Bool.not_true, Bool.not_false, if_true, if_false, ite_true, ite_false, Nat.reduceEqDiff, Nat.reduceLT, true_and, List.map_cons, List.map_nil, Nat.zero_add, Nat.reduceBEq, a1, a2, Dg.val, st, faddr_ptr, load_cells o2, List.getElem?_cons_zero, List.getElem?_cons_succ]
      by_cases ht : ds[k].t = node
      · have ct : (ds[k].t == node) = true := by simp [ht]
        obtain ⟨l', σ3, p1, p2, p3, p4, p5⟩ := (hr.grow g2).append (I [k]) 8 (by rw [I_len, I_len]; simp; omega)
        have p1' : appendV (σ1 ++ [AObj.cells [.int .i64 ds[k].f, .int .i64 ds[k].t, .bool ds[k].ack, .int .i64 ds[k].s, e]]) 1 8 l [.int .i64 (k : Nat)] = some (l', σ3) := p1
        rw [I_app] at p2
        simp -dsimp only [↓WPd, ↓wpC_block, ↓wpC_cond, WPu, Bool.false_eq_true, Bool.true_eq_false, Bool.not_true, Bool.not_false, if_true, if_false, ite_true, ite_false, Nat.reduceEqDiff, Nat.reduceLT, true_and, List.map_cons, List.map_nil, Nat.zero_add, Nat.reduceBEq, a1, a2, Dg.val, st, faddr_ptr, load_cells o2, List.getElem?_cons_zero, List.getElem?_cons_succ, ct, int_lit, elems_fs, p1', hw]
        have l12 := g.1
        refine ⟨ds.length - (k + 1), by omega, k + 1, l', by omega, rfl, ?_, by rw [toL_succ hk', if_pos ht]; exact p2, fun j hj => ?_, p5 (.inr (by simp [I])), rfl⟩
        · exact Keeps.trans (g.trans g2) p3 fun i hi hm => by have := fr i hm; omega
        · rcases p4 j hj with hh | hh
          · exact fr j hh
          · simp at hh; omega
      · have ct : (ds[k].t == node) = false := by simp [ht]
        simp -dsimp only [↓WPd, ↓wpC_block, ↓wpC_cond, WPu, Bool.false_eq_true, Bool.true_eq_false, Bool.not_true, Bool.not_false, if_true, if_false, ite_true, ite_false, Nat.reduceEqDiff, Nat.reduceLT, true_and, List.map_cons, List.map_nil, Nat.zero_add, Nat.reduceBEq, a1, a2, Dg.val, st, faddr_ptr, load_cells o2, List.getElem?_cons_zero, List.getElem?_cons_succ, ct, hw]
        exact ⟨ds.length - (k + 1), by omega, k + 1, l, by omega, rfl, g.trans g2, by rw [toL_succ hk', if_neg ht]; exact hr.grow g2, fr, nr, rfl⟩
    · simp -dsimp only [↓WPd, ↓wpC_block, ↓wpC_cond, WPu, Bool.false_eq_true, Bool.true_eq_false, Bool.not_true, Bool.not_false, if_true, if_false, ite_true, ite_false, Nat.reduceEqDiff, Nat.reduceLT, true_and, List.map_cons, List.map_nil, Nat.zero_add, Nat.reduceBEq]
      have : k = ds.length := by omega
      subst this
      exact ⟨hr, fr, nr, g⟩

theorem netfork_ok (hs : ∀ p ∈ ds, p.bs.length < 2 ^ 40) : Called CN.cfg d 57 [.ptr id 0] σ fun r σ' => ∃ id' v' es', r = .ptr id' 0 ∧ NetOk σ' (fun j => σ.length ≤ j) id' v' c0 c1 c2 c3 n es' ds ∧ Grows σ σ' ∧ σ.length ≤ id' ∧ Fresh σ.length v' := by
  refine called_of (fn := CN.a57) rfl (Nat.le_of_ble_eq_true rfl) ?_
  simp only [CN.a57]
  have l4 : loadV σ 4 true (.ptr id 0) = some (.agg [.int .i64 c0, .int .i64 c1, .int .i64 c2, .int .i64 c3]) := by simp [loadV, behind, h.obj]
  simp -dsimp only [↓WPd, ↓wpC_block, ↓wpC_cond, WPu, Bool.false_eq_true, Bool.true_eq_false, Bool.not_true, Bool.not_false, if_true, if_false, ite_true, ite_false, Nat.reduceEqDiff, Nat.reduceLT, true_and, List.map_cons, List.map_nil, Nat.zero_add, Nat.reduceBEq, isnil_ptr]
  refine drawnP_of rfl ?_
  simp -dsimp only [↓WPd, ↓wpC_block, ↓wpC_cond, WPu, Bool.false_eq_true, Bool.true_eq_false, Bool.not_true, Bool.not_false, if_true, if_false, ite_true, ite_false, Nat.reduceEqDiff, Nat.reduceLT, true_and, List.map_cons, List.map_nil, Nat.zero_add, Nat.reduceBEq, ↓WPed, WPeu, Nat.reduceAdd, and_self, isnil_ptr, faddr_ptr, l4, load_cells h.obj, List.getElem?_cons_zero, List.getElem?_cons_succ]
  refine calledW_of (waiting_ok d σ id v c0 c1 c2 c3 n es ds h (by omega) hs) ?_
  rintro r σ1 ⟨us, W, g⟩
  have l4' : loadV σ1 4 true (.ptr id 0) = some (.agg [.int .i64 c0, .int .i64 c1, .int .i64 c2, .int .i64 c3]) := by simp [loadV, behind, g.get h.obj]
  have e1 : fillA [AVal.int .i64 0, .int .i64 0, .int .i64 0, .int .i64 0, .int .i64 0, .nilslice] [(0, 4, .agg [.int .i64 c0, .int .i64 c1, .int .i64 c2, .int .i64 c3]), (4, 1, .int .i64 n), (5, 1, r)] = some [.int .i64 c0, .int .i64 c1, .int .i64 c2, .int .i64 c3, .int .i64 n, r] := by
    have := W.row.one
    cases r <;> first | (cases this; done) | rfl
  have e2 : [AVal.int .i64 c0, .int .i64 c1, .int .i64 c2, .int .i64 c3, .int .i64 n, r].all AVal.one = true := by
    have := W.row.one
    cases r <;> first | (cases this; done) | rfl
  simp -dsimp only [↓WPd, ↓wpC_block, ↓wpC_cond, WPu, Bool.false_eq_true, Bool.true_eq_false, Bool.not_true, Bool.not_false, if_true, if_false, ite_true, ite_false, Nat.reduceEqDiff, Nat.reduceLT, true_and, List.map_cons, List.map_nil, Nat.zero_add, Nat.reduceBEq, ↓WPed, WPeu, Nat.reduceAdd, and_self, faddr_ptr, l4, l4', load_cells h.obj, load_cells (g.get h.obj), List.getElem?_cons_zero, List.getElem?_cons_succ, e1, e2, cells_agg]
  have g2 : Grows σ1 (σ1 ++ [AObj.cells [.int .i64 c0, .int .i64 c1, .int .i64 c2, .int .i64 c3, .int .i64 n, r]]) := Grows.app _ _
  exact ⟨σ1.length, r, _, rfl, ⟨by simp, W.row.grow g2, W.two.mono fun _ _ h => h.grow g2⟩, g.trans g2, g.1, W.frl⟩
end

section
variable (d : Nat) (σ : Store) (id : Nat) (v : AVal) (c0 c1 c2 c3 n : Int) (es : List AVal) (ds : List Dg) (h : RNetOk σ id v c0 c1 c2 c3 n es ds) (hl : ds.length < 2 ^ 39)
include h hl

theorem refcounts_ok : Called CN.cfg d 88 [.ptr id 0] σ fun r σ' => r = .tuple [.int .i64 c0, .int .i64 c1, .int .i64 c2, .int .i64 c3] ∧ σ' = σ := by
  refine called_of (fn := CN.a88) rfl (Nat.le_of_ble_eq_true rfl) ?_
  have a0 : aaddrV 4 1 (.ptr id 2) (.int .i64 0) = some (.ptr id 2) := rfl
  have a1 : aaddrV 4 1 (.ptr id 2) (.int .i64 1) = some (.ptr id 3) := rfl
  have a2 : aaddrV 4 1 (.ptr id 2) (.int .i64 2) = some (.ptr id 4) := rfl
  have a3 : aaddrV 4 1 (.ptr id 2) (.int .i64 3) = some (.ptr id 5) := rfl
  have ld := fun off => load_cells h.obj off
  have l2 : loadV σ 1 false (.ptr id 2) = some (.int .i64 c0) := ld 2
  have l3 : loadV σ 1 false (.ptr id 3) = some (.int .i64 c1) := ld 3
  have l4 : loadV σ 1 false (.ptr id 4) = some (.int .i64 c2) := ld 4
  have l5 : loadV σ 1 false (.ptr id 5) = some (.int .i64 c3) := ld 5
  simp only [CN.a88]
  simp -dsimp only [↓WPd, ↓wpC_block, ↓wpC_cond, WPu, Bool.false_eq_true, Bool.true_eq_false, Bool.not_true, Bool.not_false, if_true, if_false, ite_true, ite_false, Nat.reduceEqDiff, Nat.reduceLT, true_and, List.map_cons, List.map_nil, Nat.zero_add, Nat.reduceBEq, isnil_ptr, faddr_ptr, a0, a1, a2, a3, l2, l3, l4, l5, and_self]

theorem refwaiting_ok : Called CN.cfg d 89 [.ptr id 0] σ fun r σ' => r = v ∧ σ' = σ := by
  refine called_of (fn := CN.a89) rfl (Nat.le_of_ble_eq_true rfl) ?_
  simp only [CN.a89]
  simp -dsimp only [↓WPd, ↓wpC_block, ↓wpC_cond, WPu, Bool.false_eq_true, Bool.true_eq_false, Bool.not_true, Bool.not_false, if_true, if_false, ite_true, ite_false, Nat.reduceEqDiff, Nat.reduceLT, true_and, List.map_cons, List.map_nil, Nat.zero_add, Nat.reduceBEq, isnil_ptr, faddr_ptr, load_cells h.obj, List.getElem?_cons_zero, List.getElem?_cons_succ, and_self]

theorem refto_ok (node : Int) : Called CN.cfg d 91 [.ptr id 0, .int .i64 node] σ fun r σ' => Own σ' 1 r (I (toL ds node ds.length)) ∧ Fresh σ.length r ∧ NoLit r ∧ Grows σ σ' := by
  refine called_of (fn := CN.a91) rfl (Nat.le_of_ble_eq_true rfl) ?_
  have ll := h.own.sl.len
  rw [h.rows.len] at ll
  have nn : isNil .p (.ptr id 0) = some false := rfl
  simp only [CN.a91]
  simp -dsimp only [↓WPd, ↓wpC_cond, WPu, Bool.false_eq_true, Bool.true_eq_false, Bool.not_true, Bool.not_false, if_true, if_false, ite_true, ite_false, Nat.reduceEqDiff, Nat.reduceLT, true_and, List.map_cons, List.map_nil, Nat.zero_add, Nat.reduceBEq]
  rw [wpC_block]
  simp -dsimp only [↓WPd, ↓wpC_block, ↓wpC_cond, WPu, Bool.false_eq_true, Bool.true_eq_false, Bool.not_true, Bool.not_false, if_true, if_false, ite_true, ite_false, Nat.reduceEqDiff, Nat.reduceLT, true_and, List.map_cons, List.map_nil, Nat.zero_add, Nat.reduceBEq]
  refine loop_rule (fun m vs σ' => ∃ (k : Nat) (l : AVal), k ≤ ds.length ∧ m = ds.length - k ∧ Grows σ σ' ∧ Own σ' 1 l (I (toL ds node k)) ∧ Fresh σ.length l ∧ NoLit l ∧ vs = [.ptr id 0, .int .i64 node, l, .int .i64 k]) ds.length ⟨0, .nilslice, Nat.zero_le _, rfl, Keeps.refl _ _, Own.nil _ _, Fresh.nil _, trivial, ?_⟩ ?_
  · simp -dsimp only [↓WPd, ↓wpC_block, ↓wpC_cond, WPu, Bool.false_eq_true, Bool.true_eq_false, Bool.not_true, Bool.not_false, if_true, if_false, ite_true, ite_false, Nat.reduceEqDiff, Nat.reduceLT, true_and, List.map_cons, List.map_nil, Nat.zero_add, Nat.reduceBEq]; rfl
  · rintro m vs σ1 ⟨k, l, hk, rfl, g, hr, fr, nr, rfl⟩
    have N1 := h.grow g
    simp -dsimp only [↓WPd, ↓wpC_cond, WPu, Bool.false_eq_true, Bool.true_eq_false, Bool.not_true, Bool.not_false, if_true, if_false, ite_true, ite_false, Nat.reduceEqDiff, Nat.reduceLT, true_and, List.map_cons, List.map_nil, Nat.zero_add, Nat.reduceBEq, isnil_ptr, faddr_ptr, load_cells N1.obj, List.getElem?_cons_zero, List.getElem?_cons_succ, ll]
    refine condP_dec (fun hc => ?_) (fun hc => ?_)
    · have hk' : k < ds.length := by omega
      obtain ⟨u, u1, u2⟩ := N1.rows.get hk'
      obtain ⟨e, rfl, e2, e3⟩ := cp u2
      have hi : k < es.length := by have := h.rows.len; omega
      have eu : es[k] = ds[k].val e := by rw [List.getElem?_eq_getElem hi] at u1; exact Option.some.inj u1
      have hlen := toL_len ds node k
      have hw : IntKind.i64.wrap ((k : Int) + 1) = ((k + 1 : Nat) : Int) := by rw [wrap_i64 (by omega) (by omega), Int.natCast_add, Int.natCast_one]
      obtain ⟨p, fp, lp⟩ : ∃ p, faddrV 1 (addrOf 5 v k) = some p ∧ loadV σ1 1 false p = some (.int .i64 ds[k].t) := by
        have hb := (N1.own.sl.addr hi .i64).2
        rw [eu] at hb
        obtain ⟨q, q1, q2⟩ := faddr_load hb 1
        exact ⟨q, q1, q2⟩
      by_cases ht : ds[k].t = node
      · have ct : (ds[k].t == node) = true := by simp [ht]
        obtain ⟨l', σ3, p1, p2, p3, p4, p5⟩ := hr.append (I [k]) 8 (by rw [I_len, I_len]; simp; omega)
        have p1' : appendV σ1 1 8 l [.int .i64 (k : Nat)] = some (l', σ3) := p1
        rw [I_app] at p2
        simp -dsimp only [↓WPd, ↓wpC_block, ↓wpC_cond, WPu, Bool.false_eq_true, Bool.true_eq_false, Bool.not_true, Bool.not_false, if_true, if_false, ite_true, ite_false, Nat.reduceEqDiff, Nat.reduceLT, true_and, List.map_cons, List.map_nil, Nat.zero_add, Nat.reduceBEq, faddr_ptr, load_cells N1.obj, List.getElem?_cons_zero, List.getElem?_cons_succ, N1.own.sl.iaddr hi, fp, lp, ct, int_lit, elems_fs, p1', hw]
        have l12 := g.1
        refine ⟨ds.length - (k + 1), by omega, k + 1, l', by omega, rfl, ?_, by rw [toL_succ hk', if_pos ht]; exact p2, fun j hj => ?_, p5 (.inr (by simp [I])), rfl⟩
        · exact Keeps.trans g p3 fun i hi hm => by have := fr i hm; omega
        · rcases p4 j hj with hh | hh
          · exact fr j hh
          · omega
      · have ct : (ds[k].t == node) = false := by simp [ht]
        simp -dsimp only [↓WPd, ↓wpC_block, ↓wpC_cond, WPu, Bool.false_eq_true, Bool.true_eq_false, Bool.not_true, Bool.not_false, if_true, if_false, ite_true, ite_false, Nat.reduceEqDiff, Nat.reduceLT, true_and, List.map_cons, List.map_nil, Nat.zero_add, Nat.reduceBEq, faddr_ptr, load_cells N1.obj, List.getElem?_cons_zero, List.getElem?_cons_succ, N1.own.sl.iaddr hi, fp, lp, ct, hw]
        exact ⟨ds.length - (k + 1), by omega, k + 1, l, by omega, rfl, g, by rw [toL_succ hk', if_neg ht]; exact hr, fr, nr, rfl⟩
    · simp -dsimp only [↓WPd, ↓wpC_block, ↓wpC_cond, WPu, Bool.false_eq_true, Bool.true_eq_false, Bool.not_true, Bool.not_false, if_true, if_false, ite_true, ite_false, Nat.reduceEqDiff, Nat.reduceLT, true_and, List.map_cons, List.map_nil, Nat.zero_add, Nat.reduceBEq]
      have : k = ds.length := by omega
      subst this
      exact ⟨hr, fr, nr, g⟩

theorem reffork_ok : Called CN.cfg d 58 [.ptr id 0] σ fun r σ' => ∃ id' v' es', r = .ptr id' 0 ∧ RNetOk σ' id' v' c0 c1 c2 c3 n es' ds ∧ Grows σ σ' ∧ σ.length ≤ id' ∧ Fresh σ.length v' := by
  refine called_of (fn := CN.a58) rfl (Nat.le_of_ble_eq_true rfl) ?_
  simp only [CN.a58]
  have e0 : fillL 5 true (List.replicate 0 (zel [AVal.int .i64 0, .int .i64 0, .bool false, .int .i64 0, .nilslice] true)) [] = some [] := rfl
  have ob : Own σ 5 (.fslice (AVal.tagL []) true 5 []) [] := Own.lit _ _ _ _
  have lr := h.rows.len
  obtain ⟨x, σ1, p1, p2, p3, p4, _⟩ := ob.append es 56 (by simp; omega)
  rw [List.nil_append] at p2
  have g1 : Grows σ σ1 := p3.mono fun i hi hm => by cases hm
  have N1 := h.grow g1
  have l4 : loadV σ 4 true (.ptr id 2) = some (.agg [.int .i64 c0, .int .i64 c1, .int .i64 c2, .int .i64 c3]) := by simp [loadV, behind, h.obj]
  have l4' : loadV σ1 4 true (.ptr id 2) = some (.agg [.int .i64 c0, .int .i64 c1, .int .i64 c2, .int .i64 c3]) := by simp [loadV, behind, N1.obj]
  have e1 : fillA [AVal.nilslice, .int .i64 0, .int .i64 0, .int .i64 0, .int .i64 0, .int .i64 0] [(0, 1, x), (1, 1, .int .i64 n), (2, 4, .agg [.int .i64 c0, .int .i64 c1, .int .i64 c2, .int .i64 c3])] = some [x, .int .i64 n, .int .i64 c0, .int .i64 c1, .int .i64 c2, .int .i64 c3] := by
    have := p2.one
    cases x <;> first | (cases this; done) | rfl
  have e2 : [x, AVal.int .i64 n, .int .i64 c0, .int .i64 c1, .int .i64 c2, .int .i64 c3].all AVal.one = true := by
    have := p2.one
    cases x <;> first | (cases this; done) | rfl
  simp -dsimp only [↓WPd, ↓wpC_block, ↓wpC_cond, WPu, Bool.false_eq_true, Bool.true_eq_false, Bool.not_true, Bool.not_false, if_true, if_false, ite_true, ite_false, Nat.reduceEqDiff, Nat.reduceLT, true_and, List.map_cons, List.map_nil, Nat.zero_add, Nat.reduceBEq, isnil_ptr]
  refine drawnP_of rfl ?_
  simp -dsimp only [↓WPd, ↓wpC_block, ↓wpC_cond, WPu, Bool.false_eq_true, Bool.true_eq_false, Bool.not_true, Bool.not_false, if_true, if_false, ite_true, ite_false, Nat.reduceEqDiff, Nat.reduceLT, true_and, List.map_cons, List.map_nil, Nat.zero_add, Nat.reduceBEq, ↓WPed, WPeu, Nat.reduceAdd, and_self, e0, faddr_ptr, l4, l4', load_cells h.obj, load_cells N1.obj, List.getElem?_cons_zero, List.getElem?_cons_succ, h.own.sl.els, p1, e1, e2, cells_agg]
  have g2 : Grows σ1 (σ1 ++ [AObj.cells [x, .int .i64 n, .int .i64 c0, .int .i64 c1, .int .i64 c2, .int .i64 c3]]) := Grows.app _ _
  refine ⟨σ1.length, x, es, rfl, ⟨by simp, p2.grow g2, rows_free N1.rows g2⟩, g1.trans g2, g1.1, fun j hj => ?_⟩
  rcases p4 j hj with hh | hh
  · cases hh
  · omega

theorem refdeliver_ok (k : Nat) (hk : k < ds.length) : Called CN.cfg d 85 [.ptr id 0, .int .i64 k] σ fun r σ' =>
    ∃ x, r = .tuple [x, .int .i64 0] ∧ DgOk σ' NoF x ds[k] ∧ Keeps (fun i => i = id) σ σ' ∧ ∃ v' es', RNetOk σ' id v' c0 (IntKind.i64.wrap (c1 + 1)) c2 c3 n es' (outL ds k) ∧ Fresh σ.length v' := by
  refine called_of (fn := CN.a85) rfl (Nat.le_of_ble_eq_true rfl) ?_
  simp only [CN.a85]
  simp -dsimp only [↓WPd, ↓wpC_block, ↓wpC_cond, WPu, Bool.false_eq_true, Bool.true_eq_false, Bool.not_true, Bool.not_false, if_true, if_false, ite_true, ite_false, Nat.reduceEqDiff, Nat.reduceLT, true_and, List.map_cons, List.map_nil, Nat.zero_add, Nat.reduceBEq]
  have g1 : Grows σ (σ ++ [AObj.cells [.int .i64 0, .int .i64 0, .bool false, .int .i64 0, .nilslice]]) := Grows.app _ _
  have o1 : (σ ++ [AObj.cells [.int .i64 0, .int .i64 0, .bool false, .int .i64 0, .nilslice]])[σ.length]? = some (.cells [.int .i64 0, .int .i64 0, .bool false, .int .i64 0, .nilslice]) := by simp
  have l1 : (σ ++ [AObj.cells [.int .i64 0, .int .i64 0, .bool false, .int .i64 0, .nilslice]]).length = σ.length + 1 := by simp
  generalize σ ++ [AObj.cells [.int .i64 0, .int .i64 0, .bool false, .int .i64 0, .nilslice]] = σ1 at g1 o1 l1
  have N1 := h.grow g1
  have idlt := (List.getElem?_eq_some_iff.1 h.obj).1
  refine calledW_of (refat_ok d σ1 id v c0 c1 c2 c3 n es ds N1 hl k) ?_
  rintro r σ2 ⟨rfl, rfl⟩
  rw [if_pos ⟨by omega, by omega⟩]
  have c0' : ((0 : Int) != 0) = false := rfl
  simp -dsimp only [↓WPd, ↓wpC_block, ↓wpC_cond, WPu, Bool.false_eq_true, Bool.true_eq_false, Bool.not_true, Bool.not_false, if_true, if_false, ite_true, ite_false, Nat.reduceEqDiff, Nat.reduceLT, true_and, List.map_cons, List.map_nil, Nat.zero_add, Nat.reduceBEq, c0']
  refine calledW_of (refout1_ok d σ2 id v c0 c1 c2 c3 n es ds N1 hl k hk) ?_
  rintro r σ4 ⟨hx, k4, v', es', N4, fv⟩
  obtain ⟨e, rfl, e2, e3⟩ := hx
  have o4 := k4.get o1 (by omega)
  have st4 := storeN_cells (n := 5) o4 rfl (cs' := [.int .i64 ds[k].f, .int .i64 ds[k].t, .bool ds[k].ack, .int .i64 ds[k].s, e]) rfl (all5 e2.one _ _ _ _)
  have o5 := get_set (o' := .cells [.int .i64 ds[k].f, .int .i64 ds[k].t, .bool ds[k].ack, .int .i64 ds[k].s, e]) o4
  simp -dsimp only [↓WPd, ↓wpC_block, ↓wpC_cond, WPu, Bool.false_eq_true, Bool.true_eq_false, Bool.not_true, Bool.not_false, if_true, if_false, ite_true, ite_false, Nat.reduceEqDiff, Nat.reduceLT, true_and, List.map_cons, List.map_nil, Nat.zero_add, Nat.reduceBEq, Dg.val, st4, loadN_cells (n := 5) o5 rfl, resultsA, mapO]
  have k5 := Keeps.set σ4 σ.length (.cells [.int .i64 ds[k].f, .int .i64 ds[k].t, .bool ds[k].ack, .int .i64 ds[k].s, e])
  refine ⟨_, rfl, DgOk.free ⟨e, rfl, e2, e3⟩ k5, ?_, v', es', N4.keeps k5 (by omega) (fun j hj hm => by have := fv j hj; omega), fv.le (by omega)⟩
  exact Keeps.trans (Keeps.trans (Grows.any g1) k4 fun i hi hm => hm) k5 fun i hi hm => by omega

theorem refdeliver_no (k : Int) (hk : ¬ (0 ≤ k ∧ k < ds.length)) : Called CN.cfg d 85 [.ptr id 0, .int .i64 k] σ fun r σ' => r = .tuple [zD, .int .i64 4] ∧ Grows σ σ' := by
  refine called_of (fn := CN.a85) rfl (Nat.le_of_ble_eq_true rfl) ?_
  simp only [CN.a85]
  simp -dsimp only [↓WPd, ↓wpC_block, ↓wpC_cond, WPu, Bool.false_eq_true, Bool.true_eq_false, Bool.not_true, Bool.not_false, if_true, if_false, ite_true, ite_false, Nat.reduceEqDiff, Nat.reduceLT, true_and, List.map_cons, List.map_nil, Nat.zero_add, Nat.reduceBEq]
  have g1 : Grows σ (σ ++ [AObj.cells [.int .i64 0, .int .i64 0, .bool false, .int .i64 0, .nilslice]]) := Grows.app _ _
  have o1 : (σ ++ [AObj.cells [.int .i64 0, .int .i64 0, .bool false, .int .i64 0, .nilslice]])[σ.length]? = some (.cells [.int .i64 0, .int .i64 0, .bool false, .int .i64 0, .nilslice]) := by simp
  have l1 : (σ ++ [AObj.cells [.int .i64 0, .int .i64 0, .bool false, .int .i64 0, .nilslice]]).length = σ.length + 1 := by simp
  generalize σ ++ [AObj.cells [.int .i64 0, .int .i64 0, .bool false, .int .i64 0, .nilslice]] = σ1 at g1 o1 l1
  have N1 := h.grow g1
  have idlt := (List.getElem?_eq_some_iff.1 h.obj).1
  refine calledW_of (refat_ok d σ1 id v c0 c1 c2 c3 n es ds N1 hl k) ?_
  rintro r σ2 ⟨rfl, rfl⟩
  rw [if_neg hk]
  have c0' : ((4 : Int) != 0) = true := rfl
  have e1 : fillA [AVal.int .i64 0, .int .i64 0, .bool false, .int .i64 0, .nilslice] [] = some [AVal.int .i64 0, .int .i64 0, .bool false, .int .i64 0, .nilslice] := rfl
  have st := storeN_cells (n := 5) o1 rfl (cs' := [.int .i64 0, .int .i64 0, .bool false, .int .i64 0, .nilslice]) rfl rfl
  have o5 := get_set (o' := .cells [.int .i64 0, .int .i64 0, .bool false, .int .i64 0, .nilslice]) o1
  simp -dsimp only [↓WPd, ↓wpC_block, ↓wpC_cond, WPu, Bool.false_eq_true, Bool.true_eq_false, Bool.not_true, Bool.not_false, if_true, if_false, ite_true, ite_false, Nat.reduceEqDiff, Nat.reduceLT, true_and, List.map_cons, List.map_nil, Nat.zero_add, Nat.reduceBEq, c0', e1, st, loadN_cells (n := 5) o5 rfl, resultsA, mapO]
  exact ⟨rfl, Keeps.trans g1 (Keeps.set _ _ _) fun i hi hm => by omega⟩

theorem refdrop_ok (k : Nat) (hk : k < ds.length) : Called CN.cfg d 86 [.ptr id 0, .int .i64 k] σ fun r σ' =>
    r = .int .i64 0 ∧ Keeps (fun i => i = id) σ σ' ∧ ∃ v' es', RNetOk σ' id v' c0 c1 (IntKind.i64.wrap (c2 + 1)) c3 n es' (outL ds k) ∧ Fresh σ.length v' := by
  refine called_of (fn := CN.a86) rfl (Nat.le_of_ble_eq_true rfl) ?_
  simp only [CN.a86]
  simp -dsimp only [↓WPd, ↓wpC_block, ↓wpC_cond, WPu, Bool.false_eq_true, Bool.true_eq_false, Bool.not_true, Bool.not_false, if_true, if_false, ite_true, ite_false, Nat.reduceEqDiff, Nat.reduceLT, true_and, List.map_cons, List.map_nil, Nat.zero_add, Nat.reduceBEq]
  refine calledW_of (refat_ok d σ id v c0 c1 c2 c3 n es ds h hl k) ?_
  rintro r σ2 ⟨rfl, rfl⟩
  rw [if_pos ⟨by omega, by omega⟩]
  have c0' : ((0 : Int) == 0) = true := rfl
  simp -dsimp only [↓WPd, ↓wpC_block, ↓wpC_cond, WPu, Bool.false_eq_true, Bool.true_eq_false, Bool.not_true, Bool.not_false, if_true, if_false, ite_true, ite_false, Nat.reduceEqDiff, Nat.reduceLT, true_and, List.map_cons, List.map_nil, Nat.zero_add, Nat.reduceBEq, c0']
  refine calledW_of (refout2_ok d σ2 id v c0 c1 c2 c3 n es ds h hl k hk) ?_
  rintro r σ4 ⟨hx, k4, v', es', N4, fv⟩
  simp -dsimp only [↓WPd, ↓wpC_block, ↓wpC_cond, WPu, Bool.false_eq_true, Bool.true_eq_false, Bool.not_true, Bool.not_false, if_true, if_false, ite_true, ite_false, Nat.reduceEqDiff, Nat.reduceLT, true_and, List.map_cons, List.map_nil, Nat.zero_add, Nat.reduceBEq]
  exact ⟨k4, v', es', N4, fv⟩

theorem refdrop_no (k : Int) (hk : ¬ (0 ≤ k ∧ k < ds.length)) : Called CN.cfg d 86 [.ptr id 0, .int .i64 k] σ fun r σ' => r = .int .i64 4 ∧ Grows σ σ' := by
  refine called_of (fn := CN.a86) rfl (Nat.le_of_ble_eq_true rfl) ?_
  simp only [CN.a86]
  simp -dsimp only [↓WPd, ↓wpC_block, ↓wpC_cond, WPu, Bool.false_eq_true, Bool.true_eq_false, Bool.not_true, Bool.not_false, if_true, if_false, ite_true, ite_false, Nat.reduceEqDiff, Nat.reduceLT, true_and, List.map_cons, List.map_nil, Nat.zero_add, Nat.reduceBEq]
  refine calledW_of (refat_ok d σ id v c0 c1 c2 c3 n es ds h hl k) ?_
  rintro r σ2 ⟨rfl, rfl⟩
  rw [if_neg hk]
  have c0' : ((4 : Int) == 0) = false := rfl
  simp -dsimp only [↓WPd, ↓wpC_block, ↓wpC_cond, WPu, Bool.false_eq_true, Bool.true_eq_false, Bool.not_true, Bool.not_false, if_true, if_false, ite_true, ite_false, Nat.reduceEqDiff, Nat.reduceLT, true_and, List.map_cons, List.map_nil, Nat.zero_add, Nat.reduceBEq, c0']
  exact Keeps.refl _ _
end
end Go.Proofs.Ytmocplkpnickgaa.Am

/-
  purlinmem: what is handed in, with marked room behind it.
-/
namespace Go.Proofs.Ytmocplkpnickgaa.Am
open Go
set_option linter.unusedVariables false
set_option linter.unusedSimpArgs false
set_option linter.unusedSectionVars false
set_option maxRecDepth 100000

def marks : List UInt8 := (List.range 9).map fun j => UInt8.ofNat (160 + j)
theorem marks_len : marks.length = 9 := rfl
theorem marks_get (j : Nat) (h : j < marks.length) : marks[j] = UInt8.ofNat (160 + j) := by simp [marks]

/-- what Hand made of bytes -/
structure Handed (σ : Store) (v : AVal) (x : List UInt8) (id : Nat) : Prop where
  val : v = .slice 1 id 0 0 x.length (some (x.length + 9))
  obj : σ[id]? = some (.arr 1 (B (x ++ marks)) 0 0)
theorem Handed.sl {σ : Store} {v : AVal} {x : List UInt8} {id : Nat} (h : Handed σ v x id) : SlOf σ 1 v (B x) := by
  obtain ⟨rfl, ho⟩ := h
  refine ⟨?_, by simp [lenSV, B_len], fun s id' ep off len c hc => ?_⟩
  · simp [elems, ho, B]
  · injection hc with _ _ _ _ e5 e6; injection e6 with e6; omega
theorem Handed.keep {σ σ' : Store} {v : AVal} {x : List UInt8} {id : Nat} (h : Handed σ v x id) {M : Nat → Prop} (hk : Keeps M σ σ') (hm : ¬ M id) : Handed σ' v x id := ⟨h.val, hk.get h.obj hm⟩

section
variable (d : Nat) (σ : Store)

theorem hand_ok (l : AVal) (x : List UInt8) (hx : x.length < 2 ^ 30) (hl : SlOf σ 1 l (B x)) : Called CN.cfg d 14 [l] σ fun v σ' => Handed σ' v x σ.length ∧ Grows σ σ' := by
  refine called_of (fn := CN.a14) rfl (Nat.le_of_ble_eq_true rfl) ?_
  have ll := hl.len
  rw [B_len] at ll
  have w : IntKind.i64.wrap ((x.length : Int) + 9) = ((x.length + 9 : Nat) : Int) := by rw [wrap_i64 (by omega) (by omega)]; omega
  have mk : mkslV σ 1 1 [.int .u8 0] false (.int .i64 ((x.length + 9 : Nat) : Int)) (.int .i64 ((x.length + 9 : Nat) : Int)) =
      some (.slice 1 σ.length 0 0 (x.length + 9) (some (x.length + 9)), σ ++ [.arr 1 (B (List.replicate (x.length + 9) 0)) 0 0]) := by
    have e : (0 : Int) ≤ ((x.length + 9 : Nat) : Int) ∧ ((x.length + 9 : Nat) : Int) ≤ ((x.length + 9 : Nat) : Int) ∧ ((x.length + 9 : Nat) : Int) * ((1 : Nat) : Int) ≤ apLim := by
      refine ⟨by omega, Int.le_refl _, ?_⟩
      have : (apLim : Int) = 70368744177664 := rfl
      omega
    simp only [mkslV]
    rw [if_pos e]
    simp [B, zel]
    omega
  simp only [CN.a14]
  simp -dsimp only [↓WPd, ↓wpC_block, ↓wpC_cond, WPu, Bool.false_eq_true, Bool.true_eq_false, Bool.not_true, Bool.not_false, if_true, if_false, ite_true, ite_false, Nat.reduceEqDiff, Nat.reduceLT, true_and, List.map_cons, List.map_nil, Nat.zero_add, Nat.reduceBEq, ll, w, mk]
  have ho : (σ ++ [AObj.arr 1 (B (List.replicate (x.length + 9) 0)) 0 0])[σ.length]? = some (.arr 1 (B (List.replicate (x.length + 9) 0)) 0 0) := by simp
  have hcur : ∀ (σ' : Store) (bs : List UInt8), Grows σ σ' → σ'[σ.length]? = some (.arr 1 (B bs) 0 0) → SlOf σ' 1 l (B x) := fun σ' bs g _ => hl.grow g
  refine loop_rule2 (fun m vs σ' => ∃ (k : Nat) (bs : List UInt8), k ≤ x.length ∧ m = x.length - k ∧ vs = [l, .slice 1 σ.length 0 0 (x.length + 9) (some (x.length + 9)), .int .i64 k] ∧ Grows σ σ' ∧ σ'[σ.length]? = some (.arr 1 (B bs) 0 0) ∧ bs.length = x.length + 9 ∧ bs.take k = (x ++ marks).take k)
    [0, 3] (fun e vs σ' => e = .exit 0 ∧ ∃ bs : List UInt8, vs = [l, .slice 1 σ.length 0 0 (x.length + 9) (some (x.length + 9))] ∧ Grows σ σ' ∧ σ'[σ.length]? = some (.arr 1 (B bs) 0 0) ∧ bs.length = x.length + 9 ∧ bs.take x.length = (x ++ marks).take x.length)
    x.length ⟨0, List.replicate (x.length + 9) 0, Nat.zero_le _, rfl, ?_, Grows.app _ _, ho, by simp, rfl⟩ ?_ ?_
  · simp -dsimp only [↓WPd, ↓wpC_block, ↓wpC_cond, WPu, Bool.false_eq_true, Bool.true_eq_false, Bool.not_true, Bool.not_false, if_true, if_false, ite_true, ite_false, Nat.reduceEqDiff, Nat.reduceLT, true_and, List.map_cons, List.map_nil, Nat.zero_add, Nat.reduceBEq]; rfl
  · rintro m vs σ' ⟨k, bs, hk, rfl, rfl, g, hob, hbl, ht⟩
    simp -dsimp only [↓WPd, ↓wpC_block, ↓wpC_cond, WPu, Bool.false_eq_true, Bool.true_eq_false, Bool.not_true, Bool.not_false, if_true, if_false, ite_true, ite_false, Nat.reduceEqDiff, Nat.reduceLT, true_and, List.map_cons, List.map_nil, Nat.zero_add, Nat.reduceBEq, ll]
    refine condP_dec (fun h => ?_) (fun h => ?_)
    · have hk' : k < x.length := by omega
      have hi : k < (B x).length := by rw [B_len]; exact hk'
      have hi2 : k < (B bs).length := by rw [B_len]; omega
      have hlx := hl.grow g
      have st := arr_store1 hob hi2 (x := .int .u8 (x[k]).toNat) rfl (by rw [B_get]; rfl)
      simp -dsimp only [↓WPd, ↓wpC_block, ↓wpC_cond, WPu, Bool.false_eq_true, Bool.true_eq_false, Bool.not_true, Bool.not_false, if_true, if_false, ite_true, ite_false, Nat.reduceEqDiff, Nat.reduceLT, true_and, List.map_cons, List.map_nil, Nat.zero_add, Nat.reduceBEq, hlx.iaddr hi, hlx.load1 hi (by rw [B_get]; rfl), B_get, arr_iaddr (show k < x.length + 9 by omega), st]
      have eb : (B bs).set k (.int .u8 (x[k]).toNat) = B (bs.set k x[k]) := by simp [B, List.map_set]
      refine ⟨x.length - (k + 1), by omega, k + 1, bs.set k x[k], by omega, rfl, ?_, ?_, ?_, by simpa using hbl, ?_⟩
      · rw [wrap_i64 (by omega) (by omega), Int.natCast_add, Int.natCast_one]
      · exact Keeps.trans g (Keeps.set _ _ _) fun i hi e => by omega
      · rw [eb]; exact List.getElem?_set_self (List.getElem?_eq_some_iff.1 hob).1
      · have := take_set_succ (l := bs) (y := x ++ marks) (k := k) (by omega) (by simp; omega) ht
        rwa [List.getElem_append_left hk'] at this
    · simp -dsimp only [↓WPd, ↓wpC_block, ↓wpC_cond, WPu, Bool.false_eq_true, Bool.true_eq_false, Bool.not_true, Bool.not_false, if_true, if_false, ite_true, ite_false, Nat.reduceEqDiff, Nat.reduceLT, true_and, List.map_cons, List.map_nil, Nat.zero_add, Nat.reduceBEq]
      have : k = x.length := by omega
      subst this
      exact ⟨bs, g, hob, hbl, ht⟩
  · rintro e σ' env ⟨rfl, bs, hv, g, hob, hbl, ht⟩
    simp only [List.map_cons, List.map_nil, List.cons.injEq, and_true] at hv
    obtain ⟨v0, v3⟩ := hv
    simp -dsimp only [↓WPd, ↓wpC_block, ↓wpC_cond, WPu, Bool.false_eq_true, Bool.true_eq_false, Bool.not_true, Bool.not_false, if_true, if_false, ite_true, ite_false, Nat.reduceEqDiff, Nat.reduceLT, true_and, List.map_cons, List.map_nil, Nat.zero_add, Nat.reduceBEq, v0, v3, ll]
    refine loop_rule2 (fun m vs σ' => ∃ (k : Nat) (bs : List UInt8), x.length ≤ k ∧ k ≤ x.length + 9 ∧ m = x.length + 9 - k ∧ vs = [l, .slice 1 σ.length 0 0 (x.length + 9) (some (x.length + 9)), .int .i64 k] ∧ Grows σ σ' ∧ σ'[σ.length]? = some (.arr 1 (B bs) 0 0) ∧ bs.length = x.length + 9 ∧ bs.take k = (x ++ marks).take k)
      [0, 3] (fun e vs σ' => e = .exit 2 ∧ vs = [l, .slice 1 σ.length 0 0 (x.length + 9) (some (x.length + 9))] ∧ Grows σ σ' ∧ σ'[σ.length]? = some (.arr 1 (B (x ++ marks)) 0 0))
      9 ⟨x.length, bs, Nat.le_refl _, by omega, by omega, ?_, g, hob, hbl, ht⟩ ?_ ?_
    · simp -dsimp only [↓WPd, ↓wpC_block, ↓wpC_cond, WPu, Bool.false_eq_true, Bool.true_eq_false, Bool.not_true, Bool.not_false, if_true, if_false, ite_true, ite_false, Nat.reduceEqDiff, Nat.reduceLT, true_and, List.map_cons, List.map_nil, Nat.zero_add, Nat.reduceBEq, v0, v3]
    · rintro m vs σ' ⟨k, bs, hk0, hk, rfl, rfl, g, hob, hbl, ht⟩
      have el : lenSV (.slice 1 σ.length 0 0 (x.length + 9) (some (x.length + 9))) = some (x.length + 9) := rfl
      simp -dsimp only [↓WPd, ↓wpC_block, ↓wpC_cond, WPu, Bool.false_eq_true, Bool.true_eq_false, Bool.not_true, Bool.not_false, if_true, if_false, ite_true, ite_false, Nat.reduceEqDiff, Nat.reduceLT, true_and, List.map_cons, List.map_nil, Nat.zero_add, Nat.reduceBEq, el]
      refine condP_dec (fun h => ?_) (fun h => ?_)
      · have hk' : k < x.length + 9 := by omega
        have hi2 : k < (B bs).length := by rw [B_len]; omega
        have w1 : IntKind.i64.wrap (160 + (k : Int)) = ((160 + k : Nat) : Int) := by rw [wrap_i64 (by omega) (by omega)]; omega
        have w2 : IntKind.i64.wrap (((160 + k : Nat) : Int) - (x.length : Int)) = ((160 + (k - x.length) : Nat) : Int) := by rw [wrap_i64 (by omega) (by omega)]; omega
        have c1 : convV .u8 (.int .i64 ((160 + (k - x.length) : Nat) : Int)) = some (.int .u8 ((UInt8.ofNat (160 + (k - x.length))).toNat : Int)) := by
          rw [convV_int, wrap_u8_mod, UInt8.toNat_ofNat']; rfl
        have st := arr_store1 hob hi2 (x := .int .u8 (UInt8.ofNat (160 + (k - x.length))).toNat) rfl (by rw [B_get]; rfl)
        simp -dsimp only [↓WPd, ↓wpC_block, ↓wpC_cond, WPu, Bool.false_eq_true, Bool.true_eq_false, Bool.not_true, Bool.not_false, if_true, if_false, ite_true, ite_false, Nat.reduceEqDiff, Nat.reduceLT, true_and, List.map_cons, List.map_nil, Nat.zero_add, Nat.reduceBEq, ll, w1, w2, c1, arr_iaddr (show k < x.length + 9 by omega), st]
        have eb : (B bs).set k (.int .u8 (UInt8.ofNat (160 + (k - x.length))).toNat) = B (bs.set k (UInt8.ofNat (160 + (k - x.length)))) := by simp [B, List.map_set]
        refine ⟨x.length + 9 - (k + 1), by omega, k + 1, bs.set k (UInt8.ofNat (160 + (k - x.length))), by omega, by omega, rfl, ?_, ?_, ?_, by simpa using hbl, ?_⟩
        · rw [wrap_i64 (by omega) (by omega), Int.natCast_add, Int.natCast_one]
        · exact Keeps.trans g (Keeps.set _ _ _) fun i hi e => by omega
        · rw [eb]; exact List.getElem?_set_self (List.getElem?_eq_some_iff.1 hob).1
        · have := take_set_succ (l := bs) (y := x ++ marks) (k := k) (by omega) (by simp [marks_len]; omega) ht
          rwa [List.getElem_append_right hk0, marks_get] at this
      · simp -dsimp only [↓WPd, ↓wpC_block, ↓wpC_cond, WPu, Bool.false_eq_true, Bool.true_eq_false, Bool.not_true, Bool.not_false, if_true, if_false, ite_true, ite_false, Nat.reduceEqDiff, Nat.reduceLT, true_and, List.map_cons, List.map_nil, Nat.zero_add, Nat.reduceBEq]
        have : k = x.length + 9 := by omega
        subst this
        have e1 : bs = x ++ marks := by
          rw [List.take_of_length_le (by omega), List.take_of_length_le (by simp [marks_len])] at ht
          exact ht
        rw [← e1]
        exact ⟨g, hob⟩
    · rintro e σ' env ⟨rfl, hv, g, hob⟩
      simp only [List.map_cons, List.map_nil, List.cons.injEq, and_true] at hv
      obtain ⟨v0, v3⟩ := hv
      have hsl : sliceV 1 (.slice 1 σ.length 0 0 (x.length + 9) (some (x.length + 9))) none (some (.int .i64 (x.length : Nat))) none = some (.slice 1 σ.length 0 0 x.length (some (x.length + 9))) := by
        simp only [sliceV, if_true, obnd_none, Option.getD_some]
        rw [obnd_some _ _ _ (show x.length ≤ x.length + 9 by omega)]
        simp
      simp -dsimp only [↓WPd, ↓wpC_block, ↓wpC_cond, WPu, Bool.false_eq_true, Bool.true_eq_false, Bool.not_true, Bool.not_false, if_true, if_false, ite_true, ite_false, Nat.reduceEqDiff, Nat.reduceLT, true_and, List.map_cons, List.map_nil, Nat.zero_add, Nat.reduceBEq, v0, v3, ll, oev, hsl]
      exact ⟨⟨rfl, hob⟩, g⟩

theorem kept_ok (v l : AVal) (x : List UInt8) (id : Nat) (hx : x.length < 2 ^ 30) (hv : Handed σ v x id) (hl : SlOf σ 1 l (B x)) : Called CN.cfg d 27 [v, l] σ fun r σ' => r = .bool true ∧ σ' = σ := by
  refine called_of (fn := CN.a27) rfl (Nat.le_of_ble_eq_true rfl) ?_
  have ll := hl.len
  rw [B_len] at ll
  simp only [CN.a27]
  simp -dsimp only [↓WPd, ↓wpC_block, ↓wpC_cond, WPu, Bool.false_eq_true, Bool.true_eq_false, Bool.not_true, Bool.not_false, if_true, if_false, ite_true, ite_false, Nat.reduceEqDiff, Nat.reduceLT, true_and, List.map_cons, List.map_nil, Nat.zero_add, Nat.reduceBEq]
  refine calledW_of (same_ok d σ v l x x (by omega) hv.sl hl) ?_
  rintro r σ1 ⟨rfl, rfl⟩
  have w : IntKind.i64.wrap ((x.length : Int) + 9) = ((x.length + 9 : Nat) : Int) := by rw [wrap_i64 (by omega) (by omega)]; omega
  have hsl : sliceV 1 v none (some (.int .i64 ((x.length + 9 : Nat) : Int))) none = some (.slice 1 id 0 0 (x.length + 9) (some (x.length + 9))) := by
    rw [hv.val]
    simp only [sliceV, if_true, obnd_none, Option.getD_some]
    rw [obnd_some _ _ _ (Nat.le_refl _)]
    simp
  simp -dsimp only [↓WPd, ↓wpC_block, ↓wpC_cond, WPu, Bool.false_eq_true, Bool.true_eq_false, Bool.not_true, Bool.not_false, if_true, if_false, ite_true, ite_false, Nat.reduceEqDiff, Nat.reduceLT, true_and, List.map_cons, List.map_nil, Nat.zero_add, Nat.reduceBEq, decide_true, ll, w, oev, hsl]
  refine loop_rule (fun m vs σ' => ∃ k : Nat, x.length ≤ k ∧ k ≤ x.length + 9 ∧ m = x.length + 9 - k ∧ σ' = σ1 ∧ vs = [l, .slice 1 id 0 0 (x.length + 9) (some (x.length + 9)), .int .i64 k]) 9 ⟨x.length, Nat.le_refl _, by omega, by omega, rfl, ?_⟩ ?_
  · simp -dsimp only [↓WPd, ↓wpC_block, ↓wpC_cond, WPu, Bool.false_eq_true, Bool.true_eq_false, Bool.not_true, Bool.not_false, if_true, if_false, ite_true, ite_false, Nat.reduceEqDiff, Nat.reduceLT, true_and, List.map_cons, List.map_nil, Nat.zero_add, Nat.reduceBEq]
  · rintro m vs σ' ⟨k, hk0, hk, rfl, rfl, rfl⟩
    have el : lenSV (.slice 1 id 0 0 (x.length + 9) (some (x.length + 9))) = some (x.length + 9) := rfl
    simp -dsimp only [↓WPd, ↓wpC_block, ↓wpC_cond, WPu, Bool.false_eq_true, Bool.true_eq_false, Bool.not_true, Bool.not_false, if_true, if_false, ite_true, ite_false, Nat.reduceEqDiff, Nat.reduceLT, true_and, List.map_cons, List.map_nil, Nat.zero_add, Nat.reduceBEq, el]
    refine condP_dec (fun h => ?_) (fun h => ?_)
    · have hk' : k < x.length + 9 := by omega
      have hi2 : k < (B (x ++ marks)).length := by rw [B_len]; simp [marks_len]; omega
      have w1 : IntKind.i64.wrap (160 + (k : Int)) = ((160 + k : Nat) : Int) := by rw [wrap_i64 (by omega) (by omega)]; omega
      have w2 : IntKind.i64.wrap (((160 + k : Nat) : Int) - (x.length : Int)) = ((160 + (k - x.length) : Nat) : Int) := by rw [wrap_i64 (by omega) (by omega)]; omega
      have c1 : convV .u8 (.int .i64 ((160 + (k - x.length) : Nat) : Int)) = some (.int .u8 ((UInt8.ofNat (160 + (k - x.length))).toNat : Int)) := by
        rw [convV_int, wrap_u8_mod, UInt8.toNat_ofNat']; rfl
      have ld := arr_load1 hv.obj (Nat.le_refl 0) hi2 (by rw [B_get]; rfl)
      have eg : (B (x ++ marks))[k] = .int .u8 (UInt8.ofNat (160 + (k - x.length))).toNat := by
        rw [B_get, List.getElem_append_right hk0, marks_get]
      rw [eg] at ld
      have en : (((UInt8.ofNat (160 + (k - x.length))).toNat : Int) != ((UInt8.ofNat (160 + (k - x.length))).toNat : Int)) = false := by simp
      simp -dsimp only [↓WPd, ↓wpC_block, ↓wpC_cond, WPu, Bool.false_eq_true, Bool.true_eq_false, Bool.not_true, Bool.not_false, if_true, if_false, ite_true, ite_false, Nat.reduceEqDiff, Nat.reduceLT, true_and, List.map_cons, List.map_nil, Nat.zero_add, Nat.reduceBEq, ll, w1, w2, c1, arr_iaddr (show k < x.length + 9 by omega), ld, en]
      refine ⟨x.length + 9 - (k + 1), by omega, k + 1, by omega, by omega, rfl, ?_⟩
      rw [wrap_i64 (by omega) (by omega), Int.natCast_add, Int.natCast_one]
    · simp -dsimp only [↓WPd, ↓wpC_block, ↓wpC_cond, WPu, Bool.false_eq_true, Bool.true_eq_false, Bool.not_true, Bool.not_false, if_true, if_false, ite_true, ite_false, Nat.reduceEqDiff, Nat.reduceLT, true_and, List.map_cons, List.map_nil, Nat.zero_add, Nat.reduceBEq]
end
end Go.Proofs.Ytmocplkpnickgaa.Am

/-
  purlinmem: a book of lists of bytes and of numbers that were handed out: none shows in another one.
-/
namespace Go.Proofs.Ytmocplkpnickgaa.Am
open Go
set_option linter.unusedVariables false
set_option linter.unusedSimpArgs false
set_option linter.unusedSectionVars false
set_option maxRecDepth 100000

theorem ORows.cell {σ σ' : Store} {lo : Nat} {l : AVal} {es : List AVal} {ps : List (List AVal)} {id : Nat} {cs : List AVal} (h : ORows σ lo 1 l es ps) (ho : σ[id]? = some (.cells cs)) (hk : Keeps (fun i => i = id) σ σ') : ORows σ' lo 1 l es ps :=
  ⟨h.row.keeps hk fun i hi e => h.row.noCell ho (by rw [← e]; exact hi), h.len, fun i e p h1 h2 => (h.one i e p h1 h2).keeps hk fun j hj e' => (h.one i e p h1 h2).noCell ho (by rw [← e']; exact hj), h.frs, h.frl, h.apart, h.off, h.lit, h.litl⟩
/-- one more list of its own, whenever it was made -/
theorem ORows.push2 {σ : Store} {lo sz : Nat} {l : AVal} {es : List AVal} {ps : List (List AVal)} (h : ORows σ lo sz l es ps) {e : AVal} {p : List AVal} (he : Own σ sz e p) (fe : Fresh lo e) (le : NoLit e) (hlo : lo ≤ σ.length)
    (hl : ∀ id, e.sid = some id → l.sid ≠ some id) (hx : ∀ (i : Nat) (x : AVal) (id : Nat), es[i]? = some x → e.sid = some id → x.sid ≠ some id) (bytes : Nat) (hb : (es.length + 1) * bytes ≤ 70368744177664) :
    ∃ l' σ2, appendV σ 1 bytes l [e] = some (l', σ2) ∧ ORows σ2 lo sz l' (es ++ [e]) (ps ++ [p]) ∧ Keeps (fun i => l.sid = some i) σ σ2 ∧ ∀ id, l'.sid = some id → l.sid = some id ∨ id = σ.length := by
  obtain ⟨l', σ2, h1, h2, h3, h4, h5⟩ := h.row.append [e] bytes hb
  have old : ∀ (i : Nat) (x : AVal), (es ++ [e])[i]? = some x → (es[i]? = some x ∧ i < es.length) ∨ (i = es.length ∧ x = e) := by
    intro i x hx
    rw [List.getElem?_append] at hx
    split at hx
    · rename_i hlt; exact .inl ⟨hx, hlt⟩
    · rename_i hlt
      rw [List.getElem?_singleton] at hx
      split at hx
      · injection hx with hx; exact .inr ⟨by omega, hx.symm⟩
      · cases hx
  have hx1 : ∀ (i : Nat) (x : AVal) (id : Nat), (es ++ [e])[i]? = some x → x.sid = some id → id < σ.length ∧ l.sid ≠ some id := by
    intro i x id hx hid
    rcases old i x hx with ⟨hx', _⟩ | ⟨_, rfl⟩
    · exact ⟨h.lt hx' hid, h.off i x id hx' hid⟩
    · exact ⟨he.sl.lt hid, hl id hid⟩
  refine ⟨l', σ2, h1, ⟨h2, by simp [h.len], ?_, ?_, ?_, ?_, ?_, ?_, h5 (.inr (by simp))⟩, h3, h4⟩
  · intro i x q hxi hq
    refine Own.keeps (σ := σ) ?_ h3 fun id hid => (hx1 i x id hxi hid).2
    rcases old i x hxi with ⟨hx', hlt⟩ | ⟨rfl, rfl⟩
    · rw [List.getElem?_append_left (by rw [← h.len]; exact hlt)] at hq
      exact h.one i x q hx' hq
    · rw [h.len, List.getElem?_append_right (Nat.le_refl _), Nat.sub_self] at hq
      simp at hq; subst hq; exact he
  · intro i x hxi
    rcases old i x hxi with ⟨hx', _⟩ | ⟨_, rfl⟩
    · exact h.frs i x hx'
    · exact fe
  · intro id hid
    rcases h4 id hid with hh | hh
    · exact h.frl id hh
    · omega
  · intro i j x y id hxi hyi hxs hys
    rcases old i x hxi with ⟨hx', hil⟩ | ⟨hi, hxe⟩ <;> rcases old j y hyi with ⟨hy', hjl⟩ | ⟨hj, hye⟩
    · exact h.apart i j x y id hx' hy' hxs hys
    · rw [hye] at hys; exact absurd hxs (hx i x id hx' hys)
    · rw [hxe] at hxs; exact absurd hys (hx j y id hy' hxs)
    · omega
  · intro i x id hxi hid hl'
    obtain ⟨k1, k2⟩ := hx1 i x id hxi hid
    rcases h4 id hl' with hh | hh
    · exact k2 hh
    · omega
  · intro i x hxi
    rcases old i x hxi with ⟨hx', _⟩ | ⟨_, rfl⟩
    · exact h.lit i x hx'
    · exact le

theorem Own.lit1 {σ : Store} {e : AVal} {p : List AVal} (he : Own σ 1 e p) : fillL 1 false (List.replicate 1 (zel [AVal.nilslice] false)) [(0, e)] = some [e] := by
  rcases he.own with ⟨rfl, _⟩ | ⟨t, rfl⟩ | ⟨id, ep, off, cap, xs, epo, fl, rfl, _⟩ <;> simp

theorem ORows.setElem {σ σ' : Store} {lo sz : Nat} {w : AVal} {es : List AVal} {ps : List (List AVal)} (h : ORows σ lo sz w es ps) {i : Nat} {e : AVal} {p : List AVal} (hi : es[i]? = some e) (he : Own σ' sz e p) (hk : Keeps (fun j => e.sid = some j) σ σ') :
    ORows σ' lo sz w es (ps.set i p) := by
  refine ⟨h.row.keeps hk fun j hj hj' => h.off i e j hi hj' hj, by simp [h.len], fun k x q hx hq => ?_, h.frs, h.frl, h.apart, h.off, h.lit, h.litl⟩
  by_cases hki : k = i
  · subst hki
    rw [hi] at hx; injection hx with hx; subst hx
    rw [List.getElem?_set_self (by rw [← h.len]; exact (List.getElem?_eq_some_iff.1 hi).1)] at hq
    injection hq with hq; subst hq; exact he
  · rw [List.getElem?_set_ne (fun e => hki e.symm)] at hq
    exact (h.one k x q hx hq).keeps hk fun j hj hj' => hki (h.apart k i x e j hx hi hj hj')

/-- whole numbers as elements -/
def II (l : List Int) : List AVal := l.map fun i => .int .i64 i
theorem II_len (l : List Int) : (II l).length = l.length := by simp [II]
theorem II_get (l : List Int) (i : Nat) (h : i < (II l).length) : (II l)[i] = .int .i64 (l[i]'(by simpa [II] using h)) := by simp [II]
theorem II_app (a b : List Int) : II a ++ II b = II (a ++ b) := by simp [II]
def mkB (i : Nat) : UInt8 := UInt8.ofNat (48 + i % 200)
def mkI (i : Nat) : Int := -9000 - i

/-- a book, with the bytes that it keeps -/
structure BookB (c1 c2 c3 c4 : AVal) (lo : Nat) (σ : Store) (id : Nat) (w : AVal) (es : List AVal) (ps : List (List UInt8)) : Prop where
  obj : σ[id]? = some (.cells [w, c1, c2, c3, c4])
  rows : ORows σ lo 1 w es (ps.map B)
/-- .. with the numbers -/
structure BookI (c1 c2 c3 c4 : AVal) (lo : Nat) (σ : Store) (id : Nat) (w : AVal) (es : List AVal) (ps : List (List Int)) : Prop where
  obj : σ[id]? = some (.cells [c1, c2, w, c3, c4])
  rows : ORows σ lo 1 w es (ps.map II)

section
variable (d : Nat) (σ : Store)

theorem mk_ops (i : Nat) (hi : i < 2 ^ 40) : iopV .rem (.int .i64 (i : Nat)) (.int .i64 200) = some (.int .i64 ((i % 200 : Nat) : Int)) ∧ IntKind.i64.wrap (48 + ((i % 200 : Nat) : Int)) = ((48 + i % 200 : Nat) : Int) ∧
    convV .u8 (.int .i64 ((48 + i % 200 : Nat) : Int)) = some (.int .u8 ((mkB i).toNat : Int)) := by
  refine ⟨?_, ?_, ?_⟩
  · rw [iop_rem, if_neg (by decide), Int.tmod_eq_emod_of_nonneg (by omega)]; rfl
  · rw [wrap_i64 (by omega) (by omega)]; omega
  · rw [convV_int, wrap_u8_mod, mkB, UInt8.toNat_ofNat']; rfl

theorem mk_opsI (i : Nat) (hi : i < 2 ^ 40) : IntKind.i64.wrap (-9000 - (i : Int)) = mkI i ∧ True ∧ True := ⟨by unfold mkI; rw [wrap_i64 (by omega) (by omega)], trivial, trivial⟩

theorem takebytes_ok (c1 c2 c3 c4 : AVal) (lo : Nat) (id : Nat) (w e : AVal) (es : List AVal) (ps : List (List UInt8)) (p : List UInt8) (h : BookB c1 c2 c3 c4 lo σ id w es ps) (he : Own σ 1 e (B p)) (fe : Fresh lo e) (hlo : lo ≤ σ.length) (le : NoLit e) (hn : ps.length < 2 ^ 30)
    (hl : ∀ j, e.sid = some j → w.sid ≠ some j) (hx : ∀ (i : Nat) (x : AVal) (j : Nat), es[i]? = some x → e.sid = some j → x.sid ≠ some j) :
    Called CN.cfg d 24 [.ptr id 0, e] σ fun _ σ' => Keeps (fun i => i = id ∨ w.sid = some i) σ σ' ∧ ∃ w', BookB c1 c2 c3 c4 lo σ' id w' (es ++ [e]) (ps ++ [p]) ∧ (∀ j, w'.sid = some j → w.sid = some j ∨ σ.length ≤ j) := by
  refine called_of (fn := CN.a24) rfl (Nat.le_of_ble_eq_true rfl) ?_
  have g1 : Grows σ (σ ++ [.arr 1 [e] 0 0]) := Grows.app _ _
  have hr := h.rows.grow g1
  have hlen := h.rows.len
  rw [List.length_map] at hlen
  obtain ⟨w', σ2, a1, a2, a3, a4⟩ := hr.push2 (he.grow g1) fe le (Nat.le_trans hlo g1.1) hl hx 24 (by omega)
  have ho := g1.get h.obj
  have ho2 := a3.get ho (h.rows.row.grow g1 |>.noCell ho)
  have st := store_cells ho2 (off := 0) (by simp) (v := w') a2.row.sl.one
  simp only [List.set_cons_zero] at st
  simp only [CN.a24]
  simp -dsimp only [↓WPd, ↓wpC_block, ↓wpC_cond, WPu, Bool.false_eq_true, Bool.true_eq_false, Bool.not_true, Bool.not_false, if_true, if_false, ite_true, ite_false, Nat.reduceEqDiff, Nat.reduceLT, true_and, List.map_cons, List.map_nil, Nat.zero_add, Nat.reduceBEq, faddr_ptr, load_cells h.obj, List.getElem?_cons_zero, he.lit1, lit_elems σ 1 [e] 1 rfl, a1, st, resultsA, mapO]
  have k1 : Keeps (fun i => i = id ∨ w.sid = some i) σ σ2 := Keeps.trans (Grows.any g1) a3 fun i hi e => .inr e
  refine ⟨Keeps.trans k1 (Keeps.set _ _ _) fun i hi e => .inl e, w', ⟨get_set ho2, ?_⟩, fun j hj => ?_⟩
  · have := a2.cell ho2 (Keeps.set σ2 id (.cells [w', c1, c2, c3, c4]))
    simpa using this
  · rcases a4 j hj with e | e
    · exact .inl e
    · have := g1.1; exact .inr (by omega)

theorem takeints_ok (c1 c2 c3 c4 : AVal) (lo : Nat) (id : Nat) (w e : AVal) (es : List AVal) (ps : List (List Int)) (p : List Int) (h : BookI c1 c2 c3 c4 lo σ id w es ps) (he : Own σ 1 e (II p)) (fe : Fresh lo e) (hlo : lo ≤ σ.length) (le : NoLit e) (hn : ps.length < 2 ^ 30)
    (hl : ∀ j, e.sid = some j → w.sid ≠ some j) (hx : ∀ (i : Nat) (x : AVal) (j : Nat), es[i]? = some x → e.sid = some j → x.sid ≠ some j) :
    Called CN.cfg d 54 [.ptr id 0, e] σ fun _ σ' => Keeps (fun i => i = id ∨ w.sid = some i) σ σ' ∧ ∃ w', BookI c1 c2 c3 c4 lo σ' id w' (es ++ [e]) (ps ++ [p]) ∧ (∀ j, w'.sid = some j → w.sid = some j ∨ σ.length ≤ j) := by
  refine called_of (fn := CN.a54) rfl (Nat.le_of_ble_eq_true rfl) ?_
  have g1 : Grows σ (σ ++ [.arr 1 [e] 0 0]) := Grows.app _ _
  have hr := h.rows.grow g1
  have hlen := h.rows.len
  rw [List.length_map] at hlen
  obtain ⟨w', σ2, a1, a2, a3, a4⟩ := hr.push2 (he.grow g1) fe le (Nat.le_trans hlo g1.1) hl hx 24 (by omega)
  have ho := g1.get h.obj
  have ho2 := a3.get ho (h.rows.row.grow g1 |>.noCell ho)
  have st := store_cells ho2 (off := 2) (by simp) (v := w') a2.row.sl.one
  simp only [List.set_cons_zero, List.set_cons_succ] at st
  simp only [CN.a54]
  simp -dsimp only [↓WPd, ↓wpC_block, ↓wpC_cond, WPu, Bool.false_eq_true, Bool.true_eq_false, Bool.not_true, Bool.not_false, if_true, if_false, ite_true, ite_false, Nat.reduceEqDiff, Nat.reduceLT, true_and, List.map_cons, List.map_nil, Nat.zero_add, Nat.reduceBEq, faddr_ptr, load_cells h.obj, List.getElem?_cons_zero, List.getElem?_cons_succ, he.lit1, lit_elems σ 1 [e] 1 rfl, a1, st, resultsA, mapO]
  have k1 : Keeps (fun i => i = id ∨ w.sid = some i) σ σ2 := Keeps.trans (Grows.any g1) a3 fun i hi e => .inr e
  refine ⟨Keeps.trans k1 (Keeps.set _ _ _) fun i hi e => .inl e, w', ⟨get_set ho2, ?_⟩, fun j hj => ?_⟩
  · have := a2.cell ho2 (Keeps.set σ2 id (.cells [c1, c2, w', c3, c4]))
    simpa using this
  · rcases a4 j hj with e | e
    · exact .inl e
    · have := g1.1; exact .inr (by omega)

theorem alonetexts_ok (id : Nat) (c0 c1 c2 c3 c4 : AVal) (h : σ[id]? = some (.cells [c0, c1, c2, c3, c4])) (hc : c1 = .nilslice) : Called CN.cfg d 68 [.ptr id 0] σ fun r σ' => r = .bool true ∧ σ' = σ := by
  subst hc
  refine called_of (fn := CN.a68) rfl (Nat.le_of_ble_eq_true rfl) ?_
  have el : lenSV .nilslice = some 0 := rfl
  have d0 : decide ((0 : Int) < ((0 : Nat) : Int)) = false := rfl
  simp only [CN.a68]
  simp -dsimp only [↓WPd, ↓wpC_block, ↓wpC_cond, WPu, Bool.false_eq_true, Bool.true_eq_false, Bool.not_true, Bool.not_false, if_true, if_false, ite_true, ite_false, Nat.reduceEqDiff, Nat.reduceLT, true_and, List.map_cons, List.map_nil, Nat.zero_add, Nat.reduceBEq]
  refine loop_rule (fun m vs σ' => σ' = σ ∧ vs = [.ptr id 0, .int .i64 0]) 0 ⟨rfl, ?_⟩ ?_
  · simp -dsimp only [↓WPd, ↓wpC_block, ↓wpC_cond, WPu, Bool.false_eq_true, Bool.true_eq_false, Bool.not_true, Bool.not_false, if_true, if_false, ite_true, ite_false, Nat.reduceEqDiff, Nat.reduceLT, true_and, List.map_cons, List.map_nil, Nat.zero_add, Nat.reduceBEq]
  rintro m vs σ' ⟨rfl, rfl⟩
  simp -dsimp only [↓WPd, ↓wpC_block, ↓wpC_cond, WPu, Bool.false_eq_true, Bool.true_eq_false, Bool.not_true, Bool.not_false, if_true, if_false, ite_true, ite_false, Nat.reduceEqDiff, Nat.reduceLT, true_and, List.map_cons, List.map_nil, Nat.zero_add, Nat.reduceBEq, faddr_ptr, load_cells h, List.getElem?_cons_zero, List.getElem?_cons_succ, el, d0]
  refine loop_rule (fun m vs σ2 => σ2 = σ' ∧ vs = [.ptr id 0, .nilslice, .int .i64 0]) 0 ⟨rfl, ?_⟩ ?_
  · simp -dsimp only [↓WPd, ↓wpC_block, ↓wpC_cond, WPu, Bool.false_eq_true, Bool.true_eq_false, Bool.not_true, Bool.not_false, if_true, if_false, ite_true, ite_false, Nat.reduceEqDiff, Nat.reduceLT, true_and, List.map_cons, List.map_nil, Nat.zero_add, Nat.reduceBEq]
  rintro m vs σ2 ⟨rfl, rfl⟩
  simp -dsimp only [↓WPd, ↓wpC_block, ↓wpC_cond, WPu, Bool.false_eq_true, Bool.true_eq_false, Bool.not_true, Bool.not_false, if_true, if_false, ite_true, ite_false, Nat.reduceEqDiff, Nat.reduceLT, true_and, List.map_cons, List.map_nil, Nat.zero_add, Nat.reduceBEq, faddr_ptr, load_cells h, List.getElem?_cons_zero, List.getElem?_cons_succ, el, d0]
  refine loop_rule (fun m vs σ3 => σ3 = σ2 ∧ vs = [.ptr id 0, .nilslice, .int .i64 0]) 0 ⟨rfl, ?_⟩ ?_
  · simp -dsimp only [↓WPd, ↓wpC_block, ↓wpC_cond, WPu, Bool.false_eq_true, Bool.true_eq_false, Bool.not_true, Bool.not_false, if_true, if_false, ite_true, ite_false, Nat.reduceEqDiff, Nat.reduceLT, true_and, List.map_cons, List.map_nil, Nat.zero_add, Nat.reduceBEq]
  rintro m vs σ3 ⟨rfl, rfl⟩
  simp -dsimp only [↓WPd, ↓wpC_block, ↓wpC_cond, WPu, Bool.false_eq_true, Bool.true_eq_false, Bool.not_true, Bool.not_false, if_true, if_false, ite_true, ite_false, Nat.reduceEqDiff, Nat.reduceLT, true_and, List.map_cons, List.map_nil, Nat.zero_add, Nat.reduceBEq, faddr_ptr, load_cells h, List.getElem?_cons_zero, List.getElem?_cons_succ, el, d0]
theorem aloneints_ok (id : Nat) (c0 c1 c2 c3 c4 : AVal) (h : σ[id]? = some (.cells [c0, c1, c2, c3, c4])) (hc : c2 = .nilslice) : Called CN.cfg d 69 [.ptr id 0] σ fun r σ' => r = .bool true ∧ σ' = σ := by
  subst hc
  refine called_of (fn := CN.a69) rfl (Nat.le_of_ble_eq_true rfl) ?_
  have el : lenSV .nilslice = some 0 := rfl
  have d0 : decide ((0 : Int) < ((0 : Nat) : Int)) = false := rfl
  simp only [CN.a69]
  simp -dsimp only [↓WPd, ↓wpC_block, ↓wpC_cond, WPu, Bool.false_eq_true, Bool.true_eq_false, Bool.not_true, Bool.not_false, if_true, if_false, ite_true, ite_false, Nat.reduceEqDiff, Nat.reduceLT, true_and, List.map_cons, List.map_nil, Nat.zero_add, Nat.reduceBEq]
  refine loop_rule (fun m vs σ' => σ' = σ ∧ vs = [.ptr id 0, .int .i64 0]) 0 ⟨rfl, ?_⟩ ?_
  · simp -dsimp only [↓WPd, ↓wpC_block, ↓wpC_cond, WPu, Bool.false_eq_true, Bool.true_eq_false, Bool.not_true, Bool.not_false, if_true, if_false, ite_true, ite_false, Nat.reduceEqDiff, Nat.reduceLT, true_and, List.map_cons, List.map_nil, Nat.zero_add, Nat.reduceBEq]
  rintro m vs σ' ⟨rfl, rfl⟩
  simp -dsimp only [↓WPd, ↓wpC_block, ↓wpC_cond, WPu, Bool.false_eq_true, Bool.true_eq_false, Bool.not_true, Bool.not_false, if_true, if_false, ite_true, ite_false, Nat.reduceEqDiff, Nat.reduceLT, true_and, List.map_cons, List.map_nil, Nat.zero_add, Nat.reduceBEq, faddr_ptr, load_cells h, List.getElem?_cons_zero, List.getElem?_cons_succ, el, d0]
  refine loop_rule (fun m vs σ2 => σ2 = σ' ∧ vs = [.ptr id 0, .nilslice, .int .i64 0]) 0 ⟨rfl, ?_⟩ ?_
  · simp -dsimp only [↓WPd, ↓wpC_block, ↓wpC_cond, WPu, Bool.false_eq_true, Bool.true_eq_false, Bool.not_true, Bool.not_false, if_true, if_false, ite_true, ite_false, Nat.reduceEqDiff, Nat.reduceLT, true_and, List.map_cons, List.map_nil, Nat.zero_add, Nat.reduceBEq]
  rintro m vs σ2 ⟨rfl, rfl⟩
  simp -dsimp only [↓WPd, ↓wpC_block, ↓wpC_cond, WPu, Bool.false_eq_true, Bool.true_eq_false, Bool.not_true, Bool.not_false, if_true, if_false, ite_true, ite_false, Nat.reduceEqDiff, Nat.reduceLT, true_and, List.map_cons, List.map_nil, Nat.zero_add, Nat.reduceBEq, faddr_ptr, load_cells h, List.getElem?_cons_zero, List.getElem?_cons_succ, el, d0]
  refine loop_rule (fun m vs σ3 => σ3 = σ2 ∧ vs = [.ptr id 0, .nilslice, .int .i64 0]) 0 ⟨rfl, ?_⟩ ?_
  · simp -dsimp only [↓WPd, ↓wpC_block, ↓wpC_cond, WPu, Bool.false_eq_true, Bool.true_eq_false, Bool.not_true, Bool.not_false, if_true, if_false, ite_true, ite_false, Nat.reduceEqDiff, Nat.reduceLT, true_and, List.map_cons, List.map_nil, Nat.zero_add, Nat.reduceBEq]
  rintro m vs σ3 ⟨rfl, rfl⟩
  simp -dsimp only [↓WPd, ↓wpC_block, ↓wpC_cond, WPu, Bool.false_eq_true, Bool.true_eq_false, Bool.not_true, Bool.not_false, if_true, if_false, ite_true, ite_false, Nat.reduceEqDiff, Nat.reduceLT, true_and, List.map_cons, List.map_nil, Nat.zero_add, Nat.reduceBEq, faddr_ptr, load_cells h, List.getElem?_cons_zero, List.getElem?_cons_succ, el, d0]
theorem alonecells_ok (id : Nat) (c0 c1 c2 c3 c4 : AVal) (h : σ[id]? = some (.cells [c0, c1, c2, c3, c4])) (hc : c3 = .nilslice) : Called CN.cfg d 70 [.ptr id 0] σ fun r σ' => r = .bool true ∧ σ' = σ := by
  subst hc
  refine called_of (fn := CN.a70) rfl (Nat.le_of_ble_eq_true rfl) ?_
  have el : lenSV .nilslice = some 0 := rfl
  have d0 : decide ((0 : Int) < ((0 : Nat) : Int)) = false := rfl
  simp only [CN.a70]
  simp -dsimp only [↓WPd, ↓wpC_block, ↓wpC_cond, WPu, Bool.false_eq_true, Bool.true_eq_false, Bool.not_true, Bool.not_false, if_true, if_false, ite_true, ite_false, Nat.reduceEqDiff, Nat.reduceLT, true_and, List.map_cons, List.map_nil, Nat.zero_add, Nat.reduceBEq]
  refine loop_rule (fun m vs σ' => σ' = σ ∧ vs = [.ptr id 0, .int .i64 0]) 0 ⟨rfl, ?_⟩ ?_
  · simp -dsimp only [↓WPd, ↓wpC_block, ↓wpC_cond, WPu, Bool.false_eq_true, Bool.true_eq_false, Bool.not_true, Bool.not_false, if_true, if_false, ite_true, ite_false, Nat.reduceEqDiff, Nat.reduceLT, true_and, List.map_cons, List.map_nil, Nat.zero_add, Nat.reduceBEq]
  rintro m vs σ' ⟨rfl, rfl⟩
  simp -dsimp only [↓WPd, ↓wpC_block, ↓wpC_cond, WPu, Bool.false_eq_true, Bool.true_eq_false, Bool.not_true, Bool.not_false, if_true, if_false, ite_true, ite_false, Nat.reduceEqDiff, Nat.reduceLT, true_and, List.map_cons, List.map_nil, Nat.zero_add, Nat.reduceBEq, faddr_ptr, load_cells h, List.getElem?_cons_zero, List.getElem?_cons_succ, el, d0]
  refine loop_rule (fun m vs σ2 => σ2 = σ' ∧ vs = [.ptr id 0, .nilslice, .int .i64 0]) 0 ⟨rfl, ?_⟩ ?_
  · simp -dsimp only [↓WPd, ↓wpC_block, ↓wpC_cond, WPu, Bool.false_eq_true, Bool.true_eq_false, Bool.not_true, Bool.not_false, if_true, if_false, ite_true, ite_false, Nat.reduceEqDiff, Nat.reduceLT, true_and, List.map_cons, List.map_nil, Nat.zero_add, Nat.reduceBEq]
  rintro m vs σ2 ⟨rfl, rfl⟩
  simp -dsimp only [↓WPd, ↓wpC_block, ↓wpC_cond, WPu, Bool.false_eq_true, Bool.true_eq_false, Bool.not_true, Bool.not_false, if_true, if_false, ite_true, ite_false, Nat.reduceEqDiff, Nat.reduceLT, true_and, List.map_cons, List.map_nil, Nat.zero_add, Nat.reduceBEq, faddr_ptr, load_cells h, List.getElem?_cons_zero, List.getElem?_cons_succ, el, d0]
  refine loop_rule (fun m vs σ3 => σ3 = σ2 ∧ vs = [.ptr id 0, .nilslice, .int .i64 0]) 0 ⟨rfl, ?_⟩ ?_
  · simp -dsimp only [↓WPd, ↓wpC_block, ↓wpC_cond, WPu, Bool.false_eq_true, Bool.true_eq_false, Bool.not_true, Bool.not_false, if_true, if_false, ite_true, ite_false, Nat.reduceEqDiff, Nat.reduceLT, true_and, List.map_cons, List.map_nil, Nat.zero_add, Nat.reduceBEq]
  rintro m vs σ3 ⟨rfl, rfl⟩
  simp -dsimp only [↓WPd, ↓wpC_block, ↓wpC_cond, WPu, Bool.false_eq_true, Bool.true_eq_false, Bool.not_true, Bool.not_false, if_true, if_false, ite_true, ite_false, Nat.reduceEqDiff, Nat.reduceLT, true_and, List.map_cons, List.map_nil, Nat.zero_add, Nat.reduceBEq, faddr_ptr, load_cells h, List.getElem?_cons_zero, List.getElem?_cons_succ, el, d0]
theorem alonenames_ok (id : Nat) (c0 c1 c2 c3 c4 : AVal) (h : σ[id]? = some (.cells [c0, c1, c2, c3, c4])) (hc : c4 = .nilslice) : Called CN.cfg d 71 [.ptr id 0] σ fun r σ' => r = .bool true ∧ σ' = σ := by
  subst hc
  refine called_of (fn := CN.a71) rfl (Nat.le_of_ble_eq_true rfl) ?_
  have el : lenSV .nilslice = some 0 := rfl
  have d0 : decide ((0 : Int) < ((0 : Nat) : Int)) = false := rfl
  simp only [CN.a71]
  simp -dsimp only [↓WPd, ↓wpC_block, ↓wpC_cond, WPu, Bool.false_eq_true, Bool.true_eq_false, Bool.not_true, Bool.not_false, if_true, if_false, ite_true, ite_false, Nat.reduceEqDiff, Nat.reduceLT, true_and, List.map_cons, List.map_nil, Nat.zero_add, Nat.reduceBEq]
  refine loop_rule (fun m vs σ' => σ' = σ ∧ vs = [.ptr id 0, .int .i64 0]) 0 ⟨rfl, ?_⟩ ?_
  · simp -dsimp only [↓WPd, ↓wpC_block, ↓wpC_cond, WPu, Bool.false_eq_true, Bool.true_eq_false, Bool.not_true, Bool.not_false, if_true, if_false, ite_true, ite_false, Nat.reduceEqDiff, Nat.reduceLT, true_and, List.map_cons, List.map_nil, Nat.zero_add, Nat.reduceBEq]
  rintro m vs σ' ⟨rfl, rfl⟩
  simp -dsimp only [↓WPd, ↓wpC_block, ↓wpC_cond, WPu, Bool.false_eq_true, Bool.true_eq_false, Bool.not_true, Bool.not_false, if_true, if_false, ite_true, ite_false, Nat.reduceEqDiff, Nat.reduceLT, true_and, List.map_cons, List.map_nil, Nat.zero_add, Nat.reduceBEq, faddr_ptr, load_cells h, List.getElem?_cons_zero, List.getElem?_cons_succ, el, d0]
  refine loop_rule (fun m vs σ2 => σ2 = σ' ∧ vs = [.ptr id 0, .nilslice, .int .i64 0]) 0 ⟨rfl, ?_⟩ ?_
  · simp -dsimp only [↓WPd, ↓wpC_block, ↓wpC_cond, WPu, Bool.false_eq_true, Bool.true_eq_false, Bool.not_true, Bool.not_false, if_true, if_false, ite_true, ite_false, Nat.reduceEqDiff, Nat.reduceLT, true_and, List.map_cons, List.map_nil, Nat.zero_add, Nat.reduceBEq]
  rintro m vs σ2 ⟨rfl, rfl⟩
  simp -dsimp only [↓WPd, ↓wpC_block, ↓wpC_cond, WPu, Bool.false_eq_true, Bool.true_eq_false, Bool.not_true, Bool.not_false, if_true, if_false, ite_true, ite_false, Nat.reduceEqDiff, Nat.reduceLT, true_and, List.map_cons, List.map_nil, Nat.zero_add, Nat.reduceBEq, faddr_ptr, load_cells h, List.getElem?_cons_zero, List.getElem?_cons_succ, el, d0]
  refine loop_rule (fun m vs σ3 => σ3 = σ2 ∧ vs = [.ptr id 0, .nilslice, .int .i64 0]) 0 ⟨rfl, ?_⟩ ?_
  · simp -dsimp only [↓WPd, ↓wpC_block, ↓wpC_cond, WPu, Bool.false_eq_true, Bool.true_eq_false, Bool.not_true, Bool.not_false, if_true, if_false, ite_true, ite_false, Nat.reduceEqDiff, Nat.reduceLT, true_and, List.map_cons, List.map_nil, Nat.zero_add, Nat.reduceBEq]
  rintro m vs σ3 ⟨rfl, rfl⟩
  simp -dsimp only [↓WPd, ↓wpC_block, ↓wpC_cond, WPu, Bool.false_eq_true, Bool.true_eq_false, Bool.not_true, Bool.not_false, if_true, if_false, ite_true, ite_false, Nat.reduceEqDiff, Nat.reduceLT, true_and, List.map_cons, List.map_nil, Nat.zero_add, Nat.reduceBEq, faddr_ptr, load_cells h, List.getElem?_cons_zero, List.getElem?_cons_succ, el, d0]
set_option maxHeartbeats 4000000 in
theorem alonebytes_ok (c1 c2 c3 c4 : AVal) (lo : Nat) (id : Nat) (w : AVal) (es : List AVal) (qs : List (List UInt8)) (h : BookB c1 c2 c3 c4 lo σ id w es qs) (hn : qs.length < 2 ^ 28) (hq : ∀ q ∈ qs, q.length < 2 ^ 28) :
    Called CN.cfg d 67 [.ptr id 0] σ fun r σ' => r = .bool true ∧ σ'[id]? = some (.cells [w, c1, c2, c3, c4]) ∧ Keeps (fun j => ∃ (i : Nat) (e : AVal), es[i]? = some e ∧ e.sid = some j) σ σ' := by
  refine called_of (fn := CN.a67) rfl (Nat.le_of_ble_eq_true rfl) ?_
  have hpl := h.rows.len
  rw [List.length_map] at hpl
  have lw := h.rows.row.sl.len
  rw [hpl] at lw
  have sub : ∀ {i : Nat} {e : AVal} {σ1 σ2 : Store}, es[i]? = some e → Keeps (fun j => e.sid = some j) σ1 σ2 → Keeps (fun j => ∃ (i : Nat) (e : AVal), es[i]? = some e ∧ e.sid = some j) σ1 σ2 := fun hi hk => hk.mono fun j _ hj => ⟨_, _, hi, hj⟩
  simp only [CN.a67]
  simp -dsimp only [↓WPd, ↓wpC_block, ↓wpC_cond, WPu, Bool.false_eq_true, Bool.true_eq_false, Bool.not_true, Bool.not_false, if_true, if_false, ite_true, ite_false, Nat.reduceEqDiff, Nat.reduceLT, true_and, List.map_cons, List.map_nil, Nat.zero_add, Nat.reduceBEq]
  -- the first loop: all are written over
  refine loop_rule2 (fun m vs σ' => ∃ (i : Nat) (xs : List (List UInt8)), i ≤ qs.length ∧ m = qs.length - i ∧ vs = [.ptr id 0, .int .i64 i] ∧ BookB c1 c2 c3 c4 lo σ' id w es xs ∧ xs.length = qs.length ∧ (∀ (j : Nat) (x : List UInt8), xs[j]? = some x → x.length < 2 ^ 28 ∧ (j < i → x = List.replicate x.length (mkB j))) ∧
      Keeps (fun j => ∃ (i : Nat) (e : AVal), es[i]? = some e ∧ e.sid = some j) σ σ')
    [0] (fun x vs σ' => x = .exit 0 ∧ ∃ (xs : List (List UInt8)), vs = [.ptr id 0] ∧ BookB c1 c2 c3 c4 lo σ' id w es xs ∧ xs.length = qs.length ∧ (∀ (j : Nat) (x : List UInt8), xs[j]? = some x → x.length < 2 ^ 28 ∧ x = List.replicate x.length (mkB j)) ∧
      Keeps (fun j => ∃ (i : Nat) (e : AVal), es[i]? = some e ∧ e.sid = some j) σ σ') qs.length
    ⟨0, qs, Nat.zero_le _, rfl, ?_, h, rfl, fun j x hx => ⟨hq x (List.mem_of_getElem? hx), fun h => by omega⟩, Keeps.refl _ _⟩ ?_ ?_
  · simp -dsimp only [↓WPd, ↓wpC_block, ↓wpC_cond, WPu, Bool.false_eq_true, Bool.true_eq_false, Bool.not_true, Bool.not_false, if_true, if_false, ite_true, ite_false, Nat.reduceEqDiff, Nat.reduceLT, true_and, List.map_cons, List.map_nil, Nat.zero_add, Nat.reduceBEq]; rfl
  · rintro m vs σ1 ⟨i, xs, hi, rfl, rfl, hb, hxl, hx, hk⟩
    simp -dsimp only [↓WPd, ↓wpC_block, ↓wpC_cond, WPu, Bool.false_eq_true, Bool.true_eq_false, Bool.not_true, Bool.not_false, if_true, if_false, ite_true, ite_false, Nat.reduceEqDiff, Nat.reduceLT, true_and, List.map_cons, List.map_nil, Nat.zero_add, Nat.reduceBEq, faddr_ptr, load_cells hb.obj, List.getElem?_cons_zero, List.getElem?_cons_succ, lw]
    refine condP_dec (fun hc => ?_) (fun hc => ?_)
    · have hi' : i < qs.length := by omega
      have hie : i < es.length := by omega
      have hei : es[i]? = some es[i] := List.getElem?_eq_getElem hie
      generalize es[i] = e at hei
      obtain ⟨m1, m2, m3⟩ := mk_ops i (by omega)
      simp -dsimp only [↓WPd, ↓wpC_block, ↓wpC_cond, WPu, Bool.false_eq_true, Bool.true_eq_false, Bool.not_true, Bool.not_false, if_true, if_false, ite_true, ite_false, Nat.reduceEqDiff, Nat.reduceLT, true_and, List.map_cons, List.map_nil, Nat.zero_add, Nat.reduceBEq]
      refine loop_rule2 (fun m vs σ' => ∃ (k : Nat) (ys : List (List UInt8)) (y : List UInt8), k ≤ y.length ∧ m = y.length - k ∧ vs = [.ptr id 0, .int .i64 i, .int .i64 k] ∧ BookB c1 c2 c3 c4 lo σ' id w es ys ∧ ys.length = qs.length ∧ ys[i]? = some y ∧ y.length < 2 ^ 28 ∧ y.take k = List.replicate k (mkB i) ∧
          (∀ (j : Nat) (x : List UInt8), j ≠ i → ys[j]? = some x → x.length < 2 ^ 28 ∧ (j < i → x = List.replicate x.length (mkB j))) ∧ Keeps (fun j => ∃ (i : Nat) (e : AVal), es[i]? = some e ∧ e.sid = some j) σ σ')
        [0, 3] (fun x vs σ' => x = .exit 2 ∧ vs = [.ptr id 0, .int .i64 i] ∧ ∃ ys : List (List UInt8), BookB c1 c2 c3 c4 lo σ' id w es ys ∧ ys.length = qs.length ∧ (∀ (j : Nat) (x : List UInt8), ys[j]? = some x → x.length < 2 ^ 28 ∧ (j < i + 1 → x = List.replicate x.length (mkB j))) ∧
          Keeps (fun j => ∃ (i : Nat) (e : AVal), es[i]? = some e ∧ e.sid = some j) σ σ') (xs[i]'(by omega)).length
        ⟨0, xs, xs[i]'(by omega), Nat.zero_le _, rfl, ?_, hb, hxl, List.getElem?_eq_getElem _, (hx i _ (List.getElem?_eq_getElem (by omega))).1, by simp, fun j x _ hj => hx j x hj, hk⟩ ?_ ?_
      · simp -dsimp only [↓WPd, ↓wpC_block, ↓wpC_cond, WPu, Bool.false_eq_true, Bool.true_eq_false, Bool.not_true, Bool.not_false, if_true, if_false, ite_true, ite_false, Nat.reduceEqDiff, Nat.reduceLT, true_and, List.map_cons, List.map_nil, Nat.zero_add, Nat.reduceBEq]; rfl
      · rintro m vs σ2 ⟨k, ys, y, hky, rfl, rfl, hb2, hyl, hyi, hy28, hyt, hyo, hk2⟩
        have oe := hb2.rows.one i e (B y) hei (by rw [List.getElem?_map, hyi]; rfl)
        have le := oe.sl.len
        rw [B_len] at le
        have e1 := hb2.rows.row.sl.iaddr hie .i64
        have e2 := hb2.rows.row.sl.load hie 1 false
        have hg : es[i] = e := by rw [List.getElem?_eq_getElem hie] at hei; exact Option.some.inj hei
        rw [hg, show ld e.cells 0 1 false = some e from by have := oe.sl.one; cases e <;> first | (cases this; done) | rfl] at e2
        simp -dsimp only [↓WPd, ↓wpC_block, ↓wpC_cond, WPu, Bool.false_eq_true, Bool.true_eq_false, Bool.not_true, Bool.not_false, if_true, if_false, ite_true, ite_false, Nat.reduceEqDiff, Nat.reduceLT, true_and, List.map_cons, List.map_nil, Nat.zero_add, Nat.reduceBEq, faddr_ptr, load_cells hb2.obj, List.getElem?_cons_zero, List.getElem?_cons_succ, e1, e2, le]
        refine condP_dec (fun hc => ?_) (fun hc => ?_)
        · have hk' : k < y.length := by omega
          have hkB : k < (B y).length := by rw [B_len]; exact hk'
          obtain ⟨σ3, st, o3, k3, -⟩ := oe.store (hb2.rows.lit i e hei) hkB (x := .int .u8 (mkB i).toNat) rfl rfl (by rw [B_get]; rfl) (by rw [B_get]; rfl)
          have eb : (B y).set k (.int .u8 (mkB i).toNat) = B (y.set k (mkB i)) := by simp [B, List.map_set]
          rw [eb] at o3
          have r3 := hb2.rows.setElem hei o3 k3
          rw [← List.map_set] at r3
          have hb3 : BookB c1 c2 c3 c4 lo σ3 id w es (ys.set i (y.set k (mkB i))) := ⟨k3.get hb2.obj (oe.noCell hb2.obj), r3⟩
          simp -dsimp only [↓WPd, ↓wpC_block, ↓wpC_cond, WPu, Bool.false_eq_true, Bool.true_eq_false, Bool.not_true, Bool.not_false, if_true, if_false, ite_true, ite_false, Nat.reduceEqDiff, Nat.reduceLT, true_and, List.map_cons, List.map_nil, Nat.zero_add, Nat.reduceBEq, faddr_ptr, load_cells hb2.obj, List.getElem?_cons_zero, List.getElem?_cons_succ, e1, e2, m1, m2, m3, oe.sl.iaddr hkB, st]
          refine ⟨y.length - (k + 1), by omega, k + 1, ys.set i (y.set k (mkB i)), y.set k (mkB i), by simp; omega, by simp, ?_, hb3, by simpa using hyl, ?_, by simpa using hy28, ?_, fun j x hj hx' => ?_, ?_⟩
          · rw [wrap_i64 (by omega) (by omega), Int.natCast_add, Int.natCast_one]
          · exact List.getElem?_set_self (by omega)
          · have := take_set_succ (l := y) (y := List.replicate y.length (mkB i)) (k := k) hk' (by simpa using hk') (by rw [hyt, List.take_replicate, Nat.min_eq_left (by omega)])
            rw [List.getElem_replicate, List.take_replicate, Nat.min_eq_left (by omega)] at this
            exact this
          · rw [List.getElem?_set_ne (fun e => hj e.symm)] at hx'
            exact hyo j x hj hx'
          · exact Keeps.trans hk2 (sub hei k3) fun _ _ h => h
        · simp -dsimp only [↓WPd, ↓wpC_block, ↓wpC_cond, WPu, Bool.false_eq_true, Bool.true_eq_false, Bool.not_true, Bool.not_false, if_true, if_false, ite_true, ite_false, Nat.reduceEqDiff, Nat.reduceLT, true_and, List.map_cons, List.map_nil, Nat.zero_add, Nat.reduceBEq]
          have hk' : k = y.length := by omega
          subst hk'
          rw [List.take_length] at hyt
          refine ⟨ys, hb2, hyl, fun j x hj => ?_, hk2⟩
          by_cases hji : j = i
          · subst hji
            rw [hyi] at hj; injection hj with hj; subst hj
            exact ⟨hy28, fun _ => hyt⟩
          · obtain ⟨a1, a2⟩ := hyo j x hji hj
            exact ⟨a1, fun hlt => a2 (by omega)⟩
      · rintro x σ2 env ⟨rfl, hv, ys, hb2, hyl, hyx, hk2⟩
        simp only [List.map_cons, List.map_nil, List.cons.injEq, and_true] at hv
        obtain ⟨v0, v3⟩ := hv
        simp -dsimp only [↓WPd, ↓wpC_block, ↓wpC_cond, WPu, Bool.false_eq_true, Bool.true_eq_false, Bool.not_true, Bool.not_false, if_true, if_false, ite_true, ite_false, Nat.reduceEqDiff, Nat.reduceLT, true_and, List.map_cons, List.map_nil, Nat.zero_add, Nat.reduceBEq, v0, v3]
        refine ⟨qs.length - (i + 1), by omega, i + 1, ys, by omega, rfl, ?_, hb2, hyl, hyx, hk2⟩
        rw [wrap_i64 (by omega) (by omega), Int.natCast_add, Int.natCast_one]
    · simp -dsimp only [↓WPd, ↓wpC_block, ↓wpC_cond, WPu, Bool.false_eq_true, Bool.true_eq_false, Bool.not_true, Bool.not_false, if_true, if_false, ite_true, ite_false, Nat.reduceEqDiff, Nat.reduceLT, true_and, List.map_cons, List.map_nil, Nat.zero_add, Nat.reduceBEq]
      exact ⟨xs, hb, hxl, fun j x hj => ⟨(hx j x hj).1, (hx j x hj).2 (by have := (List.getElem?_eq_some_iff.1 hj).1; omega)⟩, hk⟩
  · rintro x σ1 env ⟨rfl, xs, hv, hb, hxl, hx, hk⟩
    simp only [List.map_cons, List.map_nil, List.cons.injEq, and_true] at hv
    simp -dsimp only [↓WPd, ↓wpC_block, ↓wpC_cond, WPu, Bool.false_eq_true, Bool.true_eq_false, Bool.not_true, Bool.not_false, if_true, if_false, ite_true, ite_false, Nat.reduceEqDiff, Nat.reduceLT, true_and, List.map_cons, List.map_nil, Nat.zero_add, Nat.reduceBEq, hv]
    have hxe : ∀ {j : Nat} {e : AVal} {x : List UInt8}, es[j]? = some e → xs[j]? = some x → Own σ1 1 e (B x) := fun {j e x} h1 h2 => hb.rows.one j e (B x) h1 (by rw [List.getElem?_map, h2]; rfl)
    have hel : ∀ {j : Nat} {e : AVal} {s : Nat}, es[j]? = some e → e.sid = some s → s < σ1.length := fun h1 h2 => hb.rows.lt h1 h2
    refine loop_rule2 (fun m vs σ' => ∃ (i : Nat) (a : AVal) (gs : List AVal), i ≤ qs.length ∧ m = qs.length - i ∧ vs = [.ptr id 0, a, .int .i64 i] ∧ σ'[id]? = some (.cells [w, c1, c2, c3, c4]) ∧ SlOf σ' 1 w es ∧
        (∀ (j : Nat) (e : AVal) (x : List UInt8), es[j]? = some e → xs[j]? = some x → SlOf σ' 1 e (B x) ∧ (i ≤ j → Own σ' 1 e (B x))) ∧ Own σ' 1 a gs ∧ gs.length = i ∧ Fresh σ1.length a ∧
        (∀ (j : Nat) (g : AVal) (x : List UInt8), gs[j]? = some g → xs[j]? = some x → SlOf σ' 1 g (B (x ++ List.replicate 20 (mkB j)))) ∧ Keeps (fun j => ∃ (i : Nat) (e : AVal), es[i]? = some e ∧ e.sid = some j) σ σ' ∧ σ1.length ≤ σ'.length)
      [0, 5] (fun x vs σ' => x = .exit 4 ∧ ∃ (a : AVal) (gs : List AVal), vs = [.ptr id 0, a] ∧ σ'[id]? = some (.cells [w, c1, c2, c3, c4]) ∧ SlOf σ' 1 w es ∧
        (∀ (j : Nat) (e : AVal) (x : List UInt8), es[j]? = some e → xs[j]? = some x → SlOf σ' 1 e (B x)) ∧ SlOf σ' 1 a gs ∧ gs.length = qs.length ∧
        (∀ (j : Nat) (g : AVal) (x : List UInt8), gs[j]? = some g → xs[j]? = some x → SlOf σ' 1 g (B (x ++ List.replicate 20 (mkB j)))) ∧ Keeps (fun j => ∃ (i : Nat) (e : AVal), es[i]? = some e ∧ e.sid = some j) σ σ') qs.length
      ⟨0, .nilslice, [], Nat.zero_le _, rfl, ?_, hb.obj, hb.rows.row.sl, fun j e x h1 h2 => ⟨(hxe h1 h2).sl, fun _ => hxe h1 h2⟩, Own.nil _ _, rfl, Fresh.nil _, fun j g x h => by simp at h, hk, Nat.le_refl _⟩ ?_ ?_
    · simp -dsimp only [↓WPd, ↓wpC_block, ↓wpC_cond, WPu, Bool.false_eq_true, Bool.true_eq_false, Bool.not_true, Bool.not_false, if_true, if_false, ite_true, ite_false, Nat.reduceEqDiff, Nat.reduceLT, true_and, List.map_cons, List.map_nil, Nat.zero_add, Nat.reduceBEq, hv]; rfl
    · rintro m vs σ2 ⟨i, a, gs, hi, rfl, rfl, p1, p2, p3, p4, p5, p6, p7, p8, p9⟩
      simp -dsimp only [↓WPd, ↓wpC_block, ↓wpC_cond, WPu, Bool.false_eq_true, Bool.true_eq_false, Bool.not_true, Bool.not_false, if_true, if_false, ite_true, ite_false, Nat.reduceEqDiff, Nat.reduceLT, true_and, List.map_cons, List.map_nil, Nat.zero_add, Nat.reduceBEq, faddr_ptr, load_cells p1, List.getElem?_cons_zero, List.getElem?_cons_succ, lw]
      refine condP_dec (fun hc => ?_) (fun hc => ?_)
      · have hi' : i < qs.length := by omega
        have hie : i < es.length := by omega
        have hei : es[i]? = some es[i] := List.getElem?_eq_getElem hie
        have hxi : xs[i]? = some (xs[i]'(by omega)) := List.getElem?_eq_getElem _
        generalize xs[i]'(by omega) = x at hxi
        obtain ⟨m1, m2, m3⟩ := mk_ops i (by omega)
        have oe := (p3 i es[i] x hei hxi).2 (Nat.le_refl _)
        have hx28 := (hx i x hxi).1
        have e1 := p2.iaddr hie .i64
        have e2 := p2.load1 hie oe.sl.one 1
        simp -dsimp only [↓WPd, ↓wpC_block, ↓wpC_cond, WPu, Bool.false_eq_true, Bool.true_eq_false, Bool.not_true, Bool.not_false, if_true, if_false, ite_true, ite_false, Nat.reduceEqDiff, Nat.reduceLT, true_and, List.map_cons, List.map_nil, Nat.zero_add, Nat.reduceBEq, faddr_ptr, load_cells p1, List.getElem?_cons_zero, List.getElem?_cons_succ, e1, e2]
        generalize es[i] = e at hei oe
        refine loop_rule2 (fun m vs σ' => ∃ (k : Nat) (g : AVal), k ≤ 20 ∧ m = 20 - k ∧ vs = [.ptr id 0, a, .int .i64 i, g, .int .i64 k] ∧ Own σ' 1 g (B (x ++ List.replicate k (mkB i))) ∧ (∀ s, g.sid = some s → e.sid = some s ∨ σ2.length ≤ s) ∧ Keeps (fun s => e.sid = some s) σ2 σ' ∧
            ∀ (sz : Nat) (u : AVal) (us : List AVal), SlOf σ2 sz u us → SlOf σ' sz u us)
          [0, 5, 6, 7] (fun y vs σ' => y = .exit 6 ∧ ∃ g : AVal, vs = [.ptr id 0, a, .int .i64 i, g] ∧ Own σ' 1 g (B (x ++ List.replicate 20 (mkB i))) ∧ (∀ s, g.sid = some s → e.sid = some s ∨ σ2.length ≤ s) ∧ Keeps (fun s => e.sid = some s) σ2 σ' ∧
            ∀ (sz : Nat) (u : AVal) (us : List AVal), SlOf σ2 sz u us → SlOf σ' sz u us) 20
          ⟨0, e, Nat.zero_le _, rfl, ?_, by simpa using oe, fun s hs => .inl hs, Keeps.refl _ _, fun _ _ _ h => h⟩ ?_ ?_
        · simp -dsimp only [↓WPd, ↓wpC_block, ↓wpC_cond, WPu, Bool.false_eq_true, Bool.true_eq_false, Bool.not_true, Bool.not_false, if_true, if_false, ite_true, ite_false, Nat.reduceEqDiff, Nat.reduceLT, true_and, List.map_cons, List.map_nil, Nat.zero_add, Nat.reduceBEq]; rfl
        · rintro m vs σ3 ⟨k, g, hk20, rfl, rfl, og, gsid, gk, gv⟩
          simp -dsimp only [↓WPd, ↓wpC_block, ↓wpC_cond, WPu, Bool.false_eq_true, Bool.true_eq_false, Bool.not_true, Bool.not_false, if_true, if_false, ite_true, ite_false, Nat.reduceEqDiff, Nat.reduceLT, true_and, List.map_cons, List.map_nil, Nat.zero_add, Nat.reduceBEq]
          refine condP_dec (fun hc => ?_) (fun hc => ?_)
          · have hk' : k < 20 := by omega
            obtain ⟨g', σ4, b1, b2, b3, b4, _⟩ := og.append (B [mkB i]) 1 (by rw [B_len, B_len]; simp; omega)
            rw [B_app, List.append_assoc, ← List.replicate_succ'] at b2
            have b1' : appendV σ3 1 1 g [.int .u8 ((mkB i).toNat : Int)] = some (g', σ4) := b1
            have f1 : fillL 1 false (List.replicate 1 (zel [AVal.int .u8 0] false)) [(0, .int .u8 ((mkB i).toNat : Int))] = some [.int .u8 ((mkB i).toNat : Int)] := rfl
            have f2 : ∀ t : Nat, elems 1 σ3 (.fslice t true 1 [.int .u8 ((mkB i).toNat : Int)]) = some [.int .u8 ((mkB i).toNat : Int)] := fun t => rfl
            simp -dsimp only [↓WPd, ↓wpC_block, ↓wpC_cond, WPu, Bool.false_eq_true, Bool.true_eq_false, Bool.not_true, Bool.not_false, if_true, if_false, ite_true, ite_false, Nat.reduceEqDiff, Nat.reduceLT, true_and, List.map_cons, List.map_nil, Nat.zero_add, Nat.reduceBEq, m1, m2, m3, f1, f2, b1']
            refine ⟨20 - (k + 1), by omega, k + 1, g', by omega, rfl, ?_, b2, fun s hs => ?_, ?_, fun sz u us hu => og.append_view b1 (gv sz u us hu)⟩
            · rw [wrap_i64 (by omega) (by omega), Int.natCast_add, Int.natCast_one]
            · rcases b4 s hs with e | e
              · exact gsid s e
              · have := gk.1; exact .inr (by omega)
            · refine Keeps.trans gk b3 fun s hs e => ?_
              rcases gsid s e with e' | e'
              · exact e'
              · omega
          · simp -dsimp only [↓WPd, ↓wpC_block, ↓wpC_cond, WPu, Bool.false_eq_true, Bool.true_eq_false, Bool.not_true, Bool.not_false, if_true, if_false, ite_true, ite_false, Nat.reduceEqDiff, Nat.reduceLT, true_and, List.map_cons, List.map_nil, Nat.zero_add, Nat.reduceBEq]
            have hk' : k = 20 := by omega
            subst hk'
            exact ⟨g, rfl, og, gsid, gk, gv⟩
        · rintro y σ3 env ⟨rfl, g, hv, og, gsid, gk, gv⟩
          simp only [List.map_cons, List.map_nil, List.cons.injEq, and_true] at hv
          obtain ⟨v0, v5, v6, v7⟩ := hv
          have g4 : Grows σ3 (σ3 ++ [.arr 1 [g] 0 0]) := Grows.app _ _
          have oa3 : Own σ3 1 a gs := p4.keeps gk fun s hs he => by have := p6 s hs; have := hel hei he; omega
          have oa4 := oa3.grow g4
          obtain ⟨a', σ5, c1, c2, c3, c4, _⟩ := oa4.append [g] 24 (by rw [p5]; simp; omega)
          have V : ∀ {u : AVal} {us : List AVal}, SlOf σ2 1 u us → SlOf σ5 1 u us := fun hu => oa4.append_view c1 ((gv 1 _ _ hu).grow g4)
          simp -dsimp only [↓WPd, ↓wpC_block, ↓wpC_cond, WPu, Bool.false_eq_true, Bool.true_eq_false, Bool.not_true, Bool.not_false, if_true, if_false, ite_true, ite_false, Nat.reduceEqDiff, Nat.reduceLT, true_and, List.map_cons, List.map_nil, Nat.zero_add, Nat.reduceBEq, v0, v5, v6, v7, og.lit1, lit_elems σ3 1 [g] 1 rfl, c1]
          refine ⟨qs.length - (i + 1), by omega, i + 1, a', gs ++ [g], by omega, rfl, ?_, ?_, V p2, fun j e' x' h1 h2 => ⟨V (p3 j e' x' h1 h2).1, fun hj => ?_⟩, c2, by simp [p5], fun s hs => ?_, fun j g' x' h1 h2 => ?_, ?_, ?_⟩
          · rw [wrap_i64 (by omega) (by omega), Int.natCast_add, Int.natCast_one]
          · exact c3.get (g4.get (gk.get p1 (oe.noCell p1))) (oa4.noCell (g4.get (gk.get p1 (oe.noCell p1))))
          · refine (((p3 j e' x' h1 h2).2 (by omega)).keeps gk fun s hs he => ?_).grow g4 |>.keeps c3 fun s hs ha => ?_
            · have := hb.rows.apart j i e' e s h1 hei hs he; omega
            · have := p6 s ha; have := hel h1 hs; omega
          · rcases c4 s hs with e' | e'
            · exact p6 s e'
            · have := g4.1; have := gk.1; omega
          · by_cases hj : j < gs.length
            · rw [List.getElem?_append_left hj] at h1
              exact V (p7 j g' x' h1 h2)
            · rw [List.getElem?_append_right (by omega), List.getElem?_singleton] at h1
              split at h1
              · rename_i hj0
                injection h1 with h1
                subst h1
                have : j = i := by omega
                subst this
                rw [hxi] at h2; injection h2 with h2; subst h2
                exact oa4.append_view c1 (og.sl.grow g4)
              · cases h1
          · have k1 : Keeps (fun j => ∃ (i : Nat) (e : AVal), es[i]? = some e ∧ e.sid = some j) σ σ3 := Keeps.trans p8 (sub hei gk) fun _ _ h => h
            have k2 : Keeps (fun j => ∃ (i : Nat) (e : AVal), es[i]? = some e ∧ e.sid = some j) σ (σ3 ++ [.arr 1 [g] 0 0]) := Keeps.trans k1 (Grows.any (M := fun j => ∃ (i : Nat) (e : AVal), es[i]? = some e ∧ e.sid = some j) g4) fun _ _ h => h
            exact Keeps.trans k2 c3 fun s hs ha => by have := p6 s ha; have := hk.1; omega
          · have := gk.1; have := g4.1; have := c3.1; omega
      · simp -dsimp only [↓WPd, ↓wpC_block, ↓wpC_cond, WPu, Bool.false_eq_true, Bool.true_eq_false, Bool.not_true, Bool.not_false, if_true, if_false, ite_true, ite_false, Nat.reduceEqDiff, Nat.reduceLT, true_and, List.map_cons, List.map_nil, Nat.zero_add, Nat.reduceBEq]
        have hi' : i = qs.length := by omega
        exact ⟨a, gs, rfl, p1, p2, fun j e x h1 h2 => (p3 j e x h1 h2).1, p4.sl, by omega, p7, p8⟩
    · rintro y σ2 env ⟨rfl, a, gs, hv2, p1, p2, p3, p4, p5, p7, p8⟩
      simp only [List.map_cons, List.map_nil, List.cons.injEq, and_true] at hv2
      obtain ⟨v0, v5⟩ := hv2
      have la := p4.len
      rw [p5] at la
      simp -dsimp only [↓WPd, ↓wpC_block, ↓wpC_cond, WPu, Bool.false_eq_true, Bool.true_eq_false, Bool.not_true, Bool.not_false, if_true, if_false, ite_true, ite_false, Nat.reduceEqDiff, Nat.reduceLT, true_and, List.map_cons, List.map_nil, Nat.zero_add, Nat.reduceBEq, v0, v5]
      refine loop_rule (fun m vs σ' => ∃ i : Nat, i ≤ qs.length ∧ m = qs.length - i ∧ vs = [.ptr id 0, a, .int .i64 i] ∧ σ' = σ2) qs.length ⟨0, Nat.zero_le _, rfl, ?_, rfl⟩ ?_
      · simp -dsimp only [↓WPd, ↓wpC_block, ↓wpC_cond, WPu, Bool.false_eq_true, Bool.true_eq_false, Bool.not_true, Bool.not_false, if_true, if_false, ite_true, ite_false, Nat.reduceEqDiff, Nat.reduceLT, true_and, List.map_cons, List.map_nil, Nat.zero_add, Nat.reduceBEq, v0, v5]; rfl
      · rintro m vs σ' ⟨i, hi, rfl, rfl, rfl⟩
        simp -dsimp only [↓WPd, ↓wpC_block, ↓wpC_cond, WPu, Bool.false_eq_true, Bool.true_eq_false, Bool.not_true, Bool.not_false, if_true, if_false, ite_true, ite_false, Nat.reduceEqDiff, Nat.reduceLT, true_and, List.map_cons, List.map_nil, Nat.zero_add, Nat.reduceBEq, la]
        refine condP_dec (fun hc => ?_) (fun hc => ?_)
        · have hi' : i < qs.length := by omega
          have hie : i < es.length := by omega
          have hig : i < gs.length := by omega
          have hei : es[i]? = some es[i] := List.getElem?_eq_getElem hie
          have hgi : gs[i]? = some gs[i] := List.getElem?_eq_getElem hig
          have hxi : xs[i]? = some (xs[i]'(by omega)) := List.getElem?_eq_getElem _
          generalize xs[i]'(by omega) = x at hxi
          obtain ⟨m1, m2, m3⟩ := mk_ops i (by omega)
          have sg := p7 i gs[i] x hgi hxi
          have se := p3 i es[i] x hei hxi
          obtain ⟨hx28, hxr⟩ := hx i x hxi
          have a1 := p4.iaddr hig .i64
          have a2 := p4.load1 hig sg.one 1
          have e1 := p2.iaddr hie .i64
          have e2 := p2.load1 hie se.one 1
          generalize gs[i] = g at *
          generalize es[i] = e at *
          have lg := sg.len
          rw [B_len] at lg
          have le := se.len
          rw [B_len] at le
          have hz : ∀ (k : Nat) (h : k < (B (x ++ List.replicate 20 (mkB i))).length), (B (x ++ List.replicate 20 (mkB i)))[k] = .int .u8 (mkB i).toNat := fun k h => by
            have e : x ++ List.replicate 20 (mkB i) = List.replicate (x.length + 20) (mkB i) := by
              rw [← List.replicate_append_replicate, ← hxr]
            rw [B_get]; simp only [e, List.getElem_replicate]
          have hx' : ∀ (k : Nat) (h : k < (B x).length), (B x)[k] = .int .u8 (mkB i).toNat := fun k h => by
            rw [B_get]
            have h' : k < x.length := by rw [B_len] at h; exact h
            have : x[k]? = some (mkB i) := by rw [hxr, List.getElem?_replicate, if_pos h']
            rw [List.getElem?_eq_getElem h'] at this
            rw [Option.some.inj this]
          have en : (((mkB i).toNat : Int) != ((mkB i).toNat : Int)) = false := by simp
          simp -dsimp only [↓WPd, ↓wpC_block, ↓wpC_cond, WPu, Bool.false_eq_true, Bool.true_eq_false, Bool.not_true, Bool.not_false, if_true, if_false, ite_true, ite_false, Nat.reduceEqDiff, Nat.reduceLT, true_and, List.map_cons, List.map_nil, Nat.zero_add, Nat.reduceBEq]
          refine loop_rule (fun m vs σ'' => ∃ k : Nat, k ≤ (x ++ List.replicate 20 (mkB i)).length ∧ m = (x ++ List.replicate 20 (mkB i)).length - k ∧ vs = [.ptr id 0, a, .int .i64 i, .int .i64 k] ∧ σ'' = σ') (x ++ List.replicate 20 (mkB i)).length ⟨0, Nat.zero_le _, rfl, ?_, rfl⟩ ?_
          · simp -dsimp only [↓WPd, ↓wpC_block, ↓wpC_cond, WPu, Bool.false_eq_true, Bool.true_eq_false, Bool.not_true, Bool.not_false, if_true, if_false, ite_true, ite_false, Nat.reduceEqDiff, Nat.reduceLT, true_and, List.map_cons, List.map_nil, Nat.zero_add, Nat.reduceBEq]; rfl
          · rintro m vs σ'' ⟨k, hk1, rfl, rfl, rfl⟩
            simp -dsimp only [↓WPd, ↓wpC_block, ↓wpC_cond, WPu, Bool.false_eq_true, Bool.true_eq_false, Bool.not_true, Bool.not_false, if_true, if_false, ite_true, ite_false, Nat.reduceEqDiff, Nat.reduceLT, true_and, List.map_cons, List.map_nil, Nat.zero_add, Nat.reduceBEq, a1, a2, lg]
            have hzl : (x ++ List.replicate 20 (mkB i)).length < 2 ^ 40 := by simp; omega
            refine condP_dec (fun hc => ?_) (fun hc => ?_)
            · have hkz : k < (B (x ++ List.replicate 20 (mkB i))).length := by rw [B_len]; omega
              simp -dsimp only [↓WPd, ↓wpC_block, ↓wpC_cond, WPu, Bool.false_eq_true, Bool.true_eq_false, Bool.not_true, Bool.not_false, if_true, if_false, ite_true, ite_false, Nat.reduceEqDiff, Nat.reduceLT, true_and, List.map_cons, List.map_nil, Nat.zero_add, Nat.reduceBEq, a1, a2, sg.iaddr hkz, sg.load1 hkz (by rw [hz]; rfl), hz, m1, m2, m3, en]
              refine ⟨(x ++ List.replicate 20 (mkB i)).length - (k + 1), by omega, k + 1, by omega, rfl, ?_⟩
              exact ⟨by rw [wrap_i64 (by omega) (by omega), Int.natCast_add, Int.natCast_one], trivial⟩
            · simp -dsimp only [↓WPd, ↓wpC_block, ↓wpC_cond, WPu, Bool.false_eq_true, Bool.true_eq_false, Bool.not_true, Bool.not_false, if_true, if_false, ite_true, ite_false, Nat.reduceEqDiff, Nat.reduceLT, true_and, List.map_cons, List.map_nil, Nat.zero_add, Nat.reduceBEq]
              refine loop_rule (fun m vs σ3 => ∃ k : Nat, k ≤ x.length ∧ m = x.length - k ∧ vs = [.ptr id 0, a, .int .i64 i, .int .i64 k] ∧ σ3 = σ'') x.length ⟨0, Nat.zero_le _, rfl, ?_, rfl⟩ ?_
              · simp -dsimp only [↓WPd, ↓wpC_block, ↓wpC_cond, WPu, Bool.false_eq_true, Bool.true_eq_false, Bool.not_true, Bool.not_false, if_true, if_false, ite_true, ite_false, Nat.reduceEqDiff, Nat.reduceLT, true_and, List.map_cons, List.map_nil, Nat.zero_add, Nat.reduceBEq]; rfl
              · rintro m vs σ3 ⟨k2, hk2', rfl, rfl, rfl⟩
                simp -dsimp only [↓WPd, ↓wpC_block, ↓wpC_cond, WPu, Bool.false_eq_true, Bool.true_eq_false, Bool.not_true, Bool.not_false, if_true, if_false, ite_true, ite_false, Nat.reduceEqDiff, Nat.reduceLT, true_and, List.map_cons, List.map_nil, Nat.zero_add, Nat.reduceBEq, faddr_ptr, load_cells p1, List.getElem?_cons_zero, List.getElem?_cons_succ, e1, e2, le]
                refine condP_dec (fun hc => ?_) (fun hc => ?_)
                · have hkx : k2 < (B x).length := by rw [B_len]; omega
                  simp -dsimp only [↓WPd, ↓wpC_block, ↓wpC_cond, WPu, Bool.false_eq_true, Bool.true_eq_false, Bool.not_true, Bool.not_false, if_true, if_false, ite_true, ite_false, Nat.reduceEqDiff, Nat.reduceLT, true_and, List.map_cons, List.map_nil, Nat.zero_add, Nat.reduceBEq, faddr_ptr, load_cells p1, List.getElem?_cons_zero, List.getElem?_cons_succ, e1, e2, se.iaddr hkx, se.load1 hkx (by rw [hx']; rfl), hx', m1, m2, m3, en]
                  refine ⟨x.length - (k2 + 1), by omega, k2 + 1, by omega, rfl, ?_⟩
                  exact ⟨by rw [wrap_i64 (by omega) (by omega), Int.natCast_add, Int.natCast_one], trivial⟩
                · simp -dsimp only [↓WPd, ↓wpC_block, ↓wpC_cond, WPu, Bool.false_eq_true, Bool.true_eq_false, Bool.not_true, Bool.not_false, if_true, if_false, ite_true, ite_false, Nat.reduceEqDiff, Nat.reduceLT, true_and, List.map_cons, List.map_nil, Nat.zero_add, Nat.reduceBEq]
                  refine ⟨qs.length - (i + 1), by omega, i + 1, by omega, rfl, ?_⟩
                  exact ⟨by rw [wrap_i64 (by omega) (by omega), Int.natCast_add, Int.natCast_one], trivial⟩
        · simp -dsimp only [↓WPd, ↓wpC_block, ↓wpC_cond, WPu, Bool.false_eq_true, Bool.true_eq_false, Bool.not_true, Bool.not_false, if_true, if_false, ite_true, ite_false, Nat.reduceEqDiff, Nat.reduceLT, true_and, List.map_cons, List.map_nil, Nat.zero_add, Nat.reduceBEq]
          exact ⟨p1, p8⟩

set_option maxHeartbeats 4000000 in
theorem aloneints2_ok (c1 c2 c3 c4 : AVal) (lo : Nat) (id : Nat) (w : AVal) (es : List AVal) (qs : List (List Int)) (h : BookI c1 c2 c3 c4 lo σ id w es qs) (hn : qs.length < 2 ^ 28) (hq : ∀ q ∈ qs, q.length < 2 ^ 28) :
    Called CN.cfg d 69 [.ptr id 0] σ fun r σ' => r = .bool true ∧ σ'[id]? = some (.cells [c1, c2, w, c3, c4]) ∧ Keeps (fun j => ∃ (i : Nat) (e : AVal), es[i]? = some e ∧ e.sid = some j) σ σ' := by
  refine called_of (fn := CN.a69) rfl (Nat.le_of_ble_eq_true rfl) ?_
  have hpl := h.rows.len
  rw [List.length_map] at hpl
  have lw := h.rows.row.sl.len
  rw [hpl] at lw
  have sub : ∀ {i : Nat} {e : AVal} {σ1 σ2 : Store}, es[i]? = some e → Keeps (fun j => e.sid = some j) σ1 σ2 → Keeps (fun j => ∃ (i : Nat) (e : AVal), es[i]? = some e ∧ e.sid = some j) σ1 σ2 := fun hi hk => hk.mono fun j _ hj => ⟨_, _, hi, hj⟩
  simp only [CN.a69]
  simp -dsimp only [↓WPd, ↓wpC_block, ↓wpC_cond, WPu, Bool.false_eq_true, Bool.true_eq_false, Bool.not_true, Bool.not_false, if_true, if_false, ite_true, ite_false, Nat.reduceEqDiff, Nat.reduceLT, true_and, List.map_cons, List.map_nil, Nat.zero_add, Nat.reduceBEq]
  -- the first loop: all are written over
  refine loop_rule2 (fun m vs σ' => ∃ (i : Nat) (xs : List (List Int)), i ≤ qs.length ∧ m = qs.length - i ∧ vs = [.ptr id 0, .int .i64 i] ∧ BookI c1 c2 c3 c4 lo σ' id w es xs ∧ xs.length = qs.length ∧ (∀ (j : Nat) (x : List Int), xs[j]? = some x → x.length < 2 ^ 28 ∧ (j < i → x = List.replicate x.length (mkI j))) ∧
      Keeps (fun j => ∃ (i : Nat) (e : AVal), es[i]? = some e ∧ e.sid = some j) σ σ')
    [0] (fun x vs σ' => x = .exit 0 ∧ ∃ (xs : List (List Int)), vs = [.ptr id 0] ∧ BookI c1 c2 c3 c4 lo σ' id w es xs ∧ xs.length = qs.length ∧ (∀ (j : Nat) (x : List Int), xs[j]? = some x → x.length < 2 ^ 28 ∧ x = List.replicate x.length (mkI j)) ∧
      Keeps (fun j => ∃ (i : Nat) (e : AVal), es[i]? = some e ∧ e.sid = some j) σ σ') qs.length
    ⟨0, qs, Nat.zero_le _, rfl, ?_, h, rfl, fun j x hx => ⟨hq x (List.mem_of_getElem? hx), fun h => by omega⟩, Keeps.refl _ _⟩ ?_ ?_
  · simp -dsimp only [↓WPd, ↓wpC_block, ↓wpC_cond, WPu, Bool.false_eq_true, Bool.true_eq_false, Bool.not_true, Bool.not_false, if_true, if_false, ite_true, ite_false, Nat.reduceEqDiff, Nat.reduceLT, true_and, List.map_cons, List.map_nil, Nat.zero_add, Nat.reduceBEq]; rfl
  · rintro m vs σ1 ⟨i, xs, hi, rfl, rfl, hb, hxl, hx, hk⟩
    simp -dsimp only [↓WPd, ↓wpC_block, ↓wpC_cond, WPu, Bool.false_eq_true, Bool.true_eq_false, Bool.not_true, Bool.not_false, if_true, if_false, ite_true, ite_false, Nat.reduceEqDiff, Nat.reduceLT, true_and, List.map_cons, List.map_nil, Nat.zero_add, Nat.reduceBEq, faddr_ptr, load_cells hb.obj, List.getElem?_cons_zero, List.getElem?_cons_succ, lw]
    refine condP_dec (fun hc => ?_) (fun hc => ?_)
    · have hi' : i < qs.length := by omega
      have hie : i < es.length := by omega
      have hei : es[i]? = some es[i] := List.getElem?_eq_getElem hie
      generalize es[i] = e at hei
      obtain ⟨m1, m2, m3⟩ := mk_opsI i (by omega)
      simp -dsimp only [↓WPd, ↓wpC_block, ↓wpC_cond, WPu, Bool.false_eq_true, Bool.true_eq_false, Bool.not_true, Bool.not_false, if_true, if_false, ite_true, ite_false, Nat.reduceEqDiff, Nat.reduceLT, true_and, List.map_cons, List.map_nil, Nat.zero_add, Nat.reduceBEq]
      refine loop_rule2 (fun m vs σ' => ∃ (k : Nat) (ys : List (List Int)) (y : List Int), k ≤ y.length ∧ m = y.length - k ∧ vs = [.ptr id 0, .int .i64 i, .int .i64 k] ∧ BookI c1 c2 c3 c4 lo σ' id w es ys ∧ ys.length = qs.length ∧ ys[i]? = some y ∧ y.length < 2 ^ 28 ∧ y.take k = List.replicate k (mkI i) ∧
          (∀ (j : Nat) (x : List Int), j ≠ i → ys[j]? = some x → x.length < 2 ^ 28 ∧ (j < i → x = List.replicate x.length (mkI j))) ∧ Keeps (fun j => ∃ (i : Nat) (e : AVal), es[i]? = some e ∧ e.sid = some j) σ σ')
        [0, 3] (fun x vs σ' => x = .exit 2 ∧ vs = [.ptr id 0, .int .i64 i] ∧ ∃ ys : List (List Int), BookI c1 c2 c3 c4 lo σ' id w es ys ∧ ys.length = qs.length ∧ (∀ (j : Nat) (x : List Int), ys[j]? = some x → x.length < 2 ^ 28 ∧ (j < i + 1 → x = List.replicate x.length (mkI j))) ∧
          Keeps (fun j => ∃ (i : Nat) (e : AVal), es[i]? = some e ∧ e.sid = some j) σ σ') (xs[i]'(by omega)).length
        ⟨0, xs, xs[i]'(by omega), Nat.zero_le _, rfl, ?_, hb, hxl, List.getElem?_eq_getElem _, (hx i _ (List.getElem?_eq_getElem (by omega))).1, by simp, fun j x _ hj => hx j x hj, hk⟩ ?_ ?_
      · simp -dsimp only [↓WPd, ↓wpC_block, ↓wpC_cond, WPu, Bool.false_eq_true, Bool.true_eq_false, Bool.not_true, Bool.not_false, if_true, if_false, ite_true, ite_false, Nat.reduceEqDiff, Nat.reduceLT, true_and, List.map_cons, List.map_nil, Nat.zero_add, Nat.reduceBEq]; rfl
      · rintro m vs σ2 ⟨k, ys, y, hky, rfl, rfl, hb2, hyl, hyi, hy28, hyt, hyo, hk2⟩
        have oe := hb2.rows.one i e (II y) hei (by rw [List.getElem?_map, hyi]; rfl)
        have le := oe.sl.len
        rw [II_len] at le
        have e1 := hb2.rows.row.sl.iaddr hie .i64
        have e2 := hb2.rows.row.sl.load hie 1 false
        have hg : es[i] = e := by rw [List.getElem?_eq_getElem hie] at hei; exact Option.some.inj hei
        rw [hg, show ld e.cells 0 1 false = some e from by have := oe.sl.one; cases e <;> first | (cases this; done) | rfl] at e2
        simp -dsimp only [↓WPd, ↓wpC_block, ↓wpC_cond, WPu, Bool.false_eq_true, Bool.true_eq_false, Bool.not_true, Bool.not_false, if_true, if_false, ite_true, ite_false, Nat.reduceEqDiff, Nat.reduceLT, true_and, List.map_cons, List.map_nil, Nat.zero_add, Nat.reduceBEq, faddr_ptr, load_cells hb2.obj, List.getElem?_cons_zero, List.getElem?_cons_succ, e1, e2, le]
        refine condP_dec (fun hc => ?_) (fun hc => ?_)
        · have hk' : k < y.length := by omega
          have hkB : k < (II y).length := by rw [II_len]; exact hk'
          obtain ⟨σ3, st, o3, k3, -⟩ := oe.store (hb2.rows.lit i e hei) hkB (x := .int .i64 (mkI i)) rfl rfl (by rw [II_get]; rfl) (by rw [II_get]; rfl)
          have eb : (II y).set k (.int .i64 (mkI i)) = II (y.set k (mkI i)) := by simp [II, List.map_set]
          rw [eb] at o3
          have r3 := hb2.rows.setElem hei o3 k3
          rw [← List.map_set] at r3
          have hb3 : BookI c1 c2 c3 c4 lo σ3 id w es (ys.set i (y.set k (mkI i))) := ⟨k3.get hb2.obj (oe.noCell hb2.obj), r3⟩
          simp -dsimp only [↓WPd, ↓wpC_block, ↓wpC_cond, WPu, Bool.false_eq_true, Bool.true_eq_false, Bool.not_true, Bool.not_false, if_true, if_false, ite_true, ite_false, Nat.reduceEqDiff, Nat.reduceLT, true_and, List.map_cons, List.map_nil, Nat.zero_add, Nat.reduceBEq, faddr_ptr, load_cells hb2.obj, List.getElem?_cons_zero, List.getElem?_cons_succ, e1, e2, m1, m2, m3, oe.sl.iaddr hkB, st]
          refine ⟨y.length - (k + 1), by omega, k + 1, ys.set i (y.set k (mkI i)), y.set k (mkI i), by simp; omega, by simp, ?_, hb3, by simpa using hyl, ?_, by simpa using hy28, ?_, fun j x hj hx' => ?_, ?_⟩
          · rw [wrap_i64 (by omega) (by omega), Int.natCast_add, Int.natCast_one]
          · exact List.getElem?_set_self (by omega)
          · have := take_set_succ (l := y) (y := List.replicate y.length (mkI i)) (k := k) hk' (by simpa using hk') (by rw [hyt, List.take_replicate, Nat.min_eq_left (by omega)])
            rw [List.getElem_replicate, List.take_replicate, Nat.min_eq_left (by omega)] at this
            exact this
          · rw [List.getElem?_set_ne (fun e => hj e.symm)] at hx'
            exact hyo j x hj hx'
          · exact Keeps.trans hk2 (sub hei k3) fun _ _ h => h
        · simp -dsimp only [↓WPd, ↓wpC_block, ↓wpC_cond, WPu, Bool.false_eq_true, Bool.true_eq_false, Bool.not_true, Bool.not_false, if_true, if_false, ite_true, ite_false, Nat.reduceEqDiff, Nat.reduceLT, true_and, List.map_cons, List.map_nil, Nat.zero_add, Nat.reduceBEq]
          have hk' : k = y.length := by omega
          subst hk'
          rw [List.take_length] at hyt
          refine ⟨ys, hb2, hyl, fun j x hj => ?_, hk2⟩
          by_cases hji : j = i
          · subst hji
            rw [hyi] at hj; injection hj with hj; subst hj
            exact ⟨hy28, fun _ => hyt⟩
          · obtain ⟨a1, a2⟩ := hyo j x hji hj
            exact ⟨a1, fun hlt => a2 (by omega)⟩
      · rintro x σ2 env ⟨rfl, hv, ys, hb2, hyl, hyx, hk2⟩
        simp only [List.map_cons, List.map_nil, List.cons.injEq, and_true] at hv
        obtain ⟨v0, v3⟩ := hv
        simp -dsimp only [↓WPd, ↓wpC_block, ↓wpC_cond, WPu, Bool.false_eq_true, Bool.true_eq_false, Bool.not_true, Bool.not_false, if_true, if_false, ite_true, ite_false, Nat.reduceEqDiff, Nat.reduceLT, true_and, List.map_cons, List.map_nil, Nat.zero_add, Nat.reduceBEq, v0, v3]
        refine ⟨qs.length - (i + 1), by omega, i + 1, ys, by omega, rfl, ?_, hb2, hyl, hyx, hk2⟩
        rw [wrap_i64 (by omega) (by omega), Int.natCast_add, Int.natCast_one]
    · simp -dsimp only [↓WPd, ↓wpC_block, ↓wpC_cond, WPu, Bool.false_eq_true, Bool.true_eq_false, Bool.not_true, Bool.not_false, if_true, if_false, ite_true, ite_false, Nat.reduceEqDiff, Nat.reduceLT, true_and, List.map_cons, List.map_nil, Nat.zero_add, Nat.reduceBEq]
      exact ⟨xs, hb, hxl, fun j x hj => ⟨(hx j x hj).1, (hx j x hj).2 (by have := (List.getElem?_eq_some_iff.1 hj).1; omega)⟩, hk⟩
  · rintro x σ1 env ⟨rfl, xs, hv, hb, hxl, hx, hk⟩
    simp only [List.map_cons, List.map_nil, List.cons.injEq, and_true] at hv
    simp -dsimp only [↓WPd, ↓wpC_block, ↓wpC_cond, WPu, Bool.false_eq_true, Bool.true_eq_false, Bool.not_true, Bool.not_false, if_true, if_false, ite_true, ite_false, Nat.reduceEqDiff, Nat.reduceLT, true_and, List.map_cons, List.map_nil, Nat.zero_add, Nat.reduceBEq, hv]
    have hxe : ∀ {j : Nat} {e : AVal} {x : List Int}, es[j]? = some e → xs[j]? = some x → Own σ1 1 e (II x) := fun {j e x} h1 h2 => hb.rows.one j e (II x) h1 (by rw [List.getElem?_map, h2]; rfl)
    have hel : ∀ {j : Nat} {e : AVal} {s : Nat}, es[j]? = some e → e.sid = some s → s < σ1.length := fun h1 h2 => hb.rows.lt h1 h2
    refine loop_rule2 (fun m vs σ' => ∃ (i : Nat) (a : AVal) (gs : List AVal), i ≤ qs.length ∧ m = qs.length - i ∧ vs = [.ptr id 0, a, .int .i64 i] ∧ σ'[id]? = some (.cells [c1, c2, w, c3, c4]) ∧ SlOf σ' 1 w es ∧
        (∀ (j : Nat) (e : AVal) (x : List Int), es[j]? = some e → xs[j]? = some x → SlOf σ' 1 e (II x) ∧ (i ≤ j → Own σ' 1 e (II x))) ∧ Own σ' 1 a gs ∧ gs.length = i ∧ Fresh σ1.length a ∧
        (∀ (j : Nat) (g : AVal) (x : List Int), gs[j]? = some g → xs[j]? = some x → SlOf σ' 1 g (II (x ++ List.replicate 20 (mkI j)))) ∧ Keeps (fun j => ∃ (i : Nat) (e : AVal), es[i]? = some e ∧ e.sid = some j) σ σ' ∧ σ1.length ≤ σ'.length)
      [0, 5] (fun x vs σ' => x = .exit 4 ∧ ∃ (a : AVal) (gs : List AVal), vs = [.ptr id 0, a] ∧ σ'[id]? = some (.cells [c1, c2, w, c3, c4]) ∧ SlOf σ' 1 w es ∧
        (∀ (j : Nat) (e : AVal) (x : List Int), es[j]? = some e → xs[j]? = some x → SlOf σ' 1 e (II x)) ∧ SlOf σ' 1 a gs ∧ gs.length = qs.length ∧
        (∀ (j : Nat) (g : AVal) (x : List Int), gs[j]? = some g → xs[j]? = some x → SlOf σ' 1 g (II (x ++ List.replicate 20 (mkI j)))) ∧ Keeps (fun j => ∃ (i : Nat) (e : AVal), es[i]? = some e ∧ e.sid = some j) σ σ') qs.length
      ⟨0, .nilslice, [], Nat.zero_le _, rfl, ?_, hb.obj, hb.rows.row.sl, fun j e x h1 h2 => ⟨(hxe h1 h2).sl, fun _ => hxe h1 h2⟩, Own.nil _ _, rfl, Fresh.nil _, fun j g x h => by simp at h, hk, Nat.le_refl _⟩ ?_ ?_
    · simp -dsimp only [↓WPd, ↓wpC_block, ↓wpC_cond, WPu, Bool.false_eq_true, Bool.true_eq_false, Bool.not_true, Bool.not_false, if_true, if_false, ite_true, ite_false, Nat.reduceEqDiff, Nat.reduceLT, true_and, List.map_cons, List.map_nil, Nat.zero_add, Nat.reduceBEq, hv]; rfl
    · rintro m vs σ2 ⟨i, a, gs, hi, rfl, rfl, p1, p2, p3, p4, p5, p6, p7, p8, p9⟩
      simp -dsimp only [↓WPd, ↓wpC_block, ↓wpC_cond, WPu, Bool.false_eq_true, Bool.true_eq_false, Bool.not_true, Bool.not_false, if_true, if_false, ite_true, ite_false, Nat.reduceEqDiff, Nat.reduceLT, true_and, List.map_cons, List.map_nil, Nat.zero_add, Nat.reduceBEq, faddr_ptr, load_cells p1, List.getElem?_cons_zero, List.getElem?_cons_succ, lw]
      refine condP_dec (fun hc => ?_) (fun hc => ?_)
      · have hi' : i < qs.length := by omega
        have hie : i < es.length := by omega
        have hei : es[i]? = some es[i] := List.getElem?_eq_getElem hie
        have hxi : xs[i]? = some (xs[i]'(by omega)) := List.getElem?_eq_getElem _
        generalize xs[i]'(by omega) = x at hxi
        obtain ⟨m1, m2, m3⟩ := mk_opsI i (by omega)
        have oe := (p3 i es[i] x hei hxi).2 (Nat.le_refl _)
        have hx28 := (hx i x hxi).1
        have e1 := p2.iaddr hie .i64
        have e2 := p2.load1 hie oe.sl.one 1
        simp -dsimp only [↓WPd, ↓wpC_block, ↓wpC_cond, WPu, Bool.false_eq_true, Bool.true_eq_false, Bool.not_true, Bool.not_false, if_true, if_false, ite_true, ite_false, Nat.reduceEqDiff, Nat.reduceLT, true_and, List.map_cons, List.map_nil, Nat.zero_add, Nat.reduceBEq, faddr_ptr, load_cells p1, List.getElem?_cons_zero, List.getElem?_cons_succ, e1, e2]
        generalize es[i] = e at hei oe
        refine loop_rule2 (fun m vs σ' => ∃ (k : Nat) (g : AVal), k ≤ 20 ∧ m = 20 - k ∧ vs = [.ptr id 0, a, .int .i64 i, g, .int .i64 k] ∧ Own σ' 1 g (II (x ++ List.replicate k (mkI i))) ∧ (∀ s, g.sid = some s → e.sid = some s ∨ σ2.length ≤ s) ∧ Keeps (fun s => e.sid = some s) σ2 σ' ∧
            ∀ (sz : Nat) (u : AVal) (us : List AVal), SlOf σ2 sz u us → SlOf σ' sz u us)
          [0, 5, 6, 7] (fun y vs σ' => y = .exit 6 ∧ ∃ g : AVal, vs = [.ptr id 0, a, .int .i64 i, g] ∧ Own σ' 1 g (II (x ++ List.replicate 20 (mkI i))) ∧ (∀ s, g.sid = some s → e.sid = some s ∨ σ2.length ≤ s) ∧ Keeps (fun s => e.sid = some s) σ2 σ' ∧
            ∀ (sz : Nat) (u : AVal) (us : List AVal), SlOf σ2 sz u us → SlOf σ' sz u us) 20
          ⟨0, e, Nat.zero_le _, rfl, ?_, by simpa using oe, fun s hs => .inl hs, Keeps.refl _ _, fun _ _ _ h => h⟩ ?_ ?_
        · simp -dsimp only [↓WPd, ↓wpC_block, ↓wpC_cond, WPu, Bool.false_eq_true, Bool.true_eq_false, Bool.not_true, Bool.not_false, if_true, if_false, ite_true, ite_false, Nat.reduceEqDiff, Nat.reduceLT, true_and, List.map_cons, List.map_nil, Nat.zero_add, Nat.reduceBEq]; rfl
        · rintro m vs σ3 ⟨k, g, hk20, rfl, rfl, og, gsid, gk, gv⟩
          simp -dsimp only [↓WPd, ↓wpC_block, ↓wpC_cond, WPu, Bool.false_eq_true, Bool.true_eq_false, Bool.not_true, Bool.not_false, if_true, if_false, ite_true, ite_false, Nat.reduceEqDiff, Nat.reduceLT, true_and, List.map_cons, List.map_nil, Nat.zero_add, Nat.reduceBEq]
          refine condP_dec (fun hc => ?_) (fun hc => ?_)
          · have hk' : k < 20 := by omega
            obtain ⟨g', σ4, b1, b2, b3, b4, _⟩ := og.append (II [mkI i]) 8 (by rw [II_len, II_len]; simp; omega)
            rw [II_app, List.append_assoc, ← List.replicate_succ'] at b2
            have b1' : appendV σ3 1 8 g [.int .i64 (mkI i)] = some (g', σ4) := b1
            have f1 : fillL 1 false (List.replicate 1 (zel [AVal.int .i64 0] false)) [(0, .int .i64 (mkI i))] = some [.int .i64 (mkI i)] := rfl
            have f2 : ∀ t : Nat, elems 1 σ3 (.fslice t true 1 [.int .i64 (mkI i)]) = some [.int .i64 (mkI i)] := fun t => rfl
            simp -dsimp only [↓WPd, ↓wpC_block, ↓wpC_cond, WPu, Bool.false_eq_true, Bool.true_eq_false, Bool.not_true, Bool.not_false, if_true, if_false, ite_true, ite_false, Nat.reduceEqDiff, Nat.reduceLT, true_and, List.map_cons, List.map_nil, Nat.zero_add, Nat.reduceBEq, m1, m2, m3, f1, f2, b1']
            refine ⟨20 - (k + 1), by omega, k + 1, g', by omega, rfl, ?_, b2, fun s hs => ?_, ?_, fun sz u us hu => og.append_view b1 (gv sz u us hu)⟩
            · rw [wrap_i64 (by omega) (by omega), Int.natCast_add, Int.natCast_one]
            · rcases b4 s hs with e | e
              · exact gsid s e
              · have := gk.1; exact .inr (by omega)
            · refine Keeps.trans gk b3 fun s hs e => ?_
              rcases gsid s e with e' | e'
              · exact e'
              · omega
          · simp -dsimp only [↓WPd, ↓wpC_block, ↓wpC_cond, WPu, Bool.false_eq_true, Bool.true_eq_false, Bool.not_true, Bool.not_false, if_true, if_false, ite_true, ite_false, Nat.reduceEqDiff, Nat.reduceLT, true_and, List.map_cons, List.map_nil, Nat.zero_add, Nat.reduceBEq]
            have hk' : k = 20 := by omega
            subst hk'
            exact ⟨g, rfl, og, gsid, gk, gv⟩
        · rintro y σ3 env ⟨rfl, g, hv, og, gsid, gk, gv⟩
          simp only [List.map_cons, List.map_nil, List.cons.injEq, and_true] at hv
          obtain ⟨v0, v5, v6, v7⟩ := hv
          have g4 : Grows σ3 (σ3 ++ [.arr 1 [g] 0 0]) := Grows.app _ _
          have oa3 : Own σ3 1 a gs := p4.keeps gk fun s hs he => by have := p6 s hs; have := hel hei he; omega
          have oa4 := oa3.grow g4
          obtain ⟨a', σ5, c1, c2, c3, c4, _⟩ := oa4.append [g] 24 (by rw [p5]; simp; omega)
          have V : ∀ {u : AVal} {us : List AVal}, SlOf σ2 1 u us → SlOf σ5 1 u us := fun hu => oa4.append_view c1 ((gv 1 _ _ hu).grow g4)
          simp -dsimp only [↓WPd, ↓wpC_block, ↓wpC_cond, WPu, Bool.false_eq_true, Bool.true_eq_false, Bool.not_true, Bool.not_false, if_true, if_false, ite_true, ite_false, Nat.reduceEqDiff, Nat.reduceLT, true_and, List.map_cons, List.map_nil, Nat.zero_add, Nat.reduceBEq, v0, v5, v6, v7, og.lit1, lit_elems σ3 1 [g] 1 rfl, c1]
          refine ⟨qs.length - (i + 1), by omega, i + 1, a', gs ++ [g], by omega, rfl, ?_, ?_, V p2, fun j e' x' h1 h2 => ⟨V (p3 j e' x' h1 h2).1, fun hj => ?_⟩, c2, by simp [p5], fun s hs => ?_, fun j g' x' h1 h2 => ?_, ?_, ?_⟩
          · rw [wrap_i64 (by omega) (by omega), Int.natCast_add, Int.natCast_one]
          · exact c3.get (g4.get (gk.get p1 (oe.noCell p1))) (oa4.noCell (g4.get (gk.get p1 (oe.noCell p1))))
          · refine (((p3 j e' x' h1 h2).2 (by omega)).keeps gk fun s hs he => ?_).grow g4 |>.keeps c3 fun s hs ha => ?_
            · have := hb.rows.apart j i e' e s h1 hei hs he; omega
            · have := p6 s ha; have := hel h1 hs; omega
          · rcases c4 s hs with e' | e'
            · exact p6 s e'
            · have := g4.1; have := gk.1; omega
          · by_cases hj : j < gs.length
            · rw [List.getElem?_append_left hj] at h1
              exact V (p7 j g' x' h1 h2)
            · rw [List.getElem?_append_right (by omega), List.getElem?_singleton] at h1
              split at h1
              · rename_i hj0
                injection h1 with h1
                subst h1
                have : j = i := by omega
                subst this
                rw [hxi] at h2; injection h2 with h2; subst h2
                exact oa4.append_view c1 (og.sl.grow g4)
              · cases h1
          · have k1 : Keeps (fun j => ∃ (i : Nat) (e : AVal), es[i]? = some e ∧ e.sid = some j) σ σ3 := Keeps.trans p8 (sub hei gk) fun _ _ h => h
            have k2 : Keeps (fun j => ∃ (i : Nat) (e : AVal), es[i]? = some e ∧ e.sid = some j) σ (σ3 ++ [.arr 1 [g] 0 0]) := Keeps.trans k1 (Grows.any (M := fun j => ∃ (i : Nat) (e : AVal), es[i]? = some e ∧ e.sid = some j) g4) fun _ _ h => h
            exact Keeps.trans k2 c3 fun s hs ha => by have := p6 s ha; have := hk.1; omega
          · have := gk.1; have := g4.1; have := c3.1; omega
      · simp -dsimp only [↓WPd, ↓wpC_block, ↓wpC_cond, WPu, Bool.false_eq_true, Bool.true_eq_false, Bool.not_true, Bool.not_false, if_true, if_false, ite_true, ite_false, Nat.reduceEqDiff, Nat.reduceLT, true_and, List.map_cons, List.map_nil, Nat.zero_add, Nat.reduceBEq]
        have hi' : i = qs.length := by omega
        exact ⟨a, gs, rfl, p1, p2, fun j e x h1 h2 => (p3 j e x h1 h2).1, p4.sl, by omega, p7, p8⟩
    · rintro y σ2 env ⟨rfl, a, gs, hv2, p1, p2, p3, p4, p5, p7, p8⟩
      simp only [List.map_cons, List.map_nil, List.cons.injEq, and_true] at hv2
      obtain ⟨v0, v5⟩ := hv2
      have la := p4.len
      rw [p5] at la
      simp -dsimp only [↓WPd, ↓wpC_block, ↓wpC_cond, WPu, Bool.false_eq_true, Bool.true_eq_false, Bool.not_true, Bool.not_false, if_true, if_false, ite_true, ite_false, Nat.reduceEqDiff, Nat.reduceLT, true_and, List.map_cons, List.map_nil, Nat.zero_add, Nat.reduceBEq, v0, v5]
      refine loop_rule (fun m vs σ' => ∃ i : Nat, i ≤ qs.length ∧ m = qs.length - i ∧ vs = [.ptr id 0, a, .int .i64 i] ∧ σ' = σ2) qs.length ⟨0, Nat.zero_le _, rfl, ?_, rfl⟩ ?_
      · simp -dsimp only [↓WPd, ↓wpC_block, ↓wpC_cond, WPu, Bool.false_eq_true, Bool.true_eq_false, Bool.not_true, Bool.not_false, if_true, if_false, ite_true, ite_false, Nat.reduceEqDiff, Nat.reduceLT, true_and, List.map_cons, List.map_nil, Nat.zero_add, Nat.reduceBEq, v0, v5]; rfl
      · rintro m vs σ' ⟨i, hi, rfl, rfl, rfl⟩
        simp -dsimp only [↓WPd, ↓wpC_block, ↓wpC_cond, WPu, Bool.false_eq_true, Bool.true_eq_false, Bool.not_true, Bool.not_false, if_true, if_false, ite_true, ite_false, Nat.reduceEqDiff, Nat.reduceLT, true_and, List.map_cons, List.map_nil, Nat.zero_add, Nat.reduceBEq, la]
        refine condP_dec (fun hc => ?_) (fun hc => ?_)
        · have hi' : i < qs.length := by omega
          have hie : i < es.length := by omega
          have hig : i < gs.length := by omega
          have hei : es[i]? = some es[i] := List.getElem?_eq_getElem hie
          have hgi : gs[i]? = some gs[i] := List.getElem?_eq_getElem hig
          have hxi : xs[i]? = some (xs[i]'(by omega)) := List.getElem?_eq_getElem _
          generalize xs[i]'(by omega) = x at hxi
          obtain ⟨m1, m2, m3⟩ := mk_opsI i (by omega)
          have sg := p7 i gs[i] x hgi hxi
          have se := p3 i es[i] x hei hxi
          obtain ⟨hx28, hxr⟩ := hx i x hxi
          have a1 := p4.iaddr hig .i64
          have a2 := p4.load1 hig sg.one 1
          have e1 := p2.iaddr hie .i64
          have e2 := p2.load1 hie se.one 1
          generalize gs[i] = g at *
          generalize es[i] = e at *
          have lg := sg.len
          rw [II_len] at lg
          have le := se.len
          rw [II_len] at le
          have hz : ∀ (k : Nat) (h : k < (II (x ++ List.replicate 20 (mkI i))).length), (II (x ++ List.replicate 20 (mkI i)))[k] = .int .i64 (mkI i) := fun k h => by
            have e : x ++ List.replicate 20 (mkI i) = List.replicate (x.length + 20) (mkI i) := by
              rw [← List.replicate_append_replicate, ← hxr]
            rw [II_get]; simp only [e, List.getElem_replicate]
          have hx' : ∀ (k : Nat) (h : k < (II x).length), (II x)[k] = .int .i64 (mkI i) := fun k h => by
            rw [II_get]
            have h' : k < x.length := by rw [II_len] at h; exact h
            have : x[k]? = some (mkI i) := by rw [hxr, List.getElem?_replicate, if_pos h']
            rw [List.getElem?_eq_getElem h'] at this
            rw [Option.some.inj this]
          have en : ((mkI i) != (mkI i)) = false := by simp
          simp -dsimp only [↓WPd, ↓wpC_block, ↓wpC_cond, WPu, Bool.false_eq_true, Bool.true_eq_false, Bool.not_true, Bool.not_false, if_true, if_false, ite_true, ite_false, Nat.reduceEqDiff, Nat.reduceLT, true_and, List.map_cons, List.map_nil, Nat.zero_add, Nat.reduceBEq]
          refine loop_rule (fun m vs σ'' => ∃ k : Nat, k ≤ (x ++ List.replicate 20 (mkI i)).length ∧ m = (x ++ List.replicate 20 (mkI i)).length - k ∧ vs = [.ptr id 0, a, .int .i64 i, .int .i64 k] ∧ σ'' = σ') (x ++ List.replicate 20 (mkI i)).length ⟨0, Nat.zero_le _, rfl, ?_, rfl⟩ ?_
          · simp -dsimp only [↓WPd, ↓wpC_block, ↓wpC_cond, WPu, Bool.false_eq_true, Bool.true_eq_false, Bool.not_true, Bool.not_false, if_true, if_false, ite_true, ite_false, Nat.reduceEqDiff, Nat.reduceLT, true_and, List.map_cons, List.map_nil, Nat.zero_add, Nat.reduceBEq]; rfl
          · rintro m vs σ'' ⟨k, hk1, rfl, rfl, rfl⟩
            simp -dsimp only [↓WPd, ↓wpC_block, ↓wpC_cond, WPu, Bool.false_eq_true, Bool.true_eq_false, Bool.not_true, Bool.not_false, if_true, if_false, ite_true, ite_false, Nat.reduceEqDiff, Nat.reduceLT, true_and, List.map_cons, List.map_nil, Nat.zero_add, Nat.reduceBEq, a1, a2, lg]
            have hzl : (x ++ List.replicate 20 (mkI i)).length < 2 ^ 40 := by simp; omega
            refine condP_dec (fun hc => ?_) (fun hc => ?_)
            · have hkz : k < (II (x ++ List.replicate 20 (mkI i))).length := by rw [II_len]; omega
              simp -dsimp only [↓WPd, ↓wpC_block, ↓wpC_cond, WPu, Bool.false_eq_true, Bool.true_eq_false, Bool.not_true, Bool.not_false, if_true, if_false, ite_true, ite_false, Nat.reduceEqDiff, Nat.reduceLT, true_and, List.map_cons, List.map_nil, Nat.zero_add, Nat.reduceBEq, a1, a2, sg.iaddr hkz, sg.load1 hkz (by rw [hz]; rfl), hz, m1, m2, m3, en]
              refine ⟨(x ++ List.replicate 20 (mkI i)).length - (k + 1), by omega, k + 1, by omega, rfl, ?_⟩
              exact ⟨by rw [wrap_i64 (by omega) (by omega), Int.natCast_add, Int.natCast_one], trivial⟩
            · simp -dsimp only [↓WPd, ↓wpC_block, ↓wpC_cond, WPu, Bool.false_eq_true, Bool.true_eq_false, Bool.not_true, Bool.not_false, if_true, if_false, ite_true, ite_false, Nat.reduceEqDiff, Nat.reduceLT, true_and, List.map_cons, List.map_nil, Nat.zero_add, Nat.reduceBEq]
              refine loop_rule (fun m vs σ3 => ∃ k : Nat, k ≤ x.length ∧ m = x.length - k ∧ vs = [.ptr id 0, a, .int .i64 i, .int .i64 k] ∧ σ3 = σ'') x.length ⟨0, Nat.zero_le _, rfl, ?_, rfl⟩ ?_
              · simp -dsimp only [↓WPd, ↓wpC_block, ↓wpC_cond, WPu, Bool.false_eq_true, Bool.true_eq_false, Bool.not_true, Bool.not_false, if_true, if_false, ite_true, ite_false, Nat.reduceEqDiff, Nat.reduceLT, true_and, List.map_cons, List.map_nil, Nat.zero_add, Nat.reduceBEq]; rfl
              · rintro m vs σ3 ⟨k2, hk2', rfl, rfl, rfl⟩
                simp -dsimp only [↓WPd, ↓wpC_block, ↓wpC_cond, WPu, Bool.false_eq_true, Bool.true_eq_false, Bool.not_true, Bool.not_false, if_true, if_false, ite_true, ite_false, Nat.reduceEqDiff, Nat.reduceLT, true_and, List.map_cons, List.map_nil, Nat.zero_add, Nat.reduceBEq, faddr_ptr, load_cells p1, List.getElem?_cons_zero, List.getElem?_cons_succ, e1, e2, le]
                refine condP_dec (fun hc => ?_) (fun hc => ?_)
                · have hkx : k2 < (II x).length := by rw [II_len]; omega
                  simp -dsimp only [↓WPd, ↓wpC_block, ↓wpC_cond, WPu, Bool.false_eq_true, Bool.true_eq_false, Bool.not_true, Bool.not_false, if_true, if_false, ite_true, ite_false, Nat.reduceEqDiff, Nat.reduceLT, true_and, List.map_cons, List.map_nil, Nat.zero_add, Nat.reduceBEq, faddr_ptr, load_cells p1, List.getElem?_cons_zero, List.getElem?_cons_succ, e1, e2, se.iaddr hkx, se.load1 hkx (by rw [hx']; rfl), hx', m1, m2, m3, en]
                  refine ⟨x.length - (k2 + 1), by omega, k2 + 1, by omega, rfl, ?_⟩
                  exact ⟨by rw [wrap_i64 (by omega) (by omega), Int.natCast_add, Int.natCast_one], trivial⟩
                · simp -dsimp only [↓WPd, ↓wpC_block, ↓wpC_cond, WPu, Bool.false_eq_true, Bool.true_eq_false, Bool.not_true, Bool.not_false, if_true, if_false, ite_true, ite_false, Nat.reduceEqDiff, Nat.reduceLT, true_and, List.map_cons, List.map_nil, Nat.zero_add, Nat.reduceBEq]
                  refine ⟨qs.length - (i + 1), by omega, i + 1, by omega, rfl, ?_⟩
                  exact ⟨by rw [wrap_i64 (by omega) (by omega), Int.natCast_add, Int.natCast_one], trivial⟩
        · simp -dsimp only [↓WPd, ↓wpC_block, ↓wpC_cond, WPu, Bool.false_eq_true, Bool.true_eq_false, Bool.not_true, Bool.not_false, if_true, if_false, ite_true, ite_false, Nat.reduceEqDiff, Nat.reduceLT, true_and, List.map_cons, List.map_nil, Nat.zero_add, Nat.reduceBEq]
          exact ⟨p1, p8⟩

theorem store5 {σ : Store} {id : Nat} {cs : List AVal} (h : σ[id]? = some (.cells cs)) (hl : cs.length = 5) : storeV σ 5 (.ptr id 0) (.agg [.nilslice, .nilslice, .nilslice, .nilslice, .nilslice]) = some (σ.set id (.cells [.nilslice, .nilslice, .nilslice, .nilslice, .nilslice])) := by
  have e : splice cs 0 [.nilslice, .nilslice, .nilslice, .nilslice, .nilslice] = [.nilslice, .nilslice, .nilslice, .nilslice, .nilslice] := by
    simp only [splice, List.take_zero, List.nil_append, List.length_cons, List.length_nil]
    rw [List.drop_eq_nil_of_le (by omega), List.append_nil]
  have e1 : (AVal.agg [.nilslice, .nilslice, .nilslice, .nilslice, .nilslice]).cells = [.nilslice, .nilslice, .nilslice, .nilslice, .nilslice] := rfl
  simp only [storeV, e1, h, e]
  rw [if_pos ⟨rfl, rfl⟩, if_pos (by omega)]

end
end Go.Proofs.Ytmocplkpnickgaa.Am

/-
  NetOrder: the run.
-/
namespace Go.Proofs.Ytmocplkpnickgaa.Am
open Go
set_option linter.unusedVariables false
set_option linter.unusedSimpArgs false
set_option linter.unusedSectionVars false
set_option maxRecDepth 100000

theorem nlive_ran : (run CN.cfg 100 1 42 [] []).map (fun p => p.1) = some (.bool true) := by kernel_rfl

set_option maxHeartbeats 4000000 in
theorem order_run (l : AVal) (fs : List AVal) (xs : List Dg) (k : Int) (hl : SlOf [] 5 l fs) (hx : Two (DgOk [] (fun _ => False)) fs xs) (hn : xs.length < 2 ^ 38) (hs : ∀ p ∈ xs, p.bs.length < 2 ^ 40) :
    Called CN.cfg 0 9 [l, .int .i64 k] [] fun v _ => v = .bool true := by
  refine called_of (fn := CN.a9) rfl (Nat.le_of_ble_eq_true rfl) ?_
  have ll := hl.len
  rw [hx.len] at ll
  have lno : l.sid = none := by
    cases h : l.sid with
    | none => rfl
    | some j => have := hl.lt h; simp at this
  simp only [CN.a9]
  simp -dsimp only [↓WPd, ↓wpC_block, ↓wpC_cond, WPu, Bool.false_eq_true, Bool.true_eq_false, Bool.not_true, Bool.not_false, if_true, if_false, ite_true, ite_false, Nat.reduceEqDiff, Nat.reduceLT, true_and, List.map_cons, List.map_nil, Nat.zero_add, Nat.reduceBEq]
  refine isoW_bool nlive_ran ?_
  simp -dsimp only [↓WPd, ↓wpC_block, ↓wpC_cond, WPu, Bool.false_eq_true, Bool.true_eq_false, Bool.not_true, Bool.not_false, if_true, if_false, ite_true, ite_false, Nat.reduceEqDiff, Nat.reduceLT, true_and, List.map_cons, List.map_nil, Nat.zero_add, Nat.reduceBEq]
  refine calledW_of (netnew_ok 0 [] 4 (by omega)) ?_
  rintro r σ1 ⟨id, rfl, N1, g1, -⟩
  have c0 : ((0 : Int) != 0) = false := rfl
  simp -dsimp only [↓WPd, ↓wpC_block, ↓wpC_cond, WPu, Bool.false_eq_true, Bool.true_eq_false, Bool.not_true, Bool.not_false, if_true, if_false, ite_true, ite_false, Nat.reduceEqDiff, Nat.reduceLT, true_and, List.map_cons, List.map_nil, Nat.zero_add, Nat.reduceBEq, List.getElem?_cons_zero, List.getElem?_cons_succ, c0]
  refine calledW_of (send_ok 0 σ1 id .nilslice 0 0 0 0 4 [] [] N1 l fs xs (hl.grow (grows_nil _)) (hx.mono fun _ _ h => h.grow (grows_nil _)) (fun j h => h.elim) (fun j h => by rw [lno] at h; cases h) (by simp; omega) hs) ?_
  rintro r σ2 ⟨rfl, hpost⟩
  by_cases h0 : sendE 4 xs = 0
  · rw [if_pos h0] at hpost
    obtain ⟨k2, v2, es2, N2, fv2⟩ := hpost
    rw [List.nil_append] at N2
    have c1 : (sendE 4 xs != 0) = false := by simp [h0]
    simp -dsimp only [↓WPd, ↓wpC_block, ↓wpC_cond, WPu, Bool.false_eq_true, Bool.true_eq_false, Bool.not_true, Bool.not_false, if_true, if_false, ite_true, ite_false, Nat.reduceEqDiff, Nat.reduceLT, true_and, List.map_cons, List.map_nil, Nat.zero_add, Nat.reduceBEq, c1]
    refine calledW_of (waiting_ok 0 σ2 id v2 _ _ _ _ _ es2 xs N2 (by omega) hs) ?_
    rintro r σ3 ⟨us, W, g3⟩
    simp -dsimp only [↓WPd, ↓wpC_block, ↓wpC_cond, WPu, Bool.false_eq_true, Bool.true_eq_false, Bool.not_true, Bool.not_false, if_true, if_false, ite_true, ite_false, Nat.reduceEqDiff, Nat.reduceLT, true_and, List.map_cons, List.map_nil, Nat.zero_add, Nat.reduceBEq]
    refine calledW_of (samedgs_ok 0 σ3 r l _ fs xs xs (by omega) hs W.row.sl (hl.grow (grows_nil _)) (W.two.mono fun _ _ h => h.ok) (hx.mono fun _ _ h => h.grow (grows_nil _))) ?_
    rintro r σ4 ⟨rfl, g4⟩
    simp -dsimp only [↓WPd, ↓wpC_block, ↓wpC_cond, WPu, Bool.false_eq_true, Bool.true_eq_false, Bool.not_true, Bool.not_false, if_true, if_false, ite_true, ite_false, Nat.reduceEqDiff, Nat.reduceLT, true_and, List.map_cons, List.map_nil, Nat.zero_add, Nat.reduceBEq, decide_true, ll]
    have N4 := (N2.grow g3).grow g4
    by_cases he : xs.length = 0
    · have ce : (((xs.length : Nat) : Int) == 0) = true := by simp [he]
      simp -dsimp only [↓WPd, ↓wpC_block, ↓wpC_cond, WPu, Bool.false_eq_true, Bool.true_eq_false, Bool.not_true, Bool.not_false, if_true, if_false, ite_true, ite_false, Nat.reduceEqDiff, Nat.reduceLT, true_and, List.map_cons, List.map_nil, Nat.zero_add, Nat.reduceBEq, ce, ll]
      refine calledW_of (netlen_ok 0 σ4 id v2 _ _ _ _ _ es2 xs N4) ?_
      rintro r σ5 ⟨rfl, rfl⟩
      have ce2 : (((xs.length : Nat) : Int) == ((xs.length : Nat) : Int)) = true := by simp
      simp -dsimp only [↓WPd, ↓wpC_block, ↓wpC_cond, WPu, Bool.false_eq_true, Bool.true_eq_false, Bool.not_true, Bool.not_false, if_true, if_false, ite_true, ite_false, Nat.reduceEqDiff, Nat.reduceLT, true_and, List.map_cons, List.map_nil, Nat.zero_add, Nat.reduceBEq, ce2]
    · have ce : (((xs.length : Nat) : Int) == 0) = false := beq_eq_false_iff_ne.2 (by omega)
      simp -dsimp only [↓WPd, ↓wpC_block, ↓wpC_cond, WPu, Bool.false_eq_true, Bool.true_eq_false, Bool.not_true, Bool.not_false, if_true, if_false, ite_true, ite_false, Nat.reduceEqDiff, Nat.reduceLT, true_and, List.map_cons, List.map_nil, Nat.zero_add, Nat.reduceBEq, ce, ll]
      obtain ⟨u, r, hr, u1, u2, u3, u4⟩ := umod k xs.length (by omega) (by omega)
      simp -dsimp only [↓WPd, ↓wpC_block, ↓wpC_cond, WPu, Bool.false_eq_true, Bool.true_eq_false, Bool.not_true, Bool.not_false, if_true, if_false, ite_true, ite_false, Nat.reduceEqDiff, Nat.reduceLT, true_and, List.map_cons, List.map_nil, Nat.zero_add, Nat.reduceBEq, u1, ll, u2, u3, u4]
      refine calledW_of (deliver_ok 0 σ4 id v2 _ _ _ _ _ es2 xs N4 (by omega) r hr) ?_
      rintro q σ5 ⟨x, rfl, hx5, k5, v5, es5, N5, fv5⟩
      obtain ⟨e, rfl, e2, e3⟩ := hx5
      have g6 : Grows σ5 (σ5 ++ [AObj.cells [.int .i64 xs[r].f, .int .i64 xs[r].t, .bool xs[r].ack, .int .i64 xs[r].s, e]]) := Grows.app _ _
      have st := new_store (σ := σ5) (n := 5) (zs := [.int .i64 0, .int .i64 0, .bool false, .int .i64 0, .nilslice]) rfl (cs := [.int .i64 xs[r].f, .int .i64 xs[r].t, .bool xs[r].ack, .int .i64 xs[r].s, e]) rfl (all5 e2.one _ _ _ _)
      have o6 : (σ5 ++ [AObj.cells [.int .i64 xs[r].f, .int .i64 xs[r].t, .bool xs[r].ack, .int .i64 xs[r].s, e]])[σ5.length]? = some (.cells [.int .i64 xs[r].f, .int .i64 xs[r].t, .bool xs[r].ack, .int .i64 xs[r].s, e]) := by simp
      simp -dsimp only [↓WPd, ↓wpC_block, ↓wpC_cond, WPu, Bool.false_eq_true, Bool.true_eq_false, Bool.not_true, Bool.not_false, if_true, if_false, ite_true, ite_false, Nat.reduceEqDiff, Nat.reduceLT, true_and, List.map_cons, List.map_nil, Nat.zero_add, Nat.reduceBEq, List.getElem?_cons_zero, List.getElem?_cons_succ, Dg.val, st]
      generalize hj : σ5.length = j at o6
      generalize σ5 ++ [AObj.cells [.int .i64 xs[r].f, .int .i64 xs[r].t, .bool xs[r].ack, .int .i64 xs[r].s, e]] = σ6 at g6 o6
      have lf := hx.len
      have hl6 := hl.grow (grows_nil σ6)
      obtain ⟨a, a1, a2, a3⟩ := hl6.sub_hi (hi := r) (by omega) .i64
      have e0 : fillL 5 true (List.replicate 0 (zel [AVal.int .i64 0, .int .i64 0, .bool false, .int .i64 0, .nilslice] true)) [] = some [] := rfl
      have ob : Own σ6 5 (.fslice (AVal.tagL []) true 5 []) [] := Own.lit _ _ _ _
      have lt : (fs.take r).length = r := by simp; omega
      obtain ⟨y, σ7, p1, p2, p3, p4, _⟩ := ob.append (fs.take r) 56 (by rw [lt]; simp; omega)
      rw [List.nil_append] at p2
      have g7 : Grows σ6 σ7 := p3.mono fun i hi hm => by cases hm
      obtain ⟨b, b1, b2, b3⟩ := (hl.grow (grows_nil σ7)).sub_lo (lo := r + 1) (by omega) .i64
      have w : IntKind.i64.wrap ((r : Int) + 1) = ((r + 1 : Nat) : Int) := by rw [wrap_i64 (by omega) (by omega), Int.natCast_add, Int.natCast_one]
      obtain ⟨z, σ8, q1, q2, q3, q4, _⟩ := p2.append (fs.drop (r + 1)) 56 (by rw [lt]; simp; omega)
      have yf : ∀ i, y.sid = some i → σ6.length ≤ i := fun i hi => by
        rcases p4 i hi with hh | hh
        · cases hh
        · omega
      have g8 : Grows σ6 σ8 := Keeps.trans g7 q3 fun i hi hm => by have := yf i hm; omega
      have o8 := g8.get o6
      have N8 := (N5.grow g6).grow g8
      have f0 : ((0 : Int) == 0) = true := rfl
      obtain ⟨w', a4, a5, a6, a7⟩ := Two.load5 (hl.grow (grows_nil σ8)) (hx.mono fun _ _ h => h.grow (grows_nil σ8)) hr
      simp -dsimp only [↓WPd, ↓wpC_block, ↓wpC_cond, WPu, Bool.false_eq_true, Bool.true_eq_false, Bool.not_true, Bool.not_false, if_true, if_false, ite_true, ite_false, Nat.reduceEqDiff, Nat.reduceLT, true_and, List.map_cons, List.map_nil, Nat.zero_add, Nat.reduceBEq, oev, e0, a1, a2.els, p1, w, b1, b2.els, q1, f0, loadN_cells (n := 5) o8 rfl, a4, a5]
      refine calledW_of (samedg_ok 0 σ8 (xs[r].val e) w' xs[r] xs[r] (F := fun _ => True) ⟨e, rfl, (e2.grow g6).sl.grow g8, fun _ _ => trivial⟩ a6 (hs _ (List.getElem_mem hr))) ?_
      rintro q9 σ9 ⟨rfl, g9⟩
      simp -dsimp only [↓WPd, ↓wpC_block, ↓wpC_cond, WPu, Bool.false_eq_true, Bool.true_eq_false, Bool.not_true, Bool.not_false, if_true, if_false, ite_true, ite_false, Nat.reduceEqDiff, Nat.reduceLT, true_and, List.map_cons, List.map_nil, Nat.zero_add, Nat.reduceBEq, decide_true]
      have lo : (outL xs r).length < 2 ^ 40 := by unfold outL; simp; omega
      have so : ∀ p ∈ outL xs r, p.bs.length < 2 ^ 40 := fun p hp => by
        unfold outL at hp
        rcases List.mem_append.1 hp with hp | hp
        · exact hs p (List.mem_of_mem_take hp)
        · exact hs p (List.mem_of_mem_drop hp)
      refine calledW_of (waiting_ok 0 σ9 id v5 _ _ _ _ _ es5 _ (N8.grow g9) lo so) ?_
      rintro q10 σ10 ⟨us10, W10, g10⟩
      simp -dsimp only [↓WPd, ↓wpC_block, ↓wpC_cond, WPu, Bool.false_eq_true, Bool.true_eq_false, Bool.not_true, Bool.not_false, if_true, if_false, ite_true, ite_false, Nat.reduceEqDiff, Nat.reduceLT, true_and, List.map_cons, List.map_nil, Nat.zero_add, Nat.reduceBEq]
      have rz : Two (DgOk σ10 (fun _ => False)) (fs.take r ++ fs.drop (r + 1)) (outL xs r) := ((hx.take r).append (hx.drop (r + 1))).mono fun _ _ h => h.grow (grows_nil σ10)
      refine calledW_of (samedgs_ok 0 σ10 q10 z _ _ (outL xs r) (outL xs r) lo so W10.row.sl ((q2.grow g9).grow g10).sl (W10.two.mono fun _ _ h => h.ok) rz) ?_
      rintro q11 σ11 ⟨rfl, g11⟩
      simp -dsimp only [↓WPd, ↓wpC_block, ↓wpC_cond, WPu, Bool.false_eq_true, Bool.true_eq_false, Bool.not_true, Bool.not_false, if_true, if_false, ite_true, ite_false, Nat.reduceEqDiff, Nat.reduceLT, true_and, List.map_cons, List.map_nil, Nat.zero_add, Nat.reduceBEq, decide_true]
  · rw [if_neg h0] at hpost
    have c1 : (sendE 4 xs != 0) = true := by simp [h0]
    have ce3 : ((0 : Int) == 0) = true := rfl
    simp -dsimp only [↓WPd, ↓wpC_block, ↓wpC_cond, WPu, Bool.false_eq_true, Bool.true_eq_false, Bool.not_true, Bool.not_false, if_true, if_false, ite_true, ite_false, Nat.reduceEqDiff, Nat.reduceLT, true_and, List.map_cons, List.map_nil, Nat.zero_add, Nat.reduceBEq, c1, ce3]
    refine calledW_of (netlen_ok 0 σ2 id .nilslice _ _ _ _ _ [] [] (N1.grow hpost)) ?_
    rintro r σ5 ⟨rfl, rfl⟩
    have ce2 : ((([] : List Dg).length : Int) == 0) = true := rfl
    have ce3 : ((0 : Int) == 0) = true := rfl
    simp -dsimp only [↓WPd, ↓wpC_block, ↓wpC_cond, WPu, Bool.false_eq_true, Bool.true_eq_false, Bool.not_true, Bool.not_false, if_true, if_false, ite_true, ite_false, Nat.reduceEqDiff, Nat.reduceLT, true_and, List.map_cons, List.map_nil, Nat.zero_add, Nat.reduceBEq, ce2, ce3]
end Go.Proofs.Ytmocplkpnickgaa.Am

