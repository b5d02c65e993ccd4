/-
  The abstract machine and the functions of the law, 5: texts put together.
-/
import Derived.Test.YtmocplkpnickgaaNetRunsPkD
/-
  Net: what is sent; what waits.
-/
namespace Go.Proofs.Ytmocplkpnickgaa.Am
open Go
set_option linter.unusedVariables false
set_option linter.unusedSimpArgs false
set_option linter.unusedSectionVars false
set_option maxRecDepth 100000

theorem Two.load5 {σ : Store} {F : Nat → Prop} {l : AVal} {es : List AVal} {ds : List Dg} (hl : SlOf σ 5 l es) (hr : Two (DgOk σ F) es ds) {k : Nat} (hk : k < ds.length) :
    ∃ u, iaddrV 5 l (.int .i64 k) = some (addrOf 5 l k) ∧ loadV σ 5 true (addrOf 5 l k) = some u ∧ DgOk σ F u ds[k] ∧ es[k]? = some u := by
  obtain ⟨u, u1, u2⟩ := hr.get hk
  have hi : k < es.length := by rw [hr.len]; exact hk
  have eu : es[k] = u := by rw [List.getElem?_eq_getElem hi] at u1; exact Option.some.inj u1
  obtain ⟨e, e1, e2, e3⟩ := cp u2
  exact ⟨u, hl.iaddr hi .i64, by have := hl.loadA hi (by rw [eu, e1]; rfl); rw [e1]; exact this, u2, u1⟩

section
variable (d : Nat) (σ : Store)

theorem netlen_ok {F : Nat → Prop} (id : Nat) (v : AVal) (c0 c1 c2 c3 n : Int) (es : List AVal) (ds : List Dg) (h : NetOk σ F id v c0 c1 c2 c3 n es ds) : Called CN.cfg d 45 [.ptr id 0] σ fun r σ' => r = .int .i64 ds.length ∧ σ' = σ := by
  refine called_of (fn := CN.a45) rfl (Nat.le_of_ble_eq_true rfl) ?_
  have ll := h.own.sl.len
  rw [h.rows.len] at ll
  simp only [CN.a45]
  simp -dsimp only [↓WPd, ↓wpC_block, ↓wpC_cond, WPu, Bool.false_eq_true, Bool.true_eq_false, Bool.not_true, Bool.not_false, if_true, if_false, ite_true, ite_false, Nat.reduceEqDiff, Nat.reduceLT, true_and, List.map_cons, List.map_nil, Nat.zero_add, Nat.reduceBEq, isnil_ptr, faddr_ptr, load_cells h.obj, List.getElem?_cons_zero, List.getElem?_cons_succ, ll, and_self]

/-- a row that was handed out: each of its datagrams has bytes of its own -/
structure DRow (σ : Store) (lo : Nat) (l : AVal) (us : List AVal) (ds : List Dg) : Prop where
  len : us.length = ds.length
  row : Own σ 5 l (List.zipWith Dg.val ds us)
  frl : Fresh lo l
  one : ∀ (i : Nat) (e : AVal) (p : Dg), us[i]? = some e → ds[i]? = some p → Own σ 1 e (B p.bs)
  frs : ∀ (i : Nat) (e : AVal), us[i]? = some e → Fresh lo e
  lit : ∀ (i : Nat) (e : AVal), us[i]? = some e → NoLit e
  apart : ∀ (i j : Nat) (e e' : AVal) (id : Nat), us[i]? = some e → us[j]? = some e' → e.sid = some id → e'.sid = some id → i = j

theorem DRow.nil (σ : Store) (lo : Nat) : DRow σ lo .nilslice [] [] := ⟨rfl, Own.nil _ _, Fresh.nil _, fun i e p h => by simp at h, fun i e h => by simp at h, fun i e h => by simp at h, fun i j e e' id h => by simp at h⟩
theorem DRow.grow {σ σ' : Store} {lo : Nat} {l : AVal} {us : List AVal} {ds : List Dg} (h : DRow σ lo l us ds) (g : Grows σ σ') : DRow σ' lo l us ds :=
  ⟨h.len, h.row.grow g, h.frl, fun i e p h1 h2 => (h.one i e p h1 h2).grow g, h.frs, h.lit, h.apart⟩
theorem DRow.lt {σ : Store} {lo : Nat} {l : AVal} {us : List AVal} {ds : List Dg} (h : DRow σ lo l us ds) {i : Nat} {e : AVal} (hi : us[i]? = some e) {j : Nat} (hj : e.sid = some j) : j < σ.length := by
  have hlt := (List.getElem?_eq_some_iff.1 hi).1
  exact (h.one i e (ds[i]'(by rw [← h.len]; exact hlt)) hi (List.getElem?_eq_getElem _)).sl.lt hj
theorem DRow.two {σ : Store} {lo : Nat} {l : AVal} {us : List AVal} {ds : List Dg} (h : DRow σ lo l us ds) : Two (DgOwn σ (fun j => lo ≤ j)) (List.zipWith Dg.val ds us) ds := by
  have hl := h.len
  refine Two.of_get (by simp [hl]) fun i a b ha hb => ?_
  have hi := (List.getElem?_eq_some_iff.1 hb).1
  have hu : us[i]? = some (us[i]'(by omega)) := List.getElem?_eq_getElem _
  rw [List.getElem?_zipWith, hb, hu] at ha
  simp only [Option.some.injEq] at ha
  subst ha
  exact ⟨_, rfl, h.one i _ b hu hb, fun j hj => h.frs i _ hu j hj⟩
theorem snoc_get {α : Type} {es : List α} {e x : α} {i : Nat} (hx : (es ++ [e])[i]? = some x) : (es[i]? = some x ∧ i < es.length) ∨ (i = es.length ∧ x = e) := by
  rw [List.getElem?_append] at hx
  split at hx
  · rename_i hlt; exact .inl ⟨hx, hlt⟩
  · rename_i hlt
    rw [List.getElem?_singleton] at hx
    split at hx
    · injection hx with hx; exact .inr ⟨by omega, hx.symm⟩
    · cases hx
theorem DRow.push {σ σ1 : Store} {lo : Nat} {l : AVal} {us : List AVal} {ds : List Dg} (h : DRow σ lo l us ds) (hlo : lo ≤ σ.length) (g : Grows σ σ1) {e : AVal} {p : Dg} (he : Own σ1 1 e (B p.bs)) (fe : Fresh σ.length e) (le : NoLit e)
    (hb : (ds.length + 1) * 56 ≤ 70368744177664) :
    ∃ l' σ2, appendV σ1 5 56 l [p.val e] = some (l', σ2) ∧ DRow σ2 lo l' (us ++ [e]) (ds ++ [p]) ∧ Keeps (fun i => lo ≤ i) σ1 σ2 := by
  have hl := h.len
  obtain ⟨l', σ2, h1, h2, h3, h4, h5⟩ := (h.row.grow g).append [p.val e] 56 (by simp [hl]; omega)
  have ez : List.zipWith Dg.val ds us ++ [p.val e] = List.zipWith Dg.val (ds ++ [p]) (us ++ [e]) := by
    rw [List.zipWith_append (by omega)]; rfl
  rw [ez] at h2
  have off : ∀ (u : AVal) (q : List AVal), Own σ1 1 u q → ∀ j, u.sid = some j → ¬ l.sid = some j := fun u q hu j hj hl' => (h.row.grow g).sizes hu (by decide) hl' hj
  refine ⟨l', σ2, h1, ⟨by simp [hl], h2, fun j hj => ?_, fun i x q hx hq => ?_, fun i x hx => ?_, fun i x hx => ?_, fun i j x y id hx hy hxi hyi => ?_⟩, h3.mono fun i hi hs => h.frl i hs⟩
  · rcases h4 j hj with hh | hh
    · exact h.frl j hh
    · have := g.1; omega
  · rcases snoc_get hx with ⟨hx, hlt⟩ | ⟨rfl, rfl⟩
    · rw [List.getElem?_append_left (by omega)] at hq
      have := (h.one i x q hx hq).grow g
      exact this.keeps h3 (off _ _ this)
    · rw [hl, List.getElem?_append_right (Nat.le_refl _), Nat.sub_self] at hq
      simp at hq; subst hq
      exact he.keeps h3 (off _ _ he)
  · rcases snoc_get hx with ⟨hx, hlt⟩ | ⟨rfl, rfl⟩
    · exact h.frs i x hx
    · exact fe.le hlo
  · rcases snoc_get hx with ⟨hx, hlt⟩ | ⟨rfl, rfl⟩
    · exact h.lit i x hx
    · exact le
  · rcases snoc_get hx with ⟨hx', hil⟩ | ⟨hi, hxe⟩ <;> rcases snoc_get hy with ⟨hy', hjl⟩ | ⟨hj, hye⟩
    · exact h.apart i j x y id hx' hy' hxi hyi
    · rw [hye] at hyi; have := h.lt hx' hxi; have := fe id hyi; omega
    · rw [hxe] at hxi; have := h.lt hy' hyi; have := fe id hxi; omega
    · omega

theorem one_lit (p : Dg) (e : AVal) (he : e.one = true) : fillL 5 true (List.replicate 1 (zel [AVal.int .i64 0, .int .i64 0, .bool false, .int .i64 0, .nilslice] true)) [(0, p.val e)] = some [p.val e] := by
  have := all5 he p.f p.t p.s p.ack
  simp [Dg.val, zel] at this ⊢
  exact this

theorem waiting_ok {F : Nat → Prop} (id : Nat) (v : AVal) (c0 c1 c2 c3 n : Int) (es : List AVal) (ds : List Dg) (h : NetOk σ F id v c0 c1 c2 c3 n es ds) (hl : ds.length < 2 ^ 40) (hs : ∀ p ∈ ds, p.bs.length < 2 ^ 40) :
    Called CN.cfg d 47 [.ptr id 0] σ fun r σ' => ∃ us, DRow σ' σ.length r us ds ∧ Grows σ σ' := by
  refine called_of (fn := CN.a47) rfl (Nat.le_of_ble_eq_true rfl) ?_
  have ll := h.own.sl.len
  rw [h.rows.len] at ll
  simp only [CN.a47]
  simp -dsimp only [↓WPd, ↓wpC_block, ↓wpC_cond, WPu, Bool.false_eq_true, Bool.true_eq_false, Bool.not_true, Bool.not_false, if_true, if_false, ite_true, ite_false, Nat.reduceEqDiff, Nat.reduceLT, true_and, List.map_cons, List.map_nil, Nat.zero_add, Nat.reduceBEq, isnil_ptr, faddr_ptr, load_cells h.obj, List.getElem?_cons_zero, List.getElem?_cons_succ, ll]
  refine loop_rule (fun m vs σ' => ∃ (k : Nat) (l : AVal) (us : List AVal), k ≤ ds.length ∧ m = ds.length - k ∧ Grows σ σ' ∧ DRow σ' σ.length l us (ds.take k) ∧ vs = [l, v, .int .i64 ds.length, .int .i64 k]) ds.length ⟨0, .nilslice, [], Nat.zero_le _, rfl, Keeps.refl _ _, DRow.nil _ _, ?_⟩ ?_
  · simp -dsimp only [↓WPd, ↓wpC_block, ↓wpC_cond, WPu, Bool.false_eq_true, Bool.true_eq_false, Bool.not_true, Bool.not_false, if_true, if_false, ite_true, ite_false, Nat.reduceEqDiff, Nat.reduceLT, true_and, List.map_cons, List.map_nil, Nat.zero_add, Nat.reduceBEq]; rfl
  · rintro m vs σ1 ⟨k, l, us, hk, rfl, g, hr, rfl⟩
    simp -dsimp only [↓WPd, ↓wpC_block, ↓wpC_cond, WPu, Bool.false_eq_true, Bool.true_eq_false, Bool.not_true, Bool.not_false, if_true, if_false, ite_true, ite_false, Nat.reduceEqDiff, Nat.reduceLT, true_and, List.map_cons, List.map_nil, Nat.zero_add, Nat.reduceBEq]
    refine condP_dec (fun hc => ?_) (fun hc => ?_)
    · have hk' : k < ds.length := by omega
      obtain ⟨u, a1, a2, a3, a4⟩ := Two.load5 (h.own.sl.grow g) ((h.rows.mono fun _ _ h => h.ok).mono fun _ _ h => h.grow g) hk'
      obtain ⟨e, e1, e2, e3⟩ := cp a3
      simp -dsimp only [↓WPd, ↓wpC_block, ↓wpC_cond, WPu, Bool.false_eq_true, Bool.true_eq_false, Bool.not_true, Bool.not_false, if_true, if_false, ite_true, ite_false, Nat.reduceEqDiff, Nat.reduceLT, true_and, List.map_cons, List.map_nil, Nat.zero_add, Nat.reduceBEq, a1, a2]
      subst e1
      have st := new_store (σ := σ1) (n := 5) (zs := [.int .i64 0, .int .i64 0, .bool false, .int .i64 0, .nilslice]) rfl (cs := [.int .i64 ds[k].f, .int .i64 ds[k].t, .bool ds[k].ack, .int .i64 ds[k].s, e]) rfl (all5 e2.one _ _ _ _)
      have g2 : Grows σ1 (σ1 ++ [.cells [.int .i64 ds[k].f, .int .i64 ds[k].t, .bool ds[k].ack, .int .i64 ds[k].s, e]]) := Grows.app _ _
      have ld := new_load (σ := σ1) (n := 5) (cs := [.int .i64 ds[k].f, .int .i64 ds[k].t, .bool ds[k].ack, .int .i64 ds[k].s, e]) rfl
      simp -dsimp only [↓WPd, ↓wpC_block, ↓wpC_cond, WPu, Bool.false_eq_true, Bool.true_eq_false, Bool.not_true, Bool.not_false, if_true, if_false, ite_true, ite_false, Nat.reduceEqDiff, Nat.reduceLT, true_and, List.map_cons, List.map_nil, Nat.zero_add, Nat.reduceBEq, Dg.val, st, ld]
      refine calledW_of (copied_ok d _ (ds[k].val e) ds[k] (F := F) ⟨e, rfl, e2.grow g2, e3⟩ (hs _ (List.getElem_mem hk'))) ?_
      rintro r σ2 ⟨e', rfl, o1, f1, n1, g3⟩
      have l2 := g2.1
      obtain ⟨l', σ3, p1, p2, p3⟩ := hr.push g.1 (g2.trans g3) o1 (f1.le l2) n1 (by simp; omega)
      simp -dsimp only [↓WPd, ↓wpC_block, ↓wpC_cond, WPu, Bool.false_eq_true, Bool.true_eq_false, Bool.not_true, Bool.not_false, if_true, if_false, ite_true, ite_false, Nat.reduceEqDiff, Nat.reduceLT, true_and, List.map_cons, List.map_nil, Nat.zero_add, Nat.reduceBEq, one_lit ds[k] e' o1.one, elems_fs, p1]
      refine ⟨ds.length - (k + 1), by omega, k + 1, l', us ++ [e'], by omega, rfl, ?_, ?_, ?_⟩
      · exact Keeps.trans (g.trans (g2.trans g3)) p3 fun i hi e => by omega
      · rw [List.take_add_one, List.getElem?_eq_getElem hk']; exact p2
      · rw [wrap_i64 (by omega) (by omega), Int.natCast_add, Int.natCast_one]
    · simp -dsimp only [↓WPd, ↓wpC_block, ↓wpC_cond, WPu, Bool.false_eq_true, Bool.true_eq_false, Bool.not_true, Bool.not_false, if_true, if_false, ite_true, ite_false, Nat.reduceEqDiff, Nat.reduceLT, true_and, List.map_cons, List.map_nil, Nat.zero_add, Nat.reduceBEq]
      have : k = ds.length := by omega
      subst this
      rw [List.take_length] at hr
      exact ⟨us, hr, g⟩

theorem sendE_drop {n : Int} {ds : List Dg} {k : Nat} (hk : k < ds.length) : sendE n (ds.drop k) = if wrongD n ds[k] = 0 then sendE n (ds.drop (k + 1)) else wrongD n ds[k] := by
  rw [List.drop_eq_getElem_cons hk]; rfl

set_option maxHeartbeats 2000000 in
theorem send_ok {F G : Nat → Prop} (id : Nat) (v : AVal) (c0 c1 c2 c3 n : Int) (es : List AVal) (ds : List Dg) (h : NetOk σ F id v c0 c1 c2 c3 n es ds) (l : AVal) (fs : List AVal) (xs : List Dg) (hl : SlOf σ 5 l fs) (hx : Two (DgOk σ G) fs xs) (hG : ∀ j, G j → j ≠ id ∧ v.sid ≠ some j)
    (hG2 : ∀ j, l.sid = some j → j ≠ id ∧ v.sid ≠ some j) (hn : ds.length + xs.length < 2 ^ 40) (hs : ∀ p ∈ xs, p.bs.length < 2 ^ 40) :
    Called CN.cfg d 44 [.ptr id 0, l] σ fun r σ' => r = .int .i64 (sendE n xs) ∧
      if sendE n xs = 0 then Keeps (fun i => i = id ∨ v.sid = some i) σ σ' ∧ ∃ v' es', NetOk σ' (fun j => F j ∨ σ.length ≤ j) id v' (IntKind.i64.wrap (c0 + xs.length)) c1 c2 c3 n es' (ds ++ xs) ∧ ∀ j, v'.sid = some j → v.sid = some j ∨ σ.length ≤ j
      else Grows σ σ' := by
  refine called_of (fn := CN.a44) rfl (Nat.le_of_ble_eq_true rfl) ?_
  have ll := hl.len
  rw [hx.len] at ll
  simp only [CN.a44]
  simp -dsimp only [↓WPd, ↓wpC_block, ↓wpC_cond, WPu, Bool.false_eq_true, Bool.true_eq_false, Bool.not_true, Bool.not_false, if_true, if_false, ite_true, ite_false, Nat.reduceEqDiff, Nat.reduceLT, true_and, List.map_cons, List.map_nil, Nat.zero_add, Nat.reduceBEq, isnil_ptr, ll]
  refine loop_rule2 (fun m vs σ' => ∃ k : Nat, k ≤ xs.length ∧ m = xs.length - k ∧ Grows σ σ' ∧ sendE n xs = sendE n (xs.drop k) ∧ vs = [.ptr id 0, l, l, .int .i64 xs.length, .int .i64 k])
    [0, 1, 4] (fun x vs σ' => Grows σ σ' ∧ ((x = .exit 0 ∧ sendE n xs = 0 ∧ ∃ y, vs = [.ptr id 0, l, y]) ∨ (x = .ret ∧ sendE n xs ≠ 0 ∧ ∃ a b, vs = [a, b, .int .i64 (sendE n xs)]))) xs.length
    ⟨0, Nat.zero_le _, rfl, Keeps.refl _ _, rfl, ?_⟩ ?_ ?_
  · simp -dsimp only [↓WPd, ↓wpC_block, ↓wpC_cond, WPu, Bool.false_eq_true, Bool.true_eq_false, Bool.not_true, Bool.not_false, if_true, if_false, ite_true, ite_false, Nat.reduceEqDiff, Nat.reduceLT, true_and, List.map_cons, List.map_nil, Nat.zero_add, Nat.reduceBEq]; rfl
  · rintro m vs σ1 ⟨k, hk, rfl, g, he, rfl⟩
    simp -dsimp only [↓WPd, ↓wpC_block, ↓wpC_cond, WPu, Bool.false_eq_true, Bool.true_eq_false, Bool.not_true, Bool.not_false, if_true, if_false, ite_true, ite_false, Nat.reduceEqDiff, Nat.reduceLT, true_and, List.map_cons, List.map_nil, Nat.zero_add, Nat.reduceBEq]
    refine condP_dec (fun hc => ?_) (fun hc => ?_)
    · have hk' : k < xs.length := by omega
      obtain ⟨u, a1, a2, a3, a4⟩ := Two.load5 (hl.grow g) (hx.mono fun _ _ h => h.grow g) hk'
      obtain ⟨e, e1, e2, e3⟩ := cp a3
      rw [sendE_drop hk'] at he
      simp -dsimp only [↓WPd, ↓wpC_block, ↓wpC_cond, WPu, Bool.false_eq_true, Bool.true_eq_false, Bool.not_true, Bool.not_false, if_true, if_false, ite_true, ite_false, Nat.reduceEqDiff, Nat.reduceLT, true_and, List.map_cons, List.map_nil, Nat.zero_add, Nat.reduceBEq, a1, a2]
      subst e1
      have st := new_store (σ := σ1) (n := 5) (zs := [.int .i64 0, .int .i64 0, .bool false, .int .i64 0, .nilslice]) rfl (cs := [.int .i64 xs[k].f, .int .i64 xs[k].t, .bool xs[k].ack, .int .i64 xs[k].s, e]) rfl (all5 e2.one _ _ _ _)
      have g2 : Grows σ1 (σ1 ++ [.cells [.int .i64 xs[k].f, .int .i64 xs[k].t, .bool xs[k].ack, .int .i64 xs[k].s, e]]) := Grows.app _ _
      have ld := new_load (σ := σ1) (n := 5) (cs := [.int .i64 xs[k].f, .int .i64 xs[k].t, .bool xs[k].ack, .int .i64 xs[k].s, e]) rfl
      simp -dsimp only [↓WPd, ↓wpC_block, ↓wpC_cond, WPu, Bool.false_eq_true, Bool.true_eq_false, Bool.not_true, Bool.not_false, if_true, if_false, ite_true, ite_false, Nat.reduceEqDiff, Nat.reduceLT, true_and, List.map_cons, List.map_nil, Nat.zero_add, Nat.reduceBEq, Dg.val, st, ld]
      refine calledW_of (look_ok d _ id _ _ _ _ v n ((g.trans g2).get h.obj) (xs[k].val e) xs[k] (F := G) ⟨e, rfl, e2.grow g2, e3⟩) ?_
      rintro r σ2 ⟨rfl, g3⟩
      by_cases hw : wrongD n xs[k] = 0
      · rw [if_pos hw] at he
        have cw : (wrongD n xs[k] != 0) = false := by simp [hw]
        simp -dsimp only [↓WPd, ↓wpC_block, ↓wpC_cond, WPu, Bool.false_eq_true, Bool.true_eq_false, Bool.not_true, Bool.not_false, if_true, if_false, ite_true, ite_false, Nat.reduceEqDiff, Nat.reduceLT, true_and, List.map_cons, List.map_nil, Nat.zero_add, Nat.reduceBEq, cw]
        refine ⟨xs.length - (k + 1), by omega, k + 1, by omega, rfl, g.trans (g2.trans g3), he, ?_⟩
        rw [wrap_i64 (by omega) (by omega), Int.natCast_add, Int.natCast_one]
      · rw [if_neg hw] at he
        have cw : (wrongD n xs[k] != 0) = true := by simp [hw]
        simp -dsimp only [↓WPd, ↓wpC_block, ↓wpC_cond, WPu, Bool.false_eq_true, Bool.true_eq_false, Bool.not_true, Bool.not_false, if_true, if_false, ite_true, ite_false, Nat.reduceEqDiff, Nat.reduceLT, true_and, List.map_cons, List.map_nil, Nat.zero_add, Nat.reduceBEq, cw]
        exact ⟨g.trans (g2.trans g3), .inr ⟨by rw [he]; exact hw, by simp [he]⟩⟩
    · simp -dsimp only [↓WPd, ↓wpC_block, ↓wpC_cond, WPu, Bool.false_eq_true, Bool.true_eq_false, Bool.not_true, Bool.not_false, if_true, if_false, ite_true, ite_false, Nat.reduceEqDiff, Nat.reduceLT, true_and, List.map_cons, List.map_nil, Nat.zero_add, Nat.reduceBEq]
      have : k = xs.length := by omega
      subst this
      rw [List.drop_length] at he
      exact ⟨g, .inl ⟨he, _, rfl⟩⟩
  · rintro x σ1 env ⟨g, h1⟩
    rcases h1 with ⟨rfl, h0, y, hv⟩ | ⟨rfl, h0, a, b, hv⟩
    · simp only [List.map_cons, List.map_nil, List.cons.injEq, and_true] at hv
      obtain ⟨v0, v1, -⟩ := hv
      simp -dsimp only [↓WPd, ↓wpC_block, ↓wpC_cond, WPu, Bool.false_eq_true, Bool.true_eq_false, Bool.not_true, Bool.not_false, if_true, if_false, ite_true, ite_false, Nat.reduceEqDiff, Nat.reduceLT, true_and, List.map_cons, List.map_nil, Nat.zero_add, Nat.reduceBEq, v0, v1, ll]
      refine loop_rule2 (fun m vs σ' => ∃ (k : Nat) (v' : AVal) (es' : List AVal), k ≤ xs.length ∧ m = xs.length - k ∧ Keeps (fun i => i = id ∨ v.sid = some i) σ σ' ∧ NetOk σ' (fun j => F j ∨ σ.length ≤ j) id v' c0 c1 c2 c3 n es' (ds ++ xs.take k) ∧
          (∀ j, v'.sid = some j → v.sid = some j ∨ σ.length ≤ j) ∧ vs = [.ptr id 0, l, l, .int .i64 xs.length, .int .i64 k])
        [0, 1] (fun x vs σ' => x = .exit 2 ∧ vs = [.ptr id 0, l] ∧ Keeps (fun i => i = id ∨ v.sid = some i) σ σ' ∧ ∃ v' es', NetOk σ' (fun j => F j ∨ σ.length ≤ j) id v' c0 c1 c2 c3 n es' (ds ++ xs) ∧ (∀ j, v'.sid = some j → v.sid = some j ∨ σ.length ≤ j)) xs.length
        ⟨0, v, es, Nat.zero_le _, rfl, Grows.any g, by simpa using (h.grow g).mono fun j h => .inl h, fun j hj => .inl hj, ?_⟩ ?_ ?_
      · simp -dsimp only [↓WPd, ↓wpC_block, ↓wpC_cond, WPu, Bool.false_eq_true, Bool.true_eq_false, Bool.not_true, Bool.not_false, if_true, if_false, ite_true, ite_false, Nat.reduceEqDiff, Nat.reduceLT, true_and, List.map_cons, List.map_nil, Nat.zero_add, Nat.reduceBEq, v0, v1]; rfl
      · rintro m vs σ2 ⟨k, v', es', hk, rfl, kk, hN, hv', rfl⟩
        simp -dsimp only [↓WPd, ↓wpC_block, ↓wpC_cond, WPu, Bool.false_eq_true, Bool.true_eq_false, Bool.not_true, Bool.not_false, if_true, if_false, ite_true, ite_false, Nat.reduceEqDiff, Nat.reduceLT, true_and, List.map_cons, List.map_nil, Nat.zero_add, Nat.reduceBEq]
        refine condP_dec (fun hc => ?_) (fun hc => ?_)
        · have hk' : k < xs.length := by omega
          have nG : ∀ j, G j → ¬ (j = id ∨ v.sid = some j) := fun j hj h => by
            rcases h with h | h
            · exact (hG j hj).1 h
            · exact (hG j hj).2 h
          have nL : ∀ j, l.sid = some j → ¬ (j = id ∨ v.sid = some j) := fun j hj h => by
            rcases h with h | h
            · exact (hG2 j hj).1 h
            · exact (hG2 j hj).2 h
          obtain ⟨u, a1, a2, a3, a4⟩ := Two.load5 (hl.keeps kk nL) (hx.mono fun _ _ h => h.keeps kk nG) hk'
          obtain ⟨e, e1, e2, e3⟩ := cp a3
          simp -dsimp only [↓WPd, ↓wpC_block, ↓wpC_cond, WPu, Bool.false_eq_true, Bool.true_eq_false, Bool.not_true, Bool.not_false, if_true, if_false, ite_true, ite_false, Nat.reduceEqDiff, Nat.reduceLT, true_and, List.map_cons, List.map_nil, Nat.zero_add, Nat.reduceBEq, a1, a2]
          subst e1
          have st := new_store (σ := σ2) (n := 5) (zs := [.int .i64 0, .int .i64 0, .bool false, .int .i64 0, .nilslice]) rfl (cs := [.int .i64 xs[k].f, .int .i64 xs[k].t, .bool xs[k].ack, .int .i64 xs[k].s, e]) rfl (all5 e2.one _ _ _ _)
          have g2 : Grows σ2 (σ2 ++ [.cells [.int .i64 xs[k].f, .int .i64 xs[k].t, .bool xs[k].ack, .int .i64 xs[k].s, e]]) := Grows.app _ _
          have ld := new_load (σ := σ2) (n := 5) (cs := [.int .i64 xs[k].f, .int .i64 xs[k].t, .bool xs[k].ack, .int .i64 xs[k].s, e]) rfl
          have N2 := hN.grow g2
          simp -dsimp only [↓WPd, ↓wpC_block, ↓wpC_cond, WPu, Bool.false_eq_true, Bool.true_eq_false, Bool.not_true, Bool.not_false, if_true, if_false, ite_true, ite_false, Nat.reduceEqDiff, Nat.reduceLT, true_and, List.map_cons, List.map_nil, Nat.zero_add, Nat.reduceBEq, Dg.val, st]
          refine drawnP_of rfl ?_
          have nc : isNil .p (.ptr id 0) = some false := rfl
          simp -dsimp only [↓WPd, ↓wpC_block, ↓wpC_cond, WPu, Bool.false_eq_true, Bool.true_eq_false, Bool.not_true, Bool.not_false, if_true, if_false, ite_true, ite_false, Nat.reduceEqDiff, Nat.reduceLT, true_and, List.map_cons, List.map_nil, Nat.zero_add, Nat.reduceBEq, ↓WPed, WPeu, Nat.reduceAdd, and_self, faddr_ptr, load_cells N2.obj, List.getElem?_cons_zero, List.getElem?_cons_succ, ld]
          refine calledW_of (copied_ok d _ (xs[k].val e) xs[k] (F := G) ⟨e, rfl, e2.grow g2, e3⟩ (hs _ (List.getElem_mem hk'))) ?_
          rintro r σ3 ⟨e', rfl, o1, f1, n1, g3⟩
          have N3 := N2.grow g3
          have l12 := kk.1
          have l23 := g2.1
          have lr := hN.rows.len
          simp only [List.length_append, List.length_take] at lr
          obtain ⟨w, σ4, p1, p2, p3, p4, _⟩ := N3.own.append [xs[k].val e'] 56 (by simp; omega)
          have o4 := p3.get N3.obj (N3.own.noCell N3.obj)
          have stw := store_cells o4 (off := 5) (by simp) (v := w) p2.one
          simp only [List.set_cons_zero, List.set_cons_succ] at stw
          have o5 := get_set (o' := .cells [.int .i64 c0, .int .i64 c1, .int .i64 c2, .int .i64 c3, .int .i64 n, w]) o4
          simp -dsimp only [↓WPd, ↓wpC_block, ↓wpC_cond, WPu, Bool.false_eq_true, Bool.true_eq_false, Bool.not_true, Bool.not_false, if_true, if_false, ite_true, ite_false, Nat.reduceEqDiff, Nat.reduceLT, true_and, List.map_cons, List.map_nil, Nat.zero_add, Nat.reduceBEq, ↓WPed, WPeu, Nat.reduceAdd, and_self, faddr_ptr, load_cells N2.obj, load_cells N3.obj, List.getElem?_cons_zero, List.getElem?_cons_succ, ld, one_lit xs[k] e' o1.one, elems_fs, p1, stw]
          have r4 : Two (DgOwn σ4 (fun j => F j ∨ σ.length ≤ j)) (es' ++ [xs[k].val e']) (ds ++ xs.take k ++ [xs[k]]) := by
            refine Two.push (N3.rows.mono fun _ _ h => ?_) ?_
            · obtain ⟨b, b1, b2, b3⟩ := h
              exact ⟨b, b1, b2.keeps p3 fun j hj hm => N3.own.sizes b2 (by decide) hm hj, b3⟩
            · exact ⟨e', rfl, o1.keeps p3 fun j hj hm => N3.own.sizes o1 (by decide) hm hj, fun j hj => .inr (by have := f1 j hj; omega)⟩
          have k5 := Keeps.set σ4 id (.cells [.int .i64 c0, .int .i64 c1, .int .i64 c2, .int .i64 c3, .int .i64 n, w])
          refine ⟨xs.length - (k + 1), by omega, k + 1, w, es' ++ [xs[k].val e'], by omega, rfl, ?_, ⟨o5, ?_, ?_⟩, fun j hj => ?_, ?_⟩
          · refine Keeps.trans (Keeps.trans (Keeps.trans kk (g2.trans g3) fun _ _ h => h.elim) p3 fun i hi hm => ?_) k5 fun i hi hm => .inl hm
            rcases hv' i hm with h | h
            · exact .inr h
            · omega
          · exact p2.keeps k5 fun j hj hm => p2.noCell o4 (by rw [← hm]; exact hj)
          · rw [List.take_add_one, List.getElem?_eq_getElem hk', Option.toList_some, ← List.append_assoc]
            refine r4.mono fun _ _ h => ?_
            obtain ⟨b, b1, b2, b3⟩ := h
            exact ⟨b, b1, b2.keeps k5 fun j hj hm => b2.noCell o4 (by rw [← hm]; exact hj), b3⟩
          · rcases p4 j hj with h | h
            · exact hv' j h
            · have := g3.1; exact .inr (by omega)
          · rw [wrap_i64 (by omega) (by omega), Int.natCast_add, Int.natCast_one]
        · simp -dsimp only [↓WPd, ↓wpC_block, ↓wpC_cond, WPu, Bool.false_eq_true, Bool.true_eq_false, Bool.not_true, Bool.not_false, if_true, if_false, ite_true, ite_false, Nat.reduceEqDiff, Nat.reduceLT, true_and, List.map_cons, List.map_nil, Nat.zero_add, Nat.reduceBEq]
          have : k = xs.length := by omega
          subst this
          rw [List.take_length] at hN
          exact ⟨kk, v', es', hN, hv'⟩
      · rintro x σ2 env2 ⟨rfl, hv2, kk, v', es', hN, hv'⟩
        simp only [List.map_cons, List.map_nil, List.cons.injEq, and_true] at hv2
        obtain ⟨w0, w1⟩ := hv2
        have stw := store_cells hN.obj (off := 0) (by simp) (v := .int .i64 (IntKind.i64.wrap (c0 + xs.length))) rfl
        simp only [List.set_cons_zero, List.set_cons_succ] at stw
        simp -dsimp only [↓WPd, ↓wpC_block, ↓wpC_cond, WPu, Bool.false_eq_true, Bool.true_eq_false, Bool.not_true, Bool.not_false, if_true, if_false, ite_true, ite_false, Nat.reduceEqDiff, Nat.reduceLT, true_and, List.map_cons, List.map_nil, Nat.zero_add, Nat.reduceBEq, w0, w1, faddr_ptr, load_cells hN.obj, List.getElem?_cons_zero, List.getElem?_cons_succ, ll, stw]
        rw [h0, if_pos rfl]
        have k5 := Keeps.set σ2 id (.cells [.int .i64 (IntKind.i64.wrap (c0 + xs.length)), .int .i64 c1, .int .i64 c2, .int .i64 c3, .int .i64 n, v'])
        refine ⟨rfl, Keeps.trans kk k5 fun i hi hm => .inl hm, v', es', ⟨get_set hN.obj, ?_, ?_⟩, hv'⟩
        · exact hN.own.keeps k5 fun j hj hm => hN.own.noCell hN.obj (by rw [← hm]; exact hj)
        · refine hN.rows.mono fun _ _ h => ?_
          obtain ⟨b, b1, b2, b3⟩ := h
          exact ⟨b, b1, b2.keeps k5 fun j hj hm => b2.noCell hN.obj (by rw [← hm]; exact hj), b3⟩
    · simp only [List.map_cons, List.map_nil, List.cons.injEq, and_true] at hv
      obtain ⟨-, -, v4⟩ := hv
      simp -dsimp only [↓WPd, ↓wpC_block, ↓wpC_cond, WPu, Bool.false_eq_true, Bool.true_eq_false, Bool.not_true, Bool.not_false, if_true, if_false, ite_true, ite_false, Nat.reduceEqDiff, Nat.reduceLT, true_and, List.map_cons, List.map_nil, Nat.zero_add, Nat.reduceBEq, v4]
      rw [if_neg h0]
      exact g
end
end Go.Proofs.Ytmocplkpnickgaa.Am

/-
  Net: what is taken out; what is doubled.
-/
namespace Go.Proofs.Ytmocplkpnickgaa.Am
open Go
set_option linter.unusedVariables false
set_option linter.unusedSimpArgs false
set_option linter.unusedSectionVars false
set_option maxRecDepth 100000

/-- an array that is being filled -/
def Filled (σ : Store) (id : Nat) (w : AVal) (done : List AVal) (total : Nat) (z : AVal) : Prop :=
  done.length ≤ total ∧ ((total = 0 ∧ w = .nilslice) ∨ (0 < total ∧ w = .slice 5 id 0 0 done.length none ∧ σ[id]? = some (.arr 5 (done ++ List.replicate (total - done.length) z) 0 0)))
theorem Filled.own {σ : Store} {id : Nat} {w : AVal} {done : List AVal} {total : Nat} {z : AVal} (h : Filled σ id w done total z) (hl : done.length = total) : Own σ 5 w done ∧ NoLit w ∧ ∀ j, w.sid = some j → j = id := by
  obtain ⟨h0, ⟨h1, rfl⟩ | ⟨h1, rfl, h3⟩⟩ := h
  · have : done = [] := List.eq_nil_of_length_eq_zero (by omega)
    subst this
    exact ⟨Own.nil _ _, trivial, fun j h => by cases h⟩
  · rw [hl, Nat.sub_self, List.replicate_zero, List.append_nil] at h3
    exact ⟨by have := Own.whole (ep := 0) h3 (Nat.le_refl _); rw [hl] at this ⊢; exact this, trivial, fun j h => by injection h with h; exact h.symm⟩
theorem Filled.append {σ : Store} {id : Nat} {w : AVal} {done : List AVal} {total : Nat} {z : AVal} (h : Filled σ id w done total z) {ys : List AVal} (hy : done.length + ys.length ≤ total) (ht : total * 56 ≤ 70368744177664) :
    ∃ w' σ', appendV σ 5 56 w ys = some (w', σ') ∧ Filled σ' id w' (done ++ ys) total z ∧ Keeps (fun j => j = id) σ σ' := by
  cases ys with
  | nil =>
    refine ⟨w, σ, ?_, by simpa using h, Keeps.refl _ _⟩
    obtain ⟨h0, ⟨h1, rfl⟩ | ⟨h1, rfl, h3⟩⟩ := h <;> simp
  | cons y ys =>
    obtain ⟨h0, ⟨h1, rfl⟩ | ⟨h1, rfl, h3⟩⟩ := h
    · simp at hy; omega
    · refine ⟨.slice 5 id 0 0 (done.length + (y :: ys).length) none, σ.set id (.arr 5 ((done ++ List.replicate (total - done.length) z).take (0 + done.length) ++ y :: ys ++ (done ++ List.replicate (total - done.length) z).drop (0 + done.length + (y :: ys).length)) 0 0), ?_, ⟨by simpa using hy, .inr ⟨h1, by simp, ?_⟩⟩, Keeps.set _ _ _⟩
      · have e1 : ¬ (Option.none.getD ((done ++ List.replicate (total - done.length) z).length - 0)) < done.length + (y :: ys).length := by simp at hy ⊢; omega
        have e2 : (done.length + (y :: ys).length) * 56 ≤ apLim := by have : apLim = 70368744177664 := rfl; omega
        simp only [appendV, growV, List.isEmpty_cons, Bool.false_eq_true, if_false, h3, e2, Nat.le_refl, and_self, if_true, if_neg e1]
      · rw [List.getElem?_set_self (List.getElem?_eq_some_iff.1 h3).1]
        have e3 : total - done.length - (done.length + (y :: ys).length - done.length) = total - (done ++ y :: ys).length := by rw [List.length_append]; omega
        rw [Nat.zero_add, List.take_left, List.drop_append, List.drop_of_length_le (by omega), List.nil_append, List.drop_replicate, e3]

def zD : AVal := .agg [.int .i64 0, .int .i64 0, .bool false, .int .i64 0, .nilslice]

section
variable (d : Nat) (σ : Store)

theorem at_ok {F : Nat → Prop} (id : Nat) (v : AVal) (c0 c1 c2 c3 n : Int) (es : List AVal) (ds : List Dg) (h : NetOk σ F id v c0 c1 c2 c3 n es ds) (k : Int) :
    Called CN.cfg d 80 [.ptr id 0, .int .i64 k] σ fun r σ' => r = .int .i64 (if 0 ≤ k ∧ k < ds.length then 0 else 4) ∧ σ' = σ := by
  refine called_of (fn := CN.a80) rfl (Nat.le_of_ble_eq_true rfl) ?_
  have ll := h.own.sl.len
  rw [h.rows.len] at ll
  simp only [CN.a80]
  by_cases h1 : k < 0
  · rw [if_neg (by omega)]
    simp -dsimp only [↓WPd, ↓wpC_block, ↓wpC_cond, WPu, Bool.false_eq_true, Bool.true_eq_false, Bool.not_true, Bool.not_false, if_true, if_false, ite_true, ite_false, Nat.reduceEqDiff, Nat.reduceLT, true_and, List.map_cons, List.map_nil, Nat.zero_add, Nat.reduceBEq, isnil_ptr, decide_eq_true h1, and_self]
  · by_cases h2 : k < ds.length
    · have d2 : decide (k ≥ (ds.length : Int)) = false := decide_eq_false (by omega)
      rw [if_pos (by omega)]
      simp -dsimp only [↓WPd, ↓wpC_block, ↓wpC_cond, WPu, Bool.false_eq_true, Bool.true_eq_false, Bool.not_true, Bool.not_false, if_true, if_false, ite_true, ite_false, Nat.reduceEqDiff, Nat.reduceLT, true_and, List.map_cons, List.map_nil, Nat.zero_add, Nat.reduceBEq, isnil_ptr, decide_eq_false h1, faddr_ptr, load_cells h.obj, List.getElem?_cons_zero, List.getElem?_cons_succ, ll, d2, and_self]
    · have d2 : decide (k ≥ (ds.length : Int)) = true := decide_eq_true (by omega)
      rw [if_neg (by omega)]
      simp -dsimp only [↓WPd, ↓wpC_block, ↓wpC_cond, WPu, Bool.false_eq_true, Bool.true_eq_false, Bool.not_true, Bool.not_false, if_true, if_false, ite_true, ite_false, Nat.reduceEqDiff, Nat.reduceLT, true_and, List.map_cons, List.map_nil, Nat.zero_add, Nat.reduceBEq, isnil_ptr, decide_eq_false h1, faddr_ptr, load_cells h.obj, List.getElem?_cons_zero, List.getElem?_cons_succ, ll, d2, and_self]

theorem grow_ok (m : Nat) (hm : m < 2 ^ 40) : Called CN.cfg d 100 [.nilslice, .int .i64 m] σ fun r σ' => Filled σ' σ.length r [] m zD ∧ Grows σ σ' := by
  refine called_of (fn := CN.a100) rfl (Nat.le_of_ble_eq_true rfl) ?_
  simp only [CN.a100]
  have d0 : decide (((m : Nat) : Int) < 0) = false := by simp
  have e0 : capSV .nilslice = some 0 := rfl
  have e1 : lenSV .nilslice = some 0 := rfl
  have w0 : IntKind.i64.wrap (((0 : Nat) : Int) - ((0 : Nat) : Int)) = 0 := rfl
  have w1 : IntKind.i64.wrap (((m : Nat) : Int) - 0) = ((m : Nat) : Int) := by rw [wrap_i64 (by omega) (by omega)]; omega
  by_cases h : 0 < m
  · have d1 : decide (((m : Nat) : Int) > 0) = true := decide_eq_true (by omega)
    have s1 : sliceV 5 .nilslice none (some (.int .i64 ((0 : Nat) : Int))) none = some .nilslice := rfl
    have ap : appzV σ 5 56 [.int .i64 0, .int .i64 0, .bool false, .int .i64 0, .nilslice] true .nilslice (.int .i64 (m : Nat)) = some (.slice 5 σ.length 0 0 m none, σ ++ [.arr 5 (List.replicate m zD) 0 0]) := by
      have : (0 : Int) ≤ (m : Int) ∧ (m : Int) * ((56 : Nat) : Int) ≤ apLim := by
        have : (apLim : Int) = 70368744177664 := rfl
        omega
      simp only [appzV]
      rw [if_pos this, if_neg (by omega)]
      simp [zD, zel]
    have s2 : sliceV 5 (.slice 5 σ.length 0 0 m none) none (some (.int .i64 ((0 : Nat) : Int))) none = some (.slice 5 σ.length 0 0 0 none) := by
      simp [sliceV]
    simp -dsimp only [↓WPd, ↓wpC_block, ↓wpC_cond, WPu, Bool.false_eq_true, Bool.true_eq_false, Bool.not_true, Bool.not_false, if_true, if_false, ite_true, ite_false, Nat.reduceEqDiff, Nat.reduceLT, true_and, List.map_cons, List.map_nil, Nat.zero_add, Nat.reduceBEq, d0, e0, e1, w0, w1, d1, oev, s1, ap, s2]
    exact ⟨⟨Nat.zero_le _, .inr ⟨h, rfl, by simp⟩⟩, Grows.app _ _⟩
  · have : m = 0 := by omega
    subst this
    have d1 : decide (((0 : Nat) : Int) > 0) = false := rfl
    simp -dsimp only [↓WPd, ↓wpC_block, ↓wpC_cond, WPu, Bool.false_eq_true, Bool.true_eq_false, Bool.not_true, Bool.not_false, if_true, if_false, ite_true, ite_false, Nat.reduceEqDiff, Nat.reduceLT, true_and, List.map_cons, List.map_nil, Nat.zero_add, Nat.reduceBEq, d0, e0, e1, w0, w1, d1]
    exact ⟨⟨Nat.le_refl _, .inl ⟨rfl, rfl⟩⟩, Keeps.refl _ _⟩

/-- the lengths of all -/
def lens (ps : List (List AVal)) : Nat := (ps.map List.length).sum
theorem lens_cons (p : List AVal) (ps : List (List AVal)) : lens (p :: ps) = p.length + lens ps := rfl
theorem lens_app (a b : List (List AVal)) : lens (a ++ b) = lens a + lens b := by
  induction a with
  | nil => simp [lens]
  | cons x a ih => rw [List.cons_append, lens_cons, lens_cons, ih, Nat.add_assoc]
theorem lens_take {ps : List (List AVal)} {k : Nat} (hk : k < ps.length) : lens (ps.take (k + 1)) = lens (ps.take k) + ps[k].length := by
  rw [List.take_add_one, List.getElem?_eq_getElem hk, lens_app]; rfl
theorem lens_take_le (ps : List (List AVal)) (k : Nat) : lens (ps.take k) ≤ lens ps := by
  conv => rhs; rw [← List.take_append_drop k ps]
  rw [lens_app]; omega
theorem lens_flat (ps : List (List AVal)) : ps.flatten.length = lens ps := by simp [lens, List.length_flatten]

theorem concat_ok (s : AVal) (us : List AVal) (ps : List (List AVal)) (hs : SlOf σ 1 s us) (hp : Two (fun u p => SlOf σ 5 u p) us ps) (hl : lens ps < 2 ^ 40) (hn : ps.length < 2 ^ 40) :
    Called CN.cfg d 96 [s] σ fun r σ' => Own σ' 5 r ps.flatten ∧ NoLit r ∧ Fresh σ.length r ∧ Grows σ σ' := by
  refine called_of (fn := CN.a96) rfl (Nat.le_of_ble_eq_true rfl) ?_
  have ls := hs.len
  rw [hp.len] at ls
  have one : ∀ {k : Nat} {σ' : Store} (hk : k < ps.length), Grows σ σ' → ∃ u, iaddrV 1 s (.int .i64 k) = some (addrOf 1 s k) ∧ loadV σ' 1 false (addrOf 1 s k) = some u ∧ SlOf σ' 5 u ps[k] := fun {k σ'} hk g => by
    obtain ⟨u, u1, u2⟩ := hp.get hk
    have hi : k < us.length := by rw [hp.len]; exact hk
    have eu : us[k] = u := by rw [List.getElem?_eq_getElem hi] at u1; exact Option.some.inj u1
    exact ⟨u, hs.iaddr hi .i64, by have := (hs.grow g).load1 hi (by rw [eu]; exact u2.one) 1; rwa [eu] at this, u2.grow g⟩
  simp only [CN.a96]
  simp -dsimp only [↓WPd, ↓wpC_block, ↓wpC_cond, WPu, Bool.false_eq_true, Bool.true_eq_false, Bool.not_true, Bool.not_false, if_true, if_false, ite_true, ite_false, Nat.reduceEqDiff, Nat.reduceLT, true_and, List.map_cons, List.map_nil, Nat.zero_add, Nat.reduceBEq, ls]
  refine loop_rule2 (fun m vs σ' => ∃ k : Nat, k ≤ ps.length ∧ m = ps.length - k ∧ σ' = σ ∧ vs = [s, .int .i64 (lens (ps.take k) : Nat), s, .int .i64 ps.length, .int .i64 k])
    [0, 3] (fun x vs σ' => x = .exit 0 ∧ σ' = σ ∧ vs = [s, .int .i64 (lens ps : Nat)]) ps.length ⟨0, Nat.zero_le _, rfl, rfl, ?_⟩ ?_ ?_
  · simp -dsimp only [↓WPd, ↓wpC_block, ↓wpC_cond, WPu, Bool.false_eq_true, Bool.true_eq_false, Bool.not_true, Bool.not_false, if_true, if_false, ite_true, ite_false, Nat.reduceEqDiff, Nat.reduceLT, true_and, List.map_cons, List.map_nil, Nat.zero_add, Nat.reduceBEq]; rfl
  · rintro m vs σ1 ⟨k, hk, rfl, rfl, rfl⟩
    simp -dsimp only [↓WPd, ↓wpC_block, ↓wpC_cond, WPu, Bool.false_eq_true, Bool.true_eq_false, Bool.not_true, Bool.not_false, if_true, if_false, ite_true, ite_false, Nat.reduceEqDiff, Nat.reduceLT, true_and, List.map_cons, List.map_nil, Nat.zero_add, Nat.reduceBEq]
    refine condP_dec (fun hc => ?_) (fun hc => ?_)
    · have hk' : k < ps.length := by omega
      obtain ⟨u, u1, u2, u3⟩ := one hk' (Keeps.refl _ _)
      have lu := u3.len
      have hle := lens_take_le ps (k + 1)
      rw [lens_take hk'] at hle
      have w : IntKind.i64.wrap (((lens (ps.take k) : Nat) : Int) + ((ps[k].length : Nat) : Int)) = ((lens (ps.take (k + 1)) : Nat) : Int) := by rw [lens_take hk', wrap_i64 (by omega) (by omega)]; omega
      have dn : decide (((lens (ps.take (k + 1)) : Nat) : Int) < 0) = false := decide_eq_false (by omega)
      simp -dsimp only [↓WPd, ↓wpC_block, ↓wpC_cond, WPu, Bool.false_eq_true, Bool.true_eq_false, Bool.not_true, Bool.not_false, if_true, if_false, ite_true, ite_false, Nat.reduceEqDiff, Nat.reduceLT, true_and, List.map_cons, List.map_nil, Nat.zero_add, Nat.reduceBEq, u1, u2, lu, w, dn]
      refine ⟨ps.length - (k + 1), by omega, k + 1, by omega, rfl, ?_⟩
      rw [wrap_i64 (by omega) (by omega), Int.natCast_add, Int.natCast_one]
    · simp -dsimp only [↓WPd, ↓wpC_block, ↓wpC_cond, WPu, Bool.false_eq_true, Bool.true_eq_false, Bool.not_true, Bool.not_false, if_true, if_false, ite_true, ite_false, Nat.reduceEqDiff, Nat.reduceLT, true_and, List.map_cons, List.map_nil, Nat.zero_add, Nat.reduceBEq]
      have : k = ps.length := by omega
      subst this
      rw [List.take_length]
  · rintro x σ1 env ⟨rfl, rfl, hv⟩
    simp only [List.map_cons, List.map_nil, List.cons.injEq, and_true] at hv
    obtain ⟨v0, v3⟩ := hv
    simp -dsimp only [↓WPd, ↓wpC_block, ↓wpC_cond, WPu, Bool.false_eq_true, Bool.true_eq_false, Bool.not_true, Bool.not_false, if_true, if_false, ite_true, ite_false, Nat.reduceEqDiff, Nat.reduceLT, true_and, List.map_cons, List.map_nil, Nat.zero_add, Nat.reduceBEq, v0, v3]
    refine calledW_of (grow_ok d σ1 (lens ps) hl) ?_
    rintro w σ2 ⟨f2, g2⟩
    simp -dsimp only [↓WPd, ↓wpC_block, ↓wpC_cond, WPu, Bool.false_eq_true, Bool.true_eq_false, Bool.not_true, Bool.not_false, if_true, if_false, ite_true, ite_false, Nat.reduceEqDiff, Nat.reduceLT, true_and, List.map_cons, List.map_nil, Nat.zero_add, Nat.reduceBEq, v0, v3, ls]
    refine loop_rule (fun m vs σ' => ∃ (k : Nat) (w : AVal), k ≤ ps.length ∧ m = ps.length - k ∧ Grows σ1 σ' ∧ Filled σ' σ1.length w (ps.take k).flatten (lens ps) zD ∧ vs = [w, s, .int .i64 ps.length, .int .i64 k]) ps.length ⟨0, w, Nat.zero_le _, rfl, g2, by simpa using f2, ?_⟩ ?_
    · simp -dsimp only [↓WPd, ↓wpC_block, ↓wpC_cond, WPu, Bool.false_eq_true, Bool.true_eq_false, Bool.not_true, Bool.not_false, if_true, if_false, ite_true, ite_false, Nat.reduceEqDiff, Nat.reduceLT, true_and, List.map_cons, List.map_nil, Nat.zero_add, Nat.reduceBEq, v0]; rfl
    · rintro m vs σ3 ⟨k, w, hk, rfl, g, hf, rfl⟩
      simp -dsimp only [↓WPd, ↓wpC_block, ↓wpC_cond, WPu, Bool.false_eq_true, Bool.true_eq_false, Bool.not_true, Bool.not_false, if_true, if_false, ite_true, ite_false, Nat.reduceEqDiff, Nat.reduceLT, true_and, List.map_cons, List.map_nil, Nat.zero_add, Nat.reduceBEq]
      refine condP_dec (fun hc => ?_) (fun hc => ?_)
      · have hk' : k < ps.length := by omega
        obtain ⟨u, u1, u2, u3⟩ := one hk' g
        have hle := lens_take_le ps (k + 1)
        rw [lens_take hk'] at hle
        obtain ⟨w', σ4, p1, p2, p3⟩ := hf.append (ys := ps[k]) (by rw [lens_flat]; exact hle) (by omega)
        simp -dsimp only [↓WPd, ↓wpC_block, ↓wpC_cond, WPu, Bool.false_eq_true, Bool.true_eq_false, Bool.not_true, Bool.not_false, if_true, if_false, ite_true, ite_false, Nat.reduceEqDiff, Nat.reduceLT, true_and, List.map_cons, List.map_nil, Nat.zero_add, Nat.reduceBEq, u1, u2, u3.els, p1]
        refine ⟨ps.length - (k + 1), by omega, k + 1, w', by omega, rfl, ?_, ?_, ?_⟩
        · exact Keeps.trans g p3 fun i hi e => by omega
        · rw [List.take_add_one, List.getElem?_eq_getElem hk', List.flatten_append]; simpa only [Option.toList_some, List.flatten_cons, List.flatten_nil, List.append_nil] using p2
        · rw [wrap_i64 (by omega) (by omega), Int.natCast_add, Int.natCast_one]
      · simp -dsimp only [↓WPd, ↓wpC_block, ↓wpC_cond, WPu, Bool.false_eq_true, Bool.true_eq_false, Bool.not_true, Bool.not_false, if_true, if_false, ite_true, ite_false, Nat.reduceEqDiff, Nat.reduceLT, true_and, List.map_cons, List.map_nil, Nat.zero_add, Nat.reduceBEq]
        have : k = ps.length := by omega
        subst this
        rw [List.take_length] at hf
        obtain ⟨q1, q2, q3⟩ := hf.own (lens_flat _)
        exact ⟨q1, q2, fun j hj => by have := q3 j hj; omega, g⟩
end
end Go.Proofs.Ytmocplkpnickgaa.Am

/-
  Net: Deliver, Drop, Double; how many are like a datagram.
-/
namespace Go.Proofs.Ytmocplkpnickgaa.Am
open Go
set_option linter.unusedVariables false
set_option linter.unusedSimpArgs false
set_option linter.unusedSectionVars false
set_option maxRecDepth 100000

theorem two_lit (a b : AVal) (ha : a.one = true) (hb : b.one = true) : fillL 1 false (List.replicate 2 (zel [AVal.nilslice] false)) [(0, a), (1, b)] = some [a, b] := by
  cases a <;> first | (cases ha; done) | (cases b <;> first | (cases hb; done) | rfl)

def outL (ds : List Dg) (k : Nat) : List Dg := ds.take k ++ ds.drop (k + 1)

section
variable (d : Nat) (σ : Store) {F : Nat → Prop} (id : Nat) (v : AVal) (c0 c1 c2 c3 n : Int) (es : List AVal) (ds : List Dg) (h : NetOk σ F id v c0 c1 c2 c3 n es ds) (hl : ds.length < 2 ^ 39)
include h hl

set_option maxHeartbeats 1000000 in
theorem out_ok (k : Nat) (hk : k < ds.length) : Called CN.cfg d 81 [.ptr id 0, .int .i64 k] σ fun r σ' => DgOwn σ' F r ds[k] ∧ Keeps (fun i => i = id) σ σ' ∧ ∃ v' es', NetOk σ' F id v' c0 c1 c2 c3 n es' (outL ds k) ∧ Fresh σ.length v' := by
  refine called_of (fn := CN.a81) rfl (Nat.le_of_ble_eq_true rfl) ?_
  have lr := h.rows.len
  obtain ⟨u, u1, u2⟩ := h.rows.get hk
  obtain ⟨e, rfl, e2, e3⟩ := cp u2
  have hi : k < es.length := by omega
  have eu : es[k] = ds[k].val e := by rw [List.getElem?_eq_getElem hi] at u1; exact Option.some.inj u1
  -- the variables
  have g1 : Grows σ (σ ++ [AObj.cells [.int .i64 0, .int .i64 0, .bool false, .int .i64 0, .nilslice]]) := Grows.app _ _
  have o1 : (σ ++ [AObj.cells [.int .i64 0, .int .i64 0, .bool false, .int .i64 0, .nilslice]])[σ.length]? = some (.cells [.int .i64 0, .int .i64 0, .bool false, .int .i64 0, .nilslice]) := by simp
  simp only [CN.a81]
  simp -dsimp only [↓WPd, ↓wpC_block, ↓wpC_cond, WPu, Bool.false_eq_true, Bool.true_eq_false, Bool.not_true, Bool.not_false, if_true, if_false, ite_true, ite_false, Nat.reduceEqDiff, Nat.reduceLT, true_and, List.map_cons, List.map_nil, Nat.zero_add, Nat.reduceBEq]
  have l1 : (σ ++ [AObj.cells [.int .i64 0, .int .i64 0, .bool false, .int .i64 0, .nilslice]]).length = σ.length + 1 := by simp
  generalize σ ++ [AObj.cells [.int .i64 0, .int .i64 0, .bool false, .int .i64 0, .nilslice]] = σ1 at g1 o1 l1
  have N1 := h.grow g1
  have ld := N1.own.sl.loadA hi (by rw [eu]; rfl)
  have ld' : loadV σ1 5 true (addrOf 5 v k) = some (.agg [.int .i64 ds[k].f, .int .i64 ds[k].t, .bool ds[k].ack, .int .i64 ds[k].s, e]) := ld
  have st := new_store (σ := σ1) (n := 5) (zs := [.int .i64 0, .int .i64 0, .bool false, .int .i64 0, .nilslice]) rfl (cs := [.int .i64 ds[k].f, .int .i64 ds[k].t, .bool ds[k].ack, .int .i64 ds[k].s, e]) rfl (all5 e2.one _ _ _ _)
  simp -dsimp only [↓WPd, ↓wpC_block, ↓wpC_cond, WPu, Bool.false_eq_true, Bool.true_eq_false, Bool.not_true, Bool.not_false, if_true, if_false, ite_true, ite_false, Nat.reduceEqDiff, Nat.reduceLT, true_and, List.map_cons, List.map_nil, Nat.zero_add, Nat.reduceBEq, faddr_ptr, load_cells N1.obj, List.getElem?_cons_zero, List.getElem?_cons_succ, N1.own.sl.iaddr hi, ld', st]
  have g2 : Grows σ1 (σ1 ++ [AObj.cells [.int .i64 ds[k].f, .int .i64 ds[k].t, .bool ds[k].ack, .int .i64 ds[k].s, e]]) := Grows.app _ _
  have o2 : (σ1 ++ [AObj.cells [.int .i64 ds[k].f, .int .i64 ds[k].t, .bool ds[k].ack, .int .i64 ds[k].s, e]])[σ1.length]? = some (.cells [.int .i64 ds[k].f, .int .i64 ds[k].t, .bool ds[k].ack, .int .i64 ds[k].s, e]) := by simp
  generalize hj : σ1.length = j at o2
  generalize σ1 ++ [AObj.cells [.int .i64 ds[k].f, .int .i64 ds[k].t, .bool ds[k].ack, .int .i64 ds[k].s, e]] = σ2 at g2 o2
  have N2 := N1.grow g2
  obtain ⟨a, a1, a2, a3⟩ := N2.own.sl.sub_hi (hi := k) (by omega) .i64
  obtain ⟨b, b1, b2, b3⟩ := N2.own.sl.sub_lo (lo := k + 1) (by omega) .i64
  have w : IntKind.i64.wrap ((k : Int) + 1) = ((k + 1 : Nat) : Int) := by rw [wrap_i64 (by omega) (by omega), Int.natCast_add, Int.natCast_one]
  simp -dsimp only [↓WPd, ↓wpC_block, ↓wpC_cond, WPu, Bool.false_eq_true, Bool.true_eq_false, Bool.not_true, Bool.not_false, if_true, if_false, ite_true, ite_false, Nat.reduceEqDiff, Nat.reduceLT, true_and, List.map_cons, List.map_nil, Nat.zero_add, Nat.reduceBEq, faddr_ptr, load_cells N2.obj, List.getElem?_cons_zero, List.getElem?_cons_succ, oev, a1, w, b1, two_lit a b a2.one b2.one]
  refine calledW_of (concat_ok d σ2 _ [a, b] [es.take k, es.drop (k + 1)] (SlOf.fs _ _ _ _ _) (.cons a2 (.cons b2 .nil)) (by simp [lens]; omega) (by simp)) ?_
  rintro r σ3 ⟨or, nr, fr, g3⟩
  have er : [es.take k, es.drop (k + 1)].flatten = es.take k ++ es.drop (k + 1) := by simp
  rw [er] at or
  have N3 := N2.grow g3
  have stn := store_cells N3.obj (off := 5) (by simp) (v := r) or.one
  simp only [List.set_cons_zero, List.set_cons_succ] at stn
  have idlt := (List.getElem?_eq_some_iff.1 h.obj).1
  have o1' := g3.get (g2.get o1)
  have o2' := g3.get o2
  have k4 := Keeps.set σ3 id (.cells [.int .i64 c0, .int .i64 c1, .int .i64 c2, .int .i64 c3, .int .i64 n, r])
  have o4 := get_set (o' := .cells [.int .i64 c0, .int .i64 c1, .int .i64 c2, .int .i64 c3, .int .i64 n, r]) N3.obj
  have o14 := k4.get o1' (by omega)
  have o24 := k4.get o2' (by omega)
  have or4 : Own (σ3.set id (.cells [.int .i64 c0, .int .i64 c1, .int .i64 c2, .int .i64 c3, .int .i64 n, r])) 5 r (es.take k ++ es.drop (k + 1)) := or.keeps k4 fun i hi hm => or.noCell N3.obj (by rw [← hm]; exact hi)
  have rows4 : Two (DgOwn (σ3.set id (.cells [.int .i64 c0, .int .i64 c1, .int .i64 c2, .int .i64 c3, .int .i64 n, r])) F) es ds := N3.rows.mono fun _ _ h => by
    obtain ⟨b, b1, b2, b3⟩ := h
    exact ⟨b, b1, b2.keeps k4 fun j hj hm => b2.noCell N3.obj (by rw [← hm]; exact hj), b3⟩
  have gk : Keeps (fun i => i = id) σ (σ3.set id (.cells [.int .i64 c0, .int .i64 c1, .int .i64 c2, .int .i64 c3, .int .i64 n, r])) := Keeps.trans (Grows.any (g1.trans (g2.trans g3))) k4 fun i hi hm => hm
  generalize σ3.set id (.cells [.int .i64 c0, .int .i64 c1, .int .i64 c2, .int .i64 c3, .int .i64 n, r]) = σ4 at k4 o4 o14 o24 or4 rows4 gk stn
  have st4 := storeN_cells (n := 5) o14 rfl (cs' := [.int .i64 ds[k].f, .int .i64 ds[k].t, .bool ds[k].ack, .int .i64 ds[k].s, e]) rfl (all5 e2.one _ _ _ _)
  have o5 := get_set (o' := .cells [.int .i64 ds[k].f, .int .i64 ds[k].t, .bool ds[k].ack, .int .i64 ds[k].s, e]) o14
  simp -dsimp only [↓WPd, ↓wpC_block, ↓wpC_cond, WPu, Bool.false_eq_true, Bool.true_eq_false, Bool.not_true, Bool.not_false, if_true, if_false, ite_true, ite_false, Nat.reduceEqDiff, Nat.reduceLT, true_and, List.map_cons, List.map_nil, Nat.zero_add, Nat.reduceBEq, faddr_ptr, stn, loadN_cells (n := 5) o24 rfl, st4, loadN_cells (n := 5) o5 rfl]
  have k5 := Keeps.set σ4 σ.length (.cells [.int .i64 ds[k].f, .int .i64 ds[k].t, .bool ds[k].ack, .int .i64 ds[k].s, e])
  have rows5 : Two (DgOwn (σ4.set σ.length (.cells [.int .i64 ds[k].f, .int .i64 ds[k].t, .bool ds[k].ack, .int .i64 ds[k].s, e])) F) es ds := rows4.mono fun _ _ h => by
    obtain ⟨b, b1, b2, b3⟩ := h
    exact ⟨b, b1, b2.keeps k5 fun j hj hm => b2.noCell o14 (by rw [← hm]; exact hj), b3⟩
  have l12 := g2.1
  refine ⟨?_, ?_, r, es.take k ++ es.drop (k + 1), ⟨?_, ?_, ?_⟩, fr.le (by omega)⟩
  · exact rows5.at u1 (List.getElem?_eq_getElem hk)
  · exact Keeps.trans gk k5 fun i hi hm => by omega
  · exact k5.get o4 (by omega)
  · exact or4.keeps k5 fun i hi hm => or4.noCell o14 (by rw [← hm]; exact hi)
  · exact (rows5.take k).append (rows5.drop (k + 1))

theorem deliver_ok (k : Nat) (hk : k < ds.length) : Called CN.cfg d 48 [.ptr id 0, .int .i64 k] σ fun r σ' =>
    ∃ x, r = .tuple [x, .int .i64 0] ∧ DgOwn σ' F x ds[k] ∧ Keeps (fun i => i = id) σ σ' ∧ ∃ v' es', NetOk σ' F id v' c0 (IntKind.i64.wrap (c1 + 1)) c2 c3 n es' (outL ds k) ∧ Fresh σ.length v' := by
  refine called_of (fn := CN.a48) rfl (Nat.le_of_ble_eq_true rfl) ?_
  simp only [CN.a48]
  simp -dsimp only [↓WPd, ↓wpC_block, ↓wpC_cond, WPu, Bool.false_eq_true, Bool.true_eq_false, Bool.not_true, Bool.not_false, if_true, if_false, ite_true, ite_false, Nat.reduceEqDiff, Nat.reduceLT, true_and, List.map_cons, List.map_nil, Nat.zero_add, Nat.reduceBEq]
  have g1 : Grows σ (σ ++ [AObj.cells [.int .i64 0, .int .i64 0, .bool false, .int .i64 0, .nilslice]]) := Grows.app _ _
  have o1 : (σ ++ [AObj.cells [.int .i64 0, .int .i64 0, .bool false, .int .i64 0, .nilslice]])[σ.length]? = some (.cells [.int .i64 0, .int .i64 0, .bool false, .int .i64 0, .nilslice]) := by simp
  have l1 : (σ ++ [AObj.cells [.int .i64 0, .int .i64 0, .bool false, .int .i64 0, .nilslice]]).length = σ.length + 1 := by simp
  generalize σ ++ [AObj.cells [.int .i64 0, .int .i64 0, .bool false, .int .i64 0, .nilslice]] = σ1 at g1 o1 l1
  have N1 := h.grow g1
  have idlt := (List.getElem?_eq_some_iff.1 h.obj).1
  refine calledW_of (at_ok d σ1 id v c0 c1 c2 c3 n es ds N1 k) ?_
  rintro r σ2 ⟨rfl, rfl⟩
  rw [if_pos ⟨by omega, by omega⟩]
  have c0' : ((0 : Int) != 0) = false := rfl
  have st := store_cells N1.obj (off := 1) (by simp) (v := .int .i64 (IntKind.i64.wrap (c1 + 1))) rfl
  simp only [List.set_cons_zero, List.set_cons_succ] at st
  simp -dsimp only [↓WPd, ↓wpC_block, ↓wpC_cond, WPu, Bool.false_eq_true, Bool.true_eq_false, Bool.not_true, Bool.not_false, if_true, if_false, ite_true, ite_false, Nat.reduceEqDiff, Nat.reduceLT, true_and, List.map_cons, List.map_nil, Nat.zero_add, Nat.reduceBEq, c0', faddr_ptr, load_cells N1.obj, List.getElem?_cons_zero, List.getElem?_cons_succ, st]
  have k3 := Keeps.set σ2 id (.cells [.int .i64 c0, .int .i64 (IntKind.i64.wrap (c1 + 1)), .int .i64 c2, .int .i64 c3, .int .i64 n, v])
  have N3 : NetOk (σ2.set id (.cells [.int .i64 c0, .int .i64 (IntKind.i64.wrap (c1 + 1)), .int .i64 c2, .int .i64 c3, .int .i64 n, v])) F id v c0 (IntKind.i64.wrap (c1 + 1)) c2 c3 n es ds := ⟨get_set N1.obj, N1.own.keeps k3 fun i hi hm => N1.own.noCell N1.obj (by rw [← hm]; exact hi), N1.rows.mono fun _ _ h => by
    obtain ⟨b, b1, b2, b3⟩ := h
    exact ⟨b, b1, b2.keeps k3 fun j hj hm => b2.noCell N1.obj (by rw [← hm]; exact hj), b3⟩⟩
  have o3 := k3.get o1 (by omega)
  have l3 := k3.1
  generalize σ2.set id (.cells [.int .i64 c0, .int .i64 (IntKind.i64.wrap (c1 + 1)), .int .i64 c2, .int .i64 c3, .int .i64 n, v]) = σ3 at k3 N3 o3 l3
  refine calledW_of (out_ok d σ3 id v c0 _ c2 c3 n es ds N3 hl k hk) ?_
  rintro r σ4 ⟨hx, k4, v', es', N4, fv⟩
  obtain ⟨e, rfl, e2, e3⟩ := hx
  have o4 := k4.get o3 (by omega)
  have st4 := storeN_cells (n := 5) o4 rfl (cs' := [.int .i64 ds[k].f, .int .i64 ds[k].t, .bool ds[k].ack, .int .i64 ds[k].s, e]) rfl (all5 e2.one _ _ _ _)
  have o5 := get_set (o' := .cells [.int .i64 ds[k].f, .int .i64 ds[k].t, .bool ds[k].ack, .int .i64 ds[k].s, e]) o4
  simp -dsimp only [↓WPd, ↓wpC_block, ↓wpC_cond, WPu, Bool.false_eq_true, Bool.true_eq_false, Bool.not_true, Bool.not_false, if_true, if_false, ite_true, ite_false, Nat.reduceEqDiff, Nat.reduceLT, true_and, List.map_cons, List.map_nil, Nat.zero_add, Nat.reduceBEq, Dg.val, st4, loadN_cells (n := 5) o5 rfl, resultsA, mapO]
  have k5 := Keeps.set σ4 σ.length (.cells [.int .i64 ds[k].f, .int .i64 ds[k].t, .bool ds[k].ack, .int .i64 ds[k].s, e])
  refine ⟨_, rfl, ⟨e, rfl, e2.keeps k5 fun i hi hm => e2.noCell o4 (by rw [← hm]; exact hi), e3⟩, ?_, v', es', ⟨k5.get N4.obj (by omega), N4.own.keeps k5 fun i hi hm => N4.own.noCell o4 (by rw [← hm]; exact hi), N4.rows.mono fun _ _ h => ?_⟩, fv.le (by omega)⟩
  · refine Keeps.trans (Keeps.trans (Keeps.trans (Grows.any g1) k3 fun i hi hm => hm) k4 fun i hi hm => hm) k5 fun i hi hm => by omega
  · obtain ⟨b, b1, b2, b3⟩ := h
    exact ⟨b, b1, b2.keeps k5 fun j hj hm => b2.noCell o4 (by rw [← hm]; exact hj), b3⟩

theorem deliver_no (k : Int) (hk : ¬ (0 ≤ k ∧ k < ds.length)) : Called CN.cfg d 48 [.ptr id 0, .int .i64 k] σ fun r σ' => r = .tuple [zD, .int .i64 4] ∧ Grows σ σ' := by
  refine called_of (fn := CN.a48) rfl (Nat.le_of_ble_eq_true rfl) ?_
  simp only [CN.a48]
  simp -dsimp only [↓WPd, ↓wpC_block, ↓wpC_cond, WPu, Bool.false_eq_true, Bool.true_eq_false, Bool.not_true, Bool.not_false, if_true, if_false, ite_true, ite_false, Nat.reduceEqDiff, Nat.reduceLT, true_and, List.map_cons, List.map_nil, Nat.zero_add, Nat.reduceBEq]
  have g1 : Grows σ (σ ++ [AObj.cells [.int .i64 0, .int .i64 0, .bool false, .int .i64 0, .nilslice]]) := Grows.app _ _
  have o1 : (σ ++ [AObj.cells [.int .i64 0, .int .i64 0, .bool false, .int .i64 0, .nilslice]])[σ.length]? = some (.cells [.int .i64 0, .int .i64 0, .bool false, .int .i64 0, .nilslice]) := by simp
  have l1 : (σ ++ [AObj.cells [.int .i64 0, .int .i64 0, .bool false, .int .i64 0, .nilslice]]).length = σ.length + 1 := by simp
  generalize σ ++ [AObj.cells [.int .i64 0, .int .i64 0, .bool false, .int .i64 0, .nilslice]] = σ1 at g1 o1 l1
  have N1 := h.grow g1
  have idlt := (List.getElem?_eq_some_iff.1 h.obj).1
  refine calledW_of (at_ok d σ1 id v c0 c1 c2 c3 n es ds N1 k) ?_
  rintro r σ2 ⟨rfl, rfl⟩
  rw [if_neg hk]
  have c0' : ((4 : Int) != 0) = true := rfl
  have e1 : fillA [AVal.int .i64 0, .int .i64 0, .bool false, .int .i64 0, .nilslice] [] = some [AVal.int .i64 0, .int .i64 0, .bool false, .int .i64 0, .nilslice] := rfl
  have st := storeN_cells (n := 5) o1 rfl (cs' := [.int .i64 0, .int .i64 0, .bool false, .int .i64 0, .nilslice]) rfl rfl
  have o5 := get_set (o' := .cells [.int .i64 0, .int .i64 0, .bool false, .int .i64 0, .nilslice]) o1
  simp -dsimp only [↓WPd, ↓wpC_block, ↓wpC_cond, WPu, Bool.false_eq_true, Bool.true_eq_false, Bool.not_true, Bool.not_false, if_true, if_false, ite_true, ite_false, Nat.reduceEqDiff, Nat.reduceLT, true_and, List.map_cons, List.map_nil, Nat.zero_add, Nat.reduceBEq, c0', e1, st, loadN_cells (n := 5) o5 rfl, resultsA, mapO]
  exact ⟨rfl, Keeps.trans g1 (Keeps.set _ _ _) fun i hi hm => by omega⟩

theorem drop_ok (k : Nat) (hk : k < ds.length) : Called CN.cfg d 51 [.ptr id 0, .int .i64 k] σ fun r σ' =>
    r = .int .i64 0 ∧ Keeps (fun i => i = id) σ σ' ∧ ∃ v' es', NetOk σ' F id v' c0 c1 (IntKind.i64.wrap (c2 + 1)) c3 n es' (outL ds k) ∧ Fresh σ.length v' := by
  refine called_of (fn := CN.a51) rfl (Nat.le_of_ble_eq_true rfl) ?_
  simp only [CN.a51]
  simp -dsimp only [↓WPd, ↓wpC_block, ↓wpC_cond, WPu, Bool.false_eq_true, Bool.true_eq_false, Bool.not_true, Bool.not_false, if_true, if_false, ite_true, ite_false, Nat.reduceEqDiff, Nat.reduceLT, true_and, List.map_cons, List.map_nil, Nat.zero_add, Nat.reduceBEq]
  refine calledW_of (at_ok d σ id v c0 c1 c2 c3 n es ds h k) ?_
  rintro r σ2 ⟨rfl, rfl⟩
  rw [if_pos ⟨by omega, by omega⟩]
  have c0' : ((0 : Int) != 0) = false := rfl
  have st := store_cells h.obj (off := 2) (by simp) (v := .int .i64 (IntKind.i64.wrap (c2 + 1))) rfl
  simp only [List.set_cons_zero, List.set_cons_succ] at st
  simp -dsimp only [↓WPd, ↓wpC_block, ↓wpC_cond, WPu, Bool.false_eq_true, Bool.true_eq_false, Bool.not_true, Bool.not_false, if_true, if_false, ite_true, ite_false, Nat.reduceEqDiff, Nat.reduceLT, true_and, List.map_cons, List.map_nil, Nat.zero_add, Nat.reduceBEq, c0', faddr_ptr, load_cells h.obj, List.getElem?_cons_zero, List.getElem?_cons_succ, st]
  have k3 := Keeps.set σ2 id (.cells [.int .i64 c0, .int .i64 c1, .int .i64 (IntKind.i64.wrap (c2 + 1)), .int .i64 c3, .int .i64 n, v])
  have N3 : NetOk (σ2.set id (.cells [.int .i64 c0, .int .i64 c1, .int .i64 (IntKind.i64.wrap (c2 + 1)), .int .i64 c3, .int .i64 n, v])) F id v c0 c1 (IntKind.i64.wrap (c2 + 1)) c3 n es ds := ⟨get_set h.obj, h.own.keeps k3 fun i hi hm => h.own.noCell h.obj (by rw [← hm]; exact hi), h.rows.mono fun _ _ hh => by
    obtain ⟨b, b1, b2, b3⟩ := hh
    exact ⟨b, b1, b2.keeps k3 fun j hj hm => b2.noCell h.obj (by rw [← hm]; exact hj), b3⟩⟩
  have l3 := k3.1
  refine calledW_of (out_ok d _ id v c0 c1 _ c3 n es ds N3 hl k hk) ?_
  rintro r σ4 ⟨hx, k4, v', es', N4, fv⟩
  simp -dsimp only [↓WPd, ↓wpC_block, ↓wpC_cond, WPu, Bool.false_eq_true, Bool.true_eq_false, Bool.not_true, Bool.not_false, if_true, if_false, ite_true, ite_false, Nat.reduceEqDiff, Nat.reduceLT, true_and, List.map_cons, List.map_nil, Nat.zero_add, Nat.reduceBEq]
  exact ⟨Keeps.trans k3 k4 fun i hi hm => hm, v', es', N4, fv.le l3⟩

theorem drop_no (k : Int) (hk : ¬ (0 ≤ k ∧ k < ds.length)) : Called CN.cfg d 51 [.ptr id 0, .int .i64 k] σ fun r σ' => r = .int .i64 4 ∧ Grows σ σ' := by
  refine called_of (fn := CN.a51) rfl (Nat.le_of_ble_eq_true rfl) ?_
  simp only [CN.a51]
  simp -dsimp only [↓WPd, ↓wpC_block, ↓wpC_cond, WPu, Bool.false_eq_true, Bool.true_eq_false, Bool.not_true, Bool.not_false, if_true, if_false, ite_true, ite_false, Nat.reduceEqDiff, Nat.reduceLT, true_and, List.map_cons, List.map_nil, Nat.zero_add, Nat.reduceBEq]
  refine calledW_of (at_ok d σ id v c0 c1 c2 c3 n es ds h k) ?_
  rintro r σ2 ⟨rfl, rfl⟩
  rw [if_neg hk]
  have c0' : ((4 : Int) != 0) = true := rfl
  simp -dsimp only [↓WPd, ↓wpC_block, ↓wpC_cond, WPu, Bool.false_eq_true, Bool.true_eq_false, Bool.not_true, Bool.not_false, if_true, if_false, ite_true, ite_false, Nat.reduceEqDiff, Nat.reduceLT, true_and, List.map_cons, List.map_nil, Nat.zero_add, Nat.reduceBEq, c0']
  exact Keeps.refl _ _
set_option maxHeartbeats 1000000 in
theorem double_ok (hs : ∀ p ∈ ds, p.bs.length < 2 ^ 40) (k : Nat) (hk : k < ds.length) : Called CN.cfg d 52 [.ptr id 0, .int .i64 k] σ fun r σ' =>
    r = .int .i64 0 ∧ Keeps (fun i => i = id ∨ v.sid = some i) σ σ' ∧ ∃ v' es', NetOk σ' (fun j => F j ∨ σ.length ≤ j) id v' c0 c1 c2 (IntKind.i64.wrap (c3 + 1)) n es' (ds ++ [ds[k]]) ∧ ∀ j, v'.sid = some j → v.sid = some j ∨ σ.length ≤ j := by
  refine called_of (fn := CN.a52) rfl (Nat.le_of_ble_eq_true rfl) ?_
  simp only [CN.a52]
  simp -dsimp only [↓WPd, ↓wpC_block, ↓wpC_cond, WPu, Bool.false_eq_true, Bool.true_eq_false, Bool.not_true, Bool.not_false, if_true, if_false, ite_true, ite_false, Nat.reduceEqDiff, Nat.reduceLT, true_and, List.map_cons, List.map_nil, Nat.zero_add, Nat.reduceBEq]
  refine calledW_of (at_ok d σ id v c0 c1 c2 c3 n es ds h k) ?_
  rintro r σ2 ⟨rfl, rfl⟩
  rw [if_pos ⟨by omega, by omega⟩]
  have c0' : ((0 : Int) != 0) = false := rfl
  have st := store_cells h.obj (off := 3) (by simp) (v := .int .i64 (IntKind.i64.wrap (c3 + 1))) rfl
  simp only [List.set_cons_zero, List.set_cons_succ] at st
  simp -dsimp only [↓WPd, ↓wpC_block, ↓wpC_cond, WPu, Bool.false_eq_true, Bool.true_eq_false, Bool.not_true, Bool.not_false, if_true, if_false, ite_true, ite_false, Nat.reduceEqDiff, Nat.reduceLT, true_and, List.map_cons, List.map_nil, Nat.zero_add, Nat.reduceBEq, c0', faddr_ptr, load_cells h.obj, List.getElem?_cons_zero, List.getElem?_cons_succ, st]
  have k3 := Keeps.set σ2 id (.cells [.int .i64 c0, .int .i64 c1, .int .i64 c2, .int .i64 (IntKind.i64.wrap (c3 + 1)), .int .i64 n, v])
  have N3 : NetOk (σ2.set id (.cells [.int .i64 c0, .int .i64 c1, .int .i64 c2, .int .i64 (IntKind.i64.wrap (c3 + 1)), .int .i64 n, v])) F id v c0 c1 c2 (IntKind.i64.wrap (c3 + 1)) n es ds := ⟨get_set h.obj, h.own.keeps k3 fun i hi hm => h.own.noCell h.obj (by rw [← hm]; exact hi), h.rows.mono fun _ _ hh => by
    obtain ⟨b, b1, b2, b3⟩ := hh
    exact ⟨b, b1, b2.keeps k3 fun j hj hm => b2.noCell h.obj (by rw [← hm]; exact hj), b3⟩⟩
  generalize σ2.set id (.cells [.int .i64 c0, .int .i64 c1, .int .i64 c2, .int .i64 (IntKind.i64.wrap (c3 + 1)), .int .i64 n, v]) = σ3 at k3 N3
  obtain ⟨u, a1, a2, a3, a4⟩ := Two.load5 N3.own.sl (N3.rows.mono fun _ _ h => h.ok) hk
  refine drawnP_of rfl ?_
  simp -dsimp only [↓WPd, ↓wpC_block, ↓wpC_cond, WPu, Bool.false_eq_true, Bool.true_eq_false, Bool.not_true, Bool.not_false, if_true, if_false, ite_true, ite_false, Nat.reduceEqDiff, Nat.reduceLT, true_and, List.map_cons, List.map_nil, Nat.zero_add, Nat.reduceBEq, ↓WPed, WPeu, Nat.reduceAdd, and_self, faddr_ptr, load_cells N3.obj, List.getElem?_cons_zero, List.getElem?_cons_succ, a1, a2]
  refine calledW_of (copied_ok d σ3 u ds[k] a3 (hs _ (List.getElem_mem hk))) ?_
  rintro r σ4 ⟨e', rfl, o1, f1, n1, g4⟩
  have N4 := N3.grow g4
  have lr := h.rows.len
  obtain ⟨w, σ5, p1, p2, p3, p4, _⟩ := N4.own.append [ds[k].val e'] 56 (by simp; omega)
  have o4 := p3.get N4.obj (N4.own.noCell N4.obj)
  have stw := store_cells o4 (off := 5) (by simp) (v := w) p2.one
  simp only [List.set_cons_zero, List.set_cons_succ] at stw
  have o5 := get_set (o' := .cells [.int .i64 c0, .int .i64 c1, .int .i64 c2, .int .i64 (IntKind.i64.wrap (c3 + 1)), .int .i64 n, w]) o4
  simp -dsimp only [↓WPd, ↓wpC_block, ↓wpC_cond, WPu, Bool.false_eq_true, Bool.true_eq_false, Bool.not_true, Bool.not_false, if_true, if_false, ite_true, ite_false, Nat.reduceEqDiff, Nat.reduceLT, true_and, List.map_cons, List.map_nil, Nat.zero_add, Nat.reduceBEq, ↓WPed, WPeu, Nat.reduceAdd, and_self, faddr_ptr, load_cells N3.obj, load_cells N4.obj, List.getElem?_cons_zero, List.getElem?_cons_succ, one_lit ds[k] e' o1.one, elems_fs, p1, stw]
  have l23 := k3.1
  have l34 := g4.1
  have r4 : Two (DgOwn σ5 (fun j => F j ∨ σ2.length ≤ j)) (es ++ [ds[k].val e']) (ds ++ [ds[k]]) := by
    refine Two.push (N4.rows.mono fun _ _ h => ?_) ?_
    · obtain ⟨b, b1, b2, b3⟩ := h
      exact ⟨b, b1, b2.keeps p3 fun j hj hm => N4.own.sizes b2 (by decide) hm hj, fun j hj => .inl (b3 j hj)⟩
    · exact ⟨e', rfl, o1.keeps p3 fun j hj hm => N4.own.sizes o1 (by decide) hm hj, fun j hj => .inr (by have := f1 j hj; omega)⟩
  have k5 := Keeps.set σ5 id (.cells [.int .i64 c0, .int .i64 c1, .int .i64 c2, .int .i64 (IntKind.i64.wrap (c3 + 1)), .int .i64 n, w])
  refine ⟨?_, w, es ++ [ds[k].val e'], ⟨o5, ?_, ?_⟩, fun j hj => ?_⟩
  · refine Keeps.trans (Keeps.trans (Keeps.trans (k3.mono fun _ _ h => .inl h) g4 fun _ _ h => h.elim) p3 fun i hi hm => .inr hm) k5 fun i hi hm => .inl hm
  · exact p2.keeps k5 fun j hj hm => p2.noCell o4 (by rw [← hm]; exact hj)
  · refine r4.mono fun _ _ h => ?_
    obtain ⟨b, b1, b2, b3⟩ := h
    exact ⟨b, b1, b2.keeps k5 fun j hj hm => b2.noCell o4 (by rw [← hm]; exact hj), b3⟩
  · rcases p4 j hj with h | h
    · exact .inl h
    · exact .inr (by omega)

theorem double_no (k : Int) (hk : ¬ (0 ≤ k ∧ k < ds.length)) : Called CN.cfg d 52 [.ptr id 0, .int .i64 k] σ fun r σ' => r = .int .i64 4 ∧ Grows σ σ' := by
  refine called_of (fn := CN.a52) rfl (Nat.le_of_ble_eq_true rfl) ?_
  simp only [CN.a52]
  simp -dsimp only [↓WPd, ↓wpC_block, ↓wpC_cond, WPu, Bool.false_eq_true, Bool.true_eq_false, Bool.not_true, Bool.not_false, if_true, if_false, ite_true, ite_false, Nat.reduceEqDiff, Nat.reduceLT, true_and, List.map_cons, List.map_nil, Nat.zero_add, Nat.reduceBEq]
  refine calledW_of (at_ok d σ id v c0 c1 c2 c3 n es ds h k) ?_
  rintro r σ2 ⟨rfl, rfl⟩
  rw [if_neg hk]
  have c0' : ((4 : Int) != 0) = true := rfl
  simp -dsimp only [↓WPd, ↓wpC_block, ↓wpC_cond, WPu, Bool.false_eq_true, Bool.true_eq_false, Bool.not_true, Bool.not_false, if_true, if_false, ite_true, ite_false, Nat.reduceEqDiff, Nat.reduceLT, true_and, List.map_cons, List.map_nil, Nat.zero_add, Nat.reduceBEq, c0']
  exact Keeps.refl _ _
end

section
variable (d : Nat) (σ : Store)
theorem of_ok {F G : Nat → Prop} (l x : AVal) (es : List AVal) (ds : List Dg) (p : Dg) (hl : SlOf σ 5 l es) (hr : Two (DgOk σ F) es ds) (hx : DgOk σ G x p) (hn : ds.length < 2 ^ 40) (hs : ∀ q ∈ ds, q.bs.length < 2 ^ 40) :
    Called CN.cfg d 50 [l, x] σ fun r σ' => r = .int .i64 (ds.count p : Nat) ∧ Grows σ σ' := by
  refine called_of (fn := CN.a50) rfl (Nat.le_of_ble_eq_true rfl) ?_
  have ll := hl.len
  rw [hr.len] at ll
  obtain ⟨e, rfl, e2, e3⟩ := cp hx
  have e2' := e2
  simp only [CN.a50, Dg.val]
  simp -dsimp only [↓WPd, ↓wpC_cond, WPu, Bool.false_eq_true, Bool.true_eq_false, Bool.not_true, Bool.not_false, if_true, if_false, ite_true, ite_false, Nat.reduceEqDiff, Nat.reduceLT, true_and, List.map_cons, List.map_nil, Nat.zero_add, Nat.reduceBEq, all5 e2.one, cells_agg]
  have g1 : Grows σ (σ ++ [AObj.cells [.int .i64 p.f, .int .i64 p.t, .bool p.ack, .int .i64 p.s, e]]) := Grows.app _ _
  have o1 : (σ ++ [AObj.cells [.int .i64 p.f, .int .i64 p.t, .bool p.ack, .int .i64 p.s, e]])[σ.length]? = some (.cells [.int .i64 p.f, .int .i64 p.t, .bool p.ack, .int .i64 p.s, e]) := by simp
  generalize σ ++ [AObj.cells [.int .i64 p.f, .int .i64 p.t, .bool p.ack, .int .i64 p.s, e]] = σ1 at g1 o1
  rw [wpC_block]
  simp -dsimp only [↓WPd, ↓wpC_block, ↓wpC_cond, WPu, Bool.false_eq_true, Bool.true_eq_false, Bool.not_true, Bool.not_false, if_true, if_false, ite_true, ite_false, Nat.reduceEqDiff, Nat.reduceLT, true_and, List.map_cons, List.map_nil, Nat.zero_add, Nat.reduceBEq]
  refine loop_rule (fun m vs σ' => ∃ k : Nat, k ≤ ds.length ∧ m = ds.length - k ∧ Grows σ1 σ' ∧ vs = [l, .ptr σ.length 0, .int .i64 ((ds.take k).count p : Nat), .int .i64 k]) ds.length ⟨0, Nat.zero_le _, rfl, Keeps.refl _ _, ?_⟩ ?_
  · simp -dsimp only [↓WPd, ↓wpC_block, ↓wpC_cond, WPu, Bool.false_eq_true, Bool.true_eq_false, Bool.not_true, Bool.not_false, if_true, if_false, ite_true, ite_false, Nat.reduceEqDiff, Nat.reduceLT, true_and, List.map_cons, List.map_nil, Nat.zero_add, Nat.reduceBEq]; rfl
  · rintro m vs σ2 ⟨k, hk, rfl, g2, rfl⟩
    simp -dsimp only [↓WPd, ↓wpC_block, ↓wpC_cond, WPu, Bool.false_eq_true, Bool.true_eq_false, Bool.not_true, Bool.not_false, if_true, if_false, ite_true, ite_false, Nat.reduceEqDiff, Nat.reduceLT, true_and, List.map_cons, List.map_nil, Nat.zero_add, Nat.reduceBEq, ll]
    refine condP_dec (fun hc => ?_) (fun hc => ?_)
    · have hk' : k < ds.length := by omega
      have gg := g1.trans g2
      obtain ⟨u, a1, a2, a3, a4⟩ := Two.load5 (hl.grow gg) (hr.mono fun _ _ h => h.grow gg) hk'
      simp -dsimp only [↓WPd, ↓wpC_block, ↓wpC_cond, WPu, Bool.false_eq_true, Bool.true_eq_false, Bool.not_true, Bool.not_false, if_true, if_false, ite_true, ite_false, Nat.reduceEqDiff, Nat.reduceLT, true_and, List.map_cons, List.map_nil, Nat.zero_add, Nat.reduceBEq, a1, a2, loadN_cells (n := 5) (g2.get o1) rfl]
      refine calledW_of (samedg_ok d σ2 u (p.val e) ds[k] p a3 (G := G) ⟨e, rfl, e2.grow gg, e3⟩ (hs _ (List.getElem_mem hk'))) ?_
      rintro r σ3 ⟨rfl, g3⟩
      have cle : (ds.take k).count p ≤ k := Nat.le_trans List.count_le_length (by simp; omega)
      by_cases hq : ds[k] = p
      · have hc1 : (ds.take (k + 1)).count p = (ds.take k).count p + 1 := by
          rw [List.take_add_one, List.getElem?_eq_getElem hk', List.count_append]; simp [hq]
        simp -dsimp only [↓WPd, ↓wpC_block, ↓wpC_cond, WPu, Bool.false_eq_true, Bool.true_eq_false, Bool.not_true, Bool.not_false, if_true, if_false, ite_true, ite_false, Nat.reduceEqDiff, Nat.reduceLT, true_and, List.map_cons, List.map_nil, Nat.zero_add, Nat.reduceBEq, decide_eq_true hq]
        refine ⟨ds.length - (k + 1), by omega, k + 1, by omega, rfl, g2.trans g3, ?_⟩
        rw [hc1, wrap_i64 (by omega) (by omega), wrap_i64 (by omega) (by omega), Int.natCast_add, Int.natCast_add, Int.natCast_one]
      · have hc1 : (ds.take (k + 1)).count p = (ds.take k).count p := by
          rw [List.take_add_one, List.getElem?_eq_getElem hk', List.count_append]; simp [hq]
        simp -dsimp only [↓WPd, ↓wpC_block, ↓wpC_cond, WPu, Bool.false_eq_true, Bool.true_eq_false, Bool.not_true, Bool.not_false, if_true, if_false, ite_true, ite_false, Nat.reduceEqDiff, Nat.reduceLT, true_and, List.map_cons, List.map_nil, Nat.zero_add, Nat.reduceBEq, decide_eq_false hq]
        refine ⟨ds.length - (k + 1), by omega, k + 1, by omega, rfl, g2.trans g3, ?_⟩
        rw [hc1, wrap_i64 (by omega) (by omega), Int.natCast_add, Int.natCast_one]
    · simp -dsimp only [↓WPd, ↓wpC_block, ↓wpC_cond, WPu, Bool.false_eq_true, Bool.true_eq_false, Bool.not_true, Bool.not_false, if_true, if_false, ite_true, ite_false, Nat.reduceEqDiff, Nat.reduceLT, true_and, List.map_cons, List.map_nil, Nat.zero_add, Nat.reduceBEq]
      have : k = ds.length := by omega
      subst this
      rw [List.take_length]
      exact ⟨rfl, g1.trans g2⟩
end
end Go.Proofs.Ytmocplkpnickgaa.Am

/-
  Net, the document's.
-/
namespace Go.Proofs.Ytmocplkpnickgaa.Am
open Go
set_option linter.unusedVariables false
set_option linter.unusedSimpArgs false
set_option linter.unusedSectionVars false
set_option maxRecDepth 100000

abbrev NoF : Nat → Prop := fun _ => False
/-- a network of the document's -/
structure RNetOk (σ : Store) (id : Nat) (v : AVal) (c0 c1 c2 c3 n : Int) (es : List AVal) (ds : List Dg) : Prop where
  obj : σ[id]? = some (.cells [v, .int .i64 n, .int .i64 c0, .int .i64 c1, .int .i64 c2, .int .i64 c3])
  own : Own σ 5 v es
  rows : Two (DgOk σ NoF) es ds
theorem DgOk.free {σ σ' : Store} {x : AVal} {d : Dg} (h : DgOk σ NoF x d) {M : Nat → Prop} (k : Keeps M σ σ') : DgOk σ' NoF x d := h.keeps k fun _ h => h.elim
theorem rows_free {σ σ' : Store} {es : List AVal} {ds : List Dg} (h : Two (DgOk σ NoF) es ds) {M : Nat → Prop} (k : Keeps M σ σ') : Two (DgOk σ' NoF) es ds := h.mono fun _ _ h => h.free k
theorem RNetOk.grow {σ σ' : Store} {id : Nat} {v : AVal} {c0 c1 c2 c3 n : Int} {es : List AVal} {ds : List Dg} (h : RNetOk σ id v c0 c1 c2 c3 n es ds) (g : Grows σ σ') : RNetOk σ' id v c0 c1 c2 c3 n es ds := ⟨g.get h.obj, h.own.grow g, rows_free h.rows g⟩
theorem RNetOk.keeps {σ σ' : Store} {M : Nat → Prop} {id : Nat} {v : AVal} {c0 c1 c2 c3 n : Int} {es : List AVal} {ds : List Dg} (h : RNetOk σ id v c0 c1 c2 c3 n es ds) (k : Keeps M σ σ') (hid : ¬ M id) (hv : ∀ j, v.sid = some j → ¬ M j) : RNetOk σ' id v c0 c1 c2 c3 n es ds :=
  ⟨k.get h.obj hid, h.own.keeps k hv, rows_free h.rows k⟩
/-- one of its cells is written -/
theorem RNetOk.put {σ : Store} {id : Nat} {v : AVal} {c0 c1 c2 c3 n b0 b1 b2 b3 : Int} {es : List AVal} {ds : List Dg} (h : RNetOk σ id v c0 c1 c2 c3 n es ds) :
    RNetOk (σ.set id (.cells [v, .int .i64 n, .int .i64 b0, .int .i64 b1, .int .i64 b2, .int .i64 b3])) id v b0 b1 b2 b3 n es ds :=
  ⟨get_set h.obj, h.own.keeps (Keeps.set _ _ _) fun i hi hm => h.own.noCell h.obj (by rw [← hm]; exact hi), rows_free h.rows (Keeps.set _ _ _)⟩
theorem NetOk.put {σ : Store} {F : Nat → Prop} {id : Nat} {v : AVal} {c0 c1 c2 c3 n b0 b1 b2 b3 : Int} {es : List AVal} {ds : List Dg} (h : NetOk σ F id v c0 c1 c2 c3 n es ds) :
    NetOk (σ.set id (.cells [.int .i64 b0, .int .i64 b1, .int .i64 b2, .int .i64 b3, .int .i64 n, v])) F id v b0 b1 b2 b3 n es ds :=
  ⟨get_set h.obj, h.own.keeps (Keeps.set _ _ _) fun i hi hm => h.own.noCell h.obj (by rw [← hm]; exact hi), h.rows.mono fun _ _ hh => by
    obtain ⟨b, b1, b2, b3⟩ := hh
    exact ⟨b, b1, b2.keeps (Keeps.set _ _ _) fun j hj hm => b2.noCell h.obj (by rw [← hm]; exact hj), b3⟩⟩

section
variable (d : Nat) (σ : Store)

theorem refnew_ok (n : Int) (hn : 1 ≤ n ∧ n ≤ 4) : Called CN.cfg d 56 [.int .i64 n] σ fun r σ' => ∃ id, r = .tuple [.ptr id 0, .int .i64 0] ∧ RNetOk σ' id .nilslice 0 0 0 0 n [] [] ∧ Grows σ σ' ∧ id = σ.length := by
  refine called_of (fn := CN.a56) rfl (Nat.le_of_ble_eq_true rfl) ?_
  have d1 : decide (n < 1) = false := decide_eq_false (by omega)
  have d2 : decide (n > 4) = false := decide_eq_false (by omega)
  have e1 : fillA [AVal.nilslice, .int .i64 0, .int .i64 0, .int .i64 0, .int .i64 0, .int .i64 0] [(1, 1, .int .i64 n)] = some [AVal.nilslice, .int .i64 n, .int .i64 0, .int .i64 0, .int .i64 0, .int .i64 0] := rfl
  have e2 : [AVal.nilslice, .int .i64 n, .int .i64 0, .int .i64 0, .int .i64 0, .int .i64 0].all AVal.one = true := rfl
  simp only [CN.a56]
  simp -dsimp only [↓WPd, ↓wpC_block, ↓wpC_cond, WPu, Bool.false_eq_true, Bool.true_eq_false, Bool.not_true, Bool.not_false, if_true, if_false, ite_true, ite_false, Nat.reduceEqDiff, Nat.reduceLT, true_and, List.map_cons, List.map_nil, Nat.zero_add, Nat.reduceBEq, d1, d2, e1, e2, cells_agg]
  exact ⟨σ.length, rfl, ⟨by simp, Own.nil _ _, .nil⟩, Grows.app _ _, rfl⟩

theorem netnew_no (n : Int) (hn : ¬ (1 ≤ n ∧ n ≤ 4)) : Called CN.cfg d 43 [.int .i64 n] σ fun r σ' => r = .tuple [.nilptr, .int .i64 2] ∧ σ' = σ := by
  refine called_of (fn := CN.a43) rfl (Nat.le_of_ble_eq_true rfl) ?_
  simp only [CN.a43]
  by_cases h : n < 1
  · simp -dsimp only [↓WPd, ↓wpC_block, ↓wpC_cond, WPu, Bool.false_eq_true, Bool.true_eq_false, Bool.not_true, Bool.not_false, if_true, if_false, ite_true, ite_false, Nat.reduceEqDiff, Nat.reduceLT, true_and, List.map_cons, List.map_nil, Nat.zero_add, Nat.reduceBEq, decide_eq_true h, and_self]
  · have d2 : decide (n > 4) = true := decide_eq_true (by omega)
    simp -dsimp only [↓WPd, ↓wpC_block, ↓wpC_cond, WPu, Bool.false_eq_true, Bool.true_eq_false, Bool.not_true, Bool.not_false, if_true, if_false, ite_true, ite_false, Nat.reduceEqDiff, Nat.reduceLT, true_and, List.map_cons, List.map_nil, Nat.zero_add, Nat.reduceBEq, decide_eq_false h, d2, and_self]
theorem refnew_no (n : Int) (hn : ¬ (1 ≤ n ∧ n ≤ 4)) : Called CN.cfg d 56 [.int .i64 n] σ fun r σ' => r = .tuple [.nilptr, .int .i64 2] ∧ σ' = σ := by
  refine called_of (fn := CN.a56) rfl (Nat.le_of_ble_eq_true rfl) ?_
  simp only [CN.a56]
  by_cases h : n < 1
  · simp -dsimp only [↓WPd, ↓wpC_block, ↓wpC_cond, WPu, Bool.false_eq_true, Bool.true_eq_false, Bool.not_true, Bool.not_false, if_true, if_false, ite_true, ite_false, Nat.reduceEqDiff, Nat.reduceLT, true_and, List.map_cons, List.map_nil, Nat.zero_add, Nat.reduceBEq, decide_eq_true h, and_self]
  · have d2 : decide (n > 4) = true := decide_eq_true (by omega)
    simp -dsimp only [↓WPd, ↓wpC_block, ↓wpC_cond, WPu, Bool.false_eq_true, Bool.true_eq_false, Bool.not_true, Bool.not_false, if_true, if_false, ite_true, ite_false, Nat.reduceEqDiff, Nat.reduceLT, true_and, List.map_cons, List.map_nil, Nat.zero_add, Nat.reduceBEq, decide_eq_false h, d2, and_self]

set_option maxHeartbeats 2000000 in
theorem wrong_ok {F : Nat → Prop} (id : Nat) (v c0 c1 c2 c3 : AVal) (n : Int) (ho : σ[id]? = some (.cells [v, .int .i64 n, c0, c1, c2, c3])) (x : AVal) (p : Dg) (hx : DgOk σ F x p) :
    Called CN.cfg d 97 [.ptr id 0, x] σ fun r σ' => r = .int .i64 (wrongD n p) ∧ Grows σ σ' := by
  obtain ⟨e, rfl, he, -⟩ := hx
  refine called_of (fn := CN.a97) rfl (Nat.le_of_ble_eq_true rfl) ?_
  simp only [CN.a97, Dg.val]
  have lb := he.len
  rw [B_len] at lb
  simp -dsimp only [↓WPd, ↓wpC_cond, WPu, Bool.false_eq_true, Bool.true_eq_false, Bool.not_true, Bool.not_false, if_true, if_false, ite_true, ite_false, Nat.reduceEqDiff, Nat.reduceLT, true_and, List.map_cons, List.map_nil, Nat.zero_add, Nat.reduceBEq, all5 he.one, cells_agg]
  have g0 : Grows σ (σ ++ [AObj.cells [.int .i64 p.f, .int .i64 p.t, .bool p.ack, .int .i64 p.s, e]]) := Grows.app _ _
  have o2 : (σ ++ [AObj.cells [.int .i64 p.f, .int .i64 p.t, .bool p.ack, .int .i64 p.s, e]])[σ.length]? = some (.cells [.int .i64 p.f, .int .i64 p.t, .bool p.ack, .int .i64 p.s, e]) := by simp
  have o3 := g0.get ho
  generalize σ ++ [AObj.cells [.int .i64 p.f, .int .i64 p.t, .bool p.ack, .int .i64 p.s, e]] = σ1 at g0 o2 o3
  have two : wrongD n p = 2 → AVal.int .i64 2 = .int .i64 (wrongD n p) ∧ Grows σ σ1 := fun h => ⟨by rw [h], g0⟩
  by_cases hA : 0 ≤ p.f
  · have dA : decide (p.f < 0) = false := decide_eq_false (by omega)
    by_cases hA' : p.f < n
    · have dA' : decide (p.f ≥ n) = false := decide_eq_false (by omega)
      by_cases hB : 0 ≤ p.t
      · have dB : decide (p.t < 0) = false := decide_eq_false (by omega)
        by_cases hB' : p.t < n
        · have dB' : decide (p.t ≥ n) = false := decide_eq_false (by omega)
          by_cases hC : p.f = p.t
          · have c3 : (p.f == p.t) = true := by simp [hC]
            simp -dsimp only [↓WPd, ↓wpC_block, ↓wpC_cond, WPu, Bool.false_eq_true, Bool.true_eq_false, Bool.not_true, Bool.not_false, if_true, if_false, ite_true, ite_false, Nat.reduceEqDiff, Nat.reduceLT, true_and, List.map_cons, List.map_nil, Nat.zero_add, Nat.reduceBEq, faddr_ptr, load_cells o2, load_cells o3, List.getElem?_cons_zero, List.getElem?_cons_succ, dA, dA', dB, dB', c3]
            exact two (by unfold wrongD; rw [if_neg]; simp [hC])
          · have c3 : (p.f == p.t) = false := by simp [hC]
            by_cases hD : p.s < 0
            · simp -dsimp only [↓WPd, ↓wpC_block, ↓wpC_cond, WPu, Bool.false_eq_true, Bool.true_eq_false, Bool.not_true, Bool.not_false, if_true, if_false, ite_true, ite_false, Nat.reduceEqDiff, Nat.reduceLT, true_and, List.map_cons, List.map_nil, Nat.zero_add, Nat.reduceBEq, faddr_ptr, load_cells o2, load_cells o3, List.getElem?_cons_zero, List.getElem?_cons_succ, dA, dA', dB, dB', c3, decide_eq_true hD]
              exact two (by unfold wrongD; rw [if_neg]; simp [hD])
            · have hw : wrongD n p = (if 65536 < p.bs.length then 5 else if p.ack = true ∧ 0 < p.bs.length then 6 else 0) := by unfold wrongD; rw [if_pos ⟨⟨hA, hA'⟩, ⟨hB, hB'⟩, hC, hD⟩]
              by_cases hE : 65536 < p.bs.length
              · have d5 : decide (((p.bs.length : Nat) : Int) > 65536) = true := decide_eq_true (by omega)
                simp -dsimp only [↓WPd, ↓wpC_block, ↓wpC_cond, WPu, Bool.false_eq_true, Bool.true_eq_false, Bool.not_true, Bool.not_false, if_true, if_false, ite_true, ite_false, Nat.reduceEqDiff, Nat.reduceLT, true_and, List.map_cons, List.map_nil, Nat.zero_add, Nat.reduceBEq, faddr_ptr, load_cells o2, load_cells o3, List.getElem?_cons_zero, List.getElem?_cons_succ, dA, dA', dB, dB', c3, decide_eq_false hD, lb, d5]
                exact ⟨by rw [hw, if_pos hE], g0⟩
              · have d5 : decide (((p.bs.length : Nat) : Int) > 65536) = false := decide_eq_false (by omega)
                cases ha : p.ack with
                | false =>
                  simp -dsimp only [↓WPd, ↓wpC_block, ↓wpC_cond, WPu, Bool.false_eq_true, Bool.true_eq_false, Bool.not_true, Bool.not_false, if_true, if_false, ite_true, ite_false, Nat.reduceEqDiff, Nat.reduceLT, true_and, List.map_cons, List.map_nil, Nat.zero_add, Nat.reduceBEq, faddr_ptr, load_cells o2, load_cells o3, List.getElem?_cons_zero, List.getElem?_cons_succ, dA, dA', dB, dB', c3, decide_eq_false hD, lb, d5, ha]
                  exact ⟨by rw [hw, if_neg hE, if_neg (by simp [ha])], g0⟩
                | true =>
                  by_cases hG : 0 < p.bs.length
                  · have d6 : decide (((p.bs.length : Nat) : Int) > 0) = true := decide_eq_true (by omega)
                    simp -dsimp only [↓WPd, ↓wpC_block, ↓wpC_cond, WPu, Bool.false_eq_true, Bool.true_eq_false, Bool.not_true, Bool.not_false, if_true, if_false, ite_true, ite_false, Nat.reduceEqDiff, Nat.reduceLT, true_and, List.map_cons, List.map_nil, Nat.zero_add, Nat.reduceBEq, faddr_ptr, load_cells o2, load_cells o3, List.getElem?_cons_zero, List.getElem?_cons_succ, dA, dA', dB, dB', c3, decide_eq_false hD, lb, d5, ha, d6]
                    exact ⟨by rw [hw, if_neg hE, if_pos ⟨ha, hG⟩], g0⟩
                  · have d6 : decide (((p.bs.length : Nat) : Int) > 0) = false := decide_eq_false (by omega)
                    simp -dsimp only [↓WPd, ↓wpC_block, ↓wpC_cond, WPu, Bool.false_eq_true, Bool.true_eq_false, Bool.not_true, Bool.not_false, if_true, if_false, ite_true, ite_false, Nat.reduceEqDiff, Nat.reduceLT, true_and, List.map_cons, List.map_nil, Nat.zero_add, Nat.reduceBEq, faddr_ptr, load_cells o2, load_cells o3, List.getElem?_cons_zero, List.getElem?_cons_succ, dA, dA', dB, dB', c3, decide_eq_false hD, lb, d5, ha, d6]
                    exact ⟨by rw [hw, if_neg hE, if_neg (by simp [hG])], g0⟩
        · have dB' : decide (p.t ≥ n) = true := decide_eq_true (by omega)
          simp -dsimp only [↓WPd, ↓wpC_block, ↓wpC_cond, WPu, Bool.false_eq_true, Bool.true_eq_false, Bool.not_true, Bool.not_false, if_true, if_false, ite_true, ite_false, Nat.reduceEqDiff, Nat.reduceLT, true_and, List.map_cons, List.map_nil, Nat.zero_add, Nat.reduceBEq, faddr_ptr, load_cells o2, load_cells o3, List.getElem?_cons_zero, List.getElem?_cons_succ, dA, dA', dB, dB']
          exact two (by unfold wrongD; rw [if_neg]; exact fun h => hB' h.2.1.2)
      · have dB : decide (p.t < 0) = true := decide_eq_true (by omega)
        simp -dsimp only [↓WPd, ↓wpC_block, ↓wpC_cond, WPu, Bool.false_eq_true, Bool.true_eq_false, Bool.not_true, Bool.not_false, if_true, if_false, ite_true, ite_false, Nat.reduceEqDiff, Nat.reduceLT, true_and, List.map_cons, List.map_nil, Nat.zero_add, Nat.reduceBEq, faddr_ptr, load_cells o2, load_cells o3, List.getElem?_cons_zero, List.getElem?_cons_succ, dA, dA', dB]
        exact two (by unfold wrongD; rw [if_neg]; exact fun h => hB h.2.1.1)
    · have dA' : decide (p.f ≥ n) = true := decide_eq_true (by omega)
      simp -dsimp only [↓WPd, ↓wpC_block, ↓wpC_cond, WPu, Bool.false_eq_true, Bool.true_eq_false, Bool.not_true, Bool.not_false, if_true, if_false, ite_true, ite_false, Nat.reduceEqDiff, Nat.reduceLT, true_and, List.map_cons, List.map_nil, Nat.zero_add, Nat.reduceBEq, faddr_ptr, load_cells o2, load_cells o3, List.getElem?_cons_zero, List.getElem?_cons_succ, dA, dA']
      exact two (by unfold wrongD; rw [if_neg]; exact fun h => hA' h.1.2)
  · have dA : decide (p.f < 0) = true := decide_eq_true (by omega)
    simp -dsimp only [↓WPd, ↓wpC_block, ↓wpC_cond, WPu, Bool.false_eq_true, Bool.true_eq_false, Bool.not_true, Bool.not_false, if_true, if_false, ite_true, ite_false, Nat.reduceEqDiff, Nat.reduceLT, true_and, List.map_cons, List.map_nil, Nat.zero_add, Nat.reduceBEq, faddr_ptr, load_cells o2, load_cells o3, List.getElem?_cons_zero, List.getElem?_cons_succ, dA]
    exact two (by unfold wrongD; rw [if_neg]; exact fun h => hA h.1.1)
end

section
variable (d : Nat) (σ : Store) (id : Nat) (v : AVal) (c0 c1 c2 c3 n : Int) (es : List AVal) (ds : List Dg) (h : RNetOk σ id v c0 c1 c2 c3 n es ds) (hl : ds.length < 2 ^ 39)
include h hl

theorem refsend_ok (l : AVal) (fs : List AVal) (xs : List Dg) (hL : SlOf [] 5 l fs) (hx : Two (DgOk [] NoF) fs xs) (hn : xs.length < 2 ^ 39) :
    Called CN.cfg d 83 [.ptr id 0, l] σ fun r σ' => r = .int .i64 (sendE n xs) ∧
      if sendE n xs = 0 then Keeps (fun i => i = id ∨ v.sid = some i) σ σ' ∧ ∃ v' es', RNetOk σ' id v' (IntKind.i64.wrap (c0 + xs.length)) c1 c2 c3 n es' (ds ++ xs) ∧ ∀ j, v'.sid = some j → v.sid = some j ∨ σ.length ≤ j
      else Grows σ σ' := by
  refine called_of (fn := CN.a83) rfl (Nat.le_of_ble_eq_true rfl) ?_
  have ll := hL.len
  rw [hx.len] at ll
  simp only [CN.a83]
  simp -dsimp only [↓WPd, ↓wpC_block, ↓wpC_cond, WPu, Bool.false_eq_true, Bool.true_eq_false, Bool.not_true, Bool.not_false, if_true, if_false, ite_true, ite_false, Nat.reduceEqDiff, Nat.reduceLT, true_and, List.map_cons, List.map_nil, Nat.zero_add, Nat.reduceBEq, isnil_ptr, ll]
  refine loop_rule (fun m vs σ' => ∃ k : Nat, k ≤ xs.length ∧ m = xs.length - k ∧ Grows σ σ' ∧ sendE n xs = sendE n (xs.drop k) ∧ vs = [.ptr id 0, l, .int .i64 k]) xs.length
    ⟨0, Nat.zero_le _, rfl, Keeps.refl _ _, rfl, ?_⟩ ?_
  · simp -dsimp only [↓WPd, ↓wpC_block, ↓wpC_cond, WPu, Bool.false_eq_true, Bool.true_eq_false, Bool.not_true, Bool.not_false, if_true, if_false, ite_true, ite_false, Nat.reduceEqDiff, Nat.reduceLT, true_and, List.map_cons, List.map_nil, Nat.zero_add, Nat.reduceBEq]; rfl
  · rintro m vs σ1 ⟨k, hk, rfl, g, he, rfl⟩
    simp -dsimp only [↓WPd, ↓wpC_block, ↓wpC_cond, WPu, Bool.false_eq_true, Bool.true_eq_false, Bool.not_true, Bool.not_false, if_true, if_false, ite_true, ite_false, Nat.reduceEqDiff, Nat.reduceLT, true_and, List.map_cons, List.map_nil, Nat.zero_add, Nat.reduceBEq, ll]
    refine condP_dec (fun hc => ?_) (fun hc => ?_)
    · have hk' : k < xs.length := by omega
      obtain ⟨u, a1, a2, a3, a4⟩ := Two.load5 (hL.grow (grows_nil σ1)) (rows_free hx (grows_nil σ1)) hk'
      rw [sendE_drop hk'] at he
      simp -dsimp only [↓WPd, ↓wpC_block, ↓wpC_cond, WPu, Bool.false_eq_true, Bool.true_eq_false, Bool.not_true, Bool.not_false, if_true, if_false, ite_true, ite_false, Nat.reduceEqDiff, Nat.reduceLT, true_and, List.map_cons, List.map_nil, Nat.zero_add, Nat.reduceBEq, a1, a2]
      refine calledW_of (wrong_ok d σ1 id v _ _ _ _ n (g.get h.obj) u xs[k] a3) ?_
      rintro r σ2 ⟨rfl, g2⟩
      by_cases hw : wrongD n xs[k] = 0
      · rw [if_pos hw] at he
        have cw : (wrongD n xs[k] != 0) = false := by simp [hw]
        simp -dsimp only [↓WPd, ↓wpC_block, ↓wpC_cond, WPu, Bool.false_eq_true, Bool.true_eq_false, Bool.not_true, Bool.not_false, if_true, if_false, ite_true, ite_false, Nat.reduceEqDiff, Nat.reduceLT, true_and, List.map_cons, List.map_nil, Nat.zero_add, Nat.reduceBEq, cw]
        refine ⟨xs.length - (k + 1), by omega, k + 1, by omega, rfl, g.trans g2, he, ?_⟩
        rw [wrap_i64 (by omega) (by omega), Int.natCast_add, Int.natCast_one]
      · rw [if_neg hw] at he
        have cw : (wrongD n xs[k] != 0) = true := by simp [hw]
        simp -dsimp only [↓WPd, ↓wpC_block, ↓wpC_cond, WPu, Bool.false_eq_true, Bool.true_eq_false, Bool.not_true, Bool.not_false, if_true, if_false, ite_true, ite_false, Nat.reduceEqDiff, Nat.reduceLT, true_and, List.map_cons, List.map_nil, Nat.zero_add, Nat.reduceBEq, cw]
        rw [he, if_neg hw]
        exact ⟨rfl, g.trans g2⟩
    · have : k = xs.length := by omega
      subst this
      rw [List.drop_length] at he
      have h0 : sendE n xs = 0 := he
      have N1 := h.grow g
      have lr := h.rows.len
      have lf := hx.len
      obtain ⟨w, σ4, p1, p2, p3, p4, _⟩ := N1.own.append fs 56 (by omega)
      have o4 := p3.get N1.obj (N1.own.noCell N1.obj)
      have stw := store_cells o4 (off := 0) (by simp) (v := w) p2.one
      simp only [List.set_cons_zero, List.set_cons_succ] at stw
      have N4 : RNetOk (σ4.set id (.cells [w, .int .i64 n, .int .i64 c0, .int .i64 c1, .int .i64 c2, .int .i64 c3])) id w c0 c1 c2 c3 n (es ++ fs) (ds ++ xs) :=
        ⟨get_set o4, p2.keeps (Keeps.set _ _ _) fun i hi hm => p2.noCell o4 (by rw [← hm]; exact hi), rows_free ((rows_free N1.rows p3).append (rows_free hx (grows_nil σ4))) (Keeps.set _ _ _)⟩
      have k4 := Keeps.set σ4 id (.cells [w, .int .i64 n, .int .i64 c0, .int .i64 c1, .int .i64 c2, .int .i64 c3])
      generalize σ4.set id (.cells [w, .int .i64 n, .int .i64 c0, .int .i64 c1, .int .i64 c2, .int .i64 c3]) = σ5 at stw N4 k4
      have st5 := store_cells N4.obj (off := 2) (by simp) (v := .int .i64 (IntKind.i64.wrap (c0 + xs.length))) rfl
      simp only [List.set_cons_zero, List.set_cons_succ] at st5
      have aa : aaddrV 4 1 (.ptr id 2) (.int .i64 0) = some (.ptr id 2) := rfl
      simp -dsimp only [↓WPd, ↓wpC_block, ↓wpC_cond, WPu, Bool.false_eq_true, Bool.true_eq_false, Bool.not_true, Bool.not_false, if_true, if_false, ite_true, ite_false, Nat.reduceEqDiff, Nat.reduceLT, true_and, List.map_cons, List.map_nil, Nat.zero_add, Nat.reduceBEq, faddr_ptr, load_cells N1.obj, List.getElem?_cons_zero, List.getElem?_cons_succ, (hL.grow (grows_nil σ1)).els, p1, stw, aa, load_cells N4.obj, ll, st5]
      rw [if_pos h0, h0]
      refine ⟨rfl, ?_, w, es ++ fs, N4.put, fun j hj => ?_⟩
      · refine Keeps.trans (Keeps.trans (Keeps.trans (Grows.any g) p3 fun i hi hm => .inr hm) k4 fun i hi hm => .inl hm) (Keeps.set _ _ _) fun i hi hm => .inl hm
      · rcases p4 j hj with h | h
        · exact .inl h
        · have := g.1; exact .inr (by omega)

theorem refat_ok (k : Int) :
    Called CN.cfg d 98 [.ptr id 0, .int .i64 k] σ fun r σ' => r = .int .i64 (if 0 ≤ k ∧ k < ds.length then 0 else 4) ∧ σ' = σ := by
  refine called_of (fn := CN.a98) rfl (Nat.le_of_ble_eq_true rfl) ?_
  have ll := h.own.sl.len
  rw [h.rows.len] at ll
  simp only [CN.a98]
  by_cases h1 : k < 0
  · rw [if_neg (by omega)]
    simp -dsimp only [↓WPd, ↓wpC_block, ↓wpC_cond, WPu, Bool.false_eq_true, Bool.true_eq_false, Bool.not_true, Bool.not_false, if_true, if_false, ite_true, ite_false, Nat.reduceEqDiff, Nat.reduceLT, true_and, List.map_cons, List.map_nil, Nat.zero_add, Nat.reduceBEq, isnil_ptr, decide_eq_true h1, and_self]
  · by_cases h2 : k < ds.length
    · have d2 : decide (k ≥ (ds.length : Int)) = false := decide_eq_false (by omega)
      rw [if_pos (by omega)]
      simp -dsimp only [↓WPd, ↓wpC_block, ↓wpC_cond, WPu, Bool.false_eq_true, Bool.true_eq_false, Bool.not_true, Bool.not_false, if_true, if_false, ite_true, ite_false, Nat.reduceEqDiff, Nat.reduceLT, true_and, List.map_cons, List.map_nil, Nat.zero_add, Nat.reduceBEq, isnil_ptr, decide_eq_false h1, faddr_ptr, load_cells h.obj, List.getElem?_cons_zero, List.getElem?_cons_succ, ll, d2, and_self]
    · have d2 : decide (k ≥ (ds.length : Int)) = true := decide_eq_true (by omega)
      rw [if_neg (by omega)]
      simp -dsimp only [↓WPd, ↓wpC_block, ↓wpC_cond, WPu, Bool.false_eq_true, Bool.true_eq_false, Bool.not_true, Bool.not_false, if_true, if_false, ite_true, ite_false, Nat.reduceEqDiff, Nat.reduceLT, true_and, List.map_cons, List.map_nil, Nat.zero_add, Nat.reduceBEq, isnil_ptr, decide_eq_false h1, faddr_ptr, load_cells h.obj, List.getElem?_cons_zero, List.getElem?_cons_succ, ll, d2, and_self]

set_option maxHeartbeats 1000000 in
theorem refout1_ok (k : Nat) (hk : k < ds.length) : Called CN.cfg d 99 [.ptr id 0, .int .i64 k, .int .i64 1] σ fun r σ' => DgOk σ' NoF r ds[k] ∧ Keeps (fun i => i = id) σ σ' ∧ ∃ v' es', RNetOk σ' id v' c0 (IntKind.i64.wrap (c1 + 1)) c2 c3 n es' (outL ds k) ∧ Fresh σ.length v' := by
  refine called_of (fn := CN.a99) rfl (Nat.le_of_ble_eq_true rfl) ?_
  have lr := h.rows.len
  obtain ⟨u, u1, u2⟩ := h.rows.get hk
  obtain ⟨e, rfl, e2, e3⟩ := cp u2
  have hi : k < es.length := by omega
  have eu : es[k] = ds[k].val e := by rw [List.getElem?_eq_getElem hi] at u1; exact Option.some.inj u1
  have g1 : Grows σ (σ ++ [AObj.cells [.int .i64 0, .int .i64 0, .bool false, .int .i64 0, .nilslice]]) := Grows.app _ _
  have o1 : (σ ++ [AObj.cells [.int .i64 0, .int .i64 0, .bool false, .int .i64 0, .nilslice]])[σ.length]? = some (.cells [.int .i64 0, .int .i64 0, .bool false, .int .i64 0, .nilslice]) := by simp
  simp only [CN.a99]
  simp -dsimp only [↓WPd, ↓wpC_block, ↓wpC_cond, WPu, Bool.false_eq_true, Bool.true_eq_false, Bool.not_true, Bool.not_false, if_true, if_false, ite_true, ite_false, Nat.reduceEqDiff, Nat.reduceLT, true_and, List.map_cons, List.map_nil, Nat.zero_add, Nat.reduceBEq]
  have l1 : (σ ++ [AObj.cells [.int .i64 0, .int .i64 0, .bool false, .int .i64 0, .nilslice]]).length = σ.length + 1 := by simp
  generalize σ ++ [AObj.cells [.int .i64 0, .int .i64 0, .bool false, .int .i64 0, .nilslice]] = σ1 at g1 o1 l1
  have N1 := h.grow g1
  have ld := N1.own.sl.loadA hi (by rw [eu]; rfl)
  have ld' : loadV σ1 5 true (addrOf 5 v k) = some (.agg [.int .i64 ds[k].f, .int .i64 ds[k].t, .bool ds[k].ack, .int .i64 ds[k].s, e]) := ld
  have st := new_store (σ := σ1) (n := 5) (zs := [.int .i64 0, .int .i64 0, .bool false, .int .i64 0, .nilslice]) rfl (cs := [.int .i64 ds[k].f, .int .i64 ds[k].t, .bool ds[k].ack, .int .i64 ds[k].s, e]) rfl (all5 e2.one _ _ _ _)
  simp -dsimp only [↓WPd, ↓wpC_block, ↓wpC_cond, WPu, Bool.false_eq_true, Bool.true_eq_false, Bool.not_true, Bool.not_false, if_true, if_false, ite_true, ite_false, Nat.reduceEqDiff, Nat.reduceLT, true_and, List.map_cons, List.map_nil, Nat.zero_add, Nat.reduceBEq, faddr_ptr, load_cells N1.obj, List.getElem?_cons_zero, List.getElem?_cons_succ, N1.own.sl.iaddr hi, ld', st]
  have g2 : Grows σ1 (σ1 ++ [AObj.cells [.int .i64 ds[k].f, .int .i64 ds[k].t, .bool ds[k].ack, .int .i64 ds[k].s, e]]) := Grows.app _ _
  have o2 : (σ1 ++ [AObj.cells [.int .i64 ds[k].f, .int .i64 ds[k].t, .bool ds[k].ack, .int .i64 ds[k].s, e]])[σ1.length]? = some (.cells [.int .i64 ds[k].f, .int .i64 ds[k].t, .bool ds[k].ack, .int .i64 ds[k].s, e]) := by simp
  generalize hj : σ1.length = j at o2
  generalize σ1 ++ [AObj.cells [.int .i64 ds[k].f, .int .i64 ds[k].t, .bool ds[k].ack, .int .i64 ds[k].s, e]] = σ2 at g2 o2
  have N2 := N1.grow g2
  have idlt := (List.getElem?_eq_some_iff.1 h.obj).1
  obtain ⟨a, a1, a2, a3⟩ := N2.own.sl.sub_hi (hi := k) (by omega) .i64
  have e0 : fillL 5 true (List.replicate 0 (zel [AVal.int .i64 0, .int .i64 0, .bool false, .int .i64 0, .nilslice] true)) [] = some [] := rfl
  have ob : Own σ2 5 (.fslice (AVal.tagL []) true 5 []) [] := Own.lit _ _ _ _
  have lt : (es.take k).length = k := by simp; omega
  obtain ⟨x, σ3, p1, p2, p3, p4, _⟩ := ob.append (es.take k) 56 (by rw [lt]; simp; omega)
  rw [List.nil_append] at p2
  have g3 : Grows σ2 σ3 := p3.mono fun i hi hm => by cases hm
  have N3 := N2.grow g3
  obtain ⟨b, b1, b2, b3⟩ := N3.own.sl.sub_lo (lo := k + 1) (by omega) .i64
  have w : IntKind.i64.wrap ((k : Int) + 1) = ((k + 1 : Nat) : Int) := by rw [wrap_i64 (by omega) (by omega), Int.natCast_add, Int.natCast_one]
  obtain ⟨y, σ4, q1, q2, q3, q4, _⟩ := p2.append (es.drop (k + 1)) 56 (by rw [lt]; simp; omega)
  have xf : ∀ i, x.sid = some i → σ2.length ≤ i := fun i hi => by
    rcases p4 i hi with hh | hh
    · cases hh
    · omega
  have g24 : Grows σ2 σ4 := Keeps.trans g3 q3 fun i hi hm => by have := xf i hm; omega
  have N4 := N2.grow g24
  have stn := store_cells N4.obj (off := 0) (by simp) (v := y) q2.one
  simp only [List.set_cons_zero, List.set_cons_succ] at stn
  refine drawnP_of rfl ?_
  simp -dsimp only [↓WPd, ↓wpC_block, ↓wpC_cond, WPu, Bool.false_eq_true, Bool.true_eq_false, Bool.not_true, Bool.not_false, if_true, if_false, ite_true, ite_false, Nat.reduceEqDiff, Nat.reduceLT, true_and, List.map_cons, List.map_nil, Nat.zero_add, Nat.reduceBEq, ↓WPed, WPeu, Nat.reduceAdd, and_self, e0, faddr_ptr, load_cells N2.obj, load_cells N3.obj, List.getElem?_cons_zero, List.getElem?_cons_succ, oev, a1, a2.els, p1, w, b1, b2.els, q1, stn]
  have yf : ∀ i, y.sid = some i → σ2.length ≤ i := fun i hi => by
    rcases q4 i hi with hh | hh
    · exact xf i hh
    · have := g3.1; omega
  have k5 := Keeps.set σ4 id (.cells [y, .int .i64 n, .int .i64 c0, .int .i64 c1, .int .i64 c2, .int .i64 c3])
  have rows5 : Two (DgOk (σ4.set id (.cells [y, .int .i64 n, .int .i64 c0, .int .i64 c1, .int .i64 c2, .int .i64 c3])) NoF) es ds := rows_free N4.rows k5
  have N5 : RNetOk (σ4.set id (.cells [y, .int .i64 n, .int .i64 c0, .int .i64 c1, .int .i64 c2, .int .i64 c3])) id y c0 c1 c2 c3 n (es.take k ++ es.drop (k + 1)) (outL ds k) :=
    ⟨get_set N4.obj, q2.keeps k5 fun i hi hm => q2.noCell N4.obj (by rw [← hm]; exact hi), (rows5.take k).append (rows5.drop (k + 1))⟩
  have o15 := k5.get (g24.get (g2.get o1)) (by omega)
  have o25 := k5.get (g24.get o2) (by omega)
  have gk : Keeps (fun i => i = id) σ (σ4.set id (.cells [y, .int .i64 n, .int .i64 c0, .int .i64 c1, .int .i64 c2, .int .i64 c3])) := Keeps.trans (Grows.any (g1.trans (g2.trans g24))) k5 fun i hi hm => hm
  generalize σ4.set id (.cells [y, .int .i64 n, .int .i64 c0, .int .i64 c1, .int .i64 c2, .int .i64 c3]) = σ5 at stn k5 rows5 N5 o15 o25 gk
  have aa : aaddrV 4 1 (.ptr id 2) (.int .i64 1) = some (.ptr id 3) := rfl
  have st6 := store_cells N5.obj (off := 3) (by simp) (v := .int .i64 (IntKind.i64.wrap (c1 + 1))) rfl
  simp only [List.set_cons_zero, List.set_cons_succ] at st6
  have N6 : RNetOk (σ5.set id (.cells [y, .int .i64 n, .int .i64 c0, .int .i64 (IntKind.i64.wrap (c1 + 1)), .int .i64 c2, .int .i64 c3])) id y c0 (IntKind.i64.wrap (c1 + 1)) c2 c3 n (es.take k ++ es.drop (k + 1)) (outL ds k) := N5.put
  have k6 := Keeps.set σ5 id (.cells [y, .int .i64 n, .int .i64 c0, .int .i64 (IntKind.i64.wrap (c1 + 1)), .int .i64 c2, .int .i64 c3])
  have o16 := k6.get o15 (by omega)
  have o26 := k6.get o25 (by omega)
  have ea : loadV σ5 1 false (.ptr id 3) = some (.int .i64 c1) := by rw [load_cells N5.obj]; rfl
  simp -dsimp only [↓WPd, ↓wpC_block, ↓wpC_cond, WPu, Bool.false_eq_true, Bool.true_eq_false, Bool.not_true, Bool.not_false, if_true, if_false, ite_true, ite_false, Nat.reduceEqDiff, Nat.reduceLT, true_and, List.map_cons, List.map_nil, Nat.zero_add, Nat.reduceBEq, faddr_ptr, aa, ea, st6]
  generalize σ5.set id (.cells [y, .int .i64 n, .int .i64 c0, .int .i64 (IntKind.i64.wrap (c1 + 1)), .int .i64 c2, .int .i64 c3]) = σ6 at k6 N6 o16 o26
  have st7 := storeN_cells (n := 5) o16 rfl (cs' := [.int .i64 ds[k].f, .int .i64 ds[k].t, .bool ds[k].ack, .int .i64 ds[k].s, e]) rfl (all5 e2.one _ _ _ _)
  have o7 := get_set (o' := .cells [.int .i64 ds[k].f, .int .i64 ds[k].t, .bool ds[k].ack, .int .i64 ds[k].s, e]) o16
  simp -dsimp only [↓WPd, ↓wpC_block, ↓wpC_cond, WPu, Bool.false_eq_true, Bool.true_eq_false, Bool.not_true, Bool.not_false, if_true, if_false, ite_true, ite_false, Nat.reduceEqDiff, Nat.reduceLT, true_and, List.map_cons, List.map_nil, Nat.zero_add, Nat.reduceBEq, loadN_cells (n := 5) o26 rfl, st7, loadN_cells (n := 5) o7 rfl]
  have k7 := Keeps.set σ6 σ.length (.cells [.int .i64 ds[k].f, .int .i64 ds[k].t, .bool ds[k].ack, .int .i64 ds[k].s, e])
  have l12 := g2.1
  refine ⟨(rows_free (rows_free rows5 k6) k7).at u1 (List.getElem?_eq_getElem hk), ?_, y, _, N6.keeps k7 (by omega) (fun j hj hm => by have := yf j hj; omega), fun j hj => by have := yf j hj; omega⟩
  exact Keeps.trans (Keeps.trans gk k6 fun i hi hm => hm) k7 fun i hi hm => by omega
set_option maxHeartbeats 1000000 in
theorem refout2_ok (k : Nat) (hk : k < ds.length) : Called CN.cfg d 99 [.ptr id 0, .int .i64 k, .int .i64 2] σ fun r σ' => DgOk σ' NoF r ds[k] ∧ Keeps (fun i => i = id) σ σ' ∧ ∃ v' es', RNetOk σ' id v' c0 c1 (IntKind.i64.wrap (c2 + 1)) c3 n es' (outL ds k) ∧ Fresh σ.length v' := by
  refine called_of (fn := CN.a99) rfl (Nat.le_of_ble_eq_true rfl) ?_
  have lr := h.rows.len
  obtain ⟨u, u1, u2⟩ := h.rows.get hk
  obtain ⟨e, rfl, e2, e3⟩ := cp u2
  have hi : k < es.length := by omega
  have eu : es[k] = ds[k].val e := by rw [List.getElem?_eq_getElem hi] at u1; exact Option.some.inj u1
  have g1 : Grows σ (σ ++ [AObj.cells [.int .i64 0, .int .i64 0, .bool false, .int .i64 0, .nilslice]]) := Grows.app _ _
  have o1 : (σ ++ [AObj.cells [.int .i64 0, .int .i64 0, .bool false, .int .i64 0, .nilslice]])[σ.length]? = some (.cells [.int .i64 0, .int .i64 0, .bool false, .int .i64 0, .nilslice]) := by simp
  simp only [CN.a99]
  simp -dsimp only [↓WPd, ↓wpC_block, ↓wpC_cond, WPu, Bool.false_eq_true, Bool.true_eq_false, Bool.not_true, Bool.not_false, if_true, if_false, ite_true, ite_false, Nat.reduceEqDiff, Nat.reduceLT, true_and, List.map_cons, List.map_nil, Nat.zero_add, Nat.reduceBEq]
  have l1 : (σ ++ [AObj.cells [.int .i64 0, .int .i64 0, .bool false, .int .i64 0, .nilslice]]).length = σ.length + 1 := by simp
  generalize σ ++ [AObj.cells [.int .i64 0, .int .i64 0, .bool false, .int .i64 0, .nilslice]] = σ1 at g1 o1 l1
  have N1 := h.grow g1
  have ld := N1.own.sl.loadA hi (by rw [eu]; rfl)
  have ld' : loadV σ1 5 true (addrOf 5 v k) = some (.agg [.int .i64 ds[k].f, .int .i64 ds[k].t, .bool ds[k].ack, .int .i64 ds[k].s, e]) := ld
  have st := new_store (σ := σ1) (n := 5) (zs := [.int .i64 0, .int .i64 0, .bool false, .int .i64 0, .nilslice]) rfl (cs := [.int .i64 ds[k].f, .int .i64 ds[k].t, .bool ds[k].ack, .int .i64 ds[k].s, e]) rfl (all5 e2.one _ _ _ _)
  simp -dsimp only [↓WPd, ↓wpC_block, ↓wpC_cond, WPu, Bool.false_eq_true, Bool.true_eq_false, Bool.not_true, Bool.not_false, if_true, if_false, ite_true, ite_false, Nat.reduceEqDiff, Nat.reduceLT, true_and, List.map_cons, List.map_nil, Nat.zero_add, Nat.reduceBEq, faddr_ptr, load_cells N1.obj, List.getElem?_cons_zero, List.getElem?_cons_succ, N1.own.sl.iaddr hi, ld', st]
  have g2 : Grows σ1 (σ1 ++ [AObj.cells [.int .i64 ds[k].f, .int .i64 ds[k].t, .bool ds[k].ack, .int .i64 ds[k].s, e]]) := Grows.app _ _
  have o2 : (σ1 ++ [AObj.cells [.int .i64 ds[k].f, .int .i64 ds[k].t, .bool ds[k].ack, .int .i64 ds[k].s, e]])[σ1.length]? = some (.cells [.int .i64 ds[k].f, .int .i64 ds[k].t, .bool ds[k].ack, .int .i64 ds[k].s, e]) := by simp
  generalize hj : σ1.length = j at o2
  generalize σ1 ++ [AObj.cells [.int .i64 ds[k].f, .int .i64 ds[k].t, .bool ds[k].ack, .int .i64 ds[k].s, e]] = σ2 at g2 o2
  have N2 := N1.grow g2
  have idlt := (List.getElem?_eq_some_iff.1 h.obj).1
  obtain ⟨a, a1, a2, a3⟩ := N2.own.sl.sub_hi (hi := k) (by omega) .i64
  have e0 : fillL 5 true (List.replicate 0 (zel [AVal.int .i64 0, .int .i64 0, .bool false, .int .i64 0, .nilslice] true)) [] = some [] := rfl
  have ob : Own σ2 5 (.fslice (AVal.tagL []) true 5 []) [] := Own.lit _ _ _ _
  have lt : (es.take k).length = k := by simp; omega
  obtain ⟨x, σ3, p1, p2, p3, p4, _⟩ := ob.append (es.take k) 56 (by rw [lt]; simp; omega)
  rw [List.nil_append] at p2
  have g3 : Grows σ2 σ3 := p3.mono fun i hi hm => by cases hm
  have N3 := N2.grow g3
  obtain ⟨b, b1, b2, b3⟩ := N3.own.sl.sub_lo (lo := k + 1) (by omega) .i64
  have w : IntKind.i64.wrap ((k : Int) + 1) = ((k + 1 : Nat) : Int) := by rw [wrap_i64 (by omega) (by omega), Int.natCast_add, Int.natCast_one]
  obtain ⟨y, σ4, q1, q2, q3, q4, _⟩ := p2.append (es.drop (k + 1)) 56 (by rw [lt]; simp; omega)
  have xf : ∀ i, x.sid = some i → σ2.length ≤ i := fun i hi => by
    rcases p4 i hi with hh | hh
    · cases hh
    · omega
  have g24 : Grows σ2 σ4 := Keeps.trans g3 q3 fun i hi hm => by have := xf i hm; omega
  have N4 := N2.grow g24
  have stn := store_cells N4.obj (off := 0) (by simp) (v := y) q2.one
  simp only [List.set_cons_zero, List.set_cons_succ] at stn
  refine drawnP_of rfl ?_
  simp -dsimp only [↓WPd, ↓wpC_block, ↓wpC_cond, WPu, Bool.false_eq_true, Bool.true_eq_false, Bool.not_true, Bool.not_false, if_true, if_false, ite_true, ite_false, Nat.reduceEqDiff, Nat.reduceLT, true_and, List.map_cons, List.map_nil, Nat.zero_add, Nat.reduceBEq, ↓WPed, WPeu, Nat.reduceAdd, and_self, e0, faddr_ptr, load_cells N2.obj, load_cells N3.obj, List.getElem?_cons_zero, List.getElem?_cons_succ, oev, a1, a2.els, p1, w, b1, b2.els, q1, stn]
  have yf : ∀ i, y.sid = some i → σ2.length ≤ i := fun i hi => by
    rcases q4 i hi with hh | hh
    · exact xf i hh
    · have := g3.1; omega
  have k5 := Keeps.set σ4 id (.cells [y, .int .i64 n, .int .i64 c0, .int .i64 c1, .int .i64 c2, .int .i64 c3])
  have rows5 : Two (DgOk (σ4.set id (.cells [y, .int .i64 n, .int .i64 c0, .int .i64 c1, .int .i64 c2, .int .i64 c3])) NoF) es ds := rows_free N4.rows k5
  have N5 : RNetOk (σ4.set id (.cells [y, .int .i64 n, .int .i64 c0, .int .i64 c1, .int .i64 c2, .int .i64 c3])) id y c0 c1 c2 c3 n (es.take k ++ es.drop (k + 1)) (outL ds k) :=
    ⟨get_set N4.obj, q2.keeps k5 fun i hi hm => q2.noCell N4.obj (by rw [← hm]; exact hi), (rows5.take k).append (rows5.drop (k + 1))⟩
  have o15 := k5.get (g24.get (g2.get o1)) (by omega)
  have o25 := k5.get (g24.get o2) (by omega)
  have gk : Keeps (fun i => i = id) σ (σ4.set id (.cells [y, .int .i64 n, .int .i64 c0, .int .i64 c1, .int .i64 c2, .int .i64 c3])) := Keeps.trans (Grows.any (g1.trans (g2.trans g24))) k5 fun i hi hm => hm
  generalize σ4.set id (.cells [y, .int .i64 n, .int .i64 c0, .int .i64 c1, .int .i64 c2, .int .i64 c3]) = σ5 at stn k5 rows5 N5 o15 o25 gk
  have aa : aaddrV 4 1 (.ptr id 2) (.int .i64 2) = some (.ptr id 4) := rfl
  have st6 := store_cells N5.obj (off := 4) (by simp) (v := .int .i64 (IntKind.i64.wrap (c2 + 1))) rfl
  simp only [List.set_cons_zero, List.set_cons_succ] at st6
  have N6 : RNetOk (σ5.set id (.cells [y, .int .i64 n, .int .i64 c0, .int .i64 c1, .int .i64 (IntKind.i64.wrap (c2 + 1)), .int .i64 c3])) id y c0 c1 (IntKind.i64.wrap (c2 + 1)) c3 n (es.take k ++ es.drop (k + 1)) (outL ds k) := N5.put
  have k6 := Keeps.set σ5 id (.cells [y, .int .i64 n, .int .i64 c0, .int .i64 c1, .int .i64 (IntKind.i64.wrap (c2 + 1)), .int .i64 c3])
  have o16 := k6.get o15 (by omega)
  have o26 := k6.get o25 (by omega)
  have ea : loadV σ5 1 false (.ptr id 4) = some (.int .i64 c2) := by rw [load_cells N5.obj]; rfl
  simp -dsimp only [↓WPd, ↓wpC_block, ↓wpC_cond, WPu, Bool.false_eq_true, Bool.true_eq_false, Bool.not_true, Bool.not_false, if_true, if_false, ite_true, ite_false, Nat.reduceEqDiff, Nat.reduceLT, true_and, List.map_cons, List.map_nil, Nat.zero_add, Nat.reduceBEq, faddr_ptr, aa, ea, st6]
  generalize σ5.set id (.cells [y, .int .i64 n, .int .i64 c0, .int .i64 c1, .int .i64 (IntKind.i64.wrap (c2 + 1)), .int .i64 c3]) = σ6 at k6 N6 o16 o26
  have st7 := storeN_cells (n := 5) o16 rfl (cs' := [.int .i64 ds[k].f, .int .i64 ds[k].t, .bool ds[k].ack, .int .i64 ds[k].s, e]) rfl (all5 e2.one _ _ _ _)
  have o7 := get_set (o' := .cells [.int .i64 ds[k].f, .int .i64 ds[k].t, .bool ds[k].ack, .int .i64 ds[k].s, e]) o16
  simp -dsimp only [↓WPd, ↓wpC_block, ↓wpC_cond, WPu, Bool.false_eq_true, Bool.true_eq_false, Bool.not_true, Bool.not_false, if_true, if_false, ite_true, ite_false, Nat.reduceEqDiff, Nat.reduceLT, true_and, List.map_cons, List.map_nil, Nat.zero_add, Nat.reduceBEq, loadN_cells (n := 5) o26 rfl, st7, loadN_cells (n := 5) o7 rfl]
  have k7 := Keeps.set σ6 σ.length (.cells [.int .i64 ds[k].f, .int .i64 ds[k].t, .bool ds[k].ack, .int .i64 ds[k].s, e])
  have l12 := g2.1
  refine ⟨(rows_free (rows_free rows5 k6) k7).at u1 (List.getElem?_eq_getElem hk), ?_, y, _, N6.keeps k7 (by omega) (fun j hj hm => by have := yf j hj; omega), fun j hj => by have := yf j hj; omega⟩
  exact Keeps.trans (Keeps.trans gk k6 fun i hi hm => hm) k7 fun i hi hm => by omega
end
end Go.Proofs.Ytmocplkpnickgaa.Am

/-
  Net, both: Deliver, Drop, Double of the document's; counts; who goes where; forks.
-/
namespace Go.Proofs.Ytmocplkpnickgaa.Am
open Go
set_option linter.unusedVariables false
set_option linter.unusedSimpArgs false
set_option linter.unusedSectionVars false
set_option maxRecDepth 100000

/-- numbers as elements -/
def I (l : List Nat) : List AVal := l.map fun (i : Nat) => .int .i64 ((i : Nat) : Int)
theorem I_len (l : List Nat) : (I l).length = l.length := by simp [I]
theorem I_get (l : List Nat) (i : Nat) (h : i < (I l).length) : (I l)[i] = .int .i64 (l[i]'(by simpa [I] using h) : Nat) := by simp [I]
theorem I_app (a b : List Nat) : I a ++ I b = I (a ++ b) := by simp [I]

/-- the numbers of those that go to a node, out of the first k -/
def toL (ds : List Dg) (node : Int) (k : Nat) : List Nat := (List.range k).filter fun i => (ds[i]?.map (·.t)) == some node
theorem toL_succ {ds : List Dg} {node : Int} {k : Nat} (hk : k < ds.length) : toL ds node (k + 1) = if ds[k].t = node then toL ds node k ++ [k] else toL ds node k := by
  unfold toL
  rw [List.range_succ, List.filter_append]
  by_cases h : ds[k].t = node
  · simp [List.getElem?_eq_getElem hk, h]
  · simp [List.getElem?_eq_getElem hk, h]
theorem toL_len (ds : List Dg) (node : Int) (k : Nat) : (toL ds node k).length ≤ k := by
  unfold toL
  exact Nat.le_trans (List.length_filter_le _ _) (by simp)

section
variable (d : Nat) (σ : Store)

theorem sameints_ok (a b : AVal) (x : List Nat) (hx : x.length < 2 ^ 40) (ha : SlOf σ 1 a (I x)) (hb : SlOf σ 1 b (I x)) : Called CN.cfg d 90 [a, b] σ fun v σ' => v = .bool true ∧ σ' = σ := by
  refine called_of (fn := CN.a90) rfl (Nat.le_of_ble_eq_true rfl) ?_
  have la := ha.len
  have lb := hb.len
  rw [I_len] at la lb
  have c0 : (((x.length : Nat) : Int) != ((x.length : Nat) : Int)) = false := by simp
  simp only [CN.a90]
  simp -dsimp only [↓WPd, ↓wpC_block, ↓wpC_cond, WPu, Bool.false_eq_true, Bool.true_eq_false, Bool.not_true, Bool.not_false, if_true, if_false, ite_true, ite_false, Nat.reduceEqDiff, Nat.reduceLT, true_and, List.map_cons, List.map_nil, Nat.zero_add, Nat.reduceBEq, la, lb, c0]
  refine loop_rule (fun m vs σ' => ∃ k : Nat, k ≤ x.length ∧ m = x.length - k ∧ σ' = σ ∧ vs = [a, b, .int .i64 k]) x.length ⟨0, Nat.zero_le _, rfl, rfl, ?_⟩ ?_
  · simp -dsimp only [↓WPd, ↓wpC_block, ↓wpC_cond, WPu, Bool.false_eq_true, Bool.true_eq_false, Bool.not_true, Bool.not_false, if_true, if_false, ite_true, ite_false, Nat.reduceEqDiff, Nat.reduceLT, true_and, List.map_cons, List.map_nil, Nat.zero_add, Nat.reduceBEq]; rfl
  · rintro m vs σ' ⟨k, hk, rfl, rfl, rfl⟩
    simp -dsimp only [↓WPd, ↓wpC_block, ↓wpC_cond, WPu, Bool.false_eq_true, Bool.true_eq_false, Bool.not_true, Bool.not_false, if_true, if_false, ite_true, ite_false, Nat.reduceEqDiff, Nat.reduceLT, true_and, List.map_cons, List.map_nil, Nat.zero_add, Nat.reduceBEq, la]
    refine condP_dec (fun h => ?_) (fun h => ?_)
    · have hi : k < (I x).length := by rw [I_len]; omega
      have c1 : (((x[k]'(by omega) : Nat) : Int) != ((x[k]'(by omega) : Nat) : Int)) = false := by simp
      simp -dsimp only [↓WPd, ↓wpC_block, ↓wpC_cond, WPu, Bool.false_eq_true, Bool.true_eq_false, Bool.not_true, Bool.not_false, if_true, if_false, ite_true, ite_false, Nat.reduceEqDiff, Nat.reduceLT, true_and, List.map_cons, List.map_nil, Nat.zero_add, Nat.reduceBEq, ha.iaddr hi, ha.load1 hi (by rw [I_get]; rfl), hb.iaddr hi, hb.load1 hi (by rw [I_get]; rfl), I_get, c1]
      refine ⟨x.length - (k + 1), by omega, k + 1, by omega, rfl, ?_⟩
      rw [wrap_i64 (by omega) (by omega), Int.natCast_add, Int.natCast_one]
    · simp -dsimp only [↓WPd, ↓wpC_block, ↓wpC_cond, WPu, Bool.false_eq_true, Bool.true_eq_false, Bool.not_true, Bool.not_false, if_true, if_false, ite_true, ite_false, Nat.reduceEqDiff, Nat.reduceLT, true_and, List.map_cons, List.map_nil, Nat.zero_add, Nat.reduceBEq]

theorem int_lit (i : Int) : fillL 1 false (List.replicate 1 (zel [AVal.int .i64 0] false)) [(0, .int .i64 i)] = some [.int .i64 i] := rfl
end

section
variable (d : Nat) (σ : Store) {F : Nat → Prop} (id : Nat) (v : AVal) (c0 c1 c2 c3 n : Int) (es : List AVal) (ds : List Dg) (h : NetOk σ F id v c0 c1 c2 c3 n es ds) (hl : ds.length < 2 ^ 39)
include h hl

theorem counts_ok : Called CN.cfg d 61 [.ptr id 0] σ fun r σ' => r = .tuple [.int .i64 c0, .int .i64 c1, .int .i64 c2, .int .i64 c3] ∧ σ' = σ := by
  refine called_of (fn := CN.a61) rfl (Nat.le_of_ble_eq_true rfl) ?_
  simp only [CN.a61]
  simp -dsimp only [↓WPd, ↓wpC_block, ↓wpC_cond, WPu, Bool.false_eq_true, Bool.true_eq_false, Bool.not_true, Bool.not_false, if_true, if_false, ite_true, ite_false, Nat.reduceEqDiff, Nat.reduceLT, true_and, List.map_cons, List.map_nil, Nat.zero_add, Nat.reduceBEq, isnil_ptr, faddr_ptr, load_cells h.obj, List.getElem?_cons_zero, List.getElem?_cons_succ, and_self]

theorem netto_ok (node : Int) : Called CN.cfg d 55 [.ptr id 0, .int .i64 node] σ fun r σ' => Own σ' 1 r (I (toL ds node ds.length)) ∧ Fresh σ.length r ∧ NoLit r ∧ Grows σ σ' := by
  refine called_of (fn := CN.a55) rfl (Nat.le_of_ble_eq_true rfl) ?_
  have ll := h.own.sl.len
  rw [h.rows.len] at ll
  simp only [CN.a55]
  simp -dsimp only [↓WPd, ↓wpC_cond, WPu, Bool.false_eq_true, Bool.true_eq_false, Bool.not_true, Bool.not_false, if_true, if_false, ite_true, ite_false, Nat.reduceEqDiff, Nat.reduceLT, true_and, List.map_cons, List.map_nil, Nat.zero_add, Nat.reduceBEq, isnil_ptr, faddr_ptr, load_cells h.obj, List.getElem?_cons_zero, List.getElem?_cons_succ, ll]
  rw [wpC_block]
  simp -dsimp only [↓WPd, ↓wpC_block, ↓wpC_cond, WPu, Bool.false_eq_true, Bool.true_eq_false, Bool.not_true, Bool.not_false, if_true, if_false, ite_true, ite_false, Nat.reduceEqDiff, Nat.reduceLT, true_and, List.map_cons, List.map_nil, Nat.zero_add, Nat.reduceBEq]
  refine loop_rule (fun m vs σ' => ∃ (k : Nat) (l : AVal), k ≤ ds.length ∧ m = ds.length - k ∧ Grows σ σ' ∧ Own σ' 1 l (I (toL ds node k)) ∧ Fresh σ.length l ∧ NoLit l ∧ vs = [.int .i64 node, l, v, .int .i64 ds.length, .int .i64 k]) ds.length ⟨0, .nilslice, Nat.zero_le _, rfl, Keeps.refl _ _, Own.nil _ _, Fresh.nil _, trivial, ?_⟩ ?_
  · simp -dsimp only [↓WPd, ↓wpC_block, ↓wpC_cond, WPu, Bool.false_eq_true, Bool.true_eq_false, Bool.not_true, Bool.not_false, if_true, if_false, ite_true, ite_false, Nat.reduceEqDiff, Nat.reduceLT, true_and, List.map_cons, List.map_nil, Nat.zero_add, Nat.reduceBEq]; rfl
  · rintro m vs σ1 ⟨k, l, hk, rfl, g, hr, fr, nr, rfl⟩
    simp -dsimp only [↓WPd, ↓wpC_cond, WPu, Bool.false_eq_true, Bool.true_eq_false, Bool.not_true, Bool.not_false, if_true, if_false, ite_true, ite_false, Nat.reduceEqDiff, Nat.reduceLT, true_and, List.map_cons, List.map_nil, Nat.zero_add, Nat.reduceBEq]
    refine condP_dec (fun hc => ?_) (fun hc => ?_)
    · have hk' : k < ds.length := by omega
      obtain ⟨u, a1, a2, a3, a4⟩ := Two.load5 (h.own.sl.grow g) ((h.rows.mono fun _ _ h => h.ok).mono fun _ _ h => h.grow g) hk'
      obtain ⟨e, e1, e2, e3⟩ := cp a3
      subst e1
      have st := new_store (σ := σ1) (n := 5) (zs := [.int .i64 0, .int .i64 0, .bool false, .int .i64 0, .nilslice]) rfl (cs := [.int .i64 ds[k].f, .int .i64 ds[k].t, .bool ds[k].ack, .int .i64 ds[k].s, e]) rfl (all5 e2.one _ _ _ _)
      have g2 : Grows σ1 (σ1 ++ [AObj.cells [.int .i64 ds[k].f, .int .i64 ds[k].t, .bool ds[k].ack, .int .i64 ds[k].s, e]]) := Grows.app _ _
      have o2 : (σ1 ++ [AObj.cells [.int .i64 ds[k].f, .int .i64 ds[k].t, .bool ds[k].ack, .int .i64 ds[k].s, e]])[σ1.length]? = some (.cells [.int .i64 ds[k].f, .int .i64 ds[k].t, .bool ds[k].ack, .int .i64 ds[k].s, e]) := by simp
      have hlen := toL_len ds node k
      have hw : IntKind.i64.wrap ((k : Int) + 1) = ((k + 1 : Nat) : Int) := by rw [wrap_i64 (by omega) (by omega), Int.natCast_add, Int.natCast_one]
      simp -dsimp only [↓WPd, ↓wpC_cond, WPu, Bool.false_eq_true, Bool.true_eq_false, Bool.not_true, Bool.not_false, if_true, if_false, ite_true, ite_false, Nat.reduceEqDiff, Nat.reduceLT, true_and, List.map_cons, List.map_nil, Nat.zero_add, Nat.reduceBEq, a1, a2, Dg.val, st, faddr_ptr, load_cells o2, List.getElem?_cons_zero, List.getElem?_cons_succ]
      by_cases ht : ds[k].t = node
      · have ct : (ds[k].t == node) = true := by simp [ht]
        obtain ⟨l', σ3, p1, p2, p3, p4, p5⟩ := (hr.grow g2).append (I [k]) 8 (by rw [I_len, I_len]; simp; omega)
        have p1' : appendV (σ1 ++ [AObj.cells [.int .i64 ds[k].f, .int .i64 ds[k].t, .bool ds[k].ack, .int .i64 ds[k].s, e]]) 1 8 l [.int .i64 (k : Nat)] = some (l', σ3) := p1
        rw [I_app] at p2
        simp -dsimp only [↓WPd, ↓wpC_block, ↓wpC_cond, WPu, Bool.false_eq_true, Bool.true_eq_false, Bool.not_true, Bool.not_false, if_true, if_false, ite_true, ite_false, Nat.reduceEqDiff, Nat.reduceLT, true_and, List.map_cons, List.map_nil, Nat.zero_add, Nat.reduceBEq, a1, a2, Dg.val, st, faddr_ptr, load_cells o2, List.getElem?_cons_zero, List.getElem?_cons_succ, ct, int_lit, elems_fs, p1', hw]
        have l12 := g.1
        refine ⟨ds.length - (k + 1), by omega, k + 1, l', by omega, rfl, ?_, by rw [toL_succ hk', if_pos ht]; exact p2, fun j hj => ?_, p5 (.inr (by simp [I])), rfl⟩
        · exact Keeps.trans (g.trans g2) p3 fun i hi hm => by have := fr i hm; omega
        · rcases p4 j hj with hh | hh
          · exact fr j hh
          · simp at hh; omega
      · have ct : (ds[k].t == node) = false := by simp [ht]
        simp -dsimp only [↓WPd, ↓wpC_block, ↓wpC_cond, WPu, Bool.false_eq_true, Bool.true_eq_false, Bool.not_true, Bool.not_false, if_true, if_false, ite_true, ite_false, Nat.reduceEqDiff, Nat.reduceLT, true_and, List.map_cons, List.map_nil, Nat.zero_add, Nat.reduceBEq, a1, a2, Dg.val, st, faddr_ptr, load_cells o2, List.getElem?_cons_zero, List.getElem?_cons_succ, ct, hw]
        exact ⟨ds.length - (k + 1), by omega, k + 1, l, by omega, rfl, g.trans g2, by rw [toL_succ hk', if_neg ht]; exact hr.grow g2, fr, nr, rfl⟩
    · simp -dsimp only [↓WPd, ↓wpC_block, ↓wpC_cond, WPu, Bool.false_eq_true, Bool.true_eq_false, Bool.not_true, Bool.not_false, if_true, if_false, ite_true, ite_false, Nat.reduceEqDiff, Nat.reduceLT, true_and, List.map_cons, List.map_nil, Nat.zero_add, Nat.reduceBEq]
      have : k = ds.length := by omega
      subst this
      exact ⟨hr, fr, nr, g⟩

theorem netfork_ok (hs : ∀ p ∈ ds, p.bs.length < 2 ^ 40) : Called CN.cfg d 57 [.ptr id 0] σ fun r σ' => ∃ id' v' es', r = .ptr id' 0 ∧ NetOk σ' (fun j => σ.length ≤ j) id' v' c0 c1 c2 c3 n es' ds ∧ Grows σ σ' ∧ σ.length ≤ id' ∧ Fresh σ.length v' := by
  refine called_of (fn := CN.a57) rfl (Nat.le_of_ble_eq_true rfl) ?_
  simp only [CN.a57]
  have l4 : loadV σ 4 true (.ptr id 0) = some (.agg [.int .i64 c0, .int .i64 c1, .int .i64 c2, .int .i64 c3]) := by simp [loadV, behind, h.obj]
  simp -dsimp only [↓WPd, ↓wpC_block, ↓wpC_cond, WPu, Bool.false_eq_true, Bool.true_eq_false, Bool.not_true, Bool.not_false, if_true, if_false, ite_true, ite_false, Nat.reduceEqDiff, Nat.reduceLT, true_and, List.map_cons, List.map_nil, Nat.zero_add, Nat.reduceBEq, isnil_ptr]
  refine drawnP_of rfl ?_
  simp -dsimp only [↓WPd, ↓wpC_block, ↓wpC_cond, WPu, Bool.false_eq_true, Bool.true_eq_false, Bool.not_true, Bool.not_false, if_true, if_false, ite_true, ite_false, Nat.reduceEqDiff, Nat.reduceLT, true_and, List.map_cons, List.map_nil, Nat.zero_add, Nat.reduceBEq, ↓WPed, WPeu, Nat.reduceAdd, and_self, isnil_ptr, faddr_ptr, l4, load_cells h.obj, List.getElem?_cons_zero, List.getElem?_cons_succ]
  refine calledW_of (waiting_ok d σ id v c0 c1 c2 c3 n es ds h (by omega) hs) ?_
  rintro r σ1 ⟨us, W, g⟩
  have l4' : loadV σ1 4 true (.ptr id 0) = some (.agg [.int .i64 c0, .int .i64 c1, .int .i64 c2, .int .i64 c3]) := by simp [loadV, behind, g.get h.obj]
  have e1 : fillA [AVal.int .i64 0, .int .i64 0, .int .i64 0, .int .i64 0, .int .i64 0, .nilslice] [(0, 4, .agg [.int .i64 c0, .int .i64 c1, .int .i64 c2, .int .i64 c3]), (4, 1, .int .i64 n), (5, 1, r)] = some [.int .i64 c0, .int .i64 c1, .int .i64 c2, .int .i64 c3, .int .i64 n, r] := by
    have := W.row.one
    cases r <;> first | (cases this; done) | rfl
  have e2 : [AVal.int .i64 c0, .int .i64 c1, .int .i64 c2, .int .i64 c3, .int .i64 n, r].all AVal.one = true := by
    have := W.row.one
    cases r <;> first | (cases this; done) | rfl
  simp -dsimp only [↓WPd, ↓wpC_block, ↓wpC_cond, WPu, Bool.false_eq_true, Bool.true_eq_false, Bool.not_true, Bool.not_false, if_true, if_false, ite_true, ite_false, Nat.reduceEqDiff, Nat.reduceLT, true_and, List.map_cons, List.map_nil, Nat.zero_add, Nat.reduceBEq, ↓WPed, WPeu, Nat.reduceAdd, and_self, faddr_ptr, l4, l4', load_cells h.obj, load_cells (g.get h.obj), List.getElem?_cons_zero, List.getElem?_cons_succ, e1, e2, cells_agg]
  have g2 : Grows σ1 (σ1 ++ [AObj.cells [.int .i64 c0, .int .i64 c1, .int .i64 c2, .int .i64 c3, .int .i64 n, r]]) := Grows.app _ _
  exact ⟨σ1.length, r, _, rfl, ⟨by simp, W.row.grow g2, W.two.mono fun _ _ h => h.grow g2⟩, g.trans g2, g.1, W.frl⟩
end

section
variable (d : Nat) (σ : Store) (id : Nat) (v : AVal) (c0 c1 c2 c3 n : Int) (es : List AVal) (ds : List Dg) (h : RNetOk σ id v c0 c1 c2 c3 n es ds) (hl : ds.length < 2 ^ 39)
include h hl

theorem refcounts_ok : Called CN.cfg d 88 [.ptr id 0] σ fun r σ' => r = .tuple [.int .i64 c0, .int .i64 c1, .int .i64 c2, .int .i64 c3] ∧ σ' = σ := by
  refine called_of (fn := CN.a88) rfl (Nat.le_of_ble_eq_true rfl) ?_
  have a0 : aaddrV 4 1 (.ptr id 2) (.int .i64 0) = some (.ptr id 2) := rfl
  have a1 : aaddrV 4 1 (.ptr id 2) (.int .i64 1) = some (.ptr id 3) := rfl
  have a2 : aaddrV 4 1 (.ptr id 2) (.int .i64 2) = some (.ptr id 4) := rfl
  have a3 : aaddrV 4 1 (.ptr id 2) (.int .i64 3) = some (.ptr id 5) := rfl
  have ld := fun off => load_cells h.obj off
  have l2 : loadV σ 1 false (.ptr id 2) = some (.int .i64 c0) := ld 2
  have l3 : loadV σ 1 false (.ptr id 3) = some (.int .i64 c1) := ld 3
  have l4 : loadV σ 1 false (.ptr id 4) = some (.int .i64 c2) := ld 4
  have l5 : loadV σ 1 false (.ptr id 5) = some (.int .i64 c3) := ld 5
  simp only [CN.a88]
  simp -dsimp only [↓WPd, ↓wpC_block, ↓wpC_cond, WPu, Bool.false_eq_true, Bool.true_eq_false, Bool.not_true, Bool.not_false, if_true, if_false, ite_true, ite_false, Nat.reduceEqDiff, Nat.reduceLT, true_and, List.map_cons, List.map_nil, Nat.zero_add, Nat.reduceBEq, isnil_ptr, faddr_ptr, a0, a1, a2, a3, l2, l3, l4, l5, and_self]

theorem refwaiting_ok : Called CN.cfg d 89 [.ptr id 0] σ fun r σ' => r = v ∧ σ' = σ := by
  refine called_of (fn := CN.a89) rfl (Nat.le_of_ble_eq_true rfl) ?_
  simp only [CN.a89]
  simp -dsimp only [↓WPd, ↓wpC_block, ↓wpC_cond, WPu, Bool.false_eq_true, Bool.true_eq_false, Bool.not_true, Bool.not_false, if_true, if_false, ite_true, ite_false, Nat.reduceEqDiff, Nat.reduceLT, true_and, List.map_cons, List.map_nil, Nat.zero_add, Nat.reduceBEq, isnil_ptr, faddr_ptr, load_cells h.obj, List.getElem?_cons_zero, List.getElem?_cons_succ, and_self]

theorem refto_ok (node : Int) : Called CN.cfg d 91 [.ptr id 0, .int .i64 node] σ fun r σ' => Own σ' 1 r (I (toL ds node ds.length)) ∧ Fresh σ.length r ∧ NoLit r ∧ Grows σ σ' := by
  refine called_of (fn := CN.a91) rfl (Nat.le_of_ble_eq_true rfl) ?_
  have ll := h.own.sl.len
  rw [h.rows.len] at ll
  have nn : isNil .p (.ptr id 0) = some false := rfl
  simp only [CN.a91]
  simp -dsimp only [↓WPd, ↓wpC_cond, WPu, Bool.false_eq_true, Bool.true_eq_false, Bool.not_true, Bool.not_false, if_true, if_false, ite_true, ite_false, Nat.reduceEqDiff, Nat.reduceLT, true_and, List.map_cons, List.map_nil, Nat.zero_add, Nat.reduceBEq]
  rw [wpC_block]
  simp -dsimp only [↓WPd, ↓wpC_block, ↓wpC_cond, WPu, Bool.false_eq_true, Bool.true_eq_false, Bool.not_true, Bool.not_false, if_true, if_false, ite_true, ite_false, Nat.reduceEqDiff, Nat.reduceLT, true_and, List.map_cons, List.map_nil, Nat.zero_add, Nat.reduceBEq]
  refine loop_rule (fun m vs σ' => ∃ (k : Nat) (l : AVal), k ≤ ds.length ∧ m = ds.length - k ∧ Grows σ σ' ∧ Own σ' 1 l (I (toL ds node k)) ∧ Fresh σ.length l ∧ NoLit l ∧ vs = [.ptr id 0, .int .i64 node, l, .int .i64 k]) ds.length ⟨0, .nilslice, Nat.zero_le _, rfl, Keeps.refl _ _, Own.nil _ _, Fresh.nil _, trivial, ?_⟩ ?_
  · simp -dsimp only [↓WPd, ↓wpC_block, ↓wpC_cond, WPu, Bool.false_eq_true, Bool.true_eq_false, Bool.not_true, Bool.not_false, if_true, if_false, ite_true, ite_false, Nat.reduceEqDiff, Nat.reduceLT, true_and, List.map_cons, List.map_nil, Nat.zero_add, Nat.reduceBEq]; rfl
  · rintro m vs σ1 ⟨k, l, hk, rfl, g, hr, fr, nr, rfl⟩
    have N1 := h.grow g
    simp -dsimp only [↓WPd, ↓wpC_cond, WPu, Bool.false_eq_true, Bool.true_eq_false, Bool.not_true, Bool.not_false, if_true, if_false, ite_true, ite_false, Nat.reduceEqDiff, Nat.reduceLT, true_and, List.map_cons, List.map_nil, Nat.zero_add, Nat.reduceBEq, isnil_ptr, faddr_ptr, load_cells N1.obj, List.getElem?_cons_zero, List.getElem?_cons_succ, ll]
    refine condP_dec (fun hc => ?_) (fun hc => ?_)
    · have hk' : k < ds.length := by omega
      obtain ⟨u, u1, u2⟩ := N1.rows.get hk'
      obtain ⟨e, rfl, e2, e3⟩ := cp u2
      have hi : k < es.length := by have := h.rows.len; omega
      have eu : es[k] = ds[k].val e := by rw [List.getElem?_eq_getElem hi] at u1; exact Option.some.inj u1
      have hlen := toL_len ds node k
      have hw : IntKind.i64.wrap ((k : Int) + 1) = ((k + 1 : Nat) : Int) := by rw [wrap_i64 (by omega) (by omega), Int.natCast_add, Int.natCast_one]
      obtain ⟨p, fp, lp⟩ : ∃ p, faddrV 1 (addrOf 5 v k) = some p ∧ loadV σ1 1 false p = some (.int .i64 ds[k].t) := by
        have hb := (N1.own.sl.addr hi .i64).2
        rw [eu] at hb
        obtain ⟨q, q1, q2⟩ := faddr_load hb 1
        exact ⟨q, q1, q2⟩
      by_cases ht : ds[k].t = node
      · have ct : (ds[k].t == node) = true := by simp [ht]
        obtain ⟨l', σ3, p1, p2, p3, p4, p5⟩ := hr.append (I [k]) 8 (by rw [I_len, I_len]; simp; omega)
        have p1' : appendV σ1 1 8 l [.int .i64 (k : Nat)] = some (l', σ3) := p1
        rw [I_app] at p2
        simp -dsimp only [↓WPd, ↓wpC_block, ↓wpC_cond, WPu, Bool.false_eq_true, Bool.true_eq_false, Bool.not_true, Bool.not_false, if_true, if_false, ite_true, ite_false, Nat.reduceEqDiff, Nat.reduceLT, true_and, List.map_cons, List.map_nil, Nat.zero_add, Nat.reduceBEq, faddr_ptr, load_cells N1.obj, List.getElem?_cons_zero, List.getElem?_cons_succ, N1.own.sl.iaddr hi, fp, lp, ct, int_lit, elems_fs, p1', hw]
        have l12 := g.1
        refine ⟨ds.length - (k + 1), by omega, k + 1, l', by omega, rfl, ?_, by rw [toL_succ hk', if_pos ht]; exact p2, fun j hj => ?_, p5 (.inr (by simp [I])), rfl⟩
        · exact Keeps.trans g p3 fun i hi hm => by have := fr i hm; omega
        · rcases p4 j hj with hh | hh
          · exact fr j hh
          · omega
      · have ct : (ds[k].t == node) = false := by simp [ht]
        simp -dsimp only [↓WPd, ↓wpC_block, ↓wpC_cond, WPu, Bool.false_eq_true, Bool.true_eq_false, Bool.not_true, Bool.not_false, if_true, if_false, ite_true, ite_false, Nat.reduceEqDiff, Nat.reduceLT, true_and, List.map_cons, List.map_nil, Nat.zero_add, Nat.reduceBEq, faddr_ptr, load_cells N1.obj, List.getElem?_cons_zero, List.getElem?_cons_succ, N1.own.sl.iaddr hi, fp, lp, ct, hw]
        exact ⟨ds.length - (k + 1), by omega, k + 1, l, by omega, rfl, g, by rw [toL_succ hk', if_neg ht]; exact hr, fr, nr, rfl⟩
    · simp -dsimp only [↓WPd, ↓wpC_block, ↓wpC_cond, WPu, Bool.false_eq_true, Bool.true_eq_false, Bool.not_true, Bool.not_false, if_true, if_false, ite_true, ite_false, Nat.reduceEqDiff, Nat.reduceLT, true_and, List.map_cons, List.map_nil, Nat.zero_add, Nat.reduceBEq]
      have : k = ds.length := by omega
      subst this
      exact ⟨hr, fr, nr, g⟩

theorem reffork_ok : Called CN.cfg d 58 [.ptr id 0] σ fun r σ' => ∃ id' v' es', r = .ptr id' 0 ∧ RNetOk σ' id' v' c0 c1 c2 c3 n es' ds ∧ Grows σ σ' ∧ σ.length ≤ id' ∧ Fresh σ.length v' := by
  refine called_of (fn := CN.a58) rfl (Nat.le_of_ble_eq_true rfl) ?_
  simp only [CN.a58]
  have e0 : fillL 5 true (List.replicate 0 (zel [AVal.int .i64 0, .int .i64 0, .bool false, .int .i64 0, .nilslice] true)) [] = some [] := rfl
  have ob : Own σ 5 (.fslice (AVal.tagL []) true 5 []) [] := Own.lit _ _ _ _
  have lr := h.rows.len
  obtain ⟨x, σ1, p1, p2, p3, p4, _⟩ := ob.append es 56 (by simp; omega)
  rw [List.nil_append] at p2
  have g1 : Grows σ σ1 := p3.mono fun i hi hm => by cases hm
  have N1 := h.grow g1
  have l4 : loadV σ 4 true (.ptr id 2) = some (.agg [.int .i64 c0, .int .i64 c1, .int .i64 c2, .int .i64 c3]) := by simp [loadV, behind, h.obj]
  have l4' : loadV σ1 4 true (.ptr id 2) = some (.agg [.int .i64 c0, .int .i64 c1, .int .i64 c2, .int .i64 c3]) := by simp [loadV, behind, N1.obj]
  have e1 : fillA [AVal.nilslice, .int .i64 0, .int .i64 0, .int .i64 0, .int .i64 0, .int .i64 0] [(0, 1, x), (1, 1, .int .i64 n), (2, 4, .agg [.int .i64 c0, .int .i64 c1, .int .i64 c2, .int .i64 c3])] = some [x, .int .i64 n, .int .i64 c0, .int .i64 c1, .int .i64 c2, .int .i64 c3] := by
    have := p2.one
    cases x <;> first | (cases this; done) | rfl
  have e2 : [x, AVal.int .i64 n, .int .i64 c0, .int .i64 c1, .int .i64 c2, .int .i64 c3].all AVal.one = true := by
    have := p2.one
    cases x <;> first | (cases this; done) | rfl
  simp -dsimp only [↓WPd, ↓wpC_block, ↓wpC_cond, WPu, Bool.false_eq_true, Bool.true_eq_false, Bool.not_true, Bool.not_false, if_true, if_false, ite_true, ite_false, Nat.reduceEqDiff, Nat.reduceLT, true_and, List.map_cons, List.map_nil, Nat.zero_add, Nat.reduceBEq, isnil_ptr]
  refine drawnP_of rfl ?_
  simp -dsimp only [↓WPd, ↓wpC_block, ↓wpC_cond, WPu, Bool.false_eq_true, Bool.true_eq_false, Bool.not_true, Bool.not_false, if_true, if_false, ite_true, ite_false, Nat.reduceEqDiff, Nat.reduceLT, true_and, List.map_cons, List.map_nil, Nat.zero_add, Nat.reduceBEq, ↓WPed, WPeu, Nat.reduceAdd, and_self, e0, faddr_ptr, l4, l4', load_cells h.obj, load_cells N1.obj, List.getElem?_cons_zero, List.getElem?_cons_succ, h.own.sl.els, p1, e1, e2, cells_agg]
  have g2 : Grows σ1 (σ1 ++ [AObj.cells [x, .int .i64 n, .int .i64 c0, .int .i64 c1, .int .i64 c2, .int .i64 c3]]) := Grows.app _ _
  refine ⟨σ1.length, x, es, rfl, ⟨by simp, p2.grow g2, rows_free N1.rows g2⟩, g1.trans g2, g1.1, fun j hj => ?_⟩
  rcases p4 j hj with hh | hh
  · cases hh
  · omega

theorem refdeliver_ok (k : Nat) (hk : k < ds.length) : Called CN.cfg d 85 [.ptr id 0, .int .i64 k] σ fun r σ' =>
    ∃ x, r = .tuple [x, .int .i64 0] ∧ DgOk σ' NoF x ds[k] ∧ Keeps (fun i => i = id) σ σ' ∧ ∃ v' es', RNetOk σ' id v' c0 (IntKind.i64.wrap (c1 + 1)) c2 c3 n es' (outL ds k) ∧ Fresh σ.length v' := by
  refine called_of (fn := CN.a85) rfl (Nat.le_of_ble_eq_true rfl) ?_
  simp only [CN.a85]
  simp -dsimp only [↓WPd, ↓wpC_block, ↓wpC_cond, WPu, Bool.false_eq_true, Bool.true_eq_false, Bool.not_true, Bool.not_false, if_true, if_false, ite_true, ite_false, Nat.reduceEqDiff, Nat.reduceLT, true_and, List.map_cons, List.map_nil, Nat.zero_add, Nat.reduceBEq]
  have g1 : Grows σ (σ ++ [AObj.cells [.int .i64 0, .int .i64 0, .bool false, .int .i64 0, .nilslice]]) := Grows.app _ _
  have o1 : (σ ++ [AObj.cells [.int .i64 0, .int .i64 0, .bool false, .int .i64 0, .nilslice]])[σ.length]? = some (.cells [.int .i64 0, .int .i64 0, .bool false, .int .i64 0, .nilslice]) := by simp
  have l1 : (σ ++ [AObj.cells [.int .i64 0, .int .i64 0, .bool false, .int .i64 0, .nilslice]]).length = σ.length + 1 := by simp
  generalize σ ++ [AObj.cells [.int .i64 0, .int .i64 0, .bool false, .int .i64 0, .nilslice]] = σ1 at g1 o1 l1
  have N1 := h.grow g1
  have idlt := (List.getElem?_eq_some_iff.1 h.obj).1
  refine calledW_of (refat_ok d σ1 id v c0 c1 c2 c3 n es ds N1 hl k) ?_
  rintro r σ2 ⟨rfl, rfl⟩
  rw [if_pos ⟨by omega, by omega⟩]
  have c0' : ((0 : Int) != 0) = false := rfl
  simp -dsimp only [↓WPd, ↓wpC_block, ↓wpC_cond, WPu, Bool.false_eq_true, Bool.true_eq_false, Bool.not_true, Bool.not_false, if_true, if_false, ite_true, ite_false, Nat.reduceEqDiff, Nat.reduceLT, true_and, List.map_cons, List.map_nil, Nat.zero_add, Nat.reduceBEq, c0']
  refine calledW_of (refout1_ok d σ2 id v c0 c1 c2 c3 n es ds N1 hl k hk) ?_
  rintro r σ4 ⟨hx, k4, v', es', N4, fv⟩
  obtain ⟨e, rfl, e2, e3⟩ := hx
  have o4 := k4.get o1 (by omega)
  have st4 := storeN_cells (n := 5) o4 rfl (cs' := [.int .i64 ds[k].f, .int .i64 ds[k].t, .bool ds[k].ack, .int .i64 ds[k].s, e]) rfl (all5 e2.one _ _ _ _)
  have o5 := get_set (o' := .cells [.int .i64 ds[k].f, .int .i64 ds[k].t, .bool ds[k].ack, .int .i64 ds[k].s, e]) o4
  simp -dsimp only [↓WPd, ↓wpC_block, ↓wpC_cond, WPu, Bool.false_eq_true, Bool.true_eq_false, Bool.not_true, Bool.not_false, if_true, if_false, ite_true, ite_false, Nat.reduceEqDiff, Nat.reduceLT, true_and, List.map_cons, List.map_nil, Nat.zero_add, Nat.reduceBEq, Dg.val, st4, loadN_cells (n := 5) o5 rfl, resultsA, mapO]
  have k5 := Keeps.set σ4 σ.length (.cells [.int .i64 ds[k].f, .int .i64 ds[k].t, .bool ds[k].ack, .int .i64 ds[k].s, e])
  refine ⟨_, rfl, DgOk.free ⟨e, rfl, e2, e3⟩ k5, ?_, v', es', N4.keeps k5 (by omega) (fun j hj hm => by have := fv j hj; omega), fv.le (by omega)⟩
  exact Keeps.trans (Keeps.trans (Grows.any g1) k4 fun i hi hm => hm) k5 fun i hi hm => by omega

theorem refdeliver_no (k : Int) (hk : ¬ (0 ≤ k ∧ k < ds.length)) : Called CN.cfg d 85 [.ptr id 0, .int .i64 k] σ fun r σ' => r = .tuple [zD, .int .i64 4] ∧ Grows σ σ' := by
  refine called_of (fn := CN.a85) rfl (Nat.le_of_ble_eq_true rfl) ?_
  simp only [CN.a85]
  simp -dsimp only [↓WPd, ↓wpC_block, ↓wpC_cond, WPu, Bool.false_eq_true, Bool.true_eq_false, Bool.not_true, Bool.not_false, if_true, if_false, ite_true, ite_false, Nat.reduceEqDiff, Nat.reduceLT, true_and, List.map_cons, List.map_nil, Nat.zero_add, Nat.reduceBEq]
  have g1 : Grows σ (σ ++ [AObj.cells [.int .i64 0, .int .i64 0, .bool false, .int .i64 0, .nilslice]]) := Grows.app _ _
  have o1 : (σ ++ [AObj.cells [.int .i64 0, .int .i64 0, .bool false, .int .i64 0, .nilslice]])[σ.length]? = some (.cells [.int .i64 0, .int .i64 0, .bool false, .int .i64 0, .nilslice]) := by simp
  have l1 : (σ ++ [AObj.cells [.int .i64 0, .int .i64 0, .bool false, .int .i64 0, .nilslice]]).length = σ.length + 1 := by simp
  generalize σ ++ [AObj.cells [.int .i64 0, .int .i64 0, .bool false, .int .i64 0, .nilslice]] = σ1 at g1 o1 l1
  have N1 := h.grow g1
  have idlt := (List.getElem?_eq_some_iff.1 h.obj).1
  refine calledW_of (refat_ok d σ1 id v c0 c1 c2 c3 n es ds N1 hl k) ?_
  rintro r σ2 ⟨rfl, rfl⟩
  rw [if_neg hk]
  have c0' : ((4 : Int) != 0) = true := rfl
  have e1 : fillA [AVal.int .i64 0, .int .i64 0, .bool false, .int .i64 0, .nilslice] [] = some [AVal.int .i64 0, .int .i64 0, .bool false, .int .i64 0, .nilslice] := rfl
  have st := storeN_cells (n := 5) o1 rfl (cs' := [.int .i64 0, .int .i64 0, .bool false, .int .i64 0, .nilslice]) rfl rfl
  have o5 := get_set (o' := .cells [.int .i64 0, .int .i64 0, .bool false, .int .i64 0, .nilslice]) o1
  simp -dsimp only [↓WPd, ↓wpC_block, ↓wpC_cond, WPu, Bool.false_eq_true, Bool.true_eq_false, Bool.not_true, Bool.not_false, if_true, if_false, ite_true, ite_false, Nat.reduceEqDiff, Nat.reduceLT, true_and, List.map_cons, List.map_nil, Nat.zero_add, Nat.reduceBEq, c0', e1, st, loadN_cells (n := 5) o5 rfl, resultsA, mapO]
  exact ⟨rfl, Keeps.trans g1 (Keeps.set _ _ _) fun i hi hm => by omega⟩

theorem refdrop_ok (k : Nat) (hk : k < ds.length) : Called CN.cfg d 86 [.ptr id 0, .int .i64 k] σ fun r σ' =>
    r = .int .i64 0 ∧ Keeps (fun i => i = id) σ σ' ∧ ∃ v' es', RNetOk σ' id v' c0 c1 (IntKind.i64.wrap (c2 + 1)) c3 n es' (outL ds k) ∧ Fresh σ.length v' := by
  refine called_of (fn := CN.a86) rfl (Nat.le_of_ble_eq_true rfl) ?_
  simp only [CN.a86]
  simp -dsimp only [↓WPd, ↓wpC_block, ↓wpC_cond, WPu, Bool.false_eq_true, Bool.true_eq_false, Bool.not_true, Bool.not_false, if_true, if_false, ite_true, ite_false, Nat.reduceEqDiff, Nat.reduceLT, true_and, List.map_cons, List.map_nil, Nat.zero_add, Nat.reduceBEq]
  refine calledW_of (refat_ok d σ id v c0 c1 c2 c3 n es ds h hl k) ?_
  rintro r σ2 ⟨rfl, rfl⟩
  rw [if_pos ⟨by omega, by omega⟩]
  have c0' : ((0 : Int) == 0) = true := rfl
  simp -dsimp only [↓WPd, ↓wpC_block, ↓wpC_cond, WPu, Bool.false_eq_true, Bool.true_eq_false, Bool.not_true, Bool.not_false, if_true, if_false, ite_true, ite_false, Nat.reduceEqDiff, Nat.reduceLT, true_and, List.map_cons, List.map_nil, Nat.zero_add, Nat.reduceBEq, c0']
  refine calledW_of (refout2_ok d σ2 id v c0 c1 c2 c3 n es ds h hl k hk) ?_
  rintro r σ4 ⟨hx, k4, v', es', N4, fv⟩
  simp -dsimp only [↓WPd, ↓wpC_block, ↓wpC_cond, WPu, Bool.false_eq_true, Bool.true_eq_false, Bool.not_true, Bool.not_false, if_true, if_false, ite_true, ite_false, Nat.reduceEqDiff, Nat.reduceLT, true_and, List.map_cons, List.map_nil, Nat.zero_add, Nat.reduceBEq]
  exact ⟨k4, v', es', N4, fv⟩

theorem refdrop_no (k : Int) (hk : ¬ (0 ≤ k ∧ k < ds.length)) : Called CN.cfg d 86 [.ptr id 0, .int .i64 k] σ fun r σ' => r = .int .i64 4 ∧ Grows σ σ' := by
  refine called_of (fn := CN.a86) rfl (Nat.le_of_ble_eq_true rfl) ?_
  simp only [CN.a86]
  simp -dsimp only [↓WPd, ↓wpC_block, ↓wpC_cond, WPu, Bool.false_eq_true, Bool.true_eq_false, Bool.not_true, Bool.not_false, if_true, if_false, ite_true, ite_false, Nat.reduceEqDiff, Nat.reduceLT, true_and, List.map_cons, List.map_nil, Nat.zero_add, Nat.reduceBEq]
  refine calledW_of (refat_ok d σ id v c0 c1 c2 c3 n es ds h hl k) ?_
  rintro r σ2 ⟨rfl, rfl⟩
  rw [if_neg hk]
  have c0' : ((4 : Int) == 0) = false := rfl
  simp -dsimp only [↓WPd, ↓wpC_block, ↓wpC_cond, WPu, Bool.false_eq_true, Bool.true_eq_false, Bool.not_true, Bool.not_false, if_true, if_false, ite_true, ite_false, Nat.reduceEqDiff, Nat.reduceLT, true_and, List.map_cons, List.map_nil, Nat.zero_add, Nat.reduceBEq, c0']
  exact Keeps.refl _ _
end
end Go.Proofs.Ytmocplkpnickgaa.Am

/-
  purlinmem: what is handed in, with marked room behind it.
-/
namespace Go.Proofs.Ytmocplkpnickgaa.Am
open Go
set_option linter.unusedVariables false
set_option linter.unusedSimpArgs false
set_option linter.unusedSectionVars false
set_option maxRecDepth 100000

def marks : List UInt8 := (List.range 9).map fun j => UInt8.ofNat (160 + j)
theorem marks_len : marks.length = 9 := rfl
theorem marks_get (j : Nat) (h : j < marks.length) : marks[j] = UInt8.ofNat (160 + j) := by simp [marks]

/-- what Hand made of bytes -/
structure Handed (σ : Store) (v : AVal) (x : List UInt8) (id : Nat) : Prop where
  val : v = .slice 1 id 0 0 x.length (some (x.length + 9))
  obj : σ[id]? = some (.arr 1 (B (x ++ marks)) 0 0)
theorem Handed.sl {σ : Store} {v : AVal} {x : List UInt8} {id : Nat} (h : Handed σ v x id) : SlOf σ 1 v (B x) := by
  obtain ⟨rfl, ho⟩ := h
  refine ⟨?_, by simp [lenSV, B_len], fun s id' ep off len c hc => ?_⟩
  · simp [elems, ho, B]
  · injection hc with _ _ _ _ e5 e6; injection e6 with e6; omega
theorem Handed.keep {σ σ' : Store} {v : AVal} {x : List UInt8} {id : Nat} (h : Handed σ v x id) {M : Nat → Prop} (hk : Keeps M σ σ') (hm : ¬ M id) : Handed σ' v x id := ⟨h.val, hk.get h.obj hm⟩

section
variable (d : Nat) (σ : Store)

theorem hand_ok (l : AVal) (x : List UInt8) (hx : x.length < 2 ^ 30) (hl : SlOf σ 1 l (B x)) : Called CN.cfg d 14 [l] σ fun v σ' => Handed σ' v x σ.length ∧ Grows σ σ' := by
  refine called_of (fn := CN.a14) rfl (Nat.le_of_ble_eq_true rfl) ?_
  have ll := hl.len
  rw [B_len] at ll
  have w : IntKind.i64.wrap ((x.length : Int) + 9) = ((x.length + 9 : Nat) : Int) := by rw [wrap_i64 (by omega) (by omega)]; omega
  have mk : mkslV σ 1 1 [.int .u8 0] false (.int .i64 ((x.length + 9 : Nat) : Int)) (.int .i64 ((x.length + 9 : Nat) : Int)) =
      some (.slice 1 σ.length 0 0 (x.length + 9) (some (x.length + 9)), σ ++ [.arr 1 (B (List.replicate (x.length + 9) 0)) 0 0]) := by
    have e : (0 : Int) ≤ ((x.length + 9 : Nat) : Int) ∧ ((x.length + 9 : Nat) : Int) ≤ ((x.length + 9 : Nat) : Int) ∧ ((x.length + 9 : Nat) : Int) * ((1 : Nat) : Int) ≤ apLim := by
      refine ⟨by omega, Int.le_refl _, ?_⟩
      have : (apLim : Int) = 70368744177664 := rfl
      omega
    simp only [mkslV]
    rw [if_pos e]
    simp [B, zel]
    omega
  simp only [CN.a14]
  simp -dsimp only [↓WPd, ↓wpC_block, ↓wpC_cond, WPu, Bool.false_eq_true, Bool.true_eq_false, Bool.not_true, Bool.not_false, if_true, if_false, ite_true, ite_false, Nat.reduceEqDiff, Nat.reduceLT, true_and, List.map_cons, List.map_nil, Nat.zero_add, Nat.reduceBEq, ll, w, mk]
  have ho : (σ ++ [AObj.arr 1 (B (List.replicate (x.length + 9) 0)) 0 0])[σ.length]? = some (.arr 1 (B (List.replicate (x.length + 9) 0)) 0 0) := by simp
  have hcur : ∀ (σ' : Store) (bs : List UInt8), Grows σ σ' → σ'[σ.length]? = some (.arr 1 (B bs) 0 0) → SlOf σ' 1 l (B x) := fun σ' bs g _ => hl.grow g
  refine loop_rule2 (fun m vs σ' => ∃ (k : Nat) (bs : List UInt8), k ≤ x.length ∧ m = x.length - k ∧ vs = [l, .slice 1 σ.length 0 0 (x.length + 9) (some (x.length + 9)), .int .i64 k] ∧ Grows σ σ' ∧ σ'[σ.length]? = some (.arr 1 (B bs) 0 0) ∧ bs.length = x.length + 9 ∧ bs.take k = (x ++ marks).take k)
    [0, 3] (fun e vs σ' => e = .exit 0 ∧ ∃ bs : List UInt8, vs = [l, .slice 1 σ.length 0 0 (x.length + 9) (some (x.length + 9))] ∧ Grows σ σ' ∧ σ'[σ.length]? = some (.arr 1 (B bs) 0 0) ∧ bs.length = x.length + 9 ∧ bs.take x.length = (x ++ marks).take x.length)
    x.length ⟨0, List.replicate (x.length + 9) 0, Nat.zero_le _, rfl, ?_, Grows.app _ _, ho, by simp, rfl⟩ ?_ ?_
  · simp -dsimp only [↓WPd, ↓wpC_block, ↓wpC_cond, WPu, Bool.false_eq_true, Bool.true_eq_false, Bool.not_true, Bool.not_false, if_true, if_false, ite_true, ite_false, Nat.reduceEqDiff, Nat.reduceLT, true_and, List.map_cons, List.map_nil, Nat.zero_add, Nat.reduceBEq]; rfl
  · rintro m vs σ' ⟨k, bs, hk, rfl, rfl, g, hob, hbl, ht⟩
    simp -dsimp only [↓WPd, ↓wpC_block, ↓wpC_cond, WPu, Bool.false_eq_true, Bool.true_eq_false, Bool.not_true, Bool.not_false, if_true, if_false, ite_true, ite_false, Nat.reduceEqDiff, Nat.reduceLT, true_and, List.map_cons, List.map_nil, Nat.zero_add, Nat.reduceBEq, ll]
    refine condP_dec (fun h => ?_) (fun h => ?_)
    · have hk' : k < x.length := by omega
      have hi : k < (B x).length := by rw [B_len]; exact hk'
      have hi2 : k < (B bs).length := by rw [B_len]; omega
      have hlx := hl.grow g
      have st := arr_store1 hob hi2 (x := .int .u8 (x[k]).toNat) rfl (by rw [B_get]; rfl)
      simp -dsimp only [↓WPd, ↓wpC_block, ↓wpC_cond, WPu, Bool.false_eq_true, Bool.true_eq_false, Bool.not_true, Bool.not_false, if_true, if_false, ite_true, ite_false, Nat.reduceEqDiff, Nat.reduceLT, true_and, List.map_cons, List.map_nil, Nat.zero_add, Nat.reduceBEq, hlx.iaddr hi, hlx.load1 hi (by rw [B_get]; rfl), B_get, arr_iaddr (show k < x.length + 9 by omega), st]
      have eb : (B bs).set k (.int .u8 (x[k]).toNat) = B (bs.set k x[k]) := by simp [B, List.map_set]
      refine ⟨x.length - (k + 1), by omega, k + 1, bs.set k x[k], by omega, rfl, ?_, ?_, ?_, by simpa using hbl, ?_⟩
      · rw [wrap_i64 (by omega) (by omega), Int.natCast_add, Int.natCast_one]
      · exact Keeps.trans g (Keeps.set _ _ _) fun i hi e => by omega
      · rw [eb]; exact List.getElem?_set_self (List.getElem?_eq_some_iff.1 hob).1
      · have := take_set_succ (l := bs) (y := x ++ marks) (k := k) (by omega) (by simp; omega) ht
        rwa [List.getElem_append_left hk'] at this
    · simp -dsimp only [↓WPd, ↓wpC_block, ↓wpC_cond, WPu, Bool.false_eq_true, Bool.true_eq_false, Bool.not_true, Bool.not_false, if_true, if_false, ite_true, ite_false, Nat.reduceEqDiff, Nat.reduceLT, true_and, List.map_cons, List.map_nil, Nat.zero_add, Nat.reduceBEq]
      have : k = x.length := by omega
      subst this
      exact ⟨bs, g, hob, hbl, ht⟩
  · rintro e σ' env ⟨rfl, bs, hv, g, hob, hbl, ht⟩
    simp only [List.map_cons, List.map_nil, List.cons.injEq, and_true] at hv
    obtain ⟨v0, v3⟩ := hv
    simp -dsimp only [↓WPd, ↓wpC_block, ↓wpC_cond, WPu, Bool.false_eq_true, Bool.true_eq_false, Bool.not_true, Bool.not_false, if_true, if_false, ite_true, ite_false, Nat.reduceEqDiff, Nat.reduceLT, true_and, List.map_cons, List.map_nil, Nat.zero_add, Nat.reduceBEq, v0, v3, ll]
    refine loop_rule2 (fun m vs σ' => ∃ (k : Nat) (bs : List UInt8), x.length ≤ k ∧ k ≤ x.length + 9 ∧ m = x.length + 9 - k ∧ vs = [l, .slice 1 σ.length 0 0 (x.length + 9) (some (x.length + 9)), .int .i64 k] ∧ Grows σ σ' ∧ σ'[σ.length]? = some (.arr 1 (B bs) 0 0) ∧ bs.length = x.length + 9 ∧ bs.take k = (x ++ marks).take k)
      [0, 3] (fun e vs σ' => e = .exit 2 ∧ vs = [l, .slice 1 σ.length 0 0 (x.length + 9) (some (x.length + 9))] ∧ Grows σ σ' ∧ σ'[σ.length]? = some (.arr 1 (B (x ++ marks)) 0 0))
      9 ⟨x.length, bs, Nat.le_refl _, by omega, by omega, ?_, g, hob, hbl, ht⟩ ?_ ?_
    · simp -dsimp only [↓WPd, ↓wpC_block, ↓wpC_cond, WPu, Bool.false_eq_true, Bool.true_eq_false, Bool.not_true, Bool.not_false, if_true, if_false, ite_true, ite_false, Nat.reduceEqDiff, Nat.reduceLT, true_and, List.map_cons, List.map_nil, Nat.zero_add, Nat.reduceBEq, v0, v3]
    · rintro m vs σ' ⟨k, bs, hk0, hk, rfl, rfl, g, hob, hbl, ht⟩
      have el : lenSV (.slice 1 σ.length 0 0 (x.length + 9) (some (x.length + 9))) = some (x.length + 9) := rfl
      simp -dsimp only [↓WPd, ↓wpC_block, ↓wpC_cond, WPu, Bool.false_eq_true, Bool.true_eq_false, Bool.not_true, Bool.not_false, if_true, if_false, ite_true, ite_false, Nat.reduceEqDiff, Nat.reduceLT, true_and, List.map_cons, List.map_nil, Nat.zero_add, Nat.reduceBEq, el]
      refine condP_dec (fun h => ?_) (fun h => ?_)
      · have hk' : k < x.length + 9 := by omega
        have hi2 : k < (B bs).length := by rw [B_len]; omega
        have w1 : IntKind.i64.wrap (160 + (k : Int)) = ((160 + k : Nat) : Int) := by rw [wrap_i64 (by omega) (by omega)]; omega
        have w2 : IntKind.i64.wrap (((160 + k : Nat) : Int) - (x.length : Int)) = ((160 + (k - x.length) : Nat) : Int) := by rw [wrap_i64 (by omega) (by omega)]; omega
        have c1 : convV .u8 (.int .i64 ((160 + (k - x.length) : Nat) : Int)) = some (.int .u8 ((UInt8.ofNat (160 + (k - x.length))).toNat : Int)) := by
          rw [convV_int, wrap_u8_mod, UInt8.toNat_ofNat']; rfl
        have st := arr_store1 hob hi2 (x := .int .u8 (UInt8.ofNat (160 + (k - x.length))).toNat) rfl (by rw [B_get]; rfl)
        simp -dsimp only [↓WPd, ↓wpC_block, ↓wpC_cond, WPu, Bool.false_eq_true, Bool.true_eq_false, Bool.not_true, Bool.not_false, if_true, if_false, ite_true, ite_false, Nat.reduceEqDiff, Nat.reduceLT, true_and, List.map_cons, List.map_nil, Nat.zero_add, Nat.reduceBEq, ll, w1, w2, c1, arr_iaddr (show k < x.length + 9 by omega), st]
        have eb : (B bs).set k (.int .u8 (UInt8.ofNat (160 + (k - x.length))).toNat) = B (bs.set k (UInt8.ofNat (160 + (k - x.length)))) := by simp [B, List.map_set]
        refine ⟨x.length + 9 - (k + 1), by omega, k + 1, bs.set k (UInt8.ofNat (160 + (k - x.length))), by omega, by omega, rfl, ?_, ?_, ?_, by simpa using hbl, ?_⟩
        · rw [wrap_i64 (by omega) (by omega), Int.natCast_add, Int.natCast_one]
        · exact Keeps.trans g (Keeps.set _ _ _) fun i hi e => by omega
        · rw [eb]; exact List.getElem?_set_self (List.getElem?_eq_some_iff.1 hob).1
        · have := take_set_succ (l := bs) (y := x ++ marks) (k := k) (by omega) (by simp [marks_len]; omega) ht
          rwa [List.getElem_append_right hk0, marks_get] at this
      · simp -dsimp only [↓WPd, ↓wpC_block, ↓wpC_cond, WPu, Bool.false_eq_true, Bool.true_eq_false, Bool.not_true, Bool.not_false, if_true, if_false, ite_true, ite_false, Nat.reduceEqDiff, Nat.reduceLT, true_and, List.map_cons, List.map_nil, Nat.zero_add, Nat.reduceBEq]
        have : k = x.length + 9 := by omega
        subst this
        have e1 : bs = x ++ marks := by
          rw [List.take_of_length_le (by omega), List.take_of_length_le (by simp [marks_len])] at ht
          exact ht
        rw [← e1]
        exact ⟨g, hob⟩
    · rintro e σ' env ⟨rfl, hv, g, hob⟩
      simp only [List.map_cons, List.map_nil, List.cons.injEq, and_true] at hv
      obtain ⟨v0, v3⟩ := hv
      have hsl : sliceV 1 (.slice 1 σ.length 0 0 (x.length + 9) (some (x.length + 9))) none (some (.int .i64 (x.length : Nat))) none = some (.slice 1 σ.length 0 0 x.length (some (x.length + 9))) := by
        simp only [sliceV, if_true, obnd_none, Option.getD_some]
        rw [obnd_some _ _ _ (show x.length ≤ x.length + 9 by omega)]
        simp
      simp -dsimp only [↓WPd, ↓wpC_block, ↓wpC_cond, WPu, Bool.false_eq_true, Bool.true_eq_false, Bool.not_true, Bool.not_false, if_true, if_false, ite_true, ite_false, Nat.reduceEqDiff, Nat.reduceLT, true_and, List.map_cons, List.map_nil, Nat.zero_add, Nat.reduceBEq, v0, v3, ll, oev, hsl]
      exact ⟨⟨rfl, hob⟩, g⟩

theorem kept_ok (v l : AVal) (x : List UInt8) (id : Nat) (hx : x.length < 2 ^ 30) (hv : Handed σ v x id) (hl : SlOf σ 1 l (B x)) : Called CN.cfg d 27 [v, l] σ fun r σ' => r = .bool true ∧ σ' = σ := by
  refine called_of (fn := CN.a27) rfl (Nat.le_of_ble_eq_true rfl) ?_
  have ll := hl.len
  rw [B_len] at ll
  simp only [CN.a27]
  simp -dsimp only [↓WPd, ↓wpC_block, ↓wpC_cond, WPu, Bool.false_eq_true, Bool.true_eq_false, Bool.not_true, Bool.not_false, if_true, if_false, ite_true, ite_false, Nat.reduceEqDiff, Nat.reduceLT, true_and, List.map_cons, List.map_nil, Nat.zero_add, Nat.reduceBEq]
  refine calledW_of (same_ok d σ v l x x (by omega) hv.sl hl) ?_
  rintro r σ1 ⟨rfl, rfl⟩
  have w : IntKind.i64.wrap ((x.length : Int) + 9) = ((x.length + 9 : Nat) : Int) := by rw [wrap_i64 (by omega) (by omega)]; omega
  have hsl : sliceV 1 v none (some (.int .i64 ((x.length + 9 : Nat) : Int))) none = some (.slice 1 id 0 0 (x.length + 9) (some (x.length + 9))) := by
    rw [hv.val]
    simp only [sliceV, if_true, obnd_none, Option.getD_some]
    rw [obnd_some _ _ _ (Nat.le_refl _)]
    simp
  simp -dsimp only [↓WPd, ↓wpC_block, ↓wpC_cond, WPu, Bool.false_eq_true, Bool.true_eq_false, Bool.not_true, Bool.not_false, if_true, if_false, ite_true, ite_false, Nat.reduceEqDiff, Nat.reduceLT, true_and, List.map_cons, List.map_nil, Nat.zero_add, Nat.reduceBEq, decide_true, ll, w, oev, hsl]
  refine loop_rule (fun m vs σ' => ∃ k : Nat, x.length ≤ k ∧ k ≤ x.length + 9 ∧ m = x.length + 9 - k ∧ σ' = σ1 ∧ vs = [l, .slice 1 id 0 0 (x.length + 9) (some (x.length + 9)), .int .i64 k]) 9 ⟨x.length, Nat.le_refl _, by omega, by omega, rfl, ?_⟩ ?_
  · simp -dsimp only [↓WPd, ↓wpC_block, ↓wpC_cond, WPu, Bool.false_eq_true, Bool.true_eq_false, Bool.not_true, Bool.not_false, if_true, if_false, ite_true, ite_false, Nat.reduceEqDiff, Nat.reduceLT, true_and, List.map_cons, List.map_nil, Nat.zero_add, Nat.reduceBEq]
  · rintro m vs σ' ⟨k, hk0, hk, rfl, rfl, rfl⟩
    have el : lenSV (.slice 1 id 0 0 (x.length + 9) (some (x.length + 9))) = some (x.length + 9) := rfl
    simp -dsimp only [↓WPd, ↓wpC_block, ↓wpC_cond, WPu, Bool.false_eq_true, Bool.true_eq_false, Bool.not_true, Bool.not_false, if_true, if_false, ite_true, ite_false, Nat.reduceEqDiff, Nat.reduceLT, true_and, List.map_cons, List.map_nil, Nat.zero_add, Nat.reduceBEq, el]
    refine condP_dec (fun h => ?_) (fun h => ?_)
    · have hk' : k < x.length + 9 := by omega
      have hi2 : k < (B (x ++ marks)).length := by rw [B_len]; simp [marks_len]; omega
      have w1 : IntKind.i64.wrap (160 + (k : Int)) = ((160 + k : Nat) : Int) := by rw [wrap_i64 (by omega) (by omega)]; omega
      have w2 : IntKind.i64.wrap (((160 + k : Nat) : Int) - (x.length : Int)) = ((160 + (k - x.length) : Nat) : Int) := by rw [wrap_i64 (by omega) (by omega)]; omega
      have c1 : convV .u8 (.int .i64 ((160 + (k - x.length) : Nat) : Int)) = some (.int .u8 ((UInt8.ofNat (160 + (k - x.length))).toNat : Int)) := by
        rw [convV_int, wrap_u8_mod, UInt8.toNat_ofNat']; rfl
      have ld := arr_load1 hv.obj (Nat.le_refl 0) hi2 (by rw [B_get]; rfl)
      have eg : (B (x ++ marks))[k] = .int .u8 (UInt8.ofNat (160 + (k - x.length))).toNat := by
        rw [B_get, List.getElem_append_right hk0, marks_get]
      rw [eg] at ld
      have en : (((UInt8.ofNat (160 + (k - x.length))).toNat : Int) != ((UInt8.ofNat (160 + (k - x.length))).toNat : Int)) = false := by simp
      simp -dsimp only [↓WPd, ↓wpC_block, ↓wpC_cond, WPu, Bool.false_eq_true, Bool.true_eq_false, Bool.not_true, Bool.not_false, if_true, if_false, ite_true, ite_false, Nat.reduceEqDiff, Nat.reduceLT, true_and, List.map_cons, List.map_nil, Nat.zero_add, Nat.reduceBEq, ll, w1, w2, c1, arr_iaddr (show k < x.length + 9 by omega), ld, en]
      refine ⟨x.length + 9 - (k + 1), by omega, k + 1, by omega, by omega, rfl, ?_⟩
      rw [wrap_i64 (by omega) (by omega), Int.natCast_add, Int.natCast_one]
    · simp -dsimp only [↓WPd, ↓wpC_block, ↓wpC_cond, WPu, Bool.false_eq_true, Bool.true_eq_false, Bool.not_true, Bool.not_false, if_true, if_false, ite_true, ite_false, Nat.reduceEqDiff, Nat.reduceLT, true_and, List.map_cons, List.map_nil, Nat.zero_add, Nat.reduceBEq]
end
end Go.Proofs.Ytmocplkpnickgaa.Am

/-
  Net, both: the document's Double; what is handed in; are both alike.
-/
namespace Go.Proofs.Ytmocplkpnickgaa.Am
open Go
set_option linter.unusedVariables false
set_option linter.unusedSimpArgs false
set_option linter.unusedSectionVars false
set_option maxRecDepth 100000

section
variable (d : Nat) (σ : Store) (id : Nat) (v : AVal) (c0 c1 c2 c3 n : Int) (es : List AVal) (ds : List Dg) (h : RNetOk σ id v c0 c1 c2 c3 n es ds) (hl : ds.length < 2 ^ 39)
include h hl

set_option maxHeartbeats 1000000 in
theorem refdouble_ok (k : Nat) (hk : k < ds.length) : Called CN.cfg d 87 [.ptr id 0, .int .i64 k] σ fun r σ' =>
    r = .int .i64 0 ∧ Keeps (fun i => i = id) σ σ' ∧ ∃ v' es', RNetOk σ' id v' c0 c1 c2 (IntKind.i64.wrap (c3 + 1)) n es' (ds ++ [ds[k]]) ∧ Fresh σ.length v' := by
  refine called_of (fn := CN.a87) rfl (Nat.le_of_ble_eq_true rfl) ?_
  simp only [CN.a87]
  simp -dsimp only [↓WPd, ↓wpC_block, ↓wpC_cond, WPu, Bool.false_eq_true, Bool.true_eq_false, Bool.not_true, Bool.not_false, if_true, if_false, ite_true, ite_false, Nat.reduceEqDiff, Nat.reduceLT, true_and, List.map_cons, List.map_nil, Nat.zero_add, Nat.reduceBEq]
  refine calledW_of (refat_ok d σ id v c0 c1 c2 c3 n es ds h hl k) ?_
  rintro r σ2 ⟨rfl, rfl⟩
  rw [if_pos ⟨by omega, by omega⟩]
  have c0' : ((0 : Int) == 0) = true := rfl
  simp -dsimp only [↓WPd, ↓wpC_block, ↓wpC_cond, WPu, Bool.false_eq_true, Bool.true_eq_false, Bool.not_true, Bool.not_false, if_true, if_false, ite_true, ite_false, Nat.reduceEqDiff, Nat.reduceLT, true_and, List.map_cons, List.map_nil, Nat.zero_add, Nat.reduceBEq, c0']
  have lr := h.rows.len
  obtain ⟨u, u1, u2⟩ := h.rows.get hk
  obtain ⟨e, rfl, e2, e3⟩ := cp u2
  have hi : k < es.length := by omega
  have eu : es[k] = ds[k].val e := by rw [List.getElem?_eq_getElem hi] at u1; exact Option.some.inj u1
  have idlt := (List.getElem?_eq_some_iff.1 h.obj).1
  have e0 : fillL 5 true (List.replicate 0 (zel [AVal.int .i64 0, .int .i64 0, .bool false, .int .i64 0, .nilslice] true)) [] = some [] := rfl
  have ob : Own σ2 5 (.fslice (AVal.tagL []) true 5 []) [] := Own.lit _ _ _ _
  obtain ⟨x, σ3, p1, p2, p3, p4, _⟩ := ob.append es 56 (by simp; omega)
  rw [List.nil_append] at p2
  have g3 : Grows σ2 σ3 := p3.mono fun i hi hm => by cases hm
  have N3 := h.grow g3
  have ld := N3.own.sl.loadA hi (by rw [eu]; rfl)
  have ld' : loadV σ3 5 true (addrOf 5 v k) = some (.agg [.int .i64 ds[k].f, .int .i64 ds[k].t, .bool ds[k].ack, .int .i64 ds[k].s, e]) := ld
  have ld2 := h.own.sl.loadA hi (by rw [eu]; rfl)
  have ld2' : loadV σ2 5 true (addrOf 5 v k) = some (.agg [.int .i64 ds[k].f, .int .i64 ds[k].t, .bool ds[k].ack, .int .i64 ds[k].s, e]) := ld2
  have e1' : fillL 5 true (List.replicate 1 (zel [AVal.int .i64 0, .int .i64 0, .bool false, .int .i64 0, .nilslice] true)) [(0, .agg [.int .i64 ds[k].f, .int .i64 ds[k].t, .bool ds[k].ack, .int .i64 ds[k].s, e])] = some [.agg [.int .i64 ds[k].f, .int .i64 ds[k].t, .bool ds[k].ack, .int .i64 ds[k].s, e]] := one_lit ds[k] e e2.one
  obtain ⟨y, σ4, q1, q2, q3, q4, _⟩ := p2.append [ds[k].val e] 56 (by simp; omega)
  have q1' : appendV σ3 5 56 x [.agg [.int .i64 ds[k].f, .int .i64 ds[k].t, .bool ds[k].ack, .int .i64 ds[k].s, e]] = some (y, σ4) := q1
  have xf : ∀ i, x.sid = some i → σ2.length ≤ i := fun i hi => by
    rcases p4 i hi with hh | hh
    · cases hh
    · omega
  have g24 : Grows σ2 σ4 := Keeps.trans g3 q3 fun i hi hm => by have := xf i hm; omega
  have N4 := h.grow g24
  have stn := store_cells N4.obj (off := 0) (by simp) (v := y) q2.one
  simp only [List.set_cons_zero, List.set_cons_succ] at stn
  refine drawnP_of rfl ?_
  simp -dsimp only [↓WPd, ↓wpC_block, ↓wpC_cond, WPu, Bool.false_eq_true, Bool.true_eq_false, Bool.not_true, Bool.not_false, if_true, if_false, ite_true, ite_false, Nat.reduceEqDiff, Nat.reduceLT, true_and, List.map_cons, List.map_nil, Nat.zero_add, Nat.reduceBEq, ↓WPed, WPeu, Nat.reduceAdd, and_self, e0, faddr_ptr, load_cells h.obj, load_cells N3.obj, List.getElem?_cons_zero, List.getElem?_cons_succ, h.own.sl.els, p1, h.own.sl.iaddr hi, ld', ld2', e1', elems_fs, q1', stn]
  have yf : ∀ i, y.sid = some i → σ2.length ≤ i := fun i hi => by
    rcases q4 i hi with hh | hh
    · exact xf i hh
    · have := g3.1; omega
  have k5 := Keeps.set σ4 id (.cells [y, .int .i64 n, .int .i64 c0, .int .i64 c1, .int .i64 c2, .int .i64 c3])
  have N5 : RNetOk (σ4.set id (.cells [y, .int .i64 n, .int .i64 c0, .int .i64 c1, .int .i64 c2, .int .i64 c3])) id y c0 c1 c2 c3 n (es ++ [ds[k].val e]) (ds ++ [ds[k]]) :=
    ⟨get_set N4.obj, q2.keeps k5 fun i hi hm => q2.noCell N4.obj (by rw [← hm]; exact hi), Two.push (rows_free N4.rows k5) ((u2.free g24).free k5)⟩
  have gk : Keeps (fun i => i = id) σ2 (σ4.set id (.cells [y, .int .i64 n, .int .i64 c0, .int .i64 c1, .int .i64 c2, .int .i64 c3])) := Keeps.trans (Grows.any g24) k5 fun i hi hm => hm
  generalize σ4.set id (.cells [y, .int .i64 n, .int .i64 c0, .int .i64 c1, .int .i64 c2, .int .i64 c3]) = σ5 at stn k5 N5 gk
  have aa : aaddrV 4 1 (.ptr id 2) (.int .i64 3) = some (.ptr id 5) := rfl
  have st6 := store_cells N5.obj (off := 5) (by simp) (v := .int .i64 (IntKind.i64.wrap (c3 + 1))) rfl
  simp only [List.set_cons_zero, List.set_cons_succ] at st6
  have ea : loadV σ5 1 false (.ptr id 5) = some (.int .i64 c3) := by rw [load_cells N5.obj]; rfl
  simp -dsimp only [↓WPd, ↓wpC_block, ↓wpC_cond, WPu, Bool.false_eq_true, Bool.true_eq_false, Bool.not_true, Bool.not_false, if_true, if_false, ite_true, ite_false, Nat.reduceEqDiff, Nat.reduceLT, true_and, List.map_cons, List.map_nil, Nat.zero_add, Nat.reduceBEq, faddr_ptr, aa, ea, st6]
  exact ⟨Keeps.trans gk (Keeps.set _ _ _) fun i hi hm => hm, y, _, N5.put, yf⟩

theorem refdouble_no (k : Int) (hk : ¬ (0 ≤ k ∧ k < ds.length)) : Called CN.cfg d 87 [.ptr id 0, .int .i64 k] σ fun r σ' => r = .int .i64 4 ∧ Grows σ σ' := by
  refine called_of (fn := CN.a87) rfl (Nat.le_of_ble_eq_true rfl) ?_
  simp only [CN.a87]
  simp -dsimp only [↓WPd, ↓wpC_block, ↓wpC_cond, WPu, Bool.false_eq_true, Bool.true_eq_false, Bool.not_true, Bool.not_false, if_true, if_false, ite_true, ite_false, Nat.reduceEqDiff, Nat.reduceLT, true_and, List.map_cons, List.map_nil, Nat.zero_add, Nat.reduceBEq]
  refine calledW_of (refat_ok d σ id v c0 c1 c2 c3 n es ds h hl k) ?_
  rintro r σ2 ⟨rfl, rfl⟩
  rw [if_neg hk]
  have c0' : ((4 : Int) == 0) = false := rfl
  simp -dsimp only [↓WPd, ↓wpC_block, ↓wpC_cond, WPu, Bool.false_eq_true, Bool.true_eq_false, Bool.not_true, Bool.not_false, if_true, if_false, ite_true, ite_false, Nat.reduceEqDiff, Nat.reduceLT, true_and, List.map_cons, List.map_nil, Nat.zero_add, Nat.reduceBEq, c0']
  exact Keeps.refl _ _
end

/-- datagrams that were handed in: each with bytes of its own, and marked room behind them -/
structure HRow (σ : Store) (lo : Nat) (l : AVal) (us : List AVal) (ids : List Nat) (ds : List Dg) : Prop where
  len : us.length = ds.length
  lid : ids.length = ds.length
  row : Own σ 5 l (List.zipWith Dg.val ds us)
  frl : Fresh lo l
  one : ∀ (i : Nat) (e : AVal) (p : Dg) (j : Nat), us[i]? = some e → ds[i]? = some p → ids[i]? = some j → Handed σ e p.bs j ∧ lo ≤ j
  apart : ∀ (i k j : Nat), ids[i]? = some j → ids[k]? = some j → i = k

theorem HRow.nil (σ : Store) (lo : Nat) : HRow σ lo .nilslice [] [] [] := ⟨rfl, rfl, Own.nil _ _, Fresh.nil _, fun i e p j h => by simp at h, fun i k j h => by simp at h⟩
theorem Handed.sid {σ : Store} {e : AVal} {x : List UInt8} {j : Nat} (h : Handed σ e x j) : e.sid = some j := by rw [h.val]; rfl
theorem HRow.at {σ : Store} {lo : Nat} {l : AVal} {us : List AVal} {ids : List Nat} {ds : List Dg} (h : HRow σ lo l us ids ds) {i : Nat} (hi : i < ds.length) : ∃ e j, us[i]? = some e ∧ ids[i]? = some j ∧ Handed σ e (ds[i]).bs j ∧ lo ≤ j := by
  have h1 : us[i]? = some (us[i]'(by rw [h.len]; exact hi)) := List.getElem?_eq_getElem _
  have h2 : ids[i]? = some (ids[i]'(by rw [h.lid]; exact hi)) := List.getElem?_eq_getElem _
  exact ⟨_, _, h1, h2, h.one i _ _ _ h1 (List.getElem?_eq_getElem hi) h2⟩
theorem HRow.keeps {σ σ' : Store} {lo : Nat} {l : AVal} {us : List AVal} {ids : List Nat} {ds : List Dg} (h : HRow σ lo l us ids ds) {M : Nat → Prop} (k : Keeps M σ σ') (hm : ∀ j, lo ≤ j → ¬ M j) : HRow σ' lo l us ids ds :=
  ⟨h.len, h.lid, h.row.keeps k fun j hj => hm j (h.frl j hj), h.frl, fun i e p j h1 h2 h3 => ⟨(h.one i e p j h1 h2 h3).1.keep k (hm j (h.one i e p j h1 h2 h3).2), (h.one i e p j h1 h2 h3).2⟩, h.apart⟩
theorem HRow.two {σ : Store} {lo : Nat} {l : AVal} {us : List AVal} {ids : List Nat} {ds : List Dg} (h : HRow σ lo l us ids ds) : Two (DgOk σ (fun j => lo ≤ j)) (List.zipWith Dg.val ds us) ds := by
  have hl := h.len
  refine Two.of_get (by simp [hl]) fun i a b ha hb => ?_
  have hi := (List.getElem?_eq_some_iff.1 hb).1
  obtain ⟨e, j, h1, h2, h3, h4⟩ := h.at hi
  have hbb : ds[i] = b := (List.getElem?_eq_some_iff.1 hb).2
  rw [hbb] at h3
  rw [List.getElem?_zipWith, hb, h1] at ha
  simp only [Option.some.injEq] at ha
  subst ha
  exact ⟨e, rfl, h3.sl, fun j' hj' => by rw [h3.sid] at hj'; injection hj' with hj'; omega⟩
theorem Own.noArr {σ : Store} {v : AVal} {es azs' : List AVal} {j ep fl : Nat} (h : Own σ 5 v es) (ho : σ[j]? = some (.arr 1 azs' ep fl)) : v.sid ≠ some j := by
  intro hv
  rcases h.own with ⟨rfl, _⟩ | ⟨t, rfl⟩ | ⟨id, ep, off, cap, xs, epo, fl, rfl, h1, _⟩
  · cases hv
  · cases hv
  · injection hv with hv; subst hv
    rw [ho] at h1; injection h1 with h1; injection h1 with h1; cases h1

theorem HRow.push {σ σ1 : Store} {lo : Nat} {l : AVal} {us : List AVal} {ids : List Nat} {ds : List Dg} (h : HRow σ lo l us ids ds) (hlo : lo ≤ σ.length) (g : Grows σ σ1) {e : AVal} {p : Dg} {j : Nat} (he : Handed σ1 e p.bs j) (hj : σ.length ≤ j) (hb : (ds.length + 1) * 56 ≤ 70368744177664) :
    ∃ l' σ2, appendV σ1 5 56 l [p.val e] = some (l', σ2) ∧ HRow σ2 lo l' (us ++ [e]) (ids ++ [j]) (ds ++ [p]) ∧ Keeps (fun i => lo ≤ i) σ1 σ2 := by
  have hl := h.len
  have hli := h.lid
  obtain ⟨l', σ2, h1, h2, h3, h4, h5⟩ := (h.row.grow g).append [p.val e] 56 (by simp [hl]; omega)
  have ez : List.zipWith Dg.val ds us ++ [p.val e] = List.zipWith Dg.val (ds ++ [p]) (us ++ [e]) := by
    rw [List.zipWith_append (by omega)]; rfl
  rw [ez] at h2
  refine ⟨l', σ2, h1, ⟨by simp [hl], by simp [hli], h2, fun i hi => ?_, fun i x q k hx hq hk => ?_, fun i k m hi hk => ?_⟩, h3.mono fun i hi hs => h.frl i hs⟩
  · rcases h4 i hi with hh | hh
    · exact h.frl i hh
    · have := g.1; omega
  · rcases snoc_get hx with ⟨hx, hlt⟩ | ⟨rfl, rfl⟩
    · rw [List.getElem?_append_left (by omega)] at hq hk
      obtain ⟨a1, a2⟩ := h.one i x q k hx hq hk
      have a3 := a1.keep g (fun h => h)
      exact ⟨a3.keep h3 ((h.row.grow g).noArr a3.obj), a2⟩
    · rw [hl, List.getElem?_append_right (Nat.le_refl _), Nat.sub_self] at hq
      rw [hl, ← hli, List.getElem?_append_right (Nat.le_refl _), Nat.sub_self] at hk
      simp at hq hk; subst hq; subst hk
      exact ⟨he.keep h3 ((h.row.grow g).noArr he.obj), by omega⟩
  · have old : ∀ {i m : Nat}, (ids ++ [j])[i]? = some m → i < ids.length → m < σ.length := fun {i m} hm hlt => by
      rw [List.getElem?_append_left hlt] at hm
      obtain ⟨e', j', b1, b2, b3, b4⟩ := h.at (i := i) (by omega)
      rw [hm] at b2; injection b2 with b2; subst b2
      exact (List.getElem?_eq_some_iff.1 b3.obj).1
    rcases snoc_get hi with ⟨hi', hil⟩ | ⟨hi', hie⟩ <;> rcases snoc_get hk with ⟨hk', hkl⟩ | ⟨hk', hke⟩
    · exact h.apart i k m hi' hk'
    · have := old hi hil; omega
    · have := old hk hkl; omega
    · omega

section
variable (d : Nat) (σ : Store)

theorem hands_ok (l : AVal) (fs : List AVal) (xs : List Dg) (hL : SlOf [] 5 l fs) (hx : Two (DgOk [] NoF) fs xs) (hn : xs.length < 2 ^ 36) (hs : ∀ p ∈ xs, p.bs.length < 2 ^ 30) :
    Called CN.cfg d 82 [l] σ fun r σ' => ∃ us ids, HRow σ' σ.length r us ids xs ∧ Grows σ σ' := by
  refine called_of (fn := CN.a82) rfl (Nat.le_of_ble_eq_true rfl) ?_
  have ll := hL.len
  rw [hx.len] at ll
  simp only [CN.a82]
  simp -dsimp only [↓WPd, ↓wpC_block, ↓wpC_cond, WPu, Bool.false_eq_true, Bool.true_eq_false, Bool.not_true, Bool.not_false, if_true, if_false, ite_true, ite_false, Nat.reduceEqDiff, Nat.reduceLT, true_and, List.map_cons, List.map_nil, Nat.zero_add, Nat.reduceBEq]
  refine loop_rule (fun m vs σ' => ∃ (k : Nat) (o : AVal) (us : List AVal) (ids : List Nat), k ≤ xs.length ∧ m = xs.length - k ∧ vs = [l, o, .int .i64 k] ∧ HRow σ' σ.length o us ids (xs.take k) ∧ Grows σ σ') xs.length ⟨0, .nilslice, [], [], Nat.zero_le _, rfl, ?_, HRow.nil _ _, Keeps.refl _ _⟩ ?_
  · simp -dsimp only [↓WPd, ↓wpC_block, ↓wpC_cond, WPu, Bool.false_eq_true, Bool.true_eq_false, Bool.not_true, Bool.not_false, if_true, if_false, ite_true, ite_false, Nat.reduceEqDiff, Nat.reduceLT, true_and, List.map_cons, List.map_nil, Nat.zero_add, Nat.reduceBEq]; rfl
  · rintro m vs σ1 ⟨k, o, us, ids, hk, rfl, rfl, H, g⟩
    simp -dsimp only [↓WPd, ↓wpC_block, ↓wpC_cond, WPu, Bool.false_eq_true, Bool.true_eq_false, Bool.not_true, Bool.not_false, if_true, if_false, ite_true, ite_false, Nat.reduceEqDiff, Nat.reduceLT, true_and, List.map_cons, List.map_nil, Nat.zero_add, Nat.reduceBEq, ll]
    refine condP_dec (fun hc => ?_) (fun hc => ?_)
    · have hk' : k < xs.length := by omega
      obtain ⟨u, a1, a2, a3, a4⟩ := Two.load5 (hL.grow (grows_nil σ1)) (rows_free hx (grows_nil σ1)) hk'
      obtain ⟨e, rfl, e2, e3⟩ := cp a3
      have st := new_store (σ := σ1) (n := 5) (zs := [.int .i64 0, .int .i64 0, .bool false, .int .i64 0, .nilslice]) rfl (cs := [.int .i64 xs[k].f, .int .i64 xs[k].t, .bool xs[k].ack, .int .i64 xs[k].s, e]) rfl (all5 e2.one _ _ _ _)
      have g2 : Grows σ1 (σ1 ++ [AObj.cells [.int .i64 xs[k].f, .int .i64 xs[k].t, .bool xs[k].ack, .int .i64 xs[k].s, e]]) := Grows.app _ _
      have o2 : (σ1 ++ [AObj.cells [.int .i64 xs[k].f, .int .i64 xs[k].t, .bool xs[k].ack, .int .i64 xs[k].s, e]])[σ1.length]? = some (.cells [.int .i64 xs[k].f, .int .i64 xs[k].t, .bool xs[k].ack, .int .i64 xs[k].s, e]) := by simp
      simp -dsimp only [↓WPd, ↓wpC_block, ↓wpC_cond, WPu, Bool.false_eq_true, Bool.true_eq_false, Bool.not_true, Bool.not_false, if_true, if_false, ite_true, ite_false, Nat.reduceEqDiff, Nat.reduceLT, true_and, List.map_cons, List.map_nil, Nat.zero_add, Nat.reduceBEq, a1, a2, Dg.val, st, faddr_ptr, load_cells o2, List.getElem?_cons_zero, List.getElem?_cons_succ]
      have l12 : σ1.length < (σ1 ++ [AObj.cells [.int .i64 xs[k].f, .int .i64 xs[k].t, .bool xs[k].ack, .int .i64 xs[k].s, e]]).length := by simp
      generalize σ1 ++ [AObj.cells [.int .i64 xs[k].f, .int .i64 xs[k].t, .bool xs[k].ack, .int .i64 xs[k].s, e]] = σ2 at g2 o2 l12
      refine calledW_of (hand_ok d σ2 e xs[k].bs (hs _ (List.getElem_mem hk')) (e2.grow g2)) ?_
      rintro w σ3 ⟨hd, g3⟩
      have o3 := g3.get o2
      have hwone := hd.sl.one
      have st3 := store_cells o3 (off := 4) (by simp) (v := w) hwone
      simp only [List.set_cons_zero, List.set_cons_succ] at st3
      have o4 := get_set (o' := .cells [.int .i64 xs[k].f, .int .i64 xs[k].t, .bool xs[k].ack, .int .i64 xs[k].s, w]) o3
      have k4 := Keeps.set σ3 σ1.length (.cells [.int .i64 xs[k].f, .int .i64 xs[k].t, .bool xs[k].ack, .int .i64 xs[k].s, w])
      have g4 : Grows σ1 (σ3.set σ1.length (.cells [.int .i64 xs[k].f, .int .i64 xs[k].t, .bool xs[k].ack, .int .i64 xs[k].s, w])) := Keeps.trans (g2.trans g3) k4 fun i hi hm => by omega
      have hd4 := hd.keep k4 (by omega)
      generalize σ3.set σ1.length (.cells [.int .i64 xs[k].f, .int .i64 xs[k].t, .bool xs[k].ack, .int .i64 xs[k].s, w]) = σ4 at st3 o4 g4 hd4
      have e1' : fillL 5 true (List.replicate 1 (zel [AVal.int .i64 0, .int .i64 0, .bool false, .int .i64 0, .nilslice] true)) [(0, .agg [.int .i64 xs[k].f, .int .i64 xs[k].t, .bool xs[k].ack, .int .i64 xs[k].s, w])] = some [.agg [.int .i64 xs[k].f, .int .i64 xs[k].t, .bool xs[k].ack, .int .i64 xs[k].s, w]] := one_lit xs[k] w hwone
      obtain ⟨o', σ5, p1, p2, p3⟩ := H.push g.1 g4 hd4 (by omega) (by simp; omega)
      have p1' : appendV σ4 5 56 o [.agg [.int .i64 xs[k].f, .int .i64 xs[k].t, .bool xs[k].ack, .int .i64 xs[k].s, w]] = some (o', σ5) := p1
      simp -dsimp only [↓WPd, ↓wpC_block, ↓wpC_cond, WPu, Bool.false_eq_true, Bool.true_eq_false, Bool.not_true, Bool.not_false, if_true, if_false, ite_true, ite_false, Nat.reduceEqDiff, Nat.reduceLT, true_and, List.map_cons, List.map_nil, Nat.zero_add, Nat.reduceBEq, faddr_ptr, st3, loadN_cells (n := 5) o4 rfl, e1', elems_fs, p1']
      refine ⟨xs.length - (k + 1), by omega, k + 1, o', _, _, by omega, rfl, ?_, by rw [List.take_add_one, List.getElem?_eq_getElem hk']; exact p2, ?_⟩
      · rw [wrap_i64 (by omega) (by omega), Int.natCast_add, Int.natCast_one]
      · exact Keeps.trans (g.trans g4) p3 fun i hi hm => by omega
    · simp -dsimp only [↓WPd, ↓wpC_block, ↓wpC_cond, WPu, Bool.false_eq_true, Bool.true_eq_false, Bool.not_true, Bool.not_false, if_true, if_false, ite_true, ite_false, Nat.reduceEqDiff, Nat.reduceLT, true_and, List.map_cons, List.map_nil, Nat.zero_add, Nat.reduceBEq]
      have : k = xs.length := by omega
      subst this
      rw [List.take_length] at H
      exact ⟨us, ids, H, g⟩

theorem keptdgs_ok (v l : AVal) (lo : Nat) (us : List AVal) (ids : List Nat) (fs : List AVal) (xs : List Dg) (H : HRow σ lo v us ids xs) (hL : SlOf [] 5 l fs) (hx : Two (DgOk [] NoF) fs xs) (hn : xs.length < 2 ^ 36) (hs : ∀ p ∈ xs, p.bs.length < 2 ^ 30) :
    Called CN.cfg d 84 [v, l] σ fun r σ' => r = .bool true ∧ Grows σ σ' := by
  refine called_of (fn := CN.a84) rfl (Nat.le_of_ble_eq_true rfl) ?_
  have ll := hL.len
  rw [hx.len] at ll
  have hlen := H.len
  simp only [CN.a84]
  simp -dsimp only [↓WPd, ↓wpC_block, ↓wpC_cond, WPu, Bool.false_eq_true, Bool.true_eq_false, Bool.not_true, Bool.not_false, if_true, if_false, ite_true, ite_false, Nat.reduceEqDiff, Nat.reduceLT, true_and, List.map_cons, List.map_nil, Nat.zero_add, Nat.reduceBEq]
  refine calledW_of (samedgs_ok d σ v l _ fs xs xs (by omega) (fun p hp => by have := hs p hp; omega) H.row.sl (hL.grow (grows_nil σ)) H.two (rows_free hx (grows_nil σ))) ?_
  rintro r σ1 ⟨rfl, g1⟩
  simp -dsimp only [↓WPd, ↓wpC_block, ↓wpC_cond, WPu, Bool.false_eq_true, Bool.true_eq_false, Bool.not_true, Bool.not_false, if_true, if_false, ite_true, ite_false, Nat.reduceEqDiff, Nat.reduceLT, true_and, List.map_cons, List.map_nil, Nat.zero_add, Nat.reduceBEq, decide_true]
  have H1 := H.keeps g1 fun _ _ h => h
  refine loop_rule (fun m vs σ' => ∃ k : Nat, k ≤ xs.length ∧ m = xs.length - k ∧ vs = [v, l, .int .i64 k] ∧ σ' = σ1) xs.length ⟨0, Nat.zero_le _, rfl, ?_, rfl⟩ ?_
  · simp -dsimp only [↓WPd, ↓wpC_block, ↓wpC_cond, WPu, Bool.false_eq_true, Bool.true_eq_false, Bool.not_true, Bool.not_false, if_true, if_false, ite_true, ite_false, Nat.reduceEqDiff, Nat.reduceLT, true_and, List.map_cons, List.map_nil, Nat.zero_add, Nat.reduceBEq]; rfl
  · rintro m vs σ2 ⟨k, hk, rfl, rfl, rfl⟩
    simp -dsimp only [↓WPd, ↓wpC_block, ↓wpC_cond, WPu, Bool.false_eq_true, Bool.true_eq_false, Bool.not_true, Bool.not_false, if_true, if_false, ite_true, ite_false, Nat.reduceEqDiff, Nat.reduceLT, true_and, List.map_cons, List.map_nil, Nat.zero_add, Nat.reduceBEq, ll]
    refine condP_dec (fun hc => ?_) (fun hc => ?_)
    · have hk' : k < xs.length := by omega
      obtain ⟨e, j, h1, h2, h3, h4⟩ := H1.at hk'
      have hi : k < (List.zipWith Dg.val xs us).length := by simp; omega
      have hz : (List.zipWith Dg.val xs us)[k] = xs[k].val e := by
        have : (List.zipWith Dg.val xs us)[k]? = some (xs[k].val e) := by rw [List.getElem?_zipWith, List.getElem?_eq_getElem hk', h1]
        rw [List.getElem?_eq_getElem hi] at this; exact Option.some.inj this
      have b1 := (H1.row.sl.addr hi .i64).2
      rw [hz] at b1
      obtain ⟨q, q1, q2⟩ := faddr_load b1 4
      obtain ⟨u, u1, u2⟩ := (rows_free hx (grows_nil σ2)).get hk'
      obtain ⟨f, rfl, f2, f3⟩ := cp u2
      have hif : k < fs.length := by rw [hx.len]; exact hk'
      have hzf : fs[k] = xs[k].val f := by rw [List.getElem?_eq_getElem hif] at u1; exact Option.some.inj u1
      have b2 := ((hL.grow (grows_nil σ2)).addr hif .i64).2
      rw [hzf] at b2
      obtain ⟨q', q3, q4⟩ := faddr_load b2 4
      have q2' : loadV σ2 1 false q = some e := q2
      have q4' : loadV σ2 1 false q' = some f := q4
      simp -dsimp only [↓WPd, ↓wpC_block, ↓wpC_cond, WPu, Bool.false_eq_true, Bool.true_eq_false, Bool.not_true, Bool.not_false, if_true, if_false, ite_true, ite_false, Nat.reduceEqDiff, Nat.reduceLT, true_and, List.map_cons, List.map_nil, Nat.zero_add, Nat.reduceBEq, H1.row.sl.iaddr hi, q1, q2', (hL.grow (grows_nil σ2)).iaddr hif, q3, q4']
      refine calledW_of (kept_ok d σ2 e f xs[k].bs j (hs _ (List.getElem_mem hk')) h3 f2) ?_
      rintro r σ3 ⟨rfl, rfl⟩
      simp -dsimp only [↓WPd, ↓wpC_block, ↓wpC_cond, WPu, Bool.false_eq_true, Bool.true_eq_false, Bool.not_true, Bool.not_false, if_true, if_false, ite_true, ite_false, Nat.reduceEqDiff, Nat.reduceLT, true_and, List.map_cons, List.map_nil, Nat.zero_add, Nat.reduceBEq]
      refine ⟨xs.length - (k + 1), by omega, k + 1, by omega, rfl, ?_⟩
      exact ⟨by rw [wrap_i64 (by omega) (by omega), Int.natCast_add, Int.natCast_one], trivial⟩
    · simp -dsimp only [↓WPd, ↓wpC_block, ↓wpC_cond, WPu, Bool.false_eq_true, Bool.true_eq_false, Bool.not_true, Bool.not_false, if_true, if_false, ite_true, ite_false, Nat.reduceEqDiff, Nat.reduceLT, true_and, List.map_cons, List.map_nil, Nat.zero_add, Nat.reduceBEq]
      exact g1
end
end Go.Proofs.Ytmocplkpnickgaa.Am

/-
  Net, both: are they alike.
-/
namespace Go.Proofs.Ytmocplkpnickgaa.Am
open Go
set_option linter.unusedVariables false
set_option linter.unusedSimpArgs false
set_option linter.unusedSectionVars false
set_option maxRecDepth 100000

/-- both networks, and that they share nothing -/
structure NB (σ : Store) (F : Nat → Prop) (id : Nat) (v : AVal) (jd : Nat) (w : AVal) (ds : List Dg) : Prop where
  ex : ∃ (c0 c1 c2 c3 n : Int) (es es' : List AVal), NetOk σ F id v c0 c1 c2 c3 n es ds ∧ RNetOk σ jd w c0 c1 c2 c3 n es' ds
  sep : ∀ j, v.sid = some j → w.sid ≠ some j

section
variable {σ σ' : Store} {F : Nat → Prop} {id : Nat} {v : AVal} {jd : Nat} {w : AVal} {ds : List Dg} {c0 c1 c2 c3 n b0 b1 b2 b3 m : Int} {es es' : List AVal} {qs : List Dg}

theorem NetOk.lt (h : NetOk σ F id v c0 c1 c2 c3 n es ds) : NetOk σ (fun j => j < σ.length) id v c0 c1 c2 c3 n es ds :=
  ⟨h.obj, h.own, h.rows.mono fun _ _ h' => by obtain ⟨e, h1, h2, h3⟩ := h'; exact ⟨e, h1, h2, fun j hj => h2.sl.lt hj⟩⟩
theorem net_neq (h : NetOk σ F id v c0 c1 c2 c3 n es ds) (r : RNetOk σ jd w b0 b1 b2 b3 m es' qs) : id ≠ jd := fun e => by
  have h1 := h.obj; have h2 := r.obj
  rw [e, h2] at h1
  injection h1 with h1; injection h1 with h1; injection h1 with h1 _
  have := r.own.own
  rw [h1] at this
  rcases this with ⟨h, _⟩ | ⟨t, h⟩ | ⟨_, _, _, _, _, _, _, h, _⟩ <;> cases h
/-- the document's one, when the program's one has gone on -/
theorem net_first (h : NetOk σ F id v c0 c1 c2 c3 n es ds) (r : RNetOk σ jd w b0 b1 b2 b3 m es' qs) (sep : ∀ j, v.sid = some j → w.sid ≠ some j) (k : Keeps (fun i => i = id ∨ v.sid = some i) σ σ') : RNetOk σ' jd w b0 b1 b2 b3 m es' qs :=
  r.keeps k (fun hm => by
    rcases hm with hm | hm
    · exact net_neq h r hm.symm
    · exact h.own.noCell r.obj hm) fun j hj hm => by
    rcases hm with hm | hm
    · exact r.own.noCell h.obj (by rw [← hm]; exact hj)
    · exact sep j hm hj
/-- .. the other way round -/
theorem net_second (h : NetOk σ F id v c0 c1 c2 c3 n es ds) (r : RNetOk σ jd w b0 b1 b2 b3 m es' qs) (sep : ∀ j, v.sid = some j → w.sid ≠ some j) (k : Keeps (fun i => i = jd ∨ w.sid = some i) σ σ') : NetOk σ' F id v c0 c1 c2 c3 n es ds :=
  ⟨k.get h.obj (fun hm => by
    rcases hm with hm | hm
    · exact net_neq h r hm
    · exact r.own.noCell h.obj hm), h.own.keeps k fun j hj hm => by
    rcases hm with hm | hm
    · exact h.own.noCell r.obj (by rw [← hm]; exact hj)
    · exact sep j hj hm, h.rows.mono fun _ _ h' => by
    obtain ⟨e, h1, h2, h3⟩ := h'
    exact ⟨e, h1, h2.keeps k fun j hj hm => by
      rcases hm with hm | hm
      · exact h2.noCell r.obj (by rw [← hm]; exact hj)
      · exact r.own.sizes h2 (by decide) hm hj, h3⟩⟩
theorem NB.grow (h : NB σ F id v jd w ds) (g : Grows σ σ') : NB σ' F id v jd w ds := by
  obtain ⟨⟨c0, c1, c2, c3, n, es, es', h1, h2⟩, h3⟩ := h
  exact ⟨⟨c0, c1, c2, c3, n, es, es', h1.grow g, h2.grow g⟩, h3⟩
theorem NB.lt (h : NB σ F id v jd w ds) : NB σ (fun j => j < σ.length) id v jd w ds := by
  obtain ⟨⟨c0, c1, c2, c3, n, es, es', h1, h2⟩, h3⟩ := h
  exact ⟨⟨c0, c1, c2, c3, n, es, es', h1.lt, h2⟩, h3⟩
theorem NB.keeps {M : Nat → Prop} (h : NB σ F id v jd w ds) (k : Keeps M σ σ') (hf : ∀ j, F j → ¬ M j) (hid : ¬ M id) (hv : ∀ j, v.sid = some j → ¬ M j) (hjd : ¬ M jd) (hw : ∀ j, w.sid = some j → ¬ M j) : NB σ' F id v jd w ds := by
  obtain ⟨⟨c0, c1, c2, c3, n, es, es', h1, h2⟩, h3⟩ := h
  exact ⟨⟨c0, c1, c2, c3, n, es, es', h1.keeps k hf hid hv, h2.keeps k hjd hw⟩, h3⟩
theorem NB.mono {G : Nat → Prop} (h : NB σ F id v jd w ds) (hm : ∀ j, F j → G j) : NB σ G id v jd w ds := by
  obtain ⟨⟨c0, c1, c2, c3, n, es, es', h1, h2⟩, h3⟩ := h
  exact ⟨⟨c0, c1, c2, c3, n, es, es', h1.mono hm, h2⟩, h3⟩
theorem NB.id_lt (h : NB σ F id v jd w ds) : id < σ.length ∧ jd < σ.length ∧ (∀ j, v.sid = some j → j < σ.length) ∧ ∀ j, w.sid = some j → j < σ.length := by
  obtain ⟨⟨c0, c1, c2, c3, n, es, es', h1, h2⟩, h3⟩ := h
  exact ⟨(List.getElem?_eq_some_iff.1 h1.obj).1, (List.getElem?_eq_some_iff.1 h2.obj).1, fun j hj => h1.own.sl.lt hj, fun j hj => h2.own.sl.lt hj⟩
end

section
variable (d : Nat) (σ : Store)

set_option maxHeartbeats 4000000 in
theorem nalike_ok {F : Nat → Prop} (id : Nat) (v : AVal) (jd : Nat) (w : AVal) (ds : List Dg) (h : NB σ F id v jd w ds) (hl : ds.length < 2 ^ 38) (hs : ∀ p ∈ ds, p.bs.length < 2 ^ 40) :
    Called CN.cfg d 60 [.agg [.ptr id 0, .ptr jd 0], .int .i64 4] σ fun r σ' => r = .bool true ∧ Grows σ σ' := by
  refine called_of (fn := CN.a60) rfl (Nat.le_of_ble_eq_true rfl) ?_
  obtain ⟨⟨c0, c1, c2, c3, n, es, es', N, R⟩, sep⟩ := h
  have eb : [AVal.ptr id 0, .ptr jd 0].all AVal.one = true := rfl
  simp only [CN.a60]
  simp -dsimp only [↓WPd, ↓wpC_block, ↓wpC_cond, WPu, Bool.false_eq_true, Bool.true_eq_false, Bool.not_true, Bool.not_false, if_true, if_false, ite_true, ite_false, Nat.reduceEqDiff, Nat.reduceLT, true_and, List.map_cons, List.map_nil, Nat.zero_add, Nat.reduceBEq, eb, cells_agg]
  have g0 : Grows σ (σ ++ [AObj.cells [.ptr id 0, .ptr jd 0]]) := Grows.app _ _
  have ob : (σ ++ [AObj.cells [.ptr id 0, .ptr jd 0]])[σ.length]? = some (.cells [.ptr id 0, .ptr jd 0]) := by simp
  generalize σ ++ [AObj.cells [.ptr id 0, .ptr jd 0]] = σ0 at g0 ob
  have N0 := N.grow g0
  have R0 := R.grow g0
  simp -dsimp only [↓WPd, ↓wpC_block, ↓wpC_cond, WPu, Bool.false_eq_true, Bool.true_eq_false, Bool.not_true, Bool.not_false, if_true, if_false, ite_true, ite_false, Nat.reduceEqDiff, Nat.reduceLT, true_and, List.map_cons, List.map_nil, Nat.zero_add, Nat.reduceBEq, faddr_ptr, load_cells ob, List.getElem?_cons_zero, List.getElem?_cons_succ]
  refine calledW_of (counts_ok d σ0 id v c0 c1 c2 c3 n es ds N0 (by omega)) ?_
  rintro r σ1 ⟨rfl, rfl⟩
  simp -dsimp only [↓WPd, ↓wpC_block, ↓wpC_cond, WPu, Bool.false_eq_true, Bool.true_eq_false, Bool.not_true, Bool.not_false, if_true, if_false, ite_true, ite_false, Nat.reduceEqDiff, Nat.reduceLT, true_and, List.map_cons, List.map_nil, Nat.zero_add, Nat.reduceBEq, faddr_ptr, load_cells ob, List.getElem?_cons_zero, List.getElem?_cons_succ]
  refine calledW_of (refcounts_ok d σ1 jd w c0 c1 c2 c3 n es' ds R0 (by omega)) ?_
  rintro r σ2 ⟨rfl, rfl⟩
  simp -dsimp only [↓WPd, ↓wpC_block, ↓wpC_cond, WPu, Bool.false_eq_true, Bool.true_eq_false, Bool.not_true, Bool.not_false, if_true, if_false, ite_true, ite_false, Nat.reduceEqDiff, Nat.reduceLT, true_and, List.map_cons, List.map_nil, Nat.zero_add, Nat.reduceBEq, faddr_ptr, load_cells ob, List.getElem?_cons_zero, List.getElem?_cons_succ]
  refine drawnP_of rfl ?_
  simp -dsimp only [↓WPd, ↓wpC_block, ↓wpC_cond, WPu, Bool.false_eq_true, Bool.true_eq_false, Bool.not_true, Bool.not_false, if_true, if_false, ite_true, ite_false, Nat.reduceEqDiff, Nat.reduceLT, true_and, List.map_cons, List.map_nil, Nat.zero_add, Nat.reduceBEq, ↓WPed, WPeu, Nat.reduceAdd, and_self, faddr_ptr, load_cells ob, List.getElem?_cons_zero, List.getElem?_cons_succ]
  refine calledW_of (waiting_ok d σ2 id v c0 c1 c2 c3 n es ds N0 (by omega) hs) ?_
  rintro wl σ3 ⟨us, W, g3⟩
  have ob3 := g3.get ob
  simp -dsimp only [↓WPd, ↓wpC_block, ↓wpC_cond, WPu, Bool.false_eq_true, Bool.true_eq_false, Bool.not_true, Bool.not_false, if_true, if_false, ite_true, ite_false, Nat.reduceEqDiff, Nat.reduceLT, true_and, List.map_cons, List.map_nil, Nat.zero_add, Nat.reduceBEq, ↓WPed, WPeu, Nat.reduceAdd, and_self, faddr_ptr, load_cells ob, load_cells ob3, List.getElem?_cons_zero, List.getElem?_cons_succ]
  refine calledW_of (refwaiting_ok d σ3 jd w c0 c1 c2 c3 n es' ds (R0.grow g3) (by omega)) ?_
  rintro r σ4 ⟨rfl, rfl⟩
  simp -dsimp only [↓WPd, ↓wpC_block, ↓wpC_cond, WPu, Bool.false_eq_true, Bool.true_eq_false, Bool.not_true, Bool.not_false, if_true, if_false, ite_true, ite_false, Nat.reduceEqDiff, Nat.reduceLT, true_and, List.map_cons, List.map_nil, Nat.zero_add, Nat.reduceBEq, ↓WPed, WPeu, Nat.reduceAdd, and_self, faddr_ptr, load_cells ob, load_cells ob3, List.getElem?_cons_zero, List.getElem?_cons_succ]
  refine calledW_of (samedgs_ok d σ4 wl r _ es' ds ds (by omega) hs W.row.sl (R0.grow g3).own.sl (W.two.mono fun _ _ h => h.ok) (R0.grow g3).rows) ?_
  rintro q σ5 ⟨rfl, g5⟩
  have ob5 := g5.get ob3
  have N5 := (N0.grow g3).grow g5
  have R5 := (R0.grow g3).grow g5
  have lr := R5.own.sl.len
  rw [R5.rows.len] at lr
  simp -dsimp only [↓WPd, ↓wpC_block, ↓wpC_cond, WPu, Bool.false_eq_true, Bool.true_eq_false, Bool.not_true, Bool.not_false, if_true, if_false, ite_true, ite_false, Nat.reduceEqDiff, Nat.reduceLT, true_and, List.map_cons, List.map_nil, Nat.zero_add, Nat.reduceBEq, ↓WPed, WPeu, Nat.reduceAdd, and_self, decide_true, faddr_ptr, load_cells ob, load_cells ob3, load_cells ob5, List.getElem?_cons_zero, List.getElem?_cons_succ]
  refine calledW_of (netlen_ok d σ5 id v c0 c1 c2 c3 n es ds N5) ?_
  rintro q σ6 ⟨rfl, rfl⟩
  have cl : (((ds.length : Nat) : Int) != ((ds.length : Nat) : Int)) = false := by simp
  have q0 : (c0 != c0) = false := by simp
  have q1 : (c1 != c1) = false := by simp
  have q2 : (c2 != c2) = false := by simp
  have q3 : (c3 != c3) = false := by simp
  simp -dsimp only [↓WPd, ↓wpC_block, ↓wpC_cond, WPu, Bool.false_eq_true, Bool.true_eq_false, Bool.not_true, Bool.not_false, if_true, if_false, ite_true, ite_false, Nat.reduceEqDiff, Nat.reduceLT, true_and, List.map_cons, List.map_nil, Nat.zero_add, Nat.reduceBEq, ↓WPed, WPeu, Nat.reduceAdd, and_self, faddr_ptr, load_cells ob3, load_cells ob5, load_cells R5.obj, load_cells (R0.grow g3).obj, List.getElem?_cons_zero, List.getElem?_cons_succ, lr, cl, q0, q1, q2, q3]
  refine loop_rule (fun m vs σ' => ∃ k : Nat, k ≤ 6 ∧ m = 6 - k ∧ vs = [.int .i64 4, .ptr σ.length 0, .int .i64 ((k : Int) - 1)] ∧ Grows σ6 σ') 6 ⟨0, Nat.zero_le _, rfl, ?_, Keeps.refl _ _⟩ ?_
  · simp -dsimp only [↓WPd, ↓wpC_block, ↓wpC_cond, WPu, Bool.false_eq_true, Bool.true_eq_false, Bool.not_true, Bool.not_false, if_true, if_false, ite_true, ite_false, Nat.reduceEqDiff, Nat.reduceLT, true_and, List.map_cons, List.map_nil, Nat.zero_add, Nat.reduceBEq]; rfl
  · rintro m vs σ7 ⟨k, hk, rfl, rfl, g7⟩
    have ob7 := g7.get ob5
    have N7 := N5.grow g7
    have R7 := R5.grow g7
    by_cases hk6 : k < 6
    · have dk : decide (((k : Int) - 1) ≤ 4) = true := decide_eq_true (by omega)
      simp -dsimp only [↓WPd, ↓wpC_block, ↓wpC_cond, WPu, Bool.false_eq_true, Bool.true_eq_false, Bool.not_true, Bool.not_false, if_true, if_false, ite_true, ite_false, Nat.reduceEqDiff, Nat.reduceLT, true_and, List.map_cons, List.map_nil, Nat.zero_add, Nat.reduceBEq, dk]
      refine drawnP_of rfl ?_
      simp -dsimp only [↓WPd, ↓wpC_block, ↓wpC_cond, WPu, Bool.false_eq_true, Bool.true_eq_false, Bool.not_true, Bool.not_false, if_true, if_false, ite_true, ite_false, Nat.reduceEqDiff, Nat.reduceLT, true_and, List.map_cons, List.map_nil, Nat.zero_add, Nat.reduceBEq, ↓WPed, WPeu, Nat.reduceAdd, and_self, faddr_ptr, load_cells ob7, List.getElem?_cons_zero, List.getElem?_cons_succ]
      refine calledW_of (netto_ok d σ7 id v c0 c1 c2 c3 n es ds N7 (by omega) ((k : Int) - 1)) ?_
      rintro t1 σ8 ⟨O8, f8, n8, g8⟩
      have ob8 := g8.get ob7
      simp -dsimp only [↓WPd, ↓wpC_block, ↓wpC_cond, WPu, Bool.false_eq_true, Bool.true_eq_false, Bool.not_true, Bool.not_false, if_true, if_false, ite_true, ite_false, Nat.reduceEqDiff, Nat.reduceLT, true_and, List.map_cons, List.map_nil, Nat.zero_add, Nat.reduceBEq, ↓WPed, WPeu, Nat.reduceAdd, and_self, faddr_ptr, load_cells ob7, load_cells ob8, List.getElem?_cons_zero, List.getElem?_cons_succ]
      refine calledW_of (refto_ok d σ8 jd r c0 c1 c2 c3 n es' ds (R7.grow g8) (by omega) ((k : Int) - 1)) ?_
      rintro t2 σ9 ⟨O9, f9, n9, g9⟩
      have hlen := toL_len ds ((k : Int) - 1) ds.length
      simp -dsimp only [↓WPd, ↓wpC_block, ↓wpC_cond, WPu, Bool.false_eq_true, Bool.true_eq_false, Bool.not_true, Bool.not_false, if_true, if_false, ite_true, ite_false, Nat.reduceEqDiff, Nat.reduceLT, true_and, List.map_cons, List.map_nil, Nat.zero_add, Nat.reduceBEq, ↓WPed, WPeu, Nat.reduceAdd, and_self]
      refine calledW_of (sameints_ok d σ9 t1 t2 _ (by omega) (O8.grow g9).sl O9.sl) ?_
      rintro q σ10 ⟨rfl, rfl⟩
      simp -dsimp only [↓WPd, ↓wpC_block, ↓wpC_cond, WPu, Bool.false_eq_true, Bool.true_eq_false, Bool.not_true, Bool.not_false, if_true, if_false, ite_true, ite_false, Nat.reduceEqDiff, Nat.reduceLT, true_and, List.map_cons, List.map_nil, Nat.zero_add, Nat.reduceBEq, ↓WPed, WPeu, Nat.reduceAdd, and_self]
      refine ⟨6 - (k + 1), by omega, k + 1, by omega, rfl, ?_, g7.trans (g8.trans g9)⟩
      have hw : IntKind.i64.wrap ((k : Int) - 1 + 1) = ((k + 1 : Nat) : Int) - 1 := by rw [wrap_i64 (by omega) (by omega)]; omega
      rw [hw]
    · have dk : decide (((k : Int) - 1) ≤ 4) = false := decide_eq_false (by omega)
      simp -dsimp only [↓WPd, ↓wpC_block, ↓wpC_cond, WPu, Bool.false_eq_true, Bool.true_eq_false, Bool.not_true, Bool.not_false, if_true, if_false, ite_true, ite_false, Nat.reduceEqDiff, Nat.reduceLT, true_and, List.map_cons, List.map_nil, Nat.zero_add, Nat.reduceBEq, dk]
      exact g0.trans (g3.trans (g5.trans g7))
end
end Go.Proofs.Ytmocplkpnickgaa.Am

/-
  NetOrder: the run.
-/
namespace Go.Proofs.Ytmocplkpnickgaa.Am
open Go
set_option linter.unusedVariables false
set_option linter.unusedSimpArgs false
set_option linter.unusedSectionVars false
set_option maxRecDepth 100000

theorem nlive_ran : (run CN.cfg 100 1 42 [] []).map (fun p => p.1) = some (.bool true) := by kernel_rfl

set_option maxHeartbeats 4000000 in
theorem order_run (l : AVal) (fs : List AVal) (xs : List Dg) (k : Int) (hl : SlOf [] 5 l fs) (hx : Two (DgOk [] (fun _ => False)) fs xs) (hn : xs.length < 2 ^ 38) (hs : ∀ p ∈ xs, p.bs.length < 2 ^ 40) :
    Called CN.cfg 0 9 [l, .int .i64 k] [] fun v _ => v = .bool true := by
  refine called_of (fn := CN.a9) rfl (Nat.le_of_ble_eq_true rfl) ?_
  have ll := hl.len
  rw [hx.len] at ll
  have lno : l.sid = none := by
    cases h : l.sid with
    | none => rfl
    | some j => have := hl.lt h; simp at this
  simp only [CN.a9]
  simp -dsimp only [↓WPd, ↓wpC_block, ↓wpC_cond, WPu, Bool.false_eq_true, Bool.true_eq_false, Bool.not_true, Bool.not_false, if_true, if_false, ite_true, ite_false, Nat.reduceEqDiff, Nat.reduceLT, true_and, List.map_cons, List.map_nil, Nat.zero_add, Nat.reduceBEq]
  refine isoW_bool nlive_ran ?_
  simp -dsimp only [↓WPd, ↓wpC_block, ↓wpC_cond, WPu, Bool.false_eq_true, Bool.true_eq_false, Bool.not_true, Bool.not_false, if_true, if_false, ite_true, ite_false, Nat.reduceEqDiff, Nat.reduceLT, true_and, List.map_cons, List.map_nil, Nat.zero_add, Nat.reduceBEq]
  refine calledW_of (netnew_ok 0 [] 4 (by omega)) ?_
  rintro r σ1 ⟨id, rfl, N1, g1, -⟩
  have c0 : ((0 : Int) != 0) = false := rfl
  simp -dsimp only [↓WPd, ↓wpC_block, ↓wpC_cond, WPu, Bool.false_eq_true, Bool.true_eq_false, Bool.not_true, Bool.not_false, if_true, if_false, ite_true, ite_false, Nat.reduceEqDiff, Nat.reduceLT, true_and, List.map_cons, List.map_nil, Nat.zero_add, Nat.reduceBEq, List.getElem?_cons_zero, List.getElem?_cons_succ, c0]
  refine calledW_of (send_ok 0 σ1 id .nilslice 0 0 0 0 4 [] [] N1 l fs xs (hl.grow (grows_nil _)) (hx.mono fun _ _ h => h.grow (grows_nil _)) (fun j h => h.elim) (fun j h => by rw [lno] at h; cases h) (by simp; omega) hs) ?_
  rintro r σ2 ⟨rfl, hpost⟩
  by_cases h0 : sendE 4 xs = 0
  · rw [if_pos h0] at hpost
    obtain ⟨k2, v2, es2, N2, fv2⟩ := hpost
    rw [List.nil_append] at N2
    have c1 : (sendE 4 xs != 0) = false := by simp [h0]
    simp -dsimp only [↓WPd, ↓wpC_block, ↓wpC_cond, WPu, Bool.false_eq_true, Bool.true_eq_false, Bool.not_true, Bool.not_false, if_true, if_false, ite_true, ite_false, Nat.reduceEqDiff, Nat.reduceLT, true_and, List.map_cons, List.map_nil, Nat.zero_add, Nat.reduceBEq, c1]
    refine calledW_of (waiting_ok 0 σ2 id v2 _ _ _ _ _ es2 xs N2 (by omega) hs) ?_
    rintro r σ3 ⟨us, W, g3⟩
    simp -dsimp only [↓WPd, ↓wpC_block, ↓wpC_cond, WPu, Bool.false_eq_true, Bool.true_eq_false, Bool.not_true, Bool.not_false, if_true, if_false, ite_true, ite_false, Nat.reduceEqDiff, Nat.reduceLT, true_and, List.map_cons, List.map_nil, Nat.zero_add, Nat.reduceBEq]
    refine calledW_of (samedgs_ok 0 σ3 r l _ fs xs xs (by omega) hs W.row.sl (hl.grow (grows_nil _)) (W.two.mono fun _ _ h => h.ok) (hx.mono fun _ _ h => h.grow (grows_nil _))) ?_
    rintro r σ4 ⟨rfl, g4⟩
    simp -dsimp only [↓WPd, ↓wpC_block, ↓wpC_cond, WPu, Bool.false_eq_true, Bool.true_eq_false, Bool.not_true, Bool.not_false, if_true, if_false, ite_true, ite_false, Nat.reduceEqDiff, Nat.reduceLT, true_and, List.map_cons, List.map_nil, Nat.zero_add, Nat.reduceBEq, decide_true, ll]
    have N4 := (N2.grow g3).grow g4
    by_cases he : xs.length = 0
    · have ce : (((xs.length : Nat) : Int) == 0) = true := by simp [he]
      simp -dsimp only [↓WPd, ↓wpC_block, ↓wpC_cond, WPu, Bool.false_eq_true, Bool.true_eq_false, Bool.not_true, Bool.not_false, if_true, if_false, ite_true, ite_false, Nat.reduceEqDiff, Nat.reduceLT, true_and, List.map_cons, List.map_nil, Nat.zero_add, Nat.reduceBEq, ce, ll]
      refine calledW_of (netlen_ok 0 σ4 id v2 _ _ _ _ _ es2 xs N4) ?_
      rintro r σ5 ⟨rfl, rfl⟩
      have ce2 : (((xs.length : Nat) : Int) == ((xs.length : Nat) : Int)) = true := by simp
      simp -dsimp only [↓WPd, ↓wpC_block, ↓wpC_cond, WPu, Bool.false_eq_true, Bool.true_eq_false, Bool.not_true, Bool.not_false, if_true, if_false, ite_true, ite_false, Nat.reduceEqDiff, Nat.reduceLT, true_and, List.map_cons, List.map_nil, Nat.zero_add, Nat.reduceBEq, ce2]
    · have ce : (((xs.length : Nat) : Int) == 0) = false := beq_eq_false_iff_ne.2 (by omega)
      simp -dsimp only [↓WPd, ↓wpC_block, ↓wpC_cond, WPu, Bool.false_eq_true, Bool.true_eq_false, Bool.not_true, Bool.not_false, if_true, if_false, ite_true, ite_false, Nat.reduceEqDiff, Nat.reduceLT, true_and, List.map_cons, List.map_nil, Nat.zero_add, Nat.reduceBEq, ce, ll]
      obtain ⟨u, r, hr, u1, u2, u3, u4⟩ := umod k xs.length (by omega) (by omega)
      simp -dsimp only [↓WPd, ↓wpC_block, ↓wpC_cond, WPu, Bool.false_eq_true, Bool.true_eq_false, Bool.not_true, Bool.not_false, if_true, if_false, ite_true, ite_false, Nat.reduceEqDiff, Nat.reduceLT, true_and, List.map_cons, List.map_nil, Nat.zero_add, Nat.reduceBEq, u1, ll, u2, u3, u4]
      refine calledW_of (deliver_ok 0 σ4 id v2 _ _ _ _ _ es2 xs N4 (by omega) r hr) ?_
      rintro q σ5 ⟨x, rfl, hx5, k5, v5, es5, N5, fv5⟩
      obtain ⟨e, rfl, e2, e3⟩ := hx5
      have g6 : Grows σ5 (σ5 ++ [AObj.cells [.int .i64 xs[r].f, .int .i64 xs[r].t, .bool xs[r].ack, .int .i64 xs[r].s, e]]) := Grows.app _ _
      have st := new_store (σ := σ5) (n := 5) (zs := [.int .i64 0, .int .i64 0, .bool false, .int .i64 0, .nilslice]) rfl (cs := [.int .i64 xs[r].f, .int .i64 xs[r].t, .bool xs[r].ack, .int .i64 xs[r].s, e]) rfl (all5 e2.one _ _ _ _)
      have o6 : (σ5 ++ [AObj.cells [.int .i64 xs[r].f, .int .i64 xs[r].t, .bool xs[r].ack, .int .i64 xs[r].s, e]])[σ5.length]? = some (.cells [.int .i64 xs[r].f, .int .i64 xs[r].t, .bool xs[r].ack, .int .i64 xs[r].s, e]) := by simp
      simp -dsimp only [↓WPd, ↓wpC_block, ↓wpC_cond, WPu, Bool.false_eq_true, Bool.true_eq_false, Bool.not_true, Bool.not_false, if_true, if_false, ite_true, ite_false, Nat.reduceEqDiff, Nat.reduceLT, true_and, List.map_cons, List.map_nil, Nat.zero_add, Nat.reduceBEq, List.getElem?_cons_zero, List.getElem?_cons_succ, Dg.val, st]
      generalize hj : σ5.length = j at o6
      generalize σ5 ++ [AObj.cells [.int .i64 xs[r].f, .int .i64 xs[r].t, .bool xs[r].ack, .int .i64 xs[r].s, e]] = σ6 at g6 o6
      have lf := hx.len
      have hl6 := hl.grow (grows_nil σ6)
      obtain ⟨a, a1, a2, a3⟩ := hl6.sub_hi (hi := r) (by omega) .i64
      have e0 : fillL 5 true (List.replicate 0 (zel [AVal.int .i64 0, .int .i64 0, .bool false, .int .i64 0, .nilslice] true)) [] = some [] := rfl
      have ob : Own σ6 5 (.fslice (AVal.tagL []) true 5 []) [] := Own.lit _ _ _ _
      have lt : (fs.take r).length = r := by simp; omega
      obtain ⟨y, σ7, p1, p2, p3, p4, _⟩ := ob.append (fs.take r) 56 (by rw [lt]; simp; omega)
      rw [List.nil_append] at p2
      have g7 : Grows σ6 σ7 := p3.mono fun i hi hm => by cases hm
      obtain ⟨b, b1, b2, b3⟩ := (hl.grow (grows_nil σ7)).sub_lo (lo := r + 1) (by omega) .i64
      have w : IntKind.i64.wrap ((r : Int) + 1) = ((r + 1 : Nat) : Int) := by rw [wrap_i64 (by omega) (by omega), Int.natCast_add, Int.natCast_one]
      obtain ⟨z, σ8, q1, q2, q3, q4, _⟩ := p2.append (fs.drop (r + 1)) 56 (by rw [lt]; simp; omega)
      have yf : ∀ i, y.sid = some i → σ6.length ≤ i := fun i hi => by
        rcases p4 i hi with hh | hh
        · cases hh
        · omega
      have g8 : Grows σ6 σ8 := Keeps.trans g7 q3 fun i hi hm => by have := yf i hm; omega
      have o8 := g8.get o6
      have N8 := (N5.grow g6).grow g8
      have f0 : ((0 : Int) == 0) = true := rfl
      obtain ⟨w', a4, a5, a6, a7⟩ := Two.load5 (hl.grow (grows_nil σ8)) (hx.mono fun _ _ h => h.grow (grows_nil σ8)) hr
      simp -dsimp only [↓WPd, ↓wpC_block, ↓wpC_cond, WPu, Bool.false_eq_true, Bool.true_eq_false, Bool.not_true, Bool.not_false, if_true, if_false, ite_true, ite_false, Nat.reduceEqDiff, Nat.reduceLT, true_and, List.map_cons, List.map_nil, Nat.zero_add, Nat.reduceBEq, oev, e0, a1, a2.els, p1, w, b1, b2.els, q1, f0, loadN_cells (n := 5) o8 rfl, a4, a5]
      refine calledW_of (samedg_ok 0 σ8 (xs[r].val e) w' xs[r] xs[r] (F := fun _ => True) ⟨e, rfl, (e2.grow g6).sl.grow g8, fun _ _ => trivial⟩ a6 (hs _ (List.getElem_mem hr))) ?_
      rintro q9 σ9 ⟨rfl, g9⟩
      simp -dsimp only [↓WPd, ↓wpC_block, ↓wpC_cond, WPu, Bool.false_eq_true, Bool.true_eq_false, Bool.not_true, Bool.not_false, if_true, if_false, ite_true, ite_false, Nat.reduceEqDiff, Nat.reduceLT, true_and, List.map_cons, List.map_nil, Nat.zero_add, Nat.reduceBEq, decide_true]
      have lo : (outL xs r).length < 2 ^ 40 := by unfold outL; simp; omega
      have so : ∀ p ∈ outL xs r, p.bs.length < 2 ^ 40 := fun p hp => by
        unfold outL at hp
        rcases List.mem_append.1 hp with hp | hp
        · exact hs p (List.mem_of_mem_take hp)
        · exact hs p (List.mem_of_mem_drop hp)
      refine calledW_of (waiting_ok 0 σ9 id v5 _ _ _ _ _ es5 _ (N8.grow g9) lo so) ?_
      rintro q10 σ10 ⟨us10, W10, g10⟩
      simp -dsimp only [↓WPd, ↓wpC_block, ↓wpC_cond, WPu, Bool.false_eq_true, Bool.true_eq_false, Bool.not_true, Bool.not_false, if_true, if_false, ite_true, ite_false, Nat.reduceEqDiff, Nat.reduceLT, true_and, List.map_cons, List.map_nil, Nat.zero_add, Nat.reduceBEq]
      have rz : Two (DgOk σ10 (fun _ => False)) (fs.take r ++ fs.drop (r + 1)) (outL xs r) := ((hx.take r).append (hx.drop (r + 1))).mono fun _ _ h => h.grow (grows_nil σ10)
      refine calledW_of (samedgs_ok 0 σ10 q10 z _ _ (outL xs r) (outL xs r) lo so W10.row.sl ((q2.grow g9).grow g10).sl (W10.two.mono fun _ _ h => h.ok) rz) ?_
      rintro q11 σ11 ⟨rfl, g11⟩
      simp -dsimp only [↓WPd, ↓wpC_block, ↓wpC_cond, WPu, Bool.false_eq_true, Bool.true_eq_false, Bool.not_true, Bool.not_false, if_true, if_false, ite_true, ite_false, Nat.reduceEqDiff, Nat.reduceLT, true_and, List.map_cons, List.map_nil, Nat.zero_add, Nat.reduceBEq, decide_true]
  · rw [if_neg h0] at hpost
    have c1 : (sendE 4 xs != 0) = true := by simp [h0]
    have ce3 : ((0 : Int) == 0) = true := rfl
    simp -dsimp only [↓WPd, ↓wpC_block, ↓wpC_cond, WPu, Bool.false_eq_true, Bool.true_eq_false, Bool.not_true, Bool.not_false, if_true, if_false, ite_true, ite_false, Nat.reduceEqDiff, Nat.reduceLT, true_and, List.map_cons, List.map_nil, Nat.zero_add, Nat.reduceBEq, c1, ce3]
    refine calledW_of (netlen_ok 0 σ2 id .nilslice _ _ _ _ _ [] [] (N1.grow hpost)) ?_
    rintro r σ5 ⟨rfl, rfl⟩
    have ce2 : ((([] : List Dg).length : Int) == 0) = true := rfl
    have ce3 : ((0 : Int) == 0) = true := rfl
    simp -dsimp only [↓WPd, ↓wpC_block, ↓wpC_cond, WPu, Bool.false_eq_true, Bool.true_eq_false, Bool.not_true, Bool.not_false, if_true, if_false, ite_true, ite_false, Nat.reduceEqDiff, Nat.reduceLT, true_and, List.map_cons, List.map_nil, Nat.zero_add, Nat.reduceBEq, ce2, ce3]
end Go.Proofs.Ytmocplkpnickgaa.Am

/-
  NetKeeps: the run.
-/
namespace Go.Proofs.Ytmocplkpnickgaa.Am
open Go
set_option linter.unusedVariables false
set_option linter.unusedSimpArgs false
set_option linter.unusedSectionVars false
set_option maxRecDepth 100000

/-- a datagram whose bytes lie among arrays of bytes, if at all -/
def DgV (σ : Store) (x : AVal) (d : Dg) : Prop := ∃ e, x = d.val e ∧ SlOf σ 1 e (B d.bs) ∧ ∀ j, e.sid = some j → ∃ es ep fl, σ[j]? = some (.arr 1 es ep fl)
theorem Own.arr {σ : Store} {sz : Nat} {v : AVal} {es : List AVal} (h : Own σ sz v es) {j : Nat} (hj : v.sid = some j) : ∃ es' ep fl, σ[j]? = some (.arr sz es' ep fl) := by
  rcases h.own with ⟨rfl, _⟩ | ⟨t, rfl⟩ | ⟨id, ep, off, cap, xs, epo, fl, rfl, h1, _⟩
  · cases hj
  · cases hj
  · injection hj with hj; subst hj; exact ⟨_, _, _, h1⟩
theorem DgOwn.v {σ : Store} {F : Nat → Prop} {x : AVal} {d : Dg} (h : DgOwn σ F x d) : DgV σ x d := by
  obtain ⟨e, h1, h2, h3⟩ := h
  exact ⟨e, h1, h2.sl, fun j hj => h2.arr hj⟩
theorem DgOk.v {σ : Store} {x : AVal} {d : Dg} (h : DgOk σ (fun _ => False) x d) : DgV σ x d := by
  obtain ⟨e, h1, h2, h3⟩ := h
  exact ⟨e, h1, h2, fun j hj => (h3 j hj).elim⟩
theorem DgV.ok {σ : Store} {x : AVal} {d : Dg} (h : DgV σ x d) : DgOk σ (fun _ => True) x d := by
  obtain ⟨e, h1, h2, h3⟩ := h
  exact ⟨e, h1, h2, fun _ _ => trivial⟩
/-- nothing of M is an array of bytes -/
def NoB (σ : Store) (M : Nat → Prop) : Prop := ∀ j es ep fl, σ[j]? = some (.arr 1 es ep fl) → ¬ M j
theorem DgV.keeps {σ σ' : Store} {M : Nat → Prop} {x : AVal} {d : Dg} (h : DgV σ x d) (k : Keeps M σ σ') (hm : NoB σ M) : DgV σ' x d := by
  obtain ⟨e, h1, h2, h3⟩ := h
  refine ⟨e, h1, h2.keeps k fun j hj hmj => ?_, fun j hj => ?_⟩
  · obtain ⟨es, ep, fl, ho⟩ := h3 j hj
    exact hm j es ep fl ho hmj
  · obtain ⟨es, ep, fl, ho⟩ := h3 j hj
    exact ⟨es, ep, fl, k.get ho (hm j es ep fl ho)⟩
theorem DgV.grow {σ σ' : Store} {x : AVal} {d : Dg} (h : DgV σ x d) (g : Grows σ σ') : DgV σ' x d := h.keeps g fun _ _ _ _ _ h => h
theorem NoB.row {σ : Store} {v : AVal} {es : List AVal} (h : Own σ 5 v es) : NoB σ (fun j => v.sid = some j) := fun j es' ep fl ho hj => by
  obtain ⟨a, b, c, h1⟩ := h.arr hj
  rw [ho] at h1; injection h1 with h1; injection h1 with h1; cases h1
theorem NoB.cell {σ : Store} {id : Nat} {cs : List AVal} (h : σ[id]? = some (.cells cs)) : NoB σ (fun j => j = id) := fun j es' ep fl ho hj => by
  subst hj; rw [ho] at h; cases h
theorem NoB.or {σ : Store} {M M' : Nat → Prop} (h : NoB σ M) (h' : NoB σ M') : NoB σ (fun j => M j ∨ M' j) := fun j es ep fl ho hm => by
  rcases hm with hm | hm
  · exact h j es ep fl ho hm
  · exact h' j es ep fl ho hm

/-- a row of datagrams -/
structure RowV (σ : Store) (v : AVal) (es : List AVal) (ds : List Dg) : Prop where
  own : Own σ 5 v es
  rows : Two (DgV σ) es ds
theorem RowV.keeps {σ σ' : Store} {M : Nat → Prop} {v : AVal} {es : List AVal} {ds : List Dg} (h : RowV σ v es ds) (k : Keeps M σ σ') (hm : NoB σ M) (hv : ∀ j, v.sid = some j → ¬ M j) : RowV σ' v es ds := ⟨h.own.keeps k hv, h.rows.mono fun _ _ h => h.keeps k hm⟩
theorem RowV.grow {σ σ' : Store} {v : AVal} {es : List AVal} {ds : List Dg} (h : RowV σ v es ds) (g : Grows σ σ') : RowV σ' v es ds := h.keeps g (fun _ _ _ _ _ h => h) fun _ _ h => h
theorem RowV.append {σ : Store} {v : AVal} {es : List AVal} {ds : List Dg} (h : RowV σ v es ds) {fs : List AVal} {xs : List Dg} (hf : Two (DgV σ) fs xs) (hb : (ds.length + xs.length) * 56 ≤ 70368744177664) :
    ∃ v' σ', appendV σ 5 56 v fs = some (v', σ') ∧ RowV σ' v' (es ++ fs) (ds ++ xs) ∧ Keeps (fun i => v.sid = some i) σ σ' ∧ (∀ j, v'.sid = some j → v.sid = some j ∨ j = σ.length) := by
  obtain ⟨v', σ', h1, h2, h3, h4, _⟩ := h.own.append fs 56 (by rw [h.rows.len, hf.len]; exact hb)
  exact ⟨v', σ', h1, ⟨h2, (h.rows.mono fun _ _ h' => h'.keeps h3 (NoB.row h.own)).append (hf.mono fun _ _ h' => h'.keeps h3 (NoB.row h.own))⟩, h3, h4⟩

/-- a deed of the network's laws -/
structure NDeed where
  k : Int
  n : Int
  l : AVal
  fs : List AVal
  xs : List Dg
def NDeed.val (x : NDeed) : AVal := .agg [.int .i64 x.k, .int .i64 x.n, x.l]
structure NDeedOk (x : NDeed) : Prop where
  n1 : -9223372036854775808 ≤ x.n
  n2 : x.n < 9223372036854775808
  sl : SlOf [] 5 x.l x.fs
  rows : Two (DgOk [] (fun _ => False)) x.fs x.xs
  short : ∀ p ∈ x.xs, p.bs.length < 2 ^ 30
def bulkN (l : List NDeed) : Nat := (l.map fun x => 1 + x.xs.length).sum

theorem NetOk.off {σ σ' : Store} {F : Nat → Prop} {id : Nat} {v : AVal} {c0 c1 c2 c3 n : Int} {es : List AVal} {ds : List Dg} (h : NetOk σ F id v c0 c1 c2 c3 n es ds) {u : AVal} {us : List AVal} (hu : Own σ 5 u us) (k : Keeps (fun i => u.sid = some i) σ σ') (hv : ∀ j, v.sid = some j → u.sid ≠ some j) : NetOk σ' F id v c0 c1 c2 c3 n es ds :=
  ⟨k.get h.obj (hu.noCell h.obj), h.own.keeps k hv, h.rows.mono fun _ _ h' => by
    obtain ⟨e, h1, h2, h3⟩ := h'
    exact ⟨e, h1, h2.keeps k fun j hj hm => hu.sizes h2 (by decide) hm hj, h3⟩⟩
theorem RowV.other {σ σ' : Store} {v : AVal} {es : List AVal} {ds : List Dg} (h : RowV σ v es ds) {u : AVal} {us : List AVal} (hu : Own σ 5 u us) (k : Keeps (fun i => u.sid = some i) σ σ') (hv : ∀ j, v.sid = some j → u.sid ≠ some j) : RowV σ' v es ds := h.keeps k (NoB.row hu) hv
theorem RowV.net {σ σ' : Store} {v : AVal} {es : List AVal} {ds : List Dg} (h : RowV σ v es ds) {id : Nat} {cs : List AVal} (ho : σ[id]? = some (.cells cs)) {u : AVal} {us : List AVal} (hu : Own σ 5 u us) (k : Keeps (fun i => i = id ∨ u.sid = some i) σ σ') (hv : ∀ j, v.sid = some j → u.sid ≠ some j) : RowV σ' v es ds :=
  h.keeps k (NoB.or (NoB.cell ho) (NoB.row hu)) fun j hj hm => by
    rcases hm with hm | hm
    · exact h.own.noCell ho (by rw [← hm]; exact hj)
    · exact hv j hj hm

/-- what stands where the loop over the deeds turns round -/
structure KSt (σ : Store) (id : Nat) (inV outV : AVal) (N : Nat) (v : AVal) (es : List AVal) (ds : List Dg) (ies : List AVal) (ins : List Dg) (oes : List AVal) (outs : List Dg) : Prop where
  net : ∃ c0 c1 c2 c3, NetOk σ (fun _ => True) id v c0 c1 c2 c3 4 es ds
  rin : RowV σ inV ies ins
  rout : RowV σ outV oes outs
  s1 : ∀ j, v.sid = some j → inV.sid ≠ some j
  s2 : ∀ j, v.sid = some j → outV.sid ≠ some j
  s3 : ∀ j, inV.sid = some j → outV.sid ≠ some j
  cnt : ∀ p, ins.count p = ds.count p + outs.count p
  len : ins.length = ds.length + outs.length
  bound : ins.length ≤ N
  short : ∀ p ∈ ins, p.bs.length < 2 ^ 30
def KSt' (σ : Store) (id : Nat) (inV outV : AVal) (N : Nat) : Prop := ∃ v es ds ies ins oes outs, KSt σ id inV outV N v es ds ies ins oes outs

section
variable {σ σ' : Store} {id : Nat} {inV outV : AVal} {N : Nat} {v : AVal} {es : List AVal} {ds : List Dg} {ies : List AVal} {ins : List Dg} {oes : List AVal} {outs : List Dg}
theorem KSt.grow (h : KSt σ id inV outV N v es ds ies ins oes outs) (g : Grows σ σ') : KSt σ' id inV outV N v es ds ies ins oes outs :=
  ⟨by obtain ⟨c0, c1, c2, c3, hn⟩ := h.net; exact ⟨c0, c1, c2, c3, hn.grow g⟩, h.rin.grow g, h.rout.grow g, h.s1, h.s2, h.s3, h.cnt, h.len, h.bound, h.short⟩
theorem KSt.mem (h : KSt σ id inV outV N v es ds ies ins oes outs) {p : Dg} (hp : p ∈ ds) : p ∈ ins := by
  have := h.cnt p
  have h1 : 0 < ds.count p := List.count_pos_iff.2 hp
  exact List.count_pos_iff.1 (by omega)
theorem KSt.ds_short (h : KSt σ id inV outV N v es ds ies ins oes outs) : ∀ p ∈ ds, p.bs.length < 2 ^ 40 := fun p hp => by have := h.short p (h.mem hp); omega
/-- the network has changed -/
theorem KSt.step (h : KSt σ id inV outV N v es ds ies ins oes outs) {c0 c1 c2 c3 : Int} (hn : NetOk σ (fun _ => True) id v c0 c1 c2 c3 4 es ds) (k : Keeps (fun i => i = id ∨ v.sid = some i) σ σ') {v' : AVal} (fv : ∀ j, v'.sid = some j → v.sid = some j ∨ σ.length ≤ j) :
    RowV σ' inV ies ins ∧ RowV σ' outV oes outs ∧ (∀ j, v'.sid = some j → inV.sid ≠ some j) ∧ (∀ j, v'.sid = some j → outV.sid ≠ some j) := by
  refine ⟨h.rin.net hn.obj hn.own k fun j hj hm => h.s1 j hm hj, h.rout.net hn.obj hn.own k fun j hj hm => h.s2 j hm hj, fun j hj hm => ?_, fun j hj hm => ?_⟩
  · rcases fv j hj with hh | hh
    · exact h.s1 j hh hm
    · have := h.rin.own.sl.lt hm; omega
  · rcases fv j hj with hh | hh
    · exact h.s2 j hh hm
    · have := h.rout.own.sl.lt hm; omega
end

theorem KSt'.le {σ : Store} {id : Nat} {inV outV : AVal} {N N' : Nat} (h : KSt' σ id inV outV N) (hn : N ≤ N') : KSt' σ id inV outV N' := by
  obtain ⟨v, es, ds, ies, ins, oes, outs, S⟩ := h
  exact ⟨v, es, ds, ies, ins, oes, outs, ⟨S.net, S.rin, S.rout, S.s1, S.s2, S.s3, S.cnt, S.len, Nat.le_trans S.bound hn, S.short⟩⟩
theorem bulkN_take (ds : List NDeed) (i : Nat) : bulkN (ds.take i) ≤ bulkN ds := by
  unfold bulkN
  conv => rhs; rw [← List.take_append_drop i ds]
  rw [List.map_append, List.sum_append]; omega
theorem outL_count {ds : List Dg} {k : Nat} (hk : k < ds.length) (p : Dg) : ds.count p = (outL ds k).count p + [ds[k]].count p := by
  unfold outL
  conv => lhs; rw [← List.take_append_drop k ds, List.drop_eq_getElem_cons hk]
  simp only [List.count_append, List.count_cons, List.count_nil]
  omega
theorem outL_len {ds : List Dg} {k : Nat} (hk : k < ds.length) : ds.length = (outL ds k).length + 1 := by
  unfold outL; simp; omega

theorem lit_faddr {σ : Store} (t : Nat) (a b c : AVal) (o : Nat) : faddrV o (.fptr t [a, b, c] 0) = some (.fptr t [a, b, c] o) := by simp [faddrV]

set_option maxHeartbeats 8000000 in
theorem keeps_run (l : AVal) (ds : List NDeed) (hl : SlOf [] 3 l (ds.map NDeed.val)) (hds : ∀ x ∈ ds, NDeedOk x) (hbulk : bulkN ds < 2 ^ 36) (hlen : ds.length < 2 ^ 36) :
    Called CN.cfg 0 10 [l] [] fun v _ => v = .bool true := by
  refine called_of (fn := CN.a10) rfl (Nat.le_of_ble_eq_true rfl) ?_
  have ll := hl.len
  rw [List.length_map] at ll
  simp only [CN.a10]
  simp -dsimp only [↓WPd, ↓wpC_block, ↓wpC_cond, WPu, Bool.false_eq_true, Bool.true_eq_false, Bool.not_true, Bool.not_false, if_true, if_false, ite_true, ite_false, Nat.reduceEqDiff, Nat.reduceLT, true_and, List.map_cons, List.map_nil, Nat.zero_add, Nat.reduceBEq]
  refine isoW_bool nlive_ran ?_
  simp -dsimp only [↓WPd, ↓wpC_block, ↓wpC_cond, WPu, Bool.false_eq_true, Bool.true_eq_false, Bool.not_true, Bool.not_false, if_true, if_false, ite_true, ite_false, Nat.reduceEqDiff, Nat.reduceLT, true_and, List.map_cons, List.map_nil, Nat.zero_add, Nat.reduceBEq]
  refine calledW_of (netnew_ok 0 [] 4 (by omega)) ?_
  rintro r σ1 ⟨id, rfl, N1, g1, -⟩
  have c0 : ((0 : Int) != 0) = false := rfl
  simp -dsimp only [↓WPd, ↓wpC_block, ↓wpC_cond, WPu, Bool.false_eq_true, Bool.true_eq_false, Bool.not_true, Bool.not_false, if_true, if_false, ite_true, ite_false, Nat.reduceEqDiff, Nat.reduceLT, true_and, List.map_cons, List.map_nil, Nat.zero_add, Nat.reduceBEq, List.getElem?_cons_zero, List.getElem?_cons_succ, c0]
  have st1 : KSt σ1 id .nilslice .nilslice 0 .nilslice [] [] [] [] [] [] := ⟨⟨0, 0, 0, 0, N1.mono fun _ h => h.elim⟩, ⟨Own.nil _ _, .nil⟩, ⟨Own.nil _ _, .nil⟩, fun j h => by (cases h), fun j h => by (cases h), fun j h => by (cases h), fun p => rfl, rfl, Nat.le_refl _, fun p h => by (cases h)⟩
  refine loop_rule2 (fun m vs σ' => ∃ (i : Nat) (inV outV : AVal), i ≤ ds.length ∧ m = ds.length - i ∧ vs = [l, .ptr id 0, inV, outV, .int .i64 i] ∧ KSt' σ' id inV outV (bulkN (ds.take i)))
    [3, 5, 6] (fun x vs σ' => x = .exit 0 ∧ ∃ inV outV, vs = [.ptr id 0, inV, outV] ∧ KSt' σ' id inV outV (bulkN ds)) ds.length
    ⟨0, .nilslice, .nilslice, Nat.zero_le _, rfl, ?_, ⟨_, _, _, _, _, _, _, st1⟩⟩ ?_ ?_
  · simp -dsimp only [↓WPd, ↓wpC_block, ↓wpC_cond, WPu, Bool.false_eq_true, Bool.true_eq_false, Bool.not_true, Bool.not_false, if_true, if_false, ite_true, ite_false, Nat.reduceEqDiff, Nat.reduceLT, true_and, List.map_cons, List.map_nil, Nat.zero_add, Nat.reduceBEq]; rfl
  · rintro m vs σ2 ⟨i, inV, outV, hi, rfl, rfl, st2⟩
    by_cases hlt : i < ds.length
    · by_cases h300 : i < 300
      · have hD := hds ds[i] (List.getElem_mem hlt)
        have hb1 : bulkN (ds.take (i + 1)) = bulkN (ds.take i) + (1 + ds[i].xs.length) := by
          unfold bulkN
          rw [List.take_add_one, List.getElem?_eq_getElem hlt, List.map_append, List.sum_append]; simp
        have hb2 : bulkN (ds.take (i + 1)) ≤ bulkN ds := by
          unfold bulkN
          conv => rhs; rw [← List.take_append_drop (i + 1) ds]
          rw [List.map_append, List.sum_append]; omega
        obtain ⟨t, ad⟩ := lit_addr (cs := [.int .i64 ds[i].k, .int .i64 ds[i].n, ds[i].l]) hl (i := i) (by rw [List.length_map]; exact hlt) (by rw [List.getElem_map]; rfl) .i64
        generalize hx : ds[i] = D at hD hb1 ad
        clear hx
        have d1 : decide (((i : Nat) : Int) < ((ds.length : Nat) : Int)) = true := decide_eq_true (by omega)
        have d2 : decide (((i : Nat) : Int) < 300) = true := decide_eq_true (by omega)
        simp -dsimp only [↓WPd, ↓wpC_cond, WPu, Bool.false_eq_true, Bool.true_eq_false, Bool.not_true, Bool.not_false, if_true, if_false, ite_true, ite_false, Nat.reduceEqDiff, Nat.reduceLT, true_and, List.map_cons, List.map_nil, Nat.zero_add, Nat.reduceBEq, ll, d1, d2]
        refine block_rule' [0, 3, 5, 6, 7] (fun x vs σ' => x = .normal ∧ ∃ inV' outV', vs = [l, .ptr id 0, inV', outV', .int .i64 i] ∧ KSt' σ' id inV' outV' (bulkN (ds.take (i + 1)))) ?_ ?_
        · obtain ⟨v, es, qs, ies, ins, oes, outs, S⟩ := st2
          obtain ⟨c0, c1, c2, c3, N2⟩ := S.net
          have hbd := S.bound
          have hln := S.len
          simp -dsimp only [↓WPd, ↓wpC_block, ↓wpC_cond, WPu, Bool.false_eq_true, Bool.true_eq_false, Bool.not_true, Bool.not_false, if_true, if_false, ite_true, ite_false, Nat.reduceEqDiff, Nat.reduceLT, true_and, List.map_cons, List.map_nil, Nat.zero_add, Nat.reduceBEq]
          refine calledW_of (waiting_ok 0 σ2 id v _ _ _ _ _ es qs N2 (by omega) S.ds_short) ?_
          rintro was σ3 ⟨us, W, g3⟩
          have S3 := S.grow g3
          have N3 := N2.grow g3
          have lw := W.row.sl.len
          rw [W.two.len] at lw
          have stay : ∀ {σ' : Store}, Grows σ3 σ' → KSt' σ' id inV outV (bulkN (ds.take (i + 1))) := fun g => ⟨v, es, qs, ies, ins, oes, outs, by
            have := S3.grow g
            exact ⟨this.net, this.rin, this.rout, this.s1, this.s2, this.s3, this.cnt, this.len, by omega, this.short⟩⟩
          -- is it there
          have three : (decide (D.n ≥ 0) = true ∧ decide (D.n < ((qs.length : Nat) : Int)) = true) ∨ (decide (D.n ≥ 0) = true ∧ decide (D.n < ((qs.length : Nat) : Int)) = false) ∨ (decide (D.n ≥ 0) = false ∧ True) := by
            by_cases h1 : D.n ≥ 0
            · by_cases h2 : D.n < ((qs.length : Nat) : Int)
              · exact .inl ⟨decide_eq_true h1, decide_eq_true h2⟩
              · exact .inr (.inl ⟨decide_eq_true h1, decide_eq_false h2⟩)
            · exact .inr (.inr ⟨decide_eq_false h1, trivial⟩)
          have two : ¬ (0 ≤ D.n ∧ D.n < ((qs.length : Nat) : Int)) → (decide (D.n ≥ 0) = true ∧ decide (D.n < ((qs.length : Nat) : Int)) = false) ∨ (decide (D.n ≥ 0) = false ∧ True) := fun h => by
            rcases three with ⟨h1, h2⟩ | h1 | h1
            · exact absurd ⟨of_decide_eq_true h1, of_decide_eq_true h2⟩ h
            · exact .inl h1
            · exact .inr h1
          have ci : ∀ {x : Int} {b : Bool} (y : Int), (x == y) = b → (x == y) = b := fun _ h => h
          have z0 : ((0 : Int) == 0) = true := rfl
          have z4 : ((4 : Int) == 0) = false := rfl
          by_cases hk0 : D.k = 0
          · have k0 : (D.k == 0) = true := by simp [hk0]
            rcases three with ⟨f1, f2⟩ | ⟨f1, f2⟩ | ⟨f1, f2⟩ <;>
            ( simp -dsimp only [↓WPd, ↓wpC_block, ↓wpC_cond, WPu, Bool.false_eq_true, Bool.true_eq_false, Bool.not_true, Bool.not_false, if_true, if_false, ite_true, ite_false, Nat.reduceEqDiff, Nat.reduceLT, true_and, List.map_cons, List.map_nil, Nat.zero_add, Nat.reduceBEq, ad, faddr_f, load_f, Nat.zero_add, List.getElem?_cons_zero, List.getElem?_cons_succ, lw, f1, f2, k0]
              refine calledW_of (send_ok 0 σ3 id v c0 c1 c2 c3 4 es qs N3 D.l D.fs D.xs (hD.sl.grow (grows_nil _)) (hD.rows.mono fun _ _ h => h.grow (grows_nil _)) (fun j h => h.elim) (fun j h => absurd (hD.sl.lt h) (Nat.not_lt_zero _)) (by omega) (fun p hp => by have := hD.short p hp; omega)) ?_
              rintro r4 σ4 ⟨rfl, hpost⟩
              by_cases h0 : sendE 4 D.xs = 0
              · rw [if_pos h0] at hpost
                obtain ⟨k4, v4, es4, N4, fv4⟩ := hpost
                have ce : (sendE 4 D.xs == 0) = true := by simp [h0]
                obtain ⟨ri, ro, a1, a2⟩ := S3.step N3 k4 fv4
                obtain ⟨in5, σ5, p1, ri5, k5, fi5⟩ := ri.append (fs := D.fs) (xs := D.xs) (hD.rows.mono fun _ _ h => (h.grow (grows_nil _)).v) (by omega)
                simp -dsimp only [↓WPd, ↓wpC_block, ↓wpC_cond, WPu, Bool.false_eq_true, Bool.true_eq_false, Bool.not_true, Bool.not_false, if_true, if_false, ite_true, ite_false, Nat.reduceEqDiff, Nat.reduceLT, true_and, List.map_cons, List.map_nil, Nat.zero_add, Nat.reduceBEq, ad, faddr_f, load_f, Nat.zero_add, List.getElem?_cons_zero, List.getElem?_cons_succ, lw, f1, f2, ce, (hD.sl.grow (grows_nil σ4)).els, p1]
                have N5 := (N4.mono (G := fun _ => True) fun _ _ => trivial).off ri.own k5 fun j hj => a1 j hj
                have ro5 := ro.other ri.own k5 fun j hj hm => S.s3 j hm hj
                refine ⟨in5, outV, rfl, v4, es4, qs ++ D.xs, ies ++ D.fs, ins ++ D.xs, oes, outs, ⟨⟨_, _, _, _, N5⟩, ri5, ro5, fun j hj hm => ?_, a2, fun j hj hm => ?_, fun p => ?_, ?_, ?_, fun p hp => ?_⟩⟩
                · rcases fi5 j hm with h | h
                  · exact a1 j hj h
                  · have := N4.own.sl.lt hj; omega
                · rcases fi5 j hj with h | h
                  · exact S.s3 j h hm
                  · have := ro.own.sl.lt hm; omega
                · rw [List.count_append, List.count_append, S.cnt p]; omega
                · simp only [List.length_append]; omega
                · simp only [List.length_append]; omega
                · rcases List.mem_append.1 hp with h | h
                  · exact S.short p h
                  · exact hD.short p h
              · rw [if_neg h0] at hpost
                have ce : (sendE 4 D.xs == 0) = false := by simp [h0]
                simp -dsimp only [↓WPd, ↓wpC_block, ↓wpC_cond, WPu, Bool.false_eq_true, Bool.true_eq_false, Bool.not_true, Bool.not_false, if_true, if_false, ite_true, ite_false, Nat.reduceEqDiff, Nat.reduceLT, true_and, List.map_cons, List.map_nil, Nat.zero_add, Nat.reduceBEq, ad, faddr_f, load_f, Nat.zero_add, List.getElem?_cons_zero, List.getElem?_cons_succ, lw, f1, f2, ce]
                exact ⟨inV, outV, rfl, stay hpost⟩ )
          · have k0 : (D.k == 0) = false := by simp [hk0]
            by_cases hk1 : D.k = 1
            · have k1 : (D.k == 1) = true := by simp [hk1]
              by_cases hk : 0 ≤ D.n ∧ D.n < ((qs.length : Nat) : Int)
              · obtain ⟨k, hkn⟩ : ∃ k : Nat, D.n = k := ⟨D.n.toNat, by omega⟩
                have hkl : k < qs.length := by omega
                have f1 : decide (((k : Nat) : Int) ≥ 0) = true := decide_eq_true (by omega)
                have f2 : decide (((k : Nat) : Int) < ((qs.length : Nat) : Int)) = true := decide_eq_true (by omega)
                rw [hkn] at ad
                simp -dsimp only [↓WPd, ↓wpC_block, ↓wpC_cond, WPu, Bool.false_eq_true, Bool.true_eq_false, Bool.not_true, Bool.not_false, if_true, if_false, ite_true, ite_false, Nat.reduceEqDiff, Nat.reduceLT, true_and, List.map_cons, List.map_nil, Nat.zero_add, Nat.reduceBEq, ad, faddr_f, load_f, Nat.zero_add, List.getElem?_cons_zero, List.getElem?_cons_succ, lw, f1, f2, k0, k1]
                refine calledW_of (deliver_ok 0 σ3 id v c0 c1 c2 c3 4 es qs N3 (by omega) k hkl) ?_
                rintro q4 σ4 ⟨x, rfl, hx4, k4, v4, es4, N4, fv4⟩
                obtain ⟨ri, ro, a1, a2⟩ := S3.step N3 (k4.mono fun _ _ h => .inl h) (v' := v4) (fun j hj => .inr (fv4 j hj))
                obtain ⟨e, rfl, e2, e3⟩ := hx4
                have g5 : Grows σ4 (σ4 ++ [AObj.cells [.int .i64 qs[k].f, .int .i64 qs[k].t, .bool qs[k].ack, .int .i64 qs[k].s, e]]) := Grows.app _ _
                have st := new_store (σ := σ4) (n := 5) (zs := [.int .i64 0, .int .i64 0, .bool false, .int .i64 0, .nilslice]) rfl (cs := [.int .i64 qs[k].f, .int .i64 qs[k].t, .bool qs[k].ack, .int .i64 qs[k].s, e]) rfl (all5 e2.one _ _ _ _)
                have o5 : (σ4 ++ [AObj.cells [.int .i64 qs[k].f, .int .i64 qs[k].t, .bool qs[k].ack, .int .i64 qs[k].s, e]])[σ4.length]? = some (.cells [.int .i64 qs[k].f, .int .i64 qs[k].t, .bool qs[k].ack, .int .i64 qs[k].s, e]) := by simp
                simp -dsimp only [↓WPd, ↓wpC_block, ↓wpC_cond, WPu, Bool.false_eq_true, Bool.true_eq_false, Bool.not_true, Bool.not_false, if_true, if_false, ite_true, ite_false, Nat.reduceEqDiff, Nat.reduceLT, true_and, List.map_cons, List.map_nil, Nat.zero_add, Nat.reduceBEq, ad, faddr_f, load_f, Nat.zero_add, List.getElem?_cons_zero, List.getElem?_cons_succ, lw, f1, f2, Dg.val, st]
                generalize hj : σ4.length = j at o5
                generalize σ4 ++ [AObj.cells [.int .i64 qs[k].f, .int .i64 qs[k].t, .bool qs[k].ack, .int .i64 qs[k].s, e]] = σ5 at g5 o5
                have ri5 := ri.grow g5
                simp -dsimp only [↓WPd, ↓wpC_block, ↓wpC_cond, WPu, Bool.false_eq_true, Bool.true_eq_false, Bool.not_true, Bool.not_false, if_true, if_false, ite_true, ite_false, Nat.reduceEqDiff, Nat.reduceLT, true_and, List.map_cons, List.map_nil, Nat.zero_add, Nat.reduceBEq, ad, faddr_f, load_f, Nat.zero_add, List.getElem?_cons_zero, List.getElem?_cons_succ, lw, f1, f2, z0, loadN_cells (n := 5) o5 rfl]
                refine calledW_of (of_ok 0 σ5 inV (qs[k].val e) ies ins qs[k] ri5.own.sl (ri5.rows.mono fun _ _ h => h.ok) (G := fun _ => True) ⟨e, rfl, (e2.grow g5).sl, fun _ _ => trivial⟩ (by omega) (fun p hp => by have := S.short p hp; omega)) ?_
                rintro q6 σ6 ⟨rfl, g6⟩
                have cpos : 0 < ins.count qs[k] := List.count_pos_iff.2 (S.mem (List.getElem_mem hkl))
                have cz : (((ins.count qs[k] : Nat) : Int) == 0) = false := beq_eq_false_iff_ne.2 (by omega)
                have ro6 := (ro.grow g5).grow g6
                have ri6 := ri5.grow g6
                have N6 := (N4.grow g5).grow g6
                have e26 := (e2.grow g5).grow g6
                obtain ⟨out7, σ7, p1, ro7, k7, fo7⟩ := ro6.append (fs := [qs[k].val e]) (xs := [qs[k]]) (Two.one ⟨e, rfl, e26.sl, fun j hj => e26.arr hj⟩) (by simp; omega)
                have e1' : fillL 5 true (List.replicate 1 (zel [AVal.int .i64 0, .int .i64 0, .bool false, .int .i64 0, .nilslice] true)) [(0, .agg [.int .i64 qs[k].f, .int .i64 qs[k].t, .bool qs[k].ack, .int .i64 qs[k].s, e])] = some [.agg [.int .i64 qs[k].f, .int .i64 qs[k].t, .bool qs[k].ack, .int .i64 qs[k].s, e]] := one_lit qs[k] e e26.one
                have p1' : appendV σ6 5 56 outV [.agg [.int .i64 qs[k].f, .int .i64 qs[k].t, .bool qs[k].ack, .int .i64 qs[k].s, e]] = some (out7, σ7) := p1
                simp -dsimp only [↓WPd, ↓wpC_block, ↓wpC_cond, WPu, Bool.false_eq_true, Bool.true_eq_false, Bool.not_true, Bool.not_false, if_true, if_false, ite_true, ite_false, Nat.reduceEqDiff, Nat.reduceLT, true_and, List.map_cons, List.map_nil, Nat.zero_add, Nat.reduceBEq, ad, faddr_f, load_f, Nat.zero_add, List.getElem?_cons_zero, List.getElem?_cons_succ, lw, f1, f2, cz, loadN_cells (n := 5) (g6.get o5) rfl, e1', elems_fs, p1']
                have ri7 := ri6.other ro6.own k7 fun j hj hm => S.s3 j hj hm
                have N7 := (N6.mono (G := fun _ => True) fun _ _ => trivial).off ro6.own k7 fun j hj => a2 j hj
                exact ⟨inV, out7, rfl, v4, es4, outL qs k, ies, ins, _, outs ++ [qs[k]], ⟨⟨_, _, _, _, N7⟩, ri7, ro7, a1, fun j hj hm => by
                  rcases fo7 j hm with h | h
                  · exact a2 j hj h
                  · have := N6.own.sl.lt hj; omega, fun j hj hm => by
                  rcases fo7 j hm with h | h
                  · exact S.s3 j hj h
                  · have := ri6.own.sl.lt hj; omega, fun p => by rw [List.count_append, S.cnt p, outL_count hkl p]; omega, by have := outL_len hkl; simp only [List.length_append, List.length_singleton]; omega, by omega, S.short⟩⟩
              · rcases two hk with ⟨f1, f2⟩ | ⟨f1, f2⟩ <;>
                ( simp -dsimp only [↓WPd, ↓wpC_block, ↓wpC_cond, WPu, Bool.false_eq_true, Bool.true_eq_false, Bool.not_true, Bool.not_false, if_true, if_false, ite_true, ite_false, Nat.reduceEqDiff, Nat.reduceLT, true_and, List.map_cons, List.map_nil, Nat.zero_add, Nat.reduceBEq, ad, faddr_f, load_f, Nat.zero_add, List.getElem?_cons_zero, List.getElem?_cons_succ, lw, f1, f2, k0, k1]
                  refine calledW_of (deliver_no 0 σ3 id v c0 c1 c2 c3 4 es qs N3 (by omega) D.n hk) ?_
                  rintro q4 σ4 ⟨rfl, g4⟩
                  have st := new_store (σ := σ4) (n := 5) (zs := [.int .i64 0, .int .i64 0, .bool false, .int .i64 0, .nilslice]) rfl (cs := [.int .i64 0, .int .i64 0, .bool false, .int .i64 0, .nilslice]) rfl rfl
                  simp -dsimp only [↓WPd, ↓wpC_block, ↓wpC_cond, WPu, Bool.false_eq_true, Bool.true_eq_false, Bool.not_true, Bool.not_false, if_true, if_false, ite_true, ite_false, Nat.reduceEqDiff, Nat.reduceLT, true_and, List.map_cons, List.map_nil, Nat.zero_add, Nat.reduceBEq, ad, faddr_f, load_f, Nat.zero_add, List.getElem?_cons_zero, List.getElem?_cons_succ, lw, f1, f2, zD, st, z4]
                  exact ⟨inV, outV, rfl, stay (g4.trans (Grows.app _ _))⟩ )
            · have k1 : (D.k == 1) = false := by simp [hk1]
              by_cases hk2 : D.k = 2
              · have k2 : (D.k == 2) = true := by simp [hk2]
                by_cases hk : 0 ≤ D.n ∧ D.n < ((qs.length : Nat) : Int)
                · obtain ⟨k, hkn⟩ : ∃ k : Nat, D.n = k := ⟨D.n.toNat, by omega⟩
                  have hkl : k < qs.length := by omega
                  have f1 : decide (((k : Nat) : Int) ≥ 0) = true := decide_eq_true (by omega)
                  have f2 : decide (((k : Nat) : Int) < ((qs.length : Nat) : Int)) = true := decide_eq_true (by omega)
                  rw [hkn] at ad
                  have RW : RowV σ3 was _ qs := ⟨W.row, W.two.mono fun _ _ h => h.v⟩
                  have wl : ∀ j, was.sid = some j → σ2.length ≤ j := W.frl
                  simp -dsimp only [↓WPd, ↓wpC_block, ↓wpC_cond, WPu, Bool.false_eq_true, Bool.true_eq_false, Bool.not_true, Bool.not_false, if_true, if_false, ite_true, ite_false, Nat.reduceEqDiff, Nat.reduceLT, true_and, List.map_cons, List.map_nil, Nat.zero_add, Nat.reduceBEq, ad, faddr_f, load_f, Nat.zero_add, List.getElem?_cons_zero, List.getElem?_cons_succ, lw, f1, f2, k0, k1, k2]
                  refine calledW_of (drop_ok 0 σ3 id v c0 c1 c2 c3 4 es qs N3 (by omega) k hkl) ?_
                  rintro q4 σ4 ⟨rfl, k4, v4, es4, N4, fv4⟩
                  obtain ⟨ri, ro, a1, a2⟩ := S3.step N3 (k4.mono fun _ _ h => .inl h) (v' := v4) (fun j hj => .inr (fv4 j hj))
                  have RW4 := RW.keeps k4 (NoB.cell N3.obj) fun j hj hm => RW.own.noCell N3.obj (by rw [← hm]; exact hj)
                  obtain ⟨u, u1, u2, u3, u4⟩ := Two.load5 RW4.own.sl (RW4.rows.mono fun _ _ h => h.ok) hkl
                  have u5 := RW4.rows.at u4 (List.getElem?_eq_getElem hkl)
                  obtain ⟨e, rfl, e2, e3⟩ := cp u5
                  have e1' : fillL 5 true (List.replicate 1 (zel [AVal.int .i64 0, .int .i64 0, .bool false, .int .i64 0, .nilslice] true)) [(0, qs[k].val e)] = some [qs[k].val e] := one_lit qs[k] e e2.one
                  obtain ⟨out7, σ7, p1, ro7, k7, fo7⟩ := ro.append (fs := [qs[k].val e]) (xs := [qs[k]]) (Two.one u5) (by simp; omega)
                  simp -dsimp only [↓WPd, ↓wpC_block, ↓wpC_cond, WPu, Bool.false_eq_true, Bool.true_eq_false, Bool.not_true, Bool.not_false, if_true, if_false, ite_true, ite_false, Nat.reduceEqDiff, Nat.reduceLT, true_and, List.map_cons, List.map_nil, Nat.zero_add, Nat.reduceBEq, ad, faddr_f, load_f, Nat.zero_add, List.getElem?_cons_zero, List.getElem?_cons_succ, lw, f1, f2, z0, u1, u2, e1', elems_fs, p1]
                  have ri7 := ri.other ro.own k7 fun j hj hm => S.s3 j hj hm
                  have N7 := (N4.mono (G := fun _ => True) fun _ _ => trivial).off ro.own k7 fun j hj => a2 j hj
                  exact ⟨inV, out7, rfl, v4, es4, outL qs k, ies, ins, _, outs ++ [qs[k]], ⟨⟨_, _, _, _, N7⟩, ri7, ro7, a1, fun j hj hm => by
                    rcases fo7 j hm with h | h
                    · exact a2 j hj h
                    · have := N4.own.sl.lt hj; omega, fun j hj hm => by
                    rcases fo7 j hm with h | h
                    · exact S.s3 j hj h
                    · have := ri.own.sl.lt hj; omega, fun p => by rw [List.count_append, S.cnt p, outL_count hkl p]; omega, by have := outL_len hkl; simp only [List.length_append, List.length_singleton]; omega, by omega, S.short⟩⟩
                · rcases two hk with ⟨f1, f2⟩ | ⟨f1, f2⟩ <;>
                  ( simp -dsimp only [↓WPd, ↓wpC_block, ↓wpC_cond, WPu, Bool.false_eq_true, Bool.true_eq_false, Bool.not_true, Bool.not_false, if_true, if_false, ite_true, ite_false, Nat.reduceEqDiff, Nat.reduceLT, true_and, List.map_cons, List.map_nil, Nat.zero_add, Nat.reduceBEq, ad, faddr_f, load_f, Nat.zero_add, List.getElem?_cons_zero, List.getElem?_cons_succ, lw, f1, f2, k0, k1, k2]
                    refine calledW_of (drop_no 0 σ3 id v c0 c1 c2 c3 4 es qs N3 (by omega) D.n hk) ?_
                    rintro q4 σ4 ⟨rfl, g4⟩
                    simp -dsimp only [↓WPd, ↓wpC_block, ↓wpC_cond, WPu, Bool.false_eq_true, Bool.true_eq_false, Bool.not_true, Bool.not_false, if_true, if_false, ite_true, ite_false, Nat.reduceEqDiff, Nat.reduceLT, true_and, List.map_cons, List.map_nil, Nat.zero_add, Nat.reduceBEq, ad, faddr_f, load_f, Nat.zero_add, List.getElem?_cons_zero, List.getElem?_cons_succ, lw, f1, f2, z4]
                    exact ⟨inV, outV, rfl, stay g4⟩ )
              · have k2 : (D.k == 2) = false := by simp [hk2]
                by_cases hk3 : D.k = 3
                · have k3 : (D.k == 3) = true := by simp [hk3]
                  by_cases hk : 0 ≤ D.n ∧ D.n < ((qs.length : Nat) : Int)
                  · obtain ⟨k, hkn⟩ : ∃ k : Nat, D.n = k := ⟨D.n.toNat, by omega⟩
                    have hkl : k < qs.length := by omega
                    have f1 : decide (((k : Nat) : Int) ≥ 0) = true := decide_eq_true (by omega)
                    have f2 : decide (((k : Nat) : Int) < ((qs.length : Nat) : Int)) = true := decide_eq_true (by omega)
                    rw [hkn] at ad
                    have RW : RowV σ3 was _ qs := ⟨W.row, W.two.mono fun _ _ h => h.v⟩
                    have wl : ∀ j, was.sid = some j → σ2.length ≤ j := W.frl
                    simp -dsimp only [↓WPd, ↓wpC_block, ↓wpC_cond, WPu, Bool.false_eq_true, Bool.true_eq_false, Bool.not_true, Bool.not_false, if_true, if_false, ite_true, ite_false, Nat.reduceEqDiff, Nat.reduceLT, true_and, List.map_cons, List.map_nil, Nat.zero_add, Nat.reduceBEq, ad, faddr_f, load_f, Nat.zero_add, List.getElem?_cons_zero, List.getElem?_cons_succ, lw, f1, f2, k0, k1, k2, k3]
                    refine calledW_of (double_ok 0 σ3 id v c0 c1 c2 c3 4 es qs N3 (by omega) S.ds_short k hkl) ?_
                    rintro q4 σ4 ⟨rfl, k4, v4, es4, N4, fv4⟩
                    obtain ⟨ri, ro, a1, a2⟩ := S3.step N3 k4 fv4
                    have RW4 := RW.net N3.obj N3.own k4 fun j hj hm => by have := wl j hj; have := N2.own.sl.lt hm; omega
                    obtain ⟨u, u1, u2, u3, u4⟩ := Two.load5 RW4.own.sl (RW4.rows.mono fun _ _ h => h.ok) hkl
                    have u5 := RW4.rows.at u4 (List.getElem?_eq_getElem hkl)
                    obtain ⟨e, rfl, e2, e3⟩ := cp u5
                    have e1' : fillL 5 true (List.replicate 1 (zel [AVal.int .i64 0, .int .i64 0, .bool false, .int .i64 0, .nilslice] true)) [(0, qs[k].val e)] = some [qs[k].val e] := one_lit qs[k] e e2.one
                    obtain ⟨in7, σ7, p1, ri7, k7, fi7⟩ := ri.append (fs := [qs[k].val e]) (xs := [qs[k]]) (Two.one u5) (by simp; omega)
                    simp -dsimp only [↓WPd, ↓wpC_block, ↓wpC_cond, WPu, Bool.false_eq_true, Bool.true_eq_false, Bool.not_true, Bool.not_false, if_true, if_false, ite_true, ite_false, Nat.reduceEqDiff, Nat.reduceLT, true_and, List.map_cons, List.map_nil, Nat.zero_add, Nat.reduceBEq, ad, faddr_f, load_f, Nat.zero_add, List.getElem?_cons_zero, List.getElem?_cons_succ, lw, f1, f2, z0, u1, u2, e1', elems_fs, p1]
                    have ro7 := ro.other ri.own k7 fun j hj hm => S.s3 j hm hj
                    have N7 := (N4.mono (G := fun _ => True) fun _ _ => trivial).off ri.own k7 fun j hj => a1 j hj
                    exact ⟨in7, outV, rfl, v4, es4, qs ++ [qs[k]], _, ins ++ [qs[k]], oes, outs, ⟨⟨_, _, _, _, N7⟩, ri7, ro7, fun j hj hm => by
                      rcases fi7 j hm with h | h
                      · exact a1 j hj h
                      · have := N4.own.sl.lt hj; omega, a2, fun j hj hm => by
                      rcases fi7 j hj with h | h
                      · exact S.s3 j h hm
                      · have := ro.own.sl.lt hm; omega, fun p => by rw [List.count_append, List.count_append, S.cnt p]; omega, by simp only [List.length_append, List.length_singleton]; omega, by simp only [List.length_append, List.length_singleton]; omega, fun p hp => by
                      rcases List.mem_append.1 hp with h | h
                      · exact S.short p h
                      · rw [List.mem_singleton] at h; rw [h]; exact S.short _ (S.mem (List.getElem_mem hkl))⟩⟩
                  · rcases two hk with ⟨f1, f2⟩ | ⟨f1, f2⟩ <;>
                    ( simp -dsimp only [↓WPd, ↓wpC_block, ↓wpC_cond, WPu, Bool.false_eq_true, Bool.true_eq_false, Bool.not_true, Bool.not_false, if_true, if_false, ite_true, ite_false, Nat.reduceEqDiff, Nat.reduceLT, true_and, List.map_cons, List.map_nil, Nat.zero_add, Nat.reduceBEq, ad, faddr_f, load_f, Nat.zero_add, List.getElem?_cons_zero, List.getElem?_cons_succ, lw, f1, f2, k0, k1, k2, k3]
                      refine calledW_of (double_no 0 σ3 id v c0 c1 c2 c3 4 es qs N3 (by omega) D.n hk) ?_
                      rintro q4 σ4 ⟨rfl, g4⟩
                      simp -dsimp only [↓WPd, ↓wpC_block, ↓wpC_cond, WPu, Bool.false_eq_true, Bool.true_eq_false, Bool.not_true, Bool.not_false, if_true, if_false, ite_true, ite_false, Nat.reduceEqDiff, Nat.reduceLT, true_and, List.map_cons, List.map_nil, Nat.zero_add, Nat.reduceBEq, ad, faddr_f, load_f, Nat.zero_add, List.getElem?_cons_zero, List.getElem?_cons_succ, lw, f1, f2, z4]
                      exact ⟨inV, outV, rfl, stay g4⟩ )
                · have k3 : (D.k == 3) = false := by simp [hk3]
                  rcases three with ⟨f1, f2⟩ | ⟨f1, f2⟩ | ⟨f1, f2⟩ <;>
                  ( simp -dsimp only [↓WPd, ↓wpC_block, ↓wpC_cond, WPu, Bool.false_eq_true, Bool.true_eq_false, Bool.not_true, Bool.not_false, if_true, if_false, ite_true, ite_false, Nat.reduceEqDiff, Nat.reduceLT, true_and, List.map_cons, List.map_nil, Nat.zero_add, Nat.reduceBEq, ad, faddr_f, load_f, Nat.zero_add, List.getElem?_cons_zero, List.getElem?_cons_succ, lw, f1, f2, k0, k1, k2, k3]
                    exact ⟨inV, outV, rfl, stay (Keeps.refl _ _)⟩ )
        · rintro x σ7 e ⟨rfl, inV', outV', hv, st7⟩
          simp only [List.map_cons, List.map_nil, List.cons.injEq, and_true] at hv
          obtain ⟨e0, e3, e5, e6, e7⟩ := hv
          simp -dsimp only [↓WPd, ↓wpC_block, ↓wpC_cond, WPu, Bool.false_eq_true, Bool.true_eq_false, Bool.not_true, Bool.not_false, if_true, if_false, ite_true, ite_false, Nat.reduceEqDiff, Nat.reduceLT, true_and, List.map_cons, List.map_nil, Nat.zero_add, Nat.reduceBEq, e0, e3, e5, e6, e7]
          refine ⟨ds.length - (i + 1), by omega, i + 1, inV', outV', by omega, rfl, ?_, st7⟩
          rw [wrap_i64 (by omega) (by omega), Int.natCast_add, Int.natCast_one]
      · have d1 : decide (((i : Nat) : Int) < ((ds.length : Nat) : Int)) = true := decide_eq_true (by omega)
        have d2 : decide (((i : Nat) : Int) < 300) = false := decide_eq_false (by omega)
        simp -dsimp only [↓WPd, ↓wpC_block, ↓wpC_cond, WPu, Bool.false_eq_true, Bool.true_eq_false, Bool.not_true, Bool.not_false, if_true, if_false, ite_true, ite_false, Nat.reduceEqDiff, Nat.reduceLT, true_and, List.map_cons, List.map_nil, Nat.zero_add, Nat.reduceBEq, ll, d1, d2]
        exact ⟨inV, outV, rfl, st2.le (bulkN_take ds i)⟩
    · have d1 : decide (((i : Nat) : Int) < ((ds.length : Nat) : Int)) = false := decide_eq_false (by omega)
      simp -dsimp only [↓WPd, ↓wpC_block, ↓wpC_cond, WPu, Bool.false_eq_true, Bool.true_eq_false, Bool.not_true, Bool.not_false, if_true, if_false, ite_true, ite_false, Nat.reduceEqDiff, Nat.reduceLT, true_and, List.map_cons, List.map_nil, Nat.zero_add, Nat.reduceBEq, ll, d1]
      exact ⟨inV, outV, rfl, st2.le (bulkN_take ds i)⟩
  · rintro x σ2 env ⟨rfl, inV, outV, hv, v, es, qs, ies, ins, oes, outs, S⟩
    simp only [List.map_cons, List.map_nil, List.cons.injEq, and_true] at hv
    obtain ⟨v3, v5, v6⟩ := hv
    obtain ⟨c0, c1, c2, c3, N2⟩ := S.net
    have hbd := S.bound
    have hln := S.len
    simp -dsimp only [↓WPd, ↓wpC_block, ↓wpC_cond, WPu, Bool.false_eq_true, Bool.true_eq_false, Bool.not_true, Bool.not_false, if_true, if_false, ite_true, ite_false, Nat.reduceEqDiff, Nat.reduceLT, true_and, List.map_cons, List.map_nil, Nat.zero_add, Nat.reduceBEq, v3, v5, v6]
    refine calledW_of (waiting_ok 0 σ2 id v _ _ _ _ _ es qs N2 (by omega) S.ds_short) ?_
    rintro w σ3 ⟨us, W, g3⟩
    have S3 := S.grow g3
    have lw := W.row.sl.len
    rw [W.two.len] at lw
    have li := S3.rin.own.sl.len
    rw [S3.rin.rows.len] at li
    have lo := S3.rout.own.sl.len
    rw [S3.rout.rows.len] at lo
    have hw : IntKind.i64.wrap (((ins.length : Nat) : Int) - ((outs.length : Nat) : Int)) = ((qs.length : Nat) : Int) := by rw [wrap_i64 (by omega) (by omega)]; omega
    have cw : (((qs.length : Nat) : Int) != ((qs.length : Nat) : Int)) = false := by simp
    simp -dsimp only [↓WPd, ↓wpC_block, ↓wpC_cond, WPu, Bool.false_eq_true, Bool.true_eq_false, Bool.not_true, Bool.not_false, if_true, if_false, ite_true, ite_false, Nat.reduceEqDiff, Nat.reduceLT, true_and, List.map_cons, List.map_nil, Nat.zero_add, Nat.reduceBEq, v3, v5, v6, lw, li, lo, hw, cw]
    refine loop_rule (fun m vs σ' => ∃ i : Nat, i ≤ ins.length ∧ m = ins.length - i ∧ vs = [inV, outV, w, .int .i64 i] ∧ Grows σ3 σ') ins.length ⟨0, Nat.zero_le _, rfl, ?_, Keeps.refl _ _⟩ ?_
    · simp -dsimp only [↓WPd, ↓wpC_block, ↓wpC_cond, WPu, Bool.false_eq_true, Bool.true_eq_false, Bool.not_true, Bool.not_false, if_true, if_false, ite_true, ite_false, Nat.reduceEqDiff, Nat.reduceLT, true_and, List.map_cons, List.map_nil, Nat.zero_add, Nat.reduceBEq, v5, v6]; rfl
    · rintro m vs σ4 ⟨i, hi, rfl, rfl, g4⟩
      have S4 := S3.grow g4
      simp -dsimp only [↓WPd, ↓wpC_block, ↓wpC_cond, WPu, Bool.false_eq_true, Bool.true_eq_false, Bool.not_true, Bool.not_false, if_true, if_false, ite_true, ite_false, Nat.reduceEqDiff, Nat.reduceLT, true_and, List.map_cons, List.map_nil, Nat.zero_add, Nat.reduceBEq, li]
      refine condP_dec (fun hc => ?_) (fun hc => ?_)
      · have hi' : i < ins.length := by omega
        obtain ⟨u, u1, u2, u3, u4⟩ := Two.load5 S4.rin.own.sl (S4.rin.rows.mono fun _ _ h => h.ok) hi'
        have u5 := S4.rin.rows.at u4 (List.getElem?_eq_getElem hi')
        have ld : ∀ {σ' : Store}, Grows σ4 σ' → loadV σ' 5 true (addrOf 5 inV i) = some u := fun {σ'} g => by
          obtain ⟨u', w1, w2, w3, w4⟩ := Two.load5 (S4.grow g).rin.own.sl ((S4.grow g).rin.rows.mono fun _ _ h => h.ok) hi'
          rw [u4] at w4; injection w4 with w4; rw [w4]; exact w2
        have sh : ∀ p ∈ ins, p.bs.length < 2 ^ 40 := fun p hp => by have := S.short p hp; omega
        have so : ∀ p ∈ outs, p.bs.length < 2 ^ 40 := fun p hp => by
          have h1 : 0 < outs.count p := List.count_pos_iff.2 hp
          exact sh p (List.count_pos_iff.1 (by have := S.cnt p; omega))
        simp -dsimp only [↓WPd, ↓wpC_block, ↓wpC_cond, WPu, Bool.false_eq_true, Bool.true_eq_false, Bool.not_true, Bool.not_false, if_true, if_false, ite_true, ite_false, Nat.reduceEqDiff, Nat.reduceLT, true_and, List.map_cons, List.map_nil, Nat.zero_add, Nat.reduceBEq]
        refine drawnP_of rfl ?_
        simp -dsimp only [↓WPd, ↓wpC_block, ↓wpC_cond, WPu, Bool.false_eq_true, Bool.true_eq_false, Bool.not_true, Bool.not_false, if_true, if_false, ite_true, ite_false, Nat.reduceEqDiff, Nat.reduceLT, true_and, List.map_cons, List.map_nil, Nat.zero_add, Nat.reduceBEq, ↓WPed, WPeu, Nat.reduceAdd, and_self, u1, u2]
        refine calledW_of (of_ok 0 σ4 w u _ qs ins[i] (W.grow g4).row.sl ((W.grow g4).two.mono fun _ _ h => h.ok) u5.ok (by omega) S.ds_short) ?_
        rintro q5 σ5 ⟨rfl, g5⟩
        simp -dsimp only [↓WPd, ↓wpC_block, ↓wpC_cond, WPu, Bool.false_eq_true, Bool.true_eq_false, Bool.not_true, Bool.not_false, if_true, if_false, ite_true, ite_false, Nat.reduceEqDiff, Nat.reduceLT, true_and, List.map_cons, List.map_nil, Nat.zero_add, Nat.reduceBEq, ↓WPed, WPeu, Nat.reduceAdd, and_self, u1, u2, ld g5]
        refine calledW_of (of_ok 0 σ5 outV u _ outs ins[i] (S4.grow g5).rout.own.sl ((S4.grow g5).rout.rows.mono fun _ _ h => h.ok) (u5.grow g5).ok (by omega) so) ?_
        rintro q6 σ6 ⟨rfl, g6⟩
        have g56 := g5.trans g6
        simp -dsimp only [↓WPd, ↓wpC_block, ↓wpC_cond, WPu, Bool.false_eq_true, Bool.true_eq_false, Bool.not_true, Bool.not_false, if_true, if_false, ite_true, ite_false, Nat.reduceEqDiff, Nat.reduceLT, true_and, List.map_cons, List.map_nil, Nat.zero_add, Nat.reduceBEq, ↓WPed, WPeu, Nat.reduceAdd, and_self, u1, u2, ld g5, ld g56]
        refine calledW_of (of_ok 0 σ6 inV u _ ins ins[i] (S4.grow g56).rin.own.sl ((S4.grow g56).rin.rows.mono fun _ _ h => h.ok) (u5.grow g56).ok (by omega) sh) ?_
        rintro q7 σ7 ⟨rfl, g7⟩
        have hcn := S.cnt ins[i]
        have b1 : qs.count ins[i] ≤ qs.length := List.count_le_length
        have b2 : outs.count ins[i] ≤ outs.length := List.count_le_length
        have hw2 : IntKind.i64.wrap (((qs.count ins[i] : Nat) : Int) + ((outs.count ins[i] : Nat) : Int)) = ((ins.count ins[i] : Nat) : Int) := by rw [hcn, wrap_i64 (by omega) (by omega), Int.natCast_add]
        have cw2 : (((ins.count ins[i] : Nat) : Int) != ((ins.count ins[i] : Nat) : Int)) = false := by simp
        simp -dsimp only [↓WPd, ↓wpC_block, ↓wpC_cond, WPu, Bool.false_eq_true, Bool.true_eq_false, Bool.not_true, Bool.not_false, if_true, if_false, ite_true, ite_false, Nat.reduceEqDiff, Nat.reduceLT, true_and, List.map_cons, List.map_nil, Nat.zero_add, Nat.reduceBEq, ↓WPed, WPeu, Nat.reduceAdd, and_self, hw2, cw2]
        refine ⟨ins.length - (i + 1), by omega, i + 1, by omega, rfl, ?_, g4.trans (g56.trans g7)⟩
        rw [wrap_i64 (by omega) (by omega), Int.natCast_add, Int.natCast_one]
      · simp -dsimp only [↓WPd, ↓wpC_block, ↓wpC_cond, WPu, Bool.false_eq_true, Bool.true_eq_false, Bool.not_true, Bool.not_false, if_true, if_false, ite_true, ite_false, Nat.reduceEqDiff, Nat.reduceLT, true_and, List.map_cons, List.map_nil, Nat.zero_add, Nat.reduceBEq]
end Go.Proofs.Ytmocplkpnickgaa.Am

