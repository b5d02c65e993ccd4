/-
  The abstract machine and the functions of the law, 6: texts put together.
-/
import Derived.Test.YtmocplkpnickgaaNetOwnPkE
import Derived.Test.YtmocplkpnickgaaRows
import Derived.Test.YtmocplkpnickgaaNetOwnPkC
import Derived.Test.YtmocplkpnickgaaNetOwnPkD
/-
  NetOwn: the run.
-/
namespace Go.Proofs.Ytmocplkpnickgaa.Am
open Go
set_option linter.unusedVariables false
set_option linter.unusedSimpArgs false
set_option linter.unusedSectionVars false
set_option maxRecDepth 100000

theorem ORows.keeps {σ σ' : Store} {lo sz : Nat} {l : AVal} {es : List AVal} {ps : List (List AVal)} (h : ORows σ lo sz l es ps) {M : Nat → Prop} (k : Keeps M σ σ') (hl : ∀ j, l.sid = some j → ¬ M j) (he : ∀ (i : Nat) (e : AVal) (j : Nat), es[i]? = some e → e.sid = some j → ¬ M j) : ORows σ' lo sz l es ps :=
  ⟨h.row.keeps k hl, h.len, fun i e p h1 h2 => (h.one i e p h1 h2).keeps k fun j hj => he i e j h1 hj, h.frs, h.frl, h.apart, h.off, h.lit, h.litl⟩

section
variable (d : Nat) (σ : Store)

theorem takedgs_ok (c1 c2 c3 c4 : AVal) (lo lo2 : Nat) (id : Nat) (w l : AVal) (es us : List AVal) (ps : List (List UInt8)) (ds : List Dg) (h : BookB c1 c2 c3 c4 lo σ id w es ps) (hr : DRow σ lo2 l us ds) (hlo : lo ≤ lo2) (hlo2 : lo ≤ σ.length) (hn : ps.length < 2 ^ 28) (hq : ds.length < 2 ^ 28)
    (he : ∀ (i : Nat) (x : AVal) (j k : Nat) (y : AVal), es[i]? = some x → x.sid = some j → us[k]? = some y → y.sid ≠ some j) (hw : ∀ j, w.sid = some j → ∀ (k : Nat) (y : AVal), us[k]? = some y → y.sid ≠ some j) :
    Called CN.cfg d 53 [.ptr id 0, l] σ fun _ σ' => Keeps (fun i => i = id ∨ w.sid = some i) σ σ' ∧ ∃ w', BookB c1 c2 c3 c4 lo σ' id w' (es ++ us) (ps ++ ds.map (·.bs)) ∧ (∀ j, w'.sid = some j → w.sid = some j ∨ σ.length ≤ j) := by
  refine called_of (fn := CN.a53) rfl (Nat.le_of_ble_eq_true rfl) ?_
  have ll := hr.row.sl.len
  rw [hr.two.len] at ll
  have hul := hr.len
  have hpl := h.rows.len
  rw [List.length_map] at hpl
  simp only [CN.a53]
  simp -dsimp only [↓WPd, ↓wpC_block, ↓wpC_cond, WPu, Bool.false_eq_true, Bool.true_eq_false, Bool.not_true, Bool.not_false, if_true, if_false, ite_true, ite_false, Nat.reduceEqDiff, Nat.reduceLT, true_and, List.map_cons, List.map_nil, Nat.zero_add, Nat.reduceBEq]
  refine loop_rule (fun m vs σ' => ∃ (i : Nat) (u : AVal), i ≤ ds.length ∧ m = ds.length - i ∧ vs = [.ptr id 0, l, .int .i64 i] ∧ BookB c1 c2 c3 c4 lo σ' id u (es ++ us.take i) (ps ++ (ds.take i).map (·.bs)) ∧ DRow σ' lo2 l us ds ∧
    (∀ j, u.sid = some j → w.sid = some j ∨ σ.length ≤ j) ∧ Keeps (fun i => i = id ∨ w.sid = some i) σ σ') ds.length ⟨0, w, Nat.zero_le _, rfl, ?_, by simpa using h, hr, fun j hj => .inl hj, Keeps.refl _ _⟩ ?_
  · simp -dsimp only [↓WPd, ↓wpC_block, ↓wpC_cond, WPu, Bool.false_eq_true, Bool.true_eq_false, Bool.not_true, Bool.not_false, if_true, if_false, ite_true, ite_false, Nat.reduceEqDiff, Nat.reduceLT, true_and, List.map_cons, List.map_nil, Nat.zero_add, Nat.reduceBEq]; rfl
  · rintro m vs σ' ⟨i, u, hi, rfl, rfl, hb, hr', hu, hk⟩
    simp -dsimp only [↓WPd, ↓wpC_block, ↓wpC_cond, WPu, Bool.false_eq_true, Bool.true_eq_false, Bool.not_true, Bool.not_false, if_true, if_false, ite_true, ite_false, Nat.reduceEqDiff, Nat.reduceLT, true_and, List.map_cons, List.map_nil, Nat.zero_add, Nat.reduceBEq, ll]
    refine condP_dec (fun hc => ?_) (fun hc => ?_)
    · have hi' : i < ds.length := by omega
      have hiu : i < us.length := by omega
      have hui : us[i]? = some us[i] := List.getElem?_eq_getElem hiu
      have oe := hr'.one i us[i] ds[i] hui (List.getElem?_eq_getElem hi')
      have hlt : ∀ j, us[i].sid = some j → j < σ.length := fun j hj => hr.lt hui hj
      have hz : i < (List.zipWith Dg.val ds us).length := by simp; omega
      have hzz : (List.zipWith Dg.val ds us)[i] = ds[i].val us[i] := by
        have : (List.zipWith Dg.val ds us)[i]? = some (ds[i].val us[i]) := by rw [List.getElem?_zipWith, List.getElem?_eq_getElem hi', hui]
        rw [List.getElem?_eq_getElem hz] at this; exact Option.some.inj this
      have b1 := (hr'.row.sl.addr hz .i64).2
      rw [hzz] at b1
      obtain ⟨q, q1, q2⟩ := faddr_load b1 4
      have q2' : loadV σ' 1 false q = some us[i] := q2
      have hkl := hk.1
      simp -dsimp only [↓WPd, ↓wpC_block, ↓wpC_cond, WPu, Bool.false_eq_true, Bool.true_eq_false, Bool.not_true, Bool.not_false, if_true, if_false, ite_true, ite_false, Nat.reduceEqDiff, Nat.reduceLT, true_and, List.map_cons, List.map_nil, Nat.zero_add, Nat.reduceBEq, hr'.row.sl.iaddr hz, q1, q2']
      refine calledW_of (takebytes_ok d σ' c1 c2 c3 c4 lo id u us[i] _ _ (ds[i]).bs hb oe ((hr.frs i _ hui).le hlo) (by omega) (hr.lit i _ hui) (by simp; omega) (fun j hj hj' => ?_) (fun k x j hx hj hj' => ?_)) ?_
      · have h2 := hlt j hj
        rcases hu j hj' with e | e
        · exact hw j e i _ hui hj
        · omega
      · by_cases hke : k < es.length
        · rw [List.getElem?_append_left hke] at hx
          exact he k x j i _ hx hj' hui hj
        · rw [List.getElem?_append_right (by omega), List.getElem?_take] at hx
          split at hx
          · rename_i hki
            have := hr.apart _ _ _ _ j hx hui hj' hj
            omega
          · cases hx
      · rintro r σ2 ⟨k2, u2, hb2, hu2⟩
        have hrow : ∀ j, l.sid = some j → ¬ (j = id ∨ u.sid = some j) := fun j hj e => by
          rcases e with rfl | e
          · exact hr'.row.noCell hb.obj hj
          · exact hr'.row.sizes hb.rows.row (by decide) hj e
        have hone : ∀ (k : Nat) (x : AVal) (j : Nat), us[k]? = some x → x.sid = some j → ¬ (j = id ∨ u.sid = some j) := fun k x j hx hj e => by
          have h2 := hr.lt hx hj
          rcases e with rfl | e
          · have hkl := (List.getElem?_eq_some_iff.1 hx).1
            exact (hr'.one k x (ds[k]'(by omega)) hx (List.getElem?_eq_getElem _)).noCell hb.obj hj
          · rcases hu j e with e | e
            · exact hw j e k x hx hj
            · omega
        have hr2 : DRow σ2 lo2 l us ds := ⟨hr'.len, hr'.row.keeps k2 hrow, hr'.frl, fun k x p h1 h2 => (hr'.one k x p h1 h2).keeps k2 fun j hj => hone k x j h1 hj, hr'.frs, hr'.lit, hr'.apart⟩
        simp -dsimp only [↓WPd, ↓wpC_block, ↓wpC_cond, WPu, Bool.false_eq_true, Bool.true_eq_false, Bool.not_true, Bool.not_false, if_true, if_false, ite_true, ite_false, Nat.reduceEqDiff, Nat.reduceLT, true_and, List.map_cons, List.map_nil, Nat.zero_add, Nat.reduceBEq]
        refine ⟨ds.length - (i + 1), by omega, i + 1, u2, by omega, rfl, ?_, ?_, hr2, fun j hj => ?_, ?_⟩
        · rw [wrap_i64 (by omega) (by omega), Int.natCast_add, Int.natCast_one]
        · have e1 : us.take (i + 1) = us.take i ++ [us[i]] := by rw [List.take_add_one, hui]; rfl
          have e2 : (ds.take (i + 1)).map (·.bs) = (ds.take i).map (·.bs) ++ [(ds[i]).bs] := by rw [List.take_add_one, List.getElem?_eq_getElem hi', List.map_append]; rfl
          rw [e1, e2, ← List.append_assoc, ← List.append_assoc]
          exact hb2
        · rcases hu2 j hj with e | e
          · exact hu j e
          · exact .inr (by omega)
        · refine Keeps.trans hk k2 fun j hj e => ?_
          rcases e with e | e
          · exact .inl e
          · rcases hu j e with e | e
            · exact .inr e
            · omega
    · have hi' : i = ds.length := by omega
      subst hi'
      rw [List.take_length, List.take_of_length_le (by omega)] at hb
      simp -dsimp only [↓WPd, ↓wpC_block, ↓wpC_cond, WPu, Bool.false_eq_true, Bool.true_eq_false, Bool.not_true, Bool.not_false, if_true, if_false, ite_true, ite_false, Nat.reduceEqDiff, Nat.reduceLT, true_and, List.map_cons, List.map_nil, Nat.zero_add, Nat.reduceBEq, resultsA, mapO]
      exact ⟨hk, u, hb, hu⟩

theorem alone2_ok (lo : Nat) (id : Nat) (wb wi : AVal) (eb ei : List AVal) (pb : List (List UInt8)) (pi : List (List Int)) (h : BookB .nilslice wi .nilslice .nilslice lo σ id wb eb pb) (hi : ORows σ lo 1 wi ei (pi.map II)) (hn : pb.length < 2 ^ 28) (hq : ∀ q ∈ pb, q.length < 2 ^ 28) (hn' : pi.length < 2 ^ 28) (hq' : ∀ q ∈ pi, q.length < 2 ^ 28)
    (s1 : ∀ (i : Nat) (e : AVal) (j : Nat), eb[i]? = some e → e.sid = some j → wi.sid ≠ some j ∧ ∀ (k : Nat) (y : AVal), ei[k]? = some y → y.sid ≠ some j) :
    Called CN.cfg d 26 [.ptr id 0] σ fun r σ' => r = .bool true ∧ Keeps (fun j => j = id ∨ (∃ (i : Nat) (e : AVal), eb[i]? = some e ∧ e.sid = some j) ∨ ∃ (i : Nat) (e : AVal), ei[i]? = some e ∧ e.sid = some j) σ σ' := by
  refine called_of (fn := CN.a26) rfl (Nat.le_of_ble_eq_true rfl) ?_
  have e1 : fillA [AVal.nilslice, .nilslice, .nilslice, .nilslice, .nilslice] [] = some [AVal.nilslice, .nilslice, .nilslice, .nilslice, .nilslice] := rfl
  simp only [CN.a26]
  simp -dsimp only [↓WPd, ↓wpC_block, ↓wpC_cond, WPu, Bool.false_eq_true, Bool.true_eq_false, Bool.not_true, Bool.not_false, if_true, if_false, ite_true, ite_false, Nat.reduceEqDiff, Nat.reduceLT, true_and, List.map_cons, List.map_nil, Nat.zero_add, Nat.reduceBEq]
  refine calledW_of (alonebytes_ok d σ .nilslice wi .nilslice .nilslice lo id wb eb pb h hn hq) ?_
  rintro r σ1 ⟨rfl, o1, k1⟩
  simp -dsimp only [↓WPd, ↓wpC_block, ↓wpC_cond, WPu, Bool.false_eq_true, Bool.true_eq_false, Bool.not_true, Bool.not_false, if_true, if_false, ite_true, ite_false, Nat.reduceEqDiff, Nat.reduceLT, true_and, List.map_cons, List.map_nil, Nat.zero_add, Nat.reduceBEq]
  refine calledW_of (alonetexts_ok d σ1 id _ _ _ _ _ o1 rfl) ?_
  rintro r σ2 ⟨rfl, rfl⟩
  have hi2 : ORows σ2 lo 1 wi ei (pi.map II) := hi.keeps k1 (fun j hj ⟨i, e, h1, h2⟩ => (s1 i e j h1 h2).1 hj) (fun k y j hy hj ⟨i, e, h1, h2⟩ => (s1 i e j h1 h2).2 k y hy hj)
  simp -dsimp only [↓WPd, ↓wpC_block, ↓wpC_cond, WPu, Bool.false_eq_true, Bool.true_eq_false, Bool.not_true, Bool.not_false, if_true, if_false, ite_true, ite_false, Nat.reduceEqDiff, Nat.reduceLT, true_and, List.map_cons, List.map_nil, Nat.zero_add, Nat.reduceBEq]
  refine calledW_of (aloneints2_ok d σ2 wb .nilslice .nilslice .nilslice lo id wi ei pi ⟨o1, hi2⟩ hn' hq') ?_
  rintro r σ3 ⟨rfl, o3, k3⟩
  simp -dsimp only [↓WPd, ↓wpC_block, ↓wpC_cond, WPu, Bool.false_eq_true, Bool.true_eq_false, Bool.not_true, Bool.not_false, if_true, if_false, ite_true, ite_false, Nat.reduceEqDiff, Nat.reduceLT, true_and, List.map_cons, List.map_nil, Nat.zero_add, Nat.reduceBEq]
  refine calledW_of (alonecells_ok d σ3 id _ _ _ _ _ o3 rfl) ?_
  rintro r σ4 ⟨rfl, rfl⟩
  simp -dsimp only [↓WPd, ↓wpC_block, ↓wpC_cond, WPu, Bool.false_eq_true, Bool.true_eq_false, Bool.not_true, Bool.not_false, if_true, if_false, ite_true, ite_false, Nat.reduceEqDiff, Nat.reduceLT, true_and, List.map_cons, List.map_nil, Nat.zero_add, Nat.reduceBEq]
  refine calledW_of (alonenames_ok d σ4 id _ _ _ _ _ o3 rfl) ?_
  rintro r σ5 ⟨rfl, rfl⟩
  simp -dsimp only [↓WPd, ↓wpC_block, ↓wpC_cond, WPu, Bool.false_eq_true, Bool.true_eq_false, Bool.not_true, Bool.not_false, if_true, if_false, ite_true, ite_false, Nat.reduceEqDiff, Nat.reduceLT, true_and, List.map_cons, List.map_nil, Nat.zero_add, Nat.reduceBEq, e1, store5 o3 rfl]
  exact Keeps.trans (Keeps.trans (k1.mono fun i _ h => .inr (.inl h)) k3 fun i _ h => .inr (.inr h)) (Keeps.set _ _ _) fun i hi e => .inl e
end
theorem I_II (l : List Nat) : I l = II (l.map fun i : Nat => (i : Int)) := by simp [I, II]
theorem DRow.keepsLt {σ σ' : Store} {lo : Nat} {l : AVal} {us : List AVal} {ds : List Dg} (h : DRow σ lo l us ds) {M : Nat → Prop} (k : Keeps M σ σ') (hm : ∀ j, j < σ.length → ¬ M j) : DRow σ' lo l us ds :=
  ⟨h.len, h.row.keeps k fun j hj => hm j (h.row.sl.lt hj), h.frl, fun i e p h1 h2 => (h.one i e p h1 h2).keeps k fun j hj => hm j (h.lt h1 hj), h.frs, h.lit, h.apart⟩
theorem NetOk.keepsLt {σ σ' : Store} {F M : Nat → Prop} {id : Nat} {v : AVal} {c0 c1 c2 c3 n : Int} {es : List AVal} {ds : List Dg} (h : NetOk σ F id v c0 c1 c2 c3 n es ds) (k : Keeps M σ σ') (hm : ∀ j, j < σ.length → ¬ M j) : NetOk σ' F id v c0 c1 c2 c3 n es ds :=
  ⟨k.get h.obj (hm _ (List.getElem?_eq_some_iff.1 h.obj).1), h.own.keeps k fun j hj => hm j (h.own.sl.lt hj), h.rows.mono fun _ _ h' => by
    obtain ⟨e, e1, e2, e3⟩ := h'
    exact ⟨e, e1, e2.keeps k fun j hj => hm j (e2.sl.lt hj), e3⟩⟩

set_option maxHeartbeats 8000000 in
theorem own_run (l : AVal) (fs : List AVal) (xs : List Dg) (hl : SlOf [] 5 l fs) (hx : Two (DgOk [] (fun _ => False)) fs xs) (hn : xs.length < 2 ^ 24) (hs : ∀ p ∈ xs, p.bs.length < 2 ^ 26) :
    Called CN.cfg 0 11 [l] [] fun v _ => v = .bool true := by
  refine called_of (fn := CN.a11) rfl (Nat.le_of_ble_eq_true rfl) ?_
  have ll := hl.len
  rw [hx.len] at ll
  have hs40 : ∀ p ∈ xs, p.bs.length < 2 ^ 40 := fun p hp => by have := hs p hp; omega
  simp only [CN.a11]
  simp -dsimp only [↓WPd, ↓wpC_block, ↓wpC_cond, WPu, Bool.false_eq_true, Bool.true_eq_false, Bool.not_true, Bool.not_false, if_true, if_false, ite_true, ite_false, Nat.reduceEqDiff, Nat.reduceLT, true_and, List.map_cons, List.map_nil, Nat.zero_add, Nat.reduceBEq]
  refine isoW_bool nlive_ran ?_
  simp -dsimp only [↓WPd, ↓wpC_block, ↓wpC_cond, WPu, Bool.false_eq_true, Bool.true_eq_false, Bool.not_true, Bool.not_false, if_true, if_false, ite_true, ite_false, Nat.reduceEqDiff, Nat.reduceLT, true_and, List.map_cons, List.map_nil, Nat.zero_add, Nat.reduceBEq]
  refine calledW_of (netnew_ok 0 [] 4 (by omega)) ?_
  rintro r σ1 ⟨id, rfl, N1, g1, -⟩
  have c0 : ((0 : Int) != 0) = false := rfl
  simp -dsimp only [↓WPd, ↓wpC_block, ↓wpC_cond, WPu, Bool.false_eq_true, Bool.true_eq_false, Bool.not_true, Bool.not_false, if_true, if_false, ite_true, ite_false, Nat.reduceEqDiff, Nat.reduceLT, true_and, List.map_cons, List.map_nil, Nat.zero_add, Nat.reduceBEq, List.getElem?_cons_zero, List.getElem?_cons_succ, c0]
  refine calledW_of (send_ok 0 σ1 id .nilslice 0 0 0 0 4 [] [] N1 l fs xs (hl.grow (grows_nil _)) (hx.mono fun _ _ h => h.grow (grows_nil _)) (fun j h => h.elim) (fun j h => absurd (hl.lt h) (Nat.not_lt_zero _)) (by simp; omega) hs40) ?_
  rintro r σ2 ⟨rfl, hpost⟩
  by_cases h0 : sendE 4 xs = 0
  · rw [if_pos h0] at hpost
    obtain ⟨k2, v2, es2, N2, fv2⟩ := hpost
    rw [List.nil_append] at N2
    have c1 : (sendE 4 xs != 0) = false := by simp [h0]
    have e5 : fillA [AVal.nilslice, .nilslice, .nilslice, .nilslice, .nilslice] [] = some [AVal.nilslice, .nilslice, .nilslice, .nilslice, .nilslice] := rfl
    have e6 : [AVal.nilslice, .nilslice, .nilslice, .nilslice, .nilslice].all AVal.one = true := rfl
    simp -dsimp only [↓WPd, ↓wpC_block, ↓wpC_cond, WPu, Bool.false_eq_true, Bool.true_eq_false, Bool.not_true, Bool.not_false, if_true, if_false, ite_true, ite_false, Nat.reduceEqDiff, Nat.reduceLT, true_and, List.map_cons, List.map_nil, Nat.zero_add, Nat.reduceBEq, c1, ll]
    refine condP_dec (fun hpos => ?pos) (fun hpos => ?neg)
    case' pos =>
      have hp' : 0 < xs.length := by omega
      simp -dsimp only [↓WPd, ↓wpC_block, ↓wpC_cond, WPu, Bool.false_eq_true, Bool.true_eq_false, Bool.not_true, Bool.not_false, if_true, if_false, ite_true, ite_false, Nat.reduceEqDiff, Nat.reduceLT, true_and, List.map_cons, List.map_nil, Nat.zero_add, Nat.reduceBEq]
      refine calledW_of (double_ok 0 σ2 id v2 _ _ _ _ _ es2 xs N2 (by omega) hs40 0 hp') ?_
      rintro r σ3 ⟨rfl, k3, v3, es3, N3, fv3⟩
      have hl3 : (xs ++ [xs[0]]).length < 2 ^ 25 := by simp; omega
      have hs3 : ∀ p ∈ xs ++ [xs[0]], p.bs.length < 2 ^ 26 := fun p hp => by
        rcases List.mem_append.1 hp with hp | hp
        · exact hs p hp
        · rw [List.mem_singleton] at hp; rw [hp]; exact hs _ (List.getElem_mem hp')
      generalize xs ++ [xs[0]] = ds3 at N3 hl3 hs3
      have NN : ∃ c0 c1 c2 c3 F, NetOk σ3 F id v3 c0 c1 c2 c3 4 es3 ds3 := ⟨_, _, _, _, _, N3⟩
      clear N3
    case' neg =>
      obtain ⟨σ3, v3, es3, ds3, NN, hl3, hs3, hσ⟩ : ∃ σ3 v3 es3 ds3, (∃ c0 c1 c2 c3 F, NetOk σ3 F id v3 c0 c1 c2 c3 4 es3 ds3) ∧ ds3.length < 2 ^ 25 ∧ (∀ p ∈ ds3, p.bs.length < 2 ^ 26) ∧ σ3 = σ2 := ⟨σ2, v2, es2, xs, ⟨_, _, _, _, _, N2⟩, by omega, hs, rfl⟩
      subst hσ
    all_goals
      have hs340 : ∀ p ∈ ds3, p.bs.length < 2 ^ 40 := fun p hp => by have := hs3 p hp; omega
      obtain ⟨a0, a1, a2, a3, F, N3⟩ := NN
      simp -dsimp only [↓WPd, ↓wpC_block, ↓wpC_cond, WPu, Bool.false_eq_true, Bool.true_eq_false, Bool.not_true, Bool.not_false, if_true, if_false, ite_true, ite_false, Nat.reduceEqDiff, Nat.reduceLT, true_and, List.map_cons, List.map_nil, Nat.zero_add, Nat.reduceBEq]
      refine calledW_of (waiting_ok 0 σ3 id v3 a0 a1 a2 a3 4 es3 ds3 N3 (by omega) hs340) ?_
      rintro was σ4 ⟨us4, W4, g4⟩
      have N4 := N3.grow g4
      simp -dsimp only [↓WPd, ↓wpC_block, ↓wpC_cond, WPu, Bool.false_eq_true, Bool.true_eq_false, Bool.not_true, Bool.not_false, if_true, if_false, ite_true, ite_false, Nat.reduceEqDiff, Nat.reduceLT, true_and, List.map_cons, List.map_nil, Nat.zero_add, Nat.reduceBEq, e5, e6, cells_agg]
      have gb : Grows σ4 (σ4 ++ [AObj.cells [.nilslice, .nilslice, .nilslice, .nilslice, .nilslice]]) := Grows.app _ _
      have ob : (σ4 ++ [AObj.cells [.nilslice, .nilslice, .nilslice, .nilslice, .nilslice]])[σ4.length]? = some (.cells [.nilslice, .nilslice, .nilslice, .nilslice, .nilslice]) := by simp
      have lb : (σ4 ++ [AObj.cells [.nilslice, .nilslice, .nilslice, .nilslice, .nilslice]]).length = σ4.length + 1 := by simp
      generalize σ4 ++ [AObj.cells [.nilslice, .nilslice, .nilslice, .nilslice, .nilslice]] = σb at gb ob lb
      have net : ∀ {σ' : Store}, Keeps (fun j => σ4.length ≤ j) σ4 σ' → NetOk σ' F id v3 a0 a1 a2 a3 4 es3 ds3 := fun k => N4.keepsLt k fun j hj => by omega
      have Kb : Keeps (fun j => σ4.length ≤ j) σ4 σb := gb.any
      refine calledW_of (waiting_ok 0 σb id v3 a0 a1 a2 a3 4 es3 ds3 (net Kb) (by omega) hs340) ?_
      rintro l5 σ5 ⟨us5, W5, g5⟩
      have K5 := Keeps.trans Kb g5 fun _ _ h => h.elim
      have bk5 : BookB .nilslice .nilslice .nilslice .nilslice σb.length σ5 σ4.length .nilslice [] [] := ⟨g5.get ob, ORows.nil _ _ _⟩
      have l5b := g5.1
      simp -dsimp only [↓WPd, ↓wpC_block, ↓wpC_cond, WPu, Bool.false_eq_true, Bool.true_eq_false, Bool.not_true, Bool.not_false, if_true, if_false, ite_true, ite_false, Nat.reduceEqDiff, Nat.reduceLT, true_and, List.map_cons, List.map_nil, Nat.zero_add, Nat.reduceBEq]
      refine calledW_of (takedgs_ok 0 σ5 .nilslice .nilslice .nilslice .nilslice σb.length σb.length σ4.length .nilslice l5 [] us5 [] ds3 bk5 W5 (Nat.le_refl _) l5b (by simp) (by omega) (fun i x j k y h => by simp at h) (fun j h => by cases h)) ?_
      rintro r6 σ6 ⟨k6, w6, bk6, fw6⟩
      have K6 := Keeps.trans K5 k6 fun i hi hm => by
        rcases hm with hm | hm
        · omega
        · cases hm
      have l56 := k6.1
      simp -dsimp only [↓WPd, ↓wpC_block, ↓wpC_cond, WPu, Bool.false_eq_true, Bool.true_eq_false, Bool.not_true, Bool.not_false, if_true, if_false, ite_true, ite_false, Nat.reduceEqDiff, Nat.reduceLT, true_and, List.map_cons, List.map_nil, Nat.zero_add, Nat.reduceBEq]
      refine calledW_of (waiting_ok 0 σ6 id v3 a0 a1 a2 a3 4 es3 ds3 (net K6) (by omega) hs340) ?_
      rintro l7 σ7 ⟨us7, W7, g7⟩
      have K7 := Keeps.trans K6 g7 fun _ _ h => h.elim
      have bk7 : BookB .nilslice .nilslice .nilslice .nilslice σb.length σ7 σ4.length w6 ([] ++ us5) ([] ++ ds3.map (·.bs)) := ⟨g7.get bk6.obj, bk6.rows.grow g7⟩
      have l67 := g7.1
      simp -dsimp only [↓WPd, ↓wpC_block, ↓wpC_cond, WPu, Bool.false_eq_true, Bool.true_eq_false, Bool.not_true, Bool.not_false, if_true, if_false, ite_true, ite_false, Nat.reduceEqDiff, Nat.reduceLT, true_and, List.map_cons, List.map_nil, Nat.zero_add, Nat.reduceBEq]
      refine calledW_of (takedgs_ok 0 σ7 .nilslice .nilslice .nilslice .nilslice σb.length σ6.length σ4.length w6 l7 _ us7 _ ds3 bk7 W7 (by omega) (by omega) (by simp; omega) (by omega) (fun i x j k y h1 h2 h3 h4 => ?_) (fun j hj k y hy hyj => ?_)) ?_
      · have := bk6.rows.lt h1 h2
        have := W7.frs _ _ h3 _ h4
        omega
      · have := bk6.rows.row.sl.lt hj
        have := W7.frs _ _ hy _ hyj
        omega
      rintro r8 σ8 ⟨k8, w8, bk8, fw8⟩
      have K8 := Keeps.trans K7 k8 fun i hi hm => by
        rcases hm with hm | hm
        · omega
        · have := bk6.rows.frl i hm; omega
      have l78 := k8.1
      simp -dsimp only [↓WPd, ↓wpC_block, ↓wpC_cond, WPu, Bool.false_eq_true, Bool.true_eq_false, Bool.not_true, Bool.not_false, if_true, if_false, ite_true, ite_false, Nat.reduceEqDiff, Nat.reduceLT, true_and, List.map_cons, List.map_nil, Nat.zero_add, Nat.reduceBEq]
      refine calledW_of (netto_ok 0 σ8 id v3 a0 a1 a2 a3 4 es3 ds3 (net K8) (by omega) 1) ?_
      rintro t9 σ9 ⟨O9, f9, n9, g9⟩
      have K9 := Keeps.trans K8 g9 fun _ _ h => h.elim
      have l89 := g9.1
      have tl := toL_len ds3 1 ds3.length
      rw [I_II] at O9
      have bi9 : BookI w8 .nilslice .nilslice .nilslice σb.length σ9 σ4.length .nilslice [] [] := ⟨g9.get bk8.obj, ORows.nil _ _ _⟩
      have br9 := bk8.rows.grow g9
      simp -dsimp only [↓WPd, ↓wpC_block, ↓wpC_cond, WPu, Bool.false_eq_true, Bool.true_eq_false, Bool.not_true, Bool.not_false, if_true, if_false, ite_true, ite_false, Nat.reduceEqDiff, Nat.reduceLT, true_and, List.map_cons, List.map_nil, Nat.zero_add, Nat.reduceBEq]
      refine calledW_of (takeints_ok 0 σ9 w8 .nilslice .nilslice .nilslice σb.length σ4.length .nilslice t9 [] [] _ bi9 O9 (f9.le (by omega)) (by omega) n9 (by simp) (fun j hj h => by cases h) (fun i x j h => by simp at h)) ?_
      rintro r10 σ10 ⟨k10, w10, bi10, fw10⟩
      have K10 := Keeps.trans K9 k10 fun i hi hm => by
        rcases hm with hm | hm
        · omega
        · cases hm
      have l910 := k10.1
      have blt : ∀ {i : Nat} {e : AVal} {j : Nat}, (([] ++ us5 ++ us7 : List AVal))[i]? = some e → e.sid = some j → j < σ8.length := fun h1 h2 => bk8.rows.lt h1 h2
      have wlt : ∀ j, w8.sid = some j → j < σ8.length := fun j hj => bk8.rows.row.sl.lt hj
      have noid : ∀ {σ' : Store} {u : AVal} {q : List AVal}, Own σ' 1 u q → (∃ cs, σ'[σ4.length]? = some (.cells cs)) → ∀ j, u.sid = some j → j ≠ σ4.length := fun hu ⟨cs, ho⟩ j hj hm => hu.noCell ho (by rw [← hm]; exact hj)
      have br10 : ORows σ10 σb.length 1 w8 (([] : List AVal) ++ us5 ++ us7) ((([] : List (List UInt8)) ++ ds3.map (fun p : Dg => p.bs) ++ ds3.map (fun p : Dg => p.bs)).map B) := br9.keeps k10 (fun j hj hm => by
        rcases hm with hm | hm
        · exact noid br9.row ⟨_, bi9.obj⟩ j hj hm
        · cases hm) (fun i e j he hj hm => by
        rcases hm with hm | hm
        · have := bk8.rows.frs i e he j hj; omega
        · cases hm)
      simp -dsimp only [↓WPd, ↓wpC_block, ↓wpC_cond, WPu, Bool.false_eq_true, Bool.true_eq_false, Bool.not_true, Bool.not_false, if_true, if_false, ite_true, ite_false, Nat.reduceEqDiff, Nat.reduceLT, true_and, List.map_cons, List.map_nil, Nat.zero_add, Nat.reduceBEq]
      refine calledW_of (netto_ok 0 σ10 id v3 a0 a1 a2 a3 4 es3 ds3 (net K10) (by omega) 1) ?_
      rintro t11 σ11 ⟨O11, f11, n11, g11⟩
      have K11 := Keeps.trans K10 g11 fun _ _ h => h.elim
      have l1011 := g11.1
      rw [I_II] at O11
      have bi11 : BookI w8 .nilslice .nilslice .nilslice σb.length σ11 σ4.length w10 _ _ := ⟨g11.get bi10.obj, bi10.rows.grow g11⟩
      have br11 := br10.grow g11
      simp -dsimp only [↓WPd, ↓wpC_block, ↓wpC_cond, WPu, Bool.false_eq_true, Bool.true_eq_false, Bool.not_true, Bool.not_false, if_true, if_false, ite_true, ite_false, Nat.reduceEqDiff, Nat.reduceLT, true_and, List.map_cons, List.map_nil, Nat.zero_add, Nat.reduceBEq]
      refine calledW_of (takeints_ok 0 σ11 w8 .nilslice .nilslice .nilslice σb.length σ4.length w10 t11 _ _ _ bi11 O11 (f11.le (by omega)) (by omega) n11 (by simp) (fun j hj h => ?_) (fun i x j h hj hxj => ?_)) ?_
      · have := bi10.rows.row.sl.lt h
        have := f11 j hj
        omega
      · have := bi10.rows.lt h hxj
        have := f11 j hj
        omega
      rintro r12 σ12 ⟨k12, w12, bi12, fw12⟩
      have K12 := Keeps.trans K11 k12 fun i hi hm => by
        rcases hm with hm | hm
        · omega
        · have := bi10.rows.frl i hm; omega
      have w10f : ∀ j, w10.sid = some j → σ9.length ≤ j := fun j hj => by
        rcases fw10 j hj with h | h
        · cases h
        · exact h
      have w12f : ∀ j, w12.sid = some j → σ9.length ≤ j := fun j hj => by
        rcases fw12 j hj with h | h
        · exact w10f j h
        · omega
      have br12 : ORows σ12 σb.length 1 w8 (([] : List AVal) ++ us5 ++ us7) ((([] : List (List UInt8)) ++ ds3.map (fun p : Dg => p.bs) ++ ds3.map (fun p : Dg => p.bs)).map B) := br11.keeps k12 (fun j hj hm => by
        rcases hm with hm | hm
        · exact noid br11.row ⟨_, bi11.obj⟩ j hj hm
        · have := w10f j hm; have := wlt j hj; omega) (fun i e j he hj hm => by
        rcases hm with hm | hm
        · have := bk8.rows.frs i e he j hj; omega
        · have := w10f j hm; have := blt he hj; omega)
      have bb12 : BookB .nilslice w12 .nilslice .nilslice σb.length σ12 σ4.length w8 _ _ := ⟨bi12.obj, br12⟩
      simp -dsimp only [↓WPd, ↓wpC_block, ↓wpC_cond, WPu, Bool.false_eq_true, Bool.true_eq_false, Bool.not_true, Bool.not_false, if_true, if_false, ite_true, ite_false, Nat.reduceEqDiff, Nat.reduceLT, true_and, List.map_cons, List.map_nil, Nat.zero_add, Nat.reduceBEq]
      refine calledW_of (alone2_ok 0 σ12 σb.length σ4.length w8 w12 _ _ _ _ bb12 bi12.rows (by simp; omega) (fun q hq => ?_) (by simp) (fun q hq => ?_) (fun i e j he hj => ⟨fun h => ?_, fun k y hy hyj => ?_⟩)) ?_
      · simp only [List.nil_append, List.mem_append, List.mem_map] at hq
        rcases hq with ⟨p, hp, rfl⟩ | ⟨p, hp, rfl⟩
        · have := hs3 p hp; omega
        · have := hs3 p hp; omega
      · simp only [List.nil_append, List.mem_append, List.mem_singleton] at hq
        rcases hq with rfl | rfl
        · rw [List.length_map]; omega
        · rw [List.length_map]; omega
      · have := w12f j h; have := blt he hj; omega
      · have h1 := blt he hj
        have hm := List.mem_of_getElem? hy
        simp only [List.nil_append, List.mem_append, List.mem_singleton] at hm
        rcases hm with rfl | rfl
        · have := f9 j hyj; omega
        · have := f11 j hyj; omega
      rintro r13 σ13 ⟨rfl, k13⟩
      have K13 := Keeps.trans K12 k13 fun i hi hm => by
        rcases hm with hm | ⟨k, e, h1, h2⟩ | ⟨k, e, h1, h2⟩
        · omega
        · have := br12.frs k e h1 i h2; omega
        · have := bi12.rows.frs k e h1 i h2; omega
      simp -dsimp only [↓WPd, ↓wpC_block, ↓wpC_cond, WPu, Bool.false_eq_true, Bool.true_eq_false, Bool.not_true, Bool.not_false, if_true, if_false, ite_true, ite_false, Nat.reduceEqDiff, Nat.reduceLT, true_and, List.map_cons, List.map_nil, Nat.zero_add, Nat.reduceBEq]
      refine calledW_of (waiting_ok 0 σ13 id v3 a0 a1 a2 a3 4 es3 ds3 (net K13) (by omega) hs340) ?_
      rintro l14 σ14 ⟨us14, W14, g14⟩
      have W4' := (W4.keepsLt K13 fun j hj => by omega).grow g14
      simp -dsimp only [↓WPd, ↓wpC_block, ↓wpC_cond, WPu, Bool.false_eq_true, Bool.true_eq_false, Bool.not_true, Bool.not_false, if_true, if_false, ite_true, ite_false, Nat.reduceEqDiff, Nat.reduceLT, true_and, List.map_cons, List.map_nil, Nat.zero_add, Nat.reduceBEq]
      refine calledW_of (samedgs_ok 0 σ14 l14 was _ _ ds3 ds3 (by omega) hs340 W14.row.sl W4'.row.sl (W14.two.mono fun _ _ h => h.ok) (W4'.two.mono fun _ _ h => h.ok)) ?_
      rintro r15 σ15 ⟨rfl, g15⟩
      simp -dsimp only [↓WPd, ↓wpC_block, ↓wpC_cond, WPu, Bool.false_eq_true, Bool.true_eq_false, Bool.not_true, Bool.not_false, if_true, if_false, ite_true, ite_false, Nat.reduceEqDiff, Nat.reduceLT, true_and, List.map_cons, List.map_nil, Nat.zero_add, Nat.reduceBEq, decide_true]
  · rw [if_neg h0] at hpost
    have c1 : (sendE 4 xs != 0) = true := by simp [h0]
    have z0 : ((0 : Int) == 0) = true := rfl
    simp -dsimp only [↓WPd, ↓wpC_block, ↓wpC_cond, WPu, Bool.false_eq_true, Bool.true_eq_false, Bool.not_true, Bool.not_false, if_true, if_false, ite_true, ite_false, Nat.reduceEqDiff, Nat.reduceLT, true_and, List.map_cons, List.map_nil, Nat.zero_add, Nat.reduceBEq, c1, z0]
end Go.Proofs.Ytmocplkpnickgaa.Am

/-
  Net: the laws' arguments.
-/
namespace Go.Proofs.Ytmocplkpnickgaa.Am
open Go Go.ChangeShapes Go.WideShapes Go.ChangeAt Go.RowKit
set_option linter.unusedVariables false
set_option linter.unusedSimpArgs false
set_option maxRecDepth 100000

theorem bool_of {P : Program} {H : Type} {n : Nat} {t : TypeId} (ht : P.underlying t = some .bool) {d : DataW H} (h : Typed P (n + 1) t d) : ∃ b, argV P (n + 1) t d = .bool b := by
  simp only [Typed, ht] at h
  obtain ⟨b, rfl⟩ := h
  have ha : aggB P t = false := by simp [aggB, ht]
  exact ⟨b, by simp [argV, elv, ha, dec, ht]⟩

/-- a datagram, as it is read -/
def DgR (a : AVal) (p : Dg) : Prop := ∃ e, a = p.val e ∧ ∀ σ, SlOf σ 1 e (B p.bs)
def sizeDg (p : Dg) : Nat := p.bs.length + 1
theorem DgR.ok {a : AVal} {p : Dg} (h : DgR a p) : DgOk [] (fun _ => False) a p := by
  obtain ⟨e, h1, h2⟩ := h
  exact ⟨e, h1, h2 [], fun j hj => by have := (h2 []).lt hj; simp at this⟩

theorem dg_of {H : Type} {n : Nat} (d : DataW H) (h : Typed Try.prog (n + 3) 83 d) : ∃ p : Dg, DgR (argV Try.prog (n + 3) 83 d) p ∧ sizeDg p ≤ Rows.uptoBulk d := by
  obtain ⟨ds, rfl, hl, hd, ha, hb⟩ := struct_of (n := n + 2) Try.underlying83 h
  match ds, hl with
  | [x, y, z, u, w], _ =>
    have tx : Typed Try.prog (n + 2) 3 x := hd 0 _ x rfl rfl
    have ty : Typed Try.prog (n + 2) 3 y := hd 1 _ y rfl rfl
    have tz : Typed Try.prog (n + 2) 4 z := hd 2 _ z rfl rfl
    have tu : Typed Try.prog (n + 2) 3 u := hd 3 _ u rfl rfl
    have tw : Typed Try.prog (n + 2) 22 w := hd 4 _ w rfl rfl
    obtain ⟨f, hx, _⟩ := ints_of (n := n + 1) Try.underlying3 tx
    obtain ⟨t, hy, _⟩ := ints_of (n := n + 1) Try.underlying3 ty
    obtain ⟨b, hz⟩ := bool_of (n := n + 1) Try.underlying4 tz
    obtain ⟨s, hu, _⟩ := ints_of (n := n + 1) Try.underlying3 tu
    obtain ⟨bs, hw, hs⟩ := bytes_of (n := n) Try.underlying22 Try.underlying5 (by kernel_rfl) tw
    simp only [Rows.uptoBulkAll] at hb
    refine ⟨⟨f, t, b, s, bs⟩, ⟨argV Try.prog (n + 2) 22 w, ?_, hw⟩, by unfold sizeDg; dsimp only; omega⟩
    rw [ha]
    simp only [List.zipWith_cons_cons, List.zipWith_nil_right, List.flatten_cons, List.flatten_nil, List.append_nil]
    have e1 := dec_one (n := n + 1) tx (by kernel_rfl)
    have e2 := dec_one (n := n + 1) ty (by kernel_rfl)
    have e3 := dec_one (n := n + 1) tz (by kernel_rfl)
    have e4 := dec_one (n := n + 1) tu (by kernel_rfl)
    have e5 := dec_one (n := n + 1) tw (by kernel_rfl)
    rw [hx] at e1
    rw [hy] at e2
    rw [hz] at e3
    rw [hu] at e4
    rw [e1, e2, e3, e4, e5]; rfl

theorem dgs_of {H : Type} {n : Nat} {d : DataW H} (h : Typed Try.prog (n + 4) 75 d) : ∃ (fs : List AVal) (xs : List Dg), (∀ σ, SlOf σ 5 (argV Try.prog (n + 4) 75 d) fs) ∧ Two (DgOk [] (fun _ => False)) fs xs ∧ (xs.map sizeDg).sum + 1 ≤ Rows.uptoBulk d + 1 ∧ xs.length ≤ Rows.uptoBulk d := by
  rcases slice_of Try.underlying75 h with rfl | ⟨ds, rest, rfl, hd, ha, hb⟩
  · exact ⟨[], [], fun σ => by rw [argV_nil Try.underlying75]; exact SlOf.nil σ 5, .nil, by simp, Nat.zero_le _⟩
  · obtain ⟨xs, h1, h2, h3, h4⟩ := list_of (R := DgR) (size := sizeDg) (fun d h => dg_of (n := n) d h) ds hd
    refine ⟨ds.map fun x => argV Try.prog (n + 3) 83 x, xs, fun σ => ?_, Two.of_get (by simp [h1]) fun i a b ha hb => (h2 i a b ha hb).ok, by omega, by omega⟩
    rw [ha, show Try.prog.cellsOf 83 = 5 from by kernel_rfl]; exact SlOf.fs _ _ _ _ _
theorem size_mem {xs : List Dg} {p : Dg} (h : p ∈ xs) : p.bs.length ≤ (xs.map sizeDg).sum := by
  induction xs with
  | nil => cases h
  | cons x xs ih =>
    simp only [List.map_cons, List.sum_cons, sizeDg] at ih ⊢
    rcases List.mem_cons.1 h with rfl | h
    · omega
    · have := ih h; omega
end Go.Proofs.Ytmocplkpnickgaa.Am

