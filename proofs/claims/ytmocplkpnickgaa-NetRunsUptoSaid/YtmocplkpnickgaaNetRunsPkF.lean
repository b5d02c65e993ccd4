/-
  The abstract machine and the functions of the law, 6: texts put together.
-/
import Derived.Test.YtmocplkpnickgaaNetRunsPkE
import Derived.Test.YtmocplkpnickgaaRows
import Derived.Test.YtmocplkpnickgaaNetRunsPkC
import Derived.Test.YtmocplkpnickgaaNetRunsPkD
/-
  Net, both: a deed.
-/
namespace Go.Proofs.Ytmocplkpnickgaa.Am
open Go
set_option linter.unusedVariables false
set_option linter.unusedSimpArgs false
set_option linter.unusedSectionVars false
set_option maxRecDepth 100000

/-- the arrays of what was handed in, whatever they hold by now -/
def XArr (σ : Store) (ids : List Nat) (ds : List Dg) : Prop := ∀ (i j : Nat) (p : Dg), ids[i]? = some j → ds[i]? = some p → ∃ es, σ[j]? = some (.arr 1 es 0 0) ∧ es.length = p.bs.length + 9 ∧ ∀ (k : Nat) (x : AVal), es[k]? = some x → ∃ z, x = .int .u8 z

/-- what a deed leaves -/
structure Did (σ σ' : Store) (id : Nat) (v : AVal) (jd : Nat) (w : AVal) (N : Nat) (P : Dg → Prop) : Prop where
  keeps : Keeps (fun i => i = id ∨ i = jd ∨ v.sid = some i ∨ w.sid = some i) σ σ'
  ex : ∃ v' w' ds', NB σ' (fun _ => True) id v' jd w' ds' ∧ (∀ j, v'.sid = some j → v.sid = some j ∨ σ.length ≤ j) ∧ (∀ j, w'.sid = some j → w.sid = some j ∨ σ.length ≤ j) ∧ ds'.length ≤ N ∧ ∀ p ∈ ds', P p

theorem outL_mem {ds : List Dg} {k : Nat} {p : Dg} (h : p ∈ outL ds k) : p ∈ ds := by
  unfold outL at h
  rcases List.mem_append.1 h with h | h
  · exact List.mem_of_mem_take h
  · exact List.mem_of_mem_drop h
theorem outL_le (ds : List Dg) (k : Nat) : (outL ds k).length ≤ ds.length + 1 := by unfold outL; simp; omega

section
variable {σ σa σb σ' : Store} {F F' : Nat → Prop} {id : Nat} {v va : AVal} {jd : Nat} {w wb : AVal} {ds qs : List Dg} {c0 c1 c2 c3 n b0 b1 b2 b3 : Int} {es es' esa esb : List AVal} {N : Nat} {P : Dg → Prop}
/-- first the program's one, then the document's one -/
theorem did_both (h : NetOk σ F id v c0 c1 c2 c3 n es ds) (r : RNetOk σ jd w c0 c1 c2 c3 n es' ds) (sep : ∀ j, v.sid = some j → w.sid ≠ some j)
    (ka : Keeps (fun i => i = id ∨ v.sid = some i) σ σa) (ha : NetOk σa F' id va b0 b1 b2 b3 n esa qs) (fa : ∀ j, va.sid = some j → v.sid = some j ∨ σ.length ≤ j)
    (kb : Keeps (fun i => i = jd ∨ w.sid = some i) σa σb) (rb : RNetOk σb jd wb b0 b1 b2 b3 n esb qs) (fb : ∀ j, wb.sid = some j → w.sid = some j ∨ σa.length ≤ j) (hN : qs.length ≤ N) (hP : ∀ p ∈ qs, P p) :
    Did σ σb id v jd w N P ∧ NetOk σb F' id va b0 b1 b2 b3 n esa qs := by
  have ra := net_first h r sep ka
  have sepa : ∀ j, va.sid = some j → w.sid ≠ some j := fun j hj hw => by
    rcases fa j hj with e | e
    · exact sep j e hw
    · have := r.own.sl.lt hw; omega
  have hb := net_second ha ra sepa kb
  have hl := ka.1
  refine ⟨⟨Keeps.trans (ka.mono fun i _ e => ?_) kb fun i _ e => ?_, va, wb, qs, ⟨⟨_, _, _, _, _, _, _, hb.mono fun _ _ => trivial, rb⟩, fun j hj hw => ?_⟩, fa, fun j hj => ?_, hN, hP⟩, hb⟩
  · rcases e with e | e
    · exact .inl e
    · exact .inr (.inr (.inl e))
  · rcases e with e | e
    · exact .inr (.inl e)
    · exact .inr (.inr (.inr e))
  · rcases fb j hw with e | e
    · exact sepa j hj e
    · have := ha.own.sl.lt hj; omega
  · rcases fb j hj with e | e
    · exact .inl e
    · exact .inr (by omega)
theorem Did.after (h : Did σ σa id v jd w N P) (g : Grows σa σ') : Did σ σ' id v jd w N P := by
  obtain ⟨k, v', w', ds', h1, h2, h3, h4, h5⟩ := h
  exact ⟨Keeps.trans k g fun _ _ h => h.elim, v', w', ds', h1.grow g, h2, h3, h4, h5⟩
theorem Did.before (g : Grows σ' σ) (h : Did σ σa id v jd w N P) : Did σ' σa id v jd w N P := by
  obtain ⟨k, v', w', ds', h1, h2, h3, h4, h5⟩ := h
  have hl := g.1
  refine ⟨Keeps.trans g.any k fun _ _ h => h, v', w', ds', h1, fun j hj => (h2 j hj).imp (fun h => h) fun h => by omega, fun j hj => (h3 j hj).imp (fun h => h) fun h => by omega, h4, h5⟩
end

def sendQ (n : Int) (ds xs : List Dg) : List Dg := if sendE n xs = 0 then ds ++ xs else ds
def sendC (n c0 : Int) (xs : List Dg) : Int := if sendE n xs = 0 then IntKind.i64.wrap (c0 + xs.length) else c0
theorem Did.tail {σ σa σb : Store} {id : Nat} {v : AVal} {jd : Nat} {w : AVal} {N : Nat} {P : Dg → Prop} {M F : Nat → Prop} {va wb : AVal} {qs : List Dg} (kp : Keeps (fun i => i = id ∨ i = jd ∨ v.sid = some i ∨ w.sid = some i) σ σa) (hB : NB σa F id va jd wb qs)
    (fa : ∀ j, va.sid = some j → v.sid = some j ∨ σ.length ≤ j) (fb : ∀ j, wb.sid = some j → w.sid = some j ∨ σ.length ≤ j) (hN : qs.length ≤ N) (hP : ∀ p ∈ qs, P p)
    (k : Keeps M σa σb) (hM : ∀ j, M j → σ.length ≤ j) (hF : ∀ j, F j → ¬ M j) (hid : ¬ M id) (hjd : ¬ M jd) (hva : ∀ j, va.sid = some j → ¬ M j) (hwb : ∀ j, wb.sid = some j → ¬ M j) : Did σ σb id v jd w N P :=
  ⟨Keeps.trans kp k fun i hi hm => by have := hM i hm; omega, va, wb, qs, (hB.keeps k hF hid hva hjd hwb).mono fun _ _ => trivial, fa, fb, hN, hP⟩

def zDg : Dg := ⟨0, 0, false, 0, []⟩
theorem zD_ok (σ : Store) : DgOk σ NoF zD zDg := ⟨.nilslice, rfl, SlOf.nil _ _, fun j h => by cases h⟩

section
variable (d : Nat) (σ : Store)

set_option maxHeartbeats 8000000 in
theorem ndo_ok (id : Nat) (v : AVal) (jd : Nat) (w : AVal) (ds : List Dg) (D : NDeed) (h : NB σ (fun _ => True) id v jd w ds) (hl : ds.length < 2 ^ 37) (hs : ∀ p ∈ ds, p.bs.length < 2 ^ 30) (hD : NDeedOk D) (hx : D.xs.length < 2 ^ 36) :
    Called CN.cfg d 59 [.agg [.ptr id 0, .ptr jd 0], D.val] σ fun r σ' => r = .bool true ∧ Did σ σ' id v jd w (ds.length + 1 + D.xs.length) (fun p => p.bs.length < 2 ^ 30) := by
  refine called_of (fn := CN.a59) rfl (Nat.le_of_ble_eq_true rfl) ?_
  have eb : [AVal.ptr id 0, .ptr jd 0].all AVal.one = true := rfl
  have ed : [AVal.int .i64 D.k, .int .i64 D.n, D.l].all AVal.one = true := by
    have := hD.sl.one
    generalize D.l = y at this
    revert this; cases y <;> intro h <;> first | (cases h; done) | rfl
  simp only [CN.a59, NDeed.val]
  simp -dsimp only [↓WPd, ↓wpC_cond, WPu, Bool.false_eq_true, Bool.true_eq_false, Bool.not_true, Bool.not_false, if_true, if_false, ite_true, ite_false, Nat.reduceEqDiff, Nat.reduceLT, true_and, List.map_cons, List.map_nil, Nat.zero_add, Nat.reduceBEq, eb, ed, cells_agg]
  have g0 : Grows σ (σ ++ [AObj.cells [.ptr id 0, .ptr jd 0]] ++ [AObj.cells [.int .i64 D.k, .int .i64 D.n, D.l]]) := (Grows.app _ _).trans (Grows.app _ _)
  have ob : (σ ++ [AObj.cells [.ptr id 0, .ptr jd 0]] ++ [AObj.cells [.int .i64 D.k, .int .i64 D.n, D.l]])[σ.length]? = some (.cells [.ptr id 0, .ptr jd 0]) := by simp
  have oc : (σ ++ [AObj.cells [.ptr id 0, .ptr jd 0]] ++ [AObj.cells [.int .i64 D.k, .int .i64 D.n, D.l]])[(σ ++ [AObj.cells [.ptr id 0, .ptr jd 0]]).length]? = some (.cells [.int .i64 D.k, .int .i64 D.n, D.l]) := by simp
  generalize σ ++ [AObj.cells [.ptr id 0, .ptr jd 0]] ++ [AObj.cells [.int .i64 D.k, .int .i64 D.n, D.l]] = σ0 at g0 ob oc
  have lc : σ.length ≤ (σ ++ [AObj.cells [.ptr id 0, .ptr jd 0]]).length := by simp
  generalize (σ ++ [AObj.cells [.ptr id 0, .ptr jd 0]]).length = ic at oc lc
  obtain ⟨il, jl, vl, wl⟩ := h.id_lt
  have h0 := (h.lt).grow g0
  obtain ⟨⟨c0, c1, c2, c3, n, es, es', N, R⟩, sep⟩ := h0
  -- the two cells stay
  have lold : ∀ j, σ.length ≤ j → ¬ (j = id ∨ j = jd ∨ v.sid = some j ∨ w.sid = some j) := fun j hj hh => by
    rcases hh with e | e | e | e
    · omega
    · omega
    · have := vl j e; omega
    · have := wl j e; omega
  have l0 := g0.1
  have hs40 : ∀ p ∈ ds, p.bs.length < 2 ^ 40 := fun p hp => by have := hs p hp; omega
  simp -dsimp only [↓WPd, ↓wpC_cond, WPu, Bool.false_eq_true, Bool.true_eq_false, Bool.not_true, Bool.not_false, if_true, if_false, ite_true, ite_false, Nat.reduceEqDiff, Nat.reduceLT, true_and, List.map_cons, List.map_nil, Nat.zero_add, Nat.reduceBEq, faddr_ptr, load_cells oc, List.getElem?_cons_zero, List.getElem?_cons_succ]
  refine block_rule' [2] (fun x vs σ' => x = .normal ∧ vs = [.ptr σ.length 0] ∧ Did σ0 σ' id v jd w (ds.length + 1 + D.xs.length) (fun p => p.bs.length < 2 ^ 30)) ?_ ?_
  · by_cases hk0 : D.k = 0
    · have k0 : (D.k == 0) = true := by simp [hk0]
      simp -dsimp only [↓WPd, ↓wpC_block, ↓wpC_cond, WPu, Bool.false_eq_true, Bool.true_eq_false, Bool.not_true, Bool.not_false, if_true, if_false, ite_true, ite_false, Nat.reduceEqDiff, Nat.reduceLT, true_and, List.map_cons, List.map_nil, Nat.zero_add, Nat.reduceBEq, k0, faddr_ptr, load_cells oc, List.getElem?_cons_zero, List.getElem?_cons_succ]
      refine calledW_of (hands_ok d σ0 D.l D.fs D.xs hD.sl hD.rows hx hD.short) ?_
      rintro hv σ1 ⟨us, ids, H, g1⟩
      have ob1 := g1.get ob
      have oc1 := g1.get oc
      have N1 := N.grow g1
      have R1 := R.grow g1
      have hxs40 : ∀ p ∈ D.xs, p.bs.length < 2 ^ 40 := fun p hp => by have := hD.short p hp; omega
      have lo1 : ∀ j, σ0.length ≤ j → j ≠ id ∧ v.sid ≠ some j := fun j hj => ⟨by omega, fun e => by have := vl j e; omega⟩
      simp -dsimp only [↓WPd, ↓wpC_block, ↓wpC_cond, WPu, Bool.false_eq_true, Bool.true_eq_false, Bool.not_true, Bool.not_false, if_true, if_false, ite_true, ite_false, Nat.reduceEqDiff, Nat.reduceLT, true_and, List.map_cons, List.map_nil, Nat.zero_add, Nat.reduceBEq]
      refine drawnP_of rfl ?_
      simp -dsimp only [↓WPd, ↓wpC_block, ↓wpC_cond, WPu, Bool.false_eq_true, Bool.true_eq_false, Bool.not_true, Bool.not_false, if_true, if_false, ite_true, ite_false, Nat.reduceEqDiff, Nat.reduceLT, true_and, List.map_cons, List.map_nil, Nat.zero_add, Nat.reduceBEq, ↓WPed, WPeu, Nat.reduceAdd, and_self, faddr_ptr, load_cells ob1, load_cells oc1, List.getElem?_cons_zero, List.getElem?_cons_succ]
      refine calledW_of (send_ok d σ1 id v c0 c1 c2 c3 n es ds N1 hv _ D.xs H.row.sl H.two (fun j hj => lo1 j hj) (fun j hj => lo1 j (H.frl j hj)) (by omega) hxs40) ?_
      rintro r σ2 ⟨rfl, post⟩
      have u2 : Keeps (fun i => i = id ∨ v.sid = some i) σ1 σ2 ∧ ∃ v2 es2, NetOk σ2 (fun j => j < σ.length ∨ σ1.length ≤ j) id v2 (sendC n c0 D.xs) c1 c2 c3 n es2 (sendQ n ds D.xs) ∧ ∀ j, v2.sid = some j → v.sid = some j ∨ σ1.length ≤ j := by
        by_cases h0 : sendE n D.xs = 0
        · rw [if_pos h0] at post
          obtain ⟨k2, v2, es2, N2, f2⟩ := post
          exact ⟨k2, v2, es2, by unfold sendC sendQ; rw [if_pos h0, if_pos h0]; exact N2, f2⟩
        · rw [if_neg h0] at post
          exact ⟨Grows.any post, v, es, by unfold sendC sendQ; rw [if_neg h0, if_neg h0]; exact (N1.grow post).mono fun j hj => .inl hj, fun j hj => .inl hj⟩
      obtain ⟨k2, v2, es2, N2, f2⟩ := u2
      have l12 := k2.1
      have l01 := g1.1
      have nold : ∀ j, σ.length ≤ j → ¬ (j = id ∨ v.sid = some j) := fun j hj hh => lold j hj (by
        rcases hh with e | e
        · exact .inl e
        · exact .inr (.inr (.inl e)))
      have nold' : ∀ j, σ.length ≤ j → ¬ (j = jd ∨ w.sid = some j) := fun j hj hh => lold j hj (by
        rcases hh with e | e
        · exact .inr (.inl e)
        · exact .inr (.inr (.inr e)))
      have ob2 := k2.get ob1 (nold _ (Nat.le_refl _))
      have oc2 := k2.get oc1 (nold _ lc)
      have R2 := net_first N1 R1 sep k2
      simp -dsimp only [↓WPd, ↓wpC_block, ↓wpC_cond, WPu, Bool.false_eq_true, Bool.true_eq_false, Bool.not_true, Bool.not_false, if_true, if_false, ite_true, ite_false, Nat.reduceEqDiff, Nat.reduceLT, true_and, List.map_cons, List.map_nil, Nat.zero_add, Nat.reduceBEq, ↓WPed, WPeu, Nat.reduceAdd, and_self, faddr_ptr, load_cells ob1, load_cells oc1, load_cells ob2, load_cells oc2, List.getElem?_cons_zero, List.getElem?_cons_succ]
      refine calledW_of (refsend_ok d σ2 jd w c0 c1 c2 c3 n es' ds R2 (by omega) D.l D.fs D.xs hD.sl hD.rows (by omega)) ?_
      rintro r σ3 ⟨rfl, post3⟩
      have u3 : Keeps (fun i => i = jd ∨ w.sid = some i) σ2 σ3 ∧ ∃ w3 es3, RNetOk σ3 jd w3 (sendC n c0 D.xs) c1 c2 c3 n es3 (sendQ n ds D.xs) ∧ ∀ j, w3.sid = some j → w.sid = some j ∨ σ2.length ≤ j := by
        by_cases h0 : sendE n D.xs = 0
        · rw [if_pos h0] at post3
          obtain ⟨k3, v3, es3, N3, f3⟩ := post3
          exact ⟨k3, v3, es3, by unfold sendC sendQ; rw [if_pos h0, if_pos h0]; exact N3, f3⟩
        · rw [if_neg h0] at post3
          exact ⟨Grows.any post3, w, es', by unfold sendC sendQ; rw [if_neg h0, if_neg h0]; exact R2.grow post3, fun j hj => .inl hj⟩
      obtain ⟨k3, w3, es3, R3, f3⟩ := u3
      have qlen : (sendQ n ds D.xs).length ≤ ds.length + 1 + D.xs.length := by unfold sendQ; split <;> (try simp only [List.length_append]) <;> omega
      have qsh : ∀ p ∈ sendQ n ds D.xs, p.bs.length < 2 ^ 30 := fun p hp => by
        unfold sendQ at hp
        split at hp
        · rcases List.mem_append.1 hp with hp | hp
          · exact hs p hp
          · exact hD.short p hp
        · exact hs p hp
      obtain ⟨D3, N3⟩ := did_both N1 R1 sep k2 N2 f2 k3 R3 f3 qlen qsh
      obtain ⟨kk3, -⟩ := D3
      have H3 := (H.keeps k2 fun j hj => nold j (by omega)).keeps k3 fun j hj => nold' j (by omega)
      have ob3 := k3.get ob2 (nold' _ (Nat.le_refl _))
      have oc3 := k3.get oc2 (nold' _ lc)
      have sep3 : ∀ j, v2.sid = some j → w3.sid ≠ some j := fun j hj hw => by
        rcases f3 j hw with e | e
        · rcases f2 j hj with e' | e'
          · exact sep j e' e
          · have := wl j e; omega
        · have := N2.own.sl.lt hj; omega
      have B3 : NB σ3 (fun j => j < σ.length ∨ σ1.length ≤ j) id v2 jd w3 (sendQ n ds D.xs) := ⟨⟨_, _, _, _, _, _, _, N3, R3⟩, sep3⟩
      have cq : (sendE n D.xs != sendE n D.xs) = false := by simp
      simp -dsimp only [↓WPd, ↓wpC_block, ↓wpC_cond, WPu, Bool.false_eq_true, Bool.true_eq_false, Bool.not_true, Bool.not_false, if_true, if_false, ite_true, ite_false, Nat.reduceEqDiff, Nat.reduceLT, true_and, List.map_cons, List.map_nil, Nat.zero_add, Nat.reduceBEq, ↓WPed, WPeu, Nat.reduceAdd, and_self, cq, faddr_ptr, load_cells ob1, load_cells oc1, load_cells ob2, load_cells oc2, load_cells ob3, load_cells oc3, List.getElem?_cons_zero, List.getElem?_cons_succ]
      refine calledW_of (keptdgs_ok d σ3 hv D.l σ0.length us ids D.fs D.xs H3 hD.sl hD.rows hx hD.short) ?_
      rintro r σ4 ⟨rfl, g4⟩
      have H4 := H3.keeps g4 fun _ _ h => h
      have B4 := B3.grow g4
      have ob4 := g4.get ob3
      have lv := H4.row.sl.len
      rw [H4.two.len] at lv
      have idlt : ∀ {i j : Nat}, ids[i]? = some j → σ0.length ≤ j ∧ j < σ1.length := fun {i j} hi => by
        have hil := (List.getElem?_eq_some_iff.1 hi).1
        obtain ⟨e', j', b1, b2, b3, b4⟩ := H.at (i := i) (by rw [← H.lid]; exact hil)
        rw [hi] at b2; injection b2 with b2; subst b2
        exact ⟨b4, (List.getElem?_eq_some_iff.1 b3.obj).1⟩
      have hvn : ∀ j, hv.sid = some j → ¬ (∃ i : Nat, ids[i]? = some j) := fun j hj ⟨i, hi⟩ => by
        have hil := (List.getElem?_eq_some_iff.1 hi).1
        obtain ⟨e', j', b1, b2, b3, b4⟩ := H4.at (i := i) (by rw [← H4.lid]; exact hil)
        rw [hi] at b2; injection b2 with b2; subst b2
        exact H4.row.noArr b3.obj hj
      have X4 : XArr σ4 ids D.xs := fun i j p hi hp => by
        have hil := (List.getElem?_eq_some_iff.1 hp).1
        obtain ⟨e', j', b1, b2, b3, b4⟩ := H4.at hil
        rw [hi] at b2; injection b2 with b2; subst b2
        have hpp : D.xs[i] = p := (List.getElem?_eq_some_iff.1 hp).2
        rw [hpp] at b3
        refine ⟨_, b3.obj, by rw [B_len]; simp [marks_len], fun k x hx => ?_⟩
        simp only [B, List.getElem?_map, Option.map_eq_some_iff] at hx
        obtain ⟨q, _, rfl⟩ := hx
        exact ⟨_, rfl⟩
      simp -dsimp only [↓WPd, ↓wpC_block, ↓wpC_cond, WPu, Bool.false_eq_true, Bool.true_eq_false, Bool.not_true, Bool.not_false, if_true, if_false, ite_true, ite_false, Nat.reduceEqDiff, Nat.reduceLT, true_and, List.map_cons, List.map_nil, Nat.zero_add, Nat.reduceBEq, ↓WPed, WPeu, Nat.reduceAdd, and_self]
      refine loop_rule (fun m vs σ' => ∃ i : Nat, i ≤ D.xs.length ∧ m = D.xs.length - i ∧ vs = [.ptr σ.length 0, hv, .int .i64 i] ∧ Keeps (fun j => ∃ i : Nat, ids[i]? = some j) σ4 σ' ∧ XArr σ' ids D.xs) D.xs.length ⟨0, Nat.zero_le _, rfl, ?_, Keeps.refl _ _, X4⟩ ?_
      · simp -dsimp only [↓WPd, ↓wpC_block, ↓wpC_cond, WPu, Bool.false_eq_true, Bool.true_eq_false, Bool.not_true, Bool.not_false, if_true, if_false, ite_true, ite_false, Nat.reduceEqDiff, Nat.reduceLT, true_and, List.map_cons, List.map_nil, Nat.zero_add, Nat.reduceBEq]; rfl
      · rintro m vs σ5 ⟨i, hi, rfl, rfl, k5, X5⟩
        simp -dsimp only [↓WPd, ↓wpC_block, ↓wpC_cond, WPu, Bool.false_eq_true, Bool.true_eq_false, Bool.not_true, Bool.not_false, if_true, if_false, ite_true, ite_false, Nat.reduceEqDiff, Nat.reduceLT, true_and, List.map_cons, List.map_nil, Nat.zero_add, Nat.reduceBEq, lv]
        refine condP_dec (fun hc => ?_) (fun hc => ?_)
        · have hi' : i < D.xs.length := by omega
          have shi := hD.short _ (List.getElem_mem hi')
          obtain ⟨e, j, h1, h2, h3, h4⟩ := H4.at hi'
          have hz : i < (List.zipWith Dg.val D.xs us).length := by have := H4.len; simp; omega
          have hzz : (List.zipWith Dg.val D.xs us)[i] = D.xs[i].val e := by
            have : (List.zipWith Dg.val D.xs us)[i]? = some (D.xs[i].val e) := by rw [List.getElem?_zipWith, List.getElem?_eq_getElem hi', h1]
            rw [List.getElem?_eq_getElem hz] at this; exact Option.some.inj this
          have ld : ∀ {σ' : Store}, Keeps (fun j => ∃ i : Nat, ids[i]? = some j) σ4 σ' → ∃ q, iaddrV 5 hv (.int .i64 i) = some (addrOf 5 hv i) ∧ faddrV 4 (addrOf 5 hv i) = some q ∧ loadV σ' 1 false q = some e := fun {σ'} k => by
            have ow := H4.row.keeps k hvn
            have b1 := (ow.sl.addr hz .i64).2
            rw [hzz] at b1
            obtain ⟨q, q1, q2⟩ := faddr_load b1 4
            exact ⟨q, ow.sl.iaddr hz .i64, q1, q2⟩
          have le : lenSV e = some (D.xs[i]).bs.length := by rw [h3.val]; rfl
          simp -dsimp only [↓WPd, ↓wpC_block, ↓wpC_cond, WPu, Bool.false_eq_true, Bool.true_eq_false, Bool.not_true, Bool.not_false, if_true, if_false, ite_true, ite_false, Nat.reduceEqDiff, Nat.reduceLT, true_and, List.map_cons, List.map_nil, Nat.zero_add, Nat.reduceBEq]
          refine loop_rule2 (fun m vs σ' => ∃ k : Nat, k ≤ (D.xs[i]).bs.length ∧ m = (D.xs[i]).bs.length - k ∧ vs = [.ptr σ.length 0, hv, .int .i64 i, .int .i64 k] ∧ Keeps (fun j => ∃ i : Nat, ids[i]? = some j) σ4 σ' ∧ XArr σ' ids D.xs)
            [2, 5, 6] (fun x vs σ' => x = .exit 3 ∧ vs = [.ptr σ.length 0, hv, .int .i64 i] ∧ Keeps (fun j => ∃ i : Nat, ids[i]? = some j) σ4 σ' ∧ XArr σ' ids D.xs) (D.xs[i]).bs.length ⟨0, Nat.zero_le _, rfl, ?_, k5, X5⟩ ?_ ?_
          · simp -dsimp only [↓WPd, ↓wpC_block, ↓wpC_cond, WPu, Bool.false_eq_true, Bool.true_eq_false, Bool.not_true, Bool.not_false, if_true, if_false, ite_true, ite_false, Nat.reduceEqDiff, Nat.reduceLT, true_and, List.map_cons, List.map_nil, Nat.zero_add, Nat.reduceBEq]; rfl
          · rintro m vs σ6 ⟨k, hk, rfl, rfl, k6, X6⟩
            obtain ⟨q, q1, q2, q3⟩ := ld k6
            simp -dsimp only [↓WPd, ↓wpC_block, ↓wpC_cond, WPu, Bool.false_eq_true, Bool.true_eq_false, Bool.not_true, Bool.not_false, if_true, if_false, ite_true, ite_false, Nat.reduceEqDiff, Nat.reduceLT, true_and, List.map_cons, List.map_nil, Nat.zero_add, Nat.reduceBEq, q1, q2, q3, le]
            refine condP_dec (fun hc => ?_) (fun hc => ?_)
            · have hk' : k < (D.xs[i]).bs.length := by omega
              obtain ⟨as6, oa, la, ua⟩ := X6 i j _ h2 (List.getElem?_eq_getElem hi')
              have hka : k < as6.length := by omega
              obtain ⟨z, ez⟩ := ua k as6[k] (List.getElem?_eq_getElem hka)
              have ad : iaddrV 1 e (.int .i64 k) = some (.eptr j 0 (0 + k) 0) := by rw [h3.val]; exact arr_iaddr hk' .i64
              rw [Nat.zero_add] at ad
              have l1 := arr_load1 oa (Nat.le_refl 0) hka (by rw [ez]; rfl)
              rw [ez] at l1
              have st := fun (y : Int) => arr_store1 oa hka (x := .int .u8 y) rfl (by rw [ez]; rfl)
              simp -dsimp only [↓WPd, ↓wpC_block, ↓wpC_cond, WPu, Bool.false_eq_true, Bool.true_eq_false, Bool.not_true, Bool.not_false, if_true, if_false, ite_true, ite_false, Nat.reduceEqDiff, Nat.reduceLT, true_and, List.map_cons, List.map_nil, Nat.zero_add, Nat.reduceBEq, q1, q2, q3, ad, l1, iop_xor, st]
              refine ⟨(D.xs[i]).bs.length - (k + 1), by omega, k + 1, by omega, rfl, ?_, ?_, ?_⟩
              · rw [wrap_i64 (by omega) (by omega), Int.natCast_add, Int.natCast_one]
              · exact Keeps.trans k6 (Keeps.set _ _ _) fun i' _ e => ⟨i, by rw [e]; exact h2⟩
              · intro i2 j2 p2 hi2 hp2
                by_cases hij : j2 = j
                · have : i2 = i := H4.apart i2 i j (by rw [← hij]; exact hi2) h2
                  subst this
                  rw [List.getElem?_eq_getElem hi'] at hp2; injection hp2 with hp2
                  refine ⟨_, by rw [hij]; exact List.getElem?_set_self (List.getElem?_eq_some_iff.1 oa).1, by rw [List.length_set, la, hp2], fun k2 x2 hx2 => ?_⟩
                  rw [List.getElem?_set] at hx2
                  split at hx2
                  · first
                    | (injection hx2 with hx2; exact ⟨_, hx2.symm⟩)
                    | (split at hx2
                       · injection hx2 with hx2; exact ⟨_, hx2.symm⟩
                       · cases hx2)
                  · exact ua k2 x2 hx2
                · obtain ⟨as2, y1, y2, y3⟩ := X6 i2 j2 p2 hi2 hp2
                  exact ⟨as2, by rw [List.getElem?_set_ne (fun e => hij e.symm)]; exact y1, y2, y3⟩
            · simp -dsimp only [↓WPd, ↓wpC_block, ↓wpC_cond, WPu, Bool.false_eq_true, Bool.true_eq_false, Bool.not_true, Bool.not_false, if_true, if_false, ite_true, ite_false, Nat.reduceEqDiff, Nat.reduceLT, true_and, List.map_cons, List.map_nil, Nat.zero_add, Nat.reduceBEq]
              exact ⟨k6, X6⟩
          · rintro x σ6 env ⟨rfl, hv6, k6, X6⟩
            simp only [List.map_cons, List.map_nil, List.cons.injEq, and_true] at hv6
            obtain ⟨z2, z5, z6⟩ := hv6
            simp -dsimp only [↓WPd, ↓wpC_block, ↓wpC_cond, WPu, Bool.false_eq_true, Bool.true_eq_false, Bool.not_true, Bool.not_false, if_true, if_false, ite_true, ite_false, Nat.reduceEqDiff, Nat.reduceLT, true_and, List.map_cons, List.map_nil, Nat.zero_add, Nat.reduceBEq, z2, z5, z6]
            refine ⟨D.xs.length - (i + 1), by omega, i + 1, by omega, rfl, ?_, k6, X6⟩
            rw [wrap_i64 (by omega) (by omega), Int.natCast_add, Int.natCast_one]
        · simp -dsimp only [↓WPd, ↓wpC_block, ↓wpC_cond, WPu, Bool.false_eq_true, Bool.true_eq_false, Bool.not_true, Bool.not_false, if_true, if_false, ite_true, ite_false, Nat.reduceEqDiff, Nat.reduceLT, true_and, List.map_cons, List.map_nil, Nat.zero_add, Nat.reduceBEq]
          have kk4 := Keeps.trans (Keeps.trans g1.any kk3 fun _ _ h => h) g4 fun _ _ h => h.elim
          refine Did.tail kk4 B4 (fun j hj => (f2 j hj).imp (fun h => h) fun h => by omega) (fun j hj => (f3 j hj).imp (fun h => h) fun h => by omega) qlen qsh k5 (fun j ⟨i, hi⟩ => (idlt hi).1) (fun j hj ⟨i, hi⟩ => ?_) (fun ⟨i, hi⟩ => ?_) (fun ⟨i, hi⟩ => ?_) (fun j hj ⟨i, hi⟩ => ?_) (fun j hj ⟨i, hi⟩ => ?_)
          · have := idlt hi; omega
          · have := idlt hi; omega
          · have := idlt hi; omega
          · have := idlt hi
            rcases f2 j hj with e | e
            · have := vl j e; omega
            · omega
          · have := idlt hi
            rcases f3 j hj with e | e
            · have := wl j e; omega
            · omega
    · have k0 : (D.k == 0) = false := by simp [hk0]
      have stay : ∀ {σ' : Store}, Grows σ0 σ' → Did σ0 σ' id v jd w (ds.length + 1 + D.xs.length) (fun p => p.bs.length < 2 ^ 30) := fun g =>
        ⟨Grows.any g, v, w, ds, ⟨⟨c0, c1, c2, c3, n, es, es', (N.grow g).mono fun _ _ => trivial, R.grow g⟩, sep⟩, fun j hj => .inl hj, fun j hj => .inl hj, by omega, hs⟩
      by_cases hk1 : D.k = 1
      · have k1 : (D.k == 1) = true := by simp [hk1]
        simp -dsimp only [↓WPd, ↓wpC_block, ↓wpC_cond, WPu, Bool.false_eq_true, Bool.true_eq_false, Bool.not_true, Bool.not_false, if_true, if_false, ite_true, ite_false, Nat.reduceEqDiff, Nat.reduceLT, true_and, List.map_cons, List.map_nil, Nat.zero_add, Nat.reduceBEq, k0, k1, faddr_ptr, load_cells ob, load_cells oc, List.getElem?_cons_zero, List.getElem?_cons_succ]
        by_cases hk : 0 ≤ D.n ∧ D.n < ((ds.length : Nat) : Int)
        · obtain ⟨m, hkn⟩ : ∃ m : Nat, D.n = m := ⟨D.n.toNat, by omega⟩
          have hm : m < ds.length := by omega
          rw [hkn] at oc ⊢
          refine calledW_of (deliver_ok d σ0 id v c0 c1 c2 c3 n es ds N (by omega) m hm) ?_
          rintro r σa ⟨x, rfl, hxa, ka, va, esa, Na, fa⟩
          obtain ⟨e, rfl, e2, e3⟩ := hxa
          have ra := net_first N R sep (ka.mono fun _ _ h => .inl h)
          have oba := ka.get ob (fun hm => lold _ (Nat.le_refl _) (.inl hm))
          have oca := ka.get oc (fun hm => lold _ lc (.inl hm))
          have st := new_store (σ := σa) (n := 5) (zs := [.int .i64 0, .int .i64 0, .bool false, .int .i64 0, .nilslice]) rfl (cs := [.int .i64 ds[m].f, .int .i64 ds[m].t, .bool ds[m].ack, .int .i64 ds[m].s, e]) rfl (all5 e2.one _ _ _ _)
          have gx : Grows σa (σa ++ [AObj.cells [.int .i64 ds[m].f, .int .i64 ds[m].t, .bool ds[m].ack, .int .i64 ds[m].s, e]]) := Grows.app _ _
          have ox : (σa ++ [AObj.cells [.int .i64 ds[m].f, .int .i64 ds[m].t, .bool ds[m].ack, .int .i64 ds[m].s, e]])[σa.length]? = some (.cells [.int .i64 ds[m].f, .int .i64 ds[m].t, .bool ds[m].ack, .int .i64 ds[m].s, e]) := by simp
          simp -dsimp only [↓WPd, ↓wpC_block, ↓wpC_cond, WPu, Bool.false_eq_true, Bool.true_eq_false, Bool.not_true, Bool.not_false, if_true, if_false, ite_true, ite_false, Nat.reduceEqDiff, Nat.reduceLT, true_and, List.map_cons, List.map_nil, Nat.zero_add, Nat.reduceBEq, Dg.val, st, List.getElem?_cons_zero, List.getElem?_cons_succ]
          generalize hja : σa.length = ja at ox
          generalize σa ++ [AObj.cells [.int .i64 ds[m].f, .int .i64 ds[m].t, .bool ds[m].ack, .int .i64 ds[m].s, e]] = σx at gx ox
          have obx := gx.get oba
          have ocx := gx.get oca
          simp -dsimp only [↓WPd, ↓wpC_block, ↓wpC_cond, WPu, Bool.false_eq_true, Bool.true_eq_false, Bool.not_true, Bool.not_false, if_true, if_false, ite_true, ite_false, Nat.reduceEqDiff, Nat.reduceLT, true_and, List.map_cons, List.map_nil, Nat.zero_add, Nat.reduceBEq, faddr_ptr, load_cells obx, load_cells ocx, List.getElem?_cons_zero, List.getElem?_cons_succ]
          refine calledW_of (refdeliver_ok d σx jd w c0 c1 c2 c3 n es' ds (ra.grow gx) (by omega) m hm) ?_
          rintro r σb ⟨y, rfl, hyb, kb, wb, esb, Rb, fb⟩
          obtain ⟨f, rfl, f2, f3⟩ := hyb
          have oxb := kb.get ox (by have := (List.getElem?_eq_some_iff.1 oba).1; omega)
          have obb := kb.get obx (fun hm => lold _ (Nat.le_refl _) (.inr (.inl hm)))
          have st2 := new_store (σ := σb) (n := 5) (zs := [.int .i64 0, .int .i64 0, .bool false, .int .i64 0, .nilslice]) rfl (cs := [.int .i64 ds[m].f, .int .i64 ds[m].t, .bool ds[m].ack, .int .i64 ds[m].s, f]) rfl (all5 f2.one _ _ _ _)
          have gy : Grows σb (σb ++ [AObj.cells [.int .i64 ds[m].f, .int .i64 ds[m].t, .bool ds[m].ack, .int .i64 ds[m].s, f]]) := Grows.app _ _
          have oy : (σb ++ [AObj.cells [.int .i64 ds[m].f, .int .i64 ds[m].t, .bool ds[m].ack, .int .i64 ds[m].s, f]])[σb.length]? = some (.cells [.int .i64 ds[m].f, .int .i64 ds[m].t, .bool ds[m].ack, .int .i64 ds[m].s, f]) := by simp
          simp -dsimp only [↓WPd, ↓wpC_block, ↓wpC_cond, WPu, Bool.false_eq_true, Bool.true_eq_false, Bool.not_true, Bool.not_false, if_true, if_false, ite_true, ite_false, Nat.reduceEqDiff, Nat.reduceLT, true_and, List.map_cons, List.map_nil, Nat.zero_add, Nat.reduceBEq, Dg.val, st2, List.getElem?_cons_zero, List.getElem?_cons_succ]
          generalize hjb : σb.length = jb at oy
          generalize σb ++ [AObj.cells [.int .i64 ds[m].f, .int .i64 ds[m].t, .bool ds[m].ack, .int .i64 ds[m].s, f]] = σy at gy oy
          obtain ⟨DD, -⟩ := did_both (N := ds.length + 1 + D.xs.length) N R sep (Keeps.trans (ka.mono fun _ _ h => .inl h) gx fun _ _ h => h.elim) (Na.grow gx) (fun j hj => .inr (fa j hj)) (kb.mono fun _ _ h => .inl h) Rb (fun j hj => .inr (fb j hj)) (by have := outL_le ds m; omega) (fun p hp => hs p (outL_mem hp))
          have DD2 := DD.after gy
          have e2x := (e2.grow gx)
          have eb2 : Own σb 1 e (B ds[m].bs) := e2x.keeps kb fun j hj hm => by
            have := R.own
            exact e2x.noCell (ra.grow gx).obj (by rw [← hm]; exact hj)
          have z0 : ((0 : Int) != 0) = false := rfl
          simp -dsimp only [↓WPd, ↓wpC_block, ↓wpC_cond, WPu, Bool.false_eq_true, Bool.true_eq_false, Bool.not_true, Bool.not_false, if_true, if_false, ite_true, ite_false, Nat.reduceEqDiff, Nat.reduceLT, true_and, List.map_cons, List.map_nil, Nat.zero_add, Nat.reduceBEq, loadN_cells (n := 5) (gy.get oxb) rfl, loadN_cells (n := 5) oy rfl]
          refine calledW_of (samedg_ok d σy (ds[m].val e) (ds[m].val f) ds[m] ds[m] (F := fun _ => True) (G := fun _ => True) ⟨e, rfl, (eb2.grow gy).sl, fun _ _ => trivial⟩ ⟨f, rfl, f2.grow gy, fun _ _ => trivial⟩ (hs40 _ (List.getElem_mem hm))) ?_
          rintro r σz ⟨rfl, gz⟩
          simp -dsimp only [↓WPd, ↓wpC_block, ↓wpC_cond, WPu, Bool.false_eq_true, Bool.true_eq_false, Bool.not_true, Bool.not_false, if_true, if_false, ite_true, ite_false, Nat.reduceEqDiff, Nat.reduceLT, true_and, List.map_cons, List.map_nil, Nat.zero_add, Nat.reduceBEq, decide_true, z0]
          exact DD2.after gz
        · refine calledW_of (deliver_no d σ0 id v c0 c1 c2 c3 n es ds N (by omega) D.n hk) ?_
          rintro r σa ⟨rfl, ga⟩
          have st := new_store (σ := σa) (n := 5) (zs := [.int .i64 0, .int .i64 0, .bool false, .int .i64 0, .nilslice]) rfl (cs := [.int .i64 0, .int .i64 0, .bool false, .int .i64 0, .nilslice]) rfl rfl
          have gx : Grows σa (σa ++ [AObj.cells [.int .i64 0, .int .i64 0, .bool false, .int .i64 0, .nilslice]]) := Grows.app _ _
          have ox : (σa ++ [AObj.cells [.int .i64 0, .int .i64 0, .bool false, .int .i64 0, .nilslice]])[σa.length]? = some (.cells [.int .i64 0, .int .i64 0, .bool false, .int .i64 0, .nilslice]) := by simp
          simp -dsimp only [↓WPd, ↓wpC_block, ↓wpC_cond, WPu, Bool.false_eq_true, Bool.true_eq_false, Bool.not_true, Bool.not_false, if_true, if_false, ite_true, ite_false, Nat.reduceEqDiff, Nat.reduceLT, true_and, List.map_cons, List.map_nil, Nat.zero_add, Nat.reduceBEq, zD, st, List.getElem?_cons_zero, List.getElem?_cons_succ]
          generalize hja : σa.length = ja at ox
          generalize σa ++ [AObj.cells [.int .i64 0, .int .i64 0, .bool false, .int .i64 0, .nilslice]] = σx at gx ox
          have g0x := ga.trans gx
          simp -dsimp only [↓WPd, ↓wpC_block, ↓wpC_cond, WPu, Bool.false_eq_true, Bool.true_eq_false, Bool.not_true, Bool.not_false, if_true, if_false, ite_true, ite_false, Nat.reduceEqDiff, Nat.reduceLT, true_and, List.map_cons, List.map_nil, Nat.zero_add, Nat.reduceBEq, faddr_ptr, load_cells (g0x.get ob), load_cells (g0x.get oc), List.getElem?_cons_zero, List.getElem?_cons_succ]
          refine calledW_of (refdeliver_no d σx jd w c0 c1 c2 c3 n es' ds (R.grow g0x) (by omega) D.n hk) ?_
          rintro r σb ⟨rfl, gb⟩
          have st2 := new_store (σ := σb) (n := 5) (zs := [.int .i64 0, .int .i64 0, .bool false, .int .i64 0, .nilslice]) rfl (cs := [.int .i64 0, .int .i64 0, .bool false, .int .i64 0, .nilslice]) rfl rfl
          have gy : Grows σb (σb ++ [AObj.cells [.int .i64 0, .int .i64 0, .bool false, .int .i64 0, .nilslice]]) := Grows.app _ _
          have oy : (σb ++ [AObj.cells [.int .i64 0, .int .i64 0, .bool false, .int .i64 0, .nilslice]])[σb.length]? = some (.cells [.int .i64 0, .int .i64 0, .bool false, .int .i64 0, .nilslice]) := by simp
          simp -dsimp only [↓WPd, ↓wpC_block, ↓wpC_cond, WPu, Bool.false_eq_true, Bool.true_eq_false, Bool.not_true, Bool.not_false, if_true, if_false, ite_true, ite_false, Nat.reduceEqDiff, Nat.reduceLT, true_and, List.map_cons, List.map_nil, Nat.zero_add, Nat.reduceBEq, zD, st2, List.getElem?_cons_zero, List.getElem?_cons_succ]
          generalize hjb : σb.length = jb at oy
          generalize σb ++ [AObj.cells [.int .i64 0, .int .i64 0, .bool false, .int .i64 0, .nilslice]] = σy at gy oy
          have z4 : ((4 : Int) != 4) = false := rfl
          simp -dsimp only [↓WPd, ↓wpC_block, ↓wpC_cond, WPu, Bool.false_eq_true, Bool.true_eq_false, Bool.not_true, Bool.not_false, if_true, if_false, ite_true, ite_false, Nat.reduceEqDiff, Nat.reduceLT, true_and, List.map_cons, List.map_nil, Nat.zero_add, Nat.reduceBEq, loadN_cells (n := 5) (gy.get (gb.get ox)) rfl, loadN_cells (n := 5) oy rfl]
          refine calledW_of (samedg_ok d σy zD zD zDg zDg (zD_ok σy) (zD_ok σy) (by decide)) ?_
          rintro r σz ⟨rfl, gz⟩
          simp -dsimp only [↓WPd, ↓wpC_block, ↓wpC_cond, WPu, Bool.false_eq_true, Bool.true_eq_false, Bool.not_true, Bool.not_false, if_true, if_false, ite_true, ite_false, Nat.reduceEqDiff, Nat.reduceLT, true_and, List.map_cons, List.map_nil, Nat.zero_add, Nat.reduceBEq, decide_true, z4]
          exact stay (g0x.trans (gb.trans (gy.trans gz)))
      · have k1 : (D.k == 1) = false := by simp [hk1]
        by_cases hk2 : D.k = 2
        · have k2 : (D.k == 2) = true := by simp [hk2]
          simp -dsimp only [↓WPd, ↓wpC_block, ↓wpC_cond, WPu, Bool.false_eq_true, Bool.true_eq_false, Bool.not_true, Bool.not_false, if_true, if_false, ite_true, ite_false, Nat.reduceEqDiff, Nat.reduceLT, true_and, List.map_cons, List.map_nil, Nat.zero_add, Nat.reduceBEq, k0, k1, k2]
          by_cases hk : 0 ≤ D.n ∧ D.n < ((ds.length : Nat) : Int)
          · obtain ⟨m, hkn⟩ : ∃ m : Nat, D.n = m := ⟨D.n.toNat, by omega⟩
            have hm : m < ds.length := by omega
            rw [hkn] at oc ⊢
            refine drawnP_of rfl ?_
            simp -dsimp only [↓WPd, ↓wpC_block, ↓wpC_cond, WPu, Bool.false_eq_true, Bool.true_eq_false, Bool.not_true, Bool.not_false, if_true, if_false, ite_true, ite_false, Nat.reduceEqDiff, Nat.reduceLT, true_and, List.map_cons, List.map_nil, Nat.zero_add, Nat.reduceBEq, ↓WPed, WPeu, Nat.reduceAdd, and_self, faddr_ptr, load_cells ob, load_cells oc, List.getElem?_cons_zero, List.getElem?_cons_succ]
            refine calledW_of (drop_ok d σ0 id v c0 c1 c2 c3 n es ds N (by omega) m hm) ?_
            rintro r σa ⟨rfl, ka, va, esa, Na, fa⟩
            have ra := net_first N R sep (ka.mono fun _ _ h => .inl h)
            have oba := ka.get ob (fun hm => lold _ (Nat.le_refl _) (.inl hm))
            have oca := ka.get oc (fun hm => lold _ lc (.inl hm))
            simp -dsimp only [↓WPd, ↓wpC_block, ↓wpC_cond, WPu, Bool.false_eq_true, Bool.true_eq_false, Bool.not_true, Bool.not_false, if_true, if_false, ite_true, ite_false, Nat.reduceEqDiff, Nat.reduceLT, true_and, List.map_cons, List.map_nil, Nat.zero_add, Nat.reduceBEq, ↓WPed, WPeu, Nat.reduceAdd, and_self, faddr_ptr, load_cells ob, load_cells oc, List.getElem?_cons_zero, List.getElem?_cons_succ, load_cells oba, load_cells oca]
            refine calledW_of (refdrop_ok d σa jd w c0 c1 c2 c3 n es' ds ra (by omega) m hm) ?_
            rintro r σb ⟨rfl, kb, wb, esb, Rb, fb⟩
            have z0 : ((0 : Int) != 0) = false := rfl
            simp -dsimp only [↓WPd, ↓wpC_block, ↓wpC_cond, WPu, Bool.false_eq_true, Bool.true_eq_false, Bool.not_true, Bool.not_false, if_true, if_false, ite_true, ite_false, Nat.reduceEqDiff, Nat.reduceLT, true_and, List.map_cons, List.map_nil, Nat.zero_add, Nat.reduceBEq, ↓WPed, WPeu, Nat.reduceAdd, and_self, z0]
            exact (did_both N R sep (ka.mono fun _ _ h => .inl h) Na (fun j hj => .inr (fa j hj)) (kb.mono fun _ _ h => .inl h) Rb (fun j hj => .inr (fb j hj)) (by have := outL_le ds m; omega) (fun p hp => hs p (outL_mem hp))).1
          · refine drawnP_of rfl ?_
            simp -dsimp only [↓WPd, ↓wpC_block, ↓wpC_cond, WPu, Bool.false_eq_true, Bool.true_eq_false, Bool.not_true, Bool.not_false, if_true, if_false, ite_true, ite_false, Nat.reduceEqDiff, Nat.reduceLT, true_and, List.map_cons, List.map_nil, Nat.zero_add, Nat.reduceBEq, ↓WPed, WPeu, Nat.reduceAdd, and_self, faddr_ptr, load_cells ob, load_cells oc, List.getElem?_cons_zero, List.getElem?_cons_succ]
            refine calledW_of (drop_no d σ0 id v c0 c1 c2 c3 n es ds N (by omega) D.n hk) ?_
            rintro r σa ⟨rfl, ga⟩
            simp -dsimp only [↓WPd, ↓wpC_block, ↓wpC_cond, WPu, Bool.false_eq_true, Bool.true_eq_false, Bool.not_true, Bool.not_false, if_true, if_false, ite_true, ite_false, Nat.reduceEqDiff, Nat.reduceLT, true_and, List.map_cons, List.map_nil, Nat.zero_add, Nat.reduceBEq, ↓WPed, WPeu, Nat.reduceAdd, and_self, faddr_ptr, load_cells ob, load_cells oc, List.getElem?_cons_zero, List.getElem?_cons_succ, load_cells (ga.get ob), load_cells (ga.get oc)]
            refine calledW_of (refdrop_no d σa jd w c0 c1 c2 c3 n es' ds (R.grow ga) (by omega) D.n hk) ?_
            rintro r σb ⟨rfl, gb⟩
            have z4 : ((4 : Int) != 4) = false := rfl
            simp -dsimp only [↓WPd, ↓wpC_block, ↓wpC_cond, WPu, Bool.false_eq_true, Bool.true_eq_false, Bool.not_true, Bool.not_false, if_true, if_false, ite_true, ite_false, Nat.reduceEqDiff, Nat.reduceLT, true_and, List.map_cons, List.map_nil, Nat.zero_add, Nat.reduceBEq, ↓WPed, WPeu, Nat.reduceAdd, and_self, z4]
            exact stay (ga.trans gb)
        · have k2 : (D.k == 2) = false := by simp [hk2]
          by_cases hk3 : D.k = 3
          · have k3 : (D.k == 3) = true := by simp [hk3]
            simp -dsimp only [↓WPd, ↓wpC_block, ↓wpC_cond, WPu, Bool.false_eq_true, Bool.true_eq_false, Bool.not_true, Bool.not_false, if_true, if_false, ite_true, ite_false, Nat.reduceEqDiff, Nat.reduceLT, true_and, List.map_cons, List.map_nil, Nat.zero_add, Nat.reduceBEq, k0, k1, k2, k3]
            by_cases hk : 0 ≤ D.n ∧ D.n < ((ds.length : Nat) : Int)
            · obtain ⟨m, hkn⟩ : ∃ m : Nat, D.n = m := ⟨D.n.toNat, by omega⟩
              have hm : m < ds.length := by omega
              rw [hkn] at oc ⊢
              refine drawnP_of rfl ?_
              simp -dsimp only [↓WPd, ↓wpC_block, ↓wpC_cond, WPu, Bool.false_eq_true, Bool.true_eq_false, Bool.not_true, Bool.not_false, if_true, if_false, ite_true, ite_false, Nat.reduceEqDiff, Nat.reduceLT, true_and, List.map_cons, List.map_nil, Nat.zero_add, Nat.reduceBEq, ↓WPed, WPeu, Nat.reduceAdd, and_self, faddr_ptr, load_cells ob, load_cells oc, List.getElem?_cons_zero, List.getElem?_cons_succ]
              refine calledW_of (double_ok d σ0 id v c0 c1 c2 c3 n es ds N (by omega) hs40 m hm) ?_
              rintro r σa ⟨rfl, ka, va, esa, Na, fa⟩
              have ra := net_first N R sep ka
              have oba := ka.get ob (fun hm => lold _ (Nat.le_refl _) (hm.elim .inl fun h => .inr (.inr (.inl h))))
              have oca := ka.get oc (fun hm => lold _ lc (hm.elim .inl fun h => .inr (.inr (.inl h))))
              simp -dsimp only [↓WPd, ↓wpC_block, ↓wpC_cond, WPu, Bool.false_eq_true, Bool.true_eq_false, Bool.not_true, Bool.not_false, if_true, if_false, ite_true, ite_false, Nat.reduceEqDiff, Nat.reduceLT, true_and, List.map_cons, List.map_nil, Nat.zero_add, Nat.reduceBEq, ↓WPed, WPeu, Nat.reduceAdd, and_self, faddr_ptr, load_cells ob, load_cells oc, List.getElem?_cons_zero, List.getElem?_cons_succ, load_cells oba, load_cells oca]
              refine calledW_of (refdouble_ok d σa jd w c0 c1 c2 c3 n es' ds ra (by omega) m hm) ?_
              rintro r σb ⟨rfl, kb, wb, esb, Rb, fb⟩
              have z0 : ((0 : Int) != 0) = false := rfl
              simp -dsimp only [↓WPd, ↓wpC_block, ↓wpC_cond, WPu, Bool.false_eq_true, Bool.true_eq_false, Bool.not_true, Bool.not_false, if_true, if_false, ite_true, ite_false, Nat.reduceEqDiff, Nat.reduceLT, true_and, List.map_cons, List.map_nil, Nat.zero_add, Nat.reduceBEq, ↓WPed, WPeu, Nat.reduceAdd, and_self, z0]
              exact (did_both N R sep ka Na fa (kb.mono fun _ _ h => .inl h) Rb (fun j hj => .inr (fb j hj)) (by rw [List.length_append, List.length_singleton]; omega) (fun p hp => by
              rcases List.mem_append.1 hp with hp | hp
              · exact hs p hp
              · rw [List.mem_singleton] at hp; rw [hp]; exact hs _ (List.getElem_mem hm))).1
            · refine drawnP_of rfl ?_
              simp -dsimp only [↓WPd, ↓wpC_block, ↓wpC_cond, WPu, Bool.false_eq_true, Bool.true_eq_false, Bool.not_true, Bool.not_false, if_true, if_false, ite_true, ite_false, Nat.reduceEqDiff, Nat.reduceLT, true_and, List.map_cons, List.map_nil, Nat.zero_add, Nat.reduceBEq, ↓WPed, WPeu, Nat.reduceAdd, and_self, faddr_ptr, load_cells ob, load_cells oc, List.getElem?_cons_zero, List.getElem?_cons_succ]
              refine calledW_of (double_no d σ0 id v c0 c1 c2 c3 n es ds N (by omega) D.n hk) ?_
              rintro r σa ⟨rfl, ga⟩
              simp -dsimp only [↓WPd, ↓wpC_block, ↓wpC_cond, WPu, Bool.false_eq_true, Bool.true_eq_false, Bool.not_true, Bool.not_false, if_true, if_false, ite_true, ite_false, Nat.reduceEqDiff, Nat.reduceLT, true_and, List.map_cons, List.map_nil, Nat.zero_add, Nat.reduceBEq, ↓WPed, WPeu, Nat.reduceAdd, and_self, faddr_ptr, load_cells ob, load_cells oc, List.getElem?_cons_zero, List.getElem?_cons_succ, load_cells (ga.get ob), load_cells (ga.get oc)]
              refine calledW_of (refdouble_no d σa jd w c0 c1 c2 c3 n es' ds (R.grow ga) (by omega) D.n hk) ?_
              rintro r σb ⟨rfl, gb⟩
              have z4 : ((4 : Int) != 4) = false := rfl
              simp -dsimp only [↓WPd, ↓wpC_block, ↓wpC_cond, WPu, Bool.false_eq_true, Bool.true_eq_false, Bool.not_true, Bool.not_false, if_true, if_false, ite_true, ite_false, Nat.reduceEqDiff, Nat.reduceLT, true_and, List.map_cons, List.map_nil, Nat.zero_add, Nat.reduceBEq, ↓WPed, WPeu, Nat.reduceAdd, and_self, z4]
              exact stay (ga.trans gb)
          · have k3 : (D.k == 3) = false := by simp [hk3]
            simp -dsimp only [↓WPd, ↓wpC_block, ↓wpC_cond, WPu, Bool.false_eq_true, Bool.true_eq_false, Bool.not_true, Bool.not_false, if_true, if_false, ite_true, ite_false, Nat.reduceEqDiff, Nat.reduceLT, true_and, List.map_cons, List.map_nil, Nat.zero_add, Nat.reduceBEq, k0, k1, k2, k3]
            exact stay (Keeps.refl _ _)
  · rintro x σ7 e ⟨rfl, hv, D7⟩
    simp only [List.map_cons, List.map_nil, List.cons.injEq, and_true] at hv
    obtain ⟨k7, v', w', ds', B7, f1, f2, hn7, hp7⟩ := D7
    have ob7 := k7.get ob (lold _ (Nat.le_refl _))
    have la : loadV σ7 2 true (.ptr σ.length 0) = some (.agg [.ptr id 0, .ptr jd 0]) := loadN_cells ob7 rfl
    simp -dsimp only [↓WPd, ↓wpC_block, ↓wpC_cond, WPu, Bool.false_eq_true, Bool.true_eq_false, Bool.not_true, Bool.not_false, if_true, if_false, ite_true, ite_false, Nat.reduceEqDiff, Nat.reduceLT, true_and, List.map_cons, List.map_nil, Nat.zero_add, Nat.reduceBEq, hv, la]
    refine calledW_of (nalike_ok d σ7 id v' jd w' ds' B7 (by omega) (fun p hp => by have := hp7 p hp; omega)) ?_
    rintro r σ8 ⟨rfl, g8⟩
    simp -dsimp only [↓WPd, ↓wpC_block, ↓wpC_cond, WPu, Bool.false_eq_true, Bool.true_eq_false, Bool.not_true, Bool.not_false, if_true, if_false, ite_true, ite_false, Nat.reduceEqDiff, Nat.reduceLT, true_and, List.map_cons, List.map_nil, Nat.zero_add, Nat.reduceBEq]
    exact Did.before g0 (Did.after ⟨k7, v', w', ds', B7, f1, f2, hn7, hp7⟩ g8)
end
end Go.Proofs.Ytmocplkpnickgaa.Am

/-
  NetRuns: the run.
-/
namespace Go.Proofs.Ytmocplkpnickgaa.Am
open Go
set_option linter.unusedVariables false
set_option linter.unusedSimpArgs false
set_option linter.unusedSectionVars false
set_option maxRecDepth 100000

section
variable {σ σ' : Store} {F : Nat → Prop} {id : Nat} {v : AVal} {jd : Nat} {w : AVal} {ds : List Dg}
theorem NB.arr2 (h : NB σ F id v jd w ds) {u : AVal} {us : List AVal} (hu : Own σ 2 u us) (k : Keeps (fun i => u.sid = some i) σ σ') : NB σ' F id v jd w ds := by
  obtain ⟨⟨c0, c1, c2, c3, n, es, es', h1, h2⟩, h3⟩ := h
  refine ⟨⟨c0, c1, c2, c3, n, es, es', ⟨k.get h1.obj (hu.noCell h1.obj), h1.own.keeps k fun j hj hm => hu.sizes h1.own (by decide) hm hj, h1.rows.mono fun _ _ h' => ?_⟩, ⟨k.get h2.obj (hu.noCell h2.obj), h2.own.keeps k fun j hj hm => hu.sizes h2.own (by decide) hm hj, rows_free h2.rows k⟩⟩, h3⟩
  obtain ⟨e, e1, e2, e3⟩ := h'
  exact ⟨e, e1, e2.keeps k fun j hj hm => hu.sizes e2 (by decide) hm hj, e3⟩
theorem NB.not_cell2 (h : NB σ F id v jd w ds) {ic : Nat} {a b : AVal} (ho : σ[ic]? = some (.cells [a, b])) : ic ≠ id ∧ ic ≠ jd := by
  obtain ⟨⟨c0, c1, c2, c3, n, es, es', h1, h2⟩, h3⟩ := h
  refine ⟨fun e => ?_, fun e => ?_⟩
  · have := h1.obj; rw [← e, ho] at this; injection this with this; injection this with this; injection this with _ this; injection this with _ this; cases this
  · have := h2.obj; rw [← e, ho] at this; injection this with this; injection this with this; injection this with _ this; injection this with _ this; cases this
theorem NB.cell (h : NB σ F id v jd w ds) {ic : Nat} {a b : AVal} (ho : σ[ic]? = some (.cells [a, b])) (k : Keeps (fun i => i = ic) σ σ') : NB σ' F id v jd w ds := by
  obtain ⟨n1, n2⟩ := h.not_cell2 ho
  obtain ⟨⟨c0, c1, c2, c3, n, es, es', h1, h2⟩, h3⟩ := h
  refine ⟨⟨c0, c1, c2, c3, n, es, es', ⟨k.get h1.obj (fun e => n1 e.symm), h1.own.keeps k fun j hj hm => h1.own.noCell ho (by rw [← hm]; exact hj), h1.rows.mono fun _ _ h' => ?_⟩, ⟨k.get h2.obj (fun e => n2 e.symm), h2.own.keeps k fun j hj hm => h2.own.noCell ho (by rw [← hm]; exact hj), rows_free h2.rows k⟩⟩, h3⟩
  obtain ⟨e, e1, e2, e3⟩ := h'
  exact ⟨e, e1, e2.keeps k fun j hj hm => e2.noCell ho (by rw [← hm]; exact hj), e3⟩
theorem NB.v_cell (h : NB σ F id v jd w ds) {ic : Nat} {cs : List AVal} (ho : σ[ic]? = some (.cells cs)) : v.sid ≠ some ic ∧ w.sid ≠ some ic := by
  obtain ⟨⟨c0, c1, c2, c3, n, es, es', h1, h2⟩, h3⟩ := h
  exact ⟨h1.own.noCell ho, h2.own.noCell ho⟩
theorem NB.row2 (h : NB σ F id v jd w ds) {u : AVal} {us : List AVal} (hu : Own σ 2 u us) {j : Nat} (hj : u.sid = some j) : ¬ (j = id ∨ j = jd ∨ v.sid = some j ∨ w.sid = some j) := by
  obtain ⟨⟨c0, c1, c2, c3, n, es, es', h1, h2⟩, h3⟩ := h
  rintro (e | e | e | e)
  · exact hu.noCell h1.obj (by rw [← e]; exact hj)
  · exact hu.noCell h2.obj (by rw [← e]; exact hj)
  · exact hu.sizes h1.own (by decide) hj e
  · exact hu.sizes h2.own (by decide) hj e
end

/-- the networks that are looked at in the end -/
def NOld (σ : Store) (lo : Nat) (os : List AVal) : Prop := ∀ (i : Nat) (x : AVal), os[i]? = some x → ∃ id v jd w ds, x = .agg [.ptr id 0, .ptr jd 0] ∧ NB σ (fun j => j < lo) id v jd w ds ∧ ds.length < 2 ^ 37 ∧ (∀ p ∈ ds, p.bs.length < 2 ^ 30) ∧ id < lo ∧ jd < lo ∧ (∀ i, v.sid = some i → i < lo) ∧ (∀ i, w.sid = some i → i < lo)
theorem NOld.nil (σ : Store) (lo : Nat) : NOld σ lo [] := fun i x h => by simp at h
theorem NOld.keeps {σ σ' : Store} {lo : Nat} {os : List AVal} (h : NOld σ lo os) {M : Nat → Prop} (k : Keeps M σ σ') (hm : ∀ i, i < lo → ¬ M i) : NOld σ' lo os := fun i x hx => by
  obtain ⟨id, v, jd, w, ds, h1, h2, h3, h3', h4, h5, h6, h7⟩ := h i x hx
  exact ⟨id, v, jd, w, ds, h1, h2.keeps k (fun j hj => hm j hj) (hm _ h4) (fun j hj => hm j (h6 j hj)) (hm _ h5) (fun j hj => hm j (h7 j hj)), h3, h3', h4, h5, h6, h7⟩
theorem NOld.map {σ σ' : Store} {lo : Nat} {os : List AVal} (h : NOld σ lo os) (f : ∀ F id v jd w ds, NB σ F id v jd w ds → NB σ' F id v jd w ds) : NOld σ' lo os := fun i x hx => by
  obtain ⟨id, v, jd, w, ds, h1, h2, h3⟩ := h i x hx
  exact ⟨id, v, jd, w, ds, h1, f _ _ _ _ _ _ h2, h3⟩
theorem NOld.push {σ : Store} {lo lo' : Nat} {os : List AVal} (h : NOld σ lo os) (hl : lo ≤ lo') {id jd : Nat} {v w : AVal} {ds : List Dg} (hb : NB σ (fun j => j < lo') id v jd w ds) (hn : ds.length < 2 ^ 37) (hs : ∀ p ∈ ds, p.bs.length < 2 ^ 30) (h1 : id < lo') (h2 : jd < lo') (h3 : ∀ i, v.sid = some i → i < lo') (h4 : ∀ i, w.sid = some i → i < lo') :
    NOld σ lo' (os ++ [.agg [.ptr id 0, .ptr jd 0]]) := fun i x hx => by
  rcases snoc_get hx with ⟨hx, hlt⟩ | ⟨rfl, rfl⟩
  · obtain ⟨id, v, jd, w, ds, a1, a2, a3, a3', a4, a5, a6, a7⟩ := h i x hx
    exact ⟨id, v, jd, w, ds, a1, a2.mono fun j hj => by omega, a3, a3', by omega, by omega, fun i hi => by have := a6 i hi; omega, fun i hi => by have := a7 i hi; omega⟩
  · exact ⟨id, v, jd, w, ds, rfl, hb, hn, hs, h1, h2, h3, h4⟩

/-- what stands where the loop over the deeds turns round -/
def NRunSt (l : AVal) (ic i : Nat) (N : Nat) (vs : List AVal) (σ' : Store) : Prop := ∃ (lo : Nat) (old : AVal) (os : List AVal) (id jd : Nat) (v w : AVal) (qs : List Dg), vs = [l, .ptr ic 0, old, .int .i64 i] ∧ σ'[ic]? = some (.cells [.ptr id 0, .ptr jd 0]) ∧ NB σ' (fun _ => True) id v jd w qs ∧
  Own σ' 2 old os ∧ os.length ≤ 6 ∧ NOld σ' lo os ∧ lo ≤ id ∧ lo ≤ jd ∧ (∀ i, v.sid = some i → lo ≤ i) ∧ (∀ i, w.sid = some i → lo ≤ i) ∧ qs.length ≤ N ∧ ∀ p ∈ qs, p.bs.length < 2 ^ 30

set_option maxHeartbeats 8000000 in
theorem nruns_run (nodes : Int) (l : AVal) (ds : List NDeed) (hl : SlOf [] 3 l (ds.map NDeed.val)) (hds : ∀ x ∈ ds, NDeedOk x) (hbulk : bulkN ds < 2 ^ 36) (hlen : ds.length < 2 ^ 36) (hxs : ∀ x ∈ ds, x.xs.length < 2 ^ 36) :
    Called CN.cfg 0 12 [.int .i64 nodes, l] [] fun v _ => v = .bool true := by
  refine called_of (fn := CN.a12) rfl (Nat.le_of_ble_eq_true rfl) ?_
  have ll := hl.len
  rw [List.length_map] at ll
  simp only [CN.a12]
  simp -dsimp only [↓WPd, ↓wpC_block, ↓wpC_cond, WPu, Bool.false_eq_true, Bool.true_eq_false, Bool.not_true, Bool.not_false, if_true, if_false, ite_true, ite_false, Nat.reduceEqDiff, Nat.reduceLT, true_and, List.map_cons, List.map_nil, Nat.zero_add, Nat.reduceBEq]
  by_cases hn : 1 ≤ nodes ∧ nodes ≤ 4
  · refine calledW_of (netnew_ok 0 [] nodes hn) ?_
    rintro r1 σ1 ⟨id, rfl, N1, g1, eid⟩
    simp -dsimp only [↓WPd, ↓wpC_block, ↓wpC_cond, WPu, Bool.false_eq_true, Bool.true_eq_false, Bool.not_true, Bool.not_false, if_true, if_false, ite_true, ite_false, Nat.reduceEqDiff, Nat.reduceLT, true_and, List.map_cons, List.map_nil, Nat.zero_add, Nat.reduceBEq, List.getElem?_cons_zero, List.getElem?_cons_succ]
    refine calledW_of (refnew_ok 0 σ1 nodes hn) ?_
    rintro r2 σ2 ⟨jd, rfl, R2, g2, ejd⟩
    simp -dsimp only [↓WPd, ↓wpC_block, ↓wpC_cond, WPu, Bool.false_eq_true, Bool.true_eq_false, Bool.not_true, Bool.not_false, if_true, if_false, ite_true, ite_false, Nat.reduceEqDiff, Nat.reduceLT, true_and, List.map_cons, List.map_nil, Nat.zero_add, Nat.reduceBEq, List.getElem?_cons_zero, List.getElem?_cons_succ]
    refine isoW_bool nlive_ran ?_
    have c0 : ((0 : Int) != 0) = false := rfl
    have N2 := N1.grow g2
    have B2 : NB σ2 (fun _ => True) id .nilslice jd .nilslice [] := ⟨⟨_, _, _, _, _, _, _, N2.mono fun _ _ => trivial, R2⟩, fun j h => by cases h⟩
    have ef : fillA [AVal.nilptr, .nilptr] [(0, 1, .ptr id 0), (1, 1, .ptr jd 0)] = some [.ptr id 0, .ptr jd 0] := rfl
    have o3 : (σ2 ++ [AObj.cells [.nilptr, .nilptr]])[σ2.length]? = some (.cells [.nilptr, .nilptr]) := by simp
    have st := store2_cells o3 (x := .ptr id 0) (y := .ptr jd 0) rfl rfl
    have ga : Grows σ2 ((σ2 ++ [AObj.cells [.nilptr, .nilptr]]).set σ2.length (.cells [.ptr id 0, .ptr jd 0])) := Keeps.trans (Grows.app _ _) (Keeps.set _ _ _) fun i hi e => by omega
    have o4 := get_set (o' := .cells [.ptr id 0, .ptr jd 0]) o3
    simp -dsimp only [↓WPd, ↓wpC_block, ↓wpC_cond, WPu, Bool.false_eq_true, Bool.true_eq_false, Bool.not_true, Bool.not_false, if_true, if_false, ite_true, ite_false, Nat.reduceEqDiff, Nat.reduceLT, true_and, List.map_cons, List.map_nil, Nat.zero_add, Nat.reduceBEq, c0, isnil_ptr, ef, st]
    generalize (σ2 ++ [AObj.cells [.nilptr, .nilptr]]).set σ2.length (.cells [.ptr id 0, .ptr jd 0]) = σ4 at ga o4
    generalize σ2.length = ic at o4
    have B4 := B2.grow ga
    refine loop_rule2 (fun m vs σ' => ∃ i : Nat, i ≤ ds.length ∧ m = ds.length - i ∧ NRunSt l ic i (bulkN (ds.take i)) vs σ')
      [10] (fun x vs σ' => x = .exit 0 ∧ ∃ (lo : Nat) (old : AVal) (os : List AVal), vs = [old] ∧ Own σ' 2 old os ∧ os.length ≤ 6 ∧ NOld σ' lo os) ds.length
      ⟨0, Nat.zero_le _, rfl, 0, .nilslice, [], id, jd, .nilslice, .nilslice, [], ?_, o4, B4, Own.nil _ _, Nat.zero_le _, NOld.nil _ _, Nat.zero_le _, Nat.zero_le _, fun _ _ => Nat.zero_le _, fun _ _ => Nat.zero_le _, Nat.zero_le _, fun p h => by cases h⟩ ?_ ?_
    · simp -dsimp only [↓WPd, ↓wpC_block, ↓wpC_cond, WPu, Bool.false_eq_true, Bool.true_eq_false, Bool.not_true, Bool.not_false, if_true, if_false, ite_true, ite_false, Nat.reduceEqDiff, Nat.reduceLT, true_and, List.map_cons, List.map_nil, Nat.zero_add, Nat.reduceBEq]; rfl
    · rintro m vs σ6 ⟨i, hi, rfl, st6⟩
      have st6' := st6
      obtain ⟨lo, old, os, id, jd, v, w, qs, rfl, oc, hb', ho, hos, hold, hlid, hljd, hlv, hlw, hq, hsh⟩ := st6'
      simp -dsimp only [↓WPd, ↓wpC_cond, WPu, Bool.false_eq_true, Bool.true_eq_false, Bool.not_true, Bool.not_false, if_true, if_false, ite_true, ite_false, Nat.reduceEqDiff, Nat.reduceLT, true_and, List.map_cons, List.map_nil, Nat.zero_add, Nat.reduceBEq, ll]
      refine condP_dec (fun hlt => ?_) (fun hlt => ?_)
      · have hi' : i < ds.length := by omega
        have hD := hds ds[i] (List.getElem_mem hi')
        have hDx := hxs ds[i] (List.getElem_mem hi')
        have hb1 : bulkN (ds.take (i + 1)) = bulkN (ds.take i) + (1 + ds[i].xs.length) := by
          unfold bulkN
          rw [List.take_add_one, List.getElem?_eq_getElem hi', List.map_append, List.sum_append]; simp
        have hb2 := bulkN_take ds (i + 1)
        obtain ⟨t, ad⟩ := lit_addr (cs := [.int .i64 ds[i].k, .int .i64 ds[i].n, ds[i].l]) hl (i := i) (by rw [List.length_map]; exact hi') (by rw [List.getElem_map]; rfl) .i64
        have los := ho.sl.len
        simp -dsimp only [↓WPd, ↓wpC_cond, WPu, Bool.false_eq_true, Bool.true_eq_false, Bool.not_true, Bool.not_false, if_true, if_false, ite_true, ite_false, Nat.reduceEqDiff, Nat.reduceLT, true_and, List.map_cons, List.map_nil, Nat.zero_add, Nat.reduceBEq]
        rw [wpC_block, wpC_seq]
        refine cut_rule [1, 9, 10, 11] (fun x vs σ' => x = .normal ∧ NRunSt l ic i (bulkN (ds.take i)) vs σ') ?_ ?_
        · by_cases hk4 : (ds[i].k == 4) = true
          · by_cases h6 : os.length < 6
            · have h6' : ((os.length : Nat) : Int) < 6 := by omega
              have e1 : fillL 2 true (List.replicate 1 (zel [AVal.nilptr, .nilptr] true)) [(0, .agg [.ptr id 0, .ptr jd 0])] = some [.agg [.ptr id 0, .ptr jd 0]] := by simp [zel]
              obtain ⟨old', σ8, a1, a2, a3, a4, _⟩ := ho.append [.agg [.ptr id 0, .ptr jd 0]] 16 (by simp; omega)
              have oc8 := a3.get oc (ho.noCell oc)
              have hb8 := hb'.arr2 ho a3
              have hold8 : NOld σ8 lo os := hold.map fun _ _ _ _ _ _ h => h.arr2 ho a3
              simp -dsimp only [↓WPd, ↓wpC_block, ↓wpC_cond, WPu, Bool.false_eq_true, Bool.true_eq_false, Bool.not_true, Bool.not_false, if_true, if_false, ite_true, ite_false, Nat.reduceEqDiff, Nat.reduceLT, true_and, List.map_cons, List.map_nil, Nat.zero_add, Nat.reduceBEq, ad, faddr_f, load_f, Nat.zero_add, List.getElem?_cons_zero, List.getElem?_cons_succ, hk4, los, decide_eq_true h6', load2_cells oc, e1, elems_fs, a1]
              refine drawnP_of rfl ?_
              obtain ⟨i1, i2, i3, i4⟩ := hb8.id_lt
              obtain ⟨⟨c0, c1, c2, c3, n, es, es', N8, R8⟩, sep8⟩ := cp hb8
              have hs40 : ∀ p ∈ qs, p.bs.length < 2 ^ 40 := fun p hp => by have := hsh p hp; omega
              simp -dsimp only [↓WPd, ↓wpC_block, ↓wpC_cond, WPu, Bool.false_eq_true, Bool.true_eq_false, Bool.not_true, Bool.not_false, if_true, if_false, ite_true, ite_false, Nat.reduceEqDiff, Nat.reduceLT, true_and, List.map_cons, List.map_nil, Nat.zero_add, Nat.reduceBEq, ↓WPed, WPeu, Nat.reduceAdd, and_self, faddr_ptr, load_cells oc8, List.getElem?_cons_zero, List.getElem?_cons_succ]
              refine calledW_of (netfork_ok 0 σ8 id v c0 c1 c2 c3 n es qs N8 (by omega) hs40) ?_
              rintro r9 σ9 ⟨id9, v9, es9, rfl, N9, g9, hid9, fv9⟩
              have oc9 := g9.get oc8
              simp -dsimp only [↓WPd, ↓wpC_block, ↓wpC_cond, WPu, Bool.false_eq_true, Bool.true_eq_false, Bool.not_true, Bool.not_false, if_true, if_false, ite_true, ite_false, Nat.reduceEqDiff, Nat.reduceLT, true_and, List.map_cons, List.map_nil, Nat.zero_add, Nat.reduceBEq, ↓WPed, WPeu, Nat.reduceAdd, and_self, faddr_ptr, load_cells oc8, load_cells oc9, List.getElem?_cons_zero, List.getElem?_cons_succ]
              refine calledW_of (reffork_ok 0 σ9 jd w c0 c1 c2 c3 n es' qs (R8.grow g9) (by omega)) ?_
              rintro r10 σ10 ⟨jd9, w9, es10, rfl, R10, g10, hjd9, fw9⟩
              have oc10 := g10.get oc9
              have e2 : fillA [AVal.nilptr, .nilptr] [(0, 1, .ptr id9 0), (1, 1, .ptr jd9 0)] = some [.ptr id9 0, .ptr jd9 0] := rfl
              have st := store2_cells oc10 (x := .ptr id9 0) (y := .ptr jd9 0) rfl rfl
              simp -dsimp only [↓WPd, ↓wpC_block, ↓wpC_cond, WPu, Bool.false_eq_true, Bool.true_eq_false, Bool.not_true, Bool.not_false, if_true, if_false, ite_true, ite_false, Nat.reduceEqDiff, Nat.reduceLT, true_and, List.map_cons, List.map_nil, Nat.zero_add, Nat.reduceBEq, ↓WPed, WPeu, Nat.reduceAdd, and_self, e2, st]
              have g810 := g9.trans g10
              have l89 := g9.1
              have n9 : NB σ10 (fun _ => True) id9 v9 jd9 w9 qs := ⟨⟨_, _, _, _, _, _, _, (N9.grow g10).mono fun _ _ => trivial, R10⟩, fun i hi hw => by have := N9.own.sl.lt hi; have := fw9 i hw; omega⟩
              have n11 := n9.cell oc10 (Keeps.set σ10 ic (.cells [.ptr id9 0, .ptr jd9 0]))
              have hold10 : NOld σ10 lo os := hold8.keeps g810 fun _ _ h => h
              have hold10' : NOld σ10 σ8.length (os ++ [.agg [.ptr id 0, .ptr jd 0]]) := hold10.push (by omega) (hb8.lt.grow g810) (by omega) hsh i1 i2 i3 i4
              have a11 : Own (σ10.set ic (.cells [.ptr id9 0, .ptr jd9 0])) 2 old' (os ++ [.agg [.ptr id 0, .ptr jd 0]]) := (a2.grow g810).keeps (Keeps.set _ _ _) fun i hi e => (a2.grow g810).noCell oc10 (by rw [← e]; exact hi)
              exact ⟨σ8.length, old', _, id9, jd9, v9, w9, qs, rfl, get_set oc10, n11, a11, by rw [List.length_append, List.length_singleton]; omega, hold10'.map fun _ _ _ _ _ _ h => h.cell oc10 (Keeps.set _ _ _), hid9, by omega, fv9, fun i hi => by have := fw9 i hi; omega, hq, hsh⟩
            · have h6' : ¬ ((os.length : Nat) : Int) < 6 := by omega
              simp -dsimp only [↓WPd, ↓wpC_block, ↓wpC_cond, WPu, Bool.false_eq_true, Bool.true_eq_false, Bool.not_true, Bool.not_false, if_true, if_false, ite_true, ite_false, Nat.reduceEqDiff, Nat.reduceLT, true_and, List.map_cons, List.map_nil, Nat.zero_add, Nat.reduceBEq, ad, faddr_f, load_f, Nat.zero_add, List.getElem?_cons_zero, List.getElem?_cons_succ, hk4, los, decide_eq_false h6']
              exact st6
          · have hk4' : (ds[i].k == 4) = false := by simpa using hk4
            simp -dsimp only [↓WPd, ↓wpC_block, ↓wpC_cond, WPu, Bool.false_eq_true, Bool.true_eq_false, Bool.not_true, Bool.not_false, if_true, if_false, ite_true, ite_false, Nat.reduceEqDiff, Nat.reduceLT, true_and, List.map_cons, List.map_nil, Nat.zero_add, Nat.reduceBEq, ad, faddr_f, load_f, Nat.zero_add, List.getElem?_cons_zero, List.getElem?_cons_succ, hk4']
            exact st6
        · rintro x σ7 e ⟨rfl, st7⟩
          clear st6 hb' hold hlid hljd hlv hlw ho oc hq hsh hos los
          clear lo old os id jd v w qs
          obtain ⟨lo, old, os, id, jd, v, w, qs, hv, oc, hb', ho, hos, hold, hlid, hljd, hlv, hlw, hq, hsh⟩ := st7
          simp only [List.map_cons, List.map_nil, List.cons.injEq, and_true] at hv
          obtain ⟨e1, e9, e10, e11⟩ := hv
          have l3 : loadV σ7 3 true (.fptr t [.int .i64 ds[i].k, .int .i64 ds[i].n, ds[i].l] 0) = some (.agg [.int .i64 ds[i].k, .int .i64 ds[i].n, ds[i].l]) := by simp [loadV, behind]
          simp only [seqQ_normal]
          simp -dsimp only [↓WPd, ↓wpC_block, ↓wpC_cond, WPu, Bool.false_eq_true, Bool.true_eq_false, Bool.not_true, Bool.not_false, if_true, if_false, ite_true, ite_false, Nat.reduceEqDiff, Nat.reduceLT, true_and, List.map_cons, List.map_nil, Nat.zero_add, Nat.reduceBEq, e1, e9, e10, e11, ad, l3, load2_cells oc]
          refine calledW_of (ndo_ok 0 σ7 id v jd w qs ds[i] hb' (by omega) hsh hD hDx) ?_
          rintro r9 σ9 ⟨rfl, k9, v', w', qs', hb9, f1, f2, hn9, hp9⟩
          obtain ⟨nid, njd⟩ := hb'.not_cell2 oc
          obtain ⟨nv, nw⟩ := hb'.v_cell oc
          obtain ⟨i1, i2, i3, i4⟩ := hb'.id_lt
          have oc9 := k9.get oc (fun h => by rcases h with h | h | h | h <;> contradiction)
          have ho9 : Own σ9 2 old os := ho.keeps k9 fun j hj => hb'.row2 ho hj
          have hold9 : NOld σ9 lo os := hold.keeps k9 fun i hi h => by
            rcases h with h | h | h | h
            · omega
            · omega
            · have := hlv i h; omega
            · have := hlw i h; omega
          simp -dsimp only [↓WPd, ↓wpC_block, ↓wpC_cond, WPu, Bool.false_eq_true, Bool.true_eq_false, Bool.not_true, Bool.not_false, if_true, if_false, ite_true, ite_false, Nat.reduceEqDiff, Nat.reduceLT, true_and, List.map_cons, List.map_nil, Nat.zero_add, Nat.reduceBEq, e11]
          refine ⟨ds.length - (i + 1), by omega, i + 1, by omega, rfl, lo, old, os, id, jd, v', w', qs', ?_, oc9, hb9, ho9, hos, hold9, hlid, hljd, fun j hj => ?_, fun j hj => ?_, by omega, hp9⟩
          · rw [e1, e9, e10, wrap_i64 (by omega) (by omega), Int.natCast_add, Int.natCast_one]
          · rcases f1 j hj with h | h
            · exact hlv j h
            · omega
          · rcases f2 j hj with h | h
            · exact hlw j h
            · omega
      · simp -dsimp only [↓WPd, ↓wpC_block, ↓wpC_cond, WPu, Bool.false_eq_true, Bool.true_eq_false, Bool.not_true, Bool.not_false, if_true, if_false, ite_true, ite_false, Nat.reduceEqDiff, Nat.reduceLT, true_and, List.map_cons, List.map_nil, Nat.zero_add, Nat.reduceBEq]
        exact ⟨lo, old, os, rfl, ho, hos, hold⟩
    · rintro x σ6 e ⟨rfl, lo, old, os, hv, ho, hn, hold⟩
      simp only [List.map_cons, List.map_nil, List.cons.injEq, and_true] at hv
      have lo6 := ho.sl.len
      simp -dsimp only [↓WPd, ↓wpC_block, ↓wpC_cond, WPu, Bool.false_eq_true, Bool.true_eq_false, Bool.not_true, Bool.not_false, if_true, if_false, ite_true, ite_false, Nat.reduceEqDiff, Nat.reduceLT, true_and, List.map_cons, List.map_nil, Nat.zero_add, Nat.reduceBEq, hv]
      refine loop_rule (fun m vs σ' => ∃ i : Nat, i ≤ os.length ∧ m = os.length - i ∧ Grows σ6 σ' ∧ vs = [old, .int .i64 i]) os.length ⟨0, Nat.zero_le _, rfl, Keeps.refl _ _, ?_⟩ ?_
      · simp -dsimp only [↓WPd, ↓wpC_block, ↓wpC_cond, WPu, Bool.false_eq_true, Bool.true_eq_false, Bool.not_true, Bool.not_false, if_true, if_false, ite_true, ite_false, Nat.reduceEqDiff, Nat.reduceLT, true_and, List.map_cons, List.map_nil, Nat.zero_add, Nat.reduceBEq, hv]; rfl
      · rintro m vs σ' ⟨i, hi, rfl, g, rfl⟩
        have ho' := ho.grow g
        simp -dsimp only [↓WPd, ↓wpC_block, ↓wpC_cond, WPu, Bool.false_eq_true, Bool.true_eq_false, Bool.not_true, Bool.not_false, if_true, if_false, ite_true, ite_false, Nat.reduceEqDiff, Nat.reduceLT, true_and, List.map_cons, List.map_nil, Nat.zero_add, Nat.reduceBEq, lo6]
        refine condP_dec (fun hlt => ?_) (fun hlt => ?_)
        · have hi' : i < os.length := by omega
          obtain ⟨id, v, jd, w, qs, ex, h2, h3, h4, _⟩ := hold i os[i] (List.getElem?_eq_getElem hi')
          have la := ho'.sl.loadA hi' ex
          simp -dsimp only [↓WPd, ↓wpC_block, ↓wpC_cond, WPu, Bool.false_eq_true, Bool.true_eq_false, Bool.not_true, Bool.not_false, if_true, if_false, ite_true, ite_false, Nat.reduceEqDiff, Nat.reduceLT, true_and, List.map_cons, List.map_nil, Nat.zero_add, Nat.reduceBEq, ho'.sl.iaddr hi', show loadV σ' 2 true (addrOf 2 old i) = some (.agg [.ptr id 0, .ptr jd 0]) from la]
          refine calledW_of (nalike_ok 0 σ' id v jd w qs (h2.grow g) (by omega) (fun p hp => by have := h4 p hp; omega)) ?_
          rintro r σ7 ⟨rfl, g7⟩
          simp -dsimp only [↓WPd, ↓wpC_block, ↓wpC_cond, WPu, Bool.false_eq_true, Bool.true_eq_false, Bool.not_true, Bool.not_false, if_true, if_false, ite_true, ite_false, Nat.reduceEqDiff, Nat.reduceLT, true_and, List.map_cons, List.map_nil, Nat.zero_add, Nat.reduceBEq]
          refine ⟨os.length - (i + 1), by omega, i + 1, by omega, rfl, g.trans g7, ?_⟩
          rw [wrap_i64 (by omega) (by omega), Int.natCast_add, Int.natCast_one]
        · simp -dsimp only [↓WPd, ↓wpC_block, ↓wpC_cond, WPu, Bool.false_eq_true, Bool.true_eq_false, Bool.not_true, Bool.not_false, if_true, if_false, ite_true, ite_false, Nat.reduceEqDiff, Nat.reduceLT, true_and, List.map_cons, List.map_nil, Nat.zero_add, Nat.reduceBEq]
  · refine calledW_of (netnew_no 0 [] nodes hn) ?_
    rintro r1 σ1 ⟨rfl, rfl⟩
    simp -dsimp only [↓WPd, ↓wpC_block, ↓wpC_cond, WPu, Bool.false_eq_true, Bool.true_eq_false, Bool.not_true, Bool.not_false, if_true, if_false, ite_true, ite_false, Nat.reduceEqDiff, Nat.reduceLT, true_and, List.map_cons, List.map_nil, Nat.zero_add, Nat.reduceBEq, List.getElem?_cons_zero, List.getElem?_cons_succ]
    refine calledW_of (refnew_no 0 [] nodes hn) ?_
    rintro r2 σ2 ⟨rfl, rfl⟩
    simp -dsimp only [↓WPd, ↓wpC_block, ↓wpC_cond, WPu, Bool.false_eq_true, Bool.true_eq_false, Bool.not_true, Bool.not_false, if_true, if_false, ite_true, ite_false, Nat.reduceEqDiff, Nat.reduceLT, true_and, List.map_cons, List.map_nil, Nat.zero_add, Nat.reduceBEq, List.getElem?_cons_zero, List.getElem?_cons_succ]
    refine isoW_bool nlive_ran ?_
    have c2 : ((2 : Int) != 2) = false := rfl
    have c3 : ((2 : Int) != 0) = true := rfl
    have nn : isNil .p .nilptr = some true := rfl
    simp -dsimp only [↓WPd, ↓wpC_block, ↓wpC_cond, WPu, Bool.false_eq_true, Bool.true_eq_false, Bool.not_true, Bool.not_false, if_true, if_false, ite_true, ite_false, Nat.reduceEqDiff, Nat.reduceLT, true_and, List.map_cons, List.map_nil, Nat.zero_add, Nat.reduceBEq, c2, c3, nn]
end Go.Proofs.Ytmocplkpnickgaa.Am

/-
  Net: the laws' arguments.
-/
namespace Go.Proofs.Ytmocplkpnickgaa.Am
open Go Go.ChangeShapes Go.WideShapes Go.ChangeAt Go.RowKit
set_option linter.unusedVariables false
set_option linter.unusedSimpArgs false
set_option maxRecDepth 100000

theorem bool_of {P : Program} {H : Type} {n : Nat} {t : TypeId} (ht : P.underlying t = some .bool) {d : DataW H} (h : Typed P (n + 1) t d) : ∃ b, argV P (n + 1) t d = .bool b := by
  simp only [Typed, ht] at h
  obtain ⟨b, rfl⟩ := h
  have ha : aggB P t = false := by simp [aggB, ht]
  exact ⟨b, by simp [argV, elv, ha, dec, ht]⟩

/-- a datagram, as it is read -/
def DgR (a : AVal) (p : Dg) : Prop := ∃ e, a = p.val e ∧ ∀ σ, SlOf σ 1 e (B p.bs)
def sizeDg (p : Dg) : Nat := p.bs.length + 1
theorem DgR.ok {a : AVal} {p : Dg} (h : DgR a p) : DgOk [] (fun _ => False) a p := by
  obtain ⟨e, h1, h2⟩ := h
  exact ⟨e, h1, h2 [], fun j hj => by have := (h2 []).lt hj; simp at this⟩

theorem dg_of {H : Type} {n : Nat} (d : DataW H) (h : Typed Try.prog (n + 3) 83 d) : ∃ p : Dg, DgR (argV Try.prog (n + 3) 83 d) p ∧ sizeDg p ≤ Rows.uptoBulk d := by
  obtain ⟨ds, rfl, hl, hd, ha, hb⟩ := struct_of (n := n + 2) Try.underlying83 h
  match ds, hl with
  | [x, y, z, u, w], _ =>
    have tx : Typed Try.prog (n + 2) 3 x := hd 0 _ x rfl rfl
    have ty : Typed Try.prog (n + 2) 3 y := hd 1 _ y rfl rfl
    have tz : Typed Try.prog (n + 2) 4 z := hd 2 _ z rfl rfl
    have tu : Typed Try.prog (n + 2) 3 u := hd 3 _ u rfl rfl
    have tw : Typed Try.prog (n + 2) 22 w := hd 4 _ w rfl rfl
    obtain ⟨f, hx, _⟩ := ints_of (n := n + 1) Try.underlying3 tx
    obtain ⟨t, hy, _⟩ := ints_of (n := n + 1) Try.underlying3 ty
    obtain ⟨b, hz⟩ := bool_of (n := n + 1) Try.underlying4 tz
    obtain ⟨s, hu, _⟩ := ints_of (n := n + 1) Try.underlying3 tu
    obtain ⟨bs, hw, hs⟩ := bytes_of (n := n) Try.underlying22 Try.underlying5 (by kernel_rfl) tw
    simp only [Rows.uptoBulkAll] at hb
    refine ⟨⟨f, t, b, s, bs⟩, ⟨argV Try.prog (n + 2) 22 w, ?_, hw⟩, by unfold sizeDg; dsimp only; omega⟩
    rw [ha]
    simp only [List.zipWith_cons_cons, List.zipWith_nil_right, List.flatten_cons, List.flatten_nil, List.append_nil]
    have e1 := dec_one (n := n + 1) tx (by kernel_rfl)
    have e2 := dec_one (n := n + 1) ty (by kernel_rfl)
    have e3 := dec_one (n := n + 1) tz (by kernel_rfl)
    have e4 := dec_one (n := n + 1) tu (by kernel_rfl)
    have e5 := dec_one (n := n + 1) tw (by kernel_rfl)
    rw [hx] at e1
    rw [hy] at e2
    rw [hz] at e3
    rw [hu] at e4
    rw [e1, e2, e3, e4, e5]; rfl

theorem dgs_of {H : Type} {n : Nat} {d : DataW H} (h : Typed Try.prog (n + 4) 75 d) : ∃ (fs : List AVal) (xs : List Dg), (∀ σ, SlOf σ 5 (argV Try.prog (n + 4) 75 d) fs) ∧ Two (DgOk [] (fun _ => False)) fs xs ∧ (xs.map sizeDg).sum + 1 ≤ Rows.uptoBulk d + 1 ∧ xs.length ≤ Rows.uptoBulk d := by
  rcases slice_of Try.underlying75 h with rfl | ⟨ds, rest, rfl, hd, ha, hb⟩
  · exact ⟨[], [], fun σ => by rw [argV_nil Try.underlying75]; exact SlOf.nil σ 5, .nil, by simp, Nat.zero_le _⟩
  · obtain ⟨xs, h1, h2, h3, h4⟩ := list_of (R := DgR) (size := sizeDg) (fun d h => dg_of (n := n) d h) ds hd
    refine ⟨ds.map fun x => argV Try.prog (n + 3) 83 x, xs, fun σ => ?_, Two.of_get (by simp [h1]) fun i a b ha hb => (h2 i a b ha hb).ok, by omega, by omega⟩
    rw [ha, show Try.prog.cellsOf 83 = 5 from by kernel_rfl]; exact SlOf.fs _ _ _ _ _
theorem size_mem {xs : List Dg} {p : Dg} (h : p ∈ xs) : p.bs.length ≤ (xs.map sizeDg).sum := by
  induction xs with
  | nil => cases h
  | cons x xs ih =>
    simp only [List.map_cons, List.sum_cons, sizeDg] at ih ⊢
    rcases List.mem_cons.1 h with rfl | h
    · omega
    · have := ih h; omega
end Go.Proofs.Ytmocplkpnickgaa.Am

/-
  Net: the laws' deeds, as they are read.
-/
namespace Go.Proofs.Ytmocplkpnickgaa.Am
open Go Go.ChangeShapes Go.WideShapes Go.ChangeAt Go.RowKit
set_option linter.unusedVariables false
set_option linter.unusedSimpArgs false
set_option maxRecDepth 100000

def NDeedR (a : AVal) (x : NDeed) : Prop := a = x.val ∧ -9223372036854775808 ≤ x.n ∧ x.n < 9223372036854775808 ∧ SlOf [] 5 x.l x.fs ∧ Two (DgOk [] (fun _ => False)) x.fs x.xs
def sizeN (x : NDeed) : Nat := (x.xs.map sizeDg).sum + 1
theorem ndeed_of {H : Type} (d : DataW H) (h : Typed Try.prog 7 90 d) : ∃ x : NDeed, NDeedR (argV Try.prog 7 90 d) x ∧ sizeN x ≤ Rows.uptoBulk d := by
  obtain ⟨ds, rfl, hl, hd, ha, hb⟩ := struct_of (n := 6) Try.underlying90 h
  match ds, hl with
  | [x, y, z], _ =>
    have tx : Typed Try.prog 6 3 x := hd 0 _ x rfl rfl
    have ty : Typed Try.prog 6 3 y := hd 1 _ y rfl rfl
    have tz : Typed Try.prog 6 75 z := hd 2 _ z rfl rfl
    obtain ⟨k, hx, hi⟩ := ints_of (n := 5) Try.underlying3 tx
    obtain ⟨n, hy, hj⟩ := ints_of (n := 5) Try.underlying3 ty
    obtain ⟨fs, xs, b1, b2, b3, b4⟩ := dgs_of (n := 2) tz
    have hj' := wf_i64 hj
    simp only [Rows.uptoBulkAll] at hb
    refine ⟨⟨k, n, argV Try.prog 6 75 z, fs, xs⟩, ⟨?_, hj'.1, hj'.2, b1 [], b2⟩, by unfold sizeN; dsimp only; omega⟩
    rw [ha]
    simp only [List.zipWith_cons_cons, List.zipWith_nil_right, List.flatten_cons, List.flatten_nil, List.append_nil]
    have e1 := dec_one (n := 5) tx (by kernel_rfl)
    have e2 := dec_one (n := 5) ty (by kernel_rfl)
    have e3 := dec_one (n := 5) tz (by kernel_rfl)
    rw [hx] at e1
    rw [hy] at e2
    rw [e1, e2, e3]; rfl

theorem sizeN_mem {xs : List NDeed} {x : NDeed} (h : x ∈ xs) : sizeN x ≤ (xs.map sizeN).sum := by
  induction xs with
  | nil => cases h
  | cons y xs ih =>
    simp only [List.map_cons, List.sum_cons]
    rcases List.mem_cons.1 h with rfl | h
    · omega
    · have := ih h; omega
theorem len_size : ∀ xs : List Dg, xs.length ≤ (xs.map sizeDg).sum
  | [] => Nat.zero_le _
  | x :: xs => by
    have := len_size xs
    simp only [List.length_cons, List.map_cons, List.sum_cons, sizeDg] at this ⊢
    omega
theorem bulkN_le : ∀ xs : List NDeed, bulkN xs ≤ (xs.map sizeN).sum
  | [] => Nat.zero_le _
  | x :: xs => by
    have h1 := bulkN_le xs
    have h2 := len_size x.xs
    simp only [bulkN, List.map_cons, List.sum_cons, sizeN] at h1 ⊢
    omega
theorem lenN_le : ∀ xs : List NDeed, xs.length ≤ (xs.map sizeN).sum
  | [] => Nat.zero_le _
  | x :: xs => by
    have := lenN_le xs
    simp only [List.length_cons, List.map_cons, List.sum_cons, sizeN] at this ⊢
    omega
theorem ndeeds_of {H : Type} {d : DataW H} (h : Typed Try.prog 8 88 d) (hb : Rows.uptoBulk d ≤ 1048576) : ∃ xs : List NDeed, SlOf [] 3 (argV Try.prog 8 88 d) (xs.map NDeed.val) ∧ (∀ x ∈ xs, NDeedOk x) ∧ bulkN xs ≤ 1048576 ∧ xs.length ≤ 1048576 ∧ ∀ x ∈ xs, x.xs.length ≤ 1048576 := by
  rcases slice_of Try.underlying88 h with rfl | ⟨ds, rest, rfl, hd, ha, hbb⟩
  · exact ⟨[], by rw [argV_nil Try.underlying88]; exact SlOf.nil _ 3, fun x hx => by simp at hx, by simp [bulkN], Nat.zero_le _, fun x hx => by simp at hx⟩
  · obtain ⟨xs, h1, h2, h3, h4⟩ := list_of (R := NDeedR) (size := sizeN) (fun d h => ndeed_of d h) ds hd
    have key : (ds.map fun x => argV Try.prog 7 90 x) = xs.map NDeed.val := by
      refine List.ext_getElem? fun i => ?_
      by_cases hi : i < ds.length
      · have e1 : (ds.map fun x => argV Try.prog 7 90 x)[i]? = some (argV Try.prog 7 90 ds[i]) := by simp [List.getElem?_eq_getElem hi]
        have e2 : xs[i]? = some (xs[i]'(by omega)) := List.getElem?_eq_getElem _
        have := (h2 i _ _ e1 e2).1
        rw [e1, this, List.getElem?_map, e2]; rfl
      · rw [List.getElem?_eq_none (by simp; omega), List.getElem?_eq_none (by simp; omega)]
    have hbl := bulkN_le xs
    have hll := lenN_le xs
    refine ⟨xs, ?_, fun x hx => ?_, by omega, by omega, fun x hx => ?_⟩
    · rw [ha, show Try.prog.cellsOf 90 = 3 from by kernel_rfl, key]; exact SlOf.fs _ _ _ _ _
    · obtain ⟨i, hi, rfl⟩ := List.mem_iff_getElem.1 hx
      have e1 : (ds.map fun x => argV Try.prog 7 90 x)[i]? = some (argV Try.prog 7 90 (ds[i]'(by omega))) := by simp [List.getElem?_eq_getElem (show i < ds.length by omega)]
      obtain ⟨_, n1, n2, n3, n4⟩ := h2 i _ _ e1 (List.getElem?_eq_getElem hi)
      have hm := sizeN_mem hx
      refine ⟨n1, n2, n3, n4, fun p hp => ?_⟩
      have h5 := size_mem hp
      have hm' : (xs[i].xs.map sizeDg).sum + 1 ≤ (xs.map sizeN).sum := hm
      omega
    · have hm := sizeN_mem hx
      have h5 := len_size x.xs
      have hm' : (x.xs.map sizeDg).sum + 1 ≤ (xs.map sizeN).sum := hm
      omega
end Go.Proofs.Ytmocplkpnickgaa.Am

