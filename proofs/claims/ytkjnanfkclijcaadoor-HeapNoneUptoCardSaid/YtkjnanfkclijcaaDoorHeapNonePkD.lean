/-
  The abstract machine and the functions of the law, 4: texts put together.
-/
import Derived.Test.YtkjnanfkclijcaaDoorHeapNonePkC
import Derived.Test.YtkjnanfkclijcaaDoorHeapNonePkA
import Derived.Test.YtkjnanfkclijcaaDoorProg
import Derived.Shelf.SlIter.Collect
import Derived.RangeFuncBox
import Derived.Shelf.SlSortCmp.WholeK
import Derived.Shelf.SlMaps.Clone
import Derived.Shelf.SlSortCmp.NoneTotal
import Derived.RangeFuncBound
namespace Go.Proofs.YtkjnanfkclijcaaDoor.Am
open Go Go.Proofs Go.RowKit Go.Maps Go.Sort Go.Shelf Go.ChangeMaps
set_option maxRecDepth 100000
abbrev encNm (v : Int × Int) : Value := .agg #[.int .i64 v.1, .int .i64 v.2]
set_option maxHeartbeats 1000000 in
theorem keys_walk (F : Fence) (n : Nat) (h : F.fn 143) (hro : F.round = none) (hn : 1 ≤ n) (l Bm b : Nat) (es : Array MapEntry) (clock : Nat) (J : List (Int × Int) → World → Prop)
  (hY : ∀ pre x W, J pre W → pre.length < es.size → YieldAt F (n - 1) Tryd.prog l #[encNm x] W fun e W' => e = .returned (.bool true) ∧ J (pre ++ [x]) W' ∧ KeepsWalks W W')
  (W : World) (hJ : AbidesFrom W.heap.size J) (hm : W.cell? ⟨Bm, 0, none⟩ = some (.map (some b))) (hb : W.heap[b]? = some (.map es clock)) (hB : (∀ e ∈ es.toList, e.born < clock) ∧ (es.toList.map (·.born)).Nodup) (h0 : J [] W) (hk : ∀ e ∈ es.toList, ∃ v : Int × Int, e.key = encNm v) :
  CallsIn F n Tryd.prog 143 #[.func (.yield l) #[] #[], .pointer (some ⟨Bm, 0, none⟩)] W fun e W' => (∃ v, e = .returned v) ∧ ∃ ks : List (Int × Int), (ks.map encNm).Perm (es.toList.map (·.key)) ∧ J ks W' := by
  have u126 := run_underlying (P := Tryd.prog) Tryd.underlying126
  have u46 := run_underlying (P := Tryd.prog) Tryd.underlying46
  refine callsIn_of_wp Tryd.func143 rfl h ?_ hro
  simp only [Tryd.f143, List.size_toArray, List.length_cons, List.length_nil, Nat.reduceAdd, Nat.reduceSub, Array.replicate_succ, Array.replicate_zero, List.push_toArray, List.append_toArray, List.nil_append, List.cons_append]
  gi_wp2_with (first
    | (gi_at_range; refine range_raw _ rfl _ 126 rfl _ _ Tryd.underlying126 b es clock rfl hb ?_)
    | gi_in)
  go_frame
  gi_loopw [3] (fun _ wr => ∃ (seen : Array Nat) (c0 : Nat) (ks : List (Int × Int)), wr.heap[W.heap.size]? = some (.mapIter (some b) clock seen c0) ∧ clock ≤ c0 ∧ wr.heap[b]? = some (.map es clock) ∧ (ks.map encNm ++ (leftOf es seen).toList.map (·.key)).Perm (es.toList.map (·.key)) ∧ ks.length + (leftOf es seen).size = es.size ∧ J ks wr)
    (fun _ wr => match wr.heap[W.heap.size]? with | some (.mapIter _ _ seen _) => (leftOf es seen).size | _ => 0)
  case atStart =>
    refine ⟨#[], clock, [], World.alloc_heap_new W _, Nat.le_refl _, (Below.heap_alloc W _ b (Array.getElem?_eq_some_iff.1 hb).1).trans hb, ?_, ?_, hJ [] W _ none h0 (World.grownBy_alloc W _ none) (fun r e => by cases e)⟩
    · have : (leftOf es #[]).toList = es.toList := by simp only [leftOf, Array.toList_filter]; exact List.filter_eq_self.2 fun a _ => by simp
      rw [this]; exact List.Perm.refl _
    · simp [leftOf]
  case round =>
    obtain ⟨seen, c0, ks, hr, hc0, hb1, hperm, hlen, hJs⟩ := hrel
    gi_wp2_with (first
      | (gi_at_next; refine next_raw _ rfl _ rfl b W.heap.size clock c0 seen es clock rfl hr hb1 hB.1 hc0 ?_ ?_)
      | gi_in)
    · intro h0'
      gi_wp2
      go_end0
      refine ⟨⟨_, rfl⟩, ks, ?_, hJs⟩
      have : (leftOf es seen).toList = [] := List.eq_nil_of_length_eq_zero (by simpa using h0')
      rw [this] at hperm; simpa using hperm
    · intro x w1 hx hw1
      obtain ⟨w2, hw2⟩ : ∃ w2, setBlock w1 W.heap.size (.mapIter (some b) clock (seen.push x.born) clock) = w2 := ⟨_, rfl⟩
      rw [hw2]
      have hxe : x ∈ es.toList := by
        have : (leftOf es seen).toList.Sublist es.toList := by simp only [leftOf, Array.toList_filter]; exact List.filter_sublist
        exact this.subset (by simpa using hx)
      have hwh : w1.heap = wr.heap := by rcases hw1 with rfl | rfl <;> rfl
      have hne : b ≠ W.heap.size := by have := (Array.getElem?_eq_some_iff.1 hb).1; omega
      have hr1 : w1.heap[W.heap.size]? = some (.mapIter (some b) clock seen c0) := by rw [hwh]; exact hr
      have hlt1 := (Array.getElem?_eq_some_iff.1 hr1).1
      have hr2 : w2.heap[W.heap.size]? = some (.mapIter (some b) clock (seen.push x.born) clock) := by rw [← hw2]; simp [setBlock, hlt1]
      have hb2 : w2.heap[b]? = some (.map es clock) := by rw [← hw2]; simp only [setBlock]; rw [Array.getElem?_setIfInBounds_ne (by omega), hwh]; exact hb1
      have hg2 : wr.grownBy w2 (some W.heap.size) := by
        have h1 : wr.grownBy w1 (some W.heap.size) := by rcases hw1 with rfl | rfl <;> exact ⟨rfl, rfl, rfl, Nat.le_refl _, fun _ _ _ => rfl⟩
        refine h1.trans ?_
        rw [← hw2]
        exact ⟨rfl, rfl, rfl, by simp [setBlock], fun i _ hi => by simp only [setBlock]; exact Array.getElem?_setIfInBounds_ne (fun e1 => hi (by rw [e1]))⟩
      have hen := run_entry_at (P := Tryd.prog) w2 W.heap.size b clock seen es clock x hr2 hb2 hxe hB.2
      obtain ⟨v, hv⟩ := hk x hxe
      rw [hv, show encNm v = .agg #[.int .i64 v.1, .int .i64 v.2] from rfl] at hen
      obtain ⟨w3, hw3⟩ : ∃ w3, w2.alloc (.cells #[.int .i64 v.1, .int .i64 v.2] 46) = w3 := ⟨_, rfl⟩
      have hg3 : wr.grownBy w3 (some W.heap.size) := by rw [← hw3]; exact hg2.trans (World.grownBy_alloc _ _ _)
      have hJ3 : J ks w3 := hJ ks wr w3 (some W.heap.size) hJs hg3 (fun r e => by cases e; exact ⟨Nat.le_refl _, _, hr, rfl⟩)
      have hleft := left_step hB.2 (seen := seen) (x := x) (by simpa using hx)
      have hll := hleft.length_eq
      simp only [List.length_cons, Array.length_toList] at hll
      have hperm2 : ((ks ++ [v]).map encNm ++ (leftOf es (seen.push x.born)).toList.map (·.key)).Perm (es.toList.map (·.key)) := by
        refine List.Perm.trans ?_ hperm
        rw [List.map_append, List.append_assoc]
        refine List.Perm.append_left _ ?_
        have := (hleft.map (·.key)).symm
        rw [List.map_cons, hv] at this
        exact this
      obtain ⟨fn, tmps, assign, body, hy, hR⟩ := hY ks v w3 hJ3 (by omega)
      have hr3 : w3.heap[W.heap.size]? = some (.mapIter (some b) clock (seen.push x.born) clock) := by rw [← hw3]; exact (Below.heap_alloc _ _ _ (Array.getElem?_eq_some_iff.1 hr2).1).trans hr2
      have hb3 : w3.heap[b]? = some (.map es clock) := by rw [← hw3]; exact (Below.heap_alloc _ _ _ (Array.getElem?_eq_some_iff.1 hb2).1).trans hb2
      subst hw3
      gi_wp2
      refine hR.mono ?_
      rintro e W3 ⟨rfl, hJ4, hk3⟩
      gi_wp2
      go_roundw
      case rel => exact ⟨_, clock, ks ++ [v], hk3.same _ _ hr3 rfl, Nat.le_refl _, hk3.same _ _ hb3 rfl, hperm2, by simp; omega, hJ4⟩
      case measure =>
        rw [hk3.same _ _ hr3 rfl, hr]
        simp only
        omega
end Go.Proofs.YtkjnanfkclijcaaDoor.Am

namespace Go.Proofs.YtkjnanfkclijcaaDoor.Am
open Go Go.Proofs Go.RowKit Go.Maps Go.Sort Go.Shelf Go.ChangeMaps
set_option maxRecDepth 100000
set_option linter.unusedVariables false
noncomputable def apParts : Code × Code := match (Tryd.f170).body with
  | some (.seq _ (.seq (.seq _ (.block _ (.rangeFunc _ _ a b))) _)) => (a, b)
  | _ => (.skip, .skip)
noncomputable def apRec (fn : FuncId) (sv : Value) (Bs D : Nat) (st : LoopState) (pend : Option Code) : Loop :=
  { state := st, pending := pend, fn, tmps := #[.slice none 0 0, sv, .pointer (some ⟨Bs, 0, none⟩), undef, .slice none 0 0, undef, sv, undef, undef, undef, undef, undef, undef], params := #[7], assign := apParts.1, body := apParts.2, defers := D }
structure ApAt (w0 : World) (fn : FuncId) (sv : Value) (Bs l D : Nat) (ss : List (Int × Int)) (W : World) : Prop where
  box : ∃ v, Boxed W Bs 54 v ∧ W.ownsRow w0.heap.size 46 2 v ss.length (ss.flatMap fun p => [.int .i64 p.1, .int .i64 p.2]) ∧ (v = .slice none 0 0 ↔ ss = [])
  L : W.heap[l]? = some (.loop (apRec fn sv Bs D .ready none))
  K : W.heap[D]? = some (.deferred (some []))
  below : Below w0.heap.size w0 W
theorem ap_abides (w0 : World) (fn : FuncId) (sv : Value) (Bs l D B : Nat) (hB : w0.heap.size ≤ B) : AbidesFrom B (ApAt w0 fn sv Bs l D) := fun s W W' row h hg hrow => by
  have hrow' : ∀ r, row = some r → ∃ o : Obj, W.heap[r]? = some o ∧ o.isWalk = true := fun r e => (hrow r e).2
  obtain ⟨v, hv, hr, hn⟩ := h.box
  exact ⟨⟨v, (grownBy_keeps hg hrow' hv rfl).trans hv, ownsRow_abides_a hr hg hrow', hn⟩, (grownBy_keeps hg hrow' h.L rfl).trans h.L, (grownBy_keeps hg hrow' h.K rfl).trans h.K,
    h.below.grown hg h.below.size (fun k e => Nat.le_trans hB (hrow k e).1)⟩
abbrev nmCells (p : Int × Int) : List Value := [.int .i64 p.1, .int .i64 p.2]
theorem new_cells (W : World) (x : Int × Int) : ∀ (j : Nat) (u : Value), ([.int .i64 x.1, .int .i64 x.2] : List Value)[j]? = some u → (W.alloc (.cells #[.int .i64 x.1, .int .i64 x.2] 46)).cell? ((⟨W.heap.size, 0, none⟩ : Addr).add j) = some u := by
  have h := World.alloc_heap_new W (.cells #[.int .i64 x.1, .int .i64 x.2] 46)
  intro j u hj
  match j, hj with
  | 0, hj => simp at hj; subst hj; rw [show (⟨W.heap.size, 0, none⟩ : Addr).add 0 = ⟨W.heap.size, 0, none⟩ from rfl]; simp only [World.cell?, h]; rfl
  | 1, hj => simp at hj; subst hj; rw [show (⟨W.heap.size, 0, none⟩ : Addr).add 1 = ⟨W.heap.size, 1, none⟩ from rfl]; simp only [World.cell?, h]; rfl
  | j + 2, hj => simp at hj
set_option maxHeartbeats 2000000 in
theorem apYield (F : Fence) (m : Nat) (w0 : World) (fn : FuncId) (hfn : F.fn fn) (sv : Value) (Bs l D : Nat) (hBl : Bs ≠ l) (hDl : D ≠ l) (hDB : D ≠ Bs) (h0B : w0.heap.size ≤ Bs) (h0l : w0.heap.size ≤ l)
    (N : Nat) (hN : N ≤ maxLen) (hNb : N * 16 ≤ 140737488355328) (ss : List (Int × Int)) (x : Int × Int) (W : World) (h : ApAt w0 fn sv Bs l D ss W) (hlen : ss.length < N) :
    YieldAt F m Tryd.prog l #[encNm x] W fun e W' => e = .returned (.bool true) ∧ ApAt w0 fn sv Bs l D (ss ++ [x]) W' ∧ KeepsWalks W W' := by
  have u46 := run_underlying (P := Tryd.prog) Tryd.underlying46
  have u54 := run_underlying (P := Tryd.prog) Tryd.underlying54
  obtain ⟨v, hv, hrow, _⟩ := h.box
  refine ⟨fn, #[.slice none 0 0, sv, .pointer (some ⟨Bs, 0, none⟩), undef, .slice none 0 0, undef, sv, encNm x, undef, undef, undef, undef, undef], apParts.1, apParts.2, by simpa [apRec] using run_yield (P := Tryd.prog) (args := #[encNm x]) h.L rfl, roundIn_of_wpIn hfn ?_⟩
  have hl : l < W.heap.size := (Array.getElem?_eq_some_iff.1 h.L).1
  have hBs : Bs < W.heap.size := (Array.getElem?_eq_some_iff.1 hv).1
  have hDs : D < W.heap.size := (Array.getElem?_eq_some_iff.1 h.K).1
  obtain ⟨W1, hW1⟩ : ∃ W1, W.alloc (.cells #[.int .i64 x.1, .int .i64 x.2] 46) = W1 := ⟨_, rfl⟩
  have hL1 : W1.heap[l]? = some (.loop (apRec fn sv Bs D .ready none)) := by rw [← hW1]; exact (Below.heap_alloc _ _ _ hl).trans h.L
  have hbr := run_beginRound (P := Tryd.prog) hL1 rfl
  unfold apParts
  simp only [Tryd.f170]
  gi_wp2_with gi_round_op_a
  obtain ⟨W2, hW2⟩ : ∃ W2, W1.putObj l (.loop { apRec fn sv Bs D .ready none with state := .busy }) = W2 := ⟨_, rfl⟩
  rw [hW2] at hbr
  refine ⟨W2, hbr, ?_⟩
  have hg1 : W.grownBy W1 none := by rw [← hW1]; exact World.grownBy_alloc W _ none
  have hg2 : W1.grownBy W2 (some l) := by rw [← hW2]; exact grownBy_putObj_a _ _ _
  have hl1 : l < W1.heap.size := (Array.getElem?_eq_some_iff.1 hL1).1
  have hv1 : Boxed W1 Bs 54 v := hv.kept hg1 (by simp)
  have hv2 : Boxed W2 Bs 54 v := hv1.kept hg2 (by simpa using hBl)
  have hx1 : W1.heap[W.heap.size]? = some (.cells #[.int .i64 x.1, .int .i64 x.2] 46 (0, 0)) := by rw [← hW1]; exact World.alloc_heap_new W _
  have hx2 : W2.heap[W.heap.size]? = some (.cells #[.int .i64 x.1, .int .i64 x.2] 46 (0, 0)) := (hg2.block _ (Array.getElem?_eq_some_iff.1 hx1).1 (by intro e; injection e with e; omega)).trans hx1
  have hrow1 := hrow.alloc (.cells #[.int .i64 x.1, .int .i64 x.2] 46)
  rw [hW1] at hrow1
  have hrow2 := hrow1.kept hg2 (ownsRow_ne_a hrow1 hL1 (fun cur e => by cases e))
  obtain ⟨hc2, hf2⟩ := cell_of_box_a (show W2.heap[Bs]? = some (.cells #[v] 54 (0, 0)) from hv2)
  have ha2 : W2.cell? ⟨W.heap.size, 0, none⟩ = some (.int .i64 x.1) := by simp [World.cell?, hx2]
  have hb2 : W2.cell? ⟨W.heap.size, 1, none⟩ = some (.int .i64 x.2) := by simp [World.cell?, hx2]
  have hne : (54 : TypeId) ≠ 46 := by decide
  have i46 : (Tryd.prog.info? 46).map (fun i => (i.zero, i.size, i.bytes)) = some (some (.agg #[.int .i64 0, .int .i64 0]), 2, 16) := by kernel_rfl
  obtain ⟨i0, hi, hz0, hz1, hz2⟩ := info_parts i46
  have hb1' : Below w0.heap.size w0 W1 := by rw [← hW1]; exact h.below.alloc h.below.size _
  have hb2' : Below w0.heap.size w0 W2 := hb1'.grown hg2 hb1'.size (fun k e => by cases e; exact h0l)
  gi_wp2_with (first
    | (gi_at_builtin; refine wpListIn_append_own _ rfl _ _ 54 rfl w0.heap.size 46 i0 (.agg #[.int .i64 0, .int .i64 0]) 2 16 Tryd.underlying54 hi hz0 hz1 hz2 rfl (by decide) _ _ _ rfl (hrow2.alloc _) ⟨W2.heap.size, 0, none⟩ 1 1 [.int .i64 x.1, .int .i64 x.2] rfl rfl (new_cells W2 x) (by simp [Value.oneCell']) (by omega) (by omega) (by have := hb2'.size; simp; omega) ?_; intro v' w3 hown' hg3 hnil3
       have hv3 : Boxed w3 Bs 54 v := (hv2.alloc _).kept hg3 (show some Bs ≠ v.ownBlock from hv2.not_row hne hrow2)
       obtain ⟨hc3, hf3⟩ := cell_of_box_a (show w3.heap[Bs]? = some (.cells #[v] 54 (0, 0)) from hv3)
       obtain ⟨g', cap', rfl⟩ := ownsRow_succ hown'
       go_frame)
    | gi_round_op_a)
  have hne' : ∀ {j : Nat} {o : Obj}, W2.heap[j]? = some o → (∀ cur, o ≠ .cells cur 46 (0, 0)) → some j ≠ v.ownBlock := fun hj hno => by
    rcases ownsRow_ne_a hrow2 hj hno with e | e
    · rw [e]; simp
    · exact fun e' => e e'.symm
  have hL2 : W2.heap[l]? = some (.loop { apRec fn sv Bs D .ready none with state := .busy }) := by rw [← hW2]; exact World.putObj_heap_same hl1
  have hK1 : W1.heap[D]? = some (.deferred (some [])) := by rw [← hW1]; exact (Below.heap_alloc _ _ _ hDs).trans h.K
  have hK2 : W2.heap[D]? = some (.deferred (some [])) := by rw [← hW2]; exact (World.putObj_heap_other hDl).trans hK1
  have hg3' : (W2.alloc (.cells #[.int .i64 x.1, .int .i64 x.2] 46)).grownBy w3 v.ownBlock := hg3
  have hl2 : l < W2.heap.size := (Array.getElem?_eq_some_iff.1 hL2).1
  have hDlt : D < W2.heap.size := (Array.getElem?_eq_some_iff.1 hK2).1
  have hL3 : w3.heap[l]? = some (.loop { apRec fn sv Bs D .ready none with state := .busy }) := (hg3'.block l (by simp; omega) (hne' hL2 (fun cur e => by cases e))).trans ((Below.heap_alloc _ _ l hl2).trans hL2)
  have hK3 : w3.heap[D]? = some (.deferred (some [])) := (hg3'.block D (by simp; omega) (hne' hK2 (fun cur e => by cases e))).trans ((Below.heap_alloc _ _ D hDlt).trans hK2)
  have hk2 : KeepsWalks W W2 := by rw [← hW2]; rw [← hW1]; exact (KeepsWalks.alloc _ _).trans (KeepsWalks.putObj _ (by rw [hW1]; exact hL1) rfl)
  obtain ⟨w4, hw4⟩ : ∃ w4, w3.setCell ⟨Bs, 0, none⟩ (.slice (some ⟨g', 0, none⟩) (ss.length + 1) cap') = w4 := ⟨_, rfl⟩
  rw [hw4]
  have hg4 : w3.grownBy w4 (some Bs) := by rw [← hw4]; exact grownBy_setCell0_a _ _ _
  have hv4 : Boxed w4 Bs 54 (.slice (some ⟨g', 0, none⟩) (ss.length + 1) cap') := by rw [← hw4]; exact hv3.set _
  have hL4 : w4.heap[l]? = some (.loop { apRec fn sv Bs D .ready none with state := .busy }) := (hg4.block l (Array.getElem?_eq_some_iff.1 hL3).1 (fun e => hBl (by cases e; rfl))).trans hL3
  have hK4 : w4.heap[D]? = some (.deferred (some [])) := (hg4.block D (Array.getElem?_eq_some_iff.1 hK3).1 (fun e => hDB (by cases e; rfl))).trans hK3
  have hrow4 := hown'.kept hg4 (ownsRow_ne_a hown' (show w3.heap[Bs]? = some (.cells #[v] 54 (0, 0)) from hv3) (fun cur e => hne (Obj.cells.inj e).2.1))
  have hl4 : l < w4.heap.size := (Array.getElem?_eq_some_iff.1 hL4).1
  have hb3 : Below w0.heap.size w0 w3 := (hb2'.alloc hb2'.size _).grown hg3' (by have := hb2'.size; simp; omega) (fun k e => (hrow2.lt k e).1)
  have hb4 : Below w0.heap.size w0 w4 := hb3.grown hg4 hb3.size (fun k e => by cases e; exact h0B)
  have hk4 : KeepsWalks W w4 := ((hk2.trans (KeepsWalks.alloc _ _)).trans (KeepsWalks.of_grownBy hg3' (ownsRow_not_walk_a (hrow2.alloc _)))).trans (by rw [← hw4]; exact KeepsWalks.setCell _ _ _)
  clear hw4
  refine ⟨_, _, run_endRound none hL4, rfl, ⟨⟨_, hv4.kept (grownBy_putObj_a w4 l _) (by simpa using hBl), ?_, by simp⟩, World.putObj_heap_same hl4, (World.putObj_heap_other hDl).trans hK4, hb4.grown (grownBy_putObj_a _ _ _) hb4.size (fun k e => by cases e; exact h0l)⟩, hk4.trans (KeepsWalks.putObj _ hL4 rfl)⟩
  have := hrow4.kept (grownBy_putObj_a w4 l (.loop { { apRec fn sv Bs D .ready none with state := .busy } with state := if (none : Option Code).isNone then .ready else .done, pending := none })) (ownsRow_ne_a hrow4 hL4 (fun cur e => by cases e))
  simpa [List.flatMap_append] using this
end Go.Proofs.YtkjnanfkclijcaaDoor.Am

namespace Go.Proofs.YtkjnanfkclijcaaDoor.Am
open Go Go.Proofs Go.RowKit Go.Maps Go.Sort Go.Shelf Go.ChangeMaps
set_option maxRecDepth 100000
set_option linter.unusedVariables false
set_option maxHeartbeats 2000000 in
theorem appendSeq_nm (F : Fence) (n : Nat) (h11 : F.fn 170) (hro : F.round = none) (hn : 2 ≤ n) (g : Nat) (lb : Array Value) (hFg : F.fn g) (eg : ∀ args w, (callFunc g args).run Tryd.prog w = .ok (.enter g args) w)
    (S : List (Int × Int) → Prop) (N : Nat) (hN : N ≤ maxLen) (hNb : N * 16 ≤ 140737488355328) (w : World) (hseq : SeqGives F (n - 1) Tryd.prog g lb encNm S N w) :
    CallsIn F n Tryd.prog 170 #[.slice none 0 0, .func (.func g) #[] lb] w fun e w' => ∃ (v : Value) (ss : List (Int × Int)), e = .returned v ∧ S ss ∧ w'.ownsRow w.heap.size 46 2 v ss.length (ss.flatMap nmCells) ∧ (v = .slice none 0 0 ↔ ss = []) ∧ Below w.heap.size w w' := by
  have h1 : 1 ≤ n := by omega
  have hne : (54 : TypeId) ≠ 46 := by decide
  have u46 := run_underlying (P := Tryd.prog) Tryd.underlying46
  have u54 := run_underlying (P := Tryd.prog) Tryd.underlying54
  refine callsIn_of_wp_marks Tryd.func170 rfl h11 ?_ hro
  obtain ⟨ap, hap⟩ : ∃ ap, apParts = ap := ⟨_, rfl⟩
  simp only [Tryd.f170, List.size_toArray, List.length_cons, List.length_nil, Nat.reduceAdd, Nat.reduceSub, Array.replicate_succ, Array.replicate_zero, List.push_toArray, List.append_toArray, List.nil_append, List.cons_append]
  gi_wp2
  refine wpIn_rangeFunc ?_
  intro fn hfn
  rw [hro]
  obtain ⟨W0, hW0⟩ : ∃ W0, w.alloc (.cells #[.slice none 0 0] 54) = W0 := ⟨_, rfl⟩
  have hs0 : W0.heap.size = w.heap.size + 1 := by rw [← hW0]; simp
  have hv0 : W0.heap[w.heap.size]? = some (.cells #[.slice none 0 0] 54 (0, 0)) := by rw [← hW0]; exact World.alloc_heap_new w _
  have hb0 : Below w.heap.size w W0 := by rw [← hW0]; exact (Below.refl _ w).alloc (Nat.le_refl _) _
  rw [hW0]
  obtain ⟨W1, hW1⟩ : ∃ W1, (W0.alloc (.deferred (some []))).alloc (.loop (apRec fn (.func (.func g) #[] lb) w.heap.size W0.heap.size .ready none)) = W1 := ⟨_, rfl⟩
  have hold : ∀ k, k < W0.heap.size → W1.heap[k]? = W0.heap[k]? := fun k hk => by
    rw [← hW1]; exact (Below.heap_alloc _ _ k (by simp; omega)).trans (Below.heap_alloc _ _ k hk)
  have hb1 : Below w.heap.size w W1 := by rw [← hW1]; exact (hb0.alloc hb0.size _).alloc (by have := hb0.size; simp; omega) _
  have hs1 : W1.heap.size = W0.heap.size + 2 := by rw [← hW1]; simp
  have hM : ApAt w fn (.func (.func g) #[] lb) w.heap.size (W0.heap.size + 1) W0.heap.size [] W1 :=
    ⟨⟨_, (hold w.heap.size (by omega)).trans hv0, ⟨rfl, .inl ⟨rfl, rfl⟩⟩, by simp⟩,
     by rw [← hW1]; have := World.alloc_heap_new (W0.alloc (.deferred (some []))) (.loop (apRec fn (.func (.func g) #[] lb) w.heap.size W0.heap.size .ready none)); rwa [World.size_alloc] at this,
     by rw [← hW1]; exact (Below.heap_alloc _ _ _ (by simp)).trans (World.alloc_heap_new W0 _), hb1⟩
  refine ⟨W0.heap.size + 1, [{ target := .collected W0.heap.size, args := #[] }], W1, { target := .fn (.func g) lb, args := #[.func (.yield (W0.heap.size + 1)) #[] #[]] }, W1, g,
    #[.func (.yield (W0.heap.size + 1)) #[] #[]] ++ lb, W1, ?_, ?_, ?_, ?_, fun _ => h1, ?_⟩
  · rw [← hW1]; exact run_enterLoop_outer _ _ _ _ _
  · simp [resolve, go_sem]
  · intro f' hf'; simp [Target.leads] at hf'; subst hf'; exact hFg
  · simp [invoke, go_sem, eg]
  · refine (hseq (W0.heap.size + 1) (ApAt w fn (.func (.func g) #[] lb) w.heap.size (W0.heap.size + 1) W0.heap.size) W1 hb1 (ap_abides _ _ _ _ _ _ _ hb1.size)
      (fun pre x W hJ hl => apYield F (n - 1 - 1) w fn hfn _ w.heap.size (W0.heap.size + 1) W0.heap.size (by omega) (by omega) (by omega) (Nat.le_refl _) (by omega) N hN hNb pre x W hJ hl) hM).mono ?_
    rintro e W2 ⟨⟨v0, rfl⟩, ss, hS, h2⟩
    obtain ⟨v, hv, hrow, hnil⟩ := h2.box
    have hend := run_endLoop (P := Tryd.prog) h2.L (by simp [apRec])
    obtain ⟨W3, hW3⟩ : ∃ W3, W2.putObj (W0.heap.size + 1) (.loop { apRec fn (.func (.func g) #[] lb) w.heap.size W0.heap.size .ready none with state := .exhausted }) = W3 := ⟨_, rfl⟩
    rw [hW3] at hend
    have hg3 : W2.grownBy W3 (some (W0.heap.size + 1)) := by rw [← hW3]; exact grownBy_putObj_a _ _ _
    have hv3 : W3.heap[w.heap.size]? = some (.cells #[v] 54 (0, 0)) := by rw [← hW3]; exact (World.putObj_heap_other (by omega)).trans hv
    have hK3 : W3.heap[W0.heap.size]? = some (.deferred (some [])) := by rw [← hW3]; exact (World.putObj_heap_other (by omega)).trans h2.K
    have hrow3 := hrow.kept hg3 (ownsRow_ne_a hrow h2.L (fun cur e => by cases e))
    have hb3 : Below w.heap.size w W3 := h2.below.grown hg3 h2.below.size (fun k e => by cases e; omega)
    obtain ⟨hc3, hf3⟩ := cell_of_box_a hv3
    clear hW3
    refine ⟨none, W3, hend, ?_⟩
    gi_wp2
    rw [← hs0]
    refine ⟨by simp, .inl ⟨_, _, rfl, run_takeDeferred hK3, ?_⟩⟩
    exact ⟨_, results_tmp rfl _ _ _, v, ss, rfl, hS, hrow3.kept (grownBy_putObj_a _ _ _) (ownsRow_ne_a hrow3 hK3 (fun cur e => by cases e)), hnil, hb3.grown (grownBy_putObj_a _ _ _) hb3.size (fun k e => by cases e; omega)⟩
set_option maxHeartbeats 1000000 in
theorem collect_nm (F : Fence) (n : Nat) (h8 : F.fn 141) (h11 : F.fn 170) (hro : F.round = none) (hn : 3 ≤ n) (g : Nat) (lb : Array Value) (hFg : F.fn g) (eg : ∀ args w, (callFunc g args).run Tryd.prog w = .ok (.enter g args) w)
    (S : List (Int × Int) → Prop) (N : Nat) (hN : N ≤ maxLen) (hNb : N * 16 ≤ 140737488355328) (w : World) (hseq : SeqGives F (n - 1 - 1) Tryd.prog g lb encNm S N w) :
    CallsIn F n Tryd.prog 141 #[.func (.func g) #[] lb] w fun e w' => ∃ (v : Value) (ss : List (Int × Int)), e = .returned v ∧ S ss ∧ w'.ownsRow w.heap.size 46 2 v ss.length (ss.flatMap nmCells) ∧ (v = .slice none 0 0 ↔ ss = []) ∧ Below w.heap.size w w' := by
  have h1 : 1 ≤ n := by omega
  have e11 : ∀ args w, (callFunc 170 args).run Tryd.prog w = .ok (.enter 170 args) w := enters_of Tryd.func170 (by kernel_rfl) rfl
  have u46 := run_underlying (P := Tryd.prog) Tryd.underlying46
  have u54 := run_underlying (P := Tryd.prog) Tryd.underlying54
  refine callsIn_of_wp Tryd.func141 rfl h8 ?_ hro
  simp only [Tryd.f141, List.size_toArray, List.length_cons, List.length_nil, Nat.reduceAdd, Nat.reduceSub, Array.replicate_succ, Array.replicate_zero, List.push_toArray, List.append_toArray, List.nil_append, List.cons_append]
  gi_wp2_with (gi_at_fn 170; refine (appendSeq_nm F (n - 1) h11 hro (by omega) g lb hFg eg S N hN hNb _ hseq).mono ?_; rintro e w' ⟨v, ss, rfl, hS, hrow, hnil, hb⟩)
  go_ret
  exact ⟨v, ss, rfl, hS, hrow, hnil, hb⟩
end Go.Proofs.YtkjnanfkclijcaaDoor.Am

namespace Go.Proofs.YtkjnanfkclijcaaDoor.Am
open Go Go.Proofs Go.Shelf
set_option maxRecDepth 100000
def sortNm_ren : Go.Shelf.Ren := ⟨fun | 6 => 142 | 15 => 172 | 14 => 171 | 28 => 186 | 29 => 187 | 20 => 178 | 21 => 179 | 22 => 180 | 23 => 181 | 24 => 182 | 25 => 183 | 26 => 184 | 27 => 185 | 46 => 191 | 47 => 192 | 48 => 193 | 49 => 194 | 50 => 195 | 57 => 201 | n => n, fun | 22 => 54 | 24 => 46 | 25 => 129 | 3 => 3 | 39 => 199 | 0 => 0 | 53 => 216 | 55 => 218 | 4 => 4 | 46 => 209 | 45 => 208 | 50 => 213 | 5 => 5 | 9 => 9 | 66 => 221 | 70 => 225 | 76 => 229 | 77 => 230 | n => n, fun | n => n⟩
theorem sortNm : Go.Proofs.SlLaysF0.n6 Tryd.prog sortNm_ren := {
  mixed := by kernel_rfl
  f6 := ⟨Tryd.f142.name, by decide, Tryd.func142.trans (congrArg some (by kernel_rfl))⟩
  f14 := ⟨Tryd.f171.name, by decide, Tryd.func171.trans (congrArg some (by kernel_rfl))⟩
  f15 := Tryd.func172.trans (congrArg some (by kernel_rfl))
  f20 := ⟨Tryd.f178.name, by decide, Tryd.func178.trans (congrArg some (by kernel_rfl))⟩
  f21 := ⟨Tryd.f179.name, by decide, Tryd.func179.trans (congrArg some (by kernel_rfl))⟩
  f22 := ⟨Tryd.f180.name, by decide, Tryd.func180.trans (congrArg some (by kernel_rfl))⟩
  f23 := ⟨Tryd.f181.name, by decide, Tryd.func181.trans (congrArg some (by kernel_rfl))⟩
  f24 := ⟨Tryd.f182.name, by decide, Tryd.func182.trans (congrArg some (by kernel_rfl))⟩
  f25 := ⟨Tryd.f183.name, by decide, Tryd.func183.trans (congrArg some (by kernel_rfl))⟩
  f26 := ⟨Tryd.f184.name, by decide, Tryd.func184.trans (congrArg some (by kernel_rfl))⟩
  f27 := ⟨Tryd.f185.name, by decide, Tryd.func185.trans (congrArg some (by kernel_rfl))⟩
  f28 := Tryd.func186.trans (congrArg some (by kernel_rfl))
  f29 := Tryd.func187.trans (congrArg some (by kernel_rfl))
  f46 := ⟨Tryd.f191.name, by decide, Tryd.func191.trans (congrArg some (by kernel_rfl))⟩
  f47 := Tryd.func192.trans (congrArg some (by kernel_rfl))
  f48 := Tryd.func193.trans (congrArg some (by kernel_rfl))
  f49 := ⟨Tryd.f194.name, by decide, Tryd.func194.trans (congrArg some (by kernel_rfl))⟩
  f50 := ⟨Tryd.f195.name, by decide, Tryd.func195.trans (congrArg some (by kernel_rfl))⟩
  f57 := ⟨Tryd.f201.name, by decide, Tryd.func201.trans (congrArg some (by kernel_rfl))⟩
  t0 := Tryd.underlying0
  a0 := Tryd.isAgg0
  z0 := Tryd.sizeOf0
  v0 := Tryd.zeroValue0
  t3 := Tryd.underlying3
  a3 := Tryd.isAgg3
  z3 := Tryd.sizeOf3
  v3 := Tryd.zeroValue3
  t4 := Tryd.underlying4
  a4 := Tryd.isAgg4
  z4 := Tryd.sizeOf4
  v4 := Tryd.zeroValue4
  t5 := Tryd.underlying5
  a5 := Tryd.isAgg5
  z5 := Tryd.sizeOf5
  v5 := Tryd.zeroValue5
  t9 := Tryd.underlying9
  a9 := Tryd.isAgg9
  z9 := Tryd.sizeOf9
  v9 := Tryd.zeroValue9
  t22 := Tryd.underlying54
  a22 := Tryd.isAgg54
  z22 := Tryd.sizeOf54
  v22 := Tryd.zeroValue54
  t25 := Tryd.underlying129
  a25 := Tryd.isAgg129
  z25 := Tryd.sizeOf129
  v25 := Tryd.zeroValue129
  t39 := Tryd.underlying199
  a39 := Tryd.isAgg199
  z39 := Tryd.sizeOf199
  v39 := Tryd.zeroValue199
  t45 := Tryd.underlying208
  a45 := Tryd.isAgg208
  z45 := Tryd.sizeOf208
  v45 := Tryd.zeroValue208
  t46 := Tryd.underlying209
  a46 := Tryd.isAgg209
  z46 := Tryd.sizeOf209
  v46 := Tryd.zeroValue209
  t50 := Tryd.underlying213
  a50 := Tryd.isAgg213
  z50 := Tryd.sizeOf213
  v50 := Tryd.zeroValue213
  t53 := Tryd.underlying216
  a53 := Tryd.isAgg216
  z53 := Tryd.sizeOf216
  v53 := Tryd.zeroValue216
  t55 := Tryd.underlying218
  a55 := Tryd.isAgg218
  z55 := Tryd.sizeOf218
  v55 := Tryd.zeroValue218
  t66 := Tryd.underlying221
  a66 := Tryd.isAgg221
  z66 := Tryd.sizeOf221
  v66 := Tryd.zeroValue221
  t70 := Tryd.underlying225
  a70 := Tryd.isAgg225
  z70 := Tryd.sizeOf225
  v70 := Tryd.zeroValue225
  t76 := Tryd.underlying229
  a76 := Tryd.isAgg229
  z76 := Tryd.sizeOf229
  v76 := Tryd.zeroValue229
  t77 := Tryd.underlying230
  a77 := Tryd.isAgg230
  z77 := Tryd.sizeOf230
  v77 := Tryd.zeroValue230 }
def cloneNm_ren : Go.Shelf.Ren := ⟨fun | 5 => 107 | 7 => 144 | n => n, fun | 23 => 126 | 25 => 46 | 3 => 23 | 4 => 4 | 20 => 20 | n => n, fun | n => n⟩
theorem cloneNm : Go.Proofs.SlLaysW.n5 Tryd.prog cloneNm_ren := {
  mixed := by kernel_rfl
  f5 := ⟨Tryd.f107.name, by decide, Tryd.func107.trans (congrArg some (by kernel_rfl))⟩
  f7 := Tryd.func144.trans (congrArg some (by kernel_rfl))
  t4 := Tryd.underlying4
  a4 := Tryd.isAgg4
  z4 := Tryd.sizeOf4
  v4 := Tryd.zeroValue4
  t20 := Tryd.underlying20
  a20 := Tryd.isAgg20
  z20 := Tryd.sizeOf20
  v20 := Tryd.zeroValue20
  t23 := Tryd.underlying126
  a23 := Tryd.isAgg126
  z23 := Tryd.sizeOf126
  v23 := Tryd.zeroValue126 }
end Go.Proofs.YtkjnanfkclijcaaDoor.Am

namespace Go.Proofs.YtkjnanfkclijcaaDoor.Am
open Go Go.Proofs Go.RowKit Go.Maps Go.Sort Go.Shelf Go.ChangeMaps
set_option maxRecDepth 100000
set_option linter.unusedVariables false
theorem ordF_ltOf : ltOf ordF = nless := by
  funext x y
  exact ordF_lt x y
theorem ordF_swo : SWO (ltOf ordF) := by
  rw [ordF_ltOf]
  exact ⟨nless_irrefl, fun _ _ _ h h' => nless_trans h h', fun x y z h h' => by
    simp only [nless, Bool.or_eq_false_iff, Bool.and_eq_false_iff, decide_eq_false_iff_not] at *; omega⟩
theorem flatK_nm (d : Array Nm) : (flatK nmCells 2 d).toList = d.toList.flatMap nmCells := by
  have key : ∀ (l : List Nm) (t : Nat), (l.flatMap nmCells)[t]? = if t < l.length * 2 then some ((nmCells (l[t / 2]?.getD default))[t % 2]!) else none := by
    intro l
    induction l with
    | nil => intro t; simp
    | cons x r ih =>
      intro t
      match t with
      | 0 => simp [nmCells]
      | 1 => simp [nmCells]; omega
      | t + 2 =>
        have h1 : ((x :: r).flatMap nmCells)[t + 2]? = (r.flatMap nmCells)[t]? := by simp [nmCells]
        have h2 : (t + 2) / 2 = t / 2 + 1 := by omega
        have h3 : (t + 2) % 2 = t % 2 := by omega
        rw [h1, ih t, h2, h3]
        simp only [List.length_cons, List.getElem?_cons_succ]
        by_cases h : t < r.length * 2
        · rw [if_pos h, if_pos (by omega)]
        · rw [if_neg h, if_neg (by omega)]
  apply List.ext_getElem?
  intro t
  rw [key]
  unfold flatK
  simp only [Array.toList_map, List.getElem?_map, Array.toList_range, List.getElem?_range]
  by_cases h : t < d.size * 2
  · rw [List.getElem?_range h, if_pos (by simpa using h)]
    simp only [Option.map_some]
    have : d[t / 2]! = d.toList[t / 2]?.getD default := by
      have h' : t / 2 < d.size := by omega
      simp [h']
    rw [this]
  · rw [List.getElem?_eq_none (by simp; omega), if_neg (by simpa using h)]; rfl
theorem holds_nm {w : World} {g : Nat} {cur : Array Value} {e : TypeId} {ss : List Nm} (hb : w.heap[g]? = some (.cells cur e (0, 0))) (ht : cur.toList.take (ss.length * 2) = ss.flatMap nmCells) : HoldsK nmCells 2 w g 0 ss.toArray := by
  intro j hj
  rw [size_flatK] at hj
  have hj' : j < ss.length * 2 := by simpa using hj
  refine ⟨?_, by simp [World.frozen?, hb]⟩
  have h1 : (cur.toList.take (ss.length * 2))[j]? = (ss.flatMap nmCells)[j]? := by rw [ht]
  rw [List.getElem?_take_of_lt hj'] at h1
  have h2 : (ss.flatMap nmCells)[j]? = (flatK nmCells 2 ss.toArray)[j]? := by rw [← Array.getElem?_toList, flatK_nm]
  simp only [World.cell?, hb, Nat.zero_add]
  simp only [Option.isSome_none, Bool.false_eq_true, if_false]
  rw [← Array.getElem?_toList, h1, h2]
  have h3 : j < (flatK nmCells 2 ss.toArray).size := by rw [size_flatK]; simpa using hj'
  rw [Array.getElem?_eq_getElem h3, getElem!_pos _ j h3]; rfl
theorem heap_sortedV {w : World} {g n : Nat} {os : Array Obj} {cur : Array Value} {e : TypeId} {fr : Nat × Nat} (d : Array Value) (hb : w.heap[g]? = some (.cells cur e fr)) :
    (grow (putRow id (Sort.ahead w n) g 0 d) os).heap[g]? = some (.cells (putCells id 0 d cur) e fr) := by
  have hg : g < w.heap.size := (Array.getElem?_eq_some_iff.1 hb).1
  rw [heap_grow_old _ _ (by simpa using hg)]
  simp [putRow, mapBlock, Sort.ahead, Array.getElem?_modify, hb, onCells]
theorem grownBy_sortedV {w : World} {g n : Nat} {os : Array Obj} (d : Array Value) : w.grownBy (grow (putRow id (Sort.ahead w n) g 0 d) os) (some g) := by
  refine ⟨rfl, rfl, rfl, by simp, fun k hk hne => ?_⟩
  rw [heap_grow_old _ _ (by simpa using hk)]
  have : g ≠ k := fun e => hne (by rw [e])
  simp [putRow, mapBlock, Sort.ahead, Array.getElem?_modify, this]
theorem take_putCellsV (cur : Array Value) (ts : Array Value) (h : ts.size ≤ cur.size) : (putCells id 0 ts cur).toList.take ts.size = ts.toList := by
  apply List.ext_getElem?
  intro j
  by_cases hj : j < ts.size
  · rw [List.getElem?_take_of_lt hj, Array.getElem?_toList]
    simp [putCells, hj, show j < cur.size by omega]
  · rw [List.getElem?_take_eq_none (by omega), List.getElem?_eq_none (by simp; omega)]
theorem ownsRow_sortedV {w : World} {base g cap n : Nat} {e : TypeId} {os : Array Obj} {cur : Array Value} {d : Array Nm} {m : Nat} (hl : d.size = m) (hbase : base ≤ g) (hb : w.heap[g]? = some (.cells cur e (0, 0)))
    (h1 : m ≤ cap) (h2 : cap ≤ maxLen) (h3 : cur.size = cap * 2) :
    (sortWorldK nmCells 2 w g 0 n d os).ownsRow base e 2 (.slice (some ⟨g, 0, none⟩) m cap) m (d.toList.flatMap nmCells) := by
  subst hl
  refine ⟨by rw [← flatK_nm]; simp, .inr ⟨g, cap, _, rfl, hbase, heap_sortedV _ hb, h1, h2, by simp [putCells, h3], ?_⟩⟩
  have := take_putCellsV cur (flatK nmCells 2 d) (by rw [size_flatK, h3]; omega)
  rw [size_flatK, flatK_nm] at this
  exact this
theorem sorted_is {d d' : Array Nm} (hp : PermIn 0 d.size d d') (hs : SortedIn (ltOf ordF) 0 d.size d') : d'.toList = sortN d.toList := by
  obtain ⟨h1, _, h2⟩ := hp
  have hp : d'.toList.Perm d.toList := by
    have e1 : d'.extract 0 d.size = d' := by rw [← h1]; exact Array.extract_size
    have e2 : d.extract 0 d.size = d := Array.extract_size
    rw [e1, e2] at h2; exact h2
  refine (sortN_of ?_ hp.symm).symm
  refine List.pairwise_iff_getElem.2 fun i j hi hj hij => ?_
  have hi' : i < d'.size := by simpa using hi
  have hj' : j < d'.size := by simpa using hj
  have := hs i j (Nat.zero_le _) hij (by omega)
  rw [ordF_ltOf, getElem!_pos d' i hi', getElem!_pos d' j hj'] at this
  simpa using this
theorem less_nm (x y : Nm) (W : World) : Calls Tryd.prog 79 #[encNm x, encNm y] W fun e w' => e = .returned (.bool (nless x y)) ∧ ∃ q os', w' = grow (W.drewN q) os' := by
  go_enter Tryd.func79, Tryd.ntmps79
  go_wp2
  all_goals go_ret
  all_goals refine ⟨?_, 0, _, by rw [alloc_eq_grow, alloc_eq_grow, grow_grow]; rfl⟩
  all_goals show Ending.returned (Value.bool _) = Ending.returned (Value.bool _)
  all_goals congr 2
  all_goals simp_all [nless]
theorem cell_grow {w : World} {os : Array Obj} {a : Addr} {v : Value} (h : w.cell? a = some v) (hb : a.block < w.heap.size) : (grow w os).cell? a = some v := by
  have e : (grow w os).heap[a.block]? = w.heap[a.block]? := heap_grow_old _ _ hb
  rw [← h]
  simp only [World.cell?, e]
theorem order_nm (x y : Nm) (W : World) : Calls Tryd.prog 99 #[encNm x, encNm y] W fun e w' => e = .returned (.int .i64 (ordF x y)) ∧ ∃ q os', w' = grow (W.drewN q) os' := by
  have h := less_nm x y
  go_enter Tryd.func99, Tryd.ntmps99
  obtain ⟨W1, hW1⟩ : ∃ W1, (W.alloc (.cells #[.int .i64 x.1, .int .i64 x.2] 46)).alloc (.cells #[.int .i64 y.1, .int .i64 y.2] 46) = W1 := ⟨_, rfl⟩
  have b0 : W.heap.size < W1.heap.size := by rw [← hW1]; simp; omega
  have b1 : W.heap.size + 1 < W1.heap.size := by rw [← hW1]; simp
  have c0 : W1.cell? ⟨W.heap.size, 0, none⟩ = some (.int .i64 x.1) := by rw [← hW1]; simp [go_sem]
  have c1 : W1.cell? ⟨W.heap.size, 1, none⟩ = some (.int .i64 x.2) := by rw [← hW1]; simp [go_sem]
  have c2 : W1.cell? ⟨W.heap.size + 1, 0, none⟩ = some (.int .i64 y.1) := by rw [← hW1]; simp [go_sem]
  have c3 : W1.cell? ⟨W.heap.size + 1, 1, none⟩ = some (.int .i64 y.2) := by rw [← hW1]; simp [go_sem]
  go_wp2_with (go_at_call 79; rw [hW1])
  refine (h _).mono ?_
  rintro e w' ⟨rfl, hE⟩
  have d0 : w'.cell? ⟨W.heap.size, 0, none⟩ = some (.int .i64 x.1) := by obtain ⟨q, os', rfl⟩ := hE; exact cell_grow (w := W1.drewN q) c0 b0
  have d1 : w'.cell? ⟨W.heap.size, 1, none⟩ = some (.int .i64 x.2) := by obtain ⟨q, os', rfl⟩ := hE; exact cell_grow (w := W1.drewN q) c1 b0
  have d2 : w'.cell? ⟨W.heap.size + 1, 0, none⟩ = some (.int .i64 y.1) := by obtain ⟨q, os', rfl⟩ := hE; exact cell_grow (w := W1.drewN q) c2 b1
  have d3 : w'.cell? ⟨W.heap.size + 1, 1, none⟩ = some (.int .i64 y.2) := by obtain ⟨q, os', rfl⟩ := hE; exact cell_grow (w := W1.drewN q) c3 b1
  have hF : ∃ q os', w' = grow (W.drewN q) os' := by
    obtain ⟨q, os', rfl⟩ := hE
    rw [← hW1, alloc_eq_grow, alloc_eq_grow, grow_grow]
    exact ⟨q, _, (grow_grow (W.drewN q) _ os')⟩
  clear hE hW1
  go_wp2
  all_goals go_ret
  all_goals refine ⟨?_, hF⟩
  all_goals show Ending.returned (Value.int .i64 _) = Ending.returned (Value.int .i64 _)
  all_goals congr 2
  all_goals (unfold ordF; simp [*, Prod.ext_iff])
theorem order_lays (blk off size : Nat) (w : World) : CmpLays Tryd.prog 99 #[] nmCells 2 ordF blk off size w :=
  fun _ _ _ _ x y => order_nm x y _
theorem keys_gives_nm (F : Fence) (n : Nat) (h : F.fn 143) (hro : F.round = none) (hn : 1 ≤ n) (Bm b : Nat) (es : Array MapEntry) (clock : Nat) (w : World) (hBm : Bm < w.heap.size)
    (hm : w.cell? ⟨Bm, 0, none⟩ = some (.map (some b))) (hb : w.heap[b]? = some (.map es clock)) (hB : Born es clock) (hk : ∀ e ∈ es.toList, ∃ v : Int × Int, e.key = encNm v) :
    SeqGives F n Tryd.prog 143 #[.pointer (some ⟨Bm, 0, none⟩)] encNm (fun ks => (ks.map encNm).Perm (es.toList.map (·.key))) es.size w := fun l J W hW hJ hY h0 =>
  keys_walk F n h hro hn l Bm b es clock J hY W hJ ((hW.cell (p := ⟨Bm, 0, none⟩) hBm).trans hm) ((hW.block b (Array.getElem?_eq_some_iff.1 hb).1).trans hb) hB h0 hk
set_option maxHeartbeats 1000000 in
theorem sorted_nm (Bm b : Nat) (es : Array MapEntry) (clock : Nat) (w : World) (hBm : Bm < w.heap.size)
    (hm : w.cell? ⟨Bm, 0, none⟩ = some (.map (some b))) (hb : w.heap[b]? = some (.map es clock)) (hB : Born es clock) (hk : ∀ e ∈ es.toList, ∃ v : Int × Int, e.key = encNm v) (hN : es.size ≤ 8796093022208) :
    Calls Tryd.prog 97 #[.func (.func 143) #[] #[.pointer (some ⟨Bm, 0, none⟩)], .func (.func 99) #[] #[]] w fun e w' =>
      ∃ (v : Value) (ns : List Nm), e = .returned v ∧ (ns.map encNm).Perm (es.toList.map (·.key)) ∧ w'.ownsRow w.heap.size 46 2 v ns.length ((sortN ns).flatMap nmCells) ∧ (v = .slice none 0 0 ↔ ns = []) ∧ Below w.heap.size w w' := by
  have ek : ∀ args w, (callFunc 143 args).run Tryd.prog w = .ok (.enter 143 args) w := enters_of Tryd.func143 (by kernel_rfl) rfl
  have eo : ∀ args w, (callFunc 99 args).run Tryd.prog w = .ok (.enter 99 args) w := enters_of Tryd.func99 (by kernel_rfl) rfl
  have hseq := SeqGives.bounded (keys_gives_nm Fence.wide 4 trivial rfl (by omega) Bm b es clock w hBm hm hb hB hk)
  have cC := callsIn_wide.1 (collect_nm Fence.wide 6 trivial trivial rfl (by omega) 143 _ trivial ek _ es.size (by unfold maxLen; omega) (by omega) w hseq)
  have u46 := run_underlying (P := Tryd.prog) Tryd.underlying46
  have u54 := run_underlying (P := Tryd.prog) Tryd.underlying54
  go_enter Tryd.func97, Tryd.ntmps97
  go_wp2_with (go_at_call 141; refine cC.mono ?_; rintro e W ⟨v, ss, rfl, ⟨hS, hlen⟩, hrow, hnil, hb⟩)
  rcases hrow.2 with ⟨rfl, hz⟩ | ⟨gb, cap, cur, rfl, hbase, hgb, r1, r2, r3, r4⟩
  · have hss : ss = [] := List.eq_nil_of_length_eq_zero hz
    subst hss
    refine Calls.mono (show Calls Tryd.prog 142 #[.slice none 0 0, .func (.func 99) #[] #[]] W fun e w' => e = .returned (.tuple #[]) ∧ w' = W from AnyF.slices_SortFunc_none sortNm none 0 _ W) ?_
    rintro e w' ⟨rfl, rfl⟩
    go_wp2
    go_ret
    exact ⟨.slice none 0 0, [], rfl, hS, hrow, by simp, hb⟩
  · have hH : HoldsK nmCells 2 W gb 0 ss.toArray := holds_nm hgb r4
    have hgl : gb < W.heap.size := (Array.getElem?_eq_some_iff.1 hgb).1
    have hsz : ss.toArray.size < 4611686018427387904 := by simp; omega
    have cS := AnyQ.slices_SortFunc sortNm 2 Tryd.isAgg46 Tryd.sizeOf46 nmCells (fun _ => rfl) (fun x v hv => by simp [nmCells] at hv; rcases hv with rfl | rfl <;> rfl) ordF ordF_swo 99 #[] gb 0 cap ss.toArray W eo (order_lays gb 0 _ W) hH hgl hsz
    change Calls Tryd.prog 142 _ _ _ at cS
    rw [List.size_toArray] at cS
    refine cS.mono ?_
    rintro e w' ⟨rfl, d', n, os, hp, hs, rfl⟩
    have hd := sorted_is (d := ss.toArray) (by simpa using hp) (by simpa using hs)
    have hds : d'.size = ss.length := by have := hp.1; simpa using this
    have ho := ownsRow_sortedV (n := n) (os := os) hds hbase hgb r1 r2 r3
    rw [hd] at ho
    have hbel : Below w.heap.size w (sortWorldK nmCells 2 W gb 0 n d' os) := hb.grown (grownBy_sortedV _) hb.size (fun j hj => by cases hj; exact hbase)
    generalize sortWorldK nmCells 2 W gb 0 n d' os = W' at ho hbel
    go_wp2
    go_ret
    exact ⟨_, ss, rfl, hS, ho, hnil, hbel⟩
end Go.Proofs.YtkjnanfkclijcaaDoor.Am

namespace Go.Proofs.YtkjnanfkclijcaaDoor.Am
open Go Go.Proofs Go.RowKit Go.Maps Go.Sort Go.Shelf
set_option maxRecDepth 100000
set_option linter.unusedVariables false
def decNm : Value → Nm
  | .agg a => match a.toList with
    | [Value.int _ x, Value.int _ y] => (x, y)
    | _ => (0, 0)
  | _ => (0, 0)
theorem natSF_ok {cfg : Cfg} (hc : ∀ f, cfg.conc f = f) : NatOk Tryd.prog cfg 97 (natSF 143 99) := by
  intro args σ v σ' h
  rw [hc]
  refine ⟨⟨_, Tryd.func97, by decide, rfl⟩, ?_⟩
  obtain ⟨id, m, ks, ns, rfl, h1, h2, h3, hlen, h4⟩ := natSF_cases h
  intro E κ cargs hσ hR ha r w hw
  subst hσ
  cases ha with
  | cons _ _ _ _ _ a1 a2 =>
  cases a2 with
  | cons _ _ _ _ _ a2 a3 =>
  cases a3
  cases a2 with
  | func _ _ _ _ us us' b1 b2 =>
  cases b1; cases b2
  cases a1 with
  | func _ _ _ _ us us' b1 b2 =>
  cases b1
  cases b2 with
  | cons _ _ _ _ _ b1 b2 =>
  cases b2
  cases b1 with
  | ptr _ _ _ b hp =>
  obtain ⟨⟨_, hpd⟩, rfl⟩ := hp
  obtain ⟨hc1, vs, e, hb1, hvl⟩ := hR.obj id _ h1 hpd
  obtain ⟨cm, rfl, hm⟩ : ∃ cm, vs = #[cm] ∧ κ.V E cfg.conc m cm := by
    obtain ⟨l⟩ := vs
    cases hvl with
    | cons _ _ _ _ _ hv hl => cases hl; exact ⟨_, rfl, hv⟩
  obtain ⟨mb, es, clock, rfl, hmb, hkeys, hB⟩ := keysOf_ok hR hm h2
  have hks := nmsOf_eq h3
  subst hks
  have hke := nms_V hkeys
  have hel : es.size = ns.length := by
    have := congrArg List.length hke
    simpa using this
  obtain ⟨hwh, hwo, hwu⟩ := hw
  have hloc : κ.loc id < w.heap.size := by rw [hwh]; exact hR.hi id (K.live_of h1 hpd)
  have hcell : w.cell? ⟨κ.loc id, 0, none⟩ = some (.map (some mb)) := by rw [cellAt_eq, hwh]; simp [cellAt, hb1]
  have con := sorted_nm (κ.loc id) mb es clock w hloc hcell (by rw [hwh]; exact hmb) hB (fun e he => by
    have : e.key ∈ es.toList.map (·.key) := List.mem_map.2 ⟨e, he, rfl⟩
    rw [hke] at this
    obtain ⟨n, _, hn⟩ := List.mem_map.1 this
    exact ⟨n, hn.symm⟩) (by rw [hel]; exact hlen)
  rw [hc, hc]
  refine Calls.mono con ?_
  rintro e w' ⟨v0, ns', rfl, hperm, hrow, hnil, hbel⟩
  simp only
  have hs : κ.h.size ≤ w'.heap.size := by rw [← hwh]; exact hbel.size
  have hh : ∀ b, b < κ.h.size → w'.heap[b]? = κ.h[b]? := fun b hb => by rw [← hwh]; exact hbel.block b (by rw [hwh]; exact hb)
  have hns : ns'.Perm ns := by
    rw [hke] at hperm
    have h := hperm.map decNm
    have e : ∀ l : List Nm, (l.map encNm).map decNm = l := fun l => by
      rw [List.map_map, show decNm ∘ encNm = _root_.id from funext fun a => rfl, List.map_id]
    have e' : (ns.map fun n => (Value.agg #[.int .i64 n.1, .int .i64 n.2])).map decNm = ns := e ns
    rw [e, e'] at h
    exact h
  rcases h4 with ⟨rfl, rfl, rfl⟩ | ⟨hne, rfl, rfl⟩
  · have e0 : ns' = [] := List.perm_nil.1 hns
    rw [hnil.2 e0]
    exact ⟨κ.more w'.heap, ⟨rfl, hbel.os.trans hwo, hbel.output.trans hwu⟩, rfl, K.more_le hR hs hh, K.more_R hR hs hh, .nilslice _⟩
  · have hso : sortN ns' = sortN ns := up_one (sortN_up _) (sortN_up _) ((sortN_perm _).trans (hns.trans (sortN_perm _).symm))
    have hl' := hns.length_eq
    rcases hrow.2 with ⟨e1, _⟩ | ⟨g, cap, cur, rfl, hg, hgb, c1, c2, c3, c4⟩
    · have := hnil.1 e1
      subst this
      exact (hne (List.nil_perm.1 hns)).elim
    · have htake : cur.toList = (sortN ns).flatMap nmCells ++ cur.toList.drop (ns'.length * 2) := by
        rw [← hso, ← c4, List.take_append_drop]
      obtain ⟨k1, k2⟩ := farArr_ok (es := (sortN ns).map nmV) hR hs hh (by rw [← hwh]; exact hg) hgb htake (by decide) (nms_elems _) (nms_VL _) (by simp [sortN_len]; omega) c3
      refine ⟨_, ⟨rfl, hbel.os.trans hwo, hbel.output.trans hwu⟩, rfl, K.far_le hR hs hh g (by rw [← hwh]; exact hg) _, k1, ?_⟩
      rw [hl']
      simpa [sortN_len] using k2
theorem natMC_ok {cfg : Cfg} (hc : ∀ f, cfg.conc f = f) : NatOk Tryd.prog cfg 107 natMC := by
  intro args σ v σ' h
  rw [hc]
  refine ⟨⟨_, Tryd.func107, by decide, rfl⟩, ?_⟩
  obtain ⟨m, ks, vs, rfl, h1, rfl, rfl⟩ := natMC_cases h
  intro E κ cargs hσ hR ha r w hw
  subst hσ
  cases ha with
  | cons _ _ _ _ _ a1 a2 =>
  cases a2
  obtain ⟨b, es, clock, rfl, hb, hk, hv, hB⟩ := kvOf_ok hR a1 h1
  obtain ⟨hwh, hwo, hwu⟩ := hw
  refine Calls.mono (AnyW.maps_Clone cloneNm b es clock w (by rw [hwh]; exact hb)) ?_
  rintro e w' ⟨rfl, rfl⟩
  simp only
  refine ⟨κ.new (.map es clock) (.map ks vs), ⟨by simp [World.alloc, K.new, hwh], hwo, hwu⟩, by simp [K.new], K.new_le hR _ _,
    K.new_R hR _ _ ⟨es, clock, by simp [K.new], K.VL.le hR.lb (K.new_le hR _ _) hk, K.VL.le hR.lb (K.new_le hR _ _) hv, hB⟩, ?_⟩
  rw [hwh]
  exact .map _ _ _ ⟨⟨⟨ks, vs, by simp [K.new]⟩, hR.fresh⟩, by simp [K.new]⟩
end Go.Proofs.YtkjnanfkclijcaaDoor.Am

namespace Go.Proofs.YtkjnanfkclijcaaDoor.Am.CU
open Go Go.Proofs.YtkjnanfkclijcaaDoor.Am
set_option linter.unusedVariables false
set_option maxRecDepth 100000
set_option maxHeartbeats 4000000
theorem ok12 : FnOk cfg Tryd.prog 12 a12 := ⟨⟨Tryd.f12, _, Tryd.func12, by decide, rfl, rfl, by kernel_rfl, by kernel_rfl⟩⟩
theorem ok18 : FnOk cfg Tryd.prog 18 a18 := ⟨⟨Tryd.f18, _, Tryd.func18, by decide, rfl, rfl, by kernel_rfl, by kernel_rfl⟩⟩
theorem ok36 : FnOk cfg Tryd.prog 36 a36 := ⟨⟨Tryd.f36, _, Tryd.func36, by decide, rfl, rfl, by kernel_rfl, by kernel_rfl⟩⟩
theorem ok37 : FnOk cfg Tryd.prog 37 a37 := ⟨⟨Tryd.f37, _, Tryd.func37, by decide, rfl, rfl, by kernel_rfl, by kernel_rfl⟩⟩
theorem ok38 : FnOk cfg Tryd.prog 38 a38 := ⟨⟨Tryd.f38, _, Tryd.func38, by decide, rfl, rfl, by kernel_rfl, by kernel_rfl⟩⟩
theorem ok39 : FnOk cfg Tryd.prog 39 a39 := ⟨⟨Tryd.f39, _, Tryd.func39, by decide, rfl, rfl, by kernel_rfl, by kernel_rfl⟩⟩
theorem ok40 : FnOk cfg Tryd.prog 40 a40 := ⟨⟨Tryd.f40, _, Tryd.func40, by decide, rfl, rfl, by kernel_rfl, by kernel_rfl⟩⟩
theorem ok43 : FnOk cfg Tryd.prog 43 a43 := ⟨⟨Tryd.f43, _, Tryd.func43, by decide, rfl, rfl, by kernel_rfl, by kernel_rfl⟩⟩
theorem ok48 : FnOk cfg Tryd.prog 48 a48 := ⟨⟨Tryd.f48, _, Tryd.func48, by decide, rfl, rfl, by kernel_rfl, by kernel_rfl⟩⟩
theorem ok50 : FnOk cfg Tryd.prog 50 a50 := ⟨⟨Tryd.f50, _, Tryd.func50, by decide, rfl, rfl, by kernel_rfl, by kernel_rfl⟩⟩
theorem ok52 : FnOk cfg Tryd.prog 52 a52 := ⟨⟨Tryd.f52, _, Tryd.func52, by decide, rfl, rfl, by kernel_rfl, by kernel_rfl⟩⟩
theorem ok60 : FnOk cfg Tryd.prog 60 a60 := ⟨⟨Tryd.f60, _, Tryd.func60, by decide, rfl, rfl, by kernel_rfl, by kernel_rfl⟩⟩
theorem ok66 : FnOk cfg Tryd.prog 66 a66 := ⟨⟨Tryd.f66, _, Tryd.func66, by decide, rfl, rfl, by kernel_rfl, by kernel_rfl⟩⟩
theorem ok78 : FnOk cfg Tryd.prog 78 a78 := ⟨⟨Tryd.f78, _, Tryd.func78, by decide, rfl, rfl, by kernel_rfl, by kernel_rfl⟩⟩
theorem ok79 : FnOk cfg Tryd.prog 79 a79 := ⟨⟨Tryd.f79, _, Tryd.func79, by decide, rfl, rfl, by kernel_rfl, by kernel_rfl⟩⟩
theorem ok80 : FnOk cfg Tryd.prog 80 a80 := ⟨⟨Tryd.f80, _, Tryd.func80, by decide, rfl, rfl, by kernel_rfl, by kernel_rfl⟩⟩
theorem ok90 : FnOk cfg Tryd.prog 90 a90 := ⟨⟨Tryd.f90, _, Tryd.func90, by decide, rfl, rfl, by kernel_rfl, by kernel_rfl⟩⟩
theorem ok97 : FnOk cfg Tryd.prog 97 a97 := ⟨⟨Tryd.f97, _, Tryd.func97, by decide, rfl, rfl, by kernel_rfl, by kernel_rfl⟩⟩
theorem ok98 : FnOk cfg Tryd.prog 98 a98 := ⟨⟨Tryd.f98, _, Tryd.func98, by decide, rfl, rfl, by kernel_rfl, by kernel_rfl⟩⟩
theorem ok99 : FnOk cfg Tryd.prog 99 a99 := ⟨⟨Tryd.f99, _, Tryd.func99, by decide, rfl, rfl, by kernel_rfl, by kernel_rfl⟩⟩
theorem ok100 : FnOk cfg Tryd.prog 100 a100 := ⟨⟨Tryd.f100, _, Tryd.func100, by decide, rfl, rfl, by kernel_rfl, by kernel_rfl⟩⟩
theorem ok101 : FnOk cfg Tryd.prog 101 a101 := ⟨⟨Tryd.f101, _, Tryd.func101, by decide, rfl, rfl, by kernel_rfl, by kernel_rfl⟩⟩
theorem ok102 : FnOk cfg Tryd.prog 102 a102 := ⟨⟨Tryd.f102, _, Tryd.func102, by decide, rfl, rfl, by kernel_rfl, by kernel_rfl⟩⟩
theorem ok106 : FnOk cfg Tryd.prog 106 a106 := ⟨⟨Tryd.f106, _, Tryd.func106, by decide, rfl, rfl, by kernel_rfl, by kernel_rfl⟩⟩
theorem ok107 : FnOk cfg Tryd.prog 107 a107 := ⟨⟨Tryd.f107, _, Tryd.func107, by decide, rfl, rfl, by kernel_rfl, by kernel_rfl⟩⟩
theorem ok113 : FnOk cfg Tryd.prog 113 a113 := ⟨⟨Tryd.f113, _, Tryd.func113, by decide, rfl, rfl, by kernel_rfl, by kernel_rfl⟩⟩
theorem ok114 : FnOk cfg Tryd.prog 114 a114 := ⟨⟨Tryd.f114, _, Tryd.func114, by decide, rfl, rfl, by kernel_rfl, by kernel_rfl⟩⟩
theorem ok115 : FnOk cfg Tryd.prog 115 a115 := ⟨⟨Tryd.f115, _, Tryd.func115, by decide, rfl, rfl, by kernel_rfl, by kernel_rfl⟩⟩
theorem ok116 : FnOk cfg Tryd.prog 116 a116 := ⟨⟨Tryd.f116, _, Tryd.func116, by decide, rfl, rfl, by kernel_rfl, by kernel_rfl⟩⟩
theorem ok124 : FnOk cfg Tryd.prog 124 a124 := ⟨⟨Tryd.f124, _, Tryd.func124, by decide, rfl, rfl, by kernel_rfl, by kernel_rfl⟩⟩
theorem ok137 : FnOk cfg Tryd.prog 137 a137 := ⟨⟨Tryd.f137, _, Tryd.func137, by decide, rfl, rfl, by kernel_rfl, by kernel_rfl⟩⟩
theorem ok141 : FnOk cfg Tryd.prog 141 a141 := ⟨⟨Tryd.f141, _, Tryd.func141, by decide, rfl, rfl, by kernel_rfl, by kernel_rfl⟩⟩
theorem ok142 : FnOk cfg Tryd.prog 142 a142 := ⟨⟨Tryd.f142, _, Tryd.func142, by decide, rfl, rfl, by kernel_rfl, by kernel_rfl⟩⟩
theorem ok143 : FnOk cfg Tryd.prog 143 a143 := ⟨⟨Tryd.f143, _, Tryd.func143, by decide, rfl, rfl, by kernel_rfl, by kernel_rfl⟩⟩
theorem ok151 : FnOk cfg Tryd.prog 151 a151 := ⟨⟨Tryd.f151, _, Tryd.func151, by decide, rfl, rfl, by kernel_rfl, by kernel_rfl⟩⟩
theorem ok152 : FnOk cfg Tryd.prog 152 a152 := ⟨⟨Tryd.f152, _, Tryd.func152, by decide, rfl, rfl, by kernel_rfl, by kernel_rfl⟩⟩
theorem ok153 : FnOk cfg Tryd.prog 153 a153 := ⟨⟨Tryd.f153, _, Tryd.func153, by decide, rfl, rfl, by kernel_rfl, by kernel_rfl⟩⟩
theorem ok154 : FnOk cfg Tryd.prog 154 a154 := ⟨⟨Tryd.f154, _, Tryd.func154, by decide, rfl, rfl, by kernel_rfl, by kernel_rfl⟩⟩
theorem ok155 : FnOk cfg Tryd.prog 155 a155 := ⟨⟨Tryd.f155, _, Tryd.func155, by decide, rfl, rfl, by kernel_rfl, by kernel_rfl⟩⟩
theorem ok156 : FnOk cfg Tryd.prog 156 a156 := ⟨⟨Tryd.f156, _, Tryd.func156, by decide, rfl, rfl, by kernel_rfl, by kernel_rfl⟩⟩
theorem ok157 : FnOk cfg Tryd.prog 157 a157 := ⟨⟨Tryd.f157, _, Tryd.func157, by decide, rfl, rfl, by kernel_rfl, by kernel_rfl⟩⟩
theorem ok158 : FnOk cfg Tryd.prog 158 a158 := ⟨⟨Tryd.f158, _, Tryd.func158, by decide, rfl, rfl, by kernel_rfl, by kernel_rfl⟩⟩
theorem ok159 : FnOk cfg Tryd.prog 159 a159 := ⟨⟨Tryd.f159, _, Tryd.func159, by decide, rfl, rfl, by kernel_rfl, by kernel_rfl⟩⟩
theorem ok160 : FnOk cfg Tryd.prog 160 a160 := ⟨⟨Tryd.f160, _, Tryd.func160, by decide, rfl, rfl, by kernel_rfl, by kernel_rfl⟩⟩
theorem ok170 : FnOk cfg Tryd.prog 170 a170 := ⟨⟨Tryd.f170, _, Tryd.func170, by decide, rfl, rfl, by kernel_rfl, by kernel_rfl⟩⟩
theorem ok171 : FnOk cfg Tryd.prog 171 a171 := ⟨⟨Tryd.f171, _, Tryd.func171, by decide, rfl, rfl, by kernel_rfl, by kernel_rfl⟩⟩
theorem ok172 : FnOk cfg Tryd.prog 172 a172 := ⟨⟨Tryd.f172, _, Tryd.func172, by decide, rfl, rfl, by kernel_rfl, by kernel_rfl⟩⟩
theorem ok173 : FnOk cfg Tryd.prog 173 a173 := ⟨⟨Tryd.f173, _, Tryd.func173, by decide, rfl, rfl, by kernel_rfl, by kernel_rfl⟩⟩
theorem ok178 : FnOk cfg Tryd.prog 178 a178 := ⟨⟨Tryd.f178, _, Tryd.func178, by decide, rfl, rfl, by kernel_rfl, by kernel_rfl⟩⟩
theorem ok179 : FnOk cfg Tryd.prog 179 a179 := ⟨⟨Tryd.f179, _, Tryd.func179, by decide, rfl, rfl, by kernel_rfl, by kernel_rfl⟩⟩
theorem ok180 : FnOk cfg Tryd.prog 180 a180 := ⟨⟨Tryd.f180, _, Tryd.func180, by decide, rfl, rfl, by kernel_rfl, by kernel_rfl⟩⟩
theorem ok181 : FnOk cfg Tryd.prog 181 a181 := ⟨⟨Tryd.f181, _, Tryd.func181, by decide, rfl, rfl, by kernel_rfl, by kernel_rfl⟩⟩
theorem ok182 : FnOk cfg Tryd.prog 182 a182 := ⟨⟨Tryd.f182, _, Tryd.func182, by decide, rfl, rfl, by kernel_rfl, by kernel_rfl⟩⟩
theorem ok183 : FnOk cfg Tryd.prog 183 a183 := ⟨⟨Tryd.f183, _, Tryd.func183, by decide, rfl, rfl, by kernel_rfl, by kernel_rfl⟩⟩
theorem ok184 : FnOk cfg Tryd.prog 184 a184 := ⟨⟨Tryd.f184, _, Tryd.func184, by decide, rfl, rfl, by kernel_rfl, by kernel_rfl⟩⟩
theorem ok185 : FnOk cfg Tryd.prog 185 a185 := ⟨⟨Tryd.f185, _, Tryd.func185, by decide, rfl, rfl, by kernel_rfl, by kernel_rfl⟩⟩
theorem ok186 : FnOk cfg Tryd.prog 186 a186 := ⟨⟨Tryd.f186, _, Tryd.func186, by decide, rfl, rfl, by kernel_rfl, by kernel_rfl⟩⟩
theorem ok187 : FnOk cfg Tryd.prog 187 a187 := ⟨⟨Tryd.f187, _, Tryd.func187, by decide, rfl, rfl, by kernel_rfl, by kernel_rfl⟩⟩
theorem ok191 : FnOk cfg Tryd.prog 191 a191 := ⟨⟨Tryd.f191, _, Tryd.func191, by decide, rfl, rfl, by kernel_rfl, by kernel_rfl⟩⟩
theorem ok192 : FnOk cfg Tryd.prog 192 a192 := ⟨⟨Tryd.f192, _, Tryd.func192, by decide, rfl, rfl, by kernel_rfl, by kernel_rfl⟩⟩
theorem ok193 : FnOk cfg Tryd.prog 193 a193 := ⟨⟨Tryd.f193, _, Tryd.func193, by decide, rfl, rfl, by kernel_rfl, by kernel_rfl⟩⟩
theorem ok194 : FnOk cfg Tryd.prog 194 a194 := ⟨⟨Tryd.f194, _, Tryd.func194, by decide, rfl, rfl, by kernel_rfl, by kernel_rfl⟩⟩
theorem ok195 : FnOk cfg Tryd.prog 195 a195 := ⟨⟨Tryd.f195, _, Tryd.func195, by decide, rfl, rfl, by kernel_rfl, by kernel_rfl⟩⟩
theorem ok201 : FnOk cfg Tryd.prog 201 a201 := ⟨⟨Tryd.f201, _, Tryd.func201, by decide, rfl, rfl, by kernel_rfl, by kernel_rfl⟩⟩
theorem orF_cases {a b : Option AFunc} {x : AFunc} (h : orF a b = some x) : a = some x ∨ b = some x := by
  unfold orF at h
  split at h
  · exact .inl h
  · exact .inr h
theorem fns0 (f : FuncId) (fn : AFunc) (h : ir0 f = some fn) : FnOk cfg Tryd.prog f fn := by
  unfold ir0 at h
  split at h
  · injection h with h; subst h; exact ok12
  · injection h with h; subst h; exact ok18
  · injection h with h; subst h; exact ok36
  · injection h with h; subst h; exact ok37
  · injection h with h; subst h; exact ok38
  · injection h with h; subst h; exact ok39
  · injection h with h; subst h; exact ok40
  · injection h with h; subst h; exact ok43
  · injection h with h; subst h; exact ok48
  · injection h with h; subst h; exact ok50
  · injection h with h; subst h; exact ok52
  · injection h with h; subst h; exact ok60
  · injection h with h; subst h; exact ok66
  · injection h with h; subst h; exact ok78
  · injection h with h; subst h; exact ok79
  · injection h with h; subst h; exact ok80
  · injection h with h; subst h; exact ok90
  · injection h with h; subst h; exact ok97
  · injection h with h; subst h; exact ok98
  · injection h with h; subst h; exact ok99
  · injection h with h; subst h; exact ok100
  · injection h with h; subst h; exact ok101
  · injection h with h; subst h; exact ok102
  · injection h with h; subst h; exact ok106
  · injection h with h; subst h; exact ok107
  · injection h with h; subst h; exact ok113
  · injection h with h; subst h; exact ok114
  · injection h with h; subst h; exact ok115
  · injection h with h; subst h; exact ok116
  · injection h with h; subst h; exact ok124
  · injection h with h; subst h; exact ok137
  · injection h with h; subst h; exact ok141
  · injection h with h; subst h; exact ok142
  · injection h with h; subst h; exact ok143
  · injection h with h; subst h; exact ok151
  · injection h with h; subst h; exact ok152
  · injection h with h; subst h; exact ok153
  · injection h with h; subst h; exact ok154
  · injection h with h; subst h; exact ok155
  · injection h with h; subst h; exact ok156
  · cases h
theorem fns1 (f : FuncId) (fn : AFunc) (h : ir1 f = some fn) : FnOk cfg Tryd.prog f fn := by
  unfold ir1 at h
  split at h
  · injection h with h; subst h; exact ok157
  · injection h with h; subst h; exact ok158
  · injection h with h; subst h; exact ok159
  · injection h with h; subst h; exact ok160
  · injection h with h; subst h; exact ok170
  · injection h with h; subst h; exact ok171
  · injection h with h; subst h; exact ok172
  · injection h with h; subst h; exact ok173
  · injection h with h; subst h; exact ok178
  · injection h with h; subst h; exact ok179
  · injection h with h; subst h; exact ok180
  · injection h with h; subst h; exact ok181
  · injection h with h; subst h; exact ok182
  · injection h with h; subst h; exact ok183
  · injection h with h; subst h; exact ok184
  · injection h with h; subst h; exact ok185
  · injection h with h; subst h; exact ok186
  · injection h with h; subst h; exact ok187
  · injection h with h; subst h; exact ok191
  · injection h with h; subst h; exact ok192
  · injection h with h; subst h; exact ok193
  · injection h with h; subst h; exact ok194
  · injection h with h; subst h; exact ok195
  · injection h with h; subst h; exact ok201
  · cases h
theorem fns : ∀ f fn, cfg.ir f = some fn → FnOk cfg Tryd.prog f fn := by
  intro f fn h
  rcases orF_cases h with h | h
  · exact fns0 f fn h
  exact fns1 f fn h
theorem all : CfgOk Tryd.prog cfg := ⟨fns, by
  intro f g h
  simp only [cfg] at h
  split at h
  · injection h with h; subst h; exact natSF_ok fun _ => rfl
  · injection h with h; subst h; exact natMC_ok fun _ => rfl
  · cases h⟩
end Go.Proofs.YtkjnanfkclijcaaDoor.Am.CU

namespace Go.Proofs.YtkjnanfkclijcaaDoor.Am
open Go
set_option linter.unusedVariables false
set_option linter.unusedSimpArgs false
structure XRows (σ : Store) (lo k sz : Nat) (l : AVal) (xs es : List AVal) (ps : List (List AVal)) : Prop where
  row : Own σ k l xs
  lex : xs.length = es.length
  len : es.length = ps.length
  one : ∀ (i : Nat) (e : AVal) (p : List AVal), es[i]? = some e → ps[i]? = some p → Own σ sz e p
  frs : ∀ (i : Nat) (e : AVal), es[i]? = some e → Fresh lo e
  frl : Fresh lo l
  apart : ∀ (i j : Nat) (e e' : AVal) (id : Nat), es[i]? = some e → es[j]? = some e' → e.sid = some id → e'.sid = some id → i = j
  off : ∀ (i : Nat) (e : AVal) (id : Nat), es[i]? = some e → e.sid = some id → l.sid ≠ some id
  lit : ∀ (i : Nat) (e : AVal), es[i]? = some e → NoLit e
theorem XRows.nil (σ : Store) (lo k sz : Nat) : XRows σ lo k sz .nilslice [] [] [] :=
  ⟨Own.nil _ _, rfl, rfl, fun i e p h => by simp at h, fun i e h => by simp at h, Fresh.nil _, fun i j e e' id h => by simp at h, fun i e id h => by simp at h, fun i e h => by simp at h⟩
theorem XRows.lo {σ : Store} {lo lo' k sz : Nat} {l : AVal} {xs es : List AVal} {ps : List (List AVal)} (h : XRows σ lo k sz l xs es ps) (hl : lo' ≤ lo) : XRows σ lo' k sz l xs es ps :=
  ⟨h.row, h.lex, h.len, h.one, fun i e he => (h.frs i e he).le hl, h.frl.le hl, h.apart, h.off, h.lit⟩
theorem XRows.lt {σ : Store} {lo k sz : Nat} {l : AVal} {xs es : List AVal} {ps : List (List AVal)} (h : XRows σ lo k sz l xs es ps) {i : Nat} {e : AVal} (hi : es[i]? = some e) {id : Nat} (hid : e.sid = some id) : id < σ.length := by
  have hlt := (List.getElem?_eq_some_iff.1 hi).1
  have := h.one i e (ps[i]'(by rw [← h.len]; exact hlt)) hi (List.getElem?_eq_getElem _)
  exact this.sl.lt hid
theorem XRows.grow {σ σ' : Store} {lo k sz : Nat} {l : AVal} {xs es : List AVal} {ps : List (List AVal)} (h : XRows σ lo k sz l xs es ps) (g : Grows σ σ') : XRows σ' lo k sz l xs es ps :=
  ⟨h.row.grow g, h.lex, h.len, fun i e p h1 h2 => (h.one i e p h1 h2).grow g, h.frs, h.frl, h.apart, h.off, h.lit⟩
theorem XRows.keeps {σ σ' : Store} {M : Nat → Prop} {lo k sz : Nat} {l : AVal} {xs es : List AVal} {ps : List (List AVal)} (h : XRows σ lo k sz l xs es ps) (g : Keeps M σ σ') (hm : ∀ i, i < σ.length → lo ≤ i → ¬ M i) : XRows σ' lo k sz l xs es ps :=
  ⟨Own.keeps h.row g fun id hid => hm id (h.row.sl.lt hid) (h.frl id hid), h.lex, h.len, fun i e p h1 h2 => Own.keeps (h.one i e p h1 h2) g fun id hid => hm id (h.lt h1 hid) (h.frs i e h1 id hid), h.frs, h.frl, h.apart, h.off, h.lit⟩
theorem XRows.push {σ σ1 : Store} {lo k sz : Nat} {l : AVal} {xs es : List AVal} {ps : List (List AVal)} (h : XRows σ lo k sz l xs es ps) (hlo : lo ≤ σ.length) (g : Grows σ σ1) {x e : AVal} {p : List AVal} (he : Own σ1 sz e p) (fe : Fresh σ.length e) (le : NoLit e)
    (bytes : Nat) (hb : (es.length + 1) * bytes ≤ 70368744177664) :
    ∃ l' σ2, appendV σ1 k bytes l [x] = some (l', σ2) ∧ XRows σ2 lo k sz l' (xs ++ [x]) (es ++ [e]) (ps ++ [p]) ∧ Keeps (fun i => lo ≤ i) σ1 σ2 := by
  obtain ⟨l', σ2, h1, h2, h3, h4, h5⟩ := (h.row.grow g).append [x] bytes (by rw [h.lex]; exact hb)
  have old : ∀ (i : Nat) (x : AVal), (es ++ [e])[i]? = some x → (es[i]? = some x ∧ i < es.length) ∨ (i = es.length ∧ x = e) := by
    intro i x hx
    rw [List.getElem?_append] at hx
    split at hx
    · rename_i hlt; exact .inl ⟨hx, hlt⟩
    · rename_i hlt
      rw [List.getElem?_singleton] at hx
      split at hx
      · injection hx with hx; exact .inr ⟨by omega, hx.symm⟩
      · cases hx
  have hll : ∀ id, l.sid = some id → id < σ.length := fun id hid => h.row.sl.lt hid
  have hx1 : ∀ (i : Nat) (x : AVal) (id : Nat), (es ++ [e])[i]? = some x → x.sid = some id → id < σ1.length ∧ l.sid ≠ some id := by
    intro i x id hx hid
    rcases old i x hx with ⟨hx, _⟩ | ⟨_, rfl⟩
    · exact ⟨Nat.lt_of_lt_of_le (h.lt hx hid) g.1, h.off i x id hx hid⟩
    · exact ⟨he.sl.lt hid, fun hl => by have := fe id hid; have := hll id hl; omega⟩
  refine ⟨l', σ2, h1, ⟨h2, by simp [h.lex], by simp [h.len], ?_, ?_, ?_, ?_, ?_, ?_⟩, h3.mono fun i hi hs => h.frl i hs⟩
  · intro i x q hx hq
    refine Own.keeps (σ := σ1) ?_ h3 fun id hid => (hx1 i x id hx hid).2
    rcases old i x hx with ⟨hx, hlt⟩ | ⟨rfl, rfl⟩
    · rw [List.getElem?_append_left (by rw [← h.len]; exact hlt)] at hq
      exact (h.one i x q hx hq).grow g
    · rw [h.len, List.getElem?_append_right (Nat.le_refl _), Nat.sub_self] at hq
      simp at hq; subst hq; exact he
  · intro i x hx
    rcases old i x hx with ⟨hx, _⟩ | ⟨_, rfl⟩
    · exact h.frs i x hx
    · exact fe.le hlo
  · intro id hid
    rcases h4 id hid with hh | hh
    · exact h.frl id hh
    · have := g.1; omega
  · intro i j x y id hx hy hxi hyi
    rcases old i x hx with ⟨hx', hil⟩ | ⟨hi, hxe⟩ <;> rcases old j y hy with ⟨hy', hjl⟩ | ⟨hj, hye⟩
    · exact h.apart i j x y id hx' hy' hxi hyi
    · rw [hye] at hyi; have := h.lt hx' hxi; have := fe id hyi; omega
    · rw [hxe] at hxi; have := h.lt hy' hyi; have := fe id hxi; omega
    · omega
  · intro i x id hx hid hl
    obtain ⟨k1, k2⟩ := hx1 i x id hx hid
    rcases h4 id hl with hh | hh
    · exact k2 hh
    · omega
  · intro i x hx
    rcases old i x hx with ⟨hx, _⟩ | ⟨_, rfl⟩
    · exact h.lit i x hx
    · exact le
end Go.Proofs.YtkjnanfkclijcaaDoor.Am

namespace Go.Proofs.YtkjnanfkclijcaaDoor.Am
open Go
set_option linter.unusedVariables false
set_option linter.unusedSimpArgs false
set_option linter.unusedSectionVars false
set_option maxRecDepth 100000
theorem nm_putB (σ : Store) (v : Nm) : storeV (σ ++ [AObj.cells [.int .i64 0, .int .i64 0]]) 2 (.ptr σ.length 0) (nmV v) = some (σ ++ [AObj.cells (nmC v)]) := by
  have h : (σ ++ [AObj.cells [.int .i64 0, .int .i64 0]])[σ.length]? = some (.cells [.int .i64 0, .int .i64 0]) := by simp
  rw [nm_agg, storeN_cells (cs' := nmC v) (n := 2) h rfl rfl rfl, set_last]
def bdVs (R : Hp) (us : List AVal) : List AVal := List.zipWith (fun p u => bdV p.1 u) R us
abbrev BRows (σ : Store) (lo : Nat) (l : AVal) (us : List AVal) (R : Hp) : Prop := XRows σ lo 3 5 l (bdVs R us) us (R.map fun p => CC p.2)
section
variable (d : Nat) (σ : Store)
end
end Go.Proofs.YtkjnanfkclijcaaDoor.Am

namespace Go.Proofs.YtkjnanfkclijcaaDoor.Am
open Go
set_option linter.unusedVariables false
set_option linter.unusedSimpArgs false
set_option linter.unusedSectionVars false
set_option maxRecDepth 100000
def BdSl (σ : Store) (v : AVal) (R : Hp) : Prop := ∃ es, SlOf σ 3 v es ∧ Two (fun e p => ∃ u, e = bdV p.1 u ∧ SlOf σ 5 u (CC p.2)) es R
theorem BdSl.grow {σ σ' : Store} {v : AVal} {R : Hp} (h : BdSl σ v R) (g : Grows σ σ') : BdSl σ' v R := by
  obtain ⟨es, h1, h2⟩ := h
  exact ⟨es, h1.grow g, h2.mono fun e p ⟨u, hu, hs⟩ => ⟨u, hu, hs.grow g⟩⟩
theorem BdSl.len {σ : Store} {v : AVal} {R : Hp} (h : BdSl σ v R) : lenSV v = some R.length := by
  obtain ⟨es, h1, h2⟩ := h
  rw [← h2.len]; exact h1.len
theorem BdSl.at {σ : Store} {v : AVal} {R : Hp} (h : BdSl σ v R) {k : Nat} (hk : k < R.length) : ∃ q0 q2 u, iaddrV 3 v (.int .i64 k) = some (addrOf 3 v k) ∧ faddrV 0 (addrOf 3 v k) = some q0 ∧ loadV σ 2 true q0 = some (nmV R[k].1) ∧ faddrV 2 (addrOf 3 v k) = some q2 ∧ loadV σ 1 false q2 = some u ∧ SlOf σ 5 u (CC R[k].2) := by
  obtain ⟨es, h1, h2⟩ := h
  have hke : k < es.length := by rw [h2.len]; exact hk
  obtain ⟨e, he1, u, he2, he3⟩ := h2.get hk
  have hee : es[k] = e := by rw [List.getElem?_eq_getElem hke] at he1; exact Option.some.inj he1
  have hb := (h1.addr hke .i64).2
  rw [hee, he2] at hb
  have hb' : behind σ (addrOf 3 v k) = some (bdC (R[k]).1 u, 0) := hb
  obtain ⟨q0, p0, b0⟩ := faddr_at hb' 0
  obtain ⟨q2, p2, b2⟩ := faddr_at hb' 2
  exact ⟨q0, q2, u, h1.iaddr hke .i64, p0, loadN_at b0 (by simp [bdC]), p2, load_at b2, he3⟩
section
variable (d : Nat) (σ : Store)
theorem hvalue_ok (hv : AVal) (H : Hp) (v : Nm) (h : HeapV σ hv H) (hs : ((lk H v).getD []).length < 2 ^ 30) : Called CU.cfg d 38 [hv, nmV v] σ fun r σ' => ∃ u, r = .tuple [u, .bool (lk H v).isSome] ∧ Own σ' 5 u (CC ((lk H v).getD [])) ∧ Fresh σ.length u ∧ NoLit u ∧ Grows σ σ' := by
  refine called_of (fn := CU.a38) rfl (Nat.le_of_ble_eq_true rfl) ?_
  simp only [CU.a38]
  simp -dsimp only [↓WPd, ↓wpC_block, ↓wpC_cond, WPu, Bool.false_eq_true, Bool.true_eq_false, Bool.not_true, Bool.not_false, if_true, if_false, ite_true, ite_false, Nat.reduceEqDiff, Nat.reduceLT, true_and, List.map_cons, List.map_nil, Nat.zero_add, Nat.reduceBEq, nm_cells, nm_one]
  have ho : (σ ++ [AObj.cells (nmC v)])[σ.length]? = some (.cells (nmC v)) := by simp
  have g0 : Grows σ (σ ++ [AObj.cells (nmC v)]) := Grows.app _ _
  have h1 := h.grow g0
  generalize σ ++ [AObj.cells (nmC v)] = σ1 at ho g0 h1
  simp -dsimp only [↓WPd, ↓wpC_block, ↓wpC_cond, WPu, Bool.false_eq_true, Bool.true_eq_false, Bool.not_true, Bool.not_false, if_true, if_false, ite_true, ite_false, Nat.reduceEqDiff, Nat.reduceLT, true_and, List.map_cons, List.map_nil, Nat.zero_add, Nat.reduceBEq, load_nm ho]
  refine calledW_of (value_ok d σ1 hv H v h1) ?_
  rintro r σ2 ⟨u, rfl, hu, g2⟩
  simp -dsimp only [↓WPd, ↓wpC_block, ↓wpC_cond, WPu, Bool.false_eq_true, Bool.true_eq_false, Bool.not_true, Bool.not_false, if_true, if_false, ite_true, ite_false, Nat.reduceEqDiff, Nat.reduceLT, true_and, List.map_cons, List.map_nil, Nat.zero_add, Nat.reduceBEq, List.getElem?_cons_zero, List.getElem?_cons_succ]
  refine calledW_of (cclone_ok d σ2 u _ hs (hu σ2)) ?_
  rintro w σ3 ⟨g3, ow, fw, nw⟩
  simp -dsimp only [↓WPd, ↓wpC_block, ↓wpC_cond, WPu, Bool.false_eq_true, Bool.true_eq_false, Bool.not_true, Bool.not_false, if_true, if_false, ite_true, ite_false, Nat.reduceEqDiff, Nat.reduceLT, true_and, List.map_cons, List.map_nil, Nat.zero_add, Nat.reduceBEq]
  exact ⟨w, rfl, ow, fw.le (g0.trans g2).1, nw, (g0.trans g2).trans g3⟩
set_option maxHeartbeats 1000000 in
theorem hchain_ok (hv tv : AVal) (H : Hp) (t : List Cel) (h : HeapV σ hv H) (hw : WF H) (hH : H.length < 2 ^ 30) (ht : SlOf σ 5 tv (CC t)) (hs : t.length < 2 ^ 30) :
    Called CU.cfg d 40 [hv, tv] σ fun r σ' => Grows σ σ' ∧ ∃ es, XRows σ' σ.length 1 5 r es es ((chain H t).map CC) := by
  refine called_of (fn := CU.a40) rfl (Nat.le_of_ble_eq_true rfl) ?_
  have ll := ht.len
  rw [List.length_map] at ll
  simp only [CU.a40]
  have k0 : ((t.length : Int) == 0) = decide (t = []) := by cases t <;> simp <;> omega
  simp -dsimp only [↓WPd, ↓wpC_block, ↓wpC_cond, WPu, Bool.false_eq_true, Bool.true_eq_false, Bool.not_true, Bool.not_false, if_true, if_false, ite_true, ite_false, Nat.reduceEqDiff, Nat.reduceLT, true_and, List.map_cons, List.map_nil, Nat.zero_add, Nat.reduceBEq, ll, k0]
  refine condP_dec (fun h0 => ?_) (fun h0 => ?_)
  · simp -dsimp only [↓WPd, ↓wpC_block, ↓wpC_cond, WPu, Bool.false_eq_true, Bool.true_eq_false, Bool.not_true, Bool.not_false, if_true, if_false, ite_true, ite_false, Nat.reduceEqDiff, Nat.reduceLT, true_and, List.map_cons, List.map_nil, Nat.zero_add, Nat.reduceBEq]
    rw [chain, if_pos h0]
    exact ⟨Keeps.refl _ _, [], XRows.nil _ _ _ _⟩
  · simp -dsimp only [↓WPd, ↓wpC_block, ↓wpC_cond, WPu, Bool.false_eq_true, Bool.true_eq_false, Bool.not_true, Bool.not_false, if_true, if_false, ite_true, ite_false, Nat.reduceEqDiff, Nat.reduceLT, true_and, List.map_cons, List.map_nil, Nat.zero_add, Nat.reduceBEq]
    refine calledW_of (cclone_ok d σ tv t hs ht) ?_
    rintro u0 σ1 ⟨g1, ou, fu, nu⟩
    have e1 : ∀ u : AVal, u.one = true → fillL 1 false (List.replicate 1 (zel [AVal.nilslice] false)) [(0, u)] = some [u] := fun u hu => by
      have hc : u.cells = [u] := by cases u <;> simp_all [AVal.one]
      have h1 : [u].all AVal.one = true := by simp only [List.all_cons, List.all_nil, hu]; rfl
      have h2 : isAggV u = false := by cases u <;> first | (cases hu; done) | rfl
      simp only [fillL, hc, h1, h2]
      rfl
    simp -dsimp only [↓WPd, ↓wpC_block, ↓wpC_cond, WPu, Bool.false_eq_true, Bool.true_eq_false, Bool.not_true, Bool.not_false, if_true, if_false, ite_true, ite_false, Nat.reduceEqDiff, Nat.reduceLT, true_and, List.map_cons, List.map_nil, Nat.zero_add, Nat.reduceBEq, e1 u0 ou.one]
    refine calledW_of (next_ok d σ1 hv tv H t (h.grow g1) (ht.grow g1)) ?_
    rintro r2 σ2 ⟨u, rfl, hu, g2⟩
    simp -dsimp only [↓WPd, ↓wpC_block, ↓wpC_cond, WPu, Bool.false_eq_true, Bool.true_eq_false, Bool.not_true, Bool.not_false, if_true, if_false, ite_true, ite_false, Nat.reduceEqDiff, Nat.reduceLT, true_and, List.map_cons, List.map_nil, Nat.zero_add, Nat.reduceBEq, List.getElem?_cons_zero, List.getElem?_cons_succ]
    have hcr := chain_rank hw h0
    have X0 : XRows σ2 σ.length 1 5 (.fslice (AVal.tagL [u0]) true 1 [u0]) [u0] [u0] ([t].map CC) := by
      have one : ∀ (i : Nat) (e : AVal), ([u0] : List AVal)[i]? = some e → i = 0 ∧ e = u0 := fun i e h => by
        rw [List.getElem?_singleton] at h
        split at h
        · injection h with h; exact ⟨by assumption, h.symm⟩
        · cases h
      refine ⟨Own.lit _ _ _ _, rfl, rfl, fun i e p h1 h2 => ?_, fun i e h1 => ?_, (fun i h => by cases h), fun i j e e' id h1 h2 _ _ => ?_, (fun i e id h1 h2 h3 => by cases h3), fun i e h1 => ?_⟩
      · obtain ⟨rfl, rfl⟩ := one i e h1
        injection h2 with h2; subst h2
        exact ou.grow g2
      · obtain ⟨rfl, rfl⟩ := one i e h1
        exact fu
      · obtain ⟨rfl, -⟩ := one i e h1
        obtain ⟨rfl, -⟩ := one j e' h2
        rfl
      · obtain ⟨rfl, rfl⟩ := one i e h1
        exact nu
    refine loop_rule2 (fun m vs σ' => ∃ (o y : AVal) (s : List Cel) (es : List AVal) (pre : List (List Cel)), m = rank H s ∧ vs = [hv, o, y, .bool (hnext H s).isSome] ∧ Grows σ σ' ∧ Told y ((hnext H s).getD []) ∧ XRows σ' σ.length 1 5 o es es ((pre ++ [s]).map CC) ∧ pre ++ chainF (rank H s) H s = chain H t)
      [5] (fun e vs σ' => e = .exit 0 ∧ ∃ (o : AVal) (es : List AVal), vs = [o] ∧ Grows σ σ' ∧ XRows σ' σ.length 1 5 o es es ((chain H t).map CC)) (rank H t)
      ⟨_, u, t, [u0], [], rfl, ?_, g1.trans g2, hu, X0, by rw [hcr]; rfl⟩ ?_ ?_
    · simp -dsimp only [↓WPd, ↓wpC_block, ↓wpC_cond, WPu, Bool.false_eq_true, Bool.true_eq_false, Bool.not_true, Bool.not_false, if_true, if_false, ite_true, ite_false, Nat.reduceEqDiff, Nat.reduceLT, true_and, List.map_cons, List.map_nil, Nat.zero_add, Nat.reduceBEq]
    · rintro m vs σ' ⟨o, y, s, es, pre, rfl, rfl, g, hy, hx, hch⟩
      cases hn : hnext H s with
      | none =>
        simp -dsimp only [↓WPd, ↓wpC_block, ↓wpC_cond, WPu, Bool.false_eq_true, Bool.true_eq_false, Bool.not_true, Bool.not_false, if_true, if_false, ite_true, ite_false, Nat.reduceEqDiff, Nat.reduceLT, true_and, List.map_cons, List.map_nil, Nat.zero_add, Nat.reduceBEq, hn, Option.isSome_none]
        rw [chainF_none hn] at hch
        rw [← hch]
        exact ⟨o, es, rfl, g, hx⟩
      | some s' =>
        rw [hn] at hy
        simp only [Option.getD_some] at hy
        have hgs : right s' = true := by
          have hn' := hn
          unfold hnext at hn'
          split at hn'
          · exact glob_right (hw.ok _ (lk_mem hn')).2.2.1
          · cases hn'
        have hs' : s'.length < 2 ^ 30 := (right_small hgs).1
        simp -dsimp only [↓WPd, ↓wpC_block, ↓wpC_cond, WPu, Bool.false_eq_true, Bool.true_eq_false, Bool.not_true, Bool.not_false, if_true, if_false, ite_true, ite_false, Nat.reduceEqDiff, Nat.reduceLT, true_and, List.map_cons, List.map_nil, Nat.zero_add, Nat.reduceBEq, hn, Option.isSome_some]
        refine calledW_of (cclone_ok d σ' y s' hs' (hy σ')) ?_
        rintro w σ3 ⟨g3, ow, fw, nw⟩
        have hlen : (pre ++ [s]).length = es.length := by have := hx.len; simpa using this.symm
        have hlc : (chain H t).length ≤ H.length + 2 := by rw [chain, if_neg h0]; exact chainF_len _ _ _
        have hpl : pre.length + 1 ≤ (chain H t).length := by
          have := congrArg List.length hch
          rw [chainF_step hw hn] at this
          simp only [List.length_append, List.length_cons] at this
          omega
        obtain ⟨o', σ4, a1, a2, a3⟩ := hx.push g.1 g3 (x := w) ow fw nw 24 (by simp at hlen; omega)
        have lit1 : ∀ (tg : Nat) (σ : Store) (x : AVal), elems 1 σ (.fslice tg true 1 [x]) = some [x] := fun tg σ x => elems_fs 1 tg true σ [x]
        simp -dsimp only [↓WPd, ↓wpC_block, ↓wpC_cond, WPu, Bool.false_eq_true, Bool.true_eq_false, Bool.not_true, Bool.not_false, if_true, if_false, ite_true, ite_false, Nat.reduceEqDiff, Nat.reduceLT, true_and, List.map_cons, List.map_nil, Nat.zero_add, Nat.reduceBEq, e1 w ow.one, lit1, a1]
        have g4 : Grows σ σ4 := Keeps.trans (g.trans g3) a3 fun i hi e => by omega
        refine calledW_of (next_ok d σ4 hv y H s' (h.grow g4) (hy σ4)) ?_
        rintro r5 σ5 ⟨u5, rfl, hu5, g5⟩
        simp -dsimp only [↓WPd, ↓wpC_block, ↓wpC_cond, WPu, Bool.false_eq_true, Bool.true_eq_false, Bool.not_true, Bool.not_false, if_true, if_false, ite_true, ite_false, Nat.reduceEqDiff, Nat.reduceLT, true_and, List.map_cons, List.map_nil, Nat.zero_add, Nat.reduceBEq, List.getElem?_cons_zero, List.getElem?_cons_succ]
        refine ⟨rank H s', rank_lt hw hn, o', u5, s', es ++ [w], pre ++ [s], rfl, rfl, g4.trans g5, hu5, ?_, ?_⟩
        · simpa using a2.grow g5
        · rw [List.append_assoc, ← hch, chainF_step hw hn]; rfl
    · rintro e σ' env ⟨rfl, o, es, hv, g, hx⟩
      simp only [List.map_cons, List.map_nil, List.cons.injEq, and_true] at hv
      simp -dsimp only [↓WPd, ↓wpC_block, ↓wpC_cond, WPu, Bool.false_eq_true, Bool.true_eq_false, Bool.not_true, Bool.not_false, if_true, if_false, ite_true, ite_false, Nat.reduceEqDiff, Nat.reduceLT, true_and, List.map_cons, List.map_nil, Nat.zero_add, Nat.reduceBEq, hv]
      exact ⟨g, es, hx⟩
end
end Go.Proofs.YtkjnanfkclijcaaDoor.Am

namespace Go.Proofs.YtkjnanfkclijcaaDoor.Am
open Go
set_option linter.unusedVariables false
set_option linter.unusedSimpArgs false
set_option linter.unusedSectionVars false
set_option maxRecDepth 100000
theorem BdArg.all {v : AVal} {bs : Hp} (h : BdArg v bs) {k : Nat} (hk : k < bs.length) : ∃ q0 q2 u, iaddrV 3 v (.int .i64 k) = some (addrOf 3 v k) ∧ faddrV 0 (addrOf 3 v k) = some q0 ∧ (∀ σ, loadV σ 2 true q0 = some (nmV bs[k].1)) ∧ faddrV 2 (addrOf 3 v k) = some q2 ∧ (∀ σ, loadV σ 1 false q2 = some u) ∧ Told u bs[k].2 := by
  obtain ⟨es, h1, h2⟩ := h.row
  have hke : k < es.length := by rw [h2.len]; exact hk
  obtain ⟨e, he1, u, he2, he3⟩ := h2.get hk
  have hee : es[k] = e := by rw [List.getElem?_eq_getElem hke] at he1; exact Option.some.inj he1
  have hb : ∀ σ, behind σ (addrOf 3 v k) = some (bdC (bs[k]).1 u, 0) := fun σ => by
    have hb := ((h1 σ).addr hke .i64).2
    rw [hee, he2] at hb; exact hb
  obtain ⟨q0, p0, -⟩ := faddr_at (hb []) 0
  obtain ⟨q2, p2, -⟩ := faddr_at (hb []) 2
  refine ⟨q0, q2, u, (h1 []).iaddr hke .i64, p0, fun σ => ?_, p2, fun σ => ?_, he3⟩
  · obtain ⟨q, r0, r1⟩ := faddr_at (hb σ) 0
    rw [p0] at r0
    rw [Option.some.inj r0]
    exact loadN_at r1 (by simp [bdC])
  · obtain ⟨q, r0, r1⟩ := faddr_at (hb σ) 2
    rw [p2] at r0
    rw [Option.some.inj r0]
    exact load_at r1
section
variable (d : Nat) (σ : Store)
end
end Go.Proofs.YtkjnanfkclijcaaDoor.Am

namespace Go.Proofs.YtkjnanfkclijcaaDoor.Am
open Go
set_option linter.unusedVariables false
set_option linter.unusedSimpArgs false
end Go.Proofs.YtkjnanfkclijcaaDoor.Am

namespace Go.Proofs.YtkjnanfkclijcaaDoor.Am
open Go
set_option maxRecDepth 100000
theorem live05_ran : (run CU.cfg 300 1 39 [] []).map (fun p => p.1) = some (.bool true) := by kernel_rfl
end Go.Proofs.YtkjnanfkclijcaaDoor.Am

namespace Go.Proofs.YtkjnanfkclijcaaDoor.Am
open Go
set_option linter.unusedVariables false
set_option linter.unusedSimpArgs false
set_option linter.unusedSectionVars false
set_option maxRecDepth 100000
theorem BRows.keeps {σ σ' : Store} {M : Nat → Prop} {lo : Nat} {l : AVal} {us : List AVal} {R : Hp} (h : BRows σ lo l us R) (g : Keeps M σ σ') (hm : ∀ i, i < σ.length → lo ≤ i → ¬ M i) : BRows σ' lo l us R := XRows.keeps h g hm
theorem Told.at {u : AVal} {t : List Cel} (h : Told u t) (σ : Store) : SlOf σ 5 u (CC t) := h σ
end Go.Proofs.YtkjnanfkclijcaaDoor.Am

namespace Go.Proofs.YtkjnanfkclijcaaDoor.Am
open Go
set_option linter.unusedVariables false
set_option linter.unusedSimpArgs false
set_option linter.unusedSectionVars false
set_option maxRecDepth 100000
theorem XRows.at {σ : Store} {lo sz : Nat} {l : AVal} {es : List AVal} {ps : List (List AVal)} (h : XRows σ lo 1 sz l es es ps) {i : Nat} (hi : i < ps.length) :
    ∃ e, es[i]? = some e ∧ iaddrV 1 l (.int .i64 i) = some (addrOf 1 l i) ∧ loadV σ 1 false (addrOf 1 l i) = some e ∧ Own σ sz e ps[i] ∧ NoLit e := by
  have hi' : i < es.length := by rw [h.len]; exact hi
  have o := h.one i es[i] ps[i] (List.getElem?_eq_getElem hi') (List.getElem?_eq_getElem hi)
  exact ⟨es[i], List.getElem?_eq_getElem hi', h.row.sl.iaddr hi' .i64, h.row.sl.load1 hi' o.one 1, o, h.lit i _ (List.getElem?_eq_getElem hi')⟩
end Go.Proofs.YtkjnanfkclijcaaDoor.Am

namespace Go.Proofs.YtkjnanfkclijcaaDoor.Am
open Go
set_option linter.unusedVariables false
set_option linter.unusedSimpArgs false
set_option linter.unusedSectionVars false
set_option maxRecDepth 100000
theorem HeapV.none (σ : Store) : HeapV σ .nilptr [] := .inl ⟨rfl, rfl⟩
section
variable (d : Nat) (σ : Store)
theorem nbind_ok (v : Nm) (tv : AVal) : Called CU.cfg d 37 [.nilptr, nmV v, tv] σ fun r σ' => r = .int .i64 1 ∧ Grows σ σ' := by
  refine called_of (fn := CU.a37) rfl (Nat.le_of_ble_eq_true rfl) ?_
  simp only [CU.a37]
  have e1 : isNil .p .nilptr = some true := rfl
  simp -dsimp only [↓WPd, ↓wpC_block, ↓wpC_cond, WPu, Bool.false_eq_true, Bool.true_eq_false, Bool.not_true, Bool.not_false, if_true, if_false, ite_true, ite_false, Nat.reduceEqDiff, Nat.reduceLT, true_and, List.map_cons, List.map_nil, Nat.zero_add, Nat.reduceBEq, WPm, nm_cells, nm_one, e1]
  exact Grows.app _ _
theorem nresolve_ok (tv : AVal) : Called CU.cfg d 43 [.nilptr, tv] σ fun r σ' => r = .tuple [.nilslice, .int .i64 1] ∧ Grows σ σ' := by
  refine called_of (fn := CU.a43) rfl (Nat.le_of_ble_eq_true rfl) ?_
  simp only [CU.a43]
  have e1 : isNil .p .nilptr = some true := rfl
  simp -dsimp only [↓WPd, ↓wpC_block, ↓wpC_cond, WPu, Bool.false_eq_true, Bool.true_eq_false, Bool.not_true, Bool.not_false, if_true, if_false, ite_true, ite_false, Nat.reduceEqDiff, Nat.reduceLT, true_and, List.map_cons, List.map_nil, Nat.zero_add, Nat.reduceBEq, WPm, e1]
  exact Keeps.refl _ _
theorem nbindings_ok : Called CU.cfg d 36 [.nilptr] σ fun r σ' => r = .nilslice ∧ Grows σ σ' := by
  refine called_of (fn := CU.a36) rfl (Nat.le_of_ble_eq_true rfl) ?_
  simp only [CU.a36]
  have e1 : isNil .p .nilptr = some true := rfl
  simp -dsimp only [↓WPd, ↓wpC_block, ↓wpC_cond, WPu, Bool.false_eq_true, Bool.true_eq_false, Bool.not_true, Bool.not_false, if_true, if_false, ite_true, ite_false, Nat.reduceEqDiff, Nat.reduceLT, true_and, List.map_cons, List.map_nil, Nat.zero_add, Nat.reduceBEq, WPm, e1]
  exact Keeps.refl _ _
theorem nfork_ok : Called CU.cfg d 50 [.nilptr] σ fun r σ' => r = .nilptr ∧ Grows σ σ' := by
  refine called_of (fn := CU.a50) rfl (Nat.le_of_ble_eq_true rfl) ?_
  simp only [CU.a50]
  have e1 : isNil .p .nilptr = some true := rfl
  simp -dsimp only [↓WPd, ↓wpC_block, ↓wpC_cond, WPu, Bool.false_eq_true, Bool.true_eq_false, Bool.not_true, Bool.not_false, if_true, if_false, ite_true, ite_false, Nat.reduceEqDiff, Nat.reduceLT, true_and, List.map_cons, List.map_nil, Nat.zero_add, Nat.reduceBEq, WPm, e1]
  exact Keeps.refl _ _
theorem ndrop_ok (l : AVal) (ws : List Nm) (hl : SlOf σ 2 l (ws.map nmV)) (hw : ws.length < 2 ^ 40) : Called CU.cfg d 52 [.nilptr, l] σ fun r σ' => Grows σ σ' := by
  refine called_of (fn := CU.a52) rfl (Nat.le_of_ble_eq_true rfl) ?_
  simp only [CU.a52]
  have ll : lenSV l = some ws.length := by rw [hl.len]; simp
  have e1 : isNil .p .nilptr = some true := rfl
  simp -dsimp only [↓WPd, ↓wpC_block, ↓wpC_cond, WPu, Bool.false_eq_true, Bool.true_eq_false, Bool.not_true, Bool.not_false, if_true, if_false, ite_true, ite_false, Nat.reduceEqDiff, Nat.reduceLT, true_and, List.map_cons, List.map_nil, Nat.zero_add, Nat.reduceBEq, WPm, ll]
  refine loop_rule2 (fun m vs σ' => ∃ k : Nat, k ≤ ws.length ∧ m = ws.length - k ∧ vs = [.nilptr, l, .int .i64 ws.length, .int .i64 (k : Nat)] ∧ Grows σ σ')
    [] (fun e vs σ' => e = .exit 0 ∧ Grows σ σ') ws.length ⟨0, Nat.zero_le _, rfl, ?_, Keeps.refl _ _⟩ ?_ ?_
  · simp -dsimp only [↓WPd, ↓wpC_block, ↓wpC_cond, WPu, Bool.false_eq_true, Bool.true_eq_false, Bool.not_true, Bool.not_false, if_true, if_false, ite_true, ite_false, Nat.reduceEqDiff, Nat.reduceLT, true_and, List.map_cons, List.map_nil, Nat.zero_add, Nat.reduceBEq]; rfl
  · rintro m vs' σ' ⟨k, hk, rfl, rfl, g⟩
    simp -dsimp only [↓WPd, ↓wpC_block, ↓wpC_cond, WPu, Bool.false_eq_true, Bool.true_eq_false, Bool.not_true, Bool.not_false, if_true, if_false, ite_true, ite_false, Nat.reduceEqDiff, Nat.reduceLT, true_and, List.map_cons, List.map_nil, Nat.zero_add, Nat.reduceBEq]
    refine condP_dec (fun hc => ?_) (fun hc => ?_)
    · have hk' : k < ws.length := by omega
      have hr' := hl.grow g
      have hke : k < (ws.map nmV).length := by simpa using hk'
      have ia : iaddrV 2 l (.int .i64 k) = some (addrOf 2 l k) := hr'.iaddr hke .i64
      have hb := (hr'.addr hke .i64).2
      have hb' : behind σ' (addrOf 2 l k) = some (nmC ws[k], 0) := by rw [hb]; simp only [List.getElem_map, nm_cells]
      have ld : loadV σ' 2 true (addrOf 2 l k) = some (nmV ws[k]) := loadN_at hb' (by simp [nmC])
      simp -dsimp only [↓WPd, ↓wpC_block, ↓wpC_cond, WPu, Bool.false_eq_true, Bool.true_eq_false, Bool.not_true, Bool.not_false, if_true, if_false, ite_true, ite_false, Nat.reduceEqDiff, Nat.reduceLT, true_and, List.map_cons, List.map_nil, Nat.zero_add, Nat.reduceBEq, WPm, ia, ld, nm_putB, e1]
      refine ⟨ws.length - (k + 1), by omega, k + 1, by omega, rfl, by rw [wrap_i64 (by omega) (by omega), Int.natCast_add, Int.natCast_one], g.trans (Grows.app _ _)⟩
    · simp -dsimp only [↓WPd, ↓wpC_block, ↓wpC_cond, WPu, Bool.false_eq_true, Bool.true_eq_false, Bool.not_true, Bool.not_false, if_true, if_false, ite_true, ite_false, Nat.reduceEqDiff, Nat.reduceLT, true_and, List.map_cons, List.map_nil, Nat.zero_add, Nat.reduceBEq]
      exact g
  · rintro e σ' env ⟨rfl, g⟩
    have hr : ∀ s : FS, resultsA [] s = some (.tuple []) := fun _ => rfl
    simp -dsimp only [↓WPd, ↓wpC_block, ↓wpC_cond, WPu, Bool.false_eq_true, Bool.true_eq_false, Bool.not_true, Bool.not_false, if_true, if_false, ite_true, ite_false, Nat.reduceEqDiff, Nat.reduceLT, true_and, List.map_cons, List.map_nil, Nat.zero_add, Nat.reduceBEq, hr]
    exact g
end
set_option maxHeartbeats 1000000 in
theorem none_run (tv : AVal) (v : Nm) (t : List Cel) (ht : Told tv t) (hst : t.length < 2 ^ 30) :
    Called CU.cfg 0 12 [nmV v, tv] [] fun v _ => v = .bool true := by
  refine called_of (fn := CU.a12) rfl (Nat.le_of_ble_eq_true rfl) ?_
  simp only [CU.a12]
  simp -dsimp only [↓WPd, ↓wpC_block, ↓wpC_cond, WPu, Bool.false_eq_true, Bool.true_eq_false, Bool.not_true, Bool.not_false, if_true, if_false, ite_true, ite_false, Nat.reduceEqDiff, Nat.reduceLT, true_and, List.map_cons, List.map_nil, Nat.zero_add, Nat.reduceBEq, WPm, nm_cells, nm_one]
  have ho : (([] : Store) ++ [AObj.cells (nmC v)])[([] : Store).length]? = some (.cells (nmC v)) := by simp
  generalize ([] : Store) ++ [AObj.cells (nmC v)] = σ1 at ho
  generalize ([] : Store).length = i1 at ho
  simp -dsimp only [↓WPd, ↓wpC_block, ↓wpC_cond, WPu, Bool.false_eq_true, Bool.true_eq_false, Bool.not_true, Bool.not_false, if_true, if_false, ite_true, ite_false, Nat.reduceEqDiff, Nat.reduceLT, true_and, List.map_cons, List.map_nil, Nat.zero_add, Nat.reduceBEq, WPm, load_nm ho]
  refine calledW_of (hvalue_ok 0 σ1 .nilptr [] v (HeapV.none _) (by simp [lk])) ?_
  rintro r σ2 ⟨u, rfl, -, -, -, g2⟩
  have hn : (lk [] v).isSome = false := rfl
  simp -dsimp only [↓WPd, ↓wpC_block, ↓wpC_cond, WPu, Bool.false_eq_true, Bool.true_eq_false, Bool.not_true, Bool.not_false, if_true, if_false, ite_true, ite_false, Nat.reduceEqDiff, Nat.reduceLT, true_and, List.map_cons, List.map_nil, Nat.zero_add, Nat.reduceBEq, WPm, List.getElem?_cons_zero, List.getElem?_cons_succ, hn]
  refine calledW_of (hchain_ok 0 σ2 .nilptr tv [] t (HeapV.none _) WF.nil (by simp) (ht σ2) hst) ?_
  rintro l σ3 ⟨g3, es, hl⟩
  have ho3 := (g2.trans g3).get ho
  have hc : chain [] t = if t = [] then [] else [t] := by simp [chain, chainF, hnext, lk]
  rw [hc] at hl
  have lit : fillL 2 true (List.replicate 1 (zel [AVal.int IntKind.i64 0, AVal.int IntKind.i64 0] true)) [(0, nmV v)] = some [nmV v] := rfl
  simp -dsimp only [↓WPd, ↓wpC_block, ↓wpC_cond, WPu, Bool.false_eq_true, Bool.true_eq_false, Bool.not_true, Bool.not_false, if_true, if_false, ite_true, ite_false, Nat.reduceEqDiff, Nat.reduceLT, true_and, List.map_cons, List.map_nil, Nat.zero_add, Nat.reduceBEq, WPm, load_nm ho3, lit]
  refine calledW_of (ndrop_ok 0 σ3 _ [v] (SlOf.fs _ _ _ _ _) (by simp)) ?_
  rintro r4 σ4 g4
  simp -dsimp only [↓WPd, ↓wpC_block, ↓wpC_cond, WPu, Bool.false_eq_true, Bool.true_eq_false, Bool.not_true, Bool.not_false, if_true, if_false, ite_true, ite_false, Nat.reduceEqDiff, Nat.reduceLT, true_and, List.map_cons, List.map_nil, Nat.zero_add, Nat.reduceBEq, WPm]
  refine calledW_of (nresolve_ok 0 σ4 tv) ?_
  rintro r5 σ5 ⟨rfl, g5⟩
  have ho5 := (g4.trans g5).get ho3
  simp -dsimp only [↓WPd, ↓wpC_block, ↓wpC_cond, WPu, Bool.false_eq_true, Bool.true_eq_false, Bool.not_true, Bool.not_false, if_true, if_false, ite_true, ite_false, Nat.reduceEqDiff, Nat.reduceLT, true_and, List.map_cons, List.map_nil, Nat.zero_add, Nat.reduceBEq, WPm, List.getElem?_cons_zero, List.getElem?_cons_succ]
  refine isoW_bool live05_ran ?_
  simp -dsimp only [↓WPd, ↓wpC_block, ↓wpC_cond, WPu, Bool.false_eq_true, Bool.true_eq_false, Bool.not_true, Bool.not_false, if_true, if_false, ite_true, ite_false, Nat.reduceEqDiff, Nat.reduceLT, true_and, List.map_cons, List.map_nil, Nat.zero_add, Nat.reduceBEq, WPm, load_nm ho5]
  refine calledW_of (nbind_ok 0 σ5 v tv) ?_
  rintro r6 σ6 ⟨rfl, g6⟩
  have e1 : ((1 : Int) == 1) = true := rfl
  simp -dsimp only [↓WPd, ↓wpC_block, ↓wpC_cond, WPu, Bool.false_eq_true, Bool.true_eq_false, Bool.not_true, Bool.not_false, if_true, if_false, ite_true, ite_false, Nat.reduceEqDiff, Nat.reduceLT, true_and, List.map_cons, List.map_nil, Nat.zero_add, Nat.reduceBEq, WPm, e1]
  refine calledW_of (nbindings_ok 0 σ6) ?_
  rintro r7 σ7 ⟨rfl, g7⟩
  have e0 : (((0 : Nat) : Int) == 0) = true := rfl
  have l0 : lenSV .nilslice = some 0 := rfl
  simp -dsimp only [↓WPd, ↓wpC_block, ↓wpC_cond, WPu, Bool.false_eq_true, Bool.true_eq_false, Bool.not_true, Bool.not_false, if_true, if_false, ite_true, ite_false, Nat.reduceEqDiff, Nat.reduceLT, true_and, List.map_cons, List.map_nil, Nat.zero_add, Nat.reduceBEq, WPm, e1, e0, l0]
  refine calledW_of (nfork_ok 0 σ7) ?_
  rintro r8 σ8 ⟨rfl, g8⟩
  have n1 : isNil .p .nilptr = some true := rfl
  have lt := (ht σ8).len
  rw [List.length_map] at lt
  have k0 : ((t.length : Int) == 0) = decide (t = []) := by cases t <;> simp <;> omega
  simp -dsimp only [↓WPd, ↓wpC_block, ↓wpC_cond, WPu, Bool.false_eq_true, Bool.true_eq_false, Bool.not_true, Bool.not_false, if_true, if_false, ite_true, ite_false, Nat.reduceEqDiff, Nat.reduceLT, true_and, List.map_cons, List.map_nil, Nat.zero_add, Nat.reduceBEq, WPm, e1, e0, n1, lt, k0]
  cases h0 : decide (t = []) with
  | true =>
    simp -dsimp only [↓WPd, ↓wpC_block, ↓wpC_cond, WPu, Bool.false_eq_true, Bool.true_eq_false, Bool.not_true, Bool.not_false, if_true, if_false, ite_true, ite_false, Nat.reduceEqDiff, Nat.reduceLT, true_and, List.map_cons, List.map_nil, Nat.zero_add, Nat.reduceBEq, WPm, e1, e0, n1, lt, k0, h0]
  | false =>
    rw [if_neg (of_decide_eq_false h0)] at hl
    have ll : lenSV l = some 1 := by have := hl.row.sl.len; have h' := hl.len; rw [this, h']; rfl
    have e2 : (((1 : Nat) : Int) == 1) = true := rfl
    simp -dsimp only [↓WPd, ↓wpC_block, ↓wpC_cond, WPu, Bool.false_eq_true, Bool.true_eq_false, Bool.not_true, Bool.not_false, if_true, if_false, ite_true, ite_false, Nat.reduceEqDiff, Nat.reduceLT, true_and, List.map_cons, List.map_nil, Nat.zero_add, Nat.reduceBEq, WPm, e1, e0, n1, lt, k0, h0, ll, e2]
    have hd : deref [] t = t := by simp [deref, follow, hnext, lk]
    refine calledW_of (hderef_ok 0 σ8 .nilptr tv [] t (HeapV.none _) (ht σ8) (by rw [hd]; exact hst)) ?_
    rintro u σ9 ⟨g9, ou, -, -⟩
    rw [hd] at ou
    simp -dsimp only [↓WPd, ↓wpC_block, ↓wpC_cond, WPu, Bool.false_eq_true, Bool.true_eq_false, Bool.not_true, Bool.not_false, if_true, if_false, ite_true, ite_false, Nat.reduceEqDiff, Nat.reduceLT, true_and, List.map_cons, List.map_nil, Nat.zero_add, Nat.reduceBEq, WPm, e1, e0, n1, lt, k0, h0, ll, e2]
    refine calledW_of (cequal_ok 0 σ9 u tv t t (by omega) ou.sl (ht σ9)) ?_
    rintro r10 σ10 ⟨rfl, rfl⟩
    simp -dsimp only [↓WPd, ↓wpC_block, ↓wpC_cond, WPu, Bool.false_eq_true, Bool.true_eq_false, Bool.not_true, Bool.not_false, if_true, if_false, ite_true, ite_false, Nat.reduceEqDiff, Nat.reduceLT, true_and, List.map_cons, List.map_nil, Nat.zero_add, Nat.reduceBEq, WPm, e1, e0, n1, lt, k0, h0, ll, e2, decide_true]
end Go.Proofs.YtkjnanfkclijcaaDoor.Am

