/-
  The abstract machine and the functions of the law, 5: texts put together.
-/
import Derived.Test.YtkjnanfkclijcaaDoorHeapPlaysPkD
import Derived.Shelf.SlSortCmp.WholeK
import Derived.Shelf.SlMaps.Clone
import Derived.Test.YtkjnanfkclijcaaDoorProg
import Derived.Test.YtkjnanfkclijcaaDoorHeapPlaysPkC
import Derived.Shelf.SlSortCmp.NoneTotal
import Derived.RangeFuncBound
namespace Go.Proofs.YtkjnanfkclijcaaDoor.Am
open Go Go.Proofs Go.RowKit Go.Maps Go.Sort Go.Shelf Go.ChangeMaps
set_option maxRecDepth 100000
set_option linter.unusedVariables false
set_option maxHeartbeats 2000000 in
theorem appendSeq_nm (F : Fence) (n : Nat) (h11 : F.fn 170) (hro : F.round = none) (hn : 2 ≤ n) (g : Nat) (lb : Array Value) (hFg : F.fn g) (eg : ∀ args w, (callFunc g args).run Tryd.prog w = .ok (.enter g args) w)
    (S : List (Int × Int) → Prop) (N : Nat) (hN : N ≤ maxLen) (hNb : N * 16 ≤ 140737488355328) (w : World) (hseq : SeqGives F (n - 1) Tryd.prog g lb encNm S N w) :
    CallsIn F n Tryd.prog 170 #[.slice none 0 0, .func (.func g) #[] lb] w fun e w' => ∃ (v : Value) (ss : List (Int × Int)), e = .returned v ∧ S ss ∧ w'.ownsRow w.heap.size 46 2 v ss.length (ss.flatMap nmCells) ∧ (v = .slice none 0 0 ↔ ss = []) ∧ Below w.heap.size w w' := by
  have h1 : 1 ≤ n := by omega
  have hne : (54 : TypeId) ≠ 46 := by decide
  have u46 := run_underlying (P := Tryd.prog) Tryd.underlying46
  have u54 := run_underlying (P := Tryd.prog) Tryd.underlying54
  refine callsIn_of_wp_marks Tryd.func170 rfl h11 ?_ hro
  obtain ⟨ap, hap⟩ : ∃ ap, apParts = ap := ⟨_, rfl⟩
  simp only [Tryd.f170, List.size_toArray, List.length_cons, List.length_nil, Nat.reduceAdd, Nat.reduceSub, Array.replicate_succ, Array.replicate_zero, List.push_toArray, List.append_toArray, List.nil_append, List.cons_append]
  gi_wp2
  refine wpIn_rangeFunc ?_
  intro fn hfn
  rw [hro]
  obtain ⟨W0, hW0⟩ : ∃ W0, w.alloc (.cells #[.slice none 0 0] 54) = W0 := ⟨_, rfl⟩
  have hs0 : W0.heap.size = w.heap.size + 1 := by rw [← hW0]; simp
  have hv0 : W0.heap[w.heap.size]? = some (.cells #[.slice none 0 0] 54 (0, 0)) := by rw [← hW0]; exact World.alloc_heap_new w _
  have hb0 : Below w.heap.size w W0 := by rw [← hW0]; exact (Below.refl _ w).alloc (Nat.le_refl _) _
  rw [hW0]
  obtain ⟨W1, hW1⟩ : ∃ W1, (W0.alloc (.deferred (some []))).alloc (.loop (apRec fn (.func (.func g) #[] lb) w.heap.size W0.heap.size .ready none)) = W1 := ⟨_, rfl⟩
  have hold : ∀ k, k < W0.heap.size → W1.heap[k]? = W0.heap[k]? := fun k hk => by
    rw [← hW1]; exact (Below.heap_alloc _ _ k (by simp; omega)).trans (Below.heap_alloc _ _ k hk)
  have hb1 : Below w.heap.size w W1 := by rw [← hW1]; exact (hb0.alloc hb0.size _).alloc (by have := hb0.size; simp; omega) _
  have hs1 : W1.heap.size = W0.heap.size + 2 := by rw [← hW1]; simp
  have hM : ApAt w fn (.func (.func g) #[] lb) w.heap.size (W0.heap.size + 1) W0.heap.size [] W1 :=
    ⟨⟨_, (hold w.heap.size (by omega)).trans hv0, ⟨rfl, .inl ⟨rfl, rfl⟩⟩, by simp⟩,
     by rw [← hW1]; have := World.alloc_heap_new (W0.alloc (.deferred (some []))) (.loop (apRec fn (.func (.func g) #[] lb) w.heap.size W0.heap.size .ready none)); rwa [World.size_alloc] at this,
     by rw [← hW1]; exact (Below.heap_alloc _ _ _ (by simp)).trans (World.alloc_heap_new W0 _), hb1⟩
  refine ⟨W0.heap.size + 1, [{ target := .collected W0.heap.size, args := #[] }], W1, { target := .fn (.func g) lb, args := #[.func (.yield (W0.heap.size + 1)) #[] #[]] }, W1, g,
    #[.func (.yield (W0.heap.size + 1)) #[] #[]] ++ lb, W1, ?_, ?_, ?_, ?_, fun _ => h1, ?_⟩
  · rw [← hW1]; exact run_enterLoop_outer _ _ _ _ _
  · simp [resolve, go_sem]
  · intro f' hf'; simp [Target.leads] at hf'; subst hf'; exact hFg
  · simp [invoke, go_sem, eg]
  · refine (hseq (W0.heap.size + 1) (ApAt w fn (.func (.func g) #[] lb) w.heap.size (W0.heap.size + 1) W0.heap.size) W1 hb1 (ap_abides _ _ _ _ _ _ _ hb1.size)
      (fun pre x W hJ hl => apYield F (n - 1 - 1) w fn hfn _ w.heap.size (W0.heap.size + 1) W0.heap.size (by omega) (by omega) (by omega) (Nat.le_refl _) (by omega) N hN hNb pre x W hJ hl) hM).mono ?_
    rintro e W2 ⟨⟨v0, rfl⟩, ss, hS, h2⟩
    obtain ⟨v, hv, hrow, hnil⟩ := h2.box
    have hend := run_endLoop (P := Tryd.prog) h2.L (by simp [apRec])
    obtain ⟨W3, hW3⟩ : ∃ W3, W2.putObj (W0.heap.size + 1) (.loop { apRec fn (.func (.func g) #[] lb) w.heap.size W0.heap.size .ready none with state := .exhausted }) = W3 := ⟨_, rfl⟩
    rw [hW3] at hend
    have hg3 : W2.grownBy W3 (some (W0.heap.size + 1)) := by rw [← hW3]; exact grownBy_putObj_a _ _ _
    have hv3 : W3.heap[w.heap.size]? = some (.cells #[v] 54 (0, 0)) := by rw [← hW3]; exact (World.putObj_heap_other (by omega)).trans hv
    have hK3 : W3.heap[W0.heap.size]? = some (.deferred (some [])) := by rw [← hW3]; exact (World.putObj_heap_other (by omega)).trans h2.K
    have hrow3 := hrow.kept hg3 (ownsRow_ne_a hrow h2.L (fun cur e => by cases e))
    have hb3 : Below w.heap.size w W3 := h2.below.grown hg3 h2.below.size (fun k e => by cases e; omega)
    obtain ⟨hc3, hf3⟩ := cell_of_box_a hv3
    clear hW3
    refine ⟨none, W3, hend, ?_⟩
    gi_wp2
    rw [← hs0]
    refine ⟨by simp, .inl ⟨_, _, rfl, run_takeDeferred hK3, ?_⟩⟩
    exact ⟨_, results_tmp rfl _ _ _, v, ss, rfl, hS, hrow3.kept (grownBy_putObj_a _ _ _) (ownsRow_ne_a hrow3 hK3 (fun cur e => by cases e)), hnil, hb3.grown (grownBy_putObj_a _ _ _) hb3.size (fun k e => by cases e; omega)⟩
set_option maxHeartbeats 1000000 in
theorem collect_nm (F : Fence) (n : Nat) (h8 : F.fn 141) (h11 : F.fn 170) (hro : F.round = none) (hn : 3 ≤ n) (g : Nat) (lb : Array Value) (hFg : F.fn g) (eg : ∀ args w, (callFunc g args).run Tryd.prog w = .ok (.enter g args) w)
    (S : List (Int × Int) → Prop) (N : Nat) (hN : N ≤ maxLen) (hNb : N * 16 ≤ 140737488355328) (w : World) (hseq : SeqGives F (n - 1 - 1) Tryd.prog g lb encNm S N w) :
    CallsIn F n Tryd.prog 141 #[.func (.func g) #[] lb] w fun e w' => ∃ (v : Value) (ss : List (Int × Int)), e = .returned v ∧ S ss ∧ w'.ownsRow w.heap.size 46 2 v ss.length (ss.flatMap nmCells) ∧ (v = .slice none 0 0 ↔ ss = []) ∧ Below w.heap.size w w' := by
  have h1 : 1 ≤ n := by omega
  have e11 : ∀ args w, (callFunc 170 args).run Tryd.prog w = .ok (.enter 170 args) w := enters_of Tryd.func170 (by kernel_rfl) rfl
  have u46 := run_underlying (P := Tryd.prog) Tryd.underlying46
  have u54 := run_underlying (P := Tryd.prog) Tryd.underlying54
  refine callsIn_of_wp Tryd.func141 rfl h8 ?_ hro
  simp only [Tryd.f141, List.size_toArray, List.length_cons, List.length_nil, Nat.reduceAdd, Nat.reduceSub, Array.replicate_succ, Array.replicate_zero, List.push_toArray, List.append_toArray, List.nil_append, List.cons_append]
  gi_wp2_with (gi_at_fn 170; refine (appendSeq_nm F (n - 1) h11 hro (by omega) g lb hFg eg S N hN hNb _ hseq).mono ?_; rintro e w' ⟨v, ss, rfl, hS, hrow, hnil, hb⟩)
  go_ret
  exact ⟨v, ss, rfl, hS, hrow, hnil, hb⟩
end Go.Proofs.YtkjnanfkclijcaaDoor.Am

namespace Go.Proofs.YtkjnanfkclijcaaDoor.Am
open Go Go.Proofs Go.Shelf
set_option maxRecDepth 100000
def sortNm_ren : Go.Shelf.Ren := ⟨fun | 6 => 142 | 15 => 172 | 14 => 171 | 28 => 186 | 29 => 187 | 20 => 178 | 21 => 179 | 22 => 180 | 23 => 181 | 24 => 182 | 25 => 183 | 26 => 184 | 27 => 185 | 46 => 191 | 47 => 192 | 48 => 193 | 49 => 194 | 50 => 195 | 57 => 201 | n => n, fun | 22 => 54 | 24 => 46 | 25 => 129 | 3 => 3 | 39 => 199 | 0 => 0 | 53 => 216 | 55 => 218 | 4 => 4 | 46 => 209 | 45 => 208 | 50 => 213 | 5 => 5 | 9 => 9 | 66 => 221 | 70 => 225 | 76 => 229 | 77 => 230 | n => n, fun | n => n⟩
theorem sortNm : Go.Proofs.SlLaysF0.n6 Tryd.prog sortNm_ren := {
  mixed := by kernel_rfl
  f6 := ⟨Tryd.f142.name, by decide, Tryd.func142.trans (congrArg some (by kernel_rfl))⟩
  f14 := ⟨Tryd.f171.name, by decide, Tryd.func171.trans (congrArg some (by kernel_rfl))⟩
  f15 := Tryd.func172.trans (congrArg some (by kernel_rfl))
  f20 := ⟨Tryd.f178.name, by decide, Tryd.func178.trans (congrArg some (by kernel_rfl))⟩
  f21 := ⟨Tryd.f179.name, by decide, Tryd.func179.trans (congrArg some (by kernel_rfl))⟩
  f22 := ⟨Tryd.f180.name, by decide, Tryd.func180.trans (congrArg some (by kernel_rfl))⟩
  f23 := ⟨Tryd.f181.name, by decide, Tryd.func181.trans (congrArg some (by kernel_rfl))⟩
  f24 := ⟨Tryd.f182.name, by decide, Tryd.func182.trans (congrArg some (by kernel_rfl))⟩
  f25 := ⟨Tryd.f183.name, by decide, Tryd.func183.trans (congrArg some (by kernel_rfl))⟩
  f26 := ⟨Tryd.f184.name, by decide, Tryd.func184.trans (congrArg some (by kernel_rfl))⟩
  f27 := ⟨Tryd.f185.name, by decide, Tryd.func185.trans (congrArg some (by kernel_rfl))⟩
  f28 := Tryd.func186.trans (congrArg some (by kernel_rfl))
  f29 := Tryd.func187.trans (congrArg some (by kernel_rfl))
  f46 := ⟨Tryd.f191.name, by decide, Tryd.func191.trans (congrArg some (by kernel_rfl))⟩
  f47 := Tryd.func192.trans (congrArg some (by kernel_rfl))
  f48 := Tryd.func193.trans (congrArg some (by kernel_rfl))
  f49 := ⟨Tryd.f194.name, by decide, Tryd.func194.trans (congrArg some (by kernel_rfl))⟩
  f50 := ⟨Tryd.f195.name, by decide, Tryd.func195.trans (congrArg some (by kernel_rfl))⟩
  f57 := ⟨Tryd.f201.name, by decide, Tryd.func201.trans (congrArg some (by kernel_rfl))⟩
  t0 := Tryd.underlying0
  a0 := Tryd.isAgg0
  z0 := Tryd.sizeOf0
  v0 := Tryd.zeroValue0
  t3 := Tryd.underlying3
  a3 := Tryd.isAgg3
  z3 := Tryd.sizeOf3
  v3 := Tryd.zeroValue3
  t4 := Tryd.underlying4
  a4 := Tryd.isAgg4
  z4 := Tryd.sizeOf4
  v4 := Tryd.zeroValue4
  t5 := Tryd.underlying5
  a5 := Tryd.isAgg5
  z5 := Tryd.sizeOf5
  v5 := Tryd.zeroValue5
  t9 := Tryd.underlying9
  a9 := Tryd.isAgg9
  z9 := Tryd.sizeOf9
  v9 := Tryd.zeroValue9
  t22 := Tryd.underlying54
  a22 := Tryd.isAgg54
  z22 := Tryd.sizeOf54
  v22 := Tryd.zeroValue54
  t25 := Tryd.underlying129
  a25 := Tryd.isAgg129
  z25 := Tryd.sizeOf129
  v25 := Tryd.zeroValue129
  t39 := Tryd.underlying199
  a39 := Tryd.isAgg199
  z39 := Tryd.sizeOf199
  v39 := Tryd.zeroValue199
  t45 := Tryd.underlying208
  a45 := Tryd.isAgg208
  z45 := Tryd.sizeOf208
  v45 := Tryd.zeroValue208
  t46 := Tryd.underlying209
  a46 := Tryd.isAgg209
  z46 := Tryd.sizeOf209
  v46 := Tryd.zeroValue209
  t50 := Tryd.underlying213
  a50 := Tryd.isAgg213
  z50 := Tryd.sizeOf213
  v50 := Tryd.zeroValue213
  t53 := Tryd.underlying216
  a53 := Tryd.isAgg216
  z53 := Tryd.sizeOf216
  v53 := Tryd.zeroValue216
  t55 := Tryd.underlying218
  a55 := Tryd.isAgg218
  z55 := Tryd.sizeOf218
  v55 := Tryd.zeroValue218
  t66 := Tryd.underlying221
  a66 := Tryd.isAgg221
  z66 := Tryd.sizeOf221
  v66 := Tryd.zeroValue221
  t70 := Tryd.underlying225
  a70 := Tryd.isAgg225
  z70 := Tryd.sizeOf225
  v70 := Tryd.zeroValue225
  t76 := Tryd.underlying229
  a76 := Tryd.isAgg229
  z76 := Tryd.sizeOf229
  v76 := Tryd.zeroValue229
  t77 := Tryd.underlying230
  a77 := Tryd.isAgg230
  z77 := Tryd.sizeOf230
  v77 := Tryd.zeroValue230 }
def cloneNm_ren : Go.Shelf.Ren := ⟨fun | 5 => 107 | 7 => 144 | n => n, fun | 23 => 126 | 25 => 46 | 3 => 23 | 4 => 4 | 20 => 20 | n => n, fun | n => n⟩
theorem cloneNm : Go.Proofs.SlLaysW.n5 Tryd.prog cloneNm_ren := {
  mixed := by kernel_rfl
  f5 := ⟨Tryd.f107.name, by decide, Tryd.func107.trans (congrArg some (by kernel_rfl))⟩
  f7 := Tryd.func144.trans (congrArg some (by kernel_rfl))
  t4 := Tryd.underlying4
  a4 := Tryd.isAgg4
  z4 := Tryd.sizeOf4
  v4 := Tryd.zeroValue4
  t20 := Tryd.underlying20
  a20 := Tryd.isAgg20
  z20 := Tryd.sizeOf20
  v20 := Tryd.zeroValue20
  t23 := Tryd.underlying126
  a23 := Tryd.isAgg126
  z23 := Tryd.sizeOf126
  v23 := Tryd.zeroValue126 }
end Go.Proofs.YtkjnanfkclijcaaDoor.Am

namespace Go.Proofs.YtkjnanfkclijcaaDoor.Am
open Go Go.Proofs Go.RowKit Go.Maps Go.Sort Go.Shelf Go.ChangeMaps
set_option maxRecDepth 100000
set_option linter.unusedVariables false
theorem ordF_ltOf : ltOf ordF = nless := by
  funext x y
  exact ordF_lt x y
theorem ordF_swo : SWO (ltOf ordF) := by
  rw [ordF_ltOf]
  exact ⟨nless_irrefl, fun _ _ _ h h' => nless_trans h h', fun x y z h h' => by
    simp only [nless, Bool.or_eq_false_iff, Bool.and_eq_false_iff, decide_eq_false_iff_not] at *; omega⟩
theorem flatK_nm (d : Array Nm) : (flatK nmCells 2 d).toList = d.toList.flatMap nmCells := by
  have key : ∀ (l : List Nm) (t : Nat), (l.flatMap nmCells)[t]? = if t < l.length * 2 then some ((nmCells (l[t / 2]?.getD default))[t % 2]!) else none := by
    intro l
    induction l with
    | nil => intro t; simp
    | cons x r ih =>
      intro t
      match t with
      | 0 => simp [nmCells]
      | 1 => simp [nmCells]; omega
      | t + 2 =>
        have h1 : ((x :: r).flatMap nmCells)[t + 2]? = (r.flatMap nmCells)[t]? := by simp [nmCells]
        have h2 : (t + 2) / 2 = t / 2 + 1 := by omega
        have h3 : (t + 2) % 2 = t % 2 := by omega
        rw [h1, ih t, h2, h3]
        simp only [List.length_cons, List.getElem?_cons_succ]
        by_cases h : t < r.length * 2
        · rw [if_pos h, if_pos (by omega)]
        · rw [if_neg h, if_neg (by omega)]
  apply List.ext_getElem?
  intro t
  rw [key]
  unfold flatK
  simp only [Array.toList_map, List.getElem?_map, Array.toList_range, List.getElem?_range]
  by_cases h : t < d.size * 2
  · rw [List.getElem?_range h, if_pos (by simpa using h)]
    simp only [Option.map_some]
    have : d[t / 2]! = d.toList[t / 2]?.getD default := by
      have h' : t / 2 < d.size := by omega
      simp [h']
    rw [this]
  · rw [List.getElem?_eq_none (by simp; omega), if_neg (by simpa using h)]; rfl
theorem holds_nm {w : World} {g : Nat} {cur : Array Value} {e : TypeId} {ss : List Nm} (hb : w.heap[g]? = some (.cells cur e (0, 0))) (ht : cur.toList.take (ss.length * 2) = ss.flatMap nmCells) : HoldsK nmCells 2 w g 0 ss.toArray := by
  intro j hj
  rw [size_flatK] at hj
  have hj' : j < ss.length * 2 := by simpa using hj
  refine ⟨?_, by simp [World.frozen?, hb]⟩
  have h1 : (cur.toList.take (ss.length * 2))[j]? = (ss.flatMap nmCells)[j]? := by rw [ht]
  rw [List.getElem?_take_of_lt hj'] at h1
  have h2 : (ss.flatMap nmCells)[j]? = (flatK nmCells 2 ss.toArray)[j]? := by rw [← Array.getElem?_toList, flatK_nm]
  simp only [World.cell?, hb, Nat.zero_add]
  simp only [Option.isSome_none, Bool.false_eq_true, if_false]
  rw [← Array.getElem?_toList, h1, h2]
  have h3 : j < (flatK nmCells 2 ss.toArray).size := by rw [size_flatK]; simpa using hj'
  rw [Array.getElem?_eq_getElem h3, getElem!_pos _ j h3]; rfl
theorem heap_sortedV {w : World} {g n : Nat} {os : Array Obj} {cur : Array Value} {e : TypeId} {fr : Nat × Nat} (d : Array Value) (hb : w.heap[g]? = some (.cells cur e fr)) :
    (grow (putRow id (Sort.ahead w n) g 0 d) os).heap[g]? = some (.cells (putCells id 0 d cur) e fr) := by
  have hg : g < w.heap.size := (Array.getElem?_eq_some_iff.1 hb).1
  rw [heap_grow_old _ _ (by simpa using hg)]
  simp [putRow, mapBlock, Sort.ahead, Array.getElem?_modify, hb, onCells]
theorem grownBy_sortedV {w : World} {g n : Nat} {os : Array Obj} (d : Array Value) : w.grownBy (grow (putRow id (Sort.ahead w n) g 0 d) os) (some g) := by
  refine ⟨rfl, rfl, rfl, by simp, fun k hk hne => ?_⟩
  rw [heap_grow_old _ _ (by simpa using hk)]
  have : g ≠ k := fun e => hne (by rw [e])
  simp [putRow, mapBlock, Sort.ahead, Array.getElem?_modify, this]
theorem take_putCellsV (cur : Array Value) (ts : Array Value) (h : ts.size ≤ cur.size) : (putCells id 0 ts cur).toList.take ts.size = ts.toList := by
  apply List.ext_getElem?
  intro j
  by_cases hj : j < ts.size
  · rw [List.getElem?_take_of_lt hj, Array.getElem?_toList]
    simp [putCells, hj, show j < cur.size by omega]
  · rw [List.getElem?_take_eq_none (by omega), List.getElem?_eq_none (by simp; omega)]
theorem ownsRow_sortedV {w : World} {base g cap n : Nat} {e : TypeId} {os : Array Obj} {cur : Array Value} {d : Array Nm} {m : Nat} (hl : d.size = m) (hbase : base ≤ g) (hb : w.heap[g]? = some (.cells cur e (0, 0)))
    (h1 : m ≤ cap) (h2 : cap ≤ maxLen) (h3 : cur.size = cap * 2) :
    (sortWorldK nmCells 2 w g 0 n d os).ownsRow base e 2 (.slice (some ⟨g, 0, none⟩) m cap) m (d.toList.flatMap nmCells) := by
  subst hl
  refine ⟨by rw [← flatK_nm]; simp, .inr ⟨g, cap, _, rfl, hbase, heap_sortedV _ hb, h1, h2, by simp [putCells, h3], ?_⟩⟩
  have := take_putCellsV cur (flatK nmCells 2 d) (by rw [size_flatK, h3]; omega)
  rw [size_flatK, flatK_nm] at this
  exact this
theorem sorted_is {d d' : Array Nm} (hp : PermIn 0 d.size d d') (hs : SortedIn (ltOf ordF) 0 d.size d') : d'.toList = sortN d.toList := by
  obtain ⟨h1, _, h2⟩ := hp
  have hp : d'.toList.Perm d.toList := by
    have e1 : d'.extract 0 d.size = d' := by rw [← h1]; exact Array.extract_size
    have e2 : d.extract 0 d.size = d := Array.extract_size
    rw [e1, e2] at h2; exact h2
  refine (sortN_of ?_ hp.symm).symm
  refine List.pairwise_iff_getElem.2 fun i j hi hj hij => ?_
  have hi' : i < d'.size := by simpa using hi
  have hj' : j < d'.size := by simpa using hj
  have := hs i j (Nat.zero_le _) hij (by omega)
  rw [ordF_ltOf, getElem!_pos d' i hi', getElem!_pos d' j hj'] at this
  simpa using this
theorem less_nm (x y : Nm) (W : World) : Calls Tryd.prog 79 #[encNm x, encNm y] W fun e w' => e = .returned (.bool (nless x y)) ∧ ∃ q os', w' = grow (W.drewN q) os' := by
  go_enter Tryd.func79, Tryd.ntmps79
  go_wp2
  all_goals go_ret
  all_goals refine ⟨?_, 0, _, by rw [alloc_eq_grow, alloc_eq_grow, grow_grow]; rfl⟩
  all_goals show Ending.returned (Value.bool _) = Ending.returned (Value.bool _)
  all_goals congr 2
  all_goals simp_all [nless]
theorem cell_grow {w : World} {os : Array Obj} {a : Addr} {v : Value} (h : w.cell? a = some v) (hb : a.block < w.heap.size) : (grow w os).cell? a = some v := by
  have e : (grow w os).heap[a.block]? = w.heap[a.block]? := heap_grow_old _ _ hb
  rw [← h]
  simp only [World.cell?, e]
theorem order_nm (x y : Nm) (W : World) : Calls Tryd.prog 99 #[encNm x, encNm y] W fun e w' => e = .returned (.int .i64 (ordF x y)) ∧ ∃ q os', w' = grow (W.drewN q) os' := by
  have h := less_nm x y
  go_enter Tryd.func99, Tryd.ntmps99
  obtain ⟨W1, hW1⟩ : ∃ W1, (W.alloc (.cells #[.int .i64 x.1, .int .i64 x.2] 46)).alloc (.cells #[.int .i64 y.1, .int .i64 y.2] 46) = W1 := ⟨_, rfl⟩
  have b0 : W.heap.size < W1.heap.size := by rw [← hW1]; simp; omega
  have b1 : W.heap.size + 1 < W1.heap.size := by rw [← hW1]; simp
  have c0 : W1.cell? ⟨W.heap.size, 0, none⟩ = some (.int .i64 x.1) := by rw [← hW1]; simp [go_sem]
  have c1 : W1.cell? ⟨W.heap.size, 1, none⟩ = some (.int .i64 x.2) := by rw [← hW1]; simp [go_sem]
  have c2 : W1.cell? ⟨W.heap.size + 1, 0, none⟩ = some (.int .i64 y.1) := by rw [← hW1]; simp [go_sem]
  have c3 : W1.cell? ⟨W.heap.size + 1, 1, none⟩ = some (.int .i64 y.2) := by rw [← hW1]; simp [go_sem]
  go_wp2_with (go_at_call 79; rw [hW1])
  refine (h _).mono ?_
  rintro e w' ⟨rfl, hE⟩
  have d0 : w'.cell? ⟨W.heap.size, 0, none⟩ = some (.int .i64 x.1) := by obtain ⟨q, os', rfl⟩ := hE; exact cell_grow (w := W1.drewN q) c0 b0
  have d1 : w'.cell? ⟨W.heap.size, 1, none⟩ = some (.int .i64 x.2) := by obtain ⟨q, os', rfl⟩ := hE; exact cell_grow (w := W1.drewN q) c1 b0
  have d2 : w'.cell? ⟨W.heap.size + 1, 0, none⟩ = some (.int .i64 y.1) := by obtain ⟨q, os', rfl⟩ := hE; exact cell_grow (w := W1.drewN q) c2 b1
  have d3 : w'.cell? ⟨W.heap.size + 1, 1, none⟩ = some (.int .i64 y.2) := by obtain ⟨q, os', rfl⟩ := hE; exact cell_grow (w := W1.drewN q) c3 b1
  have hF : ∃ q os', w' = grow (W.drewN q) os' := by
    obtain ⟨q, os', rfl⟩ := hE
    rw [← hW1, alloc_eq_grow, alloc_eq_grow, grow_grow]
    exact ⟨q, _, (grow_grow (W.drewN q) _ os')⟩
  clear hE hW1
  go_wp2
  all_goals go_ret
  all_goals refine ⟨?_, hF⟩
  all_goals show Ending.returned (Value.int .i64 _) = Ending.returned (Value.int .i64 _)
  all_goals congr 2
  all_goals (unfold ordF; simp [*, Prod.ext_iff])
theorem order_lays (blk off size : Nat) (w : World) : CmpLays Tryd.prog 99 #[] nmCells 2 ordF blk off size w :=
  fun _ _ _ _ x y => order_nm x y _
theorem keys_gives_nm (F : Fence) (n : Nat) (h : F.fn 143) (hro : F.round = none) (hn : 1 ≤ n) (Bm b : Nat) (es : Array MapEntry) (clock : Nat) (w : World) (hBm : Bm < w.heap.size)
    (hm : w.cell? ⟨Bm, 0, none⟩ = some (.map (some b))) (hb : w.heap[b]? = some (.map es clock)) (hB : Born es clock) (hk : ∀ e ∈ es.toList, ∃ v : Int × Int, e.key = encNm v) :
    SeqGives F n Tryd.prog 143 #[.pointer (some ⟨Bm, 0, none⟩)] encNm (fun ks => (ks.map encNm).Perm (es.toList.map (·.key))) es.size w := fun l J W hW hJ hY h0 =>
  keys_walk F n h hro hn l Bm b es clock J hY W hJ ((hW.cell (p := ⟨Bm, 0, none⟩) hBm).trans hm) ((hW.block b (Array.getElem?_eq_some_iff.1 hb).1).trans hb) hB h0 hk
set_option maxHeartbeats 1000000 in
theorem sorted_nm (Bm b : Nat) (es : Array MapEntry) (clock : Nat) (w : World) (hBm : Bm < w.heap.size)
    (hm : w.cell? ⟨Bm, 0, none⟩ = some (.map (some b))) (hb : w.heap[b]? = some (.map es clock)) (hB : Born es clock) (hk : ∀ e ∈ es.toList, ∃ v : Int × Int, e.key = encNm v) (hN : es.size ≤ 8796093022208) :
    Calls Tryd.prog 97 #[.func (.func 143) #[] #[.pointer (some ⟨Bm, 0, none⟩)], .func (.func 99) #[] #[]] w fun e w' =>
      ∃ (v : Value) (ns : List Nm), e = .returned v ∧ (ns.map encNm).Perm (es.toList.map (·.key)) ∧ w'.ownsRow w.heap.size 46 2 v ns.length ((sortN ns).flatMap nmCells) ∧ (v = .slice none 0 0 ↔ ns = []) ∧ Below w.heap.size w w' := by
  have ek : ∀ args w, (callFunc 143 args).run Tryd.prog w = .ok (.enter 143 args) w := enters_of Tryd.func143 (by kernel_rfl) rfl
  have eo : ∀ args w, (callFunc 99 args).run Tryd.prog w = .ok (.enter 99 args) w := enters_of Tryd.func99 (by kernel_rfl) rfl
  have hseq := SeqGives.bounded (keys_gives_nm Fence.wide 4 trivial rfl (by omega) Bm b es clock w hBm hm hb hB hk)
  have cC := callsIn_wide.1 (collect_nm Fence.wide 6 trivial trivial rfl (by omega) 143 _ trivial ek _ es.size (by unfold maxLen; omega) (by omega) w hseq)
  have u46 := run_underlying (P := Tryd.prog) Tryd.underlying46
  have u54 := run_underlying (P := Tryd.prog) Tryd.underlying54
  go_enter Tryd.func97, Tryd.ntmps97
  go_wp2_with (go_at_call 141; refine cC.mono ?_; rintro e W ⟨v, ss, rfl, ⟨hS, hlen⟩, hrow, hnil, hb⟩)
  rcases hrow.2 with ⟨rfl, hz⟩ | ⟨gb, cap, cur, rfl, hbase, hgb, r1, r2, r3, r4⟩
  · have hss : ss = [] := List.eq_nil_of_length_eq_zero hz
    subst hss
    refine Calls.mono (show Calls Tryd.prog 142 #[.slice none 0 0, .func (.func 99) #[] #[]] W fun e w' => e = .returned (.tuple #[]) ∧ w' = W from AnyF.slices_SortFunc_none sortNm none 0 _ W) ?_
    rintro e w' ⟨rfl, rfl⟩
    go_wp2
    go_ret
    exact ⟨.slice none 0 0, [], rfl, hS, hrow, by simp, hb⟩
  · have hH : HoldsK nmCells 2 W gb 0 ss.toArray := holds_nm hgb r4
    have hgl : gb < W.heap.size := (Array.getElem?_eq_some_iff.1 hgb).1
    have hsz : ss.toArray.size < 4611686018427387904 := by simp; omega
    have cS := AnyQ.slices_SortFunc sortNm 2 Tryd.isAgg46 Tryd.sizeOf46 nmCells (fun _ => rfl) (fun x v hv => by simp [nmCells] at hv; rcases hv with rfl | rfl <;> rfl) ordF ordF_swo 99 #[] gb 0 cap ss.toArray W eo (order_lays gb 0 _ W) hH hgl hsz
    change Calls Tryd.prog 142 _ _ _ at cS
    rw [List.size_toArray] at cS
    refine cS.mono ?_
    rintro e w' ⟨rfl, d', n, os, hp, hs, rfl⟩
    have hd := sorted_is (d := ss.toArray) (by simpa using hp) (by simpa using hs)
    have hds : d'.size = ss.length := by have := hp.1; simpa using this
    have ho := ownsRow_sortedV (n := n) (os := os) hds hbase hgb r1 r2 r3
    rw [hd] at ho
    have hbel : Below w.heap.size w (sortWorldK nmCells 2 W gb 0 n d' os) := hb.grown (grownBy_sortedV _) hb.size (fun j hj => by cases hj; exact hbase)
    generalize sortWorldK nmCells 2 W gb 0 n d' os = W' at ho hbel
    go_wp2
    go_ret
    exact ⟨_, ss, rfl, hS, ho, hnil, hbel⟩
end Go.Proofs.YtkjnanfkclijcaaDoor.Am

namespace Go.Proofs.YtkjnanfkclijcaaDoor.Am
open Go Go.Proofs Go.RowKit Go.Maps Go.Sort Go.Shelf
set_option maxRecDepth 100000
set_option linter.unusedVariables false
def decNm : Value → Nm
  | .agg a => match a.toList with
    | [Value.int _ x, Value.int _ y] => (x, y)
    | _ => (0, 0)
  | _ => (0, 0)
theorem natSF_ok {cfg : Cfg} (hc : ∀ f, cfg.conc f = f) : NatOk Tryd.prog cfg 97 (natSF 143 99) := by
  intro args σ v σ' h
  rw [hc]
  refine ⟨⟨_, Tryd.func97, by decide, rfl⟩, ?_⟩
  obtain ⟨id, m, ks, ns, rfl, h1, h2, h3, hlen, h4⟩ := natSF_cases h
  intro E κ cargs hσ hR ha r w hw
  subst hσ
  cases ha with
  | cons _ _ _ _ _ a1 a2 =>
  cases a2 with
  | cons _ _ _ _ _ a2 a3 =>
  cases a3
  cases a2 with
  | func _ _ _ _ us us' b1 b2 =>
  cases b1; cases b2
  cases a1 with
  | func _ _ _ _ us us' b1 b2 =>
  cases b1
  cases b2 with
  | cons _ _ _ _ _ b1 b2 =>
  cases b2
  cases b1 with
  | ptr _ _ _ b hp =>
  obtain ⟨⟨_, hpd⟩, rfl⟩ := hp
  obtain ⟨hc1, vs, e, hb1, hvl⟩ := hR.obj id _ h1 hpd
  obtain ⟨cm, rfl, hm⟩ : ∃ cm, vs = #[cm] ∧ κ.V E cfg.conc m cm := by
    obtain ⟨l⟩ := vs
    cases hvl with
    | cons _ _ _ _ _ hv hl => cases hl; exact ⟨_, rfl, hv⟩
  obtain ⟨mb, es, clock, rfl, hmb, hkeys, hB⟩ := keysOf_ok hR hm h2
  have hks := nmsOf_eq h3
  subst hks
  have hke := nms_V hkeys
  have hel : es.size = ns.length := by
    have := congrArg List.length hke
    simpa using this
  obtain ⟨hwh, hwo, hwu⟩ := hw
  have hloc : κ.loc id < w.heap.size := by rw [hwh]; exact hR.hi id (K.live_of h1 hpd)
  have hcell : w.cell? ⟨κ.loc id, 0, none⟩ = some (.map (some mb)) := by rw [cellAt_eq, hwh]; simp [cellAt, hb1]
  have con := sorted_nm (κ.loc id) mb es clock w hloc hcell (by rw [hwh]; exact hmb) hB (fun e he => by
    have : e.key ∈ es.toList.map (·.key) := List.mem_map.2 ⟨e, he, rfl⟩
    rw [hke] at this
    obtain ⟨n, _, hn⟩ := List.mem_map.1 this
    exact ⟨n, hn.symm⟩) (by rw [hel]; exact hlen)
  rw [hc, hc]
  refine Calls.mono con ?_
  rintro e w' ⟨v0, ns', rfl, hperm, hrow, hnil, hbel⟩
  simp only
  have hs : κ.h.size ≤ w'.heap.size := by rw [← hwh]; exact hbel.size
  have hh : ∀ b, b < κ.h.size → w'.heap[b]? = κ.h[b]? := fun b hb => by rw [← hwh]; exact hbel.block b (by rw [hwh]; exact hb)
  have hns : ns'.Perm ns := by
    rw [hke] at hperm
    have h := hperm.map decNm
    have e : ∀ l : List Nm, (l.map encNm).map decNm = l := fun l => by
      rw [List.map_map, show decNm ∘ encNm = _root_.id from funext fun a => rfl, List.map_id]
    have e' : (ns.map fun n => (Value.agg #[.int .i64 n.1, .int .i64 n.2])).map decNm = ns := e ns
    rw [e, e'] at h
    exact h
  rcases h4 with ⟨rfl, rfl, rfl⟩ | ⟨hne, rfl, rfl⟩
  · have e0 : ns' = [] := List.perm_nil.1 hns
    rw [hnil.2 e0]
    exact ⟨κ.more w'.heap, ⟨rfl, hbel.os.trans hwo, hbel.output.trans hwu⟩, rfl, K.more_le hR hs hh, K.more_R hR hs hh, .nilslice _⟩
  · have hso : sortN ns' = sortN ns := up_one (sortN_up _) (sortN_up _) ((sortN_perm _).trans (hns.trans (sortN_perm _).symm))
    have hl' := hns.length_eq
    rcases hrow.2 with ⟨e1, _⟩ | ⟨g, cap, cur, rfl, hg, hgb, c1, c2, c3, c4⟩
    · have := hnil.1 e1
      subst this
      exact (hne (List.nil_perm.1 hns)).elim
    · have htake : cur.toList = (sortN ns).flatMap nmCells ++ cur.toList.drop (ns'.length * 2) := by
        rw [← hso, ← c4, List.take_append_drop]
      obtain ⟨k1, k2⟩ := farArr_ok (es := (sortN ns).map nmV) hR hs hh (by rw [← hwh]; exact hg) hgb htake (by decide) (nms_elems _) (nms_VL _) (by simp [sortN_len]; omega) c3
      refine ⟨_, ⟨rfl, hbel.os.trans hwo, hbel.output.trans hwu⟩, rfl, K.far_le hR hs hh g (by rw [← hwh]; exact hg) _, k1, ?_⟩
      rw [hl']
      simpa [sortN_len] using k2
theorem natMC_ok {cfg : Cfg} (hc : ∀ f, cfg.conc f = f) : NatOk Tryd.prog cfg 107 natMC := by
  intro args σ v σ' h
  rw [hc]
  refine ⟨⟨_, Tryd.func107, by decide, rfl⟩, ?_⟩
  obtain ⟨m, ks, vs, rfl, h1, rfl, rfl⟩ := natMC_cases h
  intro E κ cargs hσ hR ha r w hw
  subst hσ
  cases ha with
  | cons _ _ _ _ _ a1 a2 =>
  cases a2
  obtain ⟨b, es, clock, rfl, hb, hk, hv, hB⟩ := kvOf_ok hR a1 h1
  obtain ⟨hwh, hwo, hwu⟩ := hw
  refine Calls.mono (AnyW.maps_Clone cloneNm b es clock w (by rw [hwh]; exact hb)) ?_
  rintro e w' ⟨rfl, rfl⟩
  simp only
  refine ⟨κ.new (.map es clock) (.map ks vs), ⟨by simp [World.alloc, K.new, hwh], hwo, hwu⟩, by simp [K.new], K.new_le hR _ _,
    K.new_R hR _ _ ⟨es, clock, by simp [K.new], K.VL.le hR.lb (K.new_le hR _ _) hk, K.VL.le hR.lb (K.new_le hR _ _) hv, hB⟩, ?_⟩
  rw [hwh]
  exact .map _ _ _ ⟨⟨⟨ks, vs, by simp [K.new]⟩, hR.fresh⟩, by simp [K.new]⟩
end Go.Proofs.YtkjnanfkclijcaaDoor.Am

namespace Go.Proofs.YtkjnanfkclijcaaDoor.Am.CU
open Go Go.Proofs.YtkjnanfkclijcaaDoor.Am
set_option linter.unusedVariables false
set_option maxRecDepth 100000
set_option maxHeartbeats 4000000
theorem ok11 : FnOk cfg Tryd.prog 11 a11 := ⟨⟨Tryd.f11, _, Tryd.func11, by decide, rfl, rfl, by kernel_rfl, by kernel_rfl⟩⟩
theorem ok18 : FnOk cfg Tryd.prog 18 a18 := ⟨⟨Tryd.f18, _, Tryd.func18, by decide, rfl, rfl, by kernel_rfl, by kernel_rfl⟩⟩
theorem ok34 : FnOk cfg Tryd.prog 34 a34 := ⟨⟨Tryd.f34, _, Tryd.func34, by decide, rfl, rfl, by kernel_rfl, by kernel_rfl⟩⟩
theorem ok35 : FnOk cfg Tryd.prog 35 a35 := ⟨⟨Tryd.f35, _, Tryd.func35, by decide, rfl, rfl, by kernel_rfl, by kernel_rfl⟩⟩
theorem ok36 : FnOk cfg Tryd.prog 36 a36 := ⟨⟨Tryd.f36, _, Tryd.func36, by decide, rfl, rfl, by kernel_rfl, by kernel_rfl⟩⟩
theorem ok37 : FnOk cfg Tryd.prog 37 a37 := ⟨⟨Tryd.f37, _, Tryd.func37, by decide, rfl, rfl, by kernel_rfl, by kernel_rfl⟩⟩
theorem ok38 : FnOk cfg Tryd.prog 38 a38 := ⟨⟨Tryd.f38, _, Tryd.func38, by decide, rfl, rfl, by kernel_rfl, by kernel_rfl⟩⟩
theorem ok39 : FnOk cfg Tryd.prog 39 a39 := ⟨⟨Tryd.f39, _, Tryd.func39, by decide, rfl, rfl, by kernel_rfl, by kernel_rfl⟩⟩
theorem ok40 : FnOk cfg Tryd.prog 40 a40 := ⟨⟨Tryd.f40, _, Tryd.func40, by decide, rfl, rfl, by kernel_rfl, by kernel_rfl⟩⟩
theorem ok41 : FnOk cfg Tryd.prog 41 a41 := ⟨⟨Tryd.f41, _, Tryd.func41, by decide, rfl, rfl, by kernel_rfl, by kernel_rfl⟩⟩
theorem ok42 : FnOk cfg Tryd.prog 42 a42 := ⟨⟨Tryd.f42, _, Tryd.func42, by decide, rfl, rfl, by kernel_rfl, by kernel_rfl⟩⟩
theorem ok43 : FnOk cfg Tryd.prog 43 a43 := ⟨⟨Tryd.f43, _, Tryd.func43, by decide, rfl, rfl, by kernel_rfl, by kernel_rfl⟩⟩
theorem ok45 : FnOk cfg Tryd.prog 45 a45 := ⟨⟨Tryd.f45, _, Tryd.func45, by decide, rfl, rfl, by kernel_rfl, by kernel_rfl⟩⟩
theorem ok46 : FnOk cfg Tryd.prog 46 a46 := ⟨⟨Tryd.f46, _, Tryd.func46, by decide, rfl, rfl, by kernel_rfl, by kernel_rfl⟩⟩
theorem ok47 : FnOk cfg Tryd.prog 47 a47 := ⟨⟨Tryd.f47, _, Tryd.func47, by decide, rfl, rfl, by kernel_rfl, by kernel_rfl⟩⟩
theorem ok48 : FnOk cfg Tryd.prog 48 a48 := ⟨⟨Tryd.f48, _, Tryd.func48, by decide, rfl, rfl, by kernel_rfl, by kernel_rfl⟩⟩
theorem ok49 : FnOk cfg Tryd.prog 49 a49 := ⟨⟨Tryd.f49, _, Tryd.func49, by decide, rfl, rfl, by kernel_rfl, by kernel_rfl⟩⟩
theorem ok50 : FnOk cfg Tryd.prog 50 a50 := ⟨⟨Tryd.f50, _, Tryd.func50, by decide, rfl, rfl, by kernel_rfl, by kernel_rfl⟩⟩
theorem ok51 : FnOk cfg Tryd.prog 51 a51 := ⟨⟨Tryd.f51, _, Tryd.func51, by decide, rfl, rfl, by kernel_rfl, by kernel_rfl⟩⟩
theorem ok52 : FnOk cfg Tryd.prog 52 a52 := ⟨⟨Tryd.f52, _, Tryd.func52, by decide, rfl, rfl, by kernel_rfl, by kernel_rfl⟩⟩
theorem ok53 : FnOk cfg Tryd.prog 53 a53 := ⟨⟨Tryd.f53, _, Tryd.func53, by decide, rfl, rfl, by kernel_rfl, by kernel_rfl⟩⟩
theorem ok60 : FnOk cfg Tryd.prog 60 a60 := ⟨⟨Tryd.f60, _, Tryd.func60, by decide, rfl, rfl, by kernel_rfl, by kernel_rfl⟩⟩
theorem ok63 : FnOk cfg Tryd.prog 63 a63 := ⟨⟨Tryd.f63, _, Tryd.func63, by decide, rfl, rfl, by kernel_rfl, by kernel_rfl⟩⟩
theorem ok66 : FnOk cfg Tryd.prog 66 a66 := ⟨⟨Tryd.f66, _, Tryd.func66, by decide, rfl, rfl, by kernel_rfl, by kernel_rfl⟩⟩
theorem ok76 : FnOk cfg Tryd.prog 76 a76 := ⟨⟨Tryd.f76, _, Tryd.func76, by decide, rfl, rfl, by kernel_rfl, by kernel_rfl⟩⟩
theorem ok77 : FnOk cfg Tryd.prog 77 a77 := ⟨⟨Tryd.f77, _, Tryd.func77, by decide, rfl, rfl, by kernel_rfl, by kernel_rfl⟩⟩
theorem ok78 : FnOk cfg Tryd.prog 78 a78 := ⟨⟨Tryd.f78, _, Tryd.func78, by decide, rfl, rfl, by kernel_rfl, by kernel_rfl⟩⟩
theorem ok79 : FnOk cfg Tryd.prog 79 a79 := ⟨⟨Tryd.f79, _, Tryd.func79, by decide, rfl, rfl, by kernel_rfl, by kernel_rfl⟩⟩
theorem ok80 : FnOk cfg Tryd.prog 80 a80 := ⟨⟨Tryd.f80, _, Tryd.func80, by decide, rfl, rfl, by kernel_rfl, by kernel_rfl⟩⟩
theorem ok90 : FnOk cfg Tryd.prog 90 a90 := ⟨⟨Tryd.f90, _, Tryd.func90, by decide, rfl, rfl, by kernel_rfl, by kernel_rfl⟩⟩
theorem ok93 : FnOk cfg Tryd.prog 93 a93 := ⟨⟨Tryd.f93, _, Tryd.func93, by decide, rfl, rfl, by kernel_rfl, by kernel_rfl⟩⟩
theorem ok96 : FnOk cfg Tryd.prog 96 a96 := ⟨⟨Tryd.f96, _, Tryd.func96, by decide, rfl, rfl, by kernel_rfl, by kernel_rfl⟩⟩
theorem ok97 : FnOk cfg Tryd.prog 97 a97 := ⟨⟨Tryd.f97, _, Tryd.func97, by decide, rfl, rfl, by kernel_rfl, by kernel_rfl⟩⟩
theorem ok98 : FnOk cfg Tryd.prog 98 a98 := ⟨⟨Tryd.f98, _, Tryd.func98, by decide, rfl, rfl, by kernel_rfl, by kernel_rfl⟩⟩
theorem ok99 : FnOk cfg Tryd.prog 99 a99 := ⟨⟨Tryd.f99, _, Tryd.func99, by decide, rfl, rfl, by kernel_rfl, by kernel_rfl⟩⟩
theorem ok100 : FnOk cfg Tryd.prog 100 a100 := ⟨⟨Tryd.f100, _, Tryd.func100, by decide, rfl, rfl, by kernel_rfl, by kernel_rfl⟩⟩
theorem ok101 : FnOk cfg Tryd.prog 101 a101 := ⟨⟨Tryd.f101, _, Tryd.func101, by decide, rfl, rfl, by kernel_rfl, by kernel_rfl⟩⟩
theorem ok102 : FnOk cfg Tryd.prog 102 a102 := ⟨⟨Tryd.f102, _, Tryd.func102, by decide, rfl, rfl, by kernel_rfl, by kernel_rfl⟩⟩
theorem ok104 : FnOk cfg Tryd.prog 104 a104 := ⟨⟨Tryd.f104, _, Tryd.func104, by decide, rfl, rfl, by kernel_rfl, by kernel_rfl⟩⟩
theorem ok105 : FnOk cfg Tryd.prog 105 a105 := ⟨⟨Tryd.f105, _, Tryd.func105, by decide, rfl, rfl, by kernel_rfl, by kernel_rfl⟩⟩
theorem ok106 : FnOk cfg Tryd.prog 106 a106 := ⟨⟨Tryd.f106, _, Tryd.func106, by decide, rfl, rfl, by kernel_rfl, by kernel_rfl⟩⟩
theorem ok107 : FnOk cfg Tryd.prog 107 a107 := ⟨⟨Tryd.f107, _, Tryd.func107, by decide, rfl, rfl, by kernel_rfl, by kernel_rfl⟩⟩
theorem ok113 : FnOk cfg Tryd.prog 113 a113 := ⟨⟨Tryd.f113, _, Tryd.func113, by decide, rfl, rfl, by kernel_rfl, by kernel_rfl⟩⟩
theorem ok114 : FnOk cfg Tryd.prog 114 a114 := ⟨⟨Tryd.f114, _, Tryd.func114, by decide, rfl, rfl, by kernel_rfl, by kernel_rfl⟩⟩
theorem ok115 : FnOk cfg Tryd.prog 115 a115 := ⟨⟨Tryd.f115, _, Tryd.func115, by decide, rfl, rfl, by kernel_rfl, by kernel_rfl⟩⟩
theorem ok116 : FnOk cfg Tryd.prog 116 a116 := ⟨⟨Tryd.f116, _, Tryd.func116, by decide, rfl, rfl, by kernel_rfl, by kernel_rfl⟩⟩
theorem ok117 : FnOk cfg Tryd.prog 117 a117 := ⟨⟨Tryd.f117, _, Tryd.func117, by decide, rfl, rfl, by kernel_rfl, by kernel_rfl⟩⟩
theorem ok118 : FnOk cfg Tryd.prog 118 a118 := ⟨⟨Tryd.f118, _, Tryd.func118, by decide, rfl, rfl, by kernel_rfl, by kernel_rfl⟩⟩
theorem ok123 : FnOk cfg Tryd.prog 123 a123 := ⟨⟨Tryd.f123, _, Tryd.func123, by decide, rfl, rfl, by kernel_rfl, by kernel_rfl⟩⟩
theorem ok124 : FnOk cfg Tryd.prog 124 a124 := ⟨⟨Tryd.f124, _, Tryd.func124, by decide, rfl, rfl, by kernel_rfl, by kernel_rfl⟩⟩
theorem ok137 : FnOk cfg Tryd.prog 137 a137 := ⟨⟨Tryd.f137, _, Tryd.func137, by decide, rfl, rfl, by kernel_rfl, by kernel_rfl⟩⟩
theorem ok139 : FnOk cfg Tryd.prog 139 a139 := ⟨⟨Tryd.f139, _, Tryd.func139, by decide, rfl, rfl, by kernel_rfl, by kernel_rfl⟩⟩
theorem ok141 : FnOk cfg Tryd.prog 141 a141 := ⟨⟨Tryd.f141, _, Tryd.func141, by decide, rfl, rfl, by kernel_rfl, by kernel_rfl⟩⟩
theorem ok142 : FnOk cfg Tryd.prog 142 a142 := ⟨⟨Tryd.f142, _, Tryd.func142, by decide, rfl, rfl, by kernel_rfl, by kernel_rfl⟩⟩
theorem ok143 : FnOk cfg Tryd.prog 143 a143 := ⟨⟨Tryd.f143, _, Tryd.func143, by decide, rfl, rfl, by kernel_rfl, by kernel_rfl⟩⟩
theorem ok151 : FnOk cfg Tryd.prog 151 a151 := ⟨⟨Tryd.f151, _, Tryd.func151, by decide, rfl, rfl, by kernel_rfl, by kernel_rfl⟩⟩
theorem ok152 : FnOk cfg Tryd.prog 152 a152 := ⟨⟨Tryd.f152, _, Tryd.func152, by decide, rfl, rfl, by kernel_rfl, by kernel_rfl⟩⟩
theorem ok153 : FnOk cfg Tryd.prog 153 a153 := ⟨⟨Tryd.f153, _, Tryd.func153, by decide, rfl, rfl, by kernel_rfl, by kernel_rfl⟩⟩
theorem ok154 : FnOk cfg Tryd.prog 154 a154 := ⟨⟨Tryd.f154, _, Tryd.func154, by decide, rfl, rfl, by kernel_rfl, by kernel_rfl⟩⟩
theorem ok155 : FnOk cfg Tryd.prog 155 a155 := ⟨⟨Tryd.f155, _, Tryd.func155, by decide, rfl, rfl, by kernel_rfl, by kernel_rfl⟩⟩
theorem ok156 : FnOk cfg Tryd.prog 156 a156 := ⟨⟨Tryd.f156, _, Tryd.func156, by decide, rfl, rfl, by kernel_rfl, by kernel_rfl⟩⟩
theorem ok157 : FnOk cfg Tryd.prog 157 a157 := ⟨⟨Tryd.f157, _, Tryd.func157, by decide, rfl, rfl, by kernel_rfl, by kernel_rfl⟩⟩
theorem ok158 : FnOk cfg Tryd.prog 158 a158 := ⟨⟨Tryd.f158, _, Tryd.func158, by decide, rfl, rfl, by kernel_rfl, by kernel_rfl⟩⟩
theorem ok159 : FnOk cfg Tryd.prog 159 a159 := ⟨⟨Tryd.f159, _, Tryd.func159, by decide, rfl, rfl, by kernel_rfl, by kernel_rfl⟩⟩
theorem ok160 : FnOk cfg Tryd.prog 160 a160 := ⟨⟨Tryd.f160, _, Tryd.func160, by decide, rfl, rfl, by kernel_rfl, by kernel_rfl⟩⟩
theorem ok161 : FnOk cfg Tryd.prog 161 a161 := ⟨⟨Tryd.f161, _, Tryd.func161, by decide, rfl, rfl, by kernel_rfl, by kernel_rfl⟩⟩
theorem ok162 : FnOk cfg Tryd.prog 162 a162 := ⟨⟨Tryd.f162, _, Tryd.func162, by decide, rfl, rfl, by kernel_rfl, by kernel_rfl⟩⟩
theorem ok170 : FnOk cfg Tryd.prog 170 a170 := ⟨⟨Tryd.f170, _, Tryd.func170, by decide, rfl, rfl, by kernel_rfl, by kernel_rfl⟩⟩
theorem ok171 : FnOk cfg Tryd.prog 171 a171 := ⟨⟨Tryd.f171, _, Tryd.func171, by decide, rfl, rfl, by kernel_rfl, by kernel_rfl⟩⟩
theorem ok172 : FnOk cfg Tryd.prog 172 a172 := ⟨⟨Tryd.f172, _, Tryd.func172, by decide, rfl, rfl, by kernel_rfl, by kernel_rfl⟩⟩
theorem ok173 : FnOk cfg Tryd.prog 173 a173 := ⟨⟨Tryd.f173, _, Tryd.func173, by decide, rfl, rfl, by kernel_rfl, by kernel_rfl⟩⟩
theorem ok178 : FnOk cfg Tryd.prog 178 a178 := ⟨⟨Tryd.f178, _, Tryd.func178, by decide, rfl, rfl, by kernel_rfl, by kernel_rfl⟩⟩
theorem ok179 : FnOk cfg Tryd.prog 179 a179 := ⟨⟨Tryd.f179, _, Tryd.func179, by decide, rfl, rfl, by kernel_rfl, by kernel_rfl⟩⟩
theorem ok180 : FnOk cfg Tryd.prog 180 a180 := ⟨⟨Tryd.f180, _, Tryd.func180, by decide, rfl, rfl, by kernel_rfl, by kernel_rfl⟩⟩
theorem ok181 : FnOk cfg Tryd.prog 181 a181 := ⟨⟨Tryd.f181, _, Tryd.func181, by decide, rfl, rfl, by kernel_rfl, by kernel_rfl⟩⟩
theorem ok182 : FnOk cfg Tryd.prog 182 a182 := ⟨⟨Tryd.f182, _, Tryd.func182, by decide, rfl, rfl, by kernel_rfl, by kernel_rfl⟩⟩
theorem ok183 : FnOk cfg Tryd.prog 183 a183 := ⟨⟨Tryd.f183, _, Tryd.func183, by decide, rfl, rfl, by kernel_rfl, by kernel_rfl⟩⟩
theorem ok184 : FnOk cfg Tryd.prog 184 a184 := ⟨⟨Tryd.f184, _, Tryd.func184, by decide, rfl, rfl, by kernel_rfl, by kernel_rfl⟩⟩
theorem ok185 : FnOk cfg Tryd.prog 185 a185 := ⟨⟨Tryd.f185, _, Tryd.func185, by decide, rfl, rfl, by kernel_rfl, by kernel_rfl⟩⟩
theorem ok186 : FnOk cfg Tryd.prog 186 a186 := ⟨⟨Tryd.f186, _, Tryd.func186, by decide, rfl, rfl, by kernel_rfl, by kernel_rfl⟩⟩
theorem ok187 : FnOk cfg Tryd.prog 187 a187 := ⟨⟨Tryd.f187, _, Tryd.func187, by decide, rfl, rfl, by kernel_rfl, by kernel_rfl⟩⟩
theorem ok191 : FnOk cfg Tryd.prog 191 a191 := ⟨⟨Tryd.f191, _, Tryd.func191, by decide, rfl, rfl, by kernel_rfl, by kernel_rfl⟩⟩
theorem ok192 : FnOk cfg Tryd.prog 192 a192 := ⟨⟨Tryd.f192, _, Tryd.func192, by decide, rfl, rfl, by kernel_rfl, by kernel_rfl⟩⟩
theorem ok193 : FnOk cfg Tryd.prog 193 a193 := ⟨⟨Tryd.f193, _, Tryd.func193, by decide, rfl, rfl, by kernel_rfl, by kernel_rfl⟩⟩
theorem ok194 : FnOk cfg Tryd.prog 194 a194 := ⟨⟨Tryd.f194, _, Tryd.func194, by decide, rfl, rfl, by kernel_rfl, by kernel_rfl⟩⟩
theorem ok195 : FnOk cfg Tryd.prog 195 a195 := ⟨⟨Tryd.f195, _, Tryd.func195, by decide, rfl, rfl, by kernel_rfl, by kernel_rfl⟩⟩
theorem ok201 : FnOk cfg Tryd.prog 201 a201 := ⟨⟨Tryd.f201, _, Tryd.func201, by decide, rfl, rfl, by kernel_rfl, by kernel_rfl⟩⟩
theorem orF_cases {a b : Option AFunc} {x : AFunc} (h : orF a b = some x) : a = some x ∨ b = some x := by
  unfold orF at h
  split at h
  · exact .inl h
  · exact .inr h
theorem fns0 (f : FuncId) (fn : AFunc) (h : ir0 f = some fn) : FnOk cfg Tryd.prog f fn := by
  unfold ir0 at h
  split at h
  · injection h with h; subst h; exact ok11
  · injection h with h; subst h; exact ok18
  · injection h with h; subst h; exact ok34
  · injection h with h; subst h; exact ok35
  · injection h with h; subst h; exact ok36
  · injection h with h; subst h; exact ok37
  · injection h with h; subst h; exact ok38
  · injection h with h; subst h; exact ok39
  · injection h with h; subst h; exact ok40
  · injection h with h; subst h; exact ok41
  · injection h with h; subst h; exact ok42
  · injection h with h; subst h; exact ok43
  · injection h with h; subst h; exact ok45
  · injection h with h; subst h; exact ok46
  · injection h with h; subst h; exact ok47
  · injection h with h; subst h; exact ok48
  · injection h with h; subst h; exact ok49
  · injection h with h; subst h; exact ok50
  · injection h with h; subst h; exact ok51
  · injection h with h; subst h; exact ok52
  · injection h with h; subst h; exact ok53
  · injection h with h; subst h; exact ok60
  · injection h with h; subst h; exact ok63
  · injection h with h; subst h; exact ok66
  · injection h with h; subst h; exact ok76
  · injection h with h; subst h; exact ok77
  · injection h with h; subst h; exact ok78
  · injection h with h; subst h; exact ok79
  · injection h with h; subst h; exact ok80
  · injection h with h; subst h; exact ok90
  · injection h with h; subst h; exact ok93
  · injection h with h; subst h; exact ok96
  · injection h with h; subst h; exact ok97
  · injection h with h; subst h; exact ok98
  · injection h with h; subst h; exact ok99
  · injection h with h; subst h; exact ok100
  · injection h with h; subst h; exact ok101
  · injection h with h; subst h; exact ok102
  · injection h with h; subst h; exact ok104
  · injection h with h; subst h; exact ok105
  · cases h
theorem fns1 (f : FuncId) (fn : AFunc) (h : ir1 f = some fn) : FnOk cfg Tryd.prog f fn := by
  unfold ir1 at h
  split at h
  · injection h with h; subst h; exact ok106
  · injection h with h; subst h; exact ok107
  · injection h with h; subst h; exact ok113
  · injection h with h; subst h; exact ok114
  · injection h with h; subst h; exact ok115
  · injection h with h; subst h; exact ok116
  · injection h with h; subst h; exact ok117
  · injection h with h; subst h; exact ok118
  · injection h with h; subst h; exact ok123
  · injection h with h; subst h; exact ok124
  · injection h with h; subst h; exact ok137
  · injection h with h; subst h; exact ok139
  · injection h with h; subst h; exact ok141
  · injection h with h; subst h; exact ok142
  · injection h with h; subst h; exact ok143
  · injection h with h; subst h; exact ok151
  · injection h with h; subst h; exact ok152
  · injection h with h; subst h; exact ok153
  · injection h with h; subst h; exact ok154
  · injection h with h; subst h; exact ok155
  · injection h with h; subst h; exact ok156
  · injection h with h; subst h; exact ok157
  · injection h with h; subst h; exact ok158
  · injection h with h; subst h; exact ok159
  · injection h with h; subst h; exact ok160
  · injection h with h; subst h; exact ok161
  · injection h with h; subst h; exact ok162
  · injection h with h; subst h; exact ok170
  · injection h with h; subst h; exact ok171
  · injection h with h; subst h; exact ok172
  · injection h with h; subst h; exact ok173
  · injection h with h; subst h; exact ok178
  · injection h with h; subst h; exact ok179
  · injection h with h; subst h; exact ok180
  · injection h with h; subst h; exact ok181
  · injection h with h; subst h; exact ok182
  · injection h with h; subst h; exact ok183
  · injection h with h; subst h; exact ok184
  · injection h with h; subst h; exact ok185
  · injection h with h; subst h; exact ok186
  · cases h
theorem fns2 (f : FuncId) (fn : AFunc) (h : ir2 f = some fn) : FnOk cfg Tryd.prog f fn := by
  unfold ir2 at h
  split at h
  · injection h with h; subst h; exact ok187
  · injection h with h; subst h; exact ok191
  · injection h with h; subst h; exact ok192
  · injection h with h; subst h; exact ok193
  · injection h with h; subst h; exact ok194
  · injection h with h; subst h; exact ok195
  · injection h with h; subst h; exact ok201
  · cases h
theorem fns : ∀ f fn, cfg.ir f = some fn → FnOk cfg Tryd.prog f fn := by
  intro f fn h
  rcases orF_cases h with h | h
  · exact fns0 f fn h
  rcases orF_cases h with h | h
  · exact fns1 f fn h
  exact fns2 f fn h
theorem all : CfgOk Tryd.prog cfg := ⟨fns, by
  intro f g h
  simp only [cfg] at h
  split at h
  · injection h with h; subst h; exact natSF_ok fun _ => rfl
  · injection h with h; subst h; exact natMC_ok fun _ => rfl
  · cases h⟩
end Go.Proofs.YtkjnanfkclijcaaDoor.Am.CU

namespace Go.Proofs.YtkjnanfkclijcaaDoor.Am
open Go
set_option linter.unusedVariables false
set_option linter.unusedSimpArgs false
structure XRows (σ : Store) (lo k sz : Nat) (l : AVal) (xs es : List AVal) (ps : List (List AVal)) : Prop where
  row : Own σ k l xs
  lex : xs.length = es.length
  len : es.length = ps.length
  one : ∀ (i : Nat) (e : AVal) (p : List AVal), es[i]? = some e → ps[i]? = some p → Own σ sz e p
  frs : ∀ (i : Nat) (e : AVal), es[i]? = some e → Fresh lo e
  frl : Fresh lo l
  apart : ∀ (i j : Nat) (e e' : AVal) (id : Nat), es[i]? = some e → es[j]? = some e' → e.sid = some id → e'.sid = some id → i = j
  off : ∀ (i : Nat) (e : AVal) (id : Nat), es[i]? = some e → e.sid = some id → l.sid ≠ some id
  lit : ∀ (i : Nat) (e : AVal), es[i]? = some e → NoLit e
theorem XRows.nil (σ : Store) (lo k sz : Nat) : XRows σ lo k sz .nilslice [] [] [] :=
  ⟨Own.nil _ _, rfl, rfl, fun i e p h => by simp at h, fun i e h => by simp at h, Fresh.nil _, fun i j e e' id h => by simp at h, fun i e id h => by simp at h, fun i e h => by simp at h⟩
theorem XRows.lo {σ : Store} {lo lo' k sz : Nat} {l : AVal} {xs es : List AVal} {ps : List (List AVal)} (h : XRows σ lo k sz l xs es ps) (hl : lo' ≤ lo) : XRows σ lo' k sz l xs es ps :=
  ⟨h.row, h.lex, h.len, h.one, fun i e he => (h.frs i e he).le hl, h.frl.le hl, h.apart, h.off, h.lit⟩
theorem XRows.lt {σ : Store} {lo k sz : Nat} {l : AVal} {xs es : List AVal} {ps : List (List AVal)} (h : XRows σ lo k sz l xs es ps) {i : Nat} {e : AVal} (hi : es[i]? = some e) {id : Nat} (hid : e.sid = some id) : id < σ.length := by
  have hlt := (List.getElem?_eq_some_iff.1 hi).1
  have := h.one i e (ps[i]'(by rw [← h.len]; exact hlt)) hi (List.getElem?_eq_getElem _)
  exact this.sl.lt hid
theorem XRows.grow {σ σ' : Store} {lo k sz : Nat} {l : AVal} {xs es : List AVal} {ps : List (List AVal)} (h : XRows σ lo k sz l xs es ps) (g : Grows σ σ') : XRows σ' lo k sz l xs es ps :=
  ⟨h.row.grow g, h.lex, h.len, fun i e p h1 h2 => (h.one i e p h1 h2).grow g, h.frs, h.frl, h.apart, h.off, h.lit⟩
theorem XRows.keeps {σ σ' : Store} {M : Nat → Prop} {lo k sz : Nat} {l : AVal} {xs es : List AVal} {ps : List (List AVal)} (h : XRows σ lo k sz l xs es ps) (g : Keeps M σ σ') (hm : ∀ i, i < σ.length → lo ≤ i → ¬ M i) : XRows σ' lo k sz l xs es ps :=
  ⟨Own.keeps h.row g fun id hid => hm id (h.row.sl.lt hid) (h.frl id hid), h.lex, h.len, fun i e p h1 h2 => Own.keeps (h.one i e p h1 h2) g fun id hid => hm id (h.lt h1 hid) (h.frs i e h1 id hid), h.frs, h.frl, h.apart, h.off, h.lit⟩
theorem XRows.push {σ σ1 : Store} {lo k sz : Nat} {l : AVal} {xs es : List AVal} {ps : List (List AVal)} (h : XRows σ lo k sz l xs es ps) (hlo : lo ≤ σ.length) (g : Grows σ σ1) {x e : AVal} {p : List AVal} (he : Own σ1 sz e p) (fe : Fresh σ.length e) (le : NoLit e)
    (bytes : Nat) (hb : (es.length + 1) * bytes ≤ 70368744177664) :
    ∃ l' σ2, appendV σ1 k bytes l [x] = some (l', σ2) ∧ XRows σ2 lo k sz l' (xs ++ [x]) (es ++ [e]) (ps ++ [p]) ∧ Keeps (fun i => lo ≤ i) σ1 σ2 := by
  obtain ⟨l', σ2, h1, h2, h3, h4, h5⟩ := (h.row.grow g).append [x] bytes (by rw [h.lex]; exact hb)
  have old : ∀ (i : Nat) (x : AVal), (es ++ [e])[i]? = some x → (es[i]? = some x ∧ i < es.length) ∨ (i = es.length ∧ x = e) := by
    intro i x hx
    rw [List.getElem?_append] at hx
    split at hx
    · rename_i hlt; exact .inl ⟨hx, hlt⟩
    · rename_i hlt
      rw [List.getElem?_singleton] at hx
      split at hx
      · injection hx with hx; exact .inr ⟨by omega, hx.symm⟩
      · cases hx
  have hll : ∀ id, l.sid = some id → id < σ.length := fun id hid => h.row.sl.lt hid
  have hx1 : ∀ (i : Nat) (x : AVal) (id : Nat), (es ++ [e])[i]? = some x → x.sid = some id → id < σ1.length ∧ l.sid ≠ some id := by
    intro i x id hx hid
    rcases old i x hx with ⟨hx, _⟩ | ⟨_, rfl⟩
    · exact ⟨Nat.lt_of_lt_of_le (h.lt hx hid) g.1, h.off i x id hx hid⟩
    · exact ⟨he.sl.lt hid, fun hl => by have := fe id hid; have := hll id hl; omega⟩
  refine ⟨l', σ2, h1, ⟨h2, by simp [h.lex], by simp [h.len], ?_, ?_, ?_, ?_, ?_, ?_⟩, h3.mono fun i hi hs => h.frl i hs⟩
  · intro i x q hx hq
    refine Own.keeps (σ := σ1) ?_ h3 fun id hid => (hx1 i x id hx hid).2
    rcases old i x hx with ⟨hx, hlt⟩ | ⟨rfl, rfl⟩
    · rw [List.getElem?_append_left (by rw [← h.len]; exact hlt)] at hq
      exact (h.one i x q hx hq).grow g
    · rw [h.len, List.getElem?_append_right (Nat.le_refl _), Nat.sub_self] at hq
      simp at hq; subst hq; exact he
  · intro i x hx
    rcases old i x hx with ⟨hx, _⟩ | ⟨_, rfl⟩
    · exact h.frs i x hx
    · exact fe.le hlo
  · intro id hid
    rcases h4 id hid with hh | hh
    · exact h.frl id hh
    · have := g.1; omega
  · intro i j x y id hx hy hxi hyi
    rcases old i x hx with ⟨hx', hil⟩ | ⟨hi, hxe⟩ <;> rcases old j y hy with ⟨hy', hjl⟩ | ⟨hj, hye⟩
    · exact h.apart i j x y id hx' hy' hxi hyi
    · rw [hye] at hyi; have := h.lt hx' hxi; have := fe id hyi; omega
    · rw [hxe] at hxi; have := h.lt hy' hyi; have := fe id hxi; omega
    · omega
  · intro i x id hx hid hl
    obtain ⟨k1, k2⟩ := hx1 i x id hx hid
    rcases h4 id hl with hh | hh
    · exact k2 hh
    · omega
  · intro i x hx
    rcases old i x hx with ⟨hx, _⟩ | ⟨_, rfl⟩
    · exact h.lit i x hx
    · exact le
end Go.Proofs.YtkjnanfkclijcaaDoor.Am

namespace Go.Proofs.YtkjnanfkclijcaaDoor.Am
open Go
set_option linter.unusedVariables false
set_option linter.unusedSimpArgs false
set_option linter.unusedSectionVars false
set_option maxRecDepth 100000
theorem nm_putB (σ : Store) (v : Nm) : storeV (σ ++ [AObj.cells [.int .i64 0, .int .i64 0]]) 2 (.ptr σ.length 0) (nmV v) = some (σ ++ [AObj.cells (nmC v)]) := by
  have h : (σ ++ [AObj.cells [.int .i64 0, .int .i64 0]])[σ.length]? = some (.cells [.int .i64 0, .int .i64 0]) := by simp
  rw [nm_agg, storeN_cells (cs' := nmC v) (n := 2) h rfl rfl rfl, set_last]
theorem HeapP.look1 {σ : Store} {id mid : Nat} {vs : List AVal} {H : Hp} (h : HeapP σ id mid vs H) (v : Nm) :
    ∃ u, lookupV σ true [.i, .i] .nilslice (.map mid) (nmV v) false = some u ∧ Told u ((lk H v).getD []) := by
  obtain ⟨o, h1, h2⟩ := find_nm v H
  have hk : keyEq true [.i, .i] (nmV v) (nmV v) = some true := by rw [nm_keyEq, decide_eq_true rfl]
  have hf : findKK true [.i, .i] (nmV v) (H.map fun p => nmV p.1) = some o := by simp only [findKK, hk, Option.isSome_some, if_true, h1]
  have hm : mapOf σ (.map mid) = some (H.map fun p => nmV p.1, vs) := by simp only [mapOf, h.map]
  cases o with
  | none =>
    refine ⟨.nilslice, ?_, ?_⟩
    · simp only [lookupV, hm, hf]; rfl
    · rw [h2]; exact Told.nil
  | some i =>
    obtain ⟨p, p1, p2, p3⟩ := h2
    obtain ⟨hi, hpe⟩ := List.getElem?_eq_some_iff.1 p1
    obtain ⟨u, u1, u2⟩ := h.vals.get hi
    refine ⟨u, ?_, ?_⟩
    · simp only [lookupV, hm, hf, u1, Option.map_some]; rfl
    · rw [p3]; rw [hpe] at u2; exact u2
def bdVs (R : Hp) (us : List AVal) : List AVal := List.zipWith (fun p u => bdV p.1 u) R us
abbrev BRows (σ : Store) (lo : Nat) (l : AVal) (us : List AVal) (R : Hp) : Prop := XRows σ lo 3 5 l (bdVs R us) us (R.map fun p => CC p.2)
section
variable (d : Nat) (σ : Store)
theorem mkeys_ok (m : AVal) (hm : m.one = true) : Called CU.cfg d 98 [m] σ fun r σ' => r = .func 143 [] [.ptr σ.length 0] ∧ σ' = σ ++ [.cells [m]] := by
  refine called_of (fn := CU.a98) rfl (Nat.le_of_ble_eq_true rfl) ?_
  simp only [CU.a98]
  have hc : m.cells = [m] := by cases m <;> simp_all [AVal.one]
  have h1 : [m].all AVal.one = true := by simp only [List.all_cons, List.all_nil, hm]; rfl
  simp -dsimp only [↓WPd, ↓wpC_block, ↓wpC_cond, WPu, Bool.false_eq_true, Bool.true_eq_false, Bool.not_true, Bool.not_false, if_true, if_false, ite_true, ite_false, Nat.reduceEqDiff, Nat.reduceLT, true_and, List.map_cons, List.map_nil, Nat.zero_add, Nat.reduceBEq, hc, h1]
theorem sorted_ok (i mid : Nat) (ns : List Nm) (vs : List AVal) (h1 : σ[i]? = some (.cells [.map mid])) (h2 : σ[mid]? = some (.map (ns.map nmV) vs)) (hn : ns.length ≤ 8796093022208) :
    Called CU.cfg d 97 [.func 143 [] [.ptr i 0], .func 99 [] []] σ fun r σ' => SlOf σ' 2 r ((sortN ns).map nmV) ∧ Grows σ σ' := by
  have hk : keysOf σ (.map mid) = some (ns.map nmV) := by simp only [keysOf, h2]
  have he : natSF 143 99 [.func 143 [] [.ptr i 0], .func 99 [] []] σ = some (match ns with | [] => (.nilslice, σ) | _ => (.slice 2 σ.length 0 0 ns.length none, σ ++ [.arr 2 ((sortN ns).map nmV) 0 0])) := by
    simp only [natSF, and_self, if_true, h1, hk, nmsOf_map, if_pos hn]
    cases ns <;> rfl
  cases ns with
  | nil => exact called_nat rfl he ⟨SlOf.nil _ _, Keeps.refl _ _⟩
  | cons x r =>
    refine called_nat rfl he ⟨?_, Grows.app _ _⟩
    have hl : ((sortN (x :: r)).map nmV).length = (x :: r).length := by rw [List.length_map, sortN_len]
    refine ⟨?_, ?_, fun s id ep off len c h => by cases h⟩
    · have e : ((sortN (x :: r)).map nmV).take (x :: r).length = (sortN (x :: r)).map nmV := List.take_of_length_le (by omega)
      simp only [List.length_cons] at e
      simp [elems, hl, e]
    · simp [lenSV, hl]
set_option maxHeartbeats 1000000 in
theorem bindings_ok (id mid : Nat) (vs : List AVal) (H R : Hp) (h : HeapP σ id mid vs H) (hs : Same H R) (hn : R.length < 2 ^ 30) (hsm : ∀ p ∈ R, p.2.length < 2 ^ 30) :
    Called CU.cfg d 36 [.ptr id 0] σ fun l σ' => Grows σ σ' ∧ ∃ us, BRows σ' σ.length l us R := by
  refine called_of (fn := CU.a36) rfl (Nat.le_of_ble_eq_true rfl) ?_
  simp only [CU.a36]
  have e1 : ([AVal.map mid] : List AVal)[0]? = some (.map mid) := rfl
  simp -dsimp only [↓WPd, ↓wpC_block, ↓wpC_cond, WPu, Bool.false_eq_true, Bool.true_eq_false, Bool.not_true, Bool.not_false, if_true, if_false, ite_true, ite_false, Nat.reduceEqDiff, Nat.reduceLT, true_and, List.map_cons, List.map_nil, Nat.zero_add, Nat.reduceBEq, isnil_ptr, faddr_ptr, Nat.add_zero, load_cells h.obj, e1]
  refine calledW_of (mkeys_ok d σ (.map mid) rfl) ?_
  rintro r σ1 ⟨rfl, rfl⟩
  have g1 : Grows σ (σ ++ [AObj.cells [.map mid]]) := Grows.app _ _
  have ho : (σ ++ [AObj.cells [.map mid]])[σ.length]? = some (.cells [.map mid]) := by simp
  have h1 := h.grow g1
  generalize σ ++ [AObj.cells [.map mid]] = σ1 at g1 ho h1
  simp -dsimp only [↓WPd, ↓wpC_block, ↓wpC_cond, WPu, Bool.false_eq_true, Bool.true_eq_false, Bool.not_true, Bool.not_false, if_true, if_false, ite_true, ite_false, Nat.reduceEqDiff, Nat.reduceLT, true_and, List.map_cons, List.map_nil, Nat.zero_add, Nat.reduceBEq]
  have hm := h1.map
  have em : (H.map fun p => nmV p.1) = (H.map (·.1)).map nmV := by rw [List.map_map]; rfl
  rw [em] at hm
  have hHR := hs.perm.length_eq
  refine calledW_of (sorted_ok d σ1 σ.length mid (H.map (·.1)) vs ho hm (by rw [List.length_map]; omega)) ?_
  rintro r σ2 ⟨hr, g2⟩
  rw [hs.sort] at hr
  have g02 := g1.trans g2
  have h2 := h1.grow g2
  have lr : lenSV r = some R.length := by rw [hr.len]; simp
  simp -dsimp only [↓WPd, ↓wpC_block, ↓wpC_cond, WPu, Bool.false_eq_true, Bool.true_eq_false, Bool.not_true, Bool.not_false, if_true, if_false, ite_true, ite_false, Nat.reduceEqDiff, Nat.reduceLT, true_and, List.map_cons, List.map_nil, Nat.zero_add, Nat.reduceBEq, lr]
  refine loop_rule2 (fun m vs' σ' => ∃ (k : Nat) (l : AVal) (us : List AVal), k ≤ R.length ∧ m = R.length - k ∧ vs' = [.ptr id 0, l, r, .int .i64 R.length, .int .i64 (k : Nat)] ∧ Grows σ σ' ∧ Grows σ2 σ' ∧ BRows σ' σ2.length l us (R.take k))
    [3] (fun e vs' σ' => e = .exit 0 ∧ ∃ (l : AVal) (us : List AVal), vs' = [l] ∧ Grows σ σ' ∧ BRows σ' σ2.length l us R) R.length
    ⟨0, .nilslice, [], Nat.zero_le _, rfl, ?_, g02, Keeps.refl _ _, XRows.nil _ _ _ _⟩ ?_ ?_
  · simp -dsimp only [↓WPd, ↓wpC_block, ↓wpC_cond, WPu, Bool.false_eq_true, Bool.true_eq_false, Bool.not_true, Bool.not_false, if_true, if_false, ite_true, ite_false, Nat.reduceEqDiff, Nat.reduceLT, true_and, List.map_cons, List.map_nil, Nat.zero_add, Nat.reduceBEq]; rfl
  · rintro m vs' σ' ⟨k, l, us, hk, rfl, rfl, g, g', hx⟩
    simp -dsimp only [↓WPd, ↓wpC_block, ↓wpC_cond, WPu, Bool.false_eq_true, Bool.true_eq_false, Bool.not_true, Bool.not_false, if_true, if_false, ite_true, ite_false, Nat.reduceEqDiff, Nat.reduceLT, true_and, List.map_cons, List.map_nil, Nat.zero_add, Nat.reduceBEq]
    refine condP_dec (fun hc => ?_) (fun hc => ?_)
    · have hk' : k < R.length := by omega
      have hr' := hr.grow g'
      have hke : k < ((R.map (·.1)).map nmV).length := by simpa using hk'
      have ia : iaddrV 2 r (.int .i64 k) = some (addrOf 2 r k) := hr'.iaddr hke .i64
      have hb := (hr'.addr hke .i64).2
      have hb' : behind σ' (addrOf 2 r k) = some (nmC R[k].1, 0) := by
        rw [hb]; simp only [List.getElem_map, nm_cells]
      have ld : loadV σ' 2 true (addrOf 2 r k) = some (nmV R[k].1) := loadN_at hb' (by simp [nmC])
      have ho' : (σ' ++ [AObj.cells (nmC R[k].1)])[σ'.length]? = some (.cells (nmC R[k].1)) := by simp
      have g3 : Grows σ' (σ' ++ [AObj.cells (nmC R[k].1)]) := Grows.app _ _
      simp -dsimp only [↓WPd, ↓wpC_block, ↓wpC_cond, WPu, Bool.false_eq_true, Bool.true_eq_false, Bool.not_true, Bool.not_false, if_true, if_false, ite_true, ite_false, Nat.reduceEqDiff, Nat.reduceLT, true_and, List.map_cons, List.map_nil, Nat.zero_add, Nat.reduceBEq, ia, ld, nm_putB]
      have h3 := (h2.grow g').grow g3
      have hx3 := hx.grow g3
      have g03 := g.trans g3
      have g23 := g'.trans g3
      have hl3 : σ2.length ≤ (σ' ++ [AObj.cells (nmC R[k].1)]).length := g23.1
      generalize σ' ++ [AObj.cells (nmC R[k].1)] = σ3 at ho' g3 h3 hx3 g03 g23 hl3
      obtain ⟨t, u1, u2⟩ := h3.look1 R[k].1
      have hlk : (lk H R[k].1).getD [] = R[k].2 := by
        rw [lk_of_mem hs.wf.keys (t := R[k].2) (hs.perm.mem_iff.2 (show (R[k].1, R[k].2) ∈ R from List.getElem_mem hk'))]; rfl
      rw [hlk] at u2
      refine drawnP_of rfl ?_
      simp -dsimp only [↓WPd, ↓wpC_block, ↓wpC_cond, WPu, Bool.false_eq_true, Bool.true_eq_false, Bool.not_true, Bool.not_false, if_true, if_false, ite_true, ite_false, Nat.reduceEqDiff, Nat.reduceLT, true_and, List.map_cons, List.map_nil, Nat.zero_add, Nat.reduceBEq, ↓WPed, WPeu, Nat.reduceAdd, and_self, load_nm ho', isnil_ptr, faddr_ptr, Nat.add_zero, load_cells h3.obj, e1, u1]
      refine calledW_of (cclone_ok d σ3 t R[k].2 (hsm _ (List.getElem_mem hk')) (u2 σ3)) ?_
      rintro u σ4 ⟨g4, ou, fu, nu⟩
      obtain ⟨l', σ5, a1, a2, a3⟩ := hx3.push hl3 g4 (x := bdV R[k].1 u) ou (fu.le (Nat.le_refl _)) nu 40 (by have := hx3.lex; have := hx3.len; simp only [List.length_map, List.length_take] at this; omega)
      have fl := elems_fs 3 (AVal.tagL [bdV R[k].1 u]) true σ4 [bdV R[k].1 u]
      simp -dsimp only [↓WPd, ↓wpC_block, ↓wpC_cond, WPu, Bool.false_eq_true, Bool.true_eq_false, Bool.not_true, Bool.not_false, if_true, if_false, ite_true, ite_false, Nat.reduceEqDiff, Nat.reduceLT, true_and, List.map_cons, List.map_nil, Nat.zero_add, Nat.reduceBEq, ↓WPed, WPeu, Nat.reduceAdd, and_self, load_nm ho', load_nm (g4.get ho'), isnil_ptr, faddr_ptr, Nat.add_zero, bd_build R[k].1 u ou.one, bd_lit R[k].1 u ou.one, fl, a1]
      have ht : R.take (k + 1) = R.take k ++ [R[k]] := List.take_succ_eq_append_getElem hk'
      have hul : us.length = (R.take k).length := by have := hx3.len; simpa using this
      have hbd : bdVs (R.take (k + 1)) (us ++ [u]) = bdVs (R.take k) us ++ [bdV R[k].1 u] := by
        rw [ht]; unfold bdVs
        rw [List.zipWith_append hul.symm]; rfl
      refine ⟨R.length - (k + 1), by omega, k + 1, l', us ++ [u], by omega, rfl, by rw [wrap_i64 (by omega) (by omega), Int.natCast_add, Int.natCast_one], ?_, ?_, ?_⟩
      · exact Keeps.trans (g03.trans g4) a3 fun i hi e => by have := g02.1; omega
      · exact Keeps.trans (g23.trans g4) a3 fun i hi e => by omega
      · rw [BRows, hbd, ht, List.map_append]; exact a2
    · have : k = R.length := by omega
      subst this
      rw [List.take_length] at hx
      simp -dsimp only [↓WPd, ↓wpC_block, ↓wpC_cond, WPu, Bool.false_eq_true, Bool.true_eq_false, Bool.not_true, Bool.not_false, if_true, if_false, ite_true, ite_false, Nat.reduceEqDiff, Nat.reduceLT, true_and, List.map_cons, List.map_nil, Nat.zero_add, Nat.reduceBEq]
      exact ⟨l, us, rfl, g, hx⟩
  · rintro e σ' env ⟨rfl, l, us, hv, g, hx⟩
    simp only [List.map_cons, List.map_nil, List.cons.injEq, and_true] at hv
    simp -dsimp only [↓WPd, ↓wpC_block, ↓wpC_cond, WPu, Bool.false_eq_true, Bool.true_eq_false, Bool.not_true, Bool.not_false, if_true, if_false, ite_true, ite_false, Nat.reduceEqDiff, Nat.reduceLT, true_and, List.map_cons, List.map_nil, Nat.zero_add, Nat.reduceBEq, hv]
    exact ⟨g, us, hx.lo g02.1⟩
end
end Go.Proofs.YtkjnanfkclijcaaDoor.Am

namespace Go.Proofs.YtkjnanfkclijcaaDoor.Am
open Go
set_option linter.unusedVariables false
set_option linter.unusedSimpArgs false
set_option linter.unusedSectionVars false
set_option maxRecDepth 100000
def BdSl (σ : Store) (v : AVal) (R : Hp) : Prop := ∃ es, SlOf σ 3 v es ∧ Two (fun e p => ∃ u, e = bdV p.1 u ∧ SlOf σ 5 u (CC p.2)) es R
theorem BdSl.grow {σ σ' : Store} {v : AVal} {R : Hp} (h : BdSl σ v R) (g : Grows σ σ') : BdSl σ' v R := by
  obtain ⟨es, h1, h2⟩ := h
  exact ⟨es, h1.grow g, h2.mono fun e p ⟨u, hu, hs⟩ => ⟨u, hu, hs.grow g⟩⟩
theorem BdSl.len {σ : Store} {v : AVal} {R : Hp} (h : BdSl σ v R) : lenSV v = some R.length := by
  obtain ⟨es, h1, h2⟩ := h
  rw [← h2.len]; exact h1.len
theorem BdSl.at {σ : Store} {v : AVal} {R : Hp} (h : BdSl σ v R) {k : Nat} (hk : k < R.length) : ∃ q0 q2 u, iaddrV 3 v (.int .i64 k) = some (addrOf 3 v k) ∧ faddrV 0 (addrOf 3 v k) = some q0 ∧ loadV σ 2 true q0 = some (nmV R[k].1) ∧ faddrV 2 (addrOf 3 v k) = some q2 ∧ loadV σ 1 false q2 = some u ∧ SlOf σ 5 u (CC R[k].2) := by
  obtain ⟨es, h1, h2⟩ := h
  have hke : k < es.length := by rw [h2.len]; exact hk
  obtain ⟨e, he1, u, he2, he3⟩ := h2.get hk
  have hee : es[k] = e := by rw [List.getElem?_eq_getElem hke] at he1; exact Option.some.inj he1
  have hb := (h1.addr hke .i64).2
  rw [hee, he2] at hb
  have hb' : behind σ (addrOf 3 v k) = some (bdC (R[k]).1 u, 0) := hb
  obtain ⟨q0, p0, b0⟩ := faddr_at hb' 0
  obtain ⟨q2, p2, b2⟩ := faddr_at hb' 2
  exact ⟨q0, q2, u, h1.iaddr hke .i64, p0, loadN_at b0 (by simp [bdC]), p2, load_at b2, he3⟩
theorem RefP.bds {σ : Store} {A : Nat → Prop} {id : Nat} {R : Hp} (h : RefP σ A id R) : ∃ w, σ[id]? = some (.cells [w]) ∧ BdSl σ w R := by
  obtain ⟨w, es, h1, h2, _, h4⟩ := h
  exact ⟨w, h1, es, h2, h4.mono fun e p ⟨u, hu, hs, _⟩ => ⟨u, hu, hs⟩⟩
theorem bdVs_get {R : Hp} {us : List AVal} (h : us.length = R.length) {k : Nat} (hk : k < R.length) : (bdVs R us)[k]? = some (bdV R[k].1 (us[k]'(by omega))) := by
  unfold bdVs
  rw [List.getElem?_zipWith, List.getElem?_eq_getElem hk, List.getElem?_eq_getElem (by omega)]
theorem BRows.bds {σ : Store} {lo : Nat} {l : AVal} {us : List AVal} {R : Hp} (h : BRows σ lo l us R) : BdSl σ l R := by
  have hl : us.length = R.length := by have := h.len; simpa using this
  refine ⟨_, h.row.sl, Two.of_get (by rw [h.lex]; exact hl) fun i a b hi hj => ?_⟩
  obtain ⟨hk, rfl⟩ := List.getElem?_eq_some_iff.1 hj
  have e := bdVs_get hl hk
  rw [hi] at e
  exact ⟨us[i]'(by omega), Option.some.inj e, (h.one i (us[i]'(by omega)) (CC R[i].2) (List.getElem?_eq_getElem _) (by simp [hk])).sl⟩
section
variable (d : Nat) (σ : Store)
theorem hvalue_ok (hv : AVal) (H : Hp) (v : Nm) (h : HeapV σ hv H) (hs : ((lk H v).getD []).length < 2 ^ 30) : Called CU.cfg d 38 [hv, nmV v] σ fun r σ' => ∃ u, r = .tuple [u, .bool (lk H v).isSome] ∧ Own σ' 5 u (CC ((lk H v).getD [])) ∧ Fresh σ.length u ∧ NoLit u ∧ Grows σ σ' := by
  refine called_of (fn := CU.a38) rfl (Nat.le_of_ble_eq_true rfl) ?_
  simp only [CU.a38]
  simp -dsimp only [↓WPd, ↓wpC_block, ↓wpC_cond, WPu, Bool.false_eq_true, Bool.true_eq_false, Bool.not_true, Bool.not_false, if_true, if_false, ite_true, ite_false, Nat.reduceEqDiff, Nat.reduceLT, true_and, List.map_cons, List.map_nil, Nat.zero_add, Nat.reduceBEq, nm_cells, nm_one]
  have ho : (σ ++ [AObj.cells (nmC v)])[σ.length]? = some (.cells (nmC v)) := by simp
  have g0 : Grows σ (σ ++ [AObj.cells (nmC v)]) := Grows.app _ _
  have h1 := h.grow g0
  generalize σ ++ [AObj.cells (nmC v)] = σ1 at ho g0 h1
  simp -dsimp only [↓WPd, ↓wpC_block, ↓wpC_cond, WPu, Bool.false_eq_true, Bool.true_eq_false, Bool.not_true, Bool.not_false, if_true, if_false, ite_true, ite_false, Nat.reduceEqDiff, Nat.reduceLT, true_and, List.map_cons, List.map_nil, Nat.zero_add, Nat.reduceBEq, load_nm ho]
  refine calledW_of (value_ok d σ1 hv H v h1) ?_
  rintro r σ2 ⟨u, rfl, hu, g2⟩
  simp -dsimp only [↓WPd, ↓wpC_block, ↓wpC_cond, WPu, Bool.false_eq_true, Bool.true_eq_false, Bool.not_true, Bool.not_false, if_true, if_false, ite_true, ite_false, Nat.reduceEqDiff, Nat.reduceLT, true_and, List.map_cons, List.map_nil, Nat.zero_add, Nat.reduceBEq, List.getElem?_cons_zero, List.getElem?_cons_succ]
  refine calledW_of (cclone_ok d σ2 u _ hs (hu σ2)) ?_
  rintro w σ3 ⟨g3, ow, fw, nw⟩
  simp -dsimp only [↓WPd, ↓wpC_block, ↓wpC_cond, WPu, Bool.false_eq_true, Bool.true_eq_false, Bool.not_true, Bool.not_false, if_true, if_false, ite_true, ite_false, Nat.reduceEqDiff, Nat.reduceLT, true_and, List.map_cons, List.map_nil, Nat.zero_add, Nat.reduceBEq]
  exact ⟨w, rfl, ow, fw.le (g0.trans g2).1, nw, (g0.trans g2).trans g3⟩
theorem samebd_ok (a b : AVal) (R : Hp) (ha : BdSl σ a R) (hb : BdSl σ b R) (hR : R.length < 2 ^ 40) (hs : ∀ p ∈ R, p.2.length < 2 ^ 40) : Called CU.cfg d 42 [a, b] σ fun v σ' => v = .bool true ∧ Grows σ σ' := by
  refine called_of (fn := CU.a42) rfl (Nat.le_of_ble_eq_true rfl) ?_
  simp only [CU.a42]
  have la := ha.len
  have lb := hb.len
  have e0 : ((R.length : Int) != (R.length : Int)) = false := by simp
  simp -dsimp only [↓WPd, ↓wpC_block, ↓wpC_cond, WPu, Bool.false_eq_true, Bool.true_eq_false, Bool.not_true, Bool.not_false, if_true, if_false, ite_true, ite_false, Nat.reduceEqDiff, Nat.reduceLT, true_and, List.map_cons, List.map_nil, Nat.zero_add, Nat.reduceBEq, la, lb, e0]
  refine loop_rule2 (fun m vs σ' => ∃ k, k ≤ R.length ∧ m = R.length - k ∧ vs = [a, b, .int .i64 (k : Nat)] ∧ Grows σ σ')
    [] (fun e vs σ' => e = .exit 0 ∧ Grows σ σ') R.length ⟨0, Nat.zero_le _, rfl, ?_, Keeps.refl _ _⟩ ?_ ?_
  · simp -dsimp only [↓WPd, ↓wpC_block, ↓wpC_cond, WPu, Bool.false_eq_true, Bool.true_eq_false, Bool.not_true, Bool.not_false, if_true, if_false, ite_true, ite_false, Nat.reduceEqDiff, Nat.reduceLT, true_and, List.map_cons, List.map_nil, Nat.zero_add, Nat.reduceBEq]; rfl
  · rintro m vs σ' ⟨k, hk, rfl, rfl, g⟩
    simp -dsimp only [↓WPd, ↓wpC_block, ↓wpC_cond, WPu, Bool.false_eq_true, Bool.true_eq_false, Bool.not_true, Bool.not_false, if_true, if_false, ite_true, ite_false, Nat.reduceEqDiff, Nat.reduceLT, true_and, List.map_cons, List.map_nil, Nat.zero_add, Nat.reduceBEq, la]
    refine condP_dec (fun hc => ?_) (fun hc => ?_)
    · have hk' : k < R.length := by omega
      obtain ⟨q0, q2, u, a1, a2, a3, a4, a5, a6⟩ := (ha.grow g).at hk'
      obtain ⟨q0', q2', u', b1, b2, b3, b4, b5, b6⟩ := (hb.grow g).at hk'
      have en := nm_eqs R[k].1 R[k].1
      rw [decide_eq_true rfl] at en
      simp -dsimp only [↓WPd, ↓wpC_block, ↓wpC_cond, WPu, Bool.false_eq_true, Bool.true_eq_false, Bool.not_true, Bool.not_false, if_true, if_false, ite_true, ite_false, Nat.reduceEqDiff, Nat.reduceLT, true_and, List.map_cons, List.map_nil, Nat.zero_add, Nat.reduceBEq, WPm, a1, a2, a3, a4, a5, b1, b2, b3, b4, b5, en]
      refine calledW_of (cequal_ok d σ' u u' R[k].2 R[k].2 (hs _ (List.getElem_mem hk')) a6 b6) ?_
      rintro r σ2 ⟨rfl, rfl⟩
      simp -dsimp only [↓WPd, ↓wpC_block, ↓wpC_cond, WPu, Bool.false_eq_true, Bool.true_eq_false, Bool.not_true, Bool.not_false, if_true, if_false, ite_true, ite_false, Nat.reduceEqDiff, Nat.reduceLT, true_and, List.map_cons, List.map_nil, Nat.zero_add, Nat.reduceBEq, decide_true]
      refine ⟨R.length - (k + 1), by omega, k + 1, by omega, rfl, by rw [wrap_i64 (by omega) (by omega), Int.natCast_add, Int.natCast_one], g⟩
    · simp -dsimp only [↓WPd, ↓wpC_block, ↓wpC_cond, WPu, Bool.false_eq_true, Bool.true_eq_false, Bool.not_true, Bool.not_false, if_true, if_false, ite_true, ite_false, Nat.reduceEqDiff, Nat.reduceLT, true_and, List.map_cons, List.map_nil, Nat.zero_add, Nat.reduceBEq]
      exact g
  · rintro e σ' env ⟨rfl, g⟩
    simp -dsimp only [↓WPd, ↓wpC_block, ↓wpC_cond, WPu, Bool.false_eq_true, Bool.true_eq_false, Bool.not_true, Bool.not_false, if_true, if_false, ite_true, ite_false, Nat.reduceEqDiff, Nat.reduceLT, true_and, List.map_cons, List.map_nil, Nat.zero_add, Nat.reduceBEq]
    exact g
set_option maxHeartbeats 1000000 in
theorem hchain_ok (hv tv : AVal) (H : Hp) (t : List Cel) (h : HeapV σ hv H) (hw : WF H) (hH : H.length < 2 ^ 30) (ht : SlOf σ 5 tv (CC t)) (hs : t.length < 2 ^ 30) :
    Called CU.cfg d 40 [hv, tv] σ fun r σ' => Grows σ σ' ∧ ∃ es, XRows σ' σ.length 1 5 r es es ((chain H t).map CC) := by
  refine called_of (fn := CU.a40) rfl (Nat.le_of_ble_eq_true rfl) ?_
  have ll := ht.len
  rw [List.length_map] at ll
  simp only [CU.a40]
  have k0 : ((t.length : Int) == 0) = decide (t = []) := by cases t <;> simp <;> omega
  simp -dsimp only [↓WPd, ↓wpC_block, ↓wpC_cond, WPu, Bool.false_eq_true, Bool.true_eq_false, Bool.not_true, Bool.not_false, if_true, if_false, ite_true, ite_false, Nat.reduceEqDiff, Nat.reduceLT, true_and, List.map_cons, List.map_nil, Nat.zero_add, Nat.reduceBEq, ll, k0]
  refine condP_dec (fun h0 => ?_) (fun h0 => ?_)
  · simp -dsimp only [↓WPd, ↓wpC_block, ↓wpC_cond, WPu, Bool.false_eq_true, Bool.true_eq_false, Bool.not_true, Bool.not_false, if_true, if_false, ite_true, ite_false, Nat.reduceEqDiff, Nat.reduceLT, true_and, List.map_cons, List.map_nil, Nat.zero_add, Nat.reduceBEq]
    rw [chain, if_pos h0]
    exact ⟨Keeps.refl _ _, [], XRows.nil _ _ _ _⟩
  · simp -dsimp only [↓WPd, ↓wpC_block, ↓wpC_cond, WPu, Bool.false_eq_true, Bool.true_eq_false, Bool.not_true, Bool.not_false, if_true, if_false, ite_true, ite_false, Nat.reduceEqDiff, Nat.reduceLT, true_and, List.map_cons, List.map_nil, Nat.zero_add, Nat.reduceBEq]
    refine calledW_of (cclone_ok d σ tv t hs ht) ?_
    rintro u0 σ1 ⟨g1, ou, fu, nu⟩
    have e1 : ∀ u : AVal, u.one = true → fillL 1 false (List.replicate 1 (zel [AVal.nilslice] false)) [(0, u)] = some [u] := fun u hu => by
      have hc : u.cells = [u] := by cases u <;> simp_all [AVal.one]
      have h1 : [u].all AVal.one = true := by simp only [List.all_cons, List.all_nil, hu]; rfl
      have h2 : isAggV u = false := by cases u <;> first | (cases hu; done) | rfl
      simp only [fillL, hc, h1, h2]
      rfl
    simp -dsimp only [↓WPd, ↓wpC_block, ↓wpC_cond, WPu, Bool.false_eq_true, Bool.true_eq_false, Bool.not_true, Bool.not_false, if_true, if_false, ite_true, ite_false, Nat.reduceEqDiff, Nat.reduceLT, true_and, List.map_cons, List.map_nil, Nat.zero_add, Nat.reduceBEq, e1 u0 ou.one]
    refine calledW_of (next_ok d σ1 hv tv H t (h.grow g1) (ht.grow g1)) ?_
    rintro r2 σ2 ⟨u, rfl, hu, g2⟩
    simp -dsimp only [↓WPd, ↓wpC_block, ↓wpC_cond, WPu, Bool.false_eq_true, Bool.true_eq_false, Bool.not_true, Bool.not_false, if_true, if_false, ite_true, ite_false, Nat.reduceEqDiff, Nat.reduceLT, true_and, List.map_cons, List.map_nil, Nat.zero_add, Nat.reduceBEq, List.getElem?_cons_zero, List.getElem?_cons_succ]
    have hcr := chain_rank hw h0
    have X0 : XRows σ2 σ.length 1 5 (.fslice (AVal.tagL [u0]) true 1 [u0]) [u0] [u0] ([t].map CC) := by
      have one : ∀ (i : Nat) (e : AVal), ([u0] : List AVal)[i]? = some e → i = 0 ∧ e = u0 := fun i e h => by
        rw [List.getElem?_singleton] at h
        split at h
        · injection h with h; exact ⟨by assumption, h.symm⟩
        · cases h
      refine ⟨Own.lit _ _ _ _, rfl, rfl, fun i e p h1 h2 => ?_, fun i e h1 => ?_, (fun i h => by cases h), fun i j e e' id h1 h2 _ _ => ?_, (fun i e id h1 h2 h3 => by cases h3), fun i e h1 => ?_⟩
      · obtain ⟨rfl, rfl⟩ := one i e h1
        injection h2 with h2; subst h2
        exact ou.grow g2
      · obtain ⟨rfl, rfl⟩ := one i e h1
        exact fu
      · obtain ⟨rfl, -⟩ := one i e h1
        obtain ⟨rfl, -⟩ := one j e' h2
        rfl
      · obtain ⟨rfl, rfl⟩ := one i e h1
        exact nu
    refine loop_rule2 (fun m vs σ' => ∃ (o y : AVal) (s : List Cel) (es : List AVal) (pre : List (List Cel)), m = rank H s ∧ vs = [hv, o, y, .bool (hnext H s).isSome] ∧ Grows σ σ' ∧ Told y ((hnext H s).getD []) ∧ XRows σ' σ.length 1 5 o es es ((pre ++ [s]).map CC) ∧ pre ++ chainF (rank H s) H s = chain H t)
      [5] (fun e vs σ' => e = .exit 0 ∧ ∃ (o : AVal) (es : List AVal), vs = [o] ∧ Grows σ σ' ∧ XRows σ' σ.length 1 5 o es es ((chain H t).map CC)) (rank H t)
      ⟨_, u, t, [u0], [], rfl, ?_, g1.trans g2, hu, X0, by rw [hcr]; rfl⟩ ?_ ?_
    · simp -dsimp only [↓WPd, ↓wpC_block, ↓wpC_cond, WPu, Bool.false_eq_true, Bool.true_eq_false, Bool.not_true, Bool.not_false, if_true, if_false, ite_true, ite_false, Nat.reduceEqDiff, Nat.reduceLT, true_and, List.map_cons, List.map_nil, Nat.zero_add, Nat.reduceBEq]
    · rintro m vs σ' ⟨o, y, s, es, pre, rfl, rfl, g, hy, hx, hch⟩
      cases hn : hnext H s with
      | none =>
        simp -dsimp only [↓WPd, ↓wpC_block, ↓wpC_cond, WPu, Bool.false_eq_true, Bool.true_eq_false, Bool.not_true, Bool.not_false, if_true, if_false, ite_true, ite_false, Nat.reduceEqDiff, Nat.reduceLT, true_and, List.map_cons, List.map_nil, Nat.zero_add, Nat.reduceBEq, hn, Option.isSome_none]
        rw [chainF_none hn] at hch
        rw [← hch]
        exact ⟨o, es, rfl, g, hx⟩
      | some s' =>
        rw [hn] at hy
        simp only [Option.getD_some] at hy
        have hgs : right s' = true := by
          have hn' := hn
          unfold hnext at hn'
          split at hn'
          · exact glob_right (hw.ok _ (lk_mem hn')).2.2.1
          · cases hn'
        have hs' : s'.length < 2 ^ 30 := (right_small hgs).1
        simp -dsimp only [↓WPd, ↓wpC_block, ↓wpC_cond, WPu, Bool.false_eq_true, Bool.true_eq_false, Bool.not_true, Bool.not_false, if_true, if_false, ite_true, ite_false, Nat.reduceEqDiff, Nat.reduceLT, true_and, List.map_cons, List.map_nil, Nat.zero_add, Nat.reduceBEq, hn, Option.isSome_some]
        refine calledW_of (cclone_ok d σ' y s' hs' (hy σ')) ?_
        rintro w σ3 ⟨g3, ow, fw, nw⟩
        have hlen : (pre ++ [s]).length = es.length := by have := hx.len; simpa using this.symm
        have hlc : (chain H t).length ≤ H.length + 2 := by rw [chain, if_neg h0]; exact chainF_len _ _ _
        have hpl : pre.length + 1 ≤ (chain H t).length := by
          have := congrArg List.length hch
          rw [chainF_step hw hn] at this
          simp only [List.length_append, List.length_cons] at this
          omega
        obtain ⟨o', σ4, a1, a2, a3⟩ := hx.push g.1 g3 (x := w) ow fw nw 24 (by simp at hlen; omega)
        have lit1 : ∀ (tg : Nat) (σ : Store) (x : AVal), elems 1 σ (.fslice tg true 1 [x]) = some [x] := fun tg σ x => elems_fs 1 tg true σ [x]
        simp -dsimp only [↓WPd, ↓wpC_block, ↓wpC_cond, WPu, Bool.false_eq_true, Bool.true_eq_false, Bool.not_true, Bool.not_false, if_true, if_false, ite_true, ite_false, Nat.reduceEqDiff, Nat.reduceLT, true_and, List.map_cons, List.map_nil, Nat.zero_add, Nat.reduceBEq, e1 w ow.one, lit1, a1]
        have g4 : Grows σ σ4 := Keeps.trans (g.trans g3) a3 fun i hi e => by omega
        refine calledW_of (next_ok d σ4 hv y H s' (h.grow g4) (hy σ4)) ?_
        rintro r5 σ5 ⟨u5, rfl, hu5, g5⟩
        simp -dsimp only [↓WPd, ↓wpC_block, ↓wpC_cond, WPu, Bool.false_eq_true, Bool.true_eq_false, Bool.not_true, Bool.not_false, if_true, if_false, ite_true, ite_false, Nat.reduceEqDiff, Nat.reduceLT, true_and, List.map_cons, List.map_nil, Nat.zero_add, Nat.reduceBEq, List.getElem?_cons_zero, List.getElem?_cons_succ]
        refine ⟨rank H s', rank_lt hw hn, o', u5, s', es ++ [w], pre ++ [s], rfl, rfl, g4.trans g5, hu5, ?_, ?_⟩
        · simpa using a2.grow g5
        · rw [List.append_assoc, ← hch, chainF_step hw hn]; rfl
    · rintro e σ' env ⟨rfl, o, es, hv, g, hx⟩
      simp only [List.map_cons, List.map_nil, List.cons.injEq, and_true] at hv
      simp -dsimp only [↓WPd, ↓wpC_block, ↓wpC_cond, WPu, Bool.false_eq_true, Bool.true_eq_false, Bool.not_true, Bool.not_false, if_true, if_false, ite_true, ite_false, Nat.reduceEqDiff, Nat.reduceLT, true_and, List.map_cons, List.map_nil, Nat.zero_add, Nat.reduceBEq, hv]
      exact ⟨g, es, hx⟩
end
end Go.Proofs.YtkjnanfkclijcaaDoor.Am

namespace Go.Proofs.YtkjnanfkclijcaaDoor.Am
open Go
set_option linter.unusedVariables false
set_option linter.unusedSimpArgs false
set_option linter.unusedSectionVars false
set_option maxRecDepth 100000
theorem Own.setN {σ : Store} {v : AVal} {t : List Cel} (h : Own σ 5 v (CC t)) (hn : NoLit v) {i : Nat} (hi : i < t.length) (x : Int) :
    ∃ q σ', faddrV 2 (addrOf 5 v i) = some q ∧ storeV σ 1 q (.int .i64 x) = some σ' ∧ Own σ' 5 v (CC (t.set i { t[i] with n := x })) ∧ Keeps (fun j => v.sid = some j) σ σ' := by
  have hi' : i < (CC t).length := by simpa using hi
  rcases h.own with ⟨rfl, he⟩ | ⟨tg, rfl⟩ | ⟨id, ep, off, cap, xs, epo, fl, rfl, ho, hf, he, hl, hc⟩
  · rw [he] at hi'; simp at hi'
  · have : CC t = [] := hn
    rw [this] at hi'; simp at hi'
  · rcases hc with ⟨rfl, rfl, rfl, rfl⟩ | rfl
    · have ha : addrOf 5 (.slice 5 id epo 0 (CC t).length none) i = .eptr id epo i 0 := by
        have e : (0 : Int) ≤ (i : Int) ∧ (i : Int) < ((CC t).length : Int) := by omega
        simp only [addrOf, iaddrV, e, and_self, if_true]
        simp
      refine ⟨.eptr id epo i 2, σ.set id (.arr 5 (CC (t.set i { t[i] with n := x })) epo epo), by rw [ha]; rfl, ?_, ?_, (Keeps.set _ _ _).mono fun j _ h => by rw [h]; rfl⟩
      · have e1 : (CC t)[i]? = some t[i].val := by rw [List.getElem?_eq_getElem hi', cel_get]
        have e2 : (CC t).set i (Cel.val { t[i] with n := x }) = CC (t.set i { t[i] with n := x }) := List.map_set.symm
        rw [← e2]
        simp only [storeV, ho, e1]
        rfl
      · have := Own.whole (σ := σ.set id (.arr 5 (CC (t.set i { t[i] with n := x })) epo epo)) (sz := 5) (id := id) (ep := epo) (fl := epo) (es := CC (t.set i { t[i] with n := x })) (by rw [List.getElem?_set_self (List.getElem?_eq_some_iff.1 ho).1]) (Nat.le_refl _)
        simpa using this
    · exact hn.elim
theorem BdArg.all {v : AVal} {bs : Hp} (h : BdArg v bs) {k : Nat} (hk : k < bs.length) : ∃ q0 q2 u, iaddrV 3 v (.int .i64 k) = some (addrOf 3 v k) ∧ faddrV 0 (addrOf 3 v k) = some q0 ∧ (∀ σ, loadV σ 2 true q0 = some (nmV bs[k].1)) ∧ faddrV 2 (addrOf 3 v k) = some q2 ∧ (∀ σ, loadV σ 1 false q2 = some u) ∧ Told u bs[k].2 := by
  obtain ⟨es, h1, h2⟩ := h.row
  have hke : k < es.length := by rw [h2.len]; exact hk
  obtain ⟨e, he1, u, he2, he3⟩ := h2.get hk
  have hee : es[k] = e := by rw [List.getElem?_eq_getElem hke] at he1; exact Option.some.inj he1
  have hb : ∀ σ, behind σ (addrOf 3 v k) = some (bdC (bs[k]).1 u, 0) := fun σ => by
    have hb := ((h1 σ).addr hke .i64).2
    rw [hee, he2] at hb; exact hb
  obtain ⟨q0, p0, -⟩ := faddr_at (hb []) 0
  obtain ⟨q2, p2, -⟩ := faddr_at (hb []) 2
  refine ⟨q0, q2, u, (h1 []).iaddr hke .i64, p0, fun σ => ?_, p2, fun σ => ?_, he3⟩
  · obtain ⟨q, r0, r1⟩ := faddr_at (hb σ) 0
    rw [p0] at r0
    rw [Option.some.inj r0]
    exact loadN_at r1 (by simp [bdC])
  · obtain ⟨q, r0, r1⟩ := faddr_at (hb σ) 2
    rw [p2] at r0
    rw [Option.some.inj r0]
    exact load_at r1
section
variable (d : Nat) (σ : Store)
set_option maxHeartbeats 2000000 in
theorem both5_ok (bv : AVal) (bs : Hp) (h : BdArg bv bs) : Called CU.cfg d 35 [bv] σ fun v σ' => ∃ id mid vs rid A, v = .tuple [.ptr id 0, .ptr rid 0, .bool true] ∧ HeapP σ' id mid vs (bindsH [] bs) ∧ RefP σ' A rid (bindsR [] bs) ∧ Grows σ σ' ∧ (σ.length ≤ id ∧ σ.length ≤ mid ∧ σ.length ≤ rid ∧ ∀ i, A i → σ.length ≤ i) ∧ id ≠ rid ∧ mid ≠ rid ∧ id ≠ mid := by
  refine called_of (fn := CU.a35) rfl (Nat.le_of_ble_eq_true rfl) ?_
  simp only [CU.a35]
  have lb := h.len'
  have hlt := h.len
  simp -dsimp only [↓WPd, ↓wpC_block, ↓wpC_cond, WPu, Bool.false_eq_true, Bool.true_eq_false, Bool.not_true, Bool.not_false, if_true, if_false, ite_true, ite_false, Nat.reduceEqDiff, Nat.reduceLT, true_and, List.map_cons, List.map_nil, Nat.zero_add, Nat.reduceBEq]
  refine calledW_of (hnew_ok d σ) ?_
  rintro r σ1 ⟨id, mid, rfl, h1, g1, l1, l2, m1, m2⟩
  simp -dsimp only [↓WPd, ↓wpC_block, ↓wpC_cond, WPu, Bool.false_eq_true, Bool.true_eq_false, Bool.not_true, Bool.not_false, if_true, if_false, ite_true, ite_false, Nat.reduceEqDiff, Nat.reduceLT, true_and, List.map_cons, List.map_nil, Nat.zero_add, Nat.reduceBEq]
  refine calledW_of (rnew_ok d σ1) ?_
  rintro r σ2 ⟨rid, rfl, r2, g2, l3, m3⟩
  have hm : id ≠ mid := fun e => by have a := h1.obj; rw [e, h1.map] at a; cases a
  simp -dsimp only [↓WPd, ↓wpC_block, ↓wpC_cond, WPu, Bool.false_eq_true, Bool.true_eq_false, Bool.not_true, Bool.not_false, if_true, if_false, ite_true, ite_false, Nat.reduceEqDiff, Nat.reduceLT, true_and, List.map_cons, List.map_nil, Nat.zero_add, Nat.reduceBEq]
  refine loop_rule2 (fun m vs σ' => ∃ k ws A, k ≤ bs.length ∧ m = bs.length - k ∧ vs = [bv, .ptr id 0, .ptr rid 0, .int .i64 (k : Nat)] ∧ HeapP σ' id mid ws (bindsH [] (bs.take k)) ∧ RefP σ' A rid (bindsR [] (bs.take k)) ∧ (∀ i, A i → σ2.length ≤ i) ∧ Grows σ σ' ∧ σ2.length ≤ σ'.length)
    [5, 6] (fun e vs σ' => e = .exit 0 ∧ ∃ ws A, vs = [.ptr id 0, .ptr rid 0] ∧ HeapP σ' id mid ws (bindsH [] bs) ∧ RefP σ' A rid (bindsR [] bs) ∧ (∀ i, A i → σ2.length ≤ i) ∧ Grows σ σ') bs.length
    ⟨0, [], _, Nat.zero_le _, rfl, ?_, h1.grow g2, r2, (fun i h => h.elim), g1.trans g2, Nat.le_refl _⟩ ?_ ?_
  · simp -dsimp only [↓WPd, ↓wpC_block, ↓wpC_cond, WPu, Bool.false_eq_true, Bool.true_eq_false, Bool.not_true, Bool.not_false, if_true, if_false, ite_true, ite_false, Nat.reduceEqDiff, Nat.reduceLT, true_and, List.map_cons, List.map_nil, Nat.zero_add, Nat.reduceBEq]; rfl
  · rintro m vs σ' ⟨k, ws, A, hk, rfl, rfl, hh, hr, hA, g, hl⟩
    simp -dsimp only [↓WPd, ↓wpC_block, ↓wpC_cond, WPu, Bool.false_eq_true, Bool.true_eq_false, Bool.not_true, Bool.not_false, if_true, if_false, ite_true, ite_false, Nat.reduceEqDiff, Nat.reduceLT, true_and, List.map_cons, List.map_nil, Nat.zero_add, Nat.reduceBEq, lb]
    refine condP_dec (fun hc => ?_) (fun hc => ?_)
    · have hk' : k < bs.length := by omega
      obtain ⟨q0, q2, u, a1, a2, a3, a4, a5, a6⟩ := h.all hk'
      have hsm := h.small _ (List.getElem_mem hk')
      have el := (a6 σ').els
      obtain ⟨t8, σ3, p1, p2, p3, p4, p5⟩ := (Own.nil σ' 5).append (CC bs[k].2) 48 (by rw [List.length_map]; have := hsm.1; simp only [List.length_nil]; omega)
      rw [List.nil_append] at p2
      have g3 : Grows σ' σ3 := p3.mono fun i _ h => by cases h
      have f8 : Fresh σ'.length t8 := fun i hi => by
        rcases p4 i hi with e | e
        · cases e
        · omega
      simp -dsimp only [↓WPd, ↓wpC_block, ↓wpC_cond, WPu, Bool.false_eq_true, Bool.true_eq_false, Bool.not_true, Bool.not_false, if_true, if_false, ite_true, ite_false, Nat.reduceEqDiff, Nat.reduceLT, true_and, List.map_cons, List.map_nil, Nat.zero_add, Nat.reduceBEq, a1, a4, a5, el, p1]
      refine drawnP_of rfl ?_
      simp -dsimp only [↓WPd, ↓wpC_block, ↓wpC_cond, WPu, Bool.false_eq_true, Bool.true_eq_false, Bool.not_true, Bool.not_false, if_true, if_false, ite_true, ite_false, Nat.reduceEqDiff, Nat.reduceLT, true_and, List.map_cons, List.map_nil, Nat.zero_add, Nat.reduceBEq, ↓WPed, WPeu, Nat.reduceAdd, and_self, a1, a2, a3, a4, a5]
      refine calledW_of (hbind_ok d σ3 id mid ws _ bs[k].1 t8 bs[k].2 (hh.grow g3) hsm p2.sl) ?_
      rintro r3 σ4 ⟨rfl, ⟨ws4, h4⟩, k4⟩
      have hmid : mid < σ'.length := (List.getElem?_eq_some_iff.1 hh.map).1
      have hr4 : RefP σ4 (fun i => A i ∧ i < σ'.length) rid (bindsR [] (bs.take k)) := by
        refine ((hr.keeps (B := fun i => A i ∧ i < σ'.length) (Keeps.refl (fun _ => False) σ') (fun h => h) fun i hi ha => ⟨⟨ha, hi⟩, fun h => h⟩).grow g3).keeps k4 (by omega) fun i hi ha => ⟨ha, fun e => ?_⟩
        have := hA i ha.1
        have := g2.1
        omega
      have p8 : Own σ4 5 t8 (CC bs[k].2) := p2.keeps k4 fun i hi e => by have := f8 i hi; omega
      have hRl := bindsR_len (bs.take k) []
      have htk : (bs.take k).length ≤ bs.length := by simp; omega
      simp -dsimp only [↓WPd, ↓wpC_block, ↓wpC_cond, WPu, Bool.false_eq_true, Bool.true_eq_false, Bool.not_true, Bool.not_false, if_true, if_false, ite_true, ite_false, Nat.reduceEqDiff, Nat.reduceLT, true_and, List.map_cons, List.map_nil, Nat.zero_add, Nat.reduceBEq, ↓WPed, WPeu, Nat.reduceAdd, and_self, a1, a2, a3, a4, a5]
      refine calledW_of (rbind_ok d σ4 _ rid _ bs[k].1 u bs[k].2 hr4 (by simp only [List.length_nil] at hRl; omega) hsm.1 (a6 σ4)) ?_
      rintro r4 σ5 ⟨rfl, r5, k5⟩
      have p9 : Own σ5 5 t8 (CC bs[k].2) := p8.keeps k5 fun i hi e => by have := f8 i hi; omega
      have hsame : Same (bindsH [] (bs.take k)) (bindsR [] (bs.take k)) := Same.nil.binds _
      have ee : (bindE (bindsH [] (bs.take k)) bs[k].1 bs[k].2 != bindE (bindsR [] (bs.take k)) bs[k].1 bs[k].2) = false := by rw [hsame.bindE]; simp
      simp -dsimp only [↓WPd, ↓wpC_block, ↓wpC_cond, WPu, Bool.false_eq_true, Bool.true_eq_false, Bool.not_true, Bool.not_false, if_true, if_false, ite_true, ite_false, Nat.reduceEqDiff, Nat.reduceLT, true_and, List.map_cons, List.map_nil, Nat.zero_add, Nat.reduceBEq, ↓WPed, WPeu, Nat.reduceAdd, and_self, a1, a2, a3, a4, a5, ee]
      refine calledW_of (cequal_ok d σ5 t8 u bs[k].2 bs[k].2 (by have := hsm.1; omega) p9.sl (a6 σ5)) ?_
      rintro r6 σ6 ⟨rfl, rfl⟩
      simp -dsimp only [↓WPd, ↓wpC_block, ↓wpC_cond, WPu, Bool.false_eq_true, Bool.true_eq_false, Bool.not_true, Bool.not_false, if_true, if_false, ite_true, ite_false, Nat.reduceEqDiff, Nat.reduceLT, true_and, List.map_cons, List.map_nil, Nat.zero_add, Nat.reduceBEq, ↓WPed, WPeu, Nat.reduceAdd, and_self, a1, a2, a3, a4, a5, ee, decide_true]
      have n8 : NoLit t8 := p5 (.inl trivial)
      have s8 : ∀ i, t8.sid = some i → σ'.length ≤ i ∧ i < σ3.length := fun i hi => ⟨f8 i hi, p2.sl.lt hi⟩
      refine loop_rule2 (fun m vs σ' => ∃ (j : Nat) (cs : List Cel), j ≤ bs[k].2.length ∧ cs.length = bs[k].2.length ∧ m = bs[k].2.length - j ∧ vs = [bv, .ptr id 0, .ptr rid 0, .int .i64 (k : Nat), t8, .int .i64 (j : Nat)] ∧ Own σ' 5 t8 (CC cs) ∧ Keeps (fun i => t8.sid = some i) σ6 σ')
        [0, 5, 6, 7] (fun e vs σ' => e = .exit 2 ∧ vs = [bv, .ptr id 0, .ptr rid 0, .int .i64 (k : Nat)] ∧ Keeps (fun i => t8.sid = some i) σ6 σ') bs[k].2.length
        ⟨0, bs[k].2, Nat.zero_le _, rfl, rfl, ?_, p9, Keeps.refl _ _⟩ ?_ ?_
      · simp -dsimp only [↓WPd, ↓wpC_block, ↓wpC_cond, WPu, Bool.false_eq_true, Bool.true_eq_false, Bool.not_true, Bool.not_false, if_true, if_false, ite_true, ite_false, Nat.reduceEqDiff, Nat.reduceLT, true_and, List.map_cons, List.map_nil, Nat.zero_add, Nat.reduceBEq]; rfl
      · rintro m vs σ7 ⟨j, cs, hj, hcl, rfl, rfl, o7, k7⟩
        have l7 := o7.sl.len
        rw [List.length_map] at l7
        simp -dsimp only [↓WPd, ↓wpC_block, ↓wpC_cond, WPu, Bool.false_eq_true, Bool.true_eq_false, Bool.not_true, Bool.not_false, if_true, if_false, ite_true, ite_false, Nat.reduceEqDiff, Nat.reduceLT, true_and, List.map_cons, List.map_nil, Nat.zero_add, Nat.reduceBEq, l7]
        refine condP_dec (fun hc => ?_) (fun hc => ?_)
        · have hj' : j < cs.length := by omega
          obtain ⟨q, σ8, f1, f2, f3, f4⟩ := o7.setN n8 hj' 99
          have ia := o7.sl.iaddr (show j < (CC cs).length by simpa using hj') .i64
          simp -dsimp only [↓WPd, ↓wpC_block, ↓wpC_cond, WPu, Bool.false_eq_true, Bool.true_eq_false, Bool.not_true, Bool.not_false, if_true, if_false, ite_true, ite_false, Nat.reduceEqDiff, Nat.reduceLT, true_and, List.map_cons, List.map_nil, Nat.zero_add, Nat.reduceBEq, ia, f1, f2]
          have := hsm.1
          refine ⟨bs[k].2.length - (j + 1), by omega, j + 1, _, by omega, by simpa using hcl, rfl, by rw [wrap_i64 (by omega) (by omega), Int.natCast_add, Int.natCast_one], f3, Keeps.trans k7 f4 fun i _ e => e⟩
        · simp -dsimp only [↓WPd, ↓wpC_block, ↓wpC_cond, WPu, Bool.false_eq_true, Bool.true_eq_false, Bool.not_true, Bool.not_false, if_true, if_false, ite_true, ite_false, Nat.reduceEqDiff, Nat.reduceLT, true_and, List.map_cons, List.map_nil, Nat.zero_add, Nat.reduceBEq]
          exact k7
      · rintro e σ7 env ⟨rfl, hv, k7⟩
        simp only [List.map_cons, List.map_nil, List.cons.injEq, and_true] at hv
        obtain ⟨v0, v5, v6, v7⟩ := hv
        simp -dsimp only [↓WPd, ↓wpC_block, ↓wpC_cond, WPu, Bool.false_eq_true, Bool.true_eq_false, Bool.not_true, Bool.not_false, if_true, if_false, ite_true, ite_false, Nat.reduceEqDiff, Nat.reduceLT, true_and, List.map_cons, List.map_nil, Nat.zero_add, Nat.reduceBEq, v0, v5, v6, v7]
        have ht : bs.take (k + 1) = bs.take k ++ [bs[k]] := List.take_succ_eq_append_getElem hk'
        have hid : id < σ'.length := (List.getElem?_eq_some_iff.1 hh.obj).1
        have hrid : rid < σ'.length := by obtain ⟨w, es, o1, _⟩ := hr; exact (List.getElem?_eq_some_iff.1 o1).1
        have gs := g3.1
        have ks := k4.1
        have ks5 := k5.1
        have ks7 := k7.1
        have g1s := g1.1
        refine ⟨bs.length - (k + 1), by omega, k + 1, ws4, (fun i => (A i ∧ i < σ'.length) ∨ σ4.length ≤ i), by omega, rfl, by rw [wrap_i64 (by omega) (by omega), Int.natCast_add, Int.natCast_one], ?_, ?_, ?_, ?_, by omega⟩
        · rw [ht, bindsH_snoc]
          exact (h4.keeps k5 (by omega) (by omega)).keeps k7 (fun e => by have := s8 _ e; omega) (fun e => by have := s8 _ e; omega)
        · rw [ht, bindsR_snoc]
          exact r5.keeps k7 (fun e => by have := s8 _ e; omega) fun i hi ha => ⟨ha, fun e => by have := s8 _ e; rcases ha with ha | ha <;> omega⟩
        · rintro i (ha | ha)
          · exact hA i ha.1
          · omega
        · refine Keeps.trans (Keeps.trans (Keeps.trans (g.trans g3) k4 fun i hi e => by omega) k5 fun i hi e => by omega) k7 fun i hi e => by have := s8 _ e; have := g.1; omega
    · have : k = bs.length := by omega
      subst this
      rw [List.take_length] at hh hr
      simp -dsimp only [↓WPd, ↓wpC_block, ↓wpC_cond, WPu, Bool.false_eq_true, Bool.true_eq_false, Bool.not_true, Bool.not_false, if_true, if_false, ite_true, ite_false, Nat.reduceEqDiff, Nat.reduceLT, true_and, List.map_cons, List.map_nil, Nat.zero_add, Nat.reduceBEq]
      exact ⟨ws, A, hh, hr, hA, g⟩
  · rintro e σ' env ⟨rfl, ws, A, hv, hh, hr, hA, g⟩
    simp only [List.map_cons, List.map_nil, List.cons.injEq, and_true] at hv
    obtain ⟨v4, v5⟩ := hv
    simp -dsimp only [↓WPd, ↓wpC_block, ↓wpC_cond, WPu, Bool.false_eq_true, Bool.true_eq_false, Bool.not_true, Bool.not_false, if_true, if_false, ite_true, ite_false, Nat.reduceEqDiff, Nat.reduceLT, true_and, List.map_cons, List.map_nil, Nat.zero_add, Nat.reduceBEq, v4, v5]
    have := g1.1
    exact ⟨id, mid, ws, rid, A, rfl, hh, hr, g, ⟨m1, m2, by omega, fun i ha => by have := hA i ha; have := g2.1; omega⟩, by omega, by omega, hm⟩
end
end Go.Proofs.YtkjnanfkclijcaaDoor.Am

namespace Go.Proofs.YtkjnanfkclijcaaDoor.Am
open Go
set_option linter.unusedVariables false
set_option linter.unusedSimpArgs false
theorem rank_le' {H : Hp} (t : List Cel) : rank H t ≤ H.length := by
  unfold rank
  split
  · rename_i hs
    obtain ⟨u, hu⟩ := Option.isSome_iff_exists.1 hs
    obtain ⟨h1, h2, h3⟩ := hnext_mem hu
    have := filter_less (fun p : Nm × List Cel => nless p.1 (t.headD default).v) (fun _ => true) (fun _ _ => rfl) H _ h3 (nless_irrefl _) rfl
    rw [List.filter_eq_self.2 (fun _ _ => rfl)] at this
    omega
  · omega
theorem chain_len {H : Hp} (hw : WF H) (t : List Cel) : (chain H t).length ≤ H.length + 1 := by
  by_cases h0 : t = []
  · simp [chain, h0]
  · rw [chain_rank hw h0]
    have := chainF_len (rank H t) H t
    have := rank_le' (H := H) t
    omega
theorem chainF_next {H : Hp} (hw : WF H) : ∀ (n : Nat) (t : List Cel), rank H t = n → ∀ (i : Nat) (h : i + 1 < (chainF (rank H t) H t).length), hnext H ((chainF (rank H t) H t)[i]) = some ((chainF (rank H t) H t)[i + 1]) := by
  intro n
  induction n using Nat.strongRecOn with
  | ind n ih =>
    intro t hn i h
    cases hx : hnext H t with
    | none =>
      have e := chainF_none hx
      rw [e] at h
      simp at h
    | some u =>
      have e := chainF_step hw hx
      have hlt := rank_lt hw hx
      have key : ∀ (l : List (List Cel)) (hl : l = t :: chainF (rank H u) H u) (h : i + 1 < l.length), hnext H l[i] = some l[i + 1] := by
        intro l hl h
        subst hl
        cases i with
        | zero =>
          simp only [List.getElem_cons_zero, List.getElem_cons_succ]
          have c0 : ∀ (m : Nat) (h : 0 < (chainF m H u).length), (chainF m H u)[0] = u := by
            intro m h; cases m <;> simp [chainF]
          rw [hx, c0]
        | succ i =>
          simp only [List.getElem_cons_succ]
          exact ih _ (by omega) u rfl i (by simpa using h)
      exact key _ e h
theorem chain_next {H : Hp} (hw : WF H) (t : List Cel) (i : Nat) (h : i + 1 < (chain H t).length) : hnext H ((chain H t)[i]) = some ((chain H t)[i + 1]) := by
  by_cases h0 : t = []
  · simp [chain, h0] at h
  · have e := chain_rank hw h0
    have key : ∀ (l : List (List Cel)) (hl : l = chainF (rank H t) H t) (h : i + 1 < l.length), hnext H l[i] = some l[i + 1] := by
      intro l hl h
      subst hl
      exact chainF_next hw _ t rfl i h
    exact key _ e h
theorem WF.short {H : Hp} (hw : WF H) {p : Nm × List Cel} (hp : p ∈ H) : p.2.length ≤ 256 := (right_len (glob_right (hw.ok _ hp).2.2.1)).2
theorem WF.lk_short {H : Hp} (hw : WF H) (v : Nm) : ((lk H v).getD []).length ≤ 256 := by
  cases h : lk H v with
  | none => simp
  | some t => exact hw.short (lk_mem h)
end Go.Proofs.YtkjnanfkclijcaaDoor.Am

namespace Go.Proofs.YtkjnanfkclijcaaDoor.Am
open Go
set_option maxRecDepth 100000
theorem live05_ran : (run CU.cfg 300 1 39 [] []).map (fun p => p.1) = some (.bool true) := by kernel_rfl
end Go.Proofs.YtkjnanfkclijcaaDoor.Am

namespace Go.Proofs.YtkjnanfkclijcaaDoor.Am
open Go
set_option linter.unusedVariables false
set_option linter.unusedSimpArgs false
set_option linter.unusedSectionVars false
set_option maxRecDepth 100000
theorem BRows.keeps {σ σ' : Store} {M : Nat → Prop} {lo : Nat} {l : AVal} {us : List AVal} {R : Hp} (h : BRows σ lo l us R) (g : Keeps M σ σ') (hm : ∀ i, i < σ.length → lo ≤ i → ¬ M i) : BRows σ' lo l us R := XRows.keeps h g hm
theorem Told.at {u : AVal} {t : List Cel} (h : Told u t) (σ : Store) : SlOf σ 5 u (CC t) := h σ
end Go.Proofs.YtkjnanfkclijcaaDoor.Am

namespace Go.Proofs.YtkjnanfkclijcaaDoor.Am
open Go
set_option linter.unusedVariables false
set_option linter.unusedSimpArgs false
set_option linter.unusedSectionVars false
set_option maxRecDepth 100000
theorem XRows.at {σ : Store} {lo sz : Nat} {l : AVal} {es : List AVal} {ps : List (List AVal)} (h : XRows σ lo 1 sz l es es ps) {i : Nat} (hi : i < ps.length) :
    ∃ e, es[i]? = some e ∧ iaddrV 1 l (.int .i64 i) = some (addrOf 1 l i) ∧ loadV σ 1 false (addrOf 1 l i) = some e ∧ Own σ sz e ps[i] ∧ NoLit e := by
  have hi' : i < es.length := by rw [h.len]; exact hi
  have o := h.one i es[i] ps[i] (List.getElem?_eq_getElem hi') (List.getElem?_eq_getElem hi)
  exact ⟨es[i], List.getElem?_eq_getElem hi', h.row.sl.iaddr hi' .i64, h.row.sl.load1 hi' o.one 1, o, h.lit i _ (List.getElem?_eq_getElem hi')⟩
end Go.Proofs.YtkjnanfkclijcaaDoor.Am

namespace Go.Proofs.YtkjnanfkclijcaaDoor.Am
open Go
set_option linter.unusedVariables false
set_option linter.unusedSimpArgs false
def resL (H : Hp) (g : List Cel → List Cel → Option (List Cel)) : List Cel → List Cel → Option (List Cel)
  | o, [] => some o
  | o, c :: s => match hnext H [c] with
    | none => if (o ++ [c]).length ≤ 256 then resL H g (o ++ [c]) s else none
    | some u => match g o (deref H u) with
      | some o' => if o'.length ≤ 256 then resL H g o' s else none
      | none => none
def resD (H : Hp) : Nat → List Cel → List Cel → Option (List Cel)
  | 0 => resL H fun _ _ => none
  | n + 1 => resL H (resD H n)
inductive Repl : List Cel → List Cel → Prop
  | nil : Repl [] []
  | keep (c : Cel) {t r : List Cel} : c.ok = true → Repl t r → Repl (c :: t) (c :: r)
  | put (c : Cel) (w : List Cel) {t r : List Cel} : c.parts = 0 → right w = true → Repl t r → Repl (c :: t) (w ++ r)
theorem Repl.len {t r : List Cel} (h : Repl t r) : t.length ≤ r.length := by
  induction h with
  | nil => exact Nat.le_refl _
  | keep c _ _ ih => simp; omega
  | put c w _ hw _ ih => have := (right_len hw).1; simp; omega
theorem Repl.oks {t r : List Cel} (h : Repl t r) : ∀ c ∈ r, c.ok = true := by
  induction h with
  | nil => simp
  | keep c hc _ ih => 
    intro x hx
    rcases List.mem_cons.1 hx with rfl | hx
    · exact hc
    · exact ih x hx
  | put c w _ hw _ ih => 
    intro x hx
    rcases List.mem_append.1 hx with hx | hx
    · exact right_ok_mem hw hx
    · exact ih x hx
theorem Repl.ends {L L' : Nat} (hL : L ≤ L') {t r : List Cel} (h : Repl t r) (hl : r.length ≤ L') : ∀ {q a b : Nat}, endAt L t q a = a + t.length → 0 < a + t.length → endAt L' r q b = b + r.length := by
  induction h with
  | nil =>
    intro q a b h h0
    cases q with
    | zero => rw [endAt_zero]; rfl
    | succ q => rw [endAt_nil] at h; simp at h h0; omega
  | keep c hc hr ih =>
    intro q a b h h0
    cases q with
    | zero => rw [endAt_zero] at h; simp at h
    | succ q =>
      rw [endAt_cons] at h
      simp only [List.length_cons] at h hl ⊢
      split at h
      · omega
      · rename_i hp
        rw [endAt_cons, if_neg (by omega), ih (by omega) (a := a + 1) (b := b + 1) (by omega) (by omega)]
        omega
  | put c w hp hw hr ih =>
    intro q a b h h0
    cases q with
    | zero => rw [endAt_zero] at h; simp at h
    | succ q =>
      rw [endAt_cons] at h
      simp only [List.length_cons, List.length_append] at h hl ⊢
      rw [hp, Nat.add_zero] at h
      split at h
      · omega
      · rw [show q + 1 = 1 + q by omega, endAt_right hw (by omega), ih (by omega) (a := a + 1) (b := b + w.length) (by omega) (by omega)]
        omega
theorem Repl.right {t r : List Cel} (h : Repl t r) (ht : right t = true) (hl : r.length ≤ 256) : right r = true := by
  have h1 := (right_len ht).1
  have h2 := h.len
  have he := right_end ht
  have e := h.ends (L := t.length) (L' := r.length) h2 (Nat.le_refl _) (b := 0) he (by omega)
  rw [Nat.zero_add] at e
  have ho : r.all Cel.ok = true := List.all_eq_true.2 h.oks
  simp only [Am.right, Bool.and_eq_true, decide_eq_true_eq]
  exact ⟨⟨⟨by omega, hl⟩, e⟩, ho⟩
theorem hnext_var {H : Hp} {c : Cel} {u : List Cel} (h : hnext H [c] = some u) : c.k = 4 := (hnext_mem h).2.1
theorem var_parts {c : Cel} (h : c.k = 4) : c.parts = 0 := by simp [Cel.parts, h]
structure Res (H : Hp) (t o o' : List Cel) : Prop where
  ex : ∃ r, o' = o ++ r ∧ Repl t r ∧ ∀ c ∈ r, hnext H [c] = none
  le : t ≠ [] → o'.length ≤ 256
theorem resL_ok {H : Hp} (hw : WF H) {g : List Cel → List Cel → Option (List Cel)} (hg : ∀ o o' t, right t = true → g o t = some o' → Res H t o o') : ∀ (t o o' : List Cel), (∀ c ∈ t, c.ok = true) → resL H g o t = some o' → Res H t o o'
  | [], o, o', _, h => by
    simp only [resL] at h
    injection h with h; subst h
    exact ⟨⟨[], by simp, .nil, by simp⟩, fun h => (h rfl).elim⟩
  | c :: s, o, o', hc, h => by
    have hs : ∀ c ∈ s, c.ok = true := fun x hx => hc x (List.mem_cons_of_mem _ hx)
    simp only [resL] at h
    split at h
    · rename_i hn
      split at h
      · rename_i hle
        obtain ⟨⟨r, h1, h2, h3⟩, h4⟩ := resL_ok hw hg s (o ++ [c]) o' hs h
        refine ⟨⟨c :: r, by rw [h1]; simp, .keep c (hc c List.mem_cons_self) h2, fun x hx => ?_⟩, fun _ => ?_⟩
        · rcases List.mem_cons.1 hx with rfl | hx
          · exact hn
          · exact h3 x hx
        · by_cases e : s = []
          · subst e
            simp only [resL] at h
            injection h with h; subst h
            exact hle
          · exact h4 e
      · cases h
    · rename_i u hn
      split at h
      · rename_i o1 ho1
        split at h
        · rename_i hle
          have gu : glob u = true := (hw.ok _ (hnext_mem hn).2.2).2.2.1
          have ru := glob_right (deref_glob hw gu)
          obtain ⟨⟨w, w1, w2, w3⟩, w4⟩ := hg o o1 _ ru ho1
          have hwl : w.length ≤ 256 := by rw [w1] at hle; simp at hle; omega
          obtain ⟨⟨r, h1, h2, h3⟩, h4⟩ := resL_ok hw hg s o1 o' hs h
          refine ⟨⟨w ++ r, by rw [h1, w1, List.append_assoc], .put c w (var_parts (hnext_var hn)) (w2.right ru hwl) h2, fun x hx => ?_⟩, fun _ => ?_⟩
          · rcases List.mem_append.1 hx with hx | hx
            · exact w3 x hx
            · exact h3 x hx
          · by_cases e : s = []
            · subst e
              simp only [resL] at h
              injection h with h; subst h
              exact hle
            · exact h4 e
        · cases h
      · cases h
theorem resD_ok {H : Hp} (hw : WF H) : ∀ (n : Nat) (o o' t : List Cel), right t = true → resD H n o t = some o' → Res H t o o'
  | 0, o, o', t, ht, h => resL_ok hw (fun _ _ _ _ h => by cases h) t o o' (fun _ hc => right_ok_mem ht hc) h
  | n + 1, o, o', t, ht, h => resL_ok hw (fun o o' t => resD_ok hw n o o' t) t o o' (fun _ hc => right_ok_mem ht hc) h
theorem resL_id {H : Hp} {g : List Cel → List Cel → Option (List Cel)} : ∀ (t o : List Cel), (∀ c ∈ t, hnext H [c] = none) → (o ++ t).length ≤ 256 → resL H g o t = some (o ++ t)
  | [], o, _, _ => by simp [resL]
  | c :: s, o, h, hl => by
    have hl' : (o ++ [c]).length ≤ 256 := by simp at hl ⊢; omega
    simp only [resL, h c List.mem_cons_self]
    rw [if_pos hl', resL_id s (o ++ [c]) (fun x hx => h x (List.mem_cons_of_mem _ hx)) (by simpa using hl)]
    simp
theorem resD_id {H : Hp} (n : Nat) {t : List Cel} (h : ∀ c ∈ t, hnext H [c] = none) (hl : t.length ≤ 256) : resD H n [] t = some t := by
  cases n with
  | zero => exact (resL_id t [] h (by simpa using hl)).trans (by simp)
  | succ n => exact (resL_id t [] h (by simpa using hl)).trans (by simp)
theorem resolved_ok {H : Hp} (hw : WF H) {t a : List Cel} (ht : right t = true) (h : resD H 256 [] t = some a) : right a = true ∧ (∀ c ∈ a, hnext H [c] = none) ∧ resD H 256 [] a = some a := by
  obtain ⟨⟨r, h1, h2, h3⟩, h4⟩ := resD_ok hw 256 [] a t ht h
  rw [List.nil_append] at h1
  subst h1
  have hl := h4 (right_ne ht)
  exact ⟨h2.right ht hl, h3, resD_id 256 h3 hl⟩
end Go.Proofs.YtkjnanfkclijcaaDoor.Am

namespace Go.Proofs.YtkjnanfkclijcaaDoor.Am
open Go
set_option linter.unusedVariables false
set_option linter.unusedSimpArgs false
set_option linter.unusedSectionVars false
set_option maxRecDepth 100000
def gD (H : Hp) : Nat → List Cel → List Cel → Option (List Cel)
  | 0 => fun _ _ => none
  | n + 1 => resD H n
theorem resD_eq (H : Hp) (n : Nat) : resD H n = resL H (gD H n) := by cases n <;> rfl
theorem cel_putR (σ : Store) (c : Cel) : storeV (σ ++ [AObj.cells [.int .u8 0, .str [], .int .i64 0, .int .i64 0, .int .i64 0]]) 5 (.ptr σ.length 0) c.val = some (σ ++ [AObj.cells c.cs]) := by
  have h : (σ ++ [AObj.cells [.int .u8 0, .str [], .int .i64 0, .int .i64 0, .int .i64 0]])[σ.length]? = some (.cells [.int .u8 0, .str [], .int .i64 0, .int .i64 0, .int .i64 0]) := by simp
  have e : c.val = .agg c.cs := rfl
  rw [e, storeN_cells (cs' := c.cs) (n := 5) h rfl rfl rfl, set_last]
theorem cel_inj {x y : Cel} (h : x.val = y.val) : x = y := by
  obtain ⟨k, s, n, v1, v2⟩ := x
  obtain ⟨k', s', n', w1, w2⟩ := y
  simp only [Cel.val, Cel.cs, AVal.agg.injEq, List.cons.injEq, AVal.int.injEq, AVal.str.injEq, and_true, true_and] at h
  obtain ⟨h1, rfl, rfl, rfl, rfl⟩ := h
  have : k = k' := Int.ofNat.inj h1
  subst this; rfl
theorem CC_inj : ∀ {a b : List Cel}, CC a = CC b → a = b := fun {a b} h => (List.map_inj_right fun x y h => cel_inj h).1 h
theorem Own.noMap {σ : Store} {sz : Nat} {v : AVal} {es ks vs : List AVal} {id : Nat} (h : Own σ sz v es) (ho : σ[id]? = some (.map ks vs)) : v.sid ≠ some id := by
  intro hs
  rcases h.own with ⟨rfl, _⟩ | ⟨t, rfl⟩ | ⟨id', ep, off, cap, xs, epo, fl, rfl, h1, _⟩
  · cases hs
  · cases hs
  · injection hs with hs; subst hs; rw [ho] at h1; cases h1
structure OutP (σ : Store) (oid : Nat) (ov : AVal) (o : List Cel) : Prop where
  cell : σ[oid]? = some (.cells [ov])
  own : Own σ 5 ov (CC o)
set_option maxHeartbeats 2000000 in
theorem resolve_ok (d : Nat) (H : Hp) (hw : WF H) (id mid : Nat) (vs : List AVal) (oid : Nat) : ∀ (n : Nat) (hn : n < 2 ^ 30) (σ : Store) (ov tv : AVal) (o t : List Cel) (h : HeapP σ id mid vs H) (ho : OutP σ oid ov o) (hol : o.length ≤ 256) (ht : SlOf σ 5 tv (CC t)) (htl : t.length ≤ 256)
    (hne : ∀ i, tv.sid = some i → ov.sid ≠ some i),
    Called CU.cfg d 102 [.ptr id 0, .ptr oid 0, tv, .int .i64 (n : Nat)] σ fun v σ' => Keeps (fun i => i = oid ∨ ov.sid = some i) σ σ' ∧ match resD H n o t with
      | some o' => v = .bool true ∧ ∃ ov', OutP σ' oid ov' o' ∧ ∀ i, ov'.sid = some i → ov.sid = some i ∨ σ.length ≤ i
      | none => v = .bool false := by
  intro n
  induction n using Nat.strongRecOn with
  | ind n ih =>
  intro hn30 σ ov tv o t h ho hol ht htl hne
  rw [resD_eq]
  refine called_of (fn := CU.a102) rfl (Nat.le_of_ble_eq_true rfl) ?_
  simp only [CU.a102]
  have lt := ht.len
  rw [List.length_map] at lt
  have hoid : oid ≠ id := fun e => by
    have := ho.cell
    rw [e, h.obj] at this
    injection this with this; injection this with this; injection this with this
    subst this
    exact absurd ho.own.sl.len (by simp [lenSV])
  have hoid2 : oid ≠ mid := fun e => by have := ho.cell; rw [e, h.map] at this; cases this
  have hovid : ∀ i, ov.sid = some i → i ≠ id ∧ i ≠ mid ∧ i ≠ oid := fun i hi => ⟨fun e => ho.own.noCell h.obj (e ▸ hi), fun e => ho.own.noMap h.map (e ▸ hi), fun e => ho.own.noCell ho.cell (e ▸ hi)⟩
  simp -dsimp only [↓WPd, ↓wpC_block, ↓wpC_cond, WPu, Bool.false_eq_true, Bool.true_eq_false, Bool.not_true, Bool.not_false, if_true, if_false, ite_true, ite_false, Nat.reduceEqDiff, Nat.reduceLT, true_and, List.map_cons, List.map_nil, Nat.zero_add, Nat.reduceBEq, lt]
  refine loop_rule2 (fun m ws σ' => ∃ (k : Nat) (ov' : AVal) (o' : List Cel), k ≤ t.length ∧ m = t.length - k ∧ ws = [.ptr id 0, .ptr oid 0, .int .i64 (n : Nat), tv, .int .i64 t.length, .int .i64 (k : Nat)] ∧ Keeps (fun i => i = oid ∨ ov.sid = some i) σ σ' ∧ OutP σ' oid ov' o' ∧ o'.length ≤ 256 ∧ (∀ i, ov'.sid = some i → ov.sid = some i ∨ σ.length ≤ i) ∧ resL H (gD H n) o t = resL H (gD H n) o' (t.drop k))
    [8] (fun e ws σ' => Keeps (fun i => i = oid ∨ ov.sid = some i) σ σ' ∧ match resL H (gD H n) o t with
      | some o' => e = .exit 0 ∧ ∃ ov', OutP σ' oid ov' o' ∧ ∀ i, ov'.sid = some i → ov.sid = some i ∨ σ.length ≤ i
      | none => e = .ret ∧ ws = [.bool false]) t.length
    ⟨0, ov, o, Nat.zero_le _, rfl, ?_, Keeps.refl _ _, ho, hol, fun i hi => .inl hi, by simp⟩ ?_ ?_
  · simp -dsimp only [↓WPd, ↓wpC_block, ↓wpC_cond, WPu, Bool.false_eq_true, Bool.true_eq_false, Bool.not_true, Bool.not_false, if_true, if_false, ite_true, ite_false, Nat.reduceEqDiff, Nat.reduceLT, true_and, List.map_cons, List.map_nil, Nat.zero_add, Nat.reduceBEq]; rfl
  · rintro m ws σ' ⟨k, ov', o', hk, rfl, rfl, g, ho', hol', hov', hres⟩
    simp -dsimp only [↓WPd, ↓wpC_block, ↓wpC_cond, WPu, Bool.false_eq_true, Bool.true_eq_false, Bool.not_true, Bool.not_false, if_true, if_false, ite_true, ite_false, Nat.reduceEqDiff, Nat.reduceLT, true_and, List.map_cons, List.map_nil, Nat.zero_add, Nat.reduceBEq]
    refine condP_dec (fun hc => ?_) (fun hc => ?_)
    · have hk' : k < t.length := by omega
      have ht' : SlOf σ' 5 tv (CC t) := ht.keeps g fun i hi e => by
        rcases e with e | e
        · exact ht.noCell ho.cell (e ▸ hi)
        · exact hne i hi e
      have hke : k < (CC t).length := by simpa using hk'
      have ia : iaddrV 5 tv (.int .i64 k) = some (addrOf 5 tv k) := ht'.iaddr hke .i64
      have ld : loadV σ' 5 true (addrOf 5 tv k) = some (t[k]).val := ht'.loadA hke (cs := (t[k]).cs) (by rw [cel_get]; rfl)
      simp -dsimp only [↓WPd, ↓wpC_block, ↓wpC_cond, WPu, Bool.false_eq_true, Bool.true_eq_false, Bool.not_true, Bool.not_false, if_true, if_false, ite_true, ite_false, Nat.reduceEqDiff, Nat.reduceLT, true_and, List.map_cons, List.map_nil, Nat.zero_add, Nat.reduceBEq, ia, ld, cel_putR]
      have oj : (σ' ++ [AObj.cells (t[k]).cs])[σ'.length]? = some (.cells (t[k]).cs) := by simp
      have g1 : Grows σ' (σ' ++ [AObj.cells (t[k]).cs]) := Grows.app _ _
      generalize σ' ++ [AObj.cells (t[k]).cs] = σ1 at oj g1
      have lj : loadV σ1 5 true (.ptr σ'.length 0) = some (t[k]).val := loadN_cells oj rfl
      have h1 : HeapP σ1 id mid vs H := (h.keeps g (by rintro (e | e); exact hoid e.symm; exact (hovid _ e).1 rfl) (by rintro (e | e); exact hoid2 e.symm; exact (hovid _ e).2.1 rfl)).grow g1
      generalize σ'.length = j at oj lj
      simp -dsimp only [↓WPd, ↓wpC_block, ↓wpC_cond, WPu, Bool.false_eq_true, Bool.true_eq_false, Bool.not_true, Bool.not_false, if_true, if_false, ite_true, ite_false, Nat.reduceEqDiff, Nat.reduceLT, true_and, List.map_cons, List.map_nil, Nat.zero_add, Nat.reduceBEq, lj, cel_lit]
      refine calledW_of (next_ok d σ1 (.ptr id 0) _ H [t[k]] h1.v (SlOf.fs _ _ _ _ _)) ?_
      rintro r σ2 ⟨u, rfl, hu, g2⟩
      have lj2 : loadV σ2 5 true (.ptr j 0) = some (t[k]).val := loadN_cells (g2.get oj) rfl
      have g12 := g1.trans g2
      have hc2 : σ2[oid]? = some (.cells [ov']) := g12.get ho'.cell
      have ow2 := ho'.own.grow g12
      have h2 := h1.grow g2
      have e0 : ([ov'] : List AVal)[0]? = some ov' := rfl
      have hdr : t.drop k = t[k] :: t.drop (k + 1) := List.drop_eq_getElem_cons hk'
      rw [hdr] at hres
      cases hn : hnext H [t[k]] with
      | none =>
        obtain ⟨w, σ3, a1, a2, a3, a4, a5⟩ := ow2.append [(t[k]).val] 48 (by rw [List.length_map]; simp; omega)
        have lit1 : elems 5 σ2 (.fslice (AVal.tagL [(t[k]).val]) true 5 [(t[k]).val]) = some [(t[k]).val] := elems_fs 5 _ true σ2 _
        have hc3 : σ3[oid]? = some (.cells [ov']) := a3.get hc2 (fun e => ow2.noCell hc2 e)
        have st := store_cells hc3 (off := 0) (v := w) (by simp) a2.one
        simp -dsimp only [↓WPd, ↓wpC_block, ↓wpC_cond, WPu, Bool.false_eq_true, Bool.true_eq_false, Bool.not_true, Bool.not_false, if_true, if_false, ite_true, ite_false, Nat.reduceEqDiff, Nat.reduceLT, true_and, List.map_cons, List.map_nil, Nat.zero_add, Nat.reduceBEq, WPm, List.getElem?_cons_zero, List.getElem?_cons_succ, hn, Option.isSome_none, isnil_ptr, load_cells hc2, e0, lj2, cel_lit, lit1, a1, st]
        have hc4 : (σ3.set oid (AObj.cells [w]))[oid]? = some (.cells [w]) := get_set hc3
        have k4 : Keeps (fun i => i = oid) σ3 (σ3.set oid (AObj.cells [w])) := Keeps.set _ _ _
        have o4 : Own (σ3.set oid (AObj.cells [w])) 5 w (CC (o' ++ [t[k]])) := by rw [show CC (o' ++ [t[k]]) = CC o' ++ [(t[k]).val] by simp]; exact a2.keeps k4 fun i hi e => a2.noCell hc3 (e ▸ hi)
        have gg : Keeps (fun i => i = oid ∨ ov.sid = some i) σ (σ3.set oid (AObj.cells [w])) := by
          refine Keeps.trans (Keeps.trans (Keeps.trans g g12 fun i _ e => e.elim) a3 fun i hi e => ?_) k4 fun i _ e => .inl e
          rcases hov' i e with e | e
          · exact .inr e
          · omega
        have hst : ([ov'] : List AVal).set 0 w = [w] := rfl
        rw [hst]
        generalize σ3.set oid (AObj.cells [w]) = σ4 at hc4 o4 gg
        have e1 : ([w] : List AVal)[0]? = some w := rfl
        have lw := o4.sl.len
        rw [List.length_map, List.length_append, List.length_singleton] at lw
        have hr : resL H (gD H n) o' (t[k] :: t.drop (k + 1)) = if (o' ++ [t[k]]).length ≤ 256 then resL H (gD H n) (o' ++ [t[k]]) (t.drop (k + 1)) else none := by simp only [resL, hn]
        rw [hr] at hres
        simp -dsimp only [↓WPd, ↓wpC_block, ↓wpC_cond, WPu, Bool.false_eq_true, Bool.true_eq_false, Bool.not_true, Bool.not_false, if_true, if_false, ite_true, ite_false, Nat.reduceEqDiff, Nat.reduceLT, true_and, List.map_cons, List.map_nil, Nat.zero_add, Nat.reduceBEq, WPm, load_cells hc4, e1, lw]
        by_cases h256 : o'.length + 1 ≤ 256
        · have e2 : decide (((o'.length + 1 : Nat) : Int) > 256) = false := decide_eq_false (by omega)
          rw [if_pos (by simpa using h256)] at hres
          simp -dsimp only [↓WPd, ↓wpC_block, ↓wpC_cond, WPu, Bool.false_eq_true, Bool.true_eq_false, Bool.not_true, Bool.not_false, if_true, if_false, ite_true, ite_false, Nat.reduceEqDiff, Nat.reduceLT, true_and, List.map_cons, List.map_nil, Nat.zero_add, Nat.reduceBEq, WPm, e2]
          refine ⟨t.length - (k + 1), by omega, k + 1, w, o' ++ [t[k]], by omega, rfl, by rw [wrap_i64 (by omega) (by omega), Int.natCast_add, Int.natCast_one], gg, ⟨hc4, o4⟩, by simpa using h256, fun i hi => ?_, hres⟩
          rcases a4 i hi with e | e
          · exact hov' i e
          · have := (Keeps.trans g g12 fun i _ e => e.elim).1; exact .inr (by omega)
        · have e2 : decide (((o'.length + 1 : Nat) : Int) > 256) = true := decide_eq_true (by omega)
          rw [if_neg (by simpa using h256)] at hres
          simp -dsimp only [↓WPd, ↓wpC_block, ↓wpC_cond, WPu, Bool.false_eq_true, Bool.true_eq_false, Bool.not_true, Bool.not_false, if_true, if_false, ite_true, ite_false, Nat.reduceEqDiff, Nat.reduceLT, true_and, List.map_cons, List.map_nil, Nat.zero_add, Nat.reduceBEq, WPm, e2]
          refine ⟨gg, ?_⟩
          rw [hres]
          trivial
      | some u' =>
        rw [hn] at hu
        simp only [Option.getD_some] at hu
        have gu : glob u' = true := (hw.ok _ (hnext_mem hn).2.2).2.2.1
        have rd := glob_right (deref_glob hw gu)
        have gk : Keeps (fun i => i = oid ∨ ov.sid = some i) σ σ2 := Keeps.trans g g12 fun i _ e => e.elim
        cases n with
        | zero =>
          have hr : resL H (gD H 0) o' (t[k] :: t.drop (k + 1)) = none := by simp only [resL, hn, gD]
          rw [hr] at hres
          have e0 : (((0 : Nat) : Int) == 0) = true := rfl
          simp -dsimp only [↓WPd, ↓wpC_block, ↓wpC_cond, WPu, Bool.false_eq_true, Bool.true_eq_false, Bool.not_true, Bool.not_false, if_true, if_false, ite_true, ite_false, Nat.reduceEqDiff, Nat.reduceLT, true_and, List.map_cons, List.map_nil, Nat.zero_add, Nat.reduceBEq, WPm, List.getElem?_cons_zero, List.getElem?_cons_succ, hn, Option.isSome_some, e0]
          refine ⟨gk, ?_⟩
          rw [hres]
          trivial
        | succ m =>
          have e3 : (((m + 1 : Nat) : Int) == 0) = false := by simp; omega
          have e4 : IntKind.i64.wrap (((m + 1 : Nat) : Int) - 1) = (m : Int) := by rw [wrap_i64 (by omega) (by omega)]; omega
          simp -dsimp only [↓WPd, ↓wpC_block, ↓wpC_cond, WPu, Bool.false_eq_true, Bool.true_eq_false, Bool.not_true, Bool.not_false, if_true, if_false, ite_true, ite_false, Nat.reduceEqDiff, Nat.reduceLT, true_and, List.map_cons, List.map_nil, Nat.zero_add, Nat.reduceBEq, WPm, List.getElem?_cons_zero, List.getElem?_cons_succ, hn, Option.isSome_some, e3, e4]
          refine calledW_of (follow_ok d σ2 (.ptr id 0) u H u' h2.v (hu σ2)) ?_
          rintro x σ3 ⟨hx, g3, hxt⟩
          have hxT : Told x (deref H u') := by
            rcases hxt with rfl | h
            · have e := (hu σ3).els
              rw [hx.els] at e
              injection e with e
              rw [CC_inj e]; exact hu
            · exact h
          simp -dsimp only [↓WPd, ↓wpC_block, ↓wpC_cond, WPu, Bool.false_eq_true, Bool.true_eq_false, Bool.not_true, Bool.not_false, if_true, if_false, ite_true, ite_false, Nat.reduceEqDiff, Nat.reduceLT, true_and, List.map_cons, List.map_nil, Nat.zero_add, Nat.reduceBEq, WPm, e4]
          refine calledW_of (ih m (by omega) (by omega) σ3 ov' x o' (deref H u') (h2.grow g3) ⟨g3.get hc2, ow2.grow g3⟩ hol' hx (right_len rd).2 fun i hi => ?_) ?_
          · have := (hxT []).lt hi; simp at this
          rintro r4 σ4 ⟨k4, hm⟩
          have gg : Keeps (fun i => i = oid ∨ ov.sid = some i) σ σ4 := by
            refine Keeps.trans (Keeps.trans gk g3 fun i _ e => e.elim) k4 fun i hi e => ?_
            rcases e with e | e
            · exact .inl e
            · rcases hov' i e with e | e
              · exact .inr e
              · omega
          cases hd : resD H m o' (deref H u') with
          | none =>
            rw [hd] at hm
            simp only at hm
            subst hm
            have hr : resL H (gD H (m + 1)) o' (t[k] :: t.drop (k + 1)) = none := by simp only [resL, hn, gD, hd]
            rw [hr] at hres
            simp -dsimp only [↓WPd, ↓wpC_block, ↓wpC_cond, WPu, Bool.false_eq_true, Bool.true_eq_false, Bool.not_true, Bool.not_false, if_true, if_false, ite_true, ite_false, Nat.reduceEqDiff, Nat.reduceLT, true_and, List.map_cons, List.map_nil, Nat.zero_add, Nat.reduceBEq, WPm]
            refine ⟨gg, ?_⟩
            rw [hres]
            trivial
          | some o1 =>
            rw [hd] at hm
            obtain ⟨rfl, ov1, ⟨hc5, o5⟩, hov1⟩ := hm
            have e1 : ([ov1] : List AVal)[0]? = some ov1 := rfl
            have lw := o5.sl.len
            rw [List.length_map] at lw
            have hr : resL H (gD H (m + 1)) o' (t[k] :: t.drop (k + 1)) = if o1.length ≤ 256 then resL H (gD H (m + 1)) o1 (t.drop (k + 1)) else none := by simp only [resL, hn, gD, hd]
            rw [hr] at hres
            simp -dsimp only [↓WPd, ↓wpC_block, ↓wpC_cond, WPu, Bool.false_eq_true, Bool.true_eq_false, Bool.not_true, Bool.not_false, if_true, if_false, ite_true, ite_false, Nat.reduceEqDiff, Nat.reduceLT, true_and, List.map_cons, List.map_nil, Nat.zero_add, Nat.reduceBEq, WPm, isnil_ptr, load_cells hc5, e1, lw]
            by_cases h256 : o1.length ≤ 256
            · have e2 : decide (((o1.length : Nat) : Int) > 256) = false := decide_eq_false (by omega)
              rw [if_pos h256] at hres
              simp -dsimp only [↓WPd, ↓wpC_block, ↓wpC_cond, WPu, Bool.false_eq_true, Bool.true_eq_false, Bool.not_true, Bool.not_false, if_true, if_false, ite_true, ite_false, Nat.reduceEqDiff, Nat.reduceLT, true_and, List.map_cons, List.map_nil, Nat.zero_add, Nat.reduceBEq, WPm, e2]
              refine ⟨t.length - (k + 1), by omega, k + 1, ov1, o1, by omega, rfl, by rw [wrap_i64 (by omega) (by omega)]; simp only [Int.natCast_add, Int.natCast_one], gg, ⟨hc5, o5⟩, h256, fun i hi => ?_, hres⟩
              rcases hov1 i hi with e | e
              · exact hov' i e
              · have := gk.1; have := g3.1; exact .inr (by omega)
            · have e2 : decide (((o1.length : Nat) : Int) > 256) = true := decide_eq_true (by omega)
              rw [if_neg h256] at hres
              simp -dsimp only [↓WPd, ↓wpC_block, ↓wpC_cond, WPu, Bool.false_eq_true, Bool.true_eq_false, Bool.not_true, Bool.not_false, if_true, if_false, ite_true, ite_false, Nat.reduceEqDiff, Nat.reduceLT, true_and, List.map_cons, List.map_nil, Nat.zero_add, Nat.reduceBEq, WPm, e2]
              refine ⟨gg, ?_⟩
              rw [hres]
              trivial
    · have : k = t.length := by omega
      subst this
      rw [List.drop_length] at hres
      simp only [resL] at hres
      simp -dsimp only [↓WPd, ↓wpC_block, ↓wpC_cond, WPu, Bool.false_eq_true, Bool.true_eq_false, Bool.not_true, Bool.not_false, if_true, if_false, ite_true, ite_false, Nat.reduceEqDiff, Nat.reduceLT, true_and, List.map_cons, List.map_nil, Nat.zero_add, Nat.reduceBEq]
      refine ⟨g, ?_⟩
      rw [hres]
      exact ⟨ov', ho', hov'⟩
  · rintro e σ' env ⟨g, hm⟩
    cases hd : resL H (gD H n) o t with
    | none =>
      rw [hd] at hm
      obtain ⟨rfl, hv⟩ := hm
      simp only [List.map_cons, List.map_nil, List.cons.injEq, and_true] at hv
      simp -dsimp only [↓WPd, ↓wpC_block, ↓wpC_cond, WPu, Bool.false_eq_true, Bool.true_eq_false, Bool.not_true, Bool.not_false, if_true, if_false, ite_true, ite_false, Nat.reduceEqDiff, Nat.reduceLT, true_and, List.map_cons, List.map_nil, Nat.zero_add, Nat.reduceBEq, hv]
      exact ⟨g, trivial⟩
    | some o' =>
      rw [hd] at hm
      obtain ⟨rfl, ov', h1, h2⟩ := hm
      simp -dsimp only [↓WPd, ↓wpC_block, ↓wpC_cond, WPu, Bool.false_eq_true, Bool.true_eq_false, Bool.not_true, Bool.not_false, if_true, if_false, ite_true, ite_false, Nat.reduceEqDiff, Nat.reduceLT, true_and, List.map_cons, List.map_nil, Nat.zero_add, Nat.reduceBEq]
      exact ⟨g, ov', h1, h2⟩
end Go.Proofs.YtkjnanfkclijcaaDoor.Am

namespace Go.Proofs.YtkjnanfkclijcaaDoor.Am
open Go
set_option linter.unusedVariables false
set_option linter.unusedSimpArgs false
set_option linter.unusedSectionVars false
structure TSt where
  ls : List (List Cel)
  ws : List Nm
def foldO {S α : Type} (f : S → α → α → Option S) : S → List α → List α → Option S
  | s, [], _ => some s
  | s, _ :: _, [] => some s
  | s, a :: azs, b :: bs => (f s a b).bind fun s' => foldO f s' azs bs
theorem foldO_step {S α : Type} {f : S → α → α → Option S} {s : S} {azs bs : List α} {k : Nat} (ha : k < azs.length) (hb : k < bs.length) : foldO f s (azs.drop k) (bs.drop k) = (f s azs[k] bs[k]).bind fun s' => foldO f s' (azs.drop (k + 1)) (bs.drop (k + 1)) := by
  rw [List.drop_eq_getElem_cons ha, List.drop_eq_getElem_cons hb, foldO]
theorem flat_step {azs : List (List Cel)} {k : Nat} (h : k < azs.length) : (azs.take (k + 1)).flatten.length = (azs.take k).flatten.length + (azs[k]).length := by
  rw [List.take_succ_eq_append_getElem h, List.flatten_append, List.length_append]; simp only [List.flatten_cons, List.flatten_nil, List.append_nil]
structure TryR where
  k : Nat
  ls : List (List Cel)
  ws : List Nm
end Go.Proofs.YtkjnanfkclijcaaDoor.Am

namespace Go.Proofs.YtkjnanfkclijcaaDoor.Am
open Go
set_option linter.unusedVariables false
set_option linter.unusedSimpArgs false
set_option linter.unusedSectionVars false
set_option maxRecDepth 100000
abbrev NN (ws : List Nm) : List AVal := ws.map nmV
theorem names_at {σ : Store} {l : AVal} {ws : List Nm} (hl : SlOf σ 2 l (NN ws)) {i : Nat} (hi : i < ws.length) : iaddrV 2 l (.int .i64 i) = some (addrOf 2 l i) ∧ loadV σ 2 true (addrOf 2 l i) = some (nmV ws[i]) := by
  have hi' : i < (NN ws).length := by rw [List.length_map]; exact hi
  exact ⟨hl.iaddr hi' .i64, hl.loadA hi' (cs := nmC ws[i]) (by rw [List.getElem_map]; rfl)⟩
theorem names_len {σ : Store} {l : AVal} {ws : List Nm} (hl : SlOf σ 2 l (NN ws)) : lenSV l = some ws.length := by
  have := hl.len; rwa [List.length_map] at this
theorem contains_not {ws : List Nm} {v : Nm} (h : ∀ (j : Nat) (hj : j < ws.length), ws[j] ≠ v) : ws.contains v = false := by
  rw [Bool.eq_false_iff]
  intro hc
  rw [List.contains_iff_mem] at hc
  obtain ⟨j, hj, e⟩ := List.getElem_of_mem hc
  exact h j hj e
theorem contains_at {ws : List Nm} {v : Nm} {k : Nat} (hk : k < ws.length) (h : ws[k] = v) : ws.contains v = true := by
  rw [List.contains_iff_mem, ← h]; exact List.getElem_mem hk
section
variable (d : Nat) (σ : Store)
theorem hasname_ok (l : AVal) (ws : List Nm) (v : Nm) (hx : ws.length < 2 ^ 40) (hl : SlOf σ 2 l (NN ws)) :
    Called CU.cfg d 96 [l, nmV v] σ fun r σ' => r = .bool (ws.contains v) ∧ Grows σ σ' := by
  refine called_of (fn := CU.a96) rfl (Nat.le_of_ble_eq_true rfl) ?_
  simp only [CU.a96]
  have ll := names_len hl
  simp -dsimp only [↓WPd, ↓wpC_block, ↓wpC_cond, WPu, Bool.false_eq_true, Bool.true_eq_false, Bool.not_true, Bool.not_false, if_true, if_false, ite_true, ite_false, Nat.reduceEqDiff, Nat.reduceLT, true_and, List.map_cons, List.map_nil, Nat.zero_add, Nat.reduceBEq, nm_cells, nm_one]
  have ho : (σ ++ [AObj.cells (nmC v)])[σ.length]? = some (.cells (nmC v)) := by simp
  have g0 : Grows σ (σ ++ [AObj.cells (nmC v)]) := Grows.app _ _
  have hl1 := hl.grow g0
  generalize σ ++ [AObj.cells (nmC v)] = σ1 at ho g0 hl1
  generalize σ.length = i1 at ho
  refine loop_rule2 (fun m vs σ' => ∃ k, k ≤ ws.length ∧ m = ws.length - k ∧ vs = [l, .ptr i1 0, .int .i64 k] ∧ σ' = σ1 ∧ ∀ (j : Nat) (hj : j < ws.length), j < k → ws[j] ≠ v) [4]
    (fun e vs σ' => σ' = σ1 ∧ ((e = .exit 0 ∧ ws.contains v = false) ∨ (e = .ret ∧ ws.contains v = true ∧ vs = [.bool true]))) ws.length ⟨0, Nat.zero_le _, rfl, ?_, rfl, fun j _ h => by omega⟩ ?_ ?_
  · simp -dsimp only [↓WPd, ↓wpC_block, ↓wpC_cond, WPu, Bool.false_eq_true, Bool.true_eq_false, Bool.not_true, Bool.not_false, if_true, if_false, ite_true, ite_false, Nat.reduceEqDiff, Nat.reduceLT, true_and, List.map_cons, List.map_nil, Nat.zero_add, Nat.reduceBEq]; rfl
  · rintro m vs σ' ⟨k, hk, rfl, rfl, rfl, hall⟩
    simp -dsimp only [↓WPd, ↓wpC_block, ↓wpC_cond, WPu, Bool.false_eq_true, Bool.true_eq_false, Bool.not_true, Bool.not_false, if_true, if_false, ite_true, ite_false, Nat.reduceEqDiff, Nat.reduceLT, true_and, List.map_cons, List.map_nil, Nat.zero_add, Nat.reduceBEq, ll]
    refine condP_dec (fun h => ?_) (fun h => ?_)
    · have hk' : k < ws.length := by omega
      obtain ⟨e1, e2⟩ := names_at hl1 hk'
      simp -dsimp only [↓WPd, ↓wpC_block, ↓wpC_cond, WPu, Bool.false_eq_true, Bool.true_eq_false, Bool.not_true, Bool.not_false, if_true, if_false, ite_true, ite_false, Nat.reduceEqDiff, Nat.reduceLT, true_and, List.map_cons, List.map_nil, Nat.zero_add, Nat.reduceBEq, e1, e2, load_nm ho, nm_eqs]
      refine condP_intro (fun h => ?_) (fun h => ?_)
      · rw [decide_eq_true_eq] at h
        simp -dsimp only [↓WPd, ↓wpC_block, ↓wpC_cond, WPu, Bool.false_eq_true, Bool.true_eq_false, Bool.not_true, Bool.not_false, if_true, if_false, ite_true, ite_false, Nat.reduceEqDiff, Nat.reduceLT, true_and, List.map_cons, List.map_nil, Nat.zero_add, Nat.reduceBEq]
        exact .inr ⟨contains_at hk' h, trivial⟩
      · rw [decide_eq_false_iff_not] at h
        simp -dsimp only [↓WPd, ↓wpC_block, ↓wpC_cond, WPu, Bool.false_eq_true, Bool.true_eq_false, Bool.not_true, Bool.not_false, if_true, if_false, ite_true, ite_false, Nat.reduceEqDiff, Nat.reduceLT, true_and, List.map_cons, List.map_nil, Nat.zero_add, Nat.reduceBEq]
        refine ⟨ws.length - (k + 1), by omega, k + 1, by omega, rfl, by rw [wrap_i64 (by omega) (by omega), Int.natCast_add, Int.natCast_one], fun j hj hjk => ?_⟩
        by_cases e : j = k
        · subst e; exact h
        · exact hall j hj (by omega)
    · simp -dsimp only [↓WPd, ↓wpC_block, ↓wpC_cond, WPu, Bool.false_eq_true, Bool.true_eq_false, Bool.not_true, Bool.not_false, if_true, if_false, ite_true, ite_false, Nat.reduceEqDiff, Nat.reduceLT, true_and, List.map_cons, List.map_nil, Nat.zero_add, Nat.reduceBEq]
      exact .inl (contains_not fun j hj => hall j hj (by omega))
  · rintro e σ' env ⟨rfl, ⟨rfl, hno⟩ | ⟨rfl, hyes, hv⟩⟩
    · simp -dsimp only [↓WPd, ↓wpC_block, ↓wpC_cond, WPu, Bool.false_eq_true, Bool.true_eq_false, Bool.not_true, Bool.not_false, if_true, if_false, ite_true, ite_false, Nat.reduceEqDiff, Nat.reduceLT, true_and, List.map_cons, List.map_nil, Nat.zero_add, Nat.reduceBEq, hno]
      exact g0
    · simp only [List.map_cons, List.map_nil, List.cons.injEq, and_true] at hv
      simp -dsimp only [↓WPd, ↓wpC_block, ↓wpC_cond, WPu, Bool.false_eq_true, Bool.true_eq_false, Bool.not_true, Bool.not_false, if_true, if_false, ite_true, ite_false, Nat.reduceEqDiff, Nat.reduceLT, true_and, List.map_cons, List.map_nil, Nat.zero_add, Nat.reduceBEq, hv, hyes]
      exact g0
theorem Own.name {σ : Store} {l : AVal} {ws : List Nm} (h : Own σ 2 l (NN ws)) (v : Nm) (hx : ws.length < 2 ^ 40) :
    ∃ l' σ', appendV σ 2 16 l [nmV v] = some (l', σ') ∧ Own σ' 2 l' (NN (ws ++ [v])) ∧ Keeps (fun i => l.sid = some i) σ σ' ∧ (∀ id, l'.sid = some id → l.sid = some id ∨ id = σ.length) ∧ NoLit l' := by
  obtain ⟨l', σ', a, b, c, e, f⟩ := h.append [nmV v] 16 (by simp only [List.length_map, List.length_singleton]; omega)
  exact ⟨l', σ', a, by simpa using b, c, e, f (.inr (by simp))⟩
end
end Go.Proofs.YtkjnanfkclijcaaDoor.Am

namespace Go.Proofs.YtkjnanfkclijcaaDoor.Am
open Go
set_option linter.unusedVariables false
set_option linter.unusedSimpArgs false
set_option linter.unusedSectionVars false
set_option maxRecDepth 100000
section
variable (d : Nat) (σ : Store)
end
end Go.Proofs.YtkjnanfkclijcaaDoor.Am

namespace Go.Proofs.YtkjnanfkclijcaaDoor.Am
open Go
set_option linter.unusedVariables false
set_option linter.unusedSimpArgs false
set_option linter.unusedSectionVars false
set_option maxRecDepth 100000
def tryC (k : Nat) (lv wv : AVal) : List AVal := [.int .u8 k, .int .i64 (-1), lv, wv]
abbrev tryZ : List AVal := [.int .u8 0, .int .i64 0, .nilslice, .nilslice]
theorem try_put {σ σ' : Store} {i : Nat} {k : Nat} {lv wv : AVal} (h : σ[i]? = some (.cells tryZ)) (hl : lv.one = true) (hw : wv.one = true) :
    storeV σ 4 (.ptr i 0) (.agg (tryC k lv wv)) = some (σ.set i (.cells (tryC k lv wv))) ∧ loadV (σ.set i (.cells (tryC k lv wv))) 4 true (.ptr i 0) = some (.agg (tryC k lv wv)) := by
  refine ⟨storeN_cells (n := 4) (cs' := tryC k lv wv) h rfl rfl ?_, loadN_cells (get_set h) rfl⟩
  simp only [tryC, List.all_cons, List.all_nil, hl, hw]; rfl
section
variable (d : Nat) (σ : Store)
end
end Go.Proofs.YtkjnanfkclijcaaDoor.Am

namespace Go.Proofs.YtkjnanfkclijcaaDoor.Am
open Go
set_option linter.unusedVariables false
set_option linter.unusedSimpArgs false
set_option linter.unusedSectionVars false
set_option maxRecDepth 100000
def Mv (id aid : Nat) (nv : AVal) : Nat → Prop := fun i => i = id ∨ i = aid ∨ nv.sid = some i
structure Att (fm : AVal → List AVal) (σ0 : Store) (id aid : Nat) (σ : Store) (nv : AVal) (s : TSt) : Prop where
  old : Grows σ0 σ
  lid : σ0.length ≤ id
  laid : σ0.length ≤ aid
  lnv : Fresh σ0.length nv
  obj : σ[id]? = some (.cells (fm nv))
  names : Own σ 2 nv (NN s.ws)
  arr : ∃ es, σ[aid]? = some (.arr 1 es 0 0) ∧ Two (fun e t => Own σ 5 e (CC t)) es s.ls
theorem Own.noArr {σ : Store} {sz sz' i ep fl : Nat} {v : AVal} {es xs : List AVal} (h : Own σ sz v es) (ho : σ[i]? = some (.arr sz' xs ep fl)) (hn : sz ≠ sz') : v.sid ≠ some i := by
  intro hv
  rcases h.own with ⟨rfl, _⟩ | ⟨t, rfl⟩ | ⟨id, ep, off, cap, ys, epo, fl, rfl, h1, _⟩
  · cases hv
  · cases hv
  · injection hv with hv
    subst hv
    rw [ho] at h1; injection h1 with h1; injection h1 with h1; exact hn h1.symm
section
variable {fm : AVal → List AVal} {σ0 : Store} {id aid : Nat} {σ σ' : Store} {nv : AVal} {s : TSt}
theorem Att.lt (h : Att fm σ0 id aid σ nv s) : id < σ.length ∧ aid < σ.length := by
  obtain ⟨es, ha, -⟩ := h.arr
  exact ⟨(List.getElem?_eq_some_iff.1 h.obj).1, (List.getElem?_eq_some_iff.1 ha).1⟩
theorem Att.own5 (h : Att fm σ0 id aid σ nv s) {e : AVal} {p : List AVal} (he : Own σ 5 e p) (i : Nat) (hi : e.sid = some i) : ¬ Mv id aid nv i := by
  obtain ⟨es, ha, -⟩ := h.arr
  rintro (rfl | rfl | hv)
  · exact he.noCell h.obj hi
  · exact he.noArr ha (by decide) hi
  · exact he.sizes h.names (by decide) hi hv
theorem Att.keep5 (h : Att fm σ0 id aid σ nv s) {e : AVal} {p : List AVal} (he : Own σ 5 e p) (hk : Keeps (Mv id aid nv) σ σ') : Own σ' 5 e p :=
  he.keeps hk fun i hi => h.own5 he i hi
theorem Att.grow (h : Att fm σ0 id aid σ nv s) (g : Grows σ σ') : Att fm σ0 id aid σ' nv s := by
  obtain ⟨es, ha, ht⟩ := h.arr
  exact ⟨h.old.trans g, h.lid, h.laid, h.lnv, g.get h.obj, h.names.grow g, es, g.get ha, ht.mono fun e t ho => ho.grow g⟩
theorem Mv.trans {nv1 : AVal} {σ1 σ2 : Store} (h1 : Keeps (Mv id aid nv) σ σ1) (hs : ∀ i, nv1.sid = some i → nv.sid = some i ∨ σ.length ≤ i) (h2 : Keeps (Mv id aid nv1) σ1 σ2) : Keeps (Mv id aid nv) σ σ2 :=
  Keeps.trans h1 h2 fun i hi e => by
    rcases e with rfl | rfl | e
    · exact .inl rfl
    · exact .inr (.inl rfl)
    · rcases hs i e with e | e
      · exact .inr (.inr e)
      · omega
structure OT (σ : Store) (lo : Nat) (l : AVal) (es : List AVal) (ts : List (List Cel)) : Prop where
  row : Own σ 1 l es
  two : Two (fun e t => Own σ 5 e (CC t)) es ts
  frl : Fresh lo l
theorem OT.grow {lo : Nat} {l : AVal} {es : List AVal} {ts : List (List Cel)} (h : OT σ lo l es ts) (g : Grows σ σ') : OT σ' lo l es ts :=
  ⟨h.row.grow g, h.two.mono fun e t ho => ho.grow g, h.frl⟩
theorem OT.keep {lo : Nat} {l : AVal} {es : List AVal} {ts : List (List Cel)} (h : OT σ lo l es ts) (ha : Att fm σ0 id aid σ nv s) (h1 : id < lo) (h2 : aid < lo) (hk : Keeps (Mv id aid nv) σ σ') : OT σ' lo l es ts := by
  refine ⟨h.row.keeps hk fun i hi => ?_, h.two.mono fun e t ho => ha.keep5 ho hk, h.frl⟩
  have := h.frl i hi
  rintro (rfl | rfl | hv)
  · omega
  · omega
  · exact h.row.sizes ha.names (by decide) hi hv
theorem OT.at {lo : Nat} {l : AVal} {es : List AVal} {ts : List (List Cel)} (h : OT σ lo l es ts) {i : Nat} (hi : i < ts.length) : ∃ e, iaddrV 1 l (.int .i64 i) = some (addrOf 1 l i) ∧ loadV σ 1 false (addrOf 1 l i) = some e ∧ Own σ 5 e (CC ts[i]) := by
  have hi' : i < es.length := by rw [h.two.len]; exact hi
  obtain ⟨e, he1, he2⟩ := h.two.get hi
  have hee : es[i] = e := by rw [List.getElem?_eq_getElem hi'] at he1; exact Option.some.inj he1
  refine ⟨e, h.row.sl.iaddr hi' .i64, ?_, he2⟩
  have := h.row.sl.load1 hi' (by rw [hee]; exact he2.one) 1
  rw [hee] at this; exact this
theorem OT.len {lo : Nat} {l : AVal} {es : List AVal} {ts : List (List Cel)} (h : OT σ lo l es ts) : lenSV l = some ts.length := by
  rw [← h.two.len]; exact h.row.sl.len
end
def StepQ (fm : AVal → List AVal) (σ0 : Store) (id aid : Nat) (res : Option TSt) (s : TSt) (add : Nat) (nv : AVal) (σ : Store) : AVal → Store → Prop := fun r σ' =>
  ∃ (b : Bool) (nv' : AVal) (s' : TSt), r = .bool b ∧ Att fm σ0 id aid σ' nv' s' ∧ Keeps (Mv id aid nv) σ σ' ∧ (∀ i, nv'.sid = some i → nv.sid = some i ∨ σ.length ≤ i) ∧ res = (if b then some s' else none) ∧ s'.ws.length ≤ s.ws.length + add ∧ s'.ls.length = s.ls.length
section
variable (d : Nat)
theorem Two.set {α β : Type} {R : α → β → Prop} {us : List α} {ws : List β} (h : Two R us ws) (j : Nat) {a : α} {b : β} (hr : R a b) : Two R (us.set j a) (ws.set j b) :=
  Two.of_get (by simp [h.len]) fun i x y hx hy => by
    rw [List.getElem?_set] at hx hy
    split at hx
    · rename_i hij
      rw [if_pos hij] at hy
      split at hx
      · split at hy
        · injection hx with hx; injection hy with hy; subst hx; subst hy; exact hr
        · cases hy
      · cases hx
    · rename_i hij
      rw [if_neg hij] at hy
      exact h.at hx hy
theorem StepQ.plain {fm : AVal → List AVal} {σ0 : Store} {id aid : Nat} {res : Option TSt} {s : TSt} {add : Nat} {nv : AVal} {σ σ' : Store} (ha : Att fm σ0 id aid σ nv s) (g : Grows σ σ') (hr : res = none) : StepQ fm σ0 id aid res s add nv σ (.bool false) σ' :=
  ⟨false, nv, s, rfl, ha.grow g, g.any, fun i h => .inl h, by rw [hr]; rfl, by omega, rfl⟩
theorem Att.put {fm : AVal → List AVal} {σ0 : Store} {id aid : Nat} {nv : AVal} {s : TSt} {σ : Store} (ha : Att fm σ0 id aid σ nv s) {j : Nat} {u : AVal} {t : List Cel} (hu : Own σ 5 u (CC t)) (hj : j < s.ls.length) :
    ∃ σ', storeV σ 1 (.eptr aid 0 j 0) u = some σ' ∧ Att fm σ0 id aid σ' nv ⟨s.ls.set j t, s.ws⟩ ∧ Keeps (fun i => i = aid) σ σ' := by
  obtain ⟨es, h1, h2⟩ := ha.arr
  have hj' : j < es.length := by rw [h2.len]; exact hj
  obtain ⟨e, he1, he2⟩ := h2.get hj
  have hee : es[j] = e := by rw [List.getElem?_eq_getElem hj'] at he1; exact Option.some.inj he1
  have st := arr_store1 h1 hj' hu.one (by rw [hee]; exact he2.one)
  have k := Keeps.set σ aid (.arr 1 (es.set j u) 0 0)
  have hne : id ≠ aid := fun e => by have a := ha.obj; rw [e, h1] at a; cases a
  refine ⟨_, st, ⟨?_, ha.lid, ha.laid, ha.lnv, k.get ha.obj hne, ha.names.keeps k fun i hi e => ha.names.noArr h1 (by decide) (by rw [← e]; exact hi), es.set j u, get_set h1, ?_⟩, k⟩
  · exact Keeps.trans ha.old k fun i hi e => by have := ha.laid; omega
  · refine Two.set (h2.mono fun e t ho => ho.keeps k fun i hi e' => ho.noArr h1 (by decide) (by rw [← e']; exact hi)) j ?_
    exact hu.keeps k fun i hi e' => hu.noArr h1 (by decide) (by rw [← e']; exact hi)
theorem Att.get {fm : AVal → List AVal} {σ0 : Store} {id aid : Nat} {nv : AVal} {s : TSt} {σ : Store} (ha : Att fm σ0 id aid σ nv s) {j : Nat} (hj : j < s.ls.length) : ∃ e, loadV σ 1 false (.eptr aid 0 j 0) = some e ∧ lenSV e = some (s.ls[j]).length := by
  obtain ⟨es, h1, h2⟩ := ha.arr
  have hj' : j < es.length := by rw [h2.len]; exact hj
  obtain ⟨e, he1, he2⟩ := h2.get hj
  have hee : es[j] = e := by rw [List.getElem?_eq_getElem hj'] at he1; exact Option.some.inj he1
  refine ⟨e, ?_, by have := he2.sl.len; rwa [List.length_map] at this⟩
  rw [arr_load1 h1 (Nat.le_refl _) hj' (by rw [hee]; exact he2.one), hee]
end
end Go.Proofs.YtkjnanfkclijcaaDoor.Am

namespace Go.Proofs.YtkjnanfkclijcaaDoor.Am
open Go
set_option linter.unusedVariables false
set_option linter.unusedSimpArgs false
set_option linter.unusedSectionVars false
set_option maxRecDepth 100000
section
variable (d : Nat)
structure Tried (fm : AVal → List AVal) (σ0 : Store) (id aid : Nat) (F : TSt → List Cel → List Cel → Option TSt) (s : TSt) (azs bs : List (List Cel)) (lo : Nat) (al bl : AVal) (es fs : List AVal) (nv : AVal) (σ2 σ' : Store) (k : Nat) (nk : AVal) (sk : TSt) : Prop where
  att : Att fm σ0 id aid σ' nk sk
  keep : Keeps (Mv id aid nv) σ2 σ'
  nam : ∀ i, nk.sid = some i → nv.sid = some i ∨ σ2.length ≤ i
  ra : OT σ' lo al es azs
  rb : OT σ' lo bl fs bs
  res : foldO F s azs bs = foldO F sk (azs.drop k) (bs.drop k)
  ws : sk.ws.length ≤ s.ws.length + (azs.take k).flatten.length
  ls : sk.ls.length = s.ls.length
theorem Tried.step {fm : AVal → List AVal} {σ0 : Store} {id aid : Nat} {F : TSt → List Cel → List Cel → Option TSt} {s : TSt} {azs bs : List (List Cel)} {lo : Nat} {al bl : AVal} {es fs : List AVal} {nv : AVal} {σ2 σ' : Store} {k : Nat} {nk : AVal} {sk : TSt} (h : Tried fm σ0 id aid F s azs bs lo al bl es fs nv σ2 σ' k nk sk)
    (hk : k < azs.length) (hb : k < bs.length) (h1 : id < lo) (h2 : aid < lo) {σ3 : Store} {r : AVal} (hq : StepQ fm σ0 id aid (F sk azs[k] bs[k]) sk (azs[k]).length nk σ' r σ3) :
    ∃ b : Bool, r = .bool b ∧ ∃ nk' sk', Att fm σ0 id aid σ3 nk' sk' ∧ Keeps (Mv id aid nv) σ2 σ3 ∧ (∀ i, nk'.sid = some i → nv.sid = some i ∨ σ2.length ≤ i) ∧ sk'.ws.length ≤ s.ws.length + (azs.take (k + 1)).flatten.length ∧ sk'.ls.length = s.ls.length ∧ (b = true → Tried fm σ0 id aid F s azs bs lo al bl es fs nv σ2 σ3 (k + 1) nk' sk') ∧ (b = false → foldO F s azs bs = none) := by
  obtain ⟨b, nk', sk', rfl, a1, a2, a3, a4, a5, a6⟩ := hq
  have hfs := flat_step hk
  have stp := foldO_step (f := F) (s := sk) hk hb
  have c1 := Mv.trans h.keep h.nam a2
  have c2 : ∀ i, nk'.sid = some i → nv.sid = some i ∨ σ2.length ≤ i := fun i hi => (a3 i hi).elim (h.nam i) (fun e => .inr (by have := h.keep.1; omega))
  have c3 : sk'.ws.length ≤ s.ws.length + (azs.take (k + 1)).flatten.length := by have := h.ws; omega
  have c4 : sk'.ls.length = s.ls.length := by rw [a6]; exact h.ls
  refine ⟨b, rfl, nk', sk', a1, c1, c2, c3, c4, fun hb' => ?_, fun hb' => ?_⟩
  · refine ⟨a1, c1, c2, h.ra.keep h.att h1 h2 a2, h.rb.keep h.att h1 h2 a2, ?_, c3, c4⟩
    rw [h.res, stp, a4, hb']; rfl
  · rw [h.res, stp, a4, hb']; rfl
end
end Go.Proofs.YtkjnanfkclijcaaDoor.Am

namespace Go.Proofs.YtkjnanfkclijcaaDoor.Am
open Go
set_option linter.unusedVariables false
set_option linter.unusedSimpArgs false
set_option linter.unusedSectionVars false
set_option maxRecDepth 100000
theorem HeapV.one {σ : Store} {hv : AVal} {H : Hp} (h : HeapV σ hv H) : hv.one = true := by
  rcases h with ⟨rfl, _⟩ | ⟨id, mid, vs, rfl, _⟩ <;> rfl
theorem RefV.one {σ : Store} {rv : AVal} {R : Hp} (h : RefV σ rv R) : rv.one = true := by
  rcases h with ⟨rfl, _⟩ | ⟨id, A, rfl, _⟩ <;> rfl
def TryOk (σ : Store) (r : AVal) (x : TryR) : Prop := ∃ lv wv, r = .agg (tryC x.k lv wv) ∧ Terms σ lv x.ls ∧ SlOf σ 2 wv (NN x.ws)
theorem TryOk.grow {σ σ' : Store} {r : AVal} {x : TryR} (h : TryOk σ r x) (g : Grows σ σ') : TryOk σ' r x := by
  obtain ⟨lv, wv, h1, h2, h3⟩ := h
  exact ⟨lv, wv, h1, h2.grow g, h3.grow g⟩
theorem Terms.one {σ : Store} {l : AVal} {ts : List (List Cel)} (h : Terms σ l ts) : l.one = true := by obtain ⟨es, h1, -⟩ := h; exact h1.one
theorem try_told {σ σ0 : Store} {i k : Nat} {lv wv : AVal} {x : TryR} (ho : σ[i]? = some (.cells tryZ)) (hk : x.k = k) (h1 : Terms σ lv x.ls) (h2 : SlOf σ 2 wv (NN x.ws)) (hi : σ0.length ≤ i) (g : Grows σ0 σ) (n1 : ∀ j, lv.sid = some j → j ≠ i) (n2 : ∀ j, wv.sid = some j → j ≠ i) (n3 : ∀ (es : List AVal) (e : AVal) (j : Nat), SlOf σ 1 lv es → e ∈ es → e.sid = some j → j ≠ i) :
    ∃ σ', storeV σ 4 (.ptr i 0) (.agg (tryC k lv wv)) = some σ' ∧ loadV σ' 4 true (.ptr i 0) = some (.agg (tryC k lv wv)) ∧ Grows σ0 σ' ∧ TryOk σ' (.agg (tryC k lv wv)) x := by
  obtain ⟨p1, p2⟩ := try_put (σ' := σ) (k := k) ho h1.one h2.one
  have kk := Keeps.set σ i (.cells (tryC k lv wv))
  refine ⟨_, p1, p2, Keeps.trans g kk fun j hj e => by omega, lv, wv, by rw [hk], ?_, h2.keeps kk fun j hj e => n2 j hj e⟩
  obtain ⟨es, a1, a2⟩ := h1
  refine ⟨es, a1.keeps kk fun j hj e => n1 j hj e, a2.mono_mem fun e t he ht hs => hs.keeps kk fun j hj e' => n3 es e j a1 he hj e'⟩
theorem Att.new (fm : AVal → List AVal) (σ : Store) (n : Nat) : Att fm σ (σ.length + 1) σ.length ((σ ++ [.arr 1 (List.replicate n .nilslice) 0 0]) ++ [.cells (fm .nilslice)]) .nilslice ⟨List.replicate n [], []⟩ := by
  refine ⟨Grows.trans (Grows.app _ _) (Grows.app _ _), by omega, Nat.le_refl _, Fresh.nil _, by simp, Own.nil _ _, List.replicate n .nilslice, by simp, ?_⟩
  refine Two.of_get (by simp) fun i a b ha hb => ?_
  rw [List.getElem?_replicate] at ha hb
  by_cases h : i < n
  · rw [if_pos h] at ha hb
    cases ha; cases hb; exact Own.nil _ _
  · rw [if_neg h] at ha
    cases ha
theorem Att.terms {fm : AVal → List AVal} {σ0 : Store} {id aid : Nat} {nv : AVal} {s : TSt} {σ : Store} (ha : Att fm σ0 id aid σ nv s) : ∃ es, Own σ 1 (.slice 1 aid 0 0 s.ls.length (some s.ls.length)) es ∧ Two (fun e t => Own σ 5 e (CC t)) es s.ls := by
  obtain ⟨es, h1, h2⟩ := ha.arr
  refine ⟨es, ⟨.inr (.inr ⟨aid, 0, 0, some s.ls.length, es, 0, 0, by rw [h2.len], h1, Nat.le_refl _, by simp, fun _ => by simp, .inr (by rw [h2.len])⟩)⟩, h2⟩
section
variable (d : Nat) (σ : Store)
end
end Go.Proofs.YtkjnanfkclijcaaDoor.Am

namespace Go.Proofs.YtkjnanfkclijcaaDoor.Am
open Go
set_option linter.unusedVariables false
set_option linter.unusedSimpArgs false
set_option linter.unusedSectionVars false
set_option maxRecDepth 100000
section
variable (d : Nat) (σ : Store)
end
end Go.Proofs.YtkjnanfkclijcaaDoor.Am

namespace Go.Proofs.YtkjnanfkclijcaaDoor.Am
open Go
set_option linter.unusedVariables false
set_option linter.unusedSimpArgs false
set_option linter.unusedSectionVars false
set_option maxRecDepth 100000
theorem TryOk.put {σ σ0 : Store} {i : Nat} {r : AVal} {x : TryR} (h : TryOk σ r x) (ho : σ[i]? = some (.cells tryZ)) (hi : σ0.length ≤ i) (g : Grows σ0 σ) :
    ∃ σ', storeV σ 4 (.ptr i 0) r = some σ' ∧ loadV σ' 4 true (.ptr i 0) = some r ∧ Grows σ0 σ' ∧ TryOk σ' r x := by
  obtain ⟨lv, wv, rfl, h2, h3⟩ := h
  have h2' := h2
  obtain ⟨es, a1, a2⟩ := h2'
  refine try_told ho rfl h2 h3 hi g (fun j h e => a1.noCell ho (by rw [← e]; exact h)) (fun j h e => h3.noCell ho (by rw [← e]; exact h)) (fun fs e j hf he hj e' => ?_)
  have : fs = es := Option.some.inj (hf.1.symm.trans a1.1)
  subst this
  obtain ⟨b, _, hb⟩ := a2.mem_left he
  exact hb.noCell ho (by rw [← e']; exact hj)
theorem Terms.lit {σ : Store} {v : AVal} {p : List Cel} (tg : Nat) (h : SlOf σ 5 v (CC p)) : Terms σ (.fslice tg true 1 [v]) [p] := ⟨[v], SlOf.fs _ _ _ _ _, Two.one h⟩
theorem I64.of {i : Int} (h : I64 i) : -9223372036854775808 ≤ i ∧ i < 9223372036854775808 := h
section
variable (d : Nat) (σ : Store)
end
end Go.Proofs.YtkjnanfkclijcaaDoor.Am

namespace Go.Proofs.YtkjnanfkclijcaaDoor.Am
open Go
set_option linter.unusedVariables false
set_option linter.unusedSimpArgs false
set_option linter.unusedSectionVars false
set_option maxRecDepth 100000
set_option maxHeartbeats 1000000 in
theorem hresolve_ok (d : Nat) (σ : Store) (H : Hp) (hw : WF H) (id mid : Nat) (vs : List AVal) (tv : AVal) (t : List Cel) (h : HeapP σ id mid vs H) (ht : SlOf σ 5 tv (CC t)) (hs : Small t) :
    Called CU.cfg d 43 [.ptr id 0, tv] σ fun r σ' => Grows σ σ' ∧ ∃ u e, r = .tuple [u, .int .i64 e] ∧ ((right t = false ∧ e = 6 ∧ u = .nilslice) ∨ (right t = true ∧ resD H 256 [] t = none ∧ e = 5 ∧ u = .nilslice) ∨
      ∃ a, right t = true ∧ resD H 256 [] t = some a ∧ e = 0 ∧ Own σ' 5 u (CC a)) := by
  refine called_of (fn := CU.a43) rfl (Nat.le_of_ble_eq_true rfl) ?_
  simp only [CU.a43]
  simp -dsimp only [↓WPd, ↓wpC_block, ↓wpC_cond, WPu, Bool.false_eq_true, Bool.true_eq_false, Bool.not_true, Bool.not_false, if_true, if_false, ite_true, ite_false, Nat.reduceEqDiff, Nat.reduceLT, true_and, List.map_cons, List.map_nil, Nat.zero_add, Nat.reduceBEq, WPm, isnil_ptr]
  refine calledW_of (right_ok d σ tv t hs.1 hs.2 ht) ?_
  rintro r σ1 ⟨rfl, g1⟩
  cases hr : right t with
  | false =>
    simp -dsimp only [↓WPd, ↓wpC_block, ↓wpC_cond, WPu, Bool.false_eq_true, Bool.true_eq_false, Bool.not_true, Bool.not_false, if_true, if_false, ite_true, ite_false, Nat.reduceEqDiff, Nat.reduceLT, true_and, List.map_cons, List.map_nil, Nat.zero_add, Nat.reduceBEq, WPm]
    exact ⟨g1, _, _, rfl, .inl ⟨rfl, rfl⟩⟩
  | true =>
    simp -dsimp only [↓WPd, ↓wpC_block, ↓wpC_cond, WPu, Bool.false_eq_true, Bool.true_eq_false, Bool.not_true, Bool.not_false, if_true, if_false, ite_true, ite_false, Nat.reduceEqDiff, Nat.reduceLT, true_and, List.map_cons, List.map_nil, Nat.zero_add, Nat.reduceBEq, WPm]
    have hc : (σ1 ++ [AObj.cells [.nilslice]])[σ1.length]? = some (.cells [.nilslice]) := by simp
    have g2 : Grows σ1 (σ1 ++ [AObj.cells [.nilslice]]) := Grows.app _ _
    generalize hσ2 : σ1 ++ [AObj.cells [.nilslice]] = σ2 at hc g2
    have hl : σ1.length < σ2.length := by rw [← hσ2]; simp
    have g12 := g1.trans g2
    refine calledW_of (resolve_ok d H hw id mid vs σ1.length 256 (by decide) σ2 .nilslice tv [] t (h.grow g12) ⟨hc, Own.nil _ _⟩ (by simp) (ht.grow g12) (right_len hr).2 (fun i _ e => by cases e)) ?_
    rintro r σ3 ⟨k3, hm⟩
    have gg : Grows σ σ3 := Keeps.trans g12 k3 fun i hi e => by
      rcases e with e | e
      · have := g1.1; omega
      · cases e
    cases hd : resD H 256 [] t with
    | none =>
      rw [hd] at hm
      simp only at hm
      subst hm
      simp -dsimp only [↓WPd, ↓wpC_block, ↓wpC_cond, WPu, Bool.false_eq_true, Bool.true_eq_false, Bool.not_true, Bool.not_false, if_true, if_false, ite_true, ite_false, Nat.reduceEqDiff, Nat.reduceLT, true_and, List.map_cons, List.map_nil, Nat.zero_add, Nat.reduceBEq, WPm]
      exact ⟨gg, _, _, rfl, .inr (.inl ⟨rfl, rfl⟩)⟩
    | some a =>
      rw [hd] at hm
      obtain ⟨rfl, ov, ⟨o1, o2⟩, -⟩ := hm
      have e1 : ([ov] : List AVal)[0]? = some ov := rfl
      simp -dsimp only [↓WPd, ↓wpC_block, ↓wpC_cond, WPu, Bool.false_eq_true, Bool.true_eq_false, Bool.not_true, Bool.not_false, if_true, if_false, ite_true, ite_false, Nat.reduceEqDiff, Nat.reduceLT, true_and, List.map_cons, List.map_nil, Nat.zero_add, Nat.reduceBEq, WPm, load_cells o1, e1]
      exact ⟨gg, _, _, rfl, .inr (.inr ⟨a, rfl, rfl, o2⟩)⟩
end Go.Proofs.YtkjnanfkclijcaaDoor.Am

namespace Go.Proofs.YtkjnanfkclijcaaDoor.Am
open Go
set_option linter.unusedVariables false
set_option linter.unusedSimpArgs false
def docL (H : Hp) (g : List Cel → Nat → Option (List Cel)) (most : Nat) : List Cel → List Cel → Option (List Cel)
  | o, [] => some o
  | o, c :: s => match hnext H [c] with
    | none => if (o ++ [c]).length ≤ most then docL H g most (o ++ [c]) s else none
    | some u => match (if (deref H u).length = 1 then some (deref H u) else g (deref H u) (most - o.length)) with
      | none => none
      | some p => if (o ++ p).length ≤ most then docL H g most (o ++ p) s else none
def docD (H : Hp) : Nat → List Cel → Nat → Option (List Cel)
  | 0 => fun _ _ => none
  | f + 1 => fun t most => docL H (docD H f) most [] t
inductive Exp (H : Hp) : List Cel → List Cel → Prop
  | nil : Exp H [] []
  | keep (c : Cel) {t r : List Cel} : hnext H [c] = none → Exp H t r → Exp H (c :: t) (c :: r)
  | put (c : Cel) {u w t r : List Cel} : hnext H [c] = some u → Exp H (deref H u) w → Exp H t r → Exp H (c :: t) (w ++ r)
theorem val_right {H : Hp} (hw : WF H) {c : Cel} {u : List Cel} (h : hnext H [c] = some u) : right (deref H u) = true := glob_right (deref_glob hw (hw.ok _ (hnext_mem h).2.2).2.2.1)
theorem Exp.pos {H : Hp} (hw : WF H) {t r : List Cel} (h : Exp H t r) : t ≠ [] → 0 < r.length := by
  induction h with
  | nil => intro h; exact (h rfl).elim
  | keep c _ _ _ => intro _; simp
  | put c hn _ _ ih1 ih2 =>
    intro _
    have := ih1 (right_ne (val_right hw hn))
    simp; omega
theorem deref_end {H : Hp} (hw : WF H) (u : List Cel) : hnext H (deref H u) = none := (follow_end hw (rank_le H u)).2
theorem deref_head {H : Hp} (hw : WF H) {c d : Cel} {u s : List Cel} (hn : hnext H [c] = some u) (h : deref H u = d :: s) : hnext H [d] = none := by
  have he := deref_end hw u
  have hr := val_right hw hn
  rw [h] at he hr
  cases s with
  | nil => exact he
  | cons e s =>
    have hk : d.k ≠ 4 := fun hk => by
      obtain ⟨h1, h2, h3⟩ := right_cons hr
      rw [var_parts hk, endAt_zero] at h1
      simp at h1
    simp [hnext, hk]
theorem Exp.one {H : Hp} {d : Cel} {w : List Cel} (h : Exp H [d] w) (hn : hnext H [d] = none) : w = [d] := by
  cases h with
  | keep _ _ h => cases h; rfl
  | put _ h' _ _ => rw [hn] at h'; cases h'
theorem resL_exp {H : Hp} {g : List Cel → List Cel → Option (List Cel)} (hg : ∀ o o' t, g o t = some o' → ∃ r, o' = o ++ r ∧ Exp H t r) : ∀ (t o o' : List Cel), resL H g o t = some o' → ∃ r, o' = o ++ r ∧ Exp H t r ∧ (t ≠ [] → o'.length ≤ 256)
  | [], o, o', h => by
    simp only [resL] at h
    injection h with h; subst h
    exact ⟨[], by simp, .nil, fun h => (h rfl).elim⟩
  | c :: s, o, o', h => by
    simp only [resL] at h
    split at h
    · rename_i hn
      split at h
      · rename_i hle
        obtain ⟨r, h1, h2, h3⟩ := resL_exp hg s (o ++ [c]) o' h
        refine ⟨c :: r, by rw [h1]; simp, .keep c hn h2, fun _ => ?_⟩
        by_cases e : s = []
        · subst e
          simp only [resL] at h
          injection h with h; subst h
          exact hle
        · exact h3 e
      · cases h
    · rename_i u hn
      split at h
      · rename_i o1 ho1
        split at h
        · rename_i hle
          obtain ⟨w, w1, w2⟩ := hg o o1 _ ho1
          obtain ⟨r, h1, h2, h3⟩ := resL_exp hg s o1 o' h
          refine ⟨w ++ r, by rw [h1, w1, List.append_assoc], .put c hn w2 h2, fun _ => ?_⟩
          by_cases e : s = []
          · subst e
            simp only [resL] at h
            injection h with h; subst h
            exact hle
          · exact h3 e
        · cases h
      · cases h
theorem resD_exp {H : Hp} : ∀ (n : Nat) (o o' t : List Cel), resD H n o t = some o' → ∃ r, o' = o ++ r ∧ Exp H t r ∧ (t ≠ [] → o'.length ≤ 256)
  | 0, o, o', t, h => resL_exp (fun _ _ _ h => by cases h) t o o' h
  | n + 1, o, o', t, h => resL_exp (fun o o' t h => by
      obtain ⟨r, h1, h2, _⟩ := resD_exp n o o' t h
      exact ⟨r, h1, h2⟩) t o o' h
theorem docL_exp {H : Hp} (hw : WF H) {g : List Cel → Nat → Option (List Cel)} (hg : ∀ m t p, g t m = some p → Exp H t p) (most : Nat) : ∀ (t o o' : List Cel), docL H g most o t = some o' → ∃ r, o' = o ++ r ∧ Exp H t r ∧ (t ≠ [] → o'.length ≤ most)
  | [], o, o', h => by
    simp only [docL] at h
    injection h with h; subst h
    exact ⟨[], by simp, .nil, fun h => (h rfl).elim⟩
  | c :: s, o, o', h => by
    simp only [docL] at h
    split at h
    · rename_i hn
      split at h
      · rename_i hle
        obtain ⟨r, h1, h2, h3⟩ := docL_exp hw hg most s (o ++ [c]) o' h
        refine ⟨c :: r, by rw [h1]; simp, .keep c hn h2, fun _ => ?_⟩
        by_cases e : s = []
        · subst e
          simp only [docL] at h
          injection h with h; subst h
          exact hle
        · exact h3 e
      · cases h
    · rename_i u hn
      split at h
      · cases h
      · rename_i p hp
        split at h
        · rename_i hle
          have hE : Exp H (deref H u) p := by
            split at hp
            · rename_i h1
              injection hp with hp; subst hp
              obtain ⟨d, hd⟩ := List.length_eq_one_iff.1 h1
              have := deref_head hw hn hd
              rw [hd]
              exact .keep d this .nil
            · exact hg _ _ _ hp
          obtain ⟨r, h1, h2, h3⟩ := docL_exp hw hg most s (o ++ p) o' h
          refine ⟨p ++ r, by rw [h1, List.append_assoc], .put c hn hE h2, fun _ => ?_⟩
          by_cases e : s = []
          · subst e
            simp only [docL] at h
            injection h with h; subst h
            exact hle
          · exact h3 e
        · cases h
theorem docD_exp {H : Hp} (hw : WF H) : ∀ (f m : Nat) (t p : List Cel), docD H f t m = some p → Exp H t p ∧ (t ≠ [] → p.length ≤ m)
  | 0, m, t, p, h => by cases h
  | f + 1, m, t, p, h => by
    obtain ⟨r, h1, h2, h3⟩ := docL_exp hw (fun m t p h => (docD_exp hw f m t p h).1) m t [] p h
    rw [List.nil_append] at h1
    subst h1
    exact ⟨h2, h3⟩
theorem Exp.res {H : Hp} (hw : WF H) {t r : List Cel} (h : Exp H t r) : (∀ (n : Nat) (o : List Cel), r.length ≤ n → (o ++ r).length ≤ 256 → resD H n o t = some (o ++ r)) ∧
    (∀ (d : Cel) (s : List Cel), t = d :: s → hnext H [d] = none → ∀ (n : Nat) (o : List Cel), r.length ≤ n + 1 → (o ++ r).length ≤ 256 → resD H n o t = some (o ++ r)) := by
  induction h with
  | nil =>
    refine ⟨fun n o _ _ => ?_, fun d s h => by cases h⟩
    cases n <;> simp [resD, resL]
  | keep c hn hs ih =>
    rename_i t r
    have key : ∀ (n : Nat) (o : List Cel), r.length ≤ n → (o ++ c :: r).length ≤ 256 → resD H n o (c :: t) = some (o ++ c :: r) := fun n o h1 h2 => by
      have h3 : (o ++ [c]).length ≤ 256 := by simp at h2 ⊢; omega
      have := ih.1 n (o ++ [c]) h1 (by simpa using h2)
      have e : resD H n o (c :: t) = resD H n (o ++ [c]) t := by
        cases n <;> simp only [resD, resL, hn, if_pos h3]
      rw [e, this]; simp
    exact ⟨fun n o h1 h2 => key n o (by simp at h1; omega) h2, fun d s h _ n o h1 h2 => key n o (by simpa using h1) h2⟩
  | put c hn hd hs ih1 ih2 =>
    rename_i u w t r
    refine ⟨fun n o h1 h2 => ?_, fun d s h hn' => ?_⟩
    · have hp := hd.pos hw (right_ne (val_right hw hn))
      simp only [List.length_append] at h1 h2
      obtain ⟨m, rfl⟩ : ∃ m, n = m + 1 := ⟨n - 1, by omega⟩
      have h3 : (o ++ w).length ≤ 256 := by simp; omega
      obtain ⟨d, s, hds⟩ : ∃ d s, deref H u = d :: s := List.exists_cons_of_ne_nil (right_ne (val_right hw hn))
      have a1 := ih1.2 d s hds (deref_head hw hn hds) m o (by omega) h3
      have a2 := ih2.1 (m + 1) (o ++ w) (by omega) (by simp; omega)
      simp only [resD] at a2 ⊢
      simp only [resL, hn, a1, if_pos h3, a2, List.append_assoc]
    · injection h with h1 h2
      subst h1
      rw [hn] at hn'; cases hn'
theorem Exp.doc {H : Hp} (hw : WF H) {t r : List Cel} (h : Exp H t r) : (∀ (f most : Nat) (o : List Cel), r.length ≤ f → (o ++ r).length ≤ most → docL H (docD H f) most o t = some (o ++ r)) ∧
    (∀ (d : Cel) (s : List Cel), t = d :: s → hnext H [d] = none → ∀ (f most : Nat) (o : List Cel), r.length ≤ f + 1 → (o ++ r).length ≤ most → docL H (docD H f) most o t = some (o ++ r)) := by
  induction h with
  | nil => exact ⟨fun f most o _ _ => by simp [docL], fun d s h => by cases h⟩
  | keep c hn hs ih =>
    rename_i t r
    have key : ∀ (f most : Nat) (o : List Cel), r.length ≤ f → (o ++ c :: r).length ≤ most → docL H (docD H f) most o (c :: t) = some (o ++ c :: r) := fun f most o h1 h2 => by
      have h3 : (o ++ [c]).length ≤ most := by simp at h2 ⊢; omega
      have := ih.1 f most (o ++ [c]) h1 (by simpa using h2)
      simp only [docL, hn, if_pos h3]
      rw [this]; simp
    exact ⟨fun f most o h1 h2 => key f most o (by simp at h1; omega) h2, fun d s h _ f most o h1 h2 => key f most o (by simpa using h1) h2⟩
  | put c hn hd hs ih1 ih2 =>
    rename_i u w t r
    refine ⟨fun f most o h1 h2 => ?_, fun d s h hn' => ?_⟩
    · have hp := hd.pos hw (right_ne (val_right hw hn))
      simp only [List.length_append] at h1 h2
      obtain ⟨m, rfl⟩ : ∃ m, f = m + 1 := ⟨f - 1, by omega⟩
      have h3 : (o ++ w).length ≤ most := by simp; omega
      obtain ⟨d, s, hds⟩ : ∃ d s, deref H u = d :: s := List.exists_cons_of_ne_nil (right_ne (val_right hw hn))
      have hdn := deref_head hw hn hds
      have a1 : (if (deref H u).length = 1 then some (deref H u) else docD H (m + 1) (deref H u) (most - o.length)) = some w := by
        split
        · rename_i e1
          obtain ⟨d', hd'⟩ := List.length_eq_one_iff.1 e1
          rw [hd'] at hd
          rw [hd'] at hds
          injection hds with hds1 hds2
          subst hds1
          rw [hd', hd.one hdn]
        · have := ih1.2 d s hds hdn m (most - o.length) [] (by omega) (by simp; omega)
          rw [List.nil_append] at this
          exact this
      have a2 := ih2.1 (m + 1) most (o ++ w) (by omega) (by simp; omega)
      simp only [docL, hn, a1, if_pos h3, a2, List.append_assoc]
    · injection h with h1 h2
      subst h1
      rw [hn] at hn'; cases hn'
theorem res_doc {H : Hp} (hw : WF H) {t : List Cel} (ht : t ≠ []) : resD H 256 [] t = docD H 301 t 256 := by
  cases h : resD H 256 [] t with
  | some a =>
    obtain ⟨r, h1, h2, h3⟩ := resD_exp 256 [] a t h
    rw [List.nil_append] at h1
    subst h1
    have := (h2.doc hw).1 300 256 [] (by have := h3 ht; omega) (by simpa using h3 ht)
    exact this.symm
  | none =>
    cases h' : docD H 301 t 256 with
    | none => rfl
    | some p =>
      obtain ⟨h2, h3⟩ := docD_exp hw 301 256 t p h'
      have := (h2.res hw).1 256 [] (h3 ht) (by simpa using h3 ht)
      rw [h] at this; cases this
theorem docL_same {H R : Hp} (h1 : ∀ t, hnext R t = hnext H t) (h2 : ∀ t, deref R t = deref H t) {g g' : List Cel → Nat → Option (List Cel)} (hg : ∀ t m, g t m = g' t m) (most : Nat) : ∀ (t o : List Cel), docL R g most o t = docL H g' most o t
  | [], o => rfl
  | c :: s, o => by
    simp only [docL, h1, h2, hg]
    cases hnext H [c] with
    | none => simp only; rw [docL_same h1 h2 hg most s]
    | some u =>
      simp only
      split
      · rfl
      · rw [docL_same h1 h2 hg most s]
theorem docD_same {H R : Hp} (h1 : ∀ t, hnext R t = hnext H t) (h2 : ∀ t, deref R t = deref H t) : ∀ (f : Nat) (t : List Cel) (m : Nat), docD R f t m = docD H f t m
  | 0, t, m => rfl
  | f + 1, t, m => docL_same h1 h2 (fun t m => docD_same h1 h2 f t m) m t []
theorem Same.res {H R : Hp} (h : Same H R) {t : List Cel} (ht : t ≠ []) : resD H 256 [] t = docD R 301 t 256 := by
  rw [res_doc h.wf ht, docD_same (fun t => hnext_same h t) (fun t => h.deref t)]
end Go.Proofs.YtkjnanfkclijcaaDoor.Am

namespace Go.Proofs.YtkjnanfkclijcaaDoor.Am
open Go
set_option linter.unusedVariables false
set_option linter.unusedSimpArgs false
set_option linter.unusedSectionVars false
set_option maxRecDepth 100000
set_option maxHeartbeats 4000000 in
theorem rresolved_ok (d : Nat) (R : Hp) (hw : WF R) (hR : R.length < 2 ^ 30) (rv : AVal) : ∀ (f : Nat) (hf : f ≤ 301) (σ : Store) (tv : AVal) (t : List Cel) (most : Nat) (h : RefV σ rv R) (ht : SlOf σ 5 tv (CC t)) (hm : most ≤ 256) (hs : ∀ c ∈ t, c.k < 256) (htl : t.length ≤ 256),
    Called CU.cfg d 105 [rv, tv, .int .i64 (most : Nat), .int .i64 ((301 - f : Nat) : Int)] σ fun r σ' => Grows σ σ' ∧ ∃ u, r = .tuple [u, .bool (docD R f t most).isSome] ∧ ∀ p, docD R f t most = some p → Own σ' 5 u (CC p) ∧ Fresh σ.length u := by
  intro f
  induction f with
  | zero =>
    intro hf σ tv t most h ht hm hs htl
    refine called_of (fn := CU.a105) rfl (Nat.le_of_ble_eq_true rfl) ?_
    simp only [CU.a105]
    have e1 : decide (((301 - 0 : Nat) : Int) > 300) = true := by decide
    simp -dsimp only [↓WPd, ↓wpC_block, ↓wpC_cond, WPu, Bool.false_eq_true, Bool.true_eq_false, Bool.not_true, Bool.not_false, if_true, if_false, ite_true, ite_false, Nat.reduceEqDiff, Nat.reduceLT, true_and, List.map_cons, List.map_nil, Nat.zero_add, Nat.reduceBEq, WPm, e1]
    exact ⟨Keeps.refl _ _, _, rfl, fun p hp => by cases hp⟩
  | succ f ih =>
    intro hf σ tv t most h ht hm hs htl
    refine called_of (fn := CU.a105) rfl (Nat.le_of_ble_eq_true rfl) ?_
    simp only [CU.a105]
    have e1 : decide (((301 - (f + 1) : Nat) : Int) > 300) = false := decide_eq_false (by omega)
    have edeep : IntKind.i64.wrap (((301 - (f + 1) : Nat) : Int) + 1) = ((301 - f : Nat) : Int) := by rw [wrap_i64 (by omega) (by omega)]; omega
    have lt := ht.len
    rw [List.length_map] at lt
    simp -dsimp only [↓WPd, ↓wpC_block, ↓wpC_cond, WPu, Bool.false_eq_true, Bool.true_eq_false, Bool.not_true, Bool.not_false, if_true, if_false, ite_true, ite_false, Nat.reduceEqDiff, Nat.reduceLT, true_and, List.map_cons, List.map_nil, Nat.zero_add, Nat.reduceBEq, WPm, e1]
    generalize hdeep : ((301 - (f + 1) : Nat) : Int) = deep at edeep
    simp only [docD]
    refine loop_rule2 (fun m ws σ' => ∃ (k : Nat) (ov : AVal) (o : List Cel), k ≤ t.length ∧ m = t.length - k ∧ ws = [rv, tv, .int .i64 (most : Nat), .int .i64 deep, ov, .int .i64 (k : Nat)] ∧ Grows σ σ' ∧ Own σ' 5 ov (CC o) ∧ Fresh σ.length ov ∧ o.length ≤ most ∧ docL R (docD R f) most [] t = docL R (docD R f) most o (t.drop k))
      [8, 9, 10] (fun e ws σ' => Grows σ σ' ∧ match docL R (docD R f) most [] t with
        | some p => e = .exit 0 ∧ ∃ u x y, ws = [x, y, u] ∧ Own σ' 5 u (CC p) ∧ Fresh σ.length u
        | none => e = .ret ∧ ∃ u x, ws = [x, .bool false, u]) t.length
      ⟨0, .nilslice, [], Nat.zero_le _, rfl, ?_, Keeps.refl _ _, Own.nil _ _, Fresh.nil _, Nat.zero_le _, by simp⟩ ?_ ?_
    · simp -dsimp only [↓WPd, ↓wpC_block, ↓wpC_cond, WPu, Bool.false_eq_true, Bool.true_eq_false, Bool.not_true, Bool.not_false, if_true, if_false, ite_true, ite_false, Nat.reduceEqDiff, Nat.reduceLT, true_and, List.map_cons, List.map_nil, Nat.zero_add, Nat.reduceBEq]; rfl
    · rintro m ws σ' ⟨k, ov, o, hk, rfl, rfl, g, oo, fo, hol, hres⟩
      simp -dsimp only [↓WPd, ↓wpC_block, ↓wpC_cond, WPu, Bool.false_eq_true, Bool.true_eq_false, Bool.not_true, Bool.not_false, if_true, if_false, ite_true, ite_false, Nat.reduceEqDiff, Nat.reduceLT, true_and, List.map_cons, List.map_nil, Nat.zero_add, Nat.reduceBEq, WPm, lt]
      refine condP_dec (fun hc => ?_) (fun hc => ?_)
      · have hk' : k < t.length := by omega
        have hdr : t.drop k = t[k] :: t.drop (k + 1) := List.drop_eq_getElem_cons hk'
        rw [hdr] at hres
        have hck := hs _ (List.getElem_mem hk')
        have atc : ∀ {σ2 : Store}, Grows σ' σ2 → ∃ q0 q3, iaddrV 5 tv (.int .i64 k) = some (addrOf 5 tv k) ∧ faddrV 0 (addrOf 5 tv k) = some q0 ∧ loadV σ2 1 false q0 = some (.int .u8 (t[k]).k) ∧ faddrV 3 (addrOf 5 tv k) = some q3 ∧ loadV σ2 2 true q3 = some (nmV (t[k]).v) ∧ loadV σ2 5 true (addrOf 5 tv k) = some (t[k]).val := fun {σ2} g2 => by
          have ht2 := ht.grow (g.trans g2)
          have hi0 : k < (CC t).length := by simpa using hk'
          have hb := (ht2.addr hi0 .i64).2
          rw [cel_get] at hb
          have hb' : behind σ2 (addrOf 5 tv k) = some ((t[k]).cs, 0) := hb
          obtain ⟨q0, p0, b0⟩ := faddr_at hb' 0
          obtain ⟨q3, p3, b3⟩ := faddr_at hb' 3
          exact ⟨q0, q3, ht2.iaddr hi0 .i64, p0, load_at b0, p3, loadN_at b3 (by simp [Cel.cs]), ht2.loadA hi0 (cs := (t[k]).cs) (by rw [cel_get]; rfl)⟩
        generalize t[k] = c at hres hck atc
        have k4 : ((c.k : Int) == 4) = decide (c.k = 4) := by by_cases h : c.k = 4 <;> simp [h] <;> omega
        have app : ∀ {σ2 : Store}, Grows σ' σ2 → ∃ w σ3, appendV σ2 5 48 ov [c.val] = some (w, σ3) ∧ lenSV w = some (o.length + 1) ∧ Own σ3 5 w (CC (o ++ [c])) ∧ Fresh σ.length w ∧ Grows σ σ3 := fun {σ2} g2 => by
          obtain ⟨w, σ3, a1, a2, a3, a4, a5⟩ := (oo.grow g2).append [c.val] 48 (by rw [List.length_map]; simp; omega)
          have a2' : Own σ3 5 w (CC (o ++ [c])) := by rw [show CC (o ++ [c]) = CC o ++ [c.val] by simp]; exact a2
          refine ⟨w, σ3, a1, by have := a2'.sl.len; simpa using this, a2', fun i hi => ?_, Keeps.trans (g.trans g2) a3 fun i hi e => by have := fo i e; omega⟩
          rcases a4 i hi with e | e
          · exact fo i e
          · have := (g.trans g2).1; omega
        have lit1 : ∀ (σ2 : Store), elems 5 σ2 (.fslice (AVal.tagL [c.val]) true 5 [c.val]) = some [c.val] := fun σ2 => elems_fs 5 _ true σ2 _
        obtain ⟨q0, q3, c1, c2, c3, c4, c5, c6⟩ := atc (Keeps.refl _ _)
        by_cases hk4 : c.k = 4
        · simp -dsimp only [↓WPd, ↓wpC_block, ↓wpC_cond, WPu, Bool.false_eq_true, Bool.true_eq_false, Bool.not_true, Bool.not_false, if_true, if_false, ite_true, ite_false, Nat.reduceEqDiff, Nat.reduceLT, true_and, List.map_cons, List.map_nil, Nat.zero_add, Nat.reduceBEq, WPm, c1, c2, c3, c4, c5, k4, decide_eq_true hk4]
          refine calledW_of (rvalue_ok d σ' σ rv R c.v h g (by omega)) ?_
          rintro r2 σ2 ⟨u, rfl, hu, g2⟩
          have hnx : hnext R [c] = lk R c.v := by simp [hnext, hk4]
          cases hl : lk R c.v with
          | none =>
            rw [hl] at hnx
            obtain ⟨q0', q3', d1, d2, d3, d4, d5, d6⟩ := atc g2
            obtain ⟨w, σ3, a1, a2, a3, a4, a5⟩ := app g2
            have hr : docL R (docD R f) most o (c :: t.drop (k + 1)) = if (o ++ [c]).length ≤ most then docL R (docD R f) most (o ++ [c]) (t.drop (k + 1)) else none := by simp only [docL, hnx]
            rw [hr] at hres
            simp -dsimp only [↓WPd, ↓wpC_block, ↓wpC_cond, WPu, Bool.false_eq_true, Bool.true_eq_false, Bool.not_true, Bool.not_false, if_true, if_false, ite_true, ite_false, Nat.reduceEqDiff, Nat.reduceLT, true_and, List.map_cons, List.map_nil, Nat.zero_add, Nat.reduceBEq, WPm, List.getElem?_cons_zero, List.getElem?_cons_succ, hl, Option.isSome_none, d1, d6, cel_lit, lit1, a1, a2]
            by_cases hmo : o.length + 1 ≤ most
            · have e2 : decide (((o.length + 1 : Nat) : Int) > (most : Int)) = false := decide_eq_false (by omega)
              rw [if_pos (by simpa using hmo)] at hres
              simp -dsimp only [↓WPd, ↓wpC_block, ↓wpC_cond, WPu, Bool.false_eq_true, Bool.true_eq_false, Bool.not_true, Bool.not_false, if_true, if_false, ite_true, ite_false, Nat.reduceEqDiff, Nat.reduceLT, true_and, List.map_cons, List.map_nil, Nat.zero_add, Nat.reduceBEq, WPm, e2]
              refine ⟨t.length - (k + 1), by omega, k + 1, w, o ++ [c], by omega, rfl, by rw [wrap_i64 (by omega) (by omega), Int.natCast_add, Int.natCast_one], a5, a3, a4, by simpa using hmo, hres⟩
            · have e2 : decide (((o.length + 1 : Nat) : Int) > (most : Int)) = true := decide_eq_true (by omega)
              rw [if_neg (by simpa using hmo)] at hres
              simp -dsimp only [↓WPd, ↓wpC_block, ↓wpC_cond, WPu, Bool.false_eq_true, Bool.true_eq_false, Bool.not_true, Bool.not_false, if_true, if_false, ite_true, ite_false, Nat.reduceEqDiff, Nat.reduceLT, true_and, List.map_cons, List.map_nil, Nat.zero_add, Nat.reduceBEq, WPm, e2]
              refine ⟨a5, ?_⟩
              rw [hres]
              exact ⟨_, _, rfl⟩
          | some u' =>
            rw [hl] at hnx hu
            simp only [Option.getD_some] at hu
            have gu : glob u' = true := (hw.ok _ (lk_mem hl)).2.2.1
            have rd := glob_right (deref_glob hw gu)
            simp -dsimp only [↓WPd, ↓wpC_block, ↓wpC_cond, WPu, Bool.false_eq_true, Bool.true_eq_false, Bool.not_true, Bool.not_false, if_true, if_false, ite_true, ite_false, Nat.reduceEqDiff, Nat.reduceLT, true_and, List.map_cons, List.map_nil, Nat.zero_add, Nat.reduceBEq, WPm, List.getElem?_cons_zero, List.getElem?_cons_succ, hl, Option.isSome_some]
            refine calledW_of (rderef_ok d σ2 rv u R u' (h.grow (g.trans g2)) hw hR (hu.grow (g.trans g2))) ?_
            rintro x σ3 ⟨hx, g3⟩
            have lx := hx.len
            rw [List.length_map] at lx
            have g23 := g2.trans g3
            have k1 : (((deref R u').length : Int) == 1) = decide ((deref R u').length = 1) := by by_cases h : (deref R u').length = 1 <;> simp [h] <;> omega
            have rdl := right_len rd
            have put : ∀ {σ4 : Store} (p : List Cel), Grows σ' σ4 → p.length ≤ 512 → ∃ w σ5, appendV σ4 5 48 ov (CC p) = some (w, σ5) ∧ lenSV w = some (o.length + p.length) ∧ Own σ5 5 w (CC (o ++ p)) ∧ Fresh σ.length w ∧ Grows σ σ5 := fun {σ4} p g4 hp => by
              obtain ⟨w, σ5, a1, a2, a3, a4, a5⟩ := (oo.grow g4).append (CC p) 48 (by rw [List.length_map, List.length_map]; omega)
              have a2' : Own σ5 5 w (CC (o ++ p)) := by rw [show CC (o ++ p) = CC o ++ CC p by simp]; exact a2
              refine ⟨w, σ5, a1, by have := a2'.sl.len; simpa using this, a2', fun i hi => ?_, Keeps.trans (g.trans g4) a3 fun i hi e => by have := fo i e; omega⟩
              rcases a4 i hi with e | e
              · exact fo i e
              · have := (g.trans g4).1; omega
            simp -dsimp only [↓WPd, ↓wpC_block, ↓wpC_cond, WPu, Bool.false_eq_true, Bool.true_eq_false, Bool.not_true, Bool.not_false, if_true, if_false, ite_true, ite_false, Nat.reduceEqDiff, Nat.reduceLT, true_and, List.map_cons, List.map_nil, Nat.zero_add, Nat.reduceBEq, WPm, lx, k1]
            by_cases h1 : (deref R u').length = 1
            · obtain ⟨w, σ4, a1, a2, a3, a4, a5⟩ := put (deref R u') g23 (by omega)
              have hr : docL R (docD R f) most o (c :: t.drop (k + 1)) = if (o ++ deref R u').length ≤ most then docL R (docD R f) most (o ++ deref R u') (t.drop (k + 1)) else none := by simp only [docL, hnx, if_pos h1]
              rw [hr] at hres
              simp -dsimp only [↓WPd, ↓wpC_block, ↓wpC_cond, WPu, Bool.false_eq_true, Bool.true_eq_false, Bool.not_true, Bool.not_false, if_true, if_false, ite_true, ite_false, Nat.reduceEqDiff, Nat.reduceLT, true_and, List.map_cons, List.map_nil, Nat.zero_add, Nat.reduceBEq, WPm, decide_eq_true h1, hx.els, a1, a2]
              by_cases hmo : o.length + (deref R u').length ≤ most
              · have e2 : decide (((o.length + (deref R u').length : Nat) : Int) > (most : Int)) = false := decide_eq_false (by omega)
                rw [if_pos (by simpa using hmo)] at hres
                simp -dsimp only [↓WPd, ↓wpC_block, ↓wpC_cond, WPu, Bool.false_eq_true, Bool.true_eq_false, Bool.not_true, Bool.not_false, if_true, if_false, ite_true, ite_false, Nat.reduceEqDiff, Nat.reduceLT, true_and, List.map_cons, List.map_nil, Nat.zero_add, Nat.reduceBEq, WPm, e2]
                refine ⟨t.length - (k + 1), by omega, k + 1, w, o ++ deref R u', by omega, rfl, by rw [wrap_i64 (by omega) (by omega), Int.natCast_add, Int.natCast_one], a5, a3, a4, by simpa using hmo, hres⟩
              · have e2 : decide (((o.length + (deref R u').length : Nat) : Int) > (most : Int)) = true := decide_eq_true (by omega)
                rw [if_neg (by simpa using hmo)] at hres
                simp -dsimp only [↓WPd, ↓wpC_block, ↓wpC_cond, WPu, Bool.false_eq_true, Bool.true_eq_false, Bool.not_true, Bool.not_false, if_true, if_false, ite_true, ite_false, Nat.reduceEqDiff, Nat.reduceLT, true_and, List.map_cons, List.map_nil, Nat.zero_add, Nat.reduceBEq, WPm, e2]
                refine ⟨a5, ?_⟩
                rw [hres]
                exact ⟨_, _, rfl⟩
            · have lo := oo.sl.len
              rw [List.length_map] at lo
              have emost : IntKind.i64.wrap ((most : Int) - (o.length : Int)) = ((most - o.length : Nat) : Int) := by rw [wrap_i64 (by omega) (by omega)]; omega
              simp -dsimp only [↓WPd, ↓wpC_block, ↓wpC_cond, WPu, Bool.false_eq_true, Bool.true_eq_false, Bool.not_true, Bool.not_false, if_true, if_false, ite_true, ite_false, Nat.reduceEqDiff, Nat.reduceLT, true_and, List.map_cons, List.map_nil, Nat.zero_add, Nat.reduceBEq, WPm, decide_eq_false h1, lo, emost, edeep]
              refine calledW_of (ih (by omega) σ3 x (deref R u') (most - o.length) (h.grow (g.trans g23)) hx (by omega) (fun c hc => ((right_small rd).2 c hc).1) (right_len rd).2) ?_
              rintro r4 σ4 ⟨g4, y, rfl, hy⟩
              have g24 := g23.trans g4
              cases hd : docD R f (deref R u') (most - o.length) with
              | none =>
                have hr : docL R (docD R f) most o (c :: t.drop (k + 1)) = none := by simp only [docL, hnx, if_neg h1, hd]
                rw [hr] at hres
                simp -dsimp only [↓WPd, ↓wpC_block, ↓wpC_cond, WPu, Bool.false_eq_true, Bool.true_eq_false, Bool.not_true, Bool.not_false, if_true, if_false, ite_true, ite_false, Nat.reduceEqDiff, Nat.reduceLT, true_and, List.map_cons, List.map_nil, Nat.zero_add, Nat.reduceBEq, WPm, List.getElem?_cons_zero, List.getElem?_cons_succ, hd, Option.isSome_none]
                refine ⟨g.trans g24, ?_⟩
                rw [hres]
                exact ⟨_, _, rfl⟩
              | some p =>
                obtain ⟨oy, -⟩ := hy p hd
                have hpl : p.length ≤ most - o.length := (docD_exp hw f _ _ p hd).2 (right_ne rd)
                obtain ⟨w, σ5, a1, a2, a3, a4, a5⟩ := put p g24 (by omega)
                have hr : docL R (docD R f) most o (c :: t.drop (k + 1)) = if (o ++ p).length ≤ most then docL R (docD R f) most (o ++ p) (t.drop (k + 1)) else none := by simp only [docL, hnx, if_neg h1, hd]
                rw [hr] at hres
                simp -dsimp only [↓WPd, ↓wpC_block, ↓wpC_cond, WPu, Bool.false_eq_true, Bool.true_eq_false, Bool.not_true, Bool.not_false, if_true, if_false, ite_true, ite_false, Nat.reduceEqDiff, Nat.reduceLT, true_and, List.map_cons, List.map_nil, Nat.zero_add, Nat.reduceBEq, WPm, List.getElem?_cons_zero, List.getElem?_cons_succ, hd, Option.isSome_some, oy.sl.els, a1, a2]
                have hmo : o.length + p.length ≤ most := by omega
                have e2 : decide (((o.length + p.length : Nat) : Int) > (most : Int)) = false := decide_eq_false (by omega)
                rw [if_pos (by simpa using hmo)] at hres
                simp -dsimp only [↓WPd, ↓wpC_block, ↓wpC_cond, WPu, Bool.false_eq_true, Bool.true_eq_false, Bool.not_true, Bool.not_false, if_true, if_false, ite_true, ite_false, Nat.reduceEqDiff, Nat.reduceLT, true_and, List.map_cons, List.map_nil, Nat.zero_add, Nat.reduceBEq, WPm, e2]
                refine ⟨t.length - (k + 1), by omega, k + 1, w, o ++ p, by omega, rfl, by rw [wrap_i64 (by omega) (by omega), Int.natCast_add, Int.natCast_one], a5, a3, a4, by simpa using hmo, hres⟩
        · have hnx : hnext R [c] = none := by simp [hnext, hk4]
          obtain ⟨w, σ3, a1, a2, a3, a4, a5⟩ := app (Keeps.refl _ _)
          have hr : docL R (docD R f) most o (c :: t.drop (k + 1)) = if (o ++ [c]).length ≤ most then docL R (docD R f) most (o ++ [c]) (t.drop (k + 1)) else none := by simp only [docL, hnx]
          rw [hr] at hres
          simp -dsimp only [↓WPd, ↓wpC_block, ↓wpC_cond, WPu, Bool.false_eq_true, Bool.true_eq_false, Bool.not_true, Bool.not_false, if_true, if_false, ite_true, ite_false, Nat.reduceEqDiff, Nat.reduceLT, true_and, List.map_cons, List.map_nil, Nat.zero_add, Nat.reduceBEq, WPm, c1, c2, c3, k4, decide_eq_false hk4, c6, cel_lit, lit1, a1, a2]
          by_cases hmo : o.length + 1 ≤ most
          · have e2 : decide (((o.length + 1 : Nat) : Int) > (most : Int)) = false := decide_eq_false (by omega)
            rw [if_pos (by simpa using hmo)] at hres
            simp -dsimp only [↓WPd, ↓wpC_block, ↓wpC_cond, WPu, Bool.false_eq_true, Bool.true_eq_false, Bool.not_true, Bool.not_false, if_true, if_false, ite_true, ite_false, Nat.reduceEqDiff, Nat.reduceLT, true_and, List.map_cons, List.map_nil, Nat.zero_add, Nat.reduceBEq, WPm, e2]
            refine ⟨t.length - (k + 1), by omega, k + 1, w, o ++ [c], by omega, rfl, by rw [wrap_i64 (by omega) (by omega), Int.natCast_add, Int.natCast_one], a5, a3, a4, by simpa using hmo, hres⟩
          · have e2 : decide (((o.length + 1 : Nat) : Int) > (most : Int)) = true := decide_eq_true (by omega)
            rw [if_neg (by simpa using hmo)] at hres
            simp -dsimp only [↓WPd, ↓wpC_block, ↓wpC_cond, WPu, Bool.false_eq_true, Bool.true_eq_false, Bool.not_true, Bool.not_false, if_true, if_false, ite_true, ite_false, Nat.reduceEqDiff, Nat.reduceLT, true_and, List.map_cons, List.map_nil, Nat.zero_add, Nat.reduceBEq, WPm, e2]
            refine ⟨a5, ?_⟩
            rw [hres]
            exact ⟨_, _, rfl⟩
      · have : k = t.length := by omega
        subst this
        rw [List.drop_length] at hres
        simp only [docL] at hres
        simp -dsimp only [↓WPd, ↓wpC_block, ↓wpC_cond, WPu, Bool.false_eq_true, Bool.true_eq_false, Bool.not_true, Bool.not_false, if_true, if_false, ite_true, ite_false, Nat.reduceEqDiff, Nat.reduceLT, true_and, List.map_cons, List.map_nil, Nat.zero_add, Nat.reduceBEq]
        refine ⟨g, ?_⟩
        rw [hres]
        exact ⟨ov, _, _, rfl, oo, fo⟩
    · rintro e σ' env ⟨g, hm'⟩
      cases hd : docL R (docD R f) most [] t with
      | none =>
        rw [hd] at hm'
        obtain ⟨rfl, u, x, hv⟩ := hm'
        simp only [List.map_cons, List.map_nil, List.cons.injEq, and_true] at hv
        obtain ⟨v8, v9, v10⟩ := hv
        simp -dsimp only [↓WPd, ↓wpC_block, ↓wpC_cond, WPu, Bool.false_eq_true, Bool.true_eq_false, Bool.not_true, Bool.not_false, if_true, if_false, ite_true, ite_false, Nat.reduceEqDiff, Nat.reduceLT, true_and, List.map_cons, List.map_nil, Nat.zero_add, Nat.reduceBEq, v8, v9, v10]
        exact ⟨g, x, rfl, fun p h => by cases h⟩
      | some p =>
        rw [hd] at hm'
        obtain ⟨rfl, u, x, y, hv, ho, hf⟩ := hm'
        simp only [List.map_cons, List.map_nil, List.cons.injEq, and_true] at hv
        obtain ⟨v8, v9, v10⟩ := hv
        simp -dsimp only [↓WPd, ↓wpC_block, ↓wpC_cond, WPu, Bool.false_eq_true, Bool.true_eq_false, Bool.not_true, Bool.not_false, if_true, if_false, ite_true, ite_false, Nat.reduceEqDiff, Nat.reduceLT, true_and, List.map_cons, List.map_nil, Nat.zero_add, Nat.reduceBEq, v8, v9, v10]
        exact ⟨g, u, rfl, fun p' h => by injection h with h; subst h; exact ⟨ho, hf⟩⟩
set_option maxHeartbeats 1000000 in
theorem rresolve_ok (d : Nat) (σ : Store) (R : Hp) (hw : WF R) (hR : R.length < 2 ^ 30) (A : Nat → Prop) (id : Nat) (tv : AVal) (t : List Cel) (h : RefP σ A id R) (ht : SlOf σ 5 tv (CC t)) (hs : Small t) :
    Called CU.cfg d 46 [.ptr id 0, tv] σ fun r σ' => Grows σ σ' ∧ ∃ u e, r = .tuple [u, .int .i64 e] ∧ ((right t = false ∧ e = 6 ∧ u = .nilslice) ∨ (right t = true ∧ docD R 301 t 256 = none ∧ e = 5 ∧ u = .nilslice) ∨
      ∃ a, right t = true ∧ docD R 301 t 256 = some a ∧ e = 0 ∧ Own σ' 5 u (CC a)) := by
  refine called_of (fn := CU.a46) rfl (Nat.le_of_ble_eq_true rfl) ?_
  simp only [CU.a46]
  simp -dsimp only [↓WPd, ↓wpC_block, ↓wpC_cond, WPu, Bool.false_eq_true, Bool.true_eq_false, Bool.not_true, Bool.not_false, if_true, if_false, ite_true, ite_false, Nat.reduceEqDiff, Nat.reduceLT, true_and, List.map_cons, List.map_nil, Nat.zero_add, Nat.reduceBEq, WPm, isnil_ptr]
  refine calledW_of (rright_ok d σ tv t hs.1 ht) ?_
  rintro r σ1 ⟨rfl, g1⟩
  cases hr : right t with
  | false =>
    simp -dsimp only [↓WPd, ↓wpC_block, ↓wpC_cond, WPu, Bool.false_eq_true, Bool.true_eq_false, Bool.not_true, Bool.not_false, if_true, if_false, ite_true, ite_false, Nat.reduceEqDiff, Nat.reduceLT, true_and, List.map_cons, List.map_nil, Nat.zero_add, Nat.reduceBEq, WPm]
    exact ⟨g1, _, _, rfl, .inl ⟨rfl, rfl⟩⟩
  | true =>
    simp -dsimp only [↓WPd, ↓wpC_block, ↓wpC_cond, WPu, Bool.false_eq_true, Bool.true_eq_false, Bool.not_true, Bool.not_false, if_true, if_false, ite_true, ite_false, Nat.reduceEqDiff, Nat.reduceLT, true_and, List.map_cons, List.map_nil, Nat.zero_add, Nat.reduceBEq, WPm]
    refine calledW_of (rresolved_ok d R hw hR (.ptr id 0) 301 (Nat.le_refl _) σ1 tv t 256 (h.grow g1).v (ht.grow g1) (Nat.le_refl _) (fun c hc => (hs.2 c hc).1) (right_len hr).2) ?_
    rintro r σ2 ⟨g2, u, rfl, hu⟩
    cases hd : docD R 301 t 256 with
    | none =>
      simp -dsimp only [↓WPd, ↓wpC_block, ↓wpC_cond, WPu, Bool.false_eq_true, Bool.true_eq_false, Bool.not_true, Bool.not_false, if_true, if_false, ite_true, ite_false, Nat.reduceEqDiff, Nat.reduceLT, true_and, List.map_cons, List.map_nil, Nat.zero_add, Nat.reduceBEq, WPm, List.getElem?_cons_zero, List.getElem?_cons_succ, hd, Option.isSome_none]
      exact ⟨g1.trans g2, _, _, rfl, .inr (.inl ⟨rfl, rfl⟩)⟩
    | some a =>
      obtain ⟨o1, -⟩ := hu a hd
      simp -dsimp only [↓WPd, ↓wpC_block, ↓wpC_cond, WPu, Bool.false_eq_true, Bool.true_eq_false, Bool.not_true, Bool.not_false, if_true, if_false, ite_true, ite_false, Nat.reduceEqDiff, Nat.reduceLT, true_and, List.map_cons, List.map_nil, Nat.zero_add, Nat.reduceBEq, WPm, List.getElem?_cons_zero, List.getElem?_cons_succ, hd, Option.isSome_some]
      exact ⟨g1.trans g2, _, _, rfl, .inr (.inr ⟨a, rfl, rfl, o1⟩)⟩
end Go.Proofs.YtkjnanfkclijcaaDoor.Am

namespace Go.Proofs.YtkjnanfkclijcaaDoor.Am
open Go
set_option linter.unusedVariables false
set_option linter.unusedSimpArgs false
set_option linter.unusedSectionVars false
set_option maxRecDepth 100000
theorem SlOf.noMap {σ : Store} {sz : Nat} {v : AVal} {es ks vs : List AVal} {id : Nat} (h : SlOf σ sz v es) (ho : σ[id]? = some (.map ks vs)) : v.sid ≠ some id := by
  intro hs
  rcases h.cases with ⟨rfl, _⟩ | ⟨t, f, rfl⟩ | ⟨id', ep, off, cap, sz', xs, epo, fl, rfl, h1, _⟩
  · cases hs
  · cases hs
  · injection hs with hs; subst hs; rw [ho] at h1; cases h1
def delN (H : Hp) (v : Nm) : Hp := H.filter fun p => decide (p.1 ≠ v)
theorem delN_erase : ∀ {H : Hp} {i : Nat} {p : Nm × List Cel}, (H.map (·.1)).Nodup → H[i]? = some p → delN H p.1 = H.eraseIdx i
  | [], i, p, _, h => by simp at h
  | q :: r, 0, p, hn, h => by
    simp at h; subst h
    simp only [List.map_cons, List.nodup_cons] at hn
    simp only [delN, List.eraseIdx_cons_zero]
    rw [List.filter_cons_of_neg (by simp)]
    exact List.filter_eq_self.2 fun x hx => decide_eq_true fun e => hn.1 (List.mem_map.2 ⟨x, hx, e⟩)
  | q :: r, i + 1, p, hn, h => by
    simp only [List.map_cons, List.nodup_cons] at hn
    simp only [List.getElem?_cons_succ] at h
    have hp : p ∈ r := List.mem_of_getElem? h
    have hne : q.1 ≠ p.1 := fun e => hn.1 (List.mem_map.2 ⟨p, hp, e.symm⟩)
    have ih := delN_erase (i := i) hn.2 h
    simp only [delN] at ih ⊢
    rw [List.filter_cons_of_pos (by simpa using hne), ih]; rfl
theorem delN_none {H : Hp} {v : Nm} (h : lk H v = none) : delN H v = H :=
  List.filter_eq_self.2 fun x hx => decide_eq_true fun e => lk_none.1 h (List.mem_map.2 ⟨x, hx, e⟩)
theorem WF.filter {H : Hp} (h : WF H) (f : Nm × List Cel → Bool) : WF (H.filter f) :=
  ⟨(List.filter_sublist.map _).nodup h.keys, fun p hp => h.ok p (List.mem_filter.1 hp).1⟩
theorem Two.erase {α β : Type} {Q : α → β → Prop} {us : List α} {ws : List β} (h : Two Q us ws) (i : Nat) : Two Q (us.eraseIdx i) (ws.eraseIdx i) := by
  rw [List.eraseIdx_eq_take_drop_succ, List.eraseIdx_eq_take_drop_succ]
  exact (h.take i).append (h.drop (i + 1))
theorem HeapP.del {σ : Store} {id mid : Nat} {vs : List AVal} {H : Hp} (h : HeapP σ id mid vs H) (v : Nm) :
    ∃ σ' vs', mapdelV σ true [.i, .i] (.map mid) (nmV v) = some σ' ∧ HeapP σ' id mid vs' (delN H v) ∧ Keeps (fun i => i = mid) σ σ' := by
  obtain ⟨o, h1, h2⟩ := find_nm v H
  have hk : keyEq true [.i, .i] (nmV v) (nmV v) = some true := by rw [nm_keyEq, decide_eq_true rfl]
  have hf : findKK true [.i, .i] (nmV v) (H.map fun p => nmV p.1) = some o := by simp only [findKK, hk, Option.isSome_some, if_true, h1]
  have hmo := h.map
  have hne : id ≠ mid := fun e => by have h1 := h.obj; rw [e, h.map] at h1; cases h1
  cases o with
  | none =>
    refine ⟨σ, vs, by simp only [mapdelV, hmo, hf], ?_, Keeps.refl _ _⟩
    rw [delN_none h2]; exact h
  | some i =>
    obtain ⟨p, p1, rfl, p3⟩ := h2
    rw [delN_erase h.wf.keys p1]
    refine ⟨σ.set mid (.map ((H.map fun p => nmV p.1).eraseIdx i) (vs.eraseIdx i)), vs.eraseIdx i, by simp only [mapdelV, hmo, hf], ⟨?_, ?_, h.vals.erase i, ?_⟩, Keeps.set _ _ _⟩
    · rw [List.getElem?_set_ne (fun e => hne e.symm)]; exact h.obj
    · rw [get_set h.map, map_erase]
    · rw [← delN_erase h.wf.keys p1]; exact h.wf.filter _
def dropH (H : Hp) (ws : List Nm) : Hp := ws.foldl delN H
def dropR (R : Hp) (ws : List Nm) : Hp := R.filter fun p => !ws.contains p.1
theorem dropH_eq : ∀ (ws : List Nm) (H : Hp), dropH H ws = H.filter fun p => !ws.contains p.1
  | [], H => by
    simp only [dropH, List.foldl_nil]
    exact (List.filter_eq_self.2 fun _ _ => by simp).symm
  | v :: ws, H => by
    have ih := dropH_eq ws (delN H v)
    simp only [dropH, List.foldl_cons] at ih ⊢
    rw [ih, delN, List.filter_filter]
    congr 1
    funext p
    by_cases e : p.1 = v
    · simp [e]
    · have e2 : ¬ (v = p.1) := fun h => e h.symm
      simp [List.contains_cons, e]
theorem Same.drop {H R : Hp} (h : Same H R) (ws : List Nm) : Same (dropH H ws) (dropR R ws) := by
  rw [dropH_eq]
  exact ⟨h.wf.filter _, h.perm.filter _, List.Pairwise.sublist List.filter_sublist h.rise⟩
section
variable (d : Nat) (σ : Store)
theorem hfork_ok (id mid : Nat) (vs : List AVal) (H : Hp) (h : HeapP σ id mid vs H) : Called CU.cfg d 50 [.ptr id 0] σ fun r σ' => ∃ id' mid', r = .ptr id' 0 ∧ HeapP σ' id' mid' vs H ∧ Grows σ σ' ∧ σ.length ≤ id' ∧ σ.length ≤ mid' := by
  refine called_of (fn := CU.a50) rfl (Nat.le_of_ble_eq_true rfl) ?_
  simp only [CU.a50]
  have e1 : ([AVal.map mid] : List AVal)[0]? = some (.map mid) := rfl
  simp -dsimp only [↓WPd, ↓wpC_block, ↓wpC_cond, WPu, Bool.false_eq_true, Bool.true_eq_false, Bool.not_true, Bool.not_false, if_true, if_false, ite_true, ite_false, Nat.reduceEqDiff, Nat.reduceLT, true_and, List.map_cons, List.map_nil, Nat.zero_add, Nat.reduceBEq, WPm, isnil_ptr, faddr_ptr, Nat.add_zero, load_cells h.obj, e1]
  have hk : kvOf σ (.map mid) = some (H.map fun p => nmV p.1, vs) := by simp only [kvOf, h.map]
  refine calledW_of (called_nat (Q := fun r σ' => r = .map σ.length ∧ σ' = σ ++ [.map (H.map fun p => nmV p.1) vs]) rfl (show natMC [.map mid] σ = some (.map σ.length, σ ++ [.map (H.map fun p => nmV p.1) vs]) by simp only [natMC, hk]) ⟨rfl, rfl⟩) ?_
  rintro r σ1 ⟨rfl, rfl⟩
  have e2 : fillA [AVal.nilmap] [(0, 1, .map σ.length)] = some [.map σ.length] := rfl
  have e3 : [AVal.map σ.length].all AVal.one = true := rfl
  simp -dsimp only [↓WPd, ↓wpC_block, ↓wpC_cond, WPu, Bool.false_eq_true, Bool.true_eq_false, Bool.not_true, Bool.not_false, if_true, if_false, ite_true, ite_false, Nat.reduceEqDiff, Nat.reduceLT, true_and, List.map_cons, List.map_nil, Nat.zero_add, Nat.reduceBEq, WPm, e2, e3, cells_agg]
  refine ⟨_, σ.length, rfl, ⟨by simp, by simp [List.getElem?_append], h.vals, h.wf⟩, ?_, by simp, Nat.le_refl _⟩
  exact (Grows.app _ _).trans (Grows.app _ _)
theorem hdrop_ok (id mid : Nat) (vs : List AVal) (H : Hp) (l : AVal) (ws : List Nm) (h : HeapP σ id mid vs H) (hl : SlOf σ 2 l (ws.map nmV)) (hw : ws.length < 2 ^ 40) : Called CU.cfg d 52 [.ptr id 0, l] σ fun r σ' => (∃ vs', HeapP σ' id mid vs' (dropH H ws)) ∧ Keeps (fun i => i = mid) σ σ' := by
  refine called_of (fn := CU.a52) rfl (Nat.le_of_ble_eq_true rfl) ?_
  simp only [CU.a52]
  have ll : lenSV l = some ws.length := by rw [hl.len]; simp
  have hmid : mid < σ.length := (List.getElem?_eq_some_iff.1 h.map).1
  have hlm : ∀ i, l.sid = some i → ¬ i = mid := fun i hi e => hl.noMap h.map (e ▸ hi)
  simp -dsimp only [↓WPd, ↓wpC_block, ↓wpC_cond, WPu, Bool.false_eq_true, Bool.true_eq_false, Bool.not_true, Bool.not_false, if_true, if_false, ite_true, ite_false, Nat.reduceEqDiff, Nat.reduceLT, true_and, List.map_cons, List.map_nil, Nat.zero_add, Nat.reduceBEq, WPm, ll]
  refine loop_rule2 (fun m xs σ' => ∃ (k : Nat) (us : List AVal), k ≤ ws.length ∧ m = ws.length - k ∧ xs = [.ptr id 0, l, .int .i64 ws.length, .int .i64 (k : Nat)] ∧ HeapP σ' id mid us (dropH H (ws.take k)) ∧ Keeps (fun i => i = mid) σ σ')
    [] (fun e xs σ' => e = .exit 0 ∧ (∃ us, HeapP σ' id mid us (dropH H ws)) ∧ Keeps (fun i => i = mid) σ σ') ws.length ⟨0, vs, Nat.zero_le _, rfl, ?_, h, Keeps.refl _ _⟩ ?_ ?_
  · simp -dsimp only [↓WPd, ↓wpC_block, ↓wpC_cond, WPu, Bool.false_eq_true, Bool.true_eq_false, Bool.not_true, Bool.not_false, if_true, if_false, ite_true, ite_false, Nat.reduceEqDiff, Nat.reduceLT, true_and, List.map_cons, List.map_nil, Nat.zero_add, Nat.reduceBEq]; rfl
  · rintro m xs σ' ⟨k, us, hk, rfl, rfl, hh, g⟩
    simp -dsimp only [↓WPd, ↓wpC_block, ↓wpC_cond, WPu, Bool.false_eq_true, Bool.true_eq_false, Bool.not_true, Bool.not_false, if_true, if_false, ite_true, ite_false, Nat.reduceEqDiff, Nat.reduceLT, true_and, List.map_cons, List.map_nil, Nat.zero_add, Nat.reduceBEq]
    refine condP_dec (fun hc => ?_) (fun hc => ?_)
    · have hk' : k < ws.length := by omega
      have hr' := hl.keeps g hlm
      have hke : k < (ws.map nmV).length := by simpa using hk'
      have ia : iaddrV 2 l (.int .i64 k) = some (addrOf 2 l k) := hr'.iaddr hke .i64
      have hb := (hr'.addr hke .i64).2
      have hb' : behind σ' (addrOf 2 l k) = some (nmC ws[k], 0) := by rw [hb]; simp only [List.getElem_map, nm_cells]
      have ld : loadV σ' 2 true (addrOf 2 l k) = some (nmV ws[k]) := loadN_at hb' (by simp [nmC])
      have oj : (σ' ++ [AObj.cells (nmC ws[k])])[σ'.length]? = some (.cells (nmC ws[k])) := by simp
      have g1 : Grows σ' (σ' ++ [AObj.cells (nmC ws[k])]) := Grows.app _ _
      have e1 : ([AVal.map mid] : List AVal)[0]? = some (.map mid) := rfl
      simp -dsimp only [↓WPd, ↓wpC_block, ↓wpC_cond, WPu, Bool.false_eq_true, Bool.true_eq_false, Bool.not_true, Bool.not_false, if_true, if_false, ite_true, ite_false, Nat.reduceEqDiff, Nat.reduceLT, true_and, List.map_cons, List.map_nil, Nat.zero_add, Nat.reduceBEq, WPm, ia, ld, nm_putB, isnil_ptr]
      have hh1 := hh.grow g1
      generalize σ' ++ [AObj.cells (nmC ws[k])] = σ1 at oj g1 hh1
      obtain ⟨σ2, us2, d1, d2, d3⟩ := hh1.del ws[k]
      simp -dsimp only [↓WPd, ↓wpC_block, ↓wpC_cond, WPu, Bool.false_eq_true, Bool.true_eq_false, Bool.not_true, Bool.not_false, if_true, if_false, ite_true, ite_false, Nat.reduceEqDiff, Nat.reduceLT, true_and, List.map_cons, List.map_nil, Nat.zero_add, Nat.reduceBEq, WPm, isnil_ptr, faddr_ptr, Nat.add_zero, load_cells hh1.obj, e1, load_nm oj, d1]
      have ht : ws.take (k + 1) = ws.take k ++ [ws[k]] := List.take_succ_eq_append_getElem hk'
      refine ⟨ws.length - (k + 1), by omega, k + 1, us2, by omega, rfl, by rw [wrap_i64 (by omega) (by omega), Int.natCast_add, Int.natCast_one], ?_, Keeps.trans (Keeps.trans g g1 fun i _ e => e.elim) d3 fun i _ e => e⟩
      rw [ht, dropH, List.foldl_append]; exact d2
    · have : k = ws.length := by omega
      subst this
      rw [List.take_length] at hh
      simp -dsimp only [↓WPd, ↓wpC_block, ↓wpC_cond, WPu, Bool.false_eq_true, Bool.true_eq_false, Bool.not_true, Bool.not_false, if_true, if_false, ite_true, ite_false, Nat.reduceEqDiff, Nat.reduceLT, true_and, List.map_cons, List.map_nil, Nat.zero_add, Nat.reduceBEq]
      exact ⟨⟨us, hh⟩, g⟩
  · rintro e σ' env ⟨rfl, hh, g⟩
    have hr : ∀ s : FS, resultsA [] s = some (.tuple []) := fun _ => rfl
    simp -dsimp only [↓WPd, ↓wpC_block, ↓wpC_cond, WPu, Bool.false_eq_true, Bool.true_eq_false, Bool.not_true, Bool.not_false, if_true, if_false, ite_true, ite_false, Nat.reduceEqDiff, Nat.reduceLT, true_and, List.map_cons, List.map_nil, Nat.zero_add, Nat.reduceBEq, hr]
    exact ⟨hh, g⟩
set_option maxHeartbeats 1000000 in
theorem rfork_ok (A : Nat → Prop) (id : Nat) (R : Hp) (h : RefP σ A id R) (hR : R.length < 2 ^ 30) : Called CU.cfg d 51 [.ptr id 0] σ fun r σ' => ∃ id', r = .ptr id' 0 ∧ RefP σ' (fun i => A i ∨ σ.length ≤ i) id' R ∧ Grows σ σ' ∧ σ.length ≤ id' := by
  refine called_of (fn := CU.a51) rfl (Nat.le_of_ble_eq_true rfl) ?_
  simp only [CU.a51]
  obtain ⟨w, es, o1, o2, o3, o4⟩ := h
  have e1 : fillA [AVal.nilslice] [] = some [AVal.nilslice] := rfl
  have e2 : [AVal.nilslice].all AVal.one = true := rfl
  simp -dsimp only [↓WPd, ↓wpC_block, ↓wpC_cond, WPu, Bool.false_eq_true, Bool.true_eq_false, Bool.not_true, Bool.not_false, if_true, if_false, ite_true, ite_false, Nat.reduceEqDiff, Nat.reduceLT, true_and, List.map_cons, List.map_nil, Nat.zero_add, Nat.reduceBEq, WPm, isnil_ptr, e1, e2, cells_agg]
  have oj : (σ ++ [AObj.cells [.nilslice]])[σ.length]? = some (.cells [.nilslice]) := by simp
  have g1 : Grows σ (σ ++ [AObj.cells [.nilslice]]) := Grows.app _ _
  have hlt : σ.length < (σ ++ [AObj.cells [.nilslice]]).length := by simp
  generalize σ ++ [AObj.cells [.nilslice]] = σ1 at oj g1 hlt
  have e3 : ([w] : List AVal)[0]? = some w := rfl
  have e4 : ([AVal.nilslice] : List AVal)[0]? = some .nilslice := rfl
  have hel := o4.len
  obtain ⟨x, σ2, a1, a2, a3, a4, a5⟩ := (Own.nil σ1 3).append es 40 (by simp only [List.length_nil]; omega)
  rw [List.nil_append] at a2
  have g2 : Grows σ1 σ2 := a3.mono fun i _ h => by cases h
  have oj2 := g2.get oj
  have st := store_cells oj2 (off := 0) (v := x) (by simp) a2.one
  simp -dsimp only [↓WPd, ↓wpC_block, ↓wpC_cond, WPu, Bool.false_eq_true, Bool.true_eq_false, Bool.not_true, Bool.not_false, if_true, if_false, ite_true, ite_false, Nat.reduceEqDiff, Nat.reduceLT, true_and, List.map_cons, List.map_nil, Nat.zero_add, Nat.reduceBEq, WPm, isnil_ptr, faddr_ptr, Nat.add_zero, load_cells oj, load_cells (g1.get o1), e3, e4, (o2.grow g1).els, a1, st]
  have g12 := g1.trans g2
  have fx : ∀ i, x.sid = some i → σ.length ≤ i ∧ i ≠ σ.length := fun i hi => by
    rcases a4 i hi with e | e
    · cases e
    · omega
  have k3 : Keeps (fun i => i = σ.length) σ2 (σ2.set σ.length (.cells [x])) := Keeps.set _ _ _
  refine ⟨_, rfl, ⟨x, es, get_set oj2, a2.sl.keeps k3 fun i hi e => (fx i hi).2 e, fun i hi => .inr (fx i hi).1, ?_⟩, Keeps.trans g12 k3 fun i hi e => by omega, Nat.le_refl _⟩
  refine o4.mono fun e p ⟨u, hu, hs, ha⟩ => ⟨u, hu, ?_, fun i hi => .inl (ha i hi)⟩
  exact (hs.grow g12).keeps k3 fun i hi e => by have := hs.lt hi; omega
set_option maxHeartbeats 1000000 in
theorem rdrop_ok (A : Nat → Prop) (id : Nat) (R : Hp) (l : AVal) (ws : List Nm) (h : RefP σ A id R) (hR : R.length < 2 ^ 30) (hl : SlOf σ 2 l (ws.map nmV)) (hw : ws.length < 2 ^ 40) : Called CU.cfg d 53 [.ptr id 0, l] σ fun r σ' => RefP σ' (fun i => A i ∨ σ.length ≤ i) id (dropR R ws) ∧ Keeps (fun i => i = id) σ σ' := by
  refine called_of (fn := CU.a53) rfl (Nat.le_of_ble_eq_true rfl) ?_
  simp only [CU.a53]
  obtain ⟨w, es, o1, o2, o3, o4⟩ := h
  have e3 : ([w] : List AVal)[0]? = some w := rfl
  have hel := o4.len
  have lw := o2.len
  rw [hel] at lw
  have hid : id < σ.length := (List.getElem?_eq_some_iff.1 o1).1
  simp -dsimp only [↓WPd, ↓wpC_block, ↓wpC_cond, WPu, Bool.false_eq_true, Bool.true_eq_false, Bool.not_true, Bool.not_false, if_true, if_false, ite_true, ite_false, Nat.reduceEqDiff, Nat.reduceLT, true_and, List.map_cons, List.map_nil, Nat.zero_add, Nat.reduceBEq, WPm, isnil_ptr]
  refine loop_rule2 (fun m xs σ' => ∃ (k : Nat) (ov : AVal) (ys : List AVal), k ≤ R.length ∧ m = R.length - k ∧ xs = [.ptr id 0, l, ov, .int .i64 (k : Nat)] ∧ Grows σ σ' ∧ Own σ' 3 ov ys ∧ Fresh σ.length ov ∧ ys.length ≤ k ∧ Two (BdRel σ A) ys (dropR (R.take k) ws))
    [0, 4] (fun e xs σ' => e = .exit 0 ∧ ∃ (ov : AVal) (ys : List AVal), xs = [.ptr id 0, ov] ∧ Grows σ σ' ∧ Own σ' 3 ov ys ∧ Fresh σ.length ov ∧ Two (BdRel σ A) ys (dropR R ws)) R.length ⟨0, .nilslice, [], Nat.zero_le _, rfl, ?_, Keeps.refl _ _, Own.nil _ _, Fresh.nil _, Nat.le_refl _, ?_⟩ ?_ ?_
  · simp -dsimp only [↓WPd, ↓wpC_block, ↓wpC_cond, WPu, Bool.false_eq_true, Bool.true_eq_false, Bool.not_true, Bool.not_false, if_true, if_false, ite_true, ite_false, Nat.reduceEqDiff, Nat.reduceLT, true_and, List.map_cons, List.map_nil, Nat.zero_add, Nat.reduceBEq]; rfl
  · simp [dropR]; exact .nil
  · rintro m xs σ' ⟨k, ov, ys, hk, rfl, rfl, g, oo, fo, hyl, hys⟩
    simp -dsimp only [↓WPd, ↓wpC_block, ↓wpC_cond, WPu, Bool.false_eq_true, Bool.true_eq_false, Bool.not_true, Bool.not_false, if_true, if_false, ite_true, ite_false, Nat.reduceEqDiff, Nat.reduceLT, true_and, List.map_cons, List.map_nil, Nat.zero_add, Nat.reduceBEq, WPm, isnil_ptr, faddr_ptr, Nat.add_zero, load_cells (g.get o1), e3, lw]
    refine condP_dec (fun hc => ?_) (fun hc => ?_)
    · have hk' : k < R.length := by omega
      have hke : k < es.length := by omega
      obtain ⟨e, he1, he2⟩ := o4.get hk'
      have he2' := he2
      obtain ⟨u, hu, hs, ha⟩ := he2
      have hee : es[k] = e := by rw [List.getElem?_eq_getElem hke] at he1; exact Option.some.inj he1
      have at3 : ∀ {σ2 : Store}, Grows σ' σ2 → ∃ q0, iaddrV 3 w (.int .i64 k) = some (addrOf 3 w k) ∧ faddrV 0 (addrOf 3 w k) = some q0 ∧ loadV σ2 2 true q0 = some (nmV R[k].1) ∧ loadV σ2 3 true (addrOf 3 w k) = some (bdV R[k].1 u) := fun {σ2} g2 => by
        have hb := ((o2.grow (g.trans g2)).addr hke .i64).2
        rw [hee, hu] at hb
        have hb' : behind σ2 (addrOf 3 w k) = some (bdC (R[k]).1 u, 0) := hb
        obtain ⟨q0, p0, b0⟩ := faddr_at hb' 0
        exact ⟨q0, o2.iaddr hke .i64, p0, loadN_at b0 (by simp [bdC]), loadN_at hb' (by simp [bdC])⟩
      obtain ⟨q0, c1, c2, c3, c4⟩ := at3 (Keeps.refl _ _)
      have ht : R.take (k + 1) = R.take k ++ [R[k]] := List.take_succ_eq_append_getElem hk'
      simp -dsimp only [↓WPd, ↓wpC_block, ↓wpC_cond, WPu, Bool.false_eq_true, Bool.true_eq_false, Bool.not_true, Bool.not_false, if_true, if_false, ite_true, ite_false, Nat.reduceEqDiff, Nat.reduceLT, true_and, List.map_cons, List.map_nil, Nat.zero_add, Nat.reduceBEq, WPm, isnil_ptr, faddr_ptr, Nat.add_zero, load_cells (g.get o1), e3, c1, c2, c3]
      refine calledW_of (hasname_ok d σ' l ws R[k].1 hw (hl.grow g)) ?_
      rintro r2 σ2 ⟨rfl, g2⟩
      obtain ⟨q0', d1, d2, d3, d4⟩ := at3 g2
      cases hcw : ws.contains R[k].1 with
      | true =>
        simp -dsimp only [↓WPd, ↓wpC_block, ↓wpC_cond, WPu, Bool.false_eq_true, Bool.true_eq_false, Bool.not_true, Bool.not_false, if_true, if_false, ite_true, ite_false, Nat.reduceEqDiff, Nat.reduceLT, true_and, List.map_cons, List.map_nil, Nat.zero_add, Nat.reduceBEq, WPm]
        refine ⟨R.length - (k + 1), by omega, k + 1, ov, ys, by omega, rfl, by rw [wrap_i64 (by omega) (by omega), Int.natCast_add, Int.natCast_one], g.trans g2, oo.grow g2, fo, by omega, ?_⟩
        rw [ht, dropR, List.filter_append, List.filter_cons_of_neg (by simp only [hcw]; decide)]
        simpa [dropR] using hys
      | false =>
        obtain ⟨x, σ3, a1, a2, a3, a4, a5⟩ := (oo.grow g2).append [bdV R[k].1 u] 40 (by simp; omega)
        have lit3 : fillL 3 true (List.replicate 1 (zel [AVal.int IntKind.i64 0, AVal.int IntKind.i64 0, AVal.nilslice] true)) [(0, bdV R[k].1 u)] = some [bdV R[k].1 u] := bd_lit R[k].1 u hs.one
        have fl := elems_fs 3 (AVal.tagL [bdV R[k].1 u]) true σ2 [bdV R[k].1 u]
        simp -dsimp only [↓WPd, ↓wpC_block, ↓wpC_cond, WPu, Bool.false_eq_true, Bool.true_eq_false, Bool.not_true, Bool.not_false, if_true, if_false, ite_true, ite_false, Nat.reduceEqDiff, Nat.reduceLT, true_and, List.map_cons, List.map_nil, Nat.zero_add, Nat.reduceBEq, WPm, isnil_ptr, faddr_ptr, Nat.add_zero, load_cells ((g.trans g2).get o1), e3, d1, d4, lit3, fl, a1]
        refine ⟨R.length - (k + 1), by omega, k + 1, x, ys ++ [bdV R[k].1 u], by omega, rfl, by rw [wrap_i64 (by omega) (by omega), Int.natCast_add, Int.natCast_one], Keeps.trans (g.trans g2) a3 fun i hi e => by have := fo i e; omega, a2, fun i hi => ?_, by simp; omega, ?_⟩
        · rcases a4 i hi with e | e
          · exact fo i e
          · have := (g.trans g2).1; omega
        · rw [ht, dropR, List.filter_append, List.filter_cons_of_pos (by simp only [hcw]; decide)]
          exact hys.push ⟨u, rfl, hs, ha⟩
    · have : k = R.length := by omega
      subst this
      rw [List.take_length] at hys
      simp -dsimp only [↓WPd, ↓wpC_block, ↓wpC_cond, WPu, Bool.false_eq_true, Bool.true_eq_false, Bool.not_true, Bool.not_false, if_true, if_false, ite_true, ite_false, Nat.reduceEqDiff, Nat.reduceLT, true_and, List.map_cons, List.map_nil, Nat.zero_add, Nat.reduceBEq]
      exact ⟨ov, ys, rfl, g, oo, fo, hys⟩
  · rintro e σ' env ⟨rfl, ov, ys, hv, g, oo, fo, hys⟩
    simp only [List.map_cons, List.map_nil, List.cons.injEq, and_true] at hv
    obtain ⟨v0, v4⟩ := hv
    have hr : ∀ s : FS, resultsA [] s = some (.tuple []) := fun _ => rfl
    have st := store_cells (g.get o1) (off := 0) (v := ov) (by simp) oo.one
    simp -dsimp only [↓WPd, ↓wpC_block, ↓wpC_cond, WPu, Bool.false_eq_true, Bool.true_eq_false, Bool.not_true, Bool.not_false, if_true, if_false, ite_true, ite_false, Nat.reduceEqDiff, Nat.reduceLT, true_and, List.map_cons, List.map_nil, Nat.zero_add, Nat.reduceBEq, WPm, v0, v4, isnil_ptr, faddr_ptr, Nat.add_zero, st, hr]
    have k3 : Keeps (fun i => i = id) σ' (σ'.set id (.cells [ov])) := Keeps.set _ _ _
    refine ⟨⟨ov, ys, get_set (g.get o1), oo.sl.keeps k3 fun i hi e => oo.noCell (g.get o1) (e ▸ hi), fun i hi => .inr (fo i hi), ?_⟩, Keeps.trans (g.any (M := fun i => i = id)) k3 fun i _ e => e⟩
    refine hys.mono fun e p ⟨u, hu, hs, ha⟩ => ⟨u, hu, ?_, fun i hi => .inl (ha i hi)⟩
    exact (hs.grow g).keeps k3 fun i hi e => hs.noCell o1 (e ▸ hi)
end
end Go.Proofs.YtkjnanfkclijcaaDoor.Am

namespace Go.Proofs.YtkjnanfkclijcaaDoor.Am
open Go
set_option linter.unusedVariables false
set_option linter.unusedSimpArgs false
set_option linter.unusedSectionVars false
set_option maxRecDepth 100000
section
variable (d : Nat) (σ : Store)
theorem sameterms_ok (a b : AVal) (ts : List (List Cel)) (hx : ts.length < 2 ^ 40) (hs : ∀ t ∈ ts, t.length < 2 ^ 40) (ha : Terms σ a ts) (hb : Terms σ b ts) : Called CU.cfg d 34 [a, b] σ fun v σ' => v = .bool true ∧ σ' = σ := by
  refine called_of (fn := CU.a34) rfl (Nat.le_of_ble_eq_true rfl) ?_
  simp only [CU.a34]
  have la := ha.len
  have lb := hb.len
  have e0 : ((ts.length : Int) != (ts.length : Int)) = false := by simp
  simp -dsimp only [↓WPd, ↓wpC_block, ↓wpC_cond, WPu, Bool.false_eq_true, Bool.true_eq_false, Bool.not_true, Bool.not_false, if_true, if_false, ite_true, ite_false, Nat.reduceEqDiff, Nat.reduceLT, true_and, List.map_cons, List.map_nil, Nat.zero_add, Nat.reduceBEq, la, lb, e0]
  refine loop_rule2 (fun m vs σ' => ∃ k, k ≤ ts.length ∧ m = ts.length - k ∧ vs = [a, b, .int .i64 k] ∧ σ' = σ) [] (fun e vs σ' => e = .exit 0 ∧ σ' = σ) ts.length ⟨0, Nat.zero_le _, rfl, ?_, rfl⟩ ?_ ?_
  · simp -dsimp only [↓WPd, ↓wpC_block, ↓wpC_cond, WPu, Bool.false_eq_true, Bool.true_eq_false, Bool.not_true, Bool.not_false, if_true, if_false, ite_true, ite_false, Nat.reduceEqDiff, Nat.reduceLT, true_and, List.map_cons, List.map_nil, Nat.zero_add, Nat.reduceBEq]; rfl
  · rintro m vs σ' ⟨k, hk, rfl, rfl, rfl⟩
    simp -dsimp only [↓WPd, ↓wpC_block, ↓wpC_cond, WPu, Bool.false_eq_true, Bool.true_eq_false, Bool.not_true, Bool.not_false, if_true, if_false, ite_true, ite_false, Nat.reduceEqDiff, Nat.reduceLT, true_and, List.map_cons, List.map_nil, Nat.zero_add, Nat.reduceBEq, la]
    refine condP_dec (fun h => ?_) (fun h => ?_)
    · have hk' : k < ts.length := by omega
      obtain ⟨x, a1, a2, a3⟩ := ha.at hk'
      obtain ⟨y, b1, b2, b3⟩ := hb.at hk'
      simp -dsimp only [↓WPd, ↓wpC_block, ↓wpC_cond, WPu, Bool.false_eq_true, Bool.true_eq_false, Bool.not_true, Bool.not_false, if_true, if_false, ite_true, ite_false, Nat.reduceEqDiff, Nat.reduceLT, true_and, List.map_cons, List.map_nil, Nat.zero_add, Nat.reduceBEq, a1, a2, b1, b2]
      refine calledW_of (cequal_ok d σ' x y ts[k] ts[k] (hs _ (List.getElem_mem hk')) a3 b3) ?_
      rintro v σ2 ⟨rfl, rfl⟩
      simp -dsimp only [↓WPd, ↓wpC_block, ↓wpC_cond, WPu, Bool.false_eq_true, Bool.true_eq_false, Bool.not_true, Bool.not_false, if_true, if_false, ite_true, ite_false, Nat.reduceEqDiff, Nat.reduceLT, true_and, List.map_cons, List.map_nil, Nat.zero_add, Nat.reduceBEq, decide_true]
      exact ⟨ts.length - (k + 1), by omega, k + 1, by omega, rfl, by rw [wrap_i64 (by omega) (by omega), Int.natCast_add, Int.natCast_one], trivial⟩
    · simp -dsimp only [↓WPd, ↓wpC_block, ↓wpC_cond, WPu, Bool.false_eq_true, Bool.true_eq_false, Bool.not_true, Bool.not_false, if_true, if_false, ite_true, ite_false, Nat.reduceEqDiff, Nat.reduceLT, true_and, List.map_cons, List.map_nil, Nat.zero_add, Nat.reduceBEq]
  · rintro e σ' env ⟨rfl, rfl⟩
    simp -dsimp only [↓WPd, ↓wpC_block, ↓wpC_cond, WPu, Bool.false_eq_true, Bool.true_eq_false, Bool.not_true, Bool.not_false, if_true, if_false, ite_true, ite_false, Nat.reduceEqDiff, Nat.reduceLT, true_and, List.map_cons, List.map_nil, Nat.zero_add, Nat.reduceBEq]
end
end Go.Proofs.YtkjnanfkclijcaaDoor.Am

namespace Go.Proofs.YtkjnanfkclijcaaDoor.Am
open Go
set_option linter.unusedVariables false
set_option linter.unusedSimpArgs false
set_option linter.unusedSectionVars false
set_option maxRecDepth 100000
theorem XRows.setN {σ : Store} {lo k : Nat} {l : AVal} {xs es : List AVal} {ts : List (List Cel)} (h : XRows σ lo k 5 l xs es (ts.map CC)) {i : Nat} (hi : i < ts.length) {j : Nat} (hj : j < ts[i].length) (x : Int) :
    ∃ e q σ', es[i]? = some e ∧ faddrV 2 (addrOf 5 e j) = some q ∧ storeV σ 1 q (.int .i64 x) = some σ' ∧ XRows σ' lo k 5 l xs es ((ts.set i (ts[i].set j { ts[i][j] with n := x })).map CC) ∧ Keeps (fun m => lo ≤ m) σ σ' := by
  have hie : i < es.length := by rw [h.len, List.length_map]; exact hi
  have he : es[i]? = some es[i] := List.getElem?_eq_getElem hie
  have hp : (ts.map CC)[i]? = some (CC ts[i]) := by simp [hi]
  obtain ⟨q, σ', f1, f2, f3, f4⟩ := (h.one i _ _ he hp).setN (h.lit i _ he) hj x
  refine ⟨es[i], q, σ', he, f1, f2, ⟨h.row.keeps f4 fun id hid e => h.off i _ id he e hid, h.lex, by simpa using h.len, fun i' e' p' h1 h2 => ?_, h.frs, h.frl, h.apart, h.off, h.lit⟩, f4.mono fun m _ hm => h.frs i _ he m hm⟩
  by_cases hii : i' = i
  · subst hii
    rw [he] at h1; injection h1 with h1; subst h1
    rw [List.map_set, List.getElem?_set_self (by simpa using hi)] at h2
    injection h2 with h2; subst h2
    exact f3
  · rw [List.map_set, List.getElem?_set_ne (fun e => hii e.symm)] at h2
    exact (h.one i' e' p' h1 h2).keeps f4 fun id hid e => hii (h.apart i' i e' _ id h1 he hid e)
theorem chain_lens {H : Hp} (hw : WF H) {t : List Cel} (ht : t.length < 2 ^ 30) : ∀ x ∈ chain H t, x.length < 2 ^ 30 := fun x hx => by
  obtain ⟨i, hi, rfl⟩ := List.mem_iff_getElem.1 hx
  cases i with
  | zero =>
    have e : ∀ (l : List (List Cel)) (hl : l = chain H t) (h : 0 < l.length), l[0] = t := fun l hl h => by
      unfold chain at hl
      split at hl
      · subst hl; simp at h
      · subst hl; simp [chainF]
    rw [e _ rfl hi]; exact ht
  | succ i =>
    have := hw.short (hnext_mem (chain_next hw t i hi)).2.2
    simp only at this
    omega
end Go.Proofs.YtkjnanfkclijcaaDoor.Am

namespace Go.Proofs.YtkjnanfkclijcaaDoor.Am
open Go
set_option linter.unusedVariables false
set_option linter.unusedSimpArgs false
set_option linter.unusedSectionVars false
set_option maxRecDepth 100000
theorem XRows.terms {σ : Store} {lo : Nat} {l : AVal} {es : List AVal} {ts : List (List Cel)} (h : XRows σ lo 1 5 l es es (ts.map CC)) : Terms σ l ts := by
  refine ⟨es, h.row.sl, Two.of_get (by have := h.len; simpa using this) fun i a b ha hb => (h.one i a (CC b) ha (by simp [hb])).sl⟩
theorem BdSl.keep {σ σ' : Store} {v : AVal} {R : Hp} (h : BdSl σ v R) {M : Nat → Prop} (k : Keeps M σ σ') (hM : ∀ (sz : Nat) (x : AVal) (es : List AVal), SlOf σ sz x es → ∀ i, x.sid = some i → ¬ M i) : BdSl σ' v R := by
  obtain ⟨es, h1, h2⟩ := h
  exact ⟨es, h1.keeps k (hM _ _ _ h1), h2.mono fun e p ⟨u, hu, hs⟩ => ⟨u, hu, hs.keeps k (hM _ _ _ hs)⟩⟩
theorem RefP.keepM {σ σ' : Store} {A : Nat → Prop} {id j : Nat} {R : Hp} {ks vs : List AVal} (h : RefP σ A id R) (hm : σ[j]? = some (.map ks vs)) (k : Keeps (fun i => i = j) σ σ') : RefP σ' A id R := by
  obtain ⟨w, es, o1, o2, o3, o4⟩ := h
  refine ⟨w, es, k.get o1 (fun e => by rw [e, hm] at o1; cases o1), o2.keeps k fun i hi e => o2.noMap hm (e ▸ hi), o3, o4.mono fun e p ⟨u, hu, hs, ha⟩ => ⟨u, hu, hs.keeps k fun i hi e => hs.noMap hm (e ▸ hi), ha⟩⟩
set_option maxHeartbeats 2000000 in
theorem plays_run (bv xt xd : AVal) (bs : Hp) (v : Nm) (t : List Cel) (ws : List Nm) (hb : BdArg bv bs) (ht : Told xt t) (hst : Small t) (hd : ∀ σ : Store, SlOf σ 2 xd (ws.map nmV)) (hws : ws.length < 2 ^ 40) :
    Called CU.cfg 0 11 [bv, nmV v, .agg [xt, xd]] [] fun v _ => v = .bool true := by
  refine called_of (fn := CU.a11) rfl (Nat.le_of_ble_eq_true rfl) ?_
  simp only [CU.a11]
  have x1 : xt.one = true := (ht []).one
  have x2 : xd.one = true := (hd []).one
  have xa : [xt, xd].all AVal.one = true := by simp only [List.all_cons, List.all_nil, x1, x2]; rfl
  simp -dsimp only [↓WPd, ↓wpC_block, ↓wpC_cond, WPu, Bool.false_eq_true, Bool.true_eq_false, Bool.not_true, Bool.not_false, if_true, if_false, ite_true, ite_false, Nat.reduceEqDiff, Nat.reduceLT, true_and, List.map_cons, List.map_nil, Nat.zero_add, Nat.reduceBEq, WPm, nm_cells, nm_one, cells_agg, xa]
  have on : (([] : Store) ++ [AObj.cells (nmC v)] ++ [AObj.cells [xt, xd]])[([] : Store).length]? = some (.cells (nmC v)) := by simp
  have oq : (([] : Store) ++ [AObj.cells (nmC v)] ++ [AObj.cells [xt, xd]])[(([] : Store) ++ [AObj.cells (nmC v)]).length]? = some (.cells [xt, xd]) := by simp
  generalize (([] : Store) ++ [AObj.cells (nmC v)]).length = iq at oq
  generalize ([] : Store).length = i0 at on
  generalize ([] : Store) ++ [AObj.cells (nmC v)] ++ [AObj.cells [xt, xd]] = σ0 at on oq
  refine calledW_of (both5_ok 0 σ0 bv bs hb) ?_
  rintro r σ1 ⟨id, mid, vs, rid, A, rfl, h1, hr1, g1, -, hne1, hne2, -⟩
  have hw := h1.wf
  have hs : Same (bindsH [] bs) (bindsR [] bs) := Same.nil.binds bs
  have hlen := bindsR_len bs []
  have hlb := hb.len
  simp only [List.length_nil] at hlen
  generalize bindsH [] bs = H at *
  generalize bindsR [] bs = R at *
  have hHR := hs.len
  have hsh : ∀ p ∈ R, p.2.length ≤ 256 := fun p hp => hs.wfr.short hp
  have on1 := g1.get on
  have oq1 := g1.get oq
  simp -dsimp only [↓WPd, ↓wpC_block, ↓wpC_cond, WPu, Bool.false_eq_true, Bool.true_eq_false, Bool.not_true, Bool.not_false, if_true, if_false, ite_true, ite_false, Nat.reduceEqDiff, Nat.reduceLT, true_and, List.map_cons, List.map_nil, Nat.zero_add, Nat.reduceBEq, WPm, List.getElem?_cons_zero, List.getElem?_cons_succ, load_nm on1]
  refine calledW_of (hvalue_ok 0 σ1 (.ptr id 0) H v h1.v (by have := hw.lk_short v; omega)) ?_
  rintro r σ2 ⟨u, rfl, ou, -, -, g2⟩
  have on2 := g2.get on1
  simp -dsimp only [↓WPd, ↓wpC_block, ↓wpC_cond, WPu, Bool.false_eq_true, Bool.true_eq_false, Bool.not_true, Bool.not_false, if_true, if_false, ite_true, ite_false, Nat.reduceEqDiff, Nat.reduceLT, true_and, List.map_cons, List.map_nil, Nat.zero_add, Nat.reduceBEq, WPm, List.getElem?_cons_zero, List.getElem?_cons_succ, load_nm on2]
  refine calledW_of (rvalue_ok 0 σ2 σ1 (.ptr rid 0) R v hr1.v g2 (by omega)) ?_
  rintro r σ3 ⟨u', rfl, ou', g3⟩
  have g13 := g2.trans g3
  have oq3 := g13.get oq1
  have e0 : ([xt, xd] : List AVal)[0]? = some xt := rfl
  have e1 : ([xt, xd] : List AVal)[1]? = some xd := rfl
  simp -dsimp only [↓WPd, ↓wpC_block, ↓wpC_cond, WPu, Bool.false_eq_true, Bool.true_eq_false, Bool.not_true, Bool.not_false, if_true, if_false, ite_true, ite_false, Nat.reduceEqDiff, Nat.reduceLT, true_and, List.map_cons, List.map_nil, Nat.zero_add, Nat.reduceBEq, WPm, faddr_ptr, Nat.add_zero, Nat.zero_add, load_cells oq3, e0, List.getElem?_cons_zero, List.getElem?_cons_succ]
  refine calledW_of (hresolve_ok 0 σ3 H hw id mid vs xt t (h1.grow g13) (ht σ3) hst) ?_
  rintro r σ4 ⟨g4, p, ep, rfl, hp⟩
  have g14 := g13.trans g4
  have oq4 := g4.get oq3
  simp -dsimp only [↓WPd, ↓wpC_block, ↓wpC_cond, WPu, Bool.false_eq_true, Bool.true_eq_false, Bool.not_true, Bool.not_false, if_true, if_false, ite_true, ite_false, Nat.reduceEqDiff, Nat.reduceLT, true_and, List.map_cons, List.map_nil, Nat.zero_add, Nat.reduceBEq, WPm, faddr_ptr, Nat.add_zero, Nat.zero_add, load_cells oq4, e0, List.getElem?_cons_zero, List.getElem?_cons_succ]
  refine calledW_of (rresolve_ok 0 σ4 R hs.wfr (by omega) A rid xt t (hr1.grow g14) (ht σ4) hst) ?_
  rintro r σ5 ⟨g5, q, eq', rfl, hq⟩
  have g15 := g14.trans g5
  have oq5 := g5.get oq4
  obtain ⟨rfl, y, hy, oy, oy'⟩ : eq' = ep ∧ ∃ y : List Cel, y.length ≤ 256 ∧ SlOf σ5 5 p (CC y) ∧ SlOf σ5 5 q (CC y) := by
    have hrd : right t = true → resD H 256 [] t = docD R 301 t 256 := fun hr => hs.res (right_ne hr)
    rcases hp with ⟨r1, rfl, rfl⟩ | ⟨r1, n1, rfl, rfl⟩ | ⟨a, r1, n1, rfl, oa⟩
    · rcases hq with ⟨-, rfl, rfl⟩ | ⟨r2, _⟩ | ⟨a', r2, _⟩
      · exact ⟨rfl, [], by simp, SlOf.nil _ _, SlOf.nil _ _⟩
      · rw [r1] at r2; cases r2
      · rw [r1] at r2; cases r2
    · rw [hrd r1] at n1
      rcases hq with ⟨r2, _⟩ | ⟨-, -, rfl, rfl⟩ | ⟨a', r2, n2, _⟩
      · rw [r1] at r2; cases r2
      · exact ⟨rfl, [], by simp, SlOf.nil _ _, SlOf.nil _ _⟩
      · rw [n1] at n2; cases n2
    · have hra := (right_len (resolved_ok hw r1 n1).1).2
      rw [hrd r1] at n1
      rcases hq with ⟨r2, _⟩ | ⟨-, n2, _⟩ | ⟨a', r2, n2, rfl, oa'⟩
      · rw [r1] at r2; cases r2
      · rw [n1] at n2; cases n2
      · rw [n1] at n2; injection n2 with n2; subst n2
        exact ⟨rfl, a, hra, (oa.grow g5).sl, oa'.sl⟩
  simp -dsimp only [↓WPd, ↓wpC_block, ↓wpC_cond, WPu, Bool.false_eq_true, Bool.true_eq_false, Bool.not_true, Bool.not_false, if_true, if_false, ite_true, ite_false, Nat.reduceEqDiff, Nat.reduceLT, true_and, List.map_cons, List.map_nil, Nat.zero_add, Nat.reduceBEq, WPm, List.getElem?_cons_zero, List.getElem?_cons_succ]
  refine drawnP_of rfl ?_
  simp -dsimp only [↓WPd, ↓wpC_block, ↓wpC_cond, WPu, Bool.false_eq_true, Bool.true_eq_false, Bool.not_true, Bool.not_false, if_true, if_false, ite_true, ite_false, Nat.reduceEqDiff, Nat.reduceLT, true_and, List.map_cons, List.map_nil, Nat.zero_add, Nat.reduceBEq, ↓WPed, WPeu, Nat.reduceAdd, and_self]
  refine isoW_bool live05_ran ?_
  have eb : ((lk H v).isSome == (lk R v).isSome) = true := by rw [hs.lk]; simp
  simp -dsimp only [↓WPd, ↓wpC_block, ↓wpC_cond, WPu, Bool.false_eq_true, Bool.true_eq_false, Bool.not_true, Bool.not_false, if_true, if_false, ite_true, ite_false, Nat.reduceEqDiff, Nat.reduceLT, true_and, List.map_cons, List.map_nil, Nat.zero_add, Nat.reduceBEq, ↓WPed, WPeu, Nat.reduceAdd, and_self, eb]
  have hlk := hw.lk_short v
  have el : (lk R v).getD [] = (lk H v).getD [] := by rw [hs.lk]
  rw [el] at ou'
  have g35 := g4.trans g5
  refine calledW_of (cequal_ok 0 σ5 u u' _ _ (by omega) ((ou.grow g3).grow g35).sl (ou'.grow g15)) ?_
  rintro r6 σ6 ⟨rfl, rfl⟩
  have ee : (eq' != eq') = false := by simp
  simp -dsimp only [↓WPd, ↓wpC_block, ↓wpC_cond, WPu, Bool.false_eq_true, Bool.true_eq_false, Bool.not_true, Bool.not_false, if_true, if_false, ite_true, ite_false, Nat.reduceEqDiff, Nat.reduceLT, true_and, List.map_cons, List.map_nil, Nat.zero_add, Nat.reduceBEq, ↓WPed, WPeu, Nat.reduceAdd, and_self, decide_true, ee]
  refine calledW_of (cequal_ok 0 σ6 p q y y (by omega) oy oy') ?_
  rintro r7 σ7 ⟨rfl, rfl⟩
  simp -dsimp only [↓WPd, ↓wpC_block, ↓wpC_cond, WPu, Bool.false_eq_true, Bool.true_eq_false, Bool.not_true, Bool.not_false, if_true, if_false, ite_true, ite_false, Nat.reduceEqDiff, Nat.reduceLT, true_and, List.map_cons, List.map_nil, Nat.zero_add, Nat.reduceBEq, ↓WPed, WPeu, Nat.reduceAdd, and_self, decide_true, faddr_ptr, Nat.add_zero, Nat.zero_add, load_cells oq5, e0]
  refine calledW_of (hchain_ok 0 σ7 (.ptr id 0) xt H t (h1.grow g15).v hw (by omega) (ht σ7) hst.1) ?_
  rintro c σ8 ⟨g8, es, hc⟩
  have oq8 := g8.get oq5
  simp -dsimp only [↓WPd, ↓wpC_block, ↓wpC_cond, WPu, Bool.false_eq_true, Bool.true_eq_false, Bool.not_true, Bool.not_false, if_true, if_false, ite_true, ite_false, Nat.reduceEqDiff, Nat.reduceLT, true_and, List.map_cons, List.map_nil, Nat.zero_add, Nat.reduceBEq, ↓WPed, WPeu, Nat.reduceAdd, and_self, faddr_ptr, Nat.add_zero, Nat.zero_add, load_cells oq5, load_cells oq8, e0]
  refine calledW_of (rchain_ok 0 σ8 (.ptr rid 0) xt R t (hr1.grow (g15.trans g8)).v hs.wfr (by omega) (ht σ8)) ?_
  rintro c' σ9 ⟨hc', g9⟩
  have oq9 := g9.get oq8
  rw [hs.chain] at hc'
  have hcl := chain_len hw t
  simp -dsimp only [↓WPd, ↓wpC_block, ↓wpC_cond, WPu, Bool.false_eq_true, Bool.true_eq_false, Bool.not_true, Bool.not_false, if_true, if_false, ite_true, ite_false, Nat.reduceEqDiff, Nat.reduceLT, true_and, List.map_cons, List.map_nil, Nat.zero_add, Nat.reduceBEq, ↓WPed, WPeu, Nat.reduceAdd, and_self, faddr_ptr, Nat.add_zero, Nat.zero_add, load_cells oq5, load_cells oq8, load_cells oq9, e0]
  have hcls : ∀ x ∈ chain H t, x.length < 2 ^ 40 := fun x hx => by have := chain_lens hw hst.1 x hx; omega
  refine calledW_of (sameterms_ok 0 σ9 c c' (chain H t) (by omega) hcls (hc.terms.grow g9) hc') ?_
  rintro r10 σ10 ⟨rfl, rfl⟩
  have g110 := (g15.trans g8).trans g9
  simp -dsimp only [↓WPd, ↓wpC_block, ↓wpC_cond, WPu, Bool.false_eq_true, Bool.true_eq_false, Bool.not_true, Bool.not_false, if_true, if_false, ite_true, ite_false, Nat.reduceEqDiff, Nat.reduceLT, true_and, List.map_cons, List.map_nil, Nat.zero_add, Nat.reduceBEq, ↓WPed, WPeu, Nat.reduceAdd, and_self, faddr_ptr, Nat.add_zero, Nat.zero_add, load_cells oq9, e0]
  have hdl : (deref H t).length < 2 ^ 30 := by
    by_cases h0 : t = []
    · rw [h0, deref_nil]; decide
    · obtain ⟨l, hl⟩ := chain_last H h0
      exact chain_lens hw hst.1 _ (by rw [hl]; simp)
  refine calledW_of (hderef_ok 0 σ10 (.ptr id 0) xt H t (h1.grow g110).v (ht σ10) hdl) ?_
  rintro w σ11 ⟨g11, ow, -, -⟩
  have oq11 := g11.get oq9
  simp -dsimp only [↓WPd, ↓wpC_block, ↓wpC_cond, WPu, Bool.false_eq_true, Bool.true_eq_false, Bool.not_true, Bool.not_false, if_true, if_false, ite_true, ite_false, Nat.reduceEqDiff, Nat.reduceLT, true_and, List.map_cons, List.map_nil, Nat.zero_add, Nat.reduceBEq, ↓WPed, WPeu, Nat.reduceAdd, and_self, faddr_ptr, Nat.add_zero, Nat.zero_add, load_cells oq9, load_cells oq11, e0]
  refine calledW_of (rderef_ok 0 σ11 (.ptr rid 0) xt R t (hr1.grow (g110.trans g11)).v hs.wfr (by omega) (ht σ11)) ?_
  rintro w' σ12 ⟨ow', g12⟩
  rw [hs.deref] at ow'
  have oq12 := g12.get oq11
  simp -dsimp only [↓WPd, ↓wpC_block, ↓wpC_cond, WPu, Bool.false_eq_true, Bool.true_eq_false, Bool.not_true, Bool.not_false, if_true, if_false, ite_true, ite_false, Nat.reduceEqDiff, Nat.reduceLT, true_and, List.map_cons, List.map_nil, Nat.zero_add, Nat.reduceBEq, ↓WPed, WPeu, Nat.reduceAdd, and_self, faddr_ptr, Nat.add_zero, Nat.zero_add, load_cells oq9, load_cells oq11, load_cells oq12, e0]
  refine calledW_of (cequal_ok 0 σ12 w w' _ _ (by omega) (ow.grow g12).sl ow') ?_
  rintro r13 σ13 ⟨rfl, rfl⟩
  have g113 := (g110.trans g11).trans g12
  simp -dsimp only [↓WPd, ↓wpC_block, ↓wpC_cond, WPu, Bool.false_eq_true, Bool.true_eq_false, Bool.not_true, Bool.not_false, if_true, if_false, ite_true, ite_false, Nat.reduceEqDiff, Nat.reduceLT, true_and, List.map_cons, List.map_nil, Nat.zero_add, Nat.reduceBEq, ↓WPed, WPeu, Nat.reduceAdd, and_self, decide_true]
  refine calledW_of (bindings_ok 0 σ13 id mid vs H R (h1.grow g113) hs (by omega) fun p hp => by have := hsh p hp; omega) ?_
  rintro b σ14 ⟨g14', us, hbr⟩
  have g114 := g113.trans g14'
  obtain ⟨rw1, rw2, hB⟩ := hr1.bds
  have e2 : ([rw1] : List AVal)[0]? = some rw1 := rfl
  simp -dsimp only [↓WPd, ↓wpC_block, ↓wpC_cond, WPu, Bool.false_eq_true, Bool.true_eq_false, Bool.not_true, Bool.not_false, if_true, if_false, ite_true, ite_false, Nat.reduceEqDiff, Nat.reduceLT, true_and, List.map_cons, List.map_nil, Nat.zero_add, Nat.reduceBEq, ↓WPed, WPeu, Nat.reduceAdd, and_self, isnil_ptr, faddr_ptr, Nat.add_zero, Nat.zero_add, load_cells (g113.get rw2), load_cells (g114.get rw2), e2]
  refine calledW_of (samebd_ok 0 σ14 b rw1 R hbr.bds (hB.grow g114) (by omega) fun p hp => by have := hsh p hp; omega) ?_
  rintro r15 σ15 ⟨rfl, g15'⟩
  have g115 := g114.trans g15'
  simp -dsimp only [↓WPd, ↓wpC_block, ↓wpC_cond, WPu, Bool.false_eq_true, Bool.true_eq_false, Bool.not_true, Bool.not_false, if_true, if_false, ite_true, ite_false, Nat.reduceEqDiff, Nat.reduceLT, true_and, List.map_cons, List.map_nil, Nat.zero_add, Nat.reduceBEq, ↓WPed, WPeu, Nat.reduceAdd, and_self, isnil_ptr, faddr_ptr, Nat.add_zero, Nat.zero_add, load_cells (g113.get rw2), load_cells (g114.get rw2), load_cells (g115.get rw2), e2]
  have h15 := h1.grow g115
  refine calledW_of (hfork_ok 0 σ15 id mid vs H h15) ?_
  rintro r16 σ16 ⟨id', mid', rfl, hf, gf, lf1, lf2⟩
  have hr16 := (hr1.grow g115).grow gf
  simp -dsimp only [↓WPd, ↓wpC_block, ↓wpC_cond, WPu, Bool.false_eq_true, Bool.true_eq_false, Bool.not_true, Bool.not_false, if_true, if_false, ite_true, ite_false, Nat.reduceEqDiff, Nat.reduceLT, true_and, List.map_cons, List.map_nil, Nat.zero_add, Nat.reduceBEq, WPm]
  refine calledW_of (rfork_ok 0 σ16 A rid R hr16 (by omega)) ?_
  rintro r17 σ17 ⟨sid, rfl, rf, gs, ls⟩
  have g1517 := gf.trans gs
  have g117 := g115.trans g1517
  have h17 := h15.grow g1517
  have oq17 := g117.get oq1
  have hmid : mid < σ15.length := (List.getElem?_eq_some_iff.1 h15.map).1
  have hrid : rid < σ15.length := (List.getElem?_eq_some_iff.1 (g115.get rw2)).1
  have gfl := gf.1
  obtain ⟨sw, sw1, sB⟩ := rf.bds
  simp -dsimp only [↓WPd, ↓wpC_block, ↓wpC_cond, WPu, Bool.false_eq_true, Bool.true_eq_false, Bool.not_true, Bool.not_false, if_true, if_false, ite_true, ite_false, Nat.reduceEqDiff, Nat.reduceLT, true_and, List.map_cons, List.map_nil, Nat.zero_add, Nat.reduceBEq, WPm, faddr_ptr, Nat.add_zero, Nat.zero_add, load_cells oq17, e1]
  refine calledW_of (hdrop_ok 0 σ17 id mid vs H xd ws h17 (hd σ17) hws) ?_
  rintro r18 σ18 ⟨⟨vs2, h18⟩, k18⟩
  have oq18 := k18.get oq17 (fun e => by rw [e, h17.map] at oq17; cases oq17)
  have hr18 := (hr16.grow gs).keepM h17.map k18
  have hf18 := (hf.grow gs).keeps k18 (fun e => by have a := (hf.grow gs).obj; rw [e, h17.map] at a; cases a) (by omega)
  have sw18 := k18.get sw1 (fun e => by rw [e, h17.map] at sw1; cases sw1)
  have sB18 := sB.keep k18 fun sz x es h i hi e => h.noMap h17.map (e ▸ hi)
  simp -dsimp only [↓WPd, ↓wpC_block, ↓wpC_cond, WPu, Bool.false_eq_true, Bool.true_eq_false, Bool.not_true, Bool.not_false, if_true, if_false, ite_true, ite_false, Nat.reduceEqDiff, Nat.reduceLT, true_and, List.map_cons, List.map_nil, Nat.zero_add, Nat.reduceBEq, WPm, faddr_ptr, Nat.add_zero, Nat.zero_add, load_cells oq18, e1]
  refine calledW_of (rdrop_ok 0 σ18 A rid R xd ws hr18 (by omega) (hd σ18) hws) ?_
  rintro r19 σ19 ⟨hr19, k19⟩
  obtain ⟨yw, yw1, -⟩ := hr18.bds
  have h19 := h18.keeps k19 (by omega) (by omega)
  have hf19 := hf18.keeps k19 (by omega) (by omega)
  have sw19 := k19.get sw18 (by omega)
  have sB19 := sB18.keep k19 fun sz x es h i hi e => h.noCell yw1 (e ▸ hi)
  obtain ⟨zw, zw1, zB⟩ := hr19.bds
  have hsd := hs.drop ws
  have hdl' : (dropR R ws).length ≤ R.length := List.length_filter_le _ _
  have e3 : ([zw] : List AVal)[0]? = some zw := rfl
  have e4 : ([sw] : List AVal)[0]? = some sw := rfl
  have hsh2 : ∀ p ∈ dropR R ws, p.2.length ≤ 256 := fun p hp => hsd.wfr.short hp
  simp -dsimp only [↓WPd, ↓wpC_block, ↓wpC_cond, WPu, Bool.false_eq_true, Bool.true_eq_false, Bool.not_true, Bool.not_false, if_true, if_false, ite_true, ite_false, Nat.reduceEqDiff, Nat.reduceLT, true_and, List.map_cons, List.map_nil, Nat.zero_add, Nat.reduceBEq, WPm]
  refine drawnP_of rfl ?_
  simp -dsimp only [↓WPd, ↓wpC_block, ↓wpC_cond, WPu, Bool.false_eq_true, Bool.true_eq_false, Bool.not_true, Bool.not_false, if_true, if_false, ite_true, ite_false, Nat.reduceEqDiff, Nat.reduceLT, true_and, List.map_cons, List.map_nil, Nat.zero_add, Nat.reduceBEq, ↓WPed, WPeu, Nat.reduceAdd, and_self]
  refine calledW_of (bindings_ok 0 σ19 id mid vs2 _ _ h19 hsd (by omega) fun p hp => by have := hsh2 p hp; omega) ?_
  rintro b2 σ20 ⟨g20, us2, hb2⟩
  simp -dsimp only [↓WPd, ↓wpC_block, ↓wpC_cond, WPu, Bool.false_eq_true, Bool.true_eq_false, Bool.not_true, Bool.not_false, if_true, if_false, ite_true, ite_false, Nat.reduceEqDiff, Nat.reduceLT, true_and, List.map_cons, List.map_nil, Nat.zero_add, Nat.reduceBEq, ↓WPed, WPeu, Nat.reduceAdd, and_self, isnil_ptr, faddr_ptr, Nat.add_zero, Nat.zero_add, load_cells zw1, load_cells (g20.get zw1), e3]
  refine calledW_of (samebd_ok 0 σ20 b2 zw _ hb2.bds (zB.grow g20) (by omega) fun p hp => by have := hsh2 p hp; omega) ?_
  rintro r21 σ21 ⟨rfl, g21⟩
  have g19_21 := g20.trans g21
  simp -dsimp only [↓WPd, ↓wpC_block, ↓wpC_cond, WPu, Bool.false_eq_true, Bool.true_eq_false, Bool.not_true, Bool.not_false, if_true, if_false, ite_true, ite_false, Nat.reduceEqDiff, Nat.reduceLT, true_and, List.map_cons, List.map_nil, Nat.zero_add, Nat.reduceBEq, ↓WPed, WPeu, Nat.reduceAdd, and_self, isnil_ptr, faddr_ptr, Nat.add_zero, Nat.zero_add, load_cells zw1, load_cells (g20.get zw1), load_cells (g19_21.get zw1), e3]
  refine calledW_of (bindings_ok 0 σ21 id' mid' vs H R (hf19.grow g19_21) hs (by omega) fun p hp => by have := hsh p hp; omega) ?_
  rintro b3 σ22 ⟨g22, us3, hb3⟩
  have g19_22 := g19_21.trans g22
  simp -dsimp only [↓WPd, ↓wpC_block, ↓wpC_cond, WPu, Bool.false_eq_true, Bool.true_eq_false, Bool.not_true, Bool.not_false, if_true, if_false, ite_true, ite_false, Nat.reduceEqDiff, Nat.reduceLT, true_and, List.map_cons, List.map_nil, Nat.zero_add, Nat.reduceBEq, ↓WPed, WPeu, Nat.reduceAdd, and_self, isnil_ptr, faddr_ptr, Nat.add_zero, Nat.zero_add, load_cells (g19_21.get sw19), load_cells (g19_22.get sw19), e4]
  refine calledW_of (samebd_ok 0 σ22 b3 sw R hb3.bds (sB19.grow g19_22) (by omega) fun p hp => by have := hsh p hp; omega) ?_
  rintro r23 σ23 ⟨rfl, g23⟩
  have g19_23 := g19_22.trans g23
  simp -dsimp only [↓WPd, ↓wpC_block, ↓wpC_cond, WPu, Bool.false_eq_true, Bool.true_eq_false, Bool.not_true, Bool.not_false, if_true, if_false, ite_true, ite_false, Nat.reduceEqDiff, Nat.reduceLT, true_and, List.map_cons, List.map_nil, Nat.zero_add, Nat.reduceBEq, ↓WPed, WPeu, Nat.reduceAdd, and_self, isnil_ptr, faddr_ptr, Nat.add_zero, Nat.zero_add, load_cells zw1, load_cells (g20.get zw1), load_cells (g19_21.get sw19), load_cells (g19_22.get sw19), load_cells (g19_23.get sw19), load_cells (g19_23.get zw1), e3, e4]
end Go.Proofs.YtkjnanfkclijcaaDoor.Am

namespace Go.Proofs.YtkjnanfkclijcaaDoor.Am
open Go
set_option linter.unusedVariables false
set_option linter.unusedSimpArgs false
set_option linter.unusedSectionVars false
def lkL (ls : List (List Cel)) (i : Nat) : List Cel := ls[i]?.getD []
def isLoc (c : Cel) : Bool := decide (c.k = 4) && decide (c.v.1 = -1)
def badT (l : List Cel) : Bool := decide (l ≠ []) && !right l
def putB (t : List Cel) (ls : List (List Cel)) : Bool := t.any fun c => isLoc c && decide (lkL ls c.v.2.toNat = [])
def putC (ls : List (List Cel)) (c : Cel) : List Cel := if isLoc c then lkL ls c.v.2.toNat else [c]
def putO (t : List Cel) (ls : List (List Cel)) : List Cel := (t.map (putC ls)).flatten
def putE (t : List Cel) (ls : List (List Cel)) : Int := if !right t || ls.any badT then 6 else if putB t ls then 4 else if 256 < (putO t ls).length then 5 else 0
def putT (t : List Cel) (ls : List (List Cel)) : List Cel := if putE t ls = 0 then putO t ls else []
end Go.Proofs.YtkjnanfkclijcaaDoor.Am

namespace Go.Proofs.YtkjnanfkclijcaaDoor.Am
open Go
set_option linter.unusedVariables false
set_option linter.unusedSimpArgs false
set_option linter.unusedSectionVars false
set_option maxRecDepth 100000
section
variable (d : Nat) (σ : Store)
def PutOk (σ σ' : Store) (r : AVal) (t : List Cel) (ls : List (List Cel)) : Prop := ∃ u, r = .tuple [u, .int .i64 (putE t ls)] ∧ Grows σ σ' ∧ Own σ' 5 u (CC (putT t ls)) ∧ Fresh σ.length u ∧ NoLit u
theorem PutOk.fail {σ σ' : Store} {t : List Cel} {ls : List (List Cel)} {e : Int} (h : putE t ls = e) (he : e ≠ 0) (g : Grows σ σ') : PutOk σ σ' (.tuple [.nilslice, .int .i64 e]) t ls :=
  ⟨.nilslice, by rw [h], g, by rw [putT, if_neg (by rw [h]; exact he)]; exact Own.nil _ _, Fresh.nil _, trivial⟩
end
end Go.Proofs.YtkjnanfkclijcaaDoor.Am

namespace Go.Proofs.YtkjnanfkclijcaaDoor.Am
open Go
set_option linter.unusedVariables false
set_option linter.unusedSimpArgs false
set_option linter.unusedSectionVars false
set_option maxRecDepth 100000
section
variable (d : Nat) (σ : Store)
end
end Go.Proofs.YtkjnanfkclijcaaDoor.Am

namespace Go.Proofs.YtkjnanfkclijcaaDoor.Am
open Go
set_option linter.unusedVariables false
set_option linter.unusedSimpArgs false
set_option linter.unusedSectionVars false
set_option maxRecDepth 100000
section
variable (d : Nat) (σ : Store)
end
end Go.Proofs.YtkjnanfkclijcaaDoor.Am

namespace Go.Proofs.YtkjnanfkclijcaaDoor.Am
open Go
set_option linter.unusedVariables false
set_option linter.unusedSimpArgs false
set_option linter.unusedSectionVars false
set_option maxRecDepth 100000
def TT (σ : Store) (v : AVal) (ls : List (List Cel)) : Prop := ∃ es, Own σ 1 v es ∧ NoLit v ∧ Two Told es ls
theorem TT.terms {σ : Store} {v : AVal} {ls : List (List Cel)} (h : TT σ v ls) : Terms σ v ls := by
  obtain ⟨es, h1, -, h3⟩ := h
  exact ⟨es, h1.sl, h3.mono fun e t h => h σ⟩
theorem TT.grow {σ σ' : Store} {v : AVal} {ls : List (List Cel)} (h : TT σ v ls) (g : Grows σ σ') : TT σ' v ls := by
  obtain ⟨es, h1, h2, h3⟩ := h
  exact ⟨es, h1.grow g, h2, h3⟩
theorem TT.len {σ : Store} {v : AVal} {ls : List (List Cel)} (h : TT σ v ls) : lenSV v = some ls.length := h.terms.len
def TA (v : AVal) (ls : List (List Cel)) : Prop := ∃ es, (∀ σ : Store, SlOf σ 1 v es) ∧ Two Told es ls
theorem TA.terms {v : AVal} {ls : List (List Cel)} (h : TA v ls) (σ : Store) : Terms σ v ls := by
  obtain ⟨es, h1, h3⟩ := h
  exact ⟨es, h1 σ, h3.mono fun e t h => h σ⟩
theorem TT.set {σ : Store} {v : AVal} {ls : List (List Cel)} {lo j : Nat} {u : AVal} {t : List Cel} (h : TT σ v ls) (hf : Fresh lo v) (hj : j < ls.length) (hu : Told u t) : ∃ σ', storeV σ 1 (addrOf 1 v j) u = some σ' ∧ TT σ' v (ls.set j t) ∧ Keeps (fun i => lo ≤ i) σ σ' := by
  obtain ⟨es, h1, h2, h3⟩ := h
  have hj' : j < es.length := by rw [h3.len]; exact hj
  obtain ⟨e, e1, e2⟩ := h3.get hj
  have hee : es[j] = e := by rw [List.getElem?_eq_getElem hj'] at e1; exact Option.some.inj e1
  have o1 := (e2 σ).one
  have o2 := (hu σ).one
  have hc : u.cells = [u] := by cases u <;> simp_all [AVal.one]
  have hc2 : e.cells = [e] := by cases e <;> simp_all [AVal.one]
  have hr : e.reform [u] = u := by cases e <;> simp_all [AVal.one, AVal.reform]
  obtain ⟨σ', p1, p2, p3, -⟩ := h1.store h2 hj' (x := u) (by rw [hc]; simp only [List.all_cons, List.all_nil, o2]; rfl) (by rw [hc]; rfl) (by rw [hee, hc2]; rfl) (by rw [hee, hc]; exact hr)
  exact ⟨σ', p1, ⟨_, p2, h2, Two.set h3 j hu⟩, p3.mono fun i _ e => hf i e⟩
section
variable (d : Nat) (σ : Store)
end
end Go.Proofs.YtkjnanfkclijcaaDoor.Am

namespace Go.Proofs.YtkjnanfkclijcaaDoor.Am
open Go
set_option linter.unusedVariables false
set_option linter.unusedSimpArgs false
set_option linter.unusedSectionVars false
set_option maxRecDepth 100000
def AR (σ : Store) (aid : Nat) (ls : List (List Cel)) : Prop := ∃ es, σ[aid]? = some (.arr 1 es 0 0) ∧ Two Told es ls
theorem AR.grow {σ σ' : Store} {aid : Nat} {ls : List (List Cel)} (h : AR σ aid ls) (g : Grows σ σ') : AR σ' aid ls := by
  obtain ⟨es, h1, h2⟩ := h; exact ⟨es, g.get h1, h2⟩
theorem AR.terms {σ : Store} {aid : Nat} {ls : List (List Cel)} (h : AR σ aid ls) {N : Nat} (hN : ls.length = N) : Terms σ (.slice 1 aid 0 0 N (some N)) ls := by
  obtain ⟨es, h1, h2⟩ := h
  subst hN
  have ho : Own σ 1 (.slice 1 aid 0 0 ls.length (some ls.length)) es := ⟨.inr (.inr ⟨aid, 0, 0, some ls.length, es, 0, 0, by rw [h2.len], h1, Nat.le_refl _, by simp, fun _ => by simp, .inr (by rw [h2.len])⟩)⟩
  exact ⟨es, ho.sl, h2.mono fun e t h => h σ⟩
theorem AR.set {σ : Store} {aid : Nat} {ls : List (List Cel)} (h : AR σ aid ls) {j : Nat} (hj : j < ls.length) {u : AVal} {t : List Cel} (hu : Told u t) : ∃ σ', storeV σ 1 (.eptr aid 0 j 0) u = some σ' ∧ AR σ' aid (ls.set j t) ∧ Keeps (fun i => i = aid) σ σ' := by
  obtain ⟨es, h1, h2⟩ := h
  have hj' : j < es.length := by rw [h2.len]; exact hj
  obtain ⟨e, e1, e2⟩ := h2.get hj
  have hee : es[j] = e := by rw [List.getElem?_eq_getElem hj'] at e1; exact Option.some.inj e1
  have st := arr_store1 h1 hj' (hu σ).one (by rw [hee]; exact (e2 σ).one)
  exact ⟨_, st, ⟨_, get_set h1, Two.set h2 j hu⟩, Keeps.set _ _ _⟩
section
variable (d : Nat) (σ : Store)
end
end Go.Proofs.YtkjnanfkclijcaaDoor.Am

namespace Go.Proofs.YtkjnanfkclijcaaDoor.Am
open Go Go.RowKit Go.ChangeShapes Go.WideShapes Go.ChangeAt Go.Proofs.YtkjnanfkclijcaaDoor.Rows
set_option linter.unusedVariables false
set_option linter.unusedSimpArgs false
set_option maxRecDepth 100000
section
variable {H : Type}
theorem names_rd {n : Nat} {d : DataW H} (h : Typed Tryd.prog (n + 3) 54 d) (hb : uptoBulk d ≤ 1048576) : ∃ fr : List Nm, (∀ σ : Store, SlOf σ 2 (argV Tryd.prog (n + 3) 54 d) (NN fr)) ∧ fr.length ≤ uptoBulk d := by
  rcases slice_of Tryd.underlying54 h with rfl | ⟨ds, rest, rfl, hd, ha, hb2⟩
  · exact ⟨[], fun σ => by rw [argV_nil Tryd.underlying54]; exact SlOf.nil σ 2, Nat.zero_le _⟩
  · obtain ⟨xs, h1, h2, h3, h4⟩ := list_of (R := fun a (v : Nm) => a = nmV v) (size := fun _ => 0) (fun d h => by
      obtain ⟨v, a1, a2⟩ := name_at (n := n) h
      exact ⟨v, by rw [struct_argV Tryd.underlying46, a1]; rfl, Nat.zero_le _⟩) ds hd
    have e : (ds.map fun x => argV Tryd.prog (n + 2) 46 x) = NN xs := by
      refine List.ext_getElem? fun i => ?_
      by_cases hi : i < ds.length
      · have e1 : (ds.map fun x => argV Tryd.prog (n + 2) 46 x)[i]? = some (argV Tryd.prog (n + 2) 46 ds[i]) := by simp [List.getElem?_eq_getElem hi]
        have e2 : xs[i]? = some (xs[i]'(by omega)) := List.getElem?_eq_getElem (by omega)
        rw [e1, h2 i _ _ e1 e2, List.getElem?_map, e2]; rfl
      · rw [List.getElem?_eq_none (by simp; omega), List.getElem?_eq_none (by simp; omega)]
    refine ⟨xs, fun σ => ?_, by omega⟩
    rw [ha, e]; exact SlOf.fs _ _ _ _ _
end
end Go.Proofs.YtkjnanfkclijcaaDoor.Am

namespace Go.Proofs.YtkjnanfkclijcaaDoor.Am
open Go Go.RowKit Go.ChangeShapes Go.WideShapes Go.ChangeAt Go.Proofs.YtkjnanfkclijcaaDoor.Rows
set_option linter.unusedVariables false
set_option linter.unusedSimpArgs false
set_option maxRecDepth 100000
section
variable {H : Type}
theorem asked_rd {n : Nat} {d : DataW H} (h : Typed Tryd.prog (n + 6) 92 d) (hb : uptoBulk d ≤ 1048576) : ∃ (xt xd : AVal) (t : List Cel) (ws : List Nm), argV Tryd.prog (n + 6) 92 d = .agg [xt, xd] ∧ Told xt t ∧ Small t ∧ (∀ σ : Store, SlOf σ 2 xd (ws.map nmV)) ∧ ws.length ≤ uptoBulk d := by
  obtain ⟨ds, rfl, hl, hty, _, hsum⟩ := struct_of Tryd.underlying92 h
  match ds, hl with
  | [x, y], _ =>
    have hx := hty 0 _ x rfl rfl
    have hy := hty 1 _ y rfl rfl
    simp only [uptoBulkAll] at hsum
    obtain ⟨p, p1, p2, p3, p4⟩ := term_told (n := n + 1) hx (by omega)
    obtain ⟨ws, w1, w2⟩ := names_rd (n := n + 2) hy (by omega)
    have dx : dec Tryd.prog (n + 5) 23 x = [argV Tryd.prog (n + 5) 23 x] := dec_one hx (by kernel_rfl)
    have dy : dec Tryd.prog (n + 5) 54 y = [argV Tryd.prog (n + 5) 54 y] := dec_one hy (by kernel_rfl)
    refine ⟨_, _, p, ws, ?_, p1, p2, w1, by omega⟩
    rw [struct_argV Tryd.underlying92, struct_dec Tryd.underlying92]
    simp only [List.zipWith_cons_cons, List.zipWith_nil_left, List.flatten_cons, List.flatten_nil, dx, dy]
    rfl
end
end Go.Proofs.YtkjnanfkclijcaaDoor.Am

