/-
  THE ABSTRACT MACHINE, part 12: operations that make memory or read it.
-/
import Derived.Test.YtmocplkpnickgaaAmLit
namespace Go.Proofs.Ytmocplkpnickgaa.Am
open Go
set_option linter.unusedVariables false
set_option linter.unusedSimpArgs false

section
variable {P : Program} {E : Env} {cf : FuncId → FuncId} {κ : K}

/-- parts with their places, as both sides have them -/
inductive Parts (κ : K) (E : Env) (cf : FuncId → FuncId) (place : Nat → Option (Nat × Nat)) : List (Nat × Nat × AVal) → List (Nat × Value) → Prop
  | nil : Parts κ E cf place [] []
  | cons (off n i : Nat) (a : AVal) (v : Value) (r : List (Nat × Nat × AVal)) (q : List (Nat × Value)) : place i = some (off, n) → κ.V E cf a v → Parts κ E cf place r q → Parts κ E cf place ((off, n, a) :: r) ((i, v) :: q)

theorem VL_splice {hp : Array Obj} {S : Nat → Nat → Prop} {I : Ids} {cs new : List AVal} {vs newv : List Value} (h : VRelL cf hp S I cs vs) (hn : VRelL cf hp S I new newv) (off : Nat) :
    VRelL cf hp S I (cs.take off ++ new ++ cs.drop (off + new.length)) (vs.take off ++ newv ++ vs.drop (off + newv.length)) := by
  rw [VL_len hn]
  exact VL_append (VL_append (VL_take _ h) hn) (VL_drop _ h)

theorem allOne_splice {cs new : List AVal} (h : AVal.allOne cs) (hn : AVal.allOne new) (off k : Nat) : AVal.allOne (cs.take off ++ new ++ cs.drop k) := by
  intro c hc
  simp only [List.mem_append] at hc
  rcases hc with (hc | hc) | hc
  · exact h c (List.mem_of_mem_take hc)
  · exact hn c hc
  · exact h c (List.mem_of_mem_drop hc)

theorem fill_ok {place : Nat → Option (Nat × Nat)} : ∀ {r : List (Nat × Nat × AVal)} {q : List (Nat × Value)} {cs cs' : List AVal} {cells : Array Value}, Parts κ E cf place r q → κ.VL E cf cs cells.toList → AVal.allOne cs →
    fillA cs r = some cs' → ∃ cells', Instr.fill place cells q = some cells' ∧ κ.VL E cf cs' cells'.toList ∧ AVal.allOne cs' ∧ cells'.size = cells.size
  | [], [], cs, cs', cells, .nil, hl, h1, h => by simp at h; subst h; exact ⟨cells, rfl, hl, h1, rfl⟩
  | (off, n, a) :: r, (i, v) :: q, cs, cs', cells, .cons _ _ _ _ _ _ _ hp ha hr, hl, h1, h => by
    unfold fillA at h
    split at h
    · rename_i hc
      obtain ⟨hc1, hc2, hc3⟩ := hc
      have hone := allOne_of hc2
      have hv := V_cells ha hone
      have hlen := VL_len hv
      have hlen2 := VL_len hl
      simp only [Array.length_toList] at hlen hlen2
      have hz := zipIdx_foldl v.cells cells off (by omega)
      have hl' : κ.VL E cf (cs.take off ++ a.cells ++ cs.drop (off + n)) (v.cells.zipIdx.foldl (fun cs (c, j) => cs.setIfInBounds (off + j) c) cells).toList := by
        rw [hz, ← hc1]
        have := VL_splice (cf := cf) hl hv off
        simpa using this
      obtain ⟨cells', g1, g2, g3, g4⟩ := fill_ok hr hl' (allOne_splice h1 hone off _) h
      refine ⟨cells', ?_, g2, g3, ?_⟩
      · simp only [Instr.fill, hp]
        rw [if_neg (by simp; omega)]
        exact g1
      · have e1 := VL_len hl'
        simp at e1
        have e2 : (v.cells.zipIdx.foldl (fun cs (c, j) => cs.setIfInBounds (off + j) c) cells).size = cells.size := by
          rw [← Array.length_toList, hz]
          simp
          omega
        rw [g4, e2]
    · simp at h

theorem build_run {t : TypeId} {fs : Array Field} {places : Array (Nat × Nat)} {z cs' : List AVal} {zc : List Value} (ht : P.underlying t = some (.struct fs)) (hz : zeroT P t = some zc) (hzc : chkCs z zc = true) (hz1 : z.all AVal.one = true)
    (hpl : ∀ w : World, (fs.mapM fun f => do pure (f.offset, ← sizeOf f.type) : Sem (Array (Nat × Nat))).run P w = .ok places w)
    {r : List (Nat × Nat × AVal)} {q : Array (Nat × Value)} (hp : Parts κ E cf (fun i => places[i]?) r q.toList) (h : fillA z r = some cs') (hR : κ.R E cf) :
    GV P E cf κ (Instr.build t q) (.agg cs') κ.σ := by
  obtain ⟨i, zv, hi, hzv, hzc'⟩ := zeroT_eq hz
  have hl : κ.VL E cf z zv.cells.toList := by rw [hzc']; exact chkCs_ok _ _ hzc
  obtain ⟨cells', g1, g2, g3, _⟩ := fill_ok hp hl (allOne_of hz1) h
  refine GV.pure hR (cv := .agg cells') (fun w _ => ?_) (by have := VRel.agg (cf := cf) (h := κ.h) (S := κ.safe E) κ.ids cs' cells'.toList g2 g3; simpa using this)
  have hpl' := hpl w
  simp only [bind_pure_comp] at hpl'
  simp [Instr.build, zeroValue, typeInfo, hi, hzv, Result.andThen, run_underlying ht, hpl', g1]

theorem buildArr_run {t e : TypeId} {m sz : Nat} {z cs' : List AVal} {zc : List Value} (ht : P.underlying t = some (.array m e)) (hn : sizeT P e = some sz) (hz : zeroT P t = some zc) (hzc : chkCs z zc = true) (hz1 : z.all AVal.one = true)
    {r : List (Nat × Nat × AVal)} {q : Array (Nat × Value)} (hp : Parts κ E cf (fun i => some (i * sz, sz)) r q.toList) (h : fillA z r = some cs') (hR : κ.R E cf) :
    GV P E cf κ (Instr.build t q) (.agg cs') κ.σ := by
  obtain ⟨i, zv, hi, hzv, hzc'⟩ := zeroT_eq hz
  obtain ⟨i2, hi2, hsz⟩ := sizeT_eq hn
  have hl : κ.VL E cf z zv.cells.toList := by rw [hzc']; exact chkCs_ok _ _ hzc
  obtain ⟨cells', g1, g2, g3, _⟩ := fill_ok hp hl (allOne_of hz1) h
  refine GV.pure hR (cv := .agg cells') (fun w _ => ?_) (by have := VRel.agg (cf := cf) (h := κ.h) (S := κ.safe E) κ.ids cs' cells'.toList g2 g3; simpa using this)
  simp [Instr.build, zeroValue, typeInfo, hi, hzv, Result.andThen, run_underlying ht, sz_of hi2, hsz, g1]

/-! literals of slices -/
theorem flat_set {sz : Nat} {es : List AVal} (h : AVal.elemsOk sz es) (i : Nat) (v : AVal) (hi : i < es.length) (hv : v.cells.length = sz) :
    (es.set i v).flatMap AVal.cells = (es.flatMap AVal.cells).take (i * sz) ++ v.cells ++ (es.flatMap AVal.cells).drop (i * sz + sz) := by
  have e1 : es.set i v = es.take i ++ v :: es.drop (i + 1) := by rw [List.set_eq_take_append_cons_drop, if_pos hi]
  rw [e1]
  simp only [List.flatMap_append, List.flatMap_cons]
  rw [flat_take h, flat_drop h]
  simp [Nat.add_mul]

theorem elemsOk_set {sz : Nat} {es : List AVal} (h : AVal.elemsOk sz es) (i : Nat) {v : AVal} (hv : v.cells.length = sz) (h1 : AVal.allOne v.cells) : AVal.elemsOk sz (es.set i v) := by
  intro e he
  rcases List.mem_or_eq_of_mem_set he with h' | rfl
  · exact h e h'
  · exact ⟨hv, h1⟩

inductive PartsE (κ : K) (E : Env) (cf : FuncId → FuncId) : List (Nat × AVal) → List (Nat × Value) → Prop
  | nil : PartsE κ E cf [] []
  | cons (i : Nat) (a : AVal) (v : Value) (r : List (Nat × AVal)) (q : List (Nat × Value)) : κ.V E cf a v → PartsE κ E cf r q → PartsE κ E cf ((i, a) :: r) ((i, v) :: q)

theorem fillE_ok {sz : Nat} {agg : Bool} : ∀ {r : List (Nat × AVal)} {q : List (Nat × Value)} {es es' : List AVal} {cells : Array Value}, PartsE κ E cf r q → κ.VL E cf (es.flatMap AVal.cells) cells.toList → AVal.elemsOk sz es → AVal.pureL es = true →
    fillE sz agg es r = some es' → ∃ cells', Instr.fill (fun i => some (i * sz, sz)) cells q = some cells' ∧ κ.VL E cf (es'.flatMap AVal.cells) cells'.toList ∧ AVal.elemsOk sz es' ∧ AVal.pureL es' = true ∧ es'.length = es.length
  | [], [], es, es', cells, .nil, hl, h1, h2, h => by simp at h; subst h; exact ⟨cells, rfl, hl, h1, h2, rfl⟩
  | (i, a) :: r, (_, v) :: q, es, es', cells, .cons _ _ _ _ _ ha hr, hl, h1, h2, h => by
    unfold fillE at h
    split at h
    · rename_i hc
      obtain ⟨hc1, hc2, hc3, hc4, hc5⟩ := hc
      have hone := allOne_of hc3
      have hv := V_cells ha hone
      have hlen := VL_len hv
      have hlen2 := VL_len hl
      have hfl := flat_length h1
      simp only [Array.length_toList] at hlen hlen2
      have hm : i * sz + sz ≤ es.length * sz := by
        have : (i + 1) * sz ≤ es.length * sz := Nat.mul_le_mul_right _ hc5
        rw [Nat.add_mul] at this; omega
      have hz := zipIdx_foldl v.cells cells (i * sz) (by omega)
      have hl' : κ.VL E cf ((es.set i a).flatMap AVal.cells) (v.cells.zipIdx.foldl (fun cs (c, j) => cs.setIfInBounds (i * sz + j) c) cells).toList := by
        rw [hz, flat_set h1 i a hc5 hc1]
        have := VL_splice (cf := cf) hl hv (i * sz)
        rw [hc1] at this
        simpa using this
      have hp' : AVal.pureL (es.set i a) = true := by
        clear hl' hm hl hz hfl hlen2 h h1
        induction es generalizing i with
        | nil => simp
        | cons e es ih =>
          simp only [AVal.pureL, Bool.and_eq_true] at h2
          cases i with
          | zero => simp [AVal.pureL, hc4, h2.2]
          | succ i => simp only [List.set_cons_succ, AVal.pureL, Bool.and_eq_true]; exact ⟨h2.1, ih i h2.2 (by simpa using hc5)⟩
      obtain ⟨cells', g1, g2, g3, g4, g5⟩ := fillE_ok hr hl' (elemsOk_set h1 i hc1 hone) hp' h
      refine ⟨cells', ?_, g2, g3, g4, by simpa using g5⟩
      simp only [Instr.fill]
      rw [if_neg (by simp; omega)]
      exact g1
    · simp at h

theorem zel_cells {z : List AVal} {agg : Bool} {sz : Nat} (hl : z.length = sz) (h1 : z.all AVal.one = true) (ha : agg = false → sz = 1) : (zel z agg).cells = z := by
  cases agg with
  | true => rfl
  | false =>
    have := ha rfl
    subst hl
    match z, this with
    | [c], _ =>
      simp at h1
      cases c <;> simp_all [AVal.one, zel, AVal.cells]

theorem flat_replicate (n : Nat) (e : AVal) : (List.replicate n e).flatMap AVal.cells = (List.replicate n e.cells).flatten := by
  simp [List.flatMap_replicate]

theorem rep_get {α : Type} (z : List α) (sz : Nat) (hz : z.length = sz) (h0 : 0 < sz) : ∀ (n j : Nat), j < n * sz → ((List.replicate n z).flatten)[j]? = z[j % sz]?
  | 0, j, h => by simp at h
  | n + 1, j, h => by
    rw [List.replicate_succ, List.flatten_cons]
    by_cases hj : j < sz
    · rw [List.getElem?_append_left (by omega), Nat.mod_eq_of_lt hj]
    · rw [List.getElem?_append_right (by omega), hz, rep_get z sz hz h0 n (j - sz) (by rw [Nat.add_mul] at h; omega)]
      rw [← Nat.mod_eq_sub_mod (by omega)]

theorem rep_len {α : Type} (z : List α) (n : Nat) : ((List.replicate n z).flatten).length = n * z.length := by
  simp

/-- n zero elements -/
theorem zeros_VL {hp : Array Obj} {S : Nat → Nat → Prop} {I : Ids} {z : List AVal} {zc : Array Value} {sz n : Nat} (hz : chkCs z zc.toList = true) (hl : z.length = sz) (h0 : 0 < sz) :
    VRelL cf hp S I ((List.replicate n z).flatten) (((Array.range (n * sz)).map (zc[· % zc.size]!)).toList) := by
  have hzz : VRelL cf hp S I z zc.toList := chkCs_ok _ _ hz
  have hsz := VL_len hzz
  simp only [Array.length_toList] at hsz
  refine VL_of_get ?_ ?_
  · rw [rep_len, hl]; simp
  · intro j c v hc hv
    have hj : j < n * sz := by have := (List.getElem?_eq_some_iff.1 hc).1; rw [rep_len, hl] at this; exact this
    rw [rep_get z sz hl h0 n j hj] at hc
    obtain ⟨v', hv', hr⟩ := VL_get hzz _ _ hc
    have : v = v' := by
      simp only [Array.toList_map, List.getElem?_map, Array.toList_range] at hv
      rw [List.getElem?_range hj] at hv
      simp only [Option.map_some, Option.some.injEq] at hv
      rw [← hv, ← hsz, hl]
      have hlt := (List.getElem?_eq_some_iff.1 hv').1
      simp only [Array.length_toList] at hlt
      rw [getElem!_pos zc (j % sz) hlt]
      have := (List.getElem?_eq_some_iff.1 hv').2
      simpa using this
    subst this
    exact hr

theorem lit_run {t e : TypeId} {sz n : Nat} {agg : Bool} {z : List AVal} {zc : List Value} {es' : List AVal} (ht : P.underlying t = some (.slice e)) (hn : sizeT P e = some sz) (h0 : 0 < sz) (hz : zeroT P e = some zc) (hzc : chkCs z zc = true)
    (hz1 : z.all AVal.one = true) (hzl : z.length = sz) (ha : agg = false → sz = 1) (hzp : (zel z agg).pure = true) (hlim : n * sz ≤ 2 ^ 24)
    {r : List (Nat × AVal)} {q : Array (Nat × Value)} (hp : PartsE κ E cf r q.toList) (h : fillE sz agg (List.replicate n (zel z agg)) r = some es') (hR : κ.R E cf) :
    GV P E cf κ (Instr.buildSlice t n q) (.fslice (AVal.tagL es') true sz es') κ.σ := by
  obtain ⟨i, hi, hsz⟩ := sizeT_eq hn
  obtain ⟨i', zv, hi', hzv, hzc'⟩ := zeroT_eq hz
  rw [hi] at hi'; cases hi'
  have hcells := zel_cells hzl hz1 ha
  have hl : κ.VL E cf ((List.replicate n (zel z agg)).flatMap AVal.cells) ((Array.range (n * sz)).map (zv.cells[· % zv.cells.size]!)).toList := by
    rw [flat_replicate, hcells]
    exact zeros_VL (by rw [hzc']; exact hzc) hzl h0
  have hel : AVal.elemsOk sz (List.replicate n (zel z agg)) := by
    intro x hx
    rw [List.eq_of_mem_replicate hx, hcells]
    exact ⟨hzl, allOne_of hz1⟩
  have hpu : AVal.pureL (List.replicate n (zel z agg)) = true := by
    clear hlim hel hl h
    induction n with
    | zero => simp
    | succ n ih => simp only [List.replicate_succ, AVal.pureL, hzp, ih, Bool.and_self]
  obtain ⟨cells', g1, g2, g3, g4, g5⟩ := fillE_ok hp hl hel hpu h
  intro w hw
  refine ⟨.slice (some ⟨w.heap.size, 0, none⟩) n n, { w with heap := w.heap.push (.cells cells' e) }, κ.push (.cells cells' e), ?_, by simp [K.push, hw], rfl, K.push_le hR _, K.push_R hR _, ?_⟩
  · simp only [Instr.buildSlice, Sem.run_bind, run_underlying ht, Result.andThen, sz_of hi, hsz]
    rw [Sem.run_ite, if_neg (by omega)]
    by_cases hns : n * sz = 0
    · have hn0 : n = 0 := by
        rcases Nat.mul_eq_zero.1 hns with h | h
        · exact h
        · omega
      subst hn0
      simp only [Nat.zero_mul, if_true, Sem.run_pure, Sem.run_bind, Result.andThen]
      have : (Array.map (fun x => (#[] : Array Value)[x % (#[] : Array Value).size]!) (Array.range 0)) = (Array.range (0 * sz)).map (zv.cells[· % zv.cells.size]!) := by simp
      rw [this, g1]
      simp [newRow, newObj, Sem.run, Result.andThen]
    · rw [if_neg hns]
      simp only [zeroValue, typeInfo, Sem.run_bind, run_program, Result.andThen, hi, Sem.run_pure, hzv]
      simp only [g1]
      simp [newRow, newObj, Sem.run, Result.andThen]
  · rw [hw]
    refine VRel.fslice _ _ true sz es' _ 0 n n cells'.toList (K.push_safe hR _ _) ?_ g3 h0 (tagsLe_of_tagL (Nat.le_refl _)) ?_ (by simpa using g5) (Nat.le_refl _) (fun _ => rfl)
    · have := K.VL.le hR.lb (K.push_le hR (.cells cells' e)) g2
      refine VL_pure this ?_ noIds
      clear this g5 g3 g2 g1 h
      induction es' with
      | nil => rfl
      | cons x xs ih =>
        simp only [AVal.pureL, Bool.and_eq_true] at g4
        simp only [List.flatMap_cons]
        have happ : ∀ a b : List AVal, AVal.pureL a = true → AVal.pureL b = true → AVal.pureL (a ++ b) = true := by
          intro a b ha hb
          induction a with
          | nil => exact hb
          | cons y ys ih2 => simp only [AVal.pureL, Bool.and_eq_true, List.cons_append] at ha ⊢; exact ⟨ha.1, ih2 ha.2⟩
        refine happ _ _ ?_ (ih g4.2)
        have := g4.1
        cases x <;> simp_all [AVal.cells, AVal.pure, AVal.pureL]
    · intro j v hj
      simp only [cellAt, K.push_at, Nat.zero_add]
      simpa using hj

end
end Go.Proofs.Ytmocplkpnickgaa.Am
