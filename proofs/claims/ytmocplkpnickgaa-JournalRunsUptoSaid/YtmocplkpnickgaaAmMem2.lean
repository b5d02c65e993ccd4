/-
  THE ABSTRACT MACHINE, part 13: new variables, loads, stores.
-/
import Derived.Test.YtmocplkpnickgaaAmMem
namespace Go.Proofs.Ytmocplkpnickgaa.Am
open Go
set_option linter.unusedVariables false
set_option linter.unusedSimpArgs false

section
variable {P : Program} {E : Env} {cf : FuncId → FuncId} {κ : K}

theorem newObj_ok (hR : κ.R E cf) {z : List AVal} {zv : Array Value} {e : TypeId} (h1 : AVal.allOne z) (hl : κ.VL E cf z zv.toList) :
    (κ.new (.cells zv e) (.cells z)).R E cf ∧ (κ.new (.cells zv e) (.cells z)).V E cf (.ptr κ.σ.length 0) (.pointer (some ⟨κ.h.size, 0, none⟩)) := by
  refine ⟨K.new_R hR _ _ ⟨h1, zv, e, ?_, K.VL.le hR.lb (K.new_le hR _ _) hl⟩, .ptr _ _ _ _ ⟨⟨z, ?_⟩, ?_⟩⟩
  · simp [K.new]
  · simp [K.new, List.getElem?_append_right]
  · simp [K.new]

theorem alloc_run {t : TypeId} {z : List AVal} {zc : List Value} (hz : zeroT P t = some zc) (hzc : chkCs z zc = true) (hz1 : z.all AVal.one = true) (hR : κ.R E cf) :
    GV P E cf κ (Instr.alloc t true (.tuple #[])) (.ptr κ.σ.length 0) (κ.σ ++ [.cells z]) := by
  obtain ⟨i, zv, hi, hzv, hzc'⟩ := zeroT_eq hz
  obtain ⟨g1, g2⟩ := newObj_ok (e := t) hR (allOne_of hz1) (zv := zv.cells) (by rw [hzc']; exact chkCs_ok _ _ hzc)
  intro w hw
  exact ⟨_, { w with heap := w.heap.push (.cells zv.cells t) }, _, by simp [Instr.alloc, zeroValue, typeInfo, hi, hzv, Result.andThen, newVar, newRow, newObj, Sem.run, hw], by simp [K.new, hw], by simp [K.new], K.new_le hR _ _, g1, g2⟩

theorem box_run {t : TypeId} {a : AVal} {ca : Value} (ha : κ.V E cf a ca) (h1 : a.cells.all AVal.one = true) (hR : κ.R E cf) :
    GV P E cf κ (Instr.box t ca) (.ptr κ.σ.length 0) (κ.σ ++ [.cells a.cells]) := by
  obtain ⟨g1, g2⟩ := newObj_ok (e := t) hR (allOne_of h1) (zv := ca.cells) (V_cells ha (allOne_of h1))
  intro w hw
  exact ⟨_, { w with heap := w.heap.push (.cells ca.cells t) }, _, by simp [Instr.box, Result.andThen, newVar, newRow, newObj, Sem.run, hw], by simp [K.new, hw], by simp [K.new], K.new_le hR _ _, g1, g2⟩

theorem mkmap_run {t : TypeId} {r : Option Value} (hr : ∀ w : World, (Instr.makeMap t r).run P w = (do pure (.map (some (← newObj (.map #[] 0)))) : Sem Value).run P w) (hR : κ.R E cf) :
    GV P E cf κ (Instr.makeMap t r) (.map κ.σ.length) (κ.σ ++ [.map [] []]) := by
  intro w hw
  refine ⟨.map (some w.heap.size), { w with heap := w.heap.push (.map #[] 0) }, κ.new (.map #[] 0) (.map [] []), by rw [hr]; simp [newObj, Sem.run, Result.andThen], by simp [K.new, hw], by simp [K.new], K.new_le hR _ _,
    K.new_R hR _ _ ⟨#[], 0, by simp [K.new], .nil _, .nil _⟩, .map _ _ _ ⟨⟨[], [], by simp [K.new, List.getElem?_append_right]⟩, by simp [K.new, hw]⟩⟩

/-! loads -/
theorem behind_ok (hR : κ.R E cf) {a : AVal} {ca : Value} {cs : List AVal} {off : Nat} (ha : κ.V E cf a ca) (h : behind κ.σ a = some (cs, off)) :
    ∃ b o vs, ca = .pointer (some ⟨b, o + off, none⟩) ∧ κ.VL E cf cs vs ∧ rowAt κ.h b o vs ∧ AVal.allOne cs := by
  unfold behind at h
  split at h
  · rename_i id off'
    split at h
    · rename_i cs' hid
      simp at h
      obtain ⟨rfl, rfl⟩ := h
      cases ha with
      | ptr _ _ _ b hp =>
      obtain ⟨_, rfl⟩ := hp
      obtain ⟨h1, vs, e, hb, hl⟩ := hR.obj id _ hid
      exact ⟨κ.loc id, 0, vs.toList, by simp, hl, fun j v hj => by simp only [cellAt, hb, Nat.zero_add]; simpa using hj, h1⟩
    · simp at h
  · rename_i id ep i off'
    split at h
    · rename_i sz es epo fl hid
      split at h
      · rename_i hf
        cases he : es[i]? with
        | none => simp [he] at h
        | some x =>
          simp only [he, Option.map_some, Option.some.injEq, Prod.mk.injEq] at h
          obtain ⟨rfl, rfl⟩ := h
          cases ha with
          | eptr _ _ _ _ _ b o hp =>
          obtain ⟨sz', es', epo', fl', hid', hep, hx⟩ := hp
          rw [hid] at hid'
          cases hid'
          obtain ⟨hi, hat⟩ := hx hf
          obtain ⟨g1, g2, g3, vs, e, us, rest, hb, hvs, hl⟩ := hR.obj id _ hid
          have hxc := flat_get g3 _ _ he
          have hcur : rowAt κ.h (κ.loc id) (i * sz) ((us.drop (i * sz)).take sz) := by
            have : rowAt κ.h (κ.loc id) 0 us := fun j v hj => by
              simp only [cellAt, hb, Nat.zero_add]
              have : vs.toList[j]? = some v := by rw [hvs, List.getElem?_append_left (List.getElem?_eq_some_iff.1 hj).1]; exact hj
              simpa using this
            have := rowAt_take (n := sz) (rowAt_drop (n := i * sz) this)
            simpa using this
          refine ⟨b, o, (us.drop (i * sz)).take sz, rfl, by rw [hxc]; exact VL_take _ (VL_drop _ hl), ?_, (g3 x (List.mem_of_getElem? he)).2⟩
          rcases hat with ⟨rfl, ho⟩ | ⟨u1, u2, u3, u4⟩
          · rcases ho with rfl | hz
            · exact hcur
            · exact hz.elim
          · rcases u4 with hz | u4
            · exact hz.elim
            · intro j v hj
              have hjlt : j < sz := by have := (List.getElem?_eq_some_iff.1 hj).1; simp at this; omega
              rw [u4 j (by omega)]
              exact hcur j v hj
      · simp at h
    · simp at h
  · rename_i t cs' off'
    simp at h
    obtain ⟨rfl, rfl⟩ := h
    cases ha with
    | fptr _ _ _ _ b o vs g1 g2 g3 g4 g5 =>
    exact ⟨b, o, vs, rfl, VRelL.mono (fun _ _ h => ⟨h, rfl⟩) (noIds_le _) g2, g5, g3⟩
  · simp at h

theorem isAgg_run {t : TypeId} {agg : Bool} (ha : aggT P t = some agg) (w : World) : (isAgg t).run P w = .ok agg w := by
  unfold aggT at ha
  cases hu : P.underlying t with
  | none => simp [hu] at ha
  | some d =>
    simp only [hu, Option.map_some, Option.some.injEq] at ha
    simp only [isAgg, Sem.run_bind, run_underlying hu, Result.andThen]
    subst ha
    cases d <;> simp

theorem loadVar_run {t : TypeId} {n : Nat} {agg : Bool} (hn : sizeT P t = some n) (ha : aggT P t = some agg) {cs : List AVal} {vs : List Value} {off b o : Nat} {v : AVal} (hl : κ.VL E cf cs vs) (h1 : AVal.allOne cs)
    (hr : rowAt κ.h b o vs) (h : ld cs off n agg = some v) : ∃ cv, (∀ w : World, w.heap = κ.h → (loadVar t ⟨b, o + off, none⟩).run P w = .ok cv w) ∧ κ.V E cf v cv := by
  obtain ⟨i, hi, hsz⟩ := sizeT_eq hn
  unfold ld at h
  cases agg
  · simp at h
    obtain ⟨cv, hcv, hv⟩ := VL_get hl off v h
    refine ⟨cv, fun w hw => ?_, hv⟩
    have hc : w.cell? ⟨b, o + off, none⟩ = some cv := by rw [cellAt_eq, hw]; exact hr off cv hcv
    simp [loadVar, isAgg_run ha, Result.andThen, run_load, hc]
  · simp at h
    obtain ⟨hlt, rfl⟩ := h
    have hlen := VL_len hl
    refine ⟨.agg ((vs.drop off).take n).toArray, fun w hw => ?_, .agg _ _ _ (VL_take _ (VL_drop _ hl)) (fun c hc => h1 c (List.mem_of_mem_drop (List.mem_of_mem_take hc)))⟩
    have hrow : rowAt κ.h b (o + off) ((vs.drop off).take n) := rowAt_take (rowAt_drop hr)
    have := run_loadCells_list (P := P) w ⟨b, o + off, none⟩ ((vs.drop off).take n) (fun j v hj => by
      rw [add_spot, cellAt_eq, hw]; exact hrow j v hj)
    rw [show ((vs.drop off).take n).length = n by simp; omega] at this
    simp [loadVar, isAgg_run ha, Result.andThen, sz_of hi, hsz, this]

theorem load_run {t : TypeId} {n : Nat} {agg : Bool} (hn : sizeT P t = some n) (hag : aggT P t = some agg) {a v : AVal} {ca : Value} (ha : κ.V E cf a ca) (h : loadV κ.σ n agg a = some v) (hR : κ.R E cf) :
    GV P E cf κ (Instr.loadAt t ca) v κ.σ := by
  unfold loadV at h
  split at h
  · rename_i cs off hb
    obtain ⟨b, o, vs, rfl, hl, hr, h1⟩ := behind_ok hR ha hb
    obtain ⟨cv, hrun, hv⟩ := loadVar_run hn hag hl h1 hr h
    exact GV.pure hR (cv := cv) (fun w hw => by simp [Instr.loadAt, Instr.sureAddr, hrun w hw]) hv
  · simp at h

/-! stores -/
theorem setCell_heap (w : World) (b o : Nat) (v : Value) (vs : Array Value) (e : TypeId) (f : Nat × Nat) (h : w.heap[b]? = some (.cells vs e f)) :
    (w.setCell ⟨b, o, none⟩ v).heap = w.heap.setIfInBounds b (.cells (vs.setIfInBounds o v) e f) := by
  unfold World.setCell
  have hlt := (Array.getElem?_eq_some_iff.1 h).1
  apply Array.ext_getElem?
  intro i
  by_cases hi : i = b
  · subst hi
    have hg := (Array.getElem?_eq_some_iff.1 h).2
    simp [hlt, Array.getElem_modify, hg]
  · rw [Array.getElem?_setIfInBounds_ne (by omega)]
    simp [Array.getElem?_modify, Ne.symm hi]

theorem storeCells_run : ∀ (new : List Value) (i : Nat) (w : World) (b o : Nat) (vs : Array Value) (e : TypeId), w.heap[b]? = some (.cells vs e (0, 0)) → (∀ v ∈ new, v.oneCell' = true) → o + i + new.length ≤ vs.size →
    ∃ w' vs', (storeCells ⟨b, o, none⟩ new i).run P w = .ok () w' ∧ w'.heap = w.heap.setIfInBounds b (.cells vs' e (0, 0)) ∧ vs'.toList = vs.toList.take (o + i) ++ new ++ vs.toList.drop (o + i + new.length) ∧ w'.os = w.os ∧ w'.output = w.output := by
  intro new
  induction new with
  | nil =>
    intro i w b o vs e h _ hl
    refine ⟨w, vs, by simp [storeCells], ?_, by simp, rfl, rfl⟩
    have hlt := (Array.getElem?_eq_some_iff.1 h).1
    apply Array.ext_getElem?
    intro j
    by_cases hj : j = b
    · subst hj
      have hg := (Array.getElem?_eq_some_iff.1 h).2
      simp [hlt, hg]
    · rw [Array.getElem?_setIfInBounds_ne (by omega)]
  | cons v new ih =>
    intro i w b o vs e h h1 hl
    simp only [List.length_cons] at hl
    have hlt := (Array.getElem?_eq_some_iff.1 h).1
    have hc : w.cell? ⟨b, o + i, none⟩ = some (vs[o + i]'(by omega)) := by
      rw [cellAt_eq]; simp [cellAt, h]
    have hf : w.frozen? ⟨b, o + i, none⟩ = false := by simp [World.frozen?, h]
    have hs := setCell_heap w b (o + i) v vs e (0, 0) h
    have hb' : (w.setCell ⟨b, o + i, none⟩ v).heap[b]? = some (.cells (vs.setIfInBounds (o + i) v) e (0, 0)) := by
      rw [hs]; simp [hlt]
    obtain ⟨w', vs', g1, g2, g3, g4⟩ := ih (i + 1) (w.setCell ⟨b, o + i, none⟩ v) b o (vs.setIfInBounds (o + i) v) e hb' (fun x hx => h1 x (List.mem_cons_of_mem _ hx)) (by simp; omega)
    refine ⟨w', vs', ?_, ?_, ?_, g4⟩
    · simp only [storeCells, add_spot, Sem.run_bind]
      rw [run_store P w _ v .plain (h1 v List.mem_cons_self)]
      simp [hc, hf, Result.andThen, g1]
    · rw [g2, hs]
      apply Array.ext_getElem?
      intro j
      by_cases hj : j = b
      · subst hj; simp [hlt]
      · rw [Array.getElem?_setIfInBounds_ne (by omega), Array.getElem?_setIfInBounds_ne (by omega), Array.getElem?_setIfInBounds_ne (by omega)]
    · rw [g3]
      have hlt2 : o + i < vs.toList.length := by simp; omega
      simp only [Array.toList_setIfInBounds, List.length_cons]
      rw [show o + (i + 1) = o + i + 1 by omega, List.take_succ_eq_append_getElem (by simpa using hlt2)]
      simp only [List.getElem_set_self, List.take_set_of_le (Nat.le_refl _), List.append_assoc, List.singleton_append, List.cons_append]
      rw [List.drop_set_of_lt (by omega)]
      simp [Nat.add_comm, Nat.add_left_comm]

theorem VL_oneCell {hp : Array Obj} {S : Nat → Nat → Prop} {I : Ids} {cs : List AVal} {vs : List Value} (h : VRelL cf hp S I cs vs) (h1 : AVal.allOne cs) : ∀ v ∈ vs, v.oneCell' = true := by
  intro v hv
  obtain ⟨j, hj⟩ := List.getElem?_of_mem hv
  obtain ⟨c, hc, hr⟩ := VL_getv h j v hj
  exact V_oneCell hr (h1 c (List.mem_of_getElem? hc))

end
end Go.Proofs.Ytmocplkpnickgaa.Am
