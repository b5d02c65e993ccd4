/-
  THE ABSTRACT MACHINE, part 14: stores; slices made.
-/
import Derived.Test.YtmocplkpnickgaaAmMem2
namespace Go.Proofs.Ytmocplkpnickgaa.Am
open Go
set_option linter.unusedVariables false
set_option linter.unusedSimpArgs false

section
variable {P : Program} {E : Env} {cf : FuncId → FuncId} {κ : K}

theorem splice_len {cs new : List AVal} {off : Nat} (h : off + new.length ≤ cs.length) : (splice cs off new).length = cs.length := by
  simp only [splice, List.length_append, List.length_take, List.length_drop]; omega

theorem splice_def (cs : List AVal) (off : Nat) (new : List AVal) : splice cs off new = cs.take off ++ new ++ cs.drop (off + new.length) := rfl

theorem reform_cells {e : AVal} {cs : List AVal} (hl : cs.length = e.cells.length) (h1 : AVal.allOne cs) : (e.reform cs).cells = cs := by
  cases e <;> simp only [AVal.cells, List.length_singleton] at hl <;> first
    | rfl
    | (match cs, hl with
       | [c], _ =>
         have := h1 c List.mem_cons_self
         cases c <;> simp_all [AVal.one, AVal.reform, AVal.cells])

theorem flat_splice {sz : Nat} {es : List AVal} (h : AVal.elemsOk sz es) (i off : Nat) (e : AVal) (new : List AVal) (he : es[i]? = some e) (hl : off + new.length ≤ sz) (h1 : AVal.allOne new) :
    (es.set i (e.reform (splice e.cells off new))).flatMap AVal.cells = splice (es.flatMap AVal.cells) (i * sz + off) new ∧ AVal.elemsOk sz (es.set i (e.reform (splice e.cells off new))) := by
  have hi := (List.getElem?_eq_some_iff.1 he).1
  have hok := h e (List.mem_of_getElem? he)
  have hall : AVal.allOne (splice e.cells off new) := allOne_splice hok.2 h1 _ _
  have hlen : (splice e.cells off new).length = e.cells.length := splice_len (by rw [hok.1]; exact hl)
  have hc := reform_cells hlen hall
  refine ⟨?_, elemsOk_set h i (by rw [hc, hlen]; exact hok.1) (by rw [hc]; exact hall)⟩
  rw [flat_set h i _ hi (by rw [hc, hlen]; exact hok.1), hc, flat_get h i e he]
  have hm : i * sz + sz ≤ es.length * sz := by
    have : (i + 1) * sz ≤ es.length * sz := Nat.mul_le_mul_right _ hi
    rw [Nat.add_mul] at this; omega
  have hfl := flat_length h
  generalize es.flatMap AVal.cells = F at *
  simp only [splice_def]
  apply List.ext_getElem?
  intro j
  simp only [List.getElem?_append, List.length_append, List.length_take, List.length_drop, List.getElem?_take, List.getElem?_drop]
  (repeat' split) <;> first | rfl | omega | (congr 1; omega) | skip
  all_goals (first | (simp_all; done) | omega | (congr 1; omega))

theorem store_run {t : TypeId} {n : Nat} (hn : sizeT P t = some n) {a v : AVal} {ca cv : Value} (ha : κ.V E cf a ca) (hv : κ.V E cf v cv) {σ' : Store} (h : storeV κ.σ n a v = some σ') (hR : κ.R E cf) :
    GU P E cf κ (Instr.storeAt t ca cv) σ' := by
  obtain ⟨inf, hi, hsz⟩ := sizeT_eq hn
  unfold storeV at h
  split at h
  · rename_i hc
    obtain ⟨hc1, hc2⟩ := hc
    have hone := allOne_of hc2
    have hvl := V_cells hv hone
    have hvlen := VL_len hvl
    simp only [Array.length_toList] at hvlen
    split at h
    · rename_i id off
      split at h
      · rename_i cs hid
        split at h
        · rename_i hlt
          injection h with h
          subst h
          cases ha with
          | ptr _ _ _ b hp =>
          obtain ⟨_, rfl⟩ := hp
          obtain ⟨h1, vs, e, hb, hl⟩ := hR.obj id _ hid
          have hcl := VL_len hl
          simp only [Array.length_toList] at hcl
          intro w hw
          rw [← hw] at hb
          obtain ⟨w', vs', g1, g2, g3, gS⟩ := storeCells_run (P := P) cv.cells.toList 0 w (κ.loc id) off vs e hb (VL_oneCell hvl hone) (by simp; omega)
          have hle : κ.Le (κ.upd id (.cells vs' e (0, 0)) (.cells (splice cs off v.cells))) := K.upd_le hR id _ _ _ hid ⟨⟨_, K.upd_σ id _ _ _ hid⟩, rfl⟩
          refine ⟨w', _, ?_, ⟨by rw [g2, hw]; rfl, gS⟩, rfl, hle, K.upd_R hR id _ _ _ hid hle ⟨allOne_splice h1 hone _ _, vs', e, K.upd_at hR id _ _ _ hid, ?_⟩⟩
          · simp only [Instr.storeAt, Instr.sureAddr, Sem.run_bind, Sem.run_pure, Result.andThen, storeVar, sz_of hi, hsz]
            rw [Sem.run_ite, if_neg (by simp; omega)]
            simpa using g1
          · rw [g3]
            have := VL_splice (cf := cf) (K.VL.le hR.lb hle hl) (K.VL.le hR.lb hle hvl) off
            simpa [splice_def] using this
        · simp at h
      · simp at h
    · rename_i id ep i off
      split at h
      · rename_i sz es ep' fl hid
        split at h
        · rename_i x hx
          split at h
          · rename_i hlt
            obtain ⟨rfl, hlt⟩ := hlt
            injection h with h
            subst h
            obtain ⟨g1, g2, g3, vs, e, us, rest, hb, hvs, hl⟩ := hR.obj id _ hid
            have hok := g3 x (List.mem_of_getElem? hx)
            cases ha with
            | eptr _ _ _ _ _ b o hp =>
            obtain ⟨sz', es', epo', fl', hid', hep, hxx⟩ := hp
            rw [hid] at hid'
            cases hid'
            obtain ⟨hi', hat⟩ := hxx g1
            have hat' : b = κ.loc id ∧ o = i * sz := by
              rcases hat with ⟨q1, q2 | q2⟩ | ⟨q, _⟩
              · exact ⟨q1, q2⟩
              · exact q2.elim
              · omega
            obtain ⟨rfl, rfl⟩ := hat'
            have hlen := VL_len hl
            have hfl := flat_length g3
            have hvl2 : vs.size = us.length + rest.length := by rw [← Array.length_toList, hvs]; simp
            have hm : i * sz + sz ≤ es.length * sz := by
              have : (i + 1) * sz ≤ es.length * sz := Nat.mul_le_mul_right _ hi'
              rw [Nat.add_mul] at this; omega
            rw [hok.1] at hlt
            intro w hw
            rw [← hw] at hb
            obtain ⟨w', vs', k1, k2, k3, gS⟩ := storeCells_run (P := P) cv.cells.toList 0 w (κ.loc id) (i * sz + off) vs e hb (VL_oneCell hvl hone) (by simp; omega)
            obtain ⟨f1, f2⟩ := flat_splice g3 i off x v.cells hx (by omega) hone
            have hsize : vs'.size = vs.size := by
              rw [← Array.length_toList, k3]; simp; omega
            have hle : κ.Le (κ.upd id (.cells vs' e (0, 0)) (.arr sz (es.set i (x.reform (splice x.cells off v.cells))) ep ep)) := by
              refine K.upd_le hR id _ _ _ hid ⟨_, ep, ep, K.upd_σ id _ _ _ hid, Nat.le_refl _, g1, by simp, fun _ => ⟨rfl, by simp, fun vs2 e2 f2 hv2 => ?_⟩, fun _ h => by omega, fun h => by omega⟩
              rw [K.upd_at hR id _ _ _ hid] at hv2
              cases hv2
              exact ⟨vs, e, (0, 0), by rw [← hw]; exact hb, hsize⟩
            refine ⟨w', _, ?_, ⟨by rw [k2, hw]; rfl, gS⟩, rfl, hle, K.upd_R hR id _ _ _ hid hle ⟨Nat.le_refl _, g2, f2, vs', e, us.take (i * sz + off) ++ cv.cells.toList ++ us.drop (i * sz + off + cv.cells.toList.length), rest, K.upd_at hR id _ _ _ hid, ?_, ?_⟩⟩
            · simp only [Instr.storeAt, Instr.sureAddr, Sem.run_bind, Sem.run_pure, Result.andThen, storeVar, sz_of hi, hsz]
              rw [Sem.run_ite, if_neg (by simp; omega)]
              simpa using k1
            · rw [k3, hvs]
              simp only [Nat.add_zero]
              rw [List.take_append_of_le_length (by omega), List.drop_append_of_le_length (by simp; omega)]
              simp
            · rw [f1]
              have := VL_splice (cf := cf) (K.VL.le hR.lb hle hl) (K.VL.le hR.lb hle hvl) (i * sz + off)
              simpa [splice_def] using this
          · simp at h
        · simp at h
      · simp at h
    · simp at h
  · simp at h

/-- make -/
theorem mkslice_run {t e : TypeId} {inf : TypeInfo} {sz bytes : Nat} {agg : Bool} {z : List AVal} {zc : List Value} (ht : P.underlying t = some (.slice e)) (hi : P.info? e = some inf) (hsz : inf.size = sz) (hby : inf.bytes = bytes) (h0 : 0 < sz)
    (hz : zeroT P e = some zc) (hzc : chkCs z zc = true) (hz1 : z.all AVal.one = true) (hzl : z.length = sz) (ha : agg = false → sz = 1) {k1 k2 : IntKind} {n c : Int} {ca cb : Value} (hla : κ.V E cf (.int k1 n) ca) (hlb : κ.V E cf (.int k2 c) cb)
    (hn0 : 0 ≤ n) (hnc : n ≤ c) (hb0 : 0 < bytes) (hlim : c * bytes ≤ apLim) (hR : κ.R E cf) :
    GV P E cf κ (Instr.makeSlice t ca cb) (.slice sz κ.σ.length 0 0 n.toNat (if n = c then some n.toNat else none)) (κ.σ ++ [.arr sz (List.replicate n.toNat (zel z agg)) 0 0]) := by
  obtain ⟨i', zv, hi', hzv, hzc'⟩ := zeroT_eq hz
  rw [hi] at hi'; cases hi'
  have := V_int hla; subst this
  have := V_int hlb; subst this
  have hcells := zel_cells hzl hz1 ha
  have hclim : c ≤ 70368744177664 := by
    have h1 : (apLim : Int) = 70368744177664 := rfl
    have : c * 1 ≤ c * bytes := Int.mul_le_mul_of_nonneg_left (by omega) (by omega)
    omega
  have wn : IntKind.i64.wrap n = n := by unfold IntKind.wrap; simp [IntKind.bits, IntKind.signed]; omega
  have wc : IntKind.i64.wrap c = c := by unfold IntKind.wrap; simp [IntKind.bits, IntKind.signed]; omega
  have hlim2 : ¬ ((bytes : Int) * c > 2 ^ 48) := by
    have h1 : (apLim : Int) = 70368744177664 := rfl
    have : (bytes : Int) * c = c * bytes := Int.mul_comm _ _
    omega
  let cells : Array Value := (Array.range (c.toNat * sz)).map (zv.cells[· % zv.cells.size]!)
  intro w hw
  have hrun : (Instr.makeSlice t (.int k1 n) (.int k2 c)).run P w = .ok (.slice (some ⟨w.heap.size, 0, none⟩) n.toNat c.toNat) { w with heap := w.heap.push (.cells cells e) } := by
    have hroom : (askRoom (c.toNat * bytes)).run P w = .ok () w := by
      unfold askRoom
      split <;> simp [mark, Sem.run]
    simp only [Instr.makeSlice, Sem.run_bind, run_underlying ht, Result.andThen, asInt, asIntOf, Sem.run_pure, typeInfo, run_program, hi, wn, wc, hby]
    rw [Sem.run_ite, if_neg]
    · simp only [Sem.run_pure, Sem.run_bind, hroom, Result.andThen, sz_of hi, hsz]
      by_cases hns : c.toNat * sz = 0
      · rw [if_pos hns]
        have hc0 : c.toNat = 0 := by
          rcases Nat.mul_eq_zero.1 hns with h | h
          · exact h
          · omega
        have er : Array.range 0 = #[] := rfl
        simp [newRow, newObj, Sem.run, Result.andThen, cells, hc0, er]
      · rw [if_neg hns]
        simp [zeroValue, typeInfo, hi, hzv, newRow, newObj, Sem.run, Result.andThen, cells]
    · have q1 : ¬ (n < 0) := by omega
      have q2 : ¬ (c < 0) := by omega
      have q3 : ¬ (c < n) := by omega
      have q4 : ¬ (2 ^ 48 < (bytes : Int) * c) := by omega
      simp [q1, q2, q3]
      omega
  have hsz' : cells.size = c.toNat * sz := by simp [cells]
  have hzero := zeros_VL (cf := cf) (hp := κ.h) (S := κ.safe E) (I := κ.ids) (z := z) (zc := zv.cells) (sz := sz) (n := c.toNat) (by rw [hzc']; exact hzc) hzl h0
  have hel : AVal.elemsOk sz (List.replicate n.toNat (zel z agg)) := by
    intro x hx
    rw [List.eq_of_mem_replicate hx, hcells]
    exact ⟨hzl, allOne_of hz1⟩
  have hat : (κ.new (.cells cells e) (.arr sz (List.replicate n.toNat (zel z agg)) 0 0)).h[(κ.new (.cells cells e) (.arr sz (List.replicate n.toNat (zel z agg)) 0 0)).loc κ.σ.length]? = some (.cells cells e (0, 0)) := by simp [K.new]
  refine ⟨_, _, κ.new (.cells cells e) (.arr sz (List.replicate n.toNat (zel z agg)) 0 0), hrun, by simp [K.new, hw], by simp [K.new], K.new_le hR _ _, K.new_R hR _ _ ?_, ?_⟩
  · refine ⟨Nat.le_refl _, h0, hel, cells, e, cells.toList.take (n.toNat * sz), cells.toList.drop (n.toNat * sz), hat, by simp, ?_⟩
    have h2 : κ.VL E cf ((List.replicate n.toNat (zel z agg)).flatMap AVal.cells) (cells.toList.take (n.toNat * sz)) := by
      have := VL_take (n.toNat * sz) hzero
      have he : (List.replicate c.toNat z).flatten.take (n.toNat * sz) = (List.replicate n.toNat (zel z agg)).flatMap AVal.cells := by
        rw [flat_replicate, hcells]
        have hnc' : c.toNat = n.toNat + (c.toNat - n.toNat) := by omega
        rw [hnc', ← List.replicate_append_replicate, List.flatten_append, List.take_append_of_le_length (by rw [rep_len, hzl]; exact Nat.le_refl _), List.take_of_length_le (by rw [rep_len, hzl]; exact Nat.le_refl _)]
      rw [he] at this
      exact this
    exact K.VL.le hR.lb (K.new_le hR _ _) h2
  · have hloc : (κ.new (.cells cells e) (.arr sz (List.replicate n.toNat (zel z agg)) 0 0)).loc κ.σ.length = w.heap.size := by simp [K.new, hw]
    refine .slice _ sz κ.σ.length 0 0 n.toNat _ w.heap.size 0 c.toNat ⟨by omega, ?_, h0, List.replicate n.toNat (zel z agg), 0, 0, by simp [K.new, List.getElem?_append_right], Nat.le_refl _, fun _ => ⟨?_, .inl ⟨hloc.symm, .inl (by simp)⟩, ?_⟩⟩
    · intro cc hcc
      split at hcc
      · rename_i he; simp at hcc; omega
      · simp at hcc
    · split <;> simp
    · intro _ hcn
      refine ⟨by simp; omega, fun vs e' f hv => ?_⟩
      rw [hat] at hv
      cases hv
      rw [hsz', Nat.zero_add]; exact Nat.le_refl _

end
end Go.Proofs.Ytmocplkpnickgaa.Am
