/-
  THE ABSTRACT MACHINE, part 18: append of so many zeros to nil.
-/
import Derived.Test.YtmocplkpnickgaaAmMap
namespace Go.Proofs.Ytmocplkpnickgaa.Am
open Go
set_option linter.unusedVariables false
set_option linter.unusedSimpArgs false

section
variable {P : Program} {E : Env} {cf : FuncId → FuncId} {κ : K}

theorem appendz_run {t t2 e ty : TypeId} {inf : TypeInfo} {k2 : IntKind} {sz bytes : Nat} {agg : Bool} {z : List AVal} {zc : List Value} (ht : P.underlying t = some (.slice e)) (ht2 : P.underlying t2 = some (.int k2)) (hi : P.info? e = some inf) (hsz : inf.size = sz) (hby : inf.bytes = bytes) (h0 : 0 < sz)
    (hz : zeroT P e = some zc) (hzc : chkCs z zc = true) (hz1 : z.all AVal.one = true) (hzl : z.length = sz) (ha : agg = false → sz = 1) (hb0 : 0 < bytes) (hb2 : bytes ≤ 1048576) {n : Int} {ca : Value} (hla : κ.V E cf (.int .i64 n) ca)
    (hn0 : 0 ≤ n) (hlim : n * bytes ≤ apLim) (hR : κ.R E cf) {v : AVal} {σ' : Store} (h : (if n = 0 then some (AVal.nilslice, κ.σ) else some (.slice sz κ.σ.length 0 0 n.toNat none, κ.σ ++ [.arr sz (List.replicate n.toNat (zel z agg)) 0 0])) = some (v, σ')) :
    GV P E cf κ (Builtin.append_ #[t, t2] ty #[.slice none 0 0, ca]) v σ' := by
  obtain ⟨i', zv, hi', hzv, hzc'⟩ := zeroT_eq hz
  rw [hi] at hi'; cases hi'
  have := V_int hla; subst this
  have hcells := zel_cells hzl hz1 ha
  have hzs : zv.cells.size = sz := by rw [← Array.length_toList, hzc', ← hzl]; exact (VL_len (chkCs_ok (cf := cf) (hp := κ.h) (S := κ.safe E) (I := κ.ids) _ _ hzc)).symm
  have hclim : n ≤ 70368744177664 := by
    have h1 : (apLim : Int) = 70368744177664 := rfl
    have : n * 1 ≤ n * bytes := Int.mul_le_mul_of_nonneg_left (by omega) (by omega)
    omega
  have wn : IntKind.i64.wrap n = n := by unfold IntKind.wrap; simp [IntKind.bits, IntKind.signed]; omega
  have h1 : (apLim : Int) = 70368744177664 := rfl
  have hl48 : ¬ (n * (bytes : Int) > 2 ^ 48) := by omega
  have hneg : ¬ (n < 0) := by omega
  split at h
  · rename_i hn
    subst hn
    injection h with h
    injection h with e1 e2
    subst e1; subst e2
    refine GV.pure hR (cv := .slice none 0 0) (fun w hw => ?_) (.nilslice _)
    simp [Builtin.append_, run_underlying ht, run_underlying ht2, Result.andThen, sz_of hi, hsz, asInt, asIntOf, wn, typeInfo, hi, hby]
  · rename_i hn
    injection h with h
    injection h with e1 e2
    subst e1; subst e2
    intro w hw
    obtain ⟨m, rfl⟩ := Int.eq_ofNat_of_zero_le hn0
    simp only [Int.toNat_natCast] at *
    have hm0 : 0 < m := by omega
    let q : Question := .appendCap m 0 e
    let w1 : World := { w with drawn := w.drawn + 1 }
    let newCap : Nat := q.cut (w.tape w.drawn q)
    have hnc : m ≤ newCap := by simp only [newCap, q, Question.cut]; omega
    have hch : (choose q).run P w = .ok newCap w1 := by
      simp [choose, Sem.run, Question.forced, q, newCap, w1]
    have hroom : (askRoom (newCap * inf.bytes)).run P w1 = .ok () w1 := by
      unfold askRoom
      split <;> simp [mark, Sem.run]
    have hnext : ¬ (281474976710656 < Builtin.nextslicecap m 0 * inf.bytes) := by
      have h1 := nextcap_le m 0 hm0
      have h2 : Builtin.nextslicecap m 0 * inf.bytes ≤ (2 * m + 512) * bytes := by rw [hby]; exact Nat.mul_le_mul_right _ h1
      have h3 : (2 * m + 512) * bytes = 2 * (m * bytes) + 512 * bytes := by rw [Nat.add_mul, Nat.mul_assoc]
      have h4 : ((m * bytes : Nat) : Int) ≤ 70368744177664 := by push_cast; omega
      omega
    let cells : Array Value := Builtin.zeroCells zv.cells m ++ Builtin.zeroCells zv.cells (newCap - m)
    have hsize : cells.size = newCap * sz := by
      simp only [cells, Array.size_append, Builtin.zeroCells, Array.size_map, Array.size_range, hzs]
      rw [← Nat.add_mul]; congr 1; omega
    have hrun : (Builtin.append_ #[t, t2] ty #[.slice none 0 0, .int .i64 (m : Int)]).run P w = .ok (.slice (some ⟨w.heap.size, 0, none⟩) m newCap) { w1 with heap := w1.heap.push (.cells cells e) } := by
      have hch' := hch
      simp only [q] at hch'
      have hm63 : ¬ (IntKind.i64.max < (m : Int)) := by simp only [IntKind.max, IntKind.signed, IntKind.bits]; omega
      have hns : ¬ (m * sz = 0) := by
        intro h
        rcases Nat.mul_eq_zero.1 h with h | h <;> omega
      have hm1 : ¬ (m = 0) := by omega
      have hsz0 : ¬ (sz = 0) := by omega
      have hl48' : ¬ (281474976710656 < (m : Int) * (bytes : Int)) := by omega
      have e1 : (Builtin.firstCells sz 0 (.slice none 0 0)).run P w1 = .ok #[] w1 := by simp [Builtin.firstCells]
      have hq : (Question.appendCap m 0 e).forced = false := rfl
      have hneg' : ¬ ((m : Int) < 0) := by omega
      have hm63' : ¬ (9223372036854775807 < (m : Int)) := by omega
      have hw1 : w.drew = w1 := rfl
      have hcut : (Question.appendCap m 0 e).cut (w.tape w.drawn (Question.appendCap m 0 e)) = newCap := rfl
      rw [hby] at hnext hroom
      simp [Builtin.append_, run_underlying ht, run_underlying ht2, Result.andThen, sz_of hi, hsz, asInt, asIntOf, wn, typeInfo, hi, hby, hl48', hm1, hsz0, hm63', hneg', hq, hnext, hw1, hcut, hroom, e1, zeroValue, hzv, newRow, newObj, Sem.run, hns]
      exact ⟨rfl, rfl⟩
    obtain ⟨k1, k2⟩ := newArr_ok (κ := κ) (E := E) (cf := cf) (es := List.replicate m (zel z agg)) (vs := (Builtin.zeroCells zv.cells m).toList) (rest := Builtin.zeroCells zv.cells (newCap - m)) (e := e) (newCap := newCap) hR h0 (fun x hx => by
      rw [List.eq_of_mem_replicate hx, hcells]; exact ⟨hzl, allOne_of hz1⟩) (by
        rw [flat_replicate, hcells]
        have := zeros_VL (cf := cf) (hp := κ.h) (S := κ.safe E) (I := κ.ids) (z := z) (zc := zv.cells) (sz := sz) (n := m) (by rw [hzc']; exact hzc) hzl h0
        simp only [Builtin.zeroCells, hzs]
        simp only [hzs] at this
        exact this) (by simpa using hnc) (by simpa [cells] using hsize)
    refine ⟨_, _, κ.new (.cells ((Builtin.zeroCells zv.cells m).toList.toArray ++ Builtin.zeroCells zv.cells (newCap - m)) e) (.arr sz (List.replicate m (zel z agg)) 0 0), hrun, by simp [K.new, hw, w1, cells], by simp [K.new], K.new_le hR _ _, k1, ?_⟩
    rw [hw]
    simpa using k2

end
end Go.Proofs.Ytmocplkpnickgaa.Am
