/-
  The abstract machine and the functions of the law, 4: texts put together.
-/
import Derived.Test.YtkjnanfkclijcaaDoorMatchBodiesPkC
import Derived.Test.YtkjnanfkclijcaaDoorProg
import Derived.Test.YtkjnanfkclijcaaDoorMatchBodiesPkB
import Derived.ChangeArms
import Derived.OpenShut
import Derived.LaidMore
namespace Go.Proofs.YtkjnanfkclijcaaDoor.Am
open Go
set_option linter.unusedVariables false
set_option linter.unusedSimpArgs false
set_option linter.unusedSectionVars false
set_option maxRecDepth 100000
theorem strIdx_ok {s : List UInt8} {k : Nat} (h : k < s.length) : strIdxV (.str s) (.int .i64 k) = some (.int .u8 ((s[k]).toNat : Int)) := by
  have e : (0 : Int) ≤ (k : Int) ∧ (k : Int) < (s.length : Int) := by omega
  simp [strIdxV, e, List.getElem?_eq_getElem h]
def chk (k : Nat) (c : UInt8) : Bool := smallC c || (decide (k ≠ 0) && wordC c)
theorem isName_not {s : List UInt8} {k : Nat} (hk : k < s.length) (h : chk k s[k] = false) : isName s = false := by
  simp only [chk, Bool.or_eq_false_iff] at h
  cases s with
  | nil => rfl
  | cons c r =>
    cases k with
    | zero => simp only [List.getElem_cons_zero] at h; simp [isName, h.1]
    | succ k =>
      simp only [List.getElem_cons_succ] at h
      have h2 : wordC (r[k]'(by simpa using hk)) = false := by simpa using h.2
      have : r.all wordC = false := by
        rw [List.all_eq_false]
        exact ⟨_, List.getElem_mem (by simpa using hk), by simp [h2]⟩
      simp [isName, this]
theorem word_small {c : UInt8} (h : smallC c = true) : wordC c = true := by simp [wordC, h]
theorem isName_yes {s : List UInt8} (h : ∀ (k : Nat) (hk : k < s.length), chk k s[k] = true) : isName s = (decide (s ≠ []) && decide (s.length ≤ 16)) := by
  cases s with
  | nil => rfl
  | cons c r =>
    have h0 := h 0 (by simp)
    simp only [List.getElem_cons_zero, chk, ne_eq, not_true_eq_false, decide_false, Bool.false_and, Bool.or_false] at h0
    have h1 : r.all wordC = true := by
      rw [List.all_eq_true]
      intro x hx
      obtain ⟨k, hk, rfl⟩ := List.getElem_of_mem hx
      have := h (k + 1) (by simpa using hk)
      simp only [List.getElem_cons_succ, chk, Bool.or_eq_true, Bool.and_eq_true] at this
      rcases this with h | h
      · exact word_small h
      · exact h.2
    simp [isName, h0, h1]
    omega
section
variable (d : Nat) (σ : Store)
theorem isname_ok (s : List UInt8) (hs : s.length < 2 ^ 40) : Called CU.cfg d 156 [.str s] σ fun v σ' => v = .bool (isName s) ∧ σ' = σ := by
  refine called_of (fn := CU.a156) rfl (Nat.le_of_ble_eq_true rfl) ?_
  simp only [CU.a156]
  simp -dsimp only [↓WPd, ↓wpC_block, ↓wpC_cond, WPu, Bool.false_eq_true, Bool.true_eq_false, Bool.not_true, Bool.not_false, if_true, if_false, ite_true, ite_false, Nat.reduceEqDiff, Nat.reduceLT, true_and, List.map_cons, List.map_nil, Nat.zero_add, Nat.reduceBEq, lenStrV_str]
  refine loop_rule2 (fun m vs σ' => ∃ k, k ≤ s.length ∧ m = s.length - k ∧ vs = [.str s, .int .i64 s.length, .int .i64 k] ∧ σ' = σ ∧ ∀ (j : Nat) (hj : j < s.length), j < k → chk j s[j] = true) [0, 2]
    (fun e vs σ' => σ' = σ ∧ ((e = .exit 0 ∧ (∃ x, vs = [.str s, x]) ∧ ∀ (j : Nat) (hj : j < s.length), chk j s[j] = true) ∨ (e = .ret ∧ (∃ x, vs = [x, .bool false]) ∧ isName s = false))) s.length ⟨0, Nat.zero_le _, rfl, ?_, rfl, fun j _ h => by omega⟩ ?_ ?_
  · simp -dsimp only [↓WPd, ↓wpC_block, ↓wpC_cond, WPu, Bool.false_eq_true, Bool.true_eq_false, Bool.not_true, Bool.not_false, if_true, if_false, ite_true, ite_false, Nat.reduceEqDiff, Nat.reduceLT, true_and, List.map_cons, List.map_nil, Nat.zero_add, Nat.reduceBEq]; rfl
  · rintro m vs σ' ⟨k, hk, rfl, rfl, rfl, hall⟩
    simp -dsimp only [↓WPd, ↓wpC_block, ↓wpC_cond, WPu, Bool.false_eq_true, Bool.true_eq_false, Bool.not_true, Bool.not_false, if_true, if_false, ite_true, ite_false, Nat.reduceEqDiff, Nat.reduceLT, true_and, List.map_cons, List.map_nil, Nat.zero_add, Nat.reduceBEq]
    refine condP_dec (fun h => ?_) (fun h => ?_)
    · have hk' : k < s.length := by omega
      simp -dsimp only [↓WPd, ↓wpC_block, ↓wpC_cond, WPu, Bool.false_eq_true, Bool.true_eq_false, Bool.not_true, Bool.not_false, if_true, if_false, ite_true, ite_false, Nat.reduceEqDiff, Nat.reduceLT, true_and, List.map_cons, List.map_nil, Nat.zero_add, Nat.reduceBEq, WPm, strIdx_ok hk']
      have key : (!(decide (((s[k]).toNat : Int) ≥ 97) && decide (((s[k]).toNat : Int) ≤ 122)) && (((k : Int) == 0) || (decide (((s[k]).toNat : Int) < 65) || decide (((s[k]).toNat : Int) > 90)) && (decide (((s[k]).toNat : Int) < 48) || decide (((s[k]).toNat : Int) > 57)) && (((s[k]).toNat : Int) != 95))) = !chk k s[k] := by
        generalize s[k] = c
        rw [Bool.eq_iff_iff]
        simp [chk, wordC, smallC]
        omega
      rw [key]
      refine condP_intro (fun h => ?_) (fun h => ?_)
      · simp -dsimp only [↓WPd, ↓wpC_block, ↓wpC_cond, WPu, Bool.false_eq_true, Bool.true_eq_false, Bool.not_true, Bool.not_false, if_true, if_false, ite_true, ite_false, Nat.reduceEqDiff, Nat.reduceLT, true_and, List.map_cons, List.map_nil, Nat.zero_add, Nat.reduceBEq]
        exact .inr ⟨⟨_, rfl⟩, isName_not hk' (by simpa using h)⟩
      · simp -dsimp only [↓WPd, ↓wpC_block, ↓wpC_cond, WPu, Bool.false_eq_true, Bool.true_eq_false, Bool.not_true, Bool.not_false, if_true, if_false, ite_true, ite_false, Nat.reduceEqDiff, Nat.reduceLT, true_and, List.map_cons, List.map_nil, Nat.zero_add, Nat.reduceBEq]
        refine ⟨s.length - (k + 1), by omega, k + 1, by omega, rfl, by rw [wrap_i64 (by omega) (by omega), Int.natCast_add, Int.natCast_one], fun j hj hjk => ?_⟩
        by_cases e : j = k
        · subst e; simpa using h
        · exact hall j hj (by omega)
    · simp -dsimp only [↓WPd, ↓wpC_block, ↓wpC_cond, WPu, Bool.false_eq_true, Bool.true_eq_false, Bool.not_true, Bool.not_false, if_true, if_false, ite_true, ite_false, Nat.reduceEqDiff, Nat.reduceLT, true_and, List.map_cons, List.map_nil, Nat.zero_add, Nat.reduceBEq]
      exact .inl ⟨⟨_, rfl⟩, fun j hj => hall j hj (by omega)⟩
  · rintro e σ' env ⟨rfl, ⟨rfl, ⟨x, hv⟩, hall⟩ | ⟨rfl, ⟨x, hv⟩, hno⟩⟩
    · simp only [List.map_cons, List.map_nil, List.cons.injEq, and_true] at hv
      have e1 : sopV .neq (.str s) (.str []) = some (.bool (decide (s ≠ []))) := by cases s <;> simp [sopV]
      simp -dsimp only [↓WPd, ↓wpC_block, ↓wpC_cond, WPu, Bool.false_eq_true, Bool.true_eq_false, Bool.not_true, Bool.not_false, if_true, if_false, ite_true, ite_false, Nat.reduceEqDiff, Nat.reduceLT, true_and, List.map_cons, List.map_nil, Nat.zero_add, Nat.reduceBEq, WPm, hv, e1]
      rw [isName_yes hall]
      have e2 : decide ((s.length : Int) ≤ 16) = decide (s.length ≤ 16) := decide_eq_decide.2 (by omega)
      rw [e2]
      exact ⟨rfl, trivial⟩
    · simp only [List.map_cons, List.map_nil, List.cons.injEq, and_true] at hv
      simp -dsimp only [↓WPd, ↓wpC_block, ↓wpC_cond, WPu, Bool.false_eq_true, Bool.true_eq_false, Bool.not_true, Bool.not_false, if_true, if_false, ite_true, ite_false, Nat.reduceEqDiff, Nat.reduceLT, true_and, List.map_cons, List.map_nil, Nat.zero_add, Nat.reduceBEq, hv, hno]
theorem isName_word {s : List UInt8} {k : Nat} (hk : k < s.length) (h : wordC s[k] = false) : isName s = false := by
  refine isName_not hk ?_
  simp only [chk, h, Bool.and_false, Bool.or_false]
  cases hq : smallC s[k] with
  | false => rfl
  | true => rw [word_small hq] at h; cases h
set_option maxHeartbeats 400000 in
theorem risname_ok (s : List UInt8) : Called CU.cfg d 161 [.str s] σ fun v σ' => v = .bool (isName s) ∧ σ' = σ := by
  refine called_of (fn := CU.a161) rfl (Nat.le_of_ble_eq_true rfl) ?_
  simp only [CU.a161]
  cases s with
  | nil =>
    have e : decide (((0 : Nat) : Int) < 1) = true := rfl
    simp -dsimp only [↓WPd, ↓wpC_block, ↓wpC_cond, WPu, Bool.false_eq_true, Bool.true_eq_false, Bool.not_true, Bool.not_false, if_true, if_false, ite_true, ite_false, Nat.reduceEqDiff, Nat.reduceLT, true_and, List.map_cons, List.map_nil, Nat.zero_add, Nat.reduceBEq, WPm, lenStrV_str, List.length_nil, e, bq_tf, Bool.true_or]
    exact ⟨rfl, trivial⟩
  | cons c r =>
    have e0 : strIdxV (.str (c :: r)) (.int .i64 0) = some (.int .u8 (c.toNat : Int)) := strIdx_ok (s := c :: r) (k := 0) (by simp)
    simp -dsimp only [↓WPd, ↓wpC_block, ↓wpC_cond, WPu, Bool.false_eq_true, Bool.true_eq_false, Bool.not_true, Bool.not_false, if_true, if_false, ite_true, ite_false, Nat.reduceEqDiff, Nat.reduceLT, true_and, List.map_cons, List.map_nil, Nat.zero_add, Nat.reduceBEq, WPm, lenStrV_str, e0]
    have key : (((decide ((((c :: r).length : Nat) : Int) < 1) || decide ((((c :: r).length : Nat) : Int) > 16)) || decide ((c.toNat : Int) < 97)) || decide ((c.toNat : Int) > 122)) = !(decide (r.length < 16) && smallC c) := by
      rw [Bool.eq_iff_iff]
      simp [smallC]
      omega
    rw [key]
    refine condP_intro (fun h => ?_) (fun h => ?_)
    · have : isName (c :: r) = false := by
        simp only [Bool.not_eq_true', Bool.and_eq_false_iff] at h
        rcases h with h | h <;> simp [isName, h]
      simp -dsimp only [↓WPd, ↓wpC_block, ↓wpC_cond, WPu, Bool.false_eq_true, Bool.true_eq_false, Bool.not_true, Bool.not_false, if_true, if_false, ite_true, ite_false, Nat.reduceEqDiff, Nat.reduceLT, true_and, List.map_cons, List.map_nil, Nat.zero_add, Nat.reduceBEq, this]
    · have h2 : isName (c :: r) = r.all wordC := by
        simp only [Bool.not_eq_false', Bool.and_eq_true] at h
        simp [isName, h]
      have hl : (c :: r).length ≤ 16 := by
        simp only [Bool.not_eq_false', Bool.and_eq_true, decide_eq_true_eq] at h
        simp only [List.length_cons]; omega
      have h3 : smallC c = true := by
        simp only [Bool.not_eq_false', Bool.and_eq_true] at h
        exact h.2
      simp -dsimp only [↓WPd, ↓wpC_block, ↓wpC_cond, WPu, Bool.false_eq_true, Bool.true_eq_false, Bool.not_true, Bool.not_false, if_true, if_false, ite_true, ite_false, Nat.reduceEqDiff, Nat.reduceLT, true_and, List.map_cons, List.map_nil, Nat.zero_add, Nat.reduceBEq]
      refine loop_rule2 (fun m vs σ' => ∃ k, k ≤ (c :: r).length ∧ m = (c :: r).length - k ∧ vs = [.str (c :: r), .int .i64 k] ∧ σ' = σ ∧ ∀ (j : Nat) (hj : j < (c :: r).length), j < k → wordC (c :: r)[j] = true) [0, 2]
        (fun e vs σ' => σ' = σ ∧ ((e = .exit 0 ∧ ∀ (j : Nat) (hj : j < (c :: r).length), wordC (c :: r)[j] = true) ∨ (e = .ret ∧ (∃ x, vs = [x, .bool false]) ∧ isName (c :: r) = false))) (c :: r).length ⟨0, Nat.zero_le _, rfl, ?_, rfl, fun j _ h => by omega⟩ ?_ ?_
      · simp -dsimp only [↓WPd, ↓wpC_block, ↓wpC_cond, WPu, Bool.false_eq_true, Bool.true_eq_false, Bool.not_true, Bool.not_false, if_true, if_false, ite_true, ite_false, Nat.reduceEqDiff, Nat.reduceLT, true_and, List.map_cons, List.map_nil, Nat.zero_add, Nat.reduceBEq]; rfl
      · rintro m vs σ' ⟨k, hk, rfl, rfl, rfl, hall⟩
        simp -dsimp only [↓WPd, ↓wpC_block, ↓wpC_cond, WPu, Bool.false_eq_true, Bool.true_eq_false, Bool.not_true, Bool.not_false, if_true, if_false, ite_true, ite_false, Nat.reduceEqDiff, Nat.reduceLT, true_and, List.map_cons, List.map_nil, Nat.zero_add, Nat.reduceBEq, lenStrV_str]
        refine condP_dec (fun h => ?_) (fun h => ?_)
        · have hk' : k < (c :: r).length := by omega
          simp -dsimp only [↓WPd, ↓wpC_block, ↓wpC_cond, WPu, Bool.false_eq_true, Bool.true_eq_false, Bool.not_true, Bool.not_false, if_true, if_false, ite_true, ite_false, Nat.reduceEqDiff, Nat.reduceLT, true_and, List.map_cons, List.map_nil, Nat.zero_add, Nat.reduceBEq, WPm, strIdx_ok hk']
          have key : (!((decide ((((c :: r)[k]).toNat : Int) ≥ 97) && decide ((((c :: r)[k]).toNat : Int) ≤ 122) || decide ((((c :: r)[k]).toNat : Int) ≥ 65) && decide ((((c :: r)[k]).toNat : Int) ≤ 90) || decide ((((c :: r)[k]).toNat : Int) ≥ 48) && decide ((((c :: r)[k]).toNat : Int) ≤ 57)) || ((((c :: r)[k]).toNat : Int) == 95))) = !wordC (c :: r)[k] := by
            generalize (c :: r)[k] = x
            rw [Bool.eq_iff_iff]
            simp [wordC, smallC]
            omega
          rw [key]
          refine condP_intro (fun h => ?_) (fun h => ?_)
          · simp -dsimp only [↓WPd, ↓wpC_block, ↓wpC_cond, WPu, Bool.false_eq_true, Bool.true_eq_false, Bool.not_true, Bool.not_false, if_true, if_false, ite_true, ite_false, Nat.reduceEqDiff, Nat.reduceLT, true_and, List.map_cons, List.map_nil, Nat.zero_add, Nat.reduceBEq]
            exact .inr ⟨⟨_, rfl⟩, isName_word hk' (by simpa using h)⟩
          · simp -dsimp only [↓WPd, ↓wpC_block, ↓wpC_cond, WPu, Bool.false_eq_true, Bool.true_eq_false, Bool.not_true, Bool.not_false, if_true, if_false, ite_true, ite_false, Nat.reduceEqDiff, Nat.reduceLT, true_and, List.map_cons, List.map_nil, Nat.zero_add, Nat.reduceBEq]
            refine ⟨(c :: r).length - (k + 1), by omega, k + 1, by omega, rfl, by rw [wrap_i64 (by omega) (by omega), Int.natCast_add, Int.natCast_one], fun j hj hjk => ?_⟩
            by_cases e : j = k
            · subst e; simpa using h
            · exact hall j hj (by omega)
        · simp -dsimp only [↓WPd, ↓wpC_block, ↓wpC_cond, WPu, Bool.false_eq_true, Bool.true_eq_false, Bool.not_true, Bool.not_false, if_true, if_false, ite_true, ite_false, Nat.reduceEqDiff, Nat.reduceLT, true_and, List.map_cons, List.map_nil, Nat.zero_add, Nat.reduceBEq]
          exact .inl fun j hj => hall j hj (by omega)
      · rintro e σ' env ⟨rfl, ⟨rfl, hall⟩ | ⟨rfl, ⟨x, hv⟩, hno⟩⟩
        · simp -dsimp only [↓WPd, ↓wpC_block, ↓wpC_cond, WPu, Bool.false_eq_true, Bool.true_eq_false, Bool.not_true, Bool.not_false, if_true, if_false, ite_true, ite_false, Nat.reduceEqDiff, Nat.reduceLT, true_and, List.map_cons, List.map_nil, Nat.zero_add, Nat.reduceBEq]
          rw [isName_yes fun j hj => ?_]
          · simp only [List.length_cons] at hl
            simp; omega
          · simp only [chk, Bool.or_eq_true, Bool.and_eq_true, hall j hj, and_true]
            cases j with
            | zero => left; simpa using h3
            | succ j => right; simp
        · simp only [List.map_cons, List.map_nil, List.cons.injEq, and_true] at hv
          simp -dsimp only [↓WPd, ↓wpC_block, ↓wpC_cond, WPu, Bool.false_eq_true, Bool.true_eq_false, Bool.not_true, Bool.not_false, if_true, if_false, ite_true, ite_false, Nat.reduceEqDiff, Nat.reduceLT, true_and, List.map_cons, List.map_nil, Nat.zero_add, Nat.reduceBEq, hv, hno]
def SS (l : List (List UInt8)) : List AVal := l.map AVal.str
theorem SS_len (l : List (List UInt8)) : (SS l).length = l.length := by simp [SS]
theorem SS_get (l : List (List UInt8)) (i : Nat) (h : i < (SS l).length) : (SS l)[i] = .str (l[i]'(by simpa [SS] using h)) := by simp [SS]
theorem sop_eql (a b : List UInt8) : sopV .eql (.str a) (.str b) = some (.bool (a == b)) := rfl
theorem sindex_ok (l : AVal) (x : List (List UInt8)) (s : List UInt8) (hx : x.length < 2 ^ 40) (hl : SlOf σ 1 l (SS x)) : Called CU.cfg d 173 [l, .str s] σ fun v σ' => (∃ i : Int, v = .int .i64 i ∧ (decide (0 ≤ i)) = x.contains s) ∧ σ' = σ := by
  refine called_of (fn := CU.a173) rfl (Nat.le_of_ble_eq_true rfl) ?_
  have ll := hl.len
  rw [SS_len] at ll
  simp only [CU.a173]
  simp -dsimp only [↓WPd, ↓wpC_block, ↓wpC_cond, WPu, Bool.false_eq_true, Bool.true_eq_false, Bool.not_true, Bool.not_false, if_true, if_false, ite_true, ite_false, Nat.reduceEqDiff, Nat.reduceLT, true_and, List.map_cons, List.map_nil, Nat.zero_add, Nat.reduceBEq, ll]
  refine loop_rule2 (fun m vs σ' => ∃ k, k ≤ x.length ∧ m = x.length - k ∧ vs = [l, .str s, .int .i64 x.length, .int .i64 k] ∧ σ' = σ ∧ ∀ (j : Nat) (hj : j < x.length), j < k → x[j] ≠ s) [4]
    (fun e vs σ' => σ' = σ ∧ ((e = .exit 0 ∧ x.contains s = false) ∨ (e = .ret ∧ x.contains s = true ∧ ∃ k : Nat, vs = [.int .i64 k]))) x.length ⟨0, Nat.zero_le _, rfl, ?_, rfl, fun j _ h => by omega⟩ ?_ ?_
  · simp -dsimp only [↓WPd, ↓wpC_block, ↓wpC_cond, WPu, Bool.false_eq_true, Bool.true_eq_false, Bool.not_true, Bool.not_false, if_true, if_false, ite_true, ite_false, Nat.reduceEqDiff, Nat.reduceLT, true_and, List.map_cons, List.map_nil, Nat.zero_add, Nat.reduceBEq]; rfl
  · rintro m vs σ' ⟨k, hk, rfl, rfl, rfl, hall⟩
    simp -dsimp only [↓WPd, ↓wpC_block, ↓wpC_cond, WPu, Bool.false_eq_true, Bool.true_eq_false, Bool.not_true, Bool.not_false, if_true, if_false, ite_true, ite_false, Nat.reduceEqDiff, Nat.reduceLT, true_and, List.map_cons, List.map_nil, Nat.zero_add, Nat.reduceBEq]
    refine condP_dec (fun h => ?_) (fun h => ?_)
    · have hk' : k < x.length := by omega
      have hi : k < (SS x).length := by rw [SS_len]; exact hk'
      simp -dsimp only [↓WPd, ↓wpC_block, ↓wpC_cond, WPu, Bool.false_eq_true, Bool.true_eq_false, Bool.not_true, Bool.not_false, if_true, if_false, ite_true, ite_false, Nat.reduceEqDiff, Nat.reduceLT, true_and, List.map_cons, List.map_nil, Nat.zero_add, Nat.reduceBEq, hl.iaddr hi, hl.load1 hi (by rw [SS_get]; rfl), SS_get, sop_eql]
      refine condP_intro (fun h => ?_) (fun h => ?_)
      · simp -dsimp only [↓WPd, ↓wpC_block, ↓wpC_cond, WPu, Bool.false_eq_true, Bool.true_eq_false, Bool.not_true, Bool.not_false, if_true, if_false, ite_true, ite_false, Nat.reduceEqDiff, Nat.reduceLT, true_and, List.map_cons, List.map_nil, Nat.zero_add, Nat.reduceBEq]
        have e : s = x[k] := by simpa using h
        exact .inr ⟨by rw [e]; simp, k, rfl⟩
      · simp -dsimp only [↓WPd, ↓wpC_block, ↓wpC_cond, WPu, Bool.false_eq_true, Bool.true_eq_false, Bool.not_true, Bool.not_false, if_true, if_false, ite_true, ite_false, Nat.reduceEqDiff, Nat.reduceLT, true_and, List.map_cons, List.map_nil, Nat.zero_add, Nat.reduceBEq]
        refine ⟨x.length - (k + 1), by omega, k + 1, by omega, rfl, by rw [wrap_i64 (by omega) (by omega), Int.natCast_add, Int.natCast_one], fun j hj hjk => ?_⟩
        by_cases e : j = k
        · subst e
          intro e; rw [e] at h; simp at h
        · exact hall j hj (by omega)
    · simp -dsimp only [↓WPd, ↓wpC_block, ↓wpC_cond, WPu, Bool.false_eq_true, Bool.true_eq_false, Bool.not_true, Bool.not_false, if_true, if_false, ite_true, ite_false, Nat.reduceEqDiff, Nat.reduceLT, true_and, List.map_cons, List.map_nil, Nat.zero_add, Nat.reduceBEq]
      refine .inl ?_
      cases hc : x.contains s with
      | false => rfl
      | true =>
        exfalso
        rw [List.contains_iff_mem] at hc
        obtain ⟨j, hj, e⟩ := List.getElem_of_mem hc
        exact hall j hj (by omega) e
  · rintro e σ' env ⟨rfl, ⟨rfl, hno⟩ | ⟨rfl, hyes, k, hv⟩⟩
    · simp -dsimp only [↓WPd, ↓wpC_block, ↓wpC_cond, WPu, Bool.false_eq_true, Bool.true_eq_false, Bool.not_true, Bool.not_false, if_true, if_false, ite_true, ite_false, Nat.reduceEqDiff, Nat.reduceLT, true_and, List.map_cons, List.map_nil, Nat.zero_add, Nat.reduceBEq]
      exact ⟨⟨_, rfl, by rw [hno]; rfl⟩, trivial⟩
    · simp only [List.map_cons, List.map_nil, List.cons.injEq, and_true] at hv
      simp -dsimp only [↓WPd, ↓wpC_block, ↓wpC_cond, WPu, Bool.false_eq_true, Bool.true_eq_false, Bool.not_true, Bool.not_false, if_true, if_false, ite_true, ite_false, Nat.reduceEqDiff, Nat.reduceLT, true_and, List.map_cons, List.map_nil, Nat.zero_add, Nat.reduceBEq, hv]
      exact ⟨⟨_, rfl, by rw [hyes]; simp⟩, trivial⟩
theorem scontains_ok (l : AVal) (x : List (List UInt8)) (s : List UInt8) (hx : x.length < 2 ^ 40) (hl : SlOf σ 1 l (SS x)) : Called CU.cfg d 158 [l, .str s] σ fun v σ' => v = .bool (x.contains s) ∧ σ' = σ := by
  refine called_of (fn := CU.a158) rfl (Nat.le_of_ble_eq_true rfl) ?_
  simp only [CU.a158]
  simp -dsimp only [↓WPd, ↓wpC_block, ↓wpC_cond, WPu, Bool.false_eq_true, Bool.true_eq_false, Bool.not_true, Bool.not_false, if_true, if_false, ite_true, ite_false, Nat.reduceEqDiff, Nat.reduceLT, true_and, List.map_cons, List.map_nil, Nat.zero_add, Nat.reduceBEq]
  refine calledW_of (sindex_ok d σ l x s hx hl) ?_
  rintro v σ1 ⟨⟨i, rfl, hi⟩, rfl⟩
  simp -dsimp only [↓WPd, ↓wpC_block, ↓wpC_cond, WPu, Bool.false_eq_true, Bool.true_eq_false, Bool.not_true, Bool.not_false, if_true, if_false, ite_true, ite_false, Nat.reduceEqDiff, Nat.reduceLT, true_and, List.map_cons, List.map_nil, Nat.zero_add, Nat.reduceBEq]
  have : decide (i ≥ 0) = x.contains s := hi
  rw [this]
  exact ⟨rfl, trivial⟩
theorem issign_ok (s : List UInt8) : Called CU.cfg d 162 [.str s] σ fun v σ' => v = .bool (signsL.contains s) ∧ Grows σ σ' := by
  refine called_of (fn := CU.a162) rfl (Nat.le_of_ble_eq_true rfl) ?_
  simp only [CU.a162]
  have hf : fillA [AVal.str [], AVal.str [], AVal.str [], AVal.str [], AVal.str [], AVal.str [], AVal.str [], AVal.str [], AVal.str [], AVal.str [], AVal.str [], AVal.str []] [(0, 1, AVal.str [61]), (1, 1, AVal.str [58, 61]), (2, 1, AVal.str [64]), (3, 1, AVal.str [43]), (4, 1, AVal.str [45]), (5, 1, AVal.str [42]), (6, 1, AVal.str [60]), (7, 1, AVal.str [61, 60]), (8, 1, AVal.str [62]), (9, 1, AVal.str [62, 61]), (10, 1, AVal.str [61, 58, 61]), (11, 1, AVal.str [61, 92, 61])] = some (SS signsL) := rfl
  have hl : (σ ++ [AObj.cells (List.replicate 12 (.str []))])[σ.length]? = some (.cells (List.replicate 12 (.str []))) := by simp
  have hs := storeN_cells hl (n := 12) rfl (cs' := SS signsL) rfl rfl
  rw [set_last] at hs
  have hst : storeV (σ ++ [AObj.cells [AVal.str [], AVal.str [], AVal.str [], AVal.str [], AVal.str [], AVal.str [], AVal.str [], AVal.str [], AVal.str [], AVal.str [], AVal.str [], AVal.str []]]) 12 (.ptr σ.length 0) (.agg (SS signsL)) = some (σ ++ [.cells (SS signsL)]) := hs
  simp -dsimp only [↓WPd, ↓wpC_block, ↓wpC_cond, WPu, Bool.false_eq_true, Bool.true_eq_false, Bool.not_true, Bool.not_false, if_true, if_false, ite_true, ite_false, Nat.reduceEqDiff, Nat.reduceLT, true_and, List.map_cons, List.map_nil, Nat.zero_add, Nat.reduceBEq, hf, hst]
  have ho : (σ ++ [AObj.cells (SS signsL)])[σ.length]? = some (.cells (SS signsL)) := by simp
  refine loop_rule2 (fun m vs σ' => ∃ k, k ≤ 12 ∧ m = 12 - k ∧ vs = [.str s, .ptr σ.length 0, .int .i64 k] ∧ σ' = σ ++ [AObj.cells (SS signsL)] ∧ ∀ (j : Nat) (hj : j < signsL.length), j < k → s ≠ signsL[j]) [2]
    (fun e vs σ' => σ' = σ ++ [AObj.cells (SS signsL)] ∧ ((e = .exit 0 ∧ signsL.contains s = false) ∨ (e = .ret ∧ signsL.contains s = true ∧ vs = [.bool true]))) 12 ⟨0, Nat.zero_le _, rfl, ?_, rfl, fun j _ h => by omega⟩ ?_ ?_
  · simp -dsimp only [↓WPd, ↓wpC_block, ↓wpC_cond, WPu, Bool.false_eq_true, Bool.true_eq_false, Bool.not_true, Bool.not_false, if_true, if_false, ite_true, ite_false, Nat.reduceEqDiff, Nat.reduceLT, true_and, List.map_cons, List.map_nil, Nat.zero_add, Nat.reduceBEq]; rfl
  · rintro m vs σ' ⟨k, hk, rfl, rfl, rfl, hall⟩
    simp -dsimp only [↓WPd, ↓wpC_block, ↓wpC_cond, WPu, Bool.false_eq_true, Bool.true_eq_false, Bool.not_true, Bool.not_false, if_true, if_false, ite_true, ite_false, Nat.reduceEqDiff, Nat.reduceLT, true_and, List.map_cons, List.map_nil, Nat.zero_add, Nat.reduceBEq]
    refine condP_dec (fun h => ?_) (fun h => ?_)
    · have hk' : k < 12 := by omega
      have ha : aaddrV 12 1 (.ptr σ.length 0) (.int .i64 k) = some (.ptr σ.length k) := by
        have e : (0 : Int) ≤ (k : Int) ∧ (k : Int) < 12 := by omega
        simp [aaddrV, e]
      have hg : (SS signsL)[k]? = some (.str (signsL[k]'hk')) := by
        have hi : k < (SS signsL).length := hk'
        rw [List.getElem?_eq_getElem hi, SS_get]; rfl
      simp -dsimp only [↓WPd, ↓wpC_block, ↓wpC_cond, WPu, Bool.false_eq_true, Bool.true_eq_false, Bool.not_true, Bool.not_false, if_true, if_false, ite_true, ite_false, Nat.reduceEqDiff, Nat.reduceLT, true_and, List.map_cons, List.map_nil, Nat.zero_add, Nat.reduceBEq, ha, load_cells ho, hg, sop_eql]
      refine condP_intro (fun h => ?_) (fun h => ?_)
      · simp -dsimp only [↓WPd, ↓wpC_block, ↓wpC_cond, WPu, Bool.false_eq_true, Bool.true_eq_false, Bool.not_true, Bool.not_false, if_true, if_false, ite_true, ite_false, Nat.reduceEqDiff, Nat.reduceLT, true_and, List.map_cons, List.map_nil, Nat.zero_add, Nat.reduceBEq]
        have e : s = signsL[k] := by simpa using h
        refine .inr ?_
        rw [e, List.contains_iff_mem]
        exact ⟨List.getElem_mem _, trivial⟩
      · simp -dsimp only [↓WPd, ↓wpC_block, ↓wpC_cond, WPu, Bool.false_eq_true, Bool.true_eq_false, Bool.not_true, Bool.not_false, if_true, if_false, ite_true, ite_false, Nat.reduceEqDiff, Nat.reduceLT, true_and, List.map_cons, List.map_nil, Nat.zero_add, Nat.reduceBEq]
        refine ⟨12 - (k + 1), by omega, k + 1, by omega, rfl, by rw [wrap_i64 (by omega) (by omega), Int.natCast_add, Int.natCast_one], fun j hj hjk => ?_⟩
        by_cases e : j = k
        · subst e
          intro e2
          have h2 : (s == signsL[j]'hk') = true := by rw [e2]; exact beq_self_eq_true _
          rw [h2] at h; cases h
        · exact hall j hj (by omega)
    · simp -dsimp only [↓WPd, ↓wpC_block, ↓wpC_cond, WPu, Bool.false_eq_true, Bool.true_eq_false, Bool.not_true, Bool.not_false, if_true, if_false, ite_true, ite_false, Nat.reduceEqDiff, Nat.reduceLT, true_and, List.map_cons, List.map_nil, Nat.zero_add, Nat.reduceBEq]
      refine .inl ?_
      cases hc : signsL.contains s with
      | false => rfl
      | true =>
        exfalso
        rw [List.contains_iff_mem] at hc
        obtain ⟨j, hj, e⟩ := List.getElem_of_mem hc
        have : signsL.length = 12 := rfl
        exact hall j hj (by omega) e.symm
  · rintro e σ' env ⟨rfl, ⟨rfl, hno⟩ | ⟨rfl, hyes, hv⟩⟩
    · simp -dsimp only [↓WPd, ↓wpC_block, ↓wpC_cond, WPu, Bool.false_eq_true, Bool.true_eq_false, Bool.not_true, Bool.not_false, if_true, if_false, ite_true, ite_false, Nat.reduceEqDiff, Nat.reduceLT, true_and, List.map_cons, List.map_nil, Nat.zero_add, Nat.reduceBEq, hno]
      exact Grows.app _ _
    · simp only [List.map_cons, List.map_nil, List.cons.injEq, and_true] at hv
      simp -dsimp only [↓WPd, ↓wpC_block, ↓wpC_cond, WPu, Bool.false_eq_true, Bool.true_eq_false, Bool.not_true, Bool.not_false, if_true, if_false, ite_true, ite_false, Nat.reduceEqDiff, Nat.reduceLT, true_and, List.map_cons, List.map_nil, Nat.zero_add, Nat.reduceBEq, hv, hyes]
      exact Grows.app _ _
end
end Go.Proofs.YtkjnanfkclijcaaDoor.Am

namespace Go.Proofs.YtkjnanfkclijcaaDoor.Am
open Go
set_option linter.unusedVariables false
set_option linter.unusedSimpArgs false
set_option linter.unusedSectionVars false
set_option maxRecDepth 100000
theorem Cel.one (c : Cel) : c.cs.all AVal.one = true := rfl
theorem Cel.cells (c : Cel) : c.val.cells = c.cs := rfl
theorem Cel.g0 (c : Cel) : c.cs[0]? = some (.int .u8 c.k) := rfl
theorem Cel.g1 (c : Cel) : c.cs[1]? = some (.str c.s) := rfl
theorem Cel.g2 (c : Cel) : c.cs[2]? = some (.int .i64 c.n) := rfl
theorem Cel.g3 (c : Cel) : c.cs[3]? = some (.int .i64 c.v.1) := rfl
theorem Cel.g4 (c : Cel) : c.cs[4]? = some (.int .i64 c.v.2) := rfl
theorem Cel.eqs (a b : Cel) : eqsV [.i, .s, .i, .i, .i] a.val b.val = some (decide (a = b)) := by
  obtain ⟨k, s, n, v, w⟩ := a
  obtain ⟨k', s', n', v', w'⟩ := b
  simp [eqsV, cellsEq, Cel.val, Cel.cs]
  rw [Bool.eq_iff_iff]
  simp
  omega
section
variable (d : Nat) (σ : Store)
theorem only_ok (a b : Cel) : Called CU.cfg d 154 [a.val, b.val] σ fun v σ' => v = .bool (decide (a = b)) ∧ Grows σ σ' := by
  refine called_of (fn := CU.a154) rfl (Nat.le_of_ble_eq_true rfl) ?_
  simp only [CU.a154]
  simp -dsimp only [↓WPd, ↓wpC_block, ↓wpC_cond, WPu, Bool.false_eq_true, Bool.true_eq_false, Bool.not_true, Bool.not_false, if_true, if_false, ite_true, ite_false, Nat.reduceEqDiff, Nat.reduceLT, true_and, List.map_cons, List.map_nil, Nat.zero_add, Nat.reduceBEq, Cel.cells, Cel.one]
  have h1 : (σ ++ [AObj.cells a.cs] ++ [AObj.cells b.cs])[σ.length]? = some (.cells a.cs) := by simp
  have h2 : (σ ++ [AObj.cells a.cs] ++ [AObj.cells b.cs])[(σ ++ [AObj.cells a.cs]).length]? = some (.cells b.cs) := by simp
  have l1 : loadV (σ ++ [AObj.cells a.cs] ++ [AObj.cells b.cs]) 5 true (.ptr σ.length 0) = some a.val := loadN_cells h1 rfl
  have l2 : loadV (σ ++ [AObj.cells a.cs] ++ [AObj.cells b.cs]) 5 true (.ptr (σ ++ [AObj.cells a.cs]).length 0) = some b.val := loadN_cells h2 rfl
  simp -dsimp only [↓WPd, ↓wpC_block, ↓wpC_cond, WPu, Bool.false_eq_true, Bool.true_eq_false, Bool.not_true, Bool.not_false, if_true, if_false, ite_true, ite_false, Nat.reduceEqDiff, Nat.reduceLT, true_and, List.map_cons, List.map_nil, Nat.zero_add, Nat.reduceBEq, l1, l2, Cel.eqs]
  exact (Grows.app _ _).trans (Grows.app _ _)
theorem cell_load {c : Cel} {σ' : Store} {i : Nat} (h : σ'[i]? = some (.cells c.cs)) : loadV σ' 5 true (.ptr i 0) = some c.val := loadN_cells h rfl
theorem rule1_ok (c : Cel) : Called CU.cfg d 153 [c.val] σ fun v σ' => v = .bool (decide (c.k = 1) && c.ok) ∧ Grows σ σ' := by
  refine called_of (fn := CU.a153) rfl (Nat.le_of_ble_eq_true rfl) ?_
  simp only [CU.a153]
  simp -dsimp only [↓WPd, ↓wpC_block, ↓wpC_cond, WPu, Bool.false_eq_true, Bool.true_eq_false, Bool.not_true, Bool.not_false, if_true, if_false, ite_true, ite_false, Nat.reduceEqDiff, Nat.reduceLT, true_and, List.map_cons, List.map_nil, Nat.zero_add, Nat.reduceBEq, Cel.cells, Cel.one]
  have ho : (σ ++ [AObj.cells c.cs])[σ.length]? = some (.cells c.cs) := by simp
  have g0 : Grows σ (σ ++ [AObj.cells c.cs]) := Grows.app _ _
  generalize σ ++ [AObj.cells c.cs] = σ1 at ho g0
  simp -dsimp only [↓WPd, ↓wpC_block, ↓wpC_cond, WPu, Bool.false_eq_true, Bool.true_eq_false, Bool.not_true, Bool.not_false, if_true, if_false, ite_true, ite_false, Nat.reduceEqDiff, Nat.reduceLT, true_and, List.map_cons, List.map_nil, Nat.zero_add, Nat.reduceBEq, WPm, faddr_ptr, load_cells ho, Cel.g0, Cel.g1, Cel.g2, Cel.g3, Cel.g4, cell_load ho]
  generalize hb : (decide (c.n ≥ -2147483648) && decide (c.n ≤ 2147483648)) = b
  have hok : (decide (c.k = 1) && c.ok) = (b && decide (c = ⟨1, [], c.n, (0, 0)⟩)) := by
    rw [← hb]
    obtain ⟨k, s, n, v⟩ := c
    by_cases h1 : k = 1
    · subst h1
      rw [Bool.eq_iff_iff]
      simp [Cel.ok]
      constructor <;> intro h <;> simp_all
    · simp [h1]
  have hf : fillA [AVal.int IntKind.u8 0, AVal.str [], AVal.int IntKind.i64 0, AVal.int IntKind.i64 0, AVal.int IntKind.i64 0] [(0, 1, AVal.int IntKind.u8 1), (2, 1, AVal.int IntKind.i64 c.n)] = some (Cel.cs ⟨1, [], c.n, (0, 0)⟩) := rfl
  cases b
  · simp -dsimp only [↓WPd, ↓wpC_block, ↓wpC_cond, WPu, Bool.false_eq_true, Bool.true_eq_false, Bool.not_true, Bool.not_false, if_true, if_false, ite_true, ite_false, Nat.reduceEqDiff, Nat.reduceLT, true_and, List.map_cons, List.map_nil, Nat.zero_add, Nat.reduceBEq, WPm, hok, Bool.false_and]
    exact g0
  · simp -dsimp only [↓WPd, ↓wpC_block, ↓wpC_cond, WPu, Bool.false_eq_true, Bool.true_eq_false, Bool.not_true, Bool.not_false, if_true, if_false, ite_true, ite_false, Nat.reduceEqDiff, Nat.reduceLT, true_and, List.map_cons, List.map_nil, Nat.zero_add, Nat.reduceBEq, WPm, hf]
    refine calledW_of (only_ok d σ1 c ⟨1, [], c.n, (0, 0)⟩) ?_
    rintro v σ2 ⟨rfl, g2⟩
    simp -dsimp only [↓WPd, ↓wpC_block, ↓wpC_cond, WPu, Bool.false_eq_true, Bool.true_eq_false, Bool.not_true, Bool.not_false, if_true, if_false, ite_true, ite_false, Nat.reduceEqDiff, Nat.reduceLT, true_and, List.map_cons, List.map_nil, Nat.zero_add, Nat.reduceBEq, hok, Bool.true_and]
    exact g0.trans g2
theorem rule2_ok (c : Cel) (hs : c.s.length < 2 ^ 40) : Called CU.cfg d 155 [c.val] σ fun v σ' => v = .bool (decide (c.k = 2) && c.ok) ∧ Grows σ σ' := by
  refine called_of (fn := CU.a155) rfl (Nat.le_of_ble_eq_true rfl) ?_
  simp only [CU.a155]
  simp -dsimp only [↓WPd, ↓wpC_block, ↓wpC_cond, WPu, Bool.false_eq_true, Bool.true_eq_false, Bool.not_true, Bool.not_false, if_true, if_false, ite_true, ite_false, Nat.reduceEqDiff, Nat.reduceLT, true_and, List.map_cons, List.map_nil, Nat.zero_add, Nat.reduceBEq, Cel.cells, Cel.one]
  have ho : (σ ++ [AObj.cells c.cs])[σ.length]? = some (.cells c.cs) := by simp
  have g0 : Grows σ (σ ++ [AObj.cells c.cs]) := Grows.app _ _
  generalize σ ++ [AObj.cells c.cs] = σ1 at ho g0
  simp -dsimp only [↓WPd, ↓wpC_block, ↓wpC_cond, WPu, Bool.false_eq_true, Bool.true_eq_false, Bool.not_true, Bool.not_false, if_true, if_false, ite_true, ite_false, Nat.reduceEqDiff, Nat.reduceLT, true_and, List.map_cons, List.map_nil, Nat.zero_add, Nat.reduceBEq, WPm, faddr_ptr, load_cells ho, Cel.g0, Cel.g1, Cel.g2, Cel.g3, Cel.g4, cell_load ho]
  refine calledW_of (isname_ok d σ1 c.s hs) ?_
  rintro v σ2 ⟨rfl, rfl⟩
  have hok : (decide (c.k = 2) && c.ok) = (isName c.s && decide (c = ⟨2, c.s, 0, (0, 0)⟩)) := by
    obtain ⟨k, s, n, v⟩ := c
    by_cases h1 : k = 2
    · subst h1
      rw [Bool.eq_iff_iff]
      simp [Cel.ok]
      constructor <;> intro h <;> simp_all
    · simp [h1]
  have hf : fillA [AVal.int IntKind.u8 0, AVal.str [], AVal.int IntKind.i64 0, AVal.int IntKind.i64 0, AVal.int IntKind.i64 0] [(0, 1, AVal.int IntKind.u8 2), (1, 1, AVal.str c.s)] = some (Cel.cs ⟨2, c.s, 0, (0, 0)⟩) := rfl
  generalize hb : isName c.s = b at hok
  cases b
  · simp -dsimp only [↓WPd, ↓wpC_block, ↓wpC_cond, WPu, Bool.false_eq_true, Bool.true_eq_false, Bool.not_true, Bool.not_false, if_true, if_false, ite_true, ite_false, Nat.reduceEqDiff, Nat.reduceLT, true_and, List.map_cons, List.map_nil, Nat.zero_add, Nat.reduceBEq, WPm, hok, Bool.false_and]
    exact g0
  · simp -dsimp only [↓WPd, ↓wpC_block, ↓wpC_cond, WPu, Bool.false_eq_true, Bool.true_eq_false, Bool.not_true, Bool.not_false, if_true, if_false, ite_true, ite_false, Nat.reduceEqDiff, Nat.reduceLT, true_and, List.map_cons, List.map_nil, Nat.zero_add, Nat.reduceBEq, WPm, faddr_ptr, load_cells ho, Cel.g0, Cel.g1, Cel.g2, Cel.g3, Cel.g4, cell_load ho, hf]
    refine calledW_of (only_ok d σ2 c ⟨2, c.s, 0, (0, 0)⟩) ?_
    rintro v σ3 ⟨rfl, g2⟩
    simp -dsimp only [↓WPd, ↓wpC_block, ↓wpC_cond, WPu, Bool.false_eq_true, Bool.true_eq_false, Bool.not_true, Bool.not_false, if_true, if_false, ite_true, ite_false, Nat.reduceEqDiff, Nat.reduceLT, true_and, List.map_cons, List.map_nil, Nat.zero_add, Nat.reduceBEq, hok, Bool.true_and]
    exact g0.trans g2
theorem rule4_ok (c : Cel) : Called CU.cfg d 159 [c.val] σ fun v σ' => v = .bool (decide (c.k = 4) && c.ok) ∧ Grows σ σ' := by
  refine called_of (fn := CU.a159) rfl (Nat.le_of_ble_eq_true rfl) ?_
  simp only [CU.a159]
  simp -dsimp only [↓WPd, ↓wpC_block, ↓wpC_cond, WPu, Bool.false_eq_true, Bool.true_eq_false, Bool.not_true, Bool.not_false, if_true, if_false, ite_true, ite_false, Nat.reduceEqDiff, Nat.reduceLT, true_and, List.map_cons, List.map_nil, Nat.zero_add, Nat.reduceBEq, Cel.cells, Cel.one]
  have ho : (σ ++ [AObj.cells c.cs])[σ.length]? = some (.cells c.cs) := by simp
  have g0 : Grows σ (σ ++ [AObj.cells c.cs]) := Grows.app _ _
  generalize σ ++ [AObj.cells c.cs] = σ1 at ho g0
  have l2 : loadV σ1 2 true (.ptr σ.length 3) = some (.agg [.int .i64 c.v.1, .int .i64 c.v.2]) := by simp [loadV, behind, ho, Cel.cs]
  simp -dsimp only [↓WPd, ↓wpC_block, ↓wpC_cond, WPu, Bool.false_eq_true, Bool.true_eq_false, Bool.not_true, Bool.not_false, if_true, if_false, ite_true, ite_false, Nat.reduceEqDiff, Nat.reduceLT, true_and, List.map_cons, List.map_nil, Nat.zero_add, Nat.reduceBEq, WPm, faddr_ptr, Nat.reduceAdd, Nat.add_zero, load_cells ho, Cel.g0, Cel.g1, Cel.g2, Cel.g3, Cel.g4, cell_load ho, l2]
  generalize hb : (decide (c.v.1 ≥ -1) && decide (c.v.1 < 4) && decide (c.v.2 ≥ 0)) = b
  have hok : (decide (c.k = 4) && c.ok) = (b && decide (c = ⟨4, [], 0, c.v⟩)) := by
    rw [← hb]
    obtain ⟨k, s, n, v, w⟩ := c
    by_cases h1 : k = 4
    · subst h1
      rw [Bool.eq_iff_iff]
      simp [Cel.ok]
      constructor
      · intro h; simp_all; omega
      · intro h; simp_all; omega
    · simp [h1]
  have hf : fillA [AVal.int IntKind.u8 0, AVal.str [], AVal.int IntKind.i64 0, AVal.int IntKind.i64 0, AVal.int IntKind.i64 0] [(0, 1, AVal.int IntKind.u8 4), (3, 2, AVal.agg [.int .i64 c.v.1, .int .i64 c.v.2])] = some (Cel.cs ⟨4, [], 0, c.v⟩) := rfl
  cases b
  · simp -dsimp only [↓WPd, ↓wpC_block, ↓wpC_cond, WPu, Bool.false_eq_true, Bool.true_eq_false, Bool.not_true, Bool.not_false, if_true, if_false, ite_true, ite_false, Nat.reduceEqDiff, Nat.reduceLT, true_and, List.map_cons, List.map_nil, Nat.zero_add, Nat.reduceBEq, WPm, hok, Bool.false_and]
    exact g0
  · simp -dsimp only [↓WPd, ↓wpC_block, ↓wpC_cond, WPu, Bool.false_eq_true, Bool.true_eq_false, Bool.not_true, Bool.not_false, if_true, if_false, ite_true, ite_false, Nat.reduceEqDiff, Nat.reduceLT, true_and, List.map_cons, List.map_nil, Nat.zero_add, Nat.reduceBEq, WPm, hf]
    refine calledW_of (only_ok d σ1 c ⟨4, [], 0, c.v⟩) ?_
    rintro v σ2 ⟨rfl, g2⟩
    simp -dsimp only [↓WPd, ↓wpC_block, ↓wpC_cond, WPu, Bool.false_eq_true, Bool.true_eq_false, Bool.not_true, Bool.not_false, if_true, if_false, ite_true, ite_false, Nat.reduceEqDiff, Nat.reduceLT, true_and, List.map_cons, List.map_nil, Nat.zero_add, Nat.reduceBEq, hok, Bool.true_and]
    exact g0.trans g2
theorem rule5_ok (c : Cel) : Called CU.cfg d 160 [c.val] σ fun v σ' => v = .bool false ∧ Grows σ σ' := by
  refine called_of (fn := CU.a160) rfl (Nat.le_of_ble_eq_true rfl) ?_
  simp only [CU.a160]
  simp -dsimp only [↓WPd, ↓wpC_block, ↓wpC_cond, WPu, Bool.false_eq_true, Bool.true_eq_false, Bool.not_true, Bool.not_false, if_true, if_false, ite_true, ite_false, Nat.reduceEqDiff, Nat.reduceLT, true_and, List.map_cons, List.map_nil, Nat.zero_add, Nat.reduceBEq, Cel.cells, Cel.one]
  exact Grows.app _ _
theorem ev_signs (fr : List AVal) : ev CU.cfg fr (.glob 0) = .fptr 0 (SS signsL) 0 := rfl
theorem gslice_signs : gsliceV 12 (.fptr 0 (SS signsL) 0) = some (.fslice 0 true 1 (SS signsL)) := rfl
theorem rule3_ok (c : Cel) (hs : c.s.length < 2 ^ 40) : Called CU.cfg d 157 [c.val] σ fun v σ' => v = .bool (decide (c.k = 3) && c.ok) ∧ Grows σ σ' := by
  refine called_of (fn := CU.a157) rfl (Nat.le_of_ble_eq_true rfl) ?_
  simp only [CU.a157]
  simp -dsimp only [↓WPd, ↓wpC_block, ↓wpC_cond, WPu, Bool.false_eq_true, Bool.true_eq_false, Bool.not_true, Bool.not_false, if_true, if_false, ite_true, ite_false, Nat.reduceEqDiff, Nat.reduceLT, true_and, List.map_cons, List.map_nil, Nat.zero_add, Nat.reduceBEq, Cel.cells, Cel.one]
  have ho : (σ ++ [AObj.cells c.cs])[σ.length]? = some (.cells c.cs) := by simp
  have g0 : Grows σ (σ ++ [AObj.cells c.cs]) := Grows.app _ _
  generalize σ ++ [AObj.cells c.cs] = σ1 at ho g0
  simp -dsimp only [↓WPd, ↓wpC_block, ↓wpC_cond, WPu, Bool.false_eq_true, Bool.true_eq_false, Bool.not_true, Bool.not_false, if_true, if_false, ite_true, ite_false, Nat.reduceEqDiff, Nat.reduceLT, true_and, List.map_cons, List.map_nil, Nat.zero_add, Nat.reduceBEq, WPm, faddr_ptr, load_cells ho, Cel.g0, Cel.g1, Cel.g2, Cel.g3, Cel.g4, cell_load ho]
  refine calledW_of (isname_ok d σ1 c.s hs) ?_
  rintro v σ2 ⟨rfl, rfl⟩
  simp -dsimp only [↓WPd, ↓wpC_block, ↓wpC_cond, WPu, Bool.false_eq_true, Bool.true_eq_false, Bool.not_true, Bool.not_false, if_true, if_false, ite_true, ite_false, Nat.reduceEqDiff, Nat.reduceLT, true_and, List.map_cons, List.map_nil, Nat.zero_add, Nat.reduceBEq, WPm, faddr_ptr, load_cells ho, Cel.g0, Cel.g1, Cel.g2, Cel.g3, Cel.g4, cell_load ho]
  generalize hb : (isName c.s && decide (c.n ≥ 1) && decide (c.n ≤ 8)) = b
  have hf : fillA [AVal.int IntKind.u8 0, AVal.str [], AVal.int IntKind.i64 0, AVal.int IntKind.i64 0, AVal.int IntKind.i64 0] [(0, 1, AVal.int IntKind.u8 3), (1, 1, AVal.str c.s), (2, 1, AVal.int IntKind.i64 c.n)] = some (Cel.cs ⟨3, c.s, c.n, (0, 0)⟩) := rfl
  have hok : (decide (c.k = 3) && c.ok) = ((b || (signsL.contains c.s && (c.n == 2))) && decide (c = ⟨3, c.s, c.n, (0, 0)⟩)) := by
    rw [← hb]
    obtain ⟨k, s, n, v⟩ := c
    by_cases h1 : k = 3
    · subst h1
      rw [Bool.eq_iff_iff]
      simp only [Cel.ok]
      simp
      constructor
      · intro h; simp_all
      · intro h; simp_all
    · simp [h1]
  have fin : ∀ (q : Bool) (σ3 : Store), Grows σ σ3 → σ3[σ.length]? = some (.cells c.cs) → (b || (signsL.contains c.s && (c.n == 2))) = q → q = true → Called CU.cfg d 154 [c.val, .agg (Cel.cs ⟨3, c.s, c.n, (0, 0)⟩)] σ3 fun v σ' => v = .bool (decide (c.k = 3) && c.ok) ∧ Grows σ σ' := by
    intro q σ3 g3 h3 hq hq1
    refine (only_ok d σ3 c ⟨3, c.s, c.n, (0, 0)⟩).mono ?_
    rintro v σ4 ⟨rfl, g4⟩
    rw [hok, hq, hq1, Bool.true_and]
    exact ⟨rfl, g3.trans g4⟩
  cases b
  · simp -dsimp only [↓WPd, ↓wpC_block, ↓wpC_cond, WPu, Bool.false_eq_true, Bool.true_eq_false, Bool.not_true, Bool.not_false, if_true, if_false, ite_true, ite_false, Nat.reduceEqDiff, Nat.reduceLT, true_and, List.map_cons, List.map_nil, Nat.zero_add, Nat.reduceBEq, WPm, ev_signs, gslice_signs, faddr_ptr, load_cells ho, Cel.g0, Cel.g1, Cel.g2, Cel.g3, Cel.g4, cell_load ho]
    refine calledW_of (scontains_ok d σ2 _ signsL c.s (by decide) (SlOf.fs _ _ _ _ _)) ?_
    rintro v σ3 ⟨rfl, rfl⟩
    simp -dsimp only [↓WPd, ↓wpC_block, ↓wpC_cond, WPu, Bool.false_eq_true, Bool.true_eq_false, Bool.not_true, Bool.not_false, if_true, if_false, ite_true, ite_false, Nat.reduceEqDiff, Nat.reduceLT, true_and, List.map_cons, List.map_nil, Nat.zero_add, Nat.reduceBEq, WPm, faddr_ptr, load_cells ho, Cel.g0, Cel.g1, Cel.g2, Cel.g3, Cel.g4, cell_load ho]
    generalize hq : (signsL.contains c.s && (c.n == 2)) = q at hok fin
    cases q
    · simp -dsimp only [↓WPd, ↓wpC_block, ↓wpC_cond, WPu, Bool.false_eq_true, Bool.true_eq_false, Bool.not_true, Bool.not_false, if_true, if_false, ite_true, ite_false, Nat.reduceEqDiff, Nat.reduceLT, true_and, List.map_cons, List.map_nil, Nat.zero_add, Nat.reduceBEq, WPm, hok, Bool.false_or, Bool.false_and]
      exact g0
    · simp -dsimp only [↓WPd, ↓wpC_block, ↓wpC_cond, WPu, Bool.false_eq_true, Bool.true_eq_false, Bool.not_true, Bool.not_false, if_true, if_false, ite_true, ite_false, Nat.reduceEqDiff, Nat.reduceLT, true_and, List.map_cons, List.map_nil, Nat.zero_add, Nat.reduceBEq, WPm, Bool.false_or, faddr_ptr, load_cells ho, Cel.g0, Cel.g1, Cel.g2, Cel.g3, Cel.g4, cell_load ho, hf]
      refine calledW_of (fin _ _ g0 ho rfl rfl) ?_
      rintro v σ4 ⟨rfl, g4⟩
      simp -dsimp only [↓WPd, ↓wpC_block, ↓wpC_cond, WPu, Bool.false_eq_true, Bool.true_eq_false, Bool.not_true, Bool.not_false, if_true, if_false, ite_true, ite_false, Nat.reduceEqDiff, Nat.reduceLT, true_and, List.map_cons, List.map_nil, Nat.zero_add, Nat.reduceBEq]
      exact g4
  · simp -dsimp only [↓WPd, ↓wpC_block, ↓wpC_cond, WPu, Bool.false_eq_true, Bool.true_eq_false, Bool.not_true, Bool.not_false, if_true, if_false, ite_true, ite_false, Nat.reduceEqDiff, Nat.reduceLT, true_and, List.map_cons, List.map_nil, Nat.zero_add, Nat.reduceBEq, WPm, Bool.true_or, faddr_ptr, load_cells ho, Cel.g0, Cel.g1, Cel.g2, Cel.g3, Cel.g4, cell_load ho, hf]
    refine calledW_of (fin _ _ g0 ho rfl rfl) ?_
    rintro v σ4 ⟨rfl, g4⟩
    simp -dsimp only [↓WPd, ↓wpC_block, ↓wpC_cond, WPu, Bool.false_eq_true, Bool.true_eq_false, Bool.not_true, Bool.not_false, if_true, if_false, ite_true, ite_false, Nat.reduceEqDiff, Nat.reduceLT, true_and, List.map_cons, List.map_nil, Nat.zero_add, Nat.reduceBEq]
    exact g4
end
end Go.Proofs.YtkjnanfkclijcaaDoor.Am

namespace Go.Proofs.YtkjnanfkclijcaaDoor.Am
open Go
set_option linter.unusedVariables false
set_option linter.unusedSimpArgs false
set_option linter.unusedSectionVars false
set_option maxRecDepth 100000
def ruleF (k : Nat) : FuncId := if k = 1 then 153 else if k = 2 then 155 else if k = 3 then 157 else if k = 4 then 159 else 160
def rulesL : List AVal := [.nilfunc, .func 153 [] [], .func 155 [] [], .func 157 [] [], .func 159 [] []]
section
variable (d : Nat) (σ : Store)
theorem rule_ok (k : Nat) (hk8 : k < 256) : Called CU.cfg d 116 [.int .u8 k] σ fun v σ' => v = .agg [.func (ruleF k) [] []] ∧ Grows σ σ' := by
  refine called_of (fn := CU.a116) rfl (Nat.le_of_ble_eq_true rfl) ?_
  simp only [CU.a116]
  have b1 : ∀ f : FuncId, fillA [AVal.nilfunc] [(0, 1, .func f [] [])] = some [.func f [] []] := fun f => rfl
  have b2 : ∀ a b c e : FuncId, fillA [AVal.nilfunc, .nilfunc, .nilfunc, .nilfunc, .nilfunc] [(1, 1, .agg [.func a [] []]), (2, 1, .agg [.func b [] []]), (3, 1, .agg [.func c [] []]), (4, 1, .agg [.func e [] []])] = some [.nilfunc, .func a [] [], .func b [] [], .func c [] [], .func e [] []] := fun a b c e => rfl
  have h5 : (σ ++ [AObj.cells [AVal.nilfunc]] ++ [AObj.cells [AVal.nilfunc, AVal.nilfunc, AVal.nilfunc, AVal.nilfunc, AVal.nilfunc]])[(σ ++ [AObj.cells [AVal.nilfunc]]).length]? = some (.cells [AVal.nilfunc, AVal.nilfunc, AVal.nilfunc, AVal.nilfunc, AVal.nilfunc]) := by simp
  have s5 := storeN_cells h5 (n := 5) rfl (cs' := rulesL) rfl rfl
  rw [set_last] at s5
  have s5' : storeV (σ ++ [AObj.cells [AVal.nilfunc]] ++ [AObj.cells [AVal.nilfunc, AVal.nilfunc, AVal.nilfunc, AVal.nilfunc, AVal.nilfunc]]) 5 (.ptr (σ ++ [AObj.cells [AVal.nilfunc]]).length 0) (.agg [.nilfunc, .func 153 [] [], .func 155 [] [], .func 157 [] [], .func 159 [] []]) = some (σ ++ [AObj.cells [AVal.nilfunc]] ++ [AObj.cells rulesL]) := s5
  have g0 : Grows σ (σ ++ [AObj.cells [AVal.nilfunc]] ++ [AObj.cells rulesL]) := (Grows.app _ _).trans (Grows.app _ _)
  have h1 : (σ ++ [AObj.cells [AVal.nilfunc]] ++ [AObj.cells rulesL])[σ.length]? = some (.cells [.nilfunc]) := by simp
  have h2 : (σ ++ [AObj.cells [AVal.nilfunc]] ++ [AObj.cells rulesL])[(σ ++ [AObj.cells [AVal.nilfunc]]).length]? = some (.cells rulesL) := by simp
  have cv : convV .i64 (.int .u8 (k : Int)) = some (.int .i64 (k : Int)) := by rw [convV_int, wrap_i64 (by omega) (by omega)]
  simp -dsimp only [↓WPd, ↓wpC_block, ↓wpC_cond, WPu, Bool.false_eq_true, Bool.true_eq_false, Bool.not_true, Bool.not_false, if_true, if_false, ite_true, ite_false, Nat.reduceEqDiff, Nat.reduceLT, true_and, List.map_cons, List.map_nil, Nat.zero_add, Nat.reduceBEq, WPm, b1, b2, s5', cv]
  generalize (σ ++ [AObj.cells [AVal.nilfunc]]).length = i5 at *
  generalize σ ++ [AObj.cells [AVal.nilfunc]] ++ [AObj.cells rulesL] = σ1 at *
  have fin : ∀ f : FuncId, ruleF k = f → storeV σ1 1 (.ptr σ.length 0) (.agg [.func f [] []]) = some (σ1.set σ.length (.cells [.func f [] []])) ∧ loadV (σ1.set σ.length (.cells [.func f [] []])) 1 true (.ptr σ.length 0) = some (.agg [.func (ruleF k) [] []]) ∧ Grows σ (σ1.set σ.length (.cells [.func f [] []])) := by
    intro f hf
    refine ⟨storeN_cells h1 (n := 1) rfl rfl rfl, ?_, ?_⟩
    · rw [hf]; exact loadN_cells (get_set h1) rfl
    · exact Keeps.trans g0 (Keeps.set _ _ _) fun i hi e => by omega
  have key : (decide ((k : Int) < 1) || decide ((k : Int) ≥ 5)) = !(decide (1 ≤ k) && decide (k < 5)) := by
    rw [Bool.eq_iff_iff]; simp; omega
  rw [key]
  refine condP_intro (fun h => ?_) (fun h => ?_)
  · have hk : ruleF k = 160 := by
      simp only [Bool.not_eq_true', Bool.and_eq_false_iff, decide_eq_false_iff_not] at h
      simp only [ruleF]
      rw [if_neg (by omega), if_neg (by omega), if_neg (by omega), if_neg (by omega)]
    obtain ⟨f1, f2, f3⟩ := fin _ hk
    simp -dsimp only [↓WPd, ↓wpC_block, ↓wpC_cond, WPu, Bool.false_eq_true, Bool.true_eq_false, Bool.not_true, Bool.not_false, if_true, if_false, ite_true, ite_false, Nat.reduceEqDiff, Nat.reduceLT, true_and, List.map_cons, List.map_nil, Nat.zero_add, Nat.reduceBEq, b1, f1, f2]
    exact f3
  · simp only [Bool.not_eq_false', Bool.and_eq_true, decide_eq_true_eq] at h
    have ha : aaddrV 5 1 (.ptr i5 0) (.int .u8 k) = some (.ptr i5 k) := by
      have e : (0 : Int) ≤ (k : Int) ∧ (k : Int) < 5 := by omega
      simp [aaddrV, e]
    have hl : loadV σ1 1 true (.ptr i5 k) = some (.agg [.func (ruleF k) [] []]) := by
      have : k = 1 ∨ k = 2 ∨ k = 3 ∨ k = 4 := by omega
      rcases this with rfl | rfl | rfl | rfl <;> simp [loadV, behind, h2, rulesL, ruleF]
    obtain ⟨f1, f2, f3⟩ := fin _ rfl
    simp -dsimp only [↓WPd, ↓wpC_block, ↓wpC_cond, WPu, Bool.false_eq_true, Bool.true_eq_false, Bool.not_true, Bool.not_false, if_true, if_false, ite_true, ite_false, Nat.reduceEqDiff, Nat.reduceLT, true_and, List.map_cons, List.map_nil, Nat.zero_add, Nat.reduceBEq, ha, hl, f1, f2]
    exact f3
theorem law_ok (c : Cel) (hs : c.s.length < 2 ^ 40) : Called CU.cfg d (ruleF c.k) [c.val] σ fun v σ' => v = .bool c.ok ∧ Grows σ σ' := by
  have q : ∀ {j : Nat} {f : FuncId}, c.k = j → ruleF c.k = f → Called CU.cfg d f [c.val] σ (fun v σ' => v = .bool (decide (c.k = j) && c.ok) ∧ Grows σ σ') → Called CU.cfg d (ruleF c.k) [c.val] σ fun v σ' => v = .bool c.ok ∧ Grows σ σ' := by
    intro j f hj hf h
    rw [hf]
    refine h.mono ?_
    rintro v σ' ⟨rfl, g⟩
    rw [hj, decide_eq_true rfl, Bool.true_and]
    exact ⟨rfl, g⟩
  by_cases h1 : c.k = 1
  · exact q h1 (by simp [ruleF, h1]) (rule1_ok d σ c)
  by_cases h2 : c.k = 2
  · exact q h2 (by simp [ruleF, h2]) (rule2_ok d σ c hs)
  by_cases h3 : c.k = 3
  · exact q h3 (by simp [ruleF, h3]) (rule3_ok d σ c hs)
  by_cases h4 : c.k = 4
  · exact q h4 (by simp [ruleF, h4]) (rule4_ok d σ c)
  have e1 : ruleF c.k = 160 := by simp [ruleF, h1, h2, h3, h4]
  have e2 : c.ok = false := by simp [Cel.ok, h1, h2, h3, h4]
  rw [e1, e2]
  exact rule5_ok d σ c
theorem wrong_ok (c : Cel) (hk8 : c.k < 256) (hs : c.s.length < 2 ^ 40) : Called CU.cfg d 115 [c.val] σ fun v σ' => v = .bool (!c.ok) ∧ Grows σ σ' := by
  refine called_of (fn := CU.a115) rfl (Nat.le_of_ble_eq_true rfl) ?_
  simp only [CU.a115]
  simp -dsimp only [↓WPd, ↓wpC_block, ↓wpC_cond, WPu, Bool.false_eq_true, Bool.true_eq_false, Bool.not_true, Bool.not_false, if_true, if_false, ite_true, ite_false, Nat.reduceEqDiff, Nat.reduceLT, true_and, List.map_cons, List.map_nil, Nat.zero_add, Nat.reduceBEq, Cel.cells, Cel.one]
  have ho : (σ ++ [AObj.cells c.cs])[σ.length]? = some (.cells c.cs) := by simp
  have g0 : Grows σ (σ ++ [AObj.cells c.cs]) := Grows.app _ _
  generalize σ ++ [AObj.cells c.cs] = σ1 at ho g0
  refine drawnP_of rfl ?_
  simp -dsimp only [↓WPd, ↓wpC_block, ↓wpC_cond, WPu, Bool.false_eq_true, Bool.true_eq_false, Bool.not_true, Bool.not_false, if_true, if_false, ite_true, ite_false, Nat.reduceEqDiff, Nat.reduceLT, true_and, List.map_cons, List.map_nil, Nat.zero_add, Nat.reduceBEq, ↓WPed, WPeu, Nat.reduceAdd, and_self, faddr_ptr, load_cells ho, Cel.g0]
  refine calledW_of (rule_ok d σ1 c.k hk8) ?_
  rintro v σ2 ⟨rfl, g1⟩
  have ho2 := g1.get ho
  have fv : ∀ f : FuncId, fieldV 0 1 false (.agg [.func f [] []]) = some (.func f [] []) := fun f => rfl
  simp -dsimp only [↓WPd, ↓wpC_block, ↓wpC_cond, WPu, Bool.false_eq_true, Bool.true_eq_false, Bool.not_true, Bool.not_false, if_true, if_false, ite_true, ite_false, Nat.reduceEqDiff, Nat.reduceLT, true_and, List.map_cons, List.map_nil, Nat.zero_add, Nat.reduceBEq, ↓WPed, WPeu, Nat.reduceAdd, and_self, fv, cell_load ho, cell_load ho2]
  refine calledW_of (law_ok d σ2 c hs) ?_
  rintro v σ3 ⟨rfl, g3⟩
  simp -dsimp only [↓WPd, ↓wpC_block, ↓wpC_cond, WPu, Bool.false_eq_true, Bool.true_eq_false, Bool.not_true, Bool.not_false, if_true, if_false, ite_true, ite_false, Nat.reduceEqDiff, Nat.reduceLT, true_and, List.map_cons, List.map_nil, Nat.zero_add, Nat.reduceBEq, ↓WPed, WPeu, Nat.reduceAdd, and_self]
  exact (g0.trans g1).trans g3
theorem cel_get (t : List Cel) (i : Nat) (h : i < (t.map Cel.val).length) : (t.map Cel.val)[i] = (t[i]'(by simpa using h)).val := by simp
theorem cindex_ok (f : FuncId) (p : Cel → Bool) (l : AVal) (t : List Cel) (hx : t.length < 2 ^ 40) (hl : SlOf σ 5 l (t.map Cel.val)) (hf : ∀ (c : Cel) (σ' : Store), c ∈ t → Called CU.cfg d f [c.val] σ' fun v σ'' => v = .bool (p c) ∧ Grows σ' σ'') :
    Called CU.cfg d 152 [l, .func f [] []] σ fun v σ' => (∃ i : Int, v = .int .i64 i ∧ (decide (0 ≤ i)) = t.any p) ∧ Grows σ σ' := by
  refine called_of (fn := CU.a152) rfl (Nat.le_of_ble_eq_true rfl) ?_
  have ll := hl.len
  rw [List.length_map] at ll
  simp only [CU.a152]
  simp -dsimp only [↓WPd, ↓wpC_block, ↓wpC_cond, WPu, Bool.false_eq_true, Bool.true_eq_false, Bool.not_true, Bool.not_false, if_true, if_false, ite_true, ite_false, Nat.reduceEqDiff, Nat.reduceLT, true_and, List.map_cons, List.map_nil, Nat.zero_add, Nat.reduceBEq, ll]
  refine loop_rule2 (fun m vs σ' => ∃ k, k ≤ t.length ∧ m = t.length - k ∧ vs = [l, .func f [] [], .int .i64 t.length, .int .i64 k] ∧ Grows σ σ' ∧ ∀ (j : Nat) (hj : j < t.length), j < k → p t[j] = false) [4]
    (fun e vs σ' => Grows σ σ' ∧ ((e = .exit 0 ∧ t.any p = false) ∨ (e = .ret ∧ t.any p = true ∧ ∃ k : Nat, vs = [.int .i64 k]))) t.length ⟨0, Nat.zero_le _, rfl, ?_, Keeps.refl _ _, fun j _ h => by omega⟩ ?_ ?_
  · simp -dsimp only [↓WPd, ↓wpC_block, ↓wpC_cond, WPu, Bool.false_eq_true, Bool.true_eq_false, Bool.not_true, Bool.not_false, if_true, if_false, ite_true, ite_false, Nat.reduceEqDiff, Nat.reduceLT, true_and, List.map_cons, List.map_nil, Nat.zero_add, Nat.reduceBEq]; rfl
  · rintro m vs σ' ⟨k, hk, rfl, rfl, g, hall⟩
    simp -dsimp only [↓WPd, ↓wpC_block, ↓wpC_cond, WPu, Bool.false_eq_true, Bool.true_eq_false, Bool.not_true, Bool.not_false, if_true, if_false, ite_true, ite_false, Nat.reduceEqDiff, Nat.reduceLT, true_and, List.map_cons, List.map_nil, Nat.zero_add, Nat.reduceBEq]
    refine condP_dec (fun h => ?_) (fun h => ?_)
    · have hk' : k < t.length := by omega
      have hi : k < (t.map Cel.val).length := by rw [List.length_map]; exact hk'
      have hl' := hl.grow g
      have ha := hl'.loadA hi (cs := (t[k]).cs) (by rw [cel_get]; rfl)
      have ha5 : loadV σ' 5 true (addrOf 5 l k) = some (t[k]).val := ha
      simp -dsimp only [↓WPd, ↓wpC_block, ↓wpC_cond, WPu, Bool.false_eq_true, Bool.true_eq_false, Bool.not_true, Bool.not_false, if_true, if_false, ite_true, ite_false, Nat.reduceEqDiff, Nat.reduceLT, true_and, List.map_cons, List.map_nil, Nat.zero_add, Nat.reduceBEq, hl'.iaddr hi, ha5]
      refine calledW_of (hf t[k] σ' (List.getElem_mem _)) ?_
      rintro v σ'' ⟨rfl, g2⟩
      simp -dsimp only [↓WPd, ↓wpC_block, ↓wpC_cond, WPu, Bool.false_eq_true, Bool.true_eq_false, Bool.not_true, Bool.not_false, if_true, if_false, ite_true, ite_false, Nat.reduceEqDiff, Nat.reduceLT, true_and, List.map_cons, List.map_nil, Nat.zero_add, Nat.reduceBEq]
      refine condP_intro (fun h => ?_) (fun h => ?_)
      · simp -dsimp only [↓WPd, ↓wpC_block, ↓wpC_cond, WPu, Bool.false_eq_true, Bool.true_eq_false, Bool.not_true, Bool.not_false, if_true, if_false, ite_true, ite_false, Nat.reduceEqDiff, Nat.reduceLT, true_and, List.map_cons, List.map_nil, Nat.zero_add, Nat.reduceBEq]
        exact ⟨g.trans g2, .inr ⟨by rw [List.any_eq_true]; exact ⟨_, List.getElem_mem _, h⟩, k, rfl⟩⟩
      · simp -dsimp only [↓WPd, ↓wpC_block, ↓wpC_cond, WPu, Bool.false_eq_true, Bool.true_eq_false, Bool.not_true, Bool.not_false, if_true, if_false, ite_true, ite_false, Nat.reduceEqDiff, Nat.reduceLT, true_and, List.map_cons, List.map_nil, Nat.zero_add, Nat.reduceBEq]
        refine ⟨t.length - (k + 1), by omega, k + 1, by omega, rfl, by rw [wrap_i64 (by omega) (by omega), Int.natCast_add, Int.natCast_one], g.trans g2, fun j hj hjk => ?_⟩
        by_cases e : j = k
        · subst e; exact h
        · exact hall j hj (by omega)
    · simp -dsimp only [↓WPd, ↓wpC_block, ↓wpC_cond, WPu, Bool.false_eq_true, Bool.true_eq_false, Bool.not_true, Bool.not_false, if_true, if_false, ite_true, ite_false, Nat.reduceEqDiff, Nat.reduceLT, true_and, List.map_cons, List.map_nil, Nat.zero_add, Nat.reduceBEq]
      refine ⟨g, .inl ?_⟩
      rw [List.any_eq_false]
      intro x hx
      obtain ⟨j, hj, rfl⟩ := List.getElem_of_mem hx
      rw [hall j hj (by omega)]; simp
  · rintro e σ' env ⟨g, ⟨rfl, hno⟩ | ⟨rfl, hyes, k, hv⟩⟩
    · simp -dsimp only [↓WPd, ↓wpC_block, ↓wpC_cond, WPu, Bool.false_eq_true, Bool.true_eq_false, Bool.not_true, Bool.not_false, if_true, if_false, ite_true, ite_false, Nat.reduceEqDiff, Nat.reduceLT, true_and, List.map_cons, List.map_nil, Nat.zero_add, Nat.reduceBEq]
      exact ⟨⟨_, rfl, by rw [hno]; rfl⟩, g⟩
    · simp only [List.map_cons, List.map_nil, List.cons.injEq, and_true] at hv
      simp -dsimp only [↓WPd, ↓wpC_block, ↓wpC_cond, WPu, Bool.false_eq_true, Bool.true_eq_false, Bool.not_true, Bool.not_false, if_true, if_false, ite_true, ite_false, Nat.reduceEqDiff, Nat.reduceLT, true_and, List.map_cons, List.map_nil, Nat.zero_add, Nat.reduceBEq, hv]
      exact ⟨⟨_, rfl, by rw [hyes]; simp⟩, g⟩
theorem ccontains_ok (f : FuncId) (p : Cel → Bool) (l : AVal) (t : List Cel) (hx : t.length < 2 ^ 40) (hl : SlOf σ 5 l (t.map Cel.val)) (hf : ∀ (c : Cel) (σ' : Store), c ∈ t → Called CU.cfg d f [c.val] σ' fun v σ'' => v = .bool (p c) ∧ Grows σ' σ'') :
    Called CU.cfg d 114 [l, .func f [] []] σ fun v σ' => v = .bool (t.any p) ∧ Grows σ σ' := by
  refine called_of (fn := CU.a114) rfl (Nat.le_of_ble_eq_true rfl) ?_
  simp only [CU.a114]
  simp -dsimp only [↓WPd, ↓wpC_block, ↓wpC_cond, WPu, Bool.false_eq_true, Bool.true_eq_false, Bool.not_true, Bool.not_false, if_true, if_false, ite_true, ite_false, Nat.reduceEqDiff, Nat.reduceLT, true_and, List.map_cons, List.map_nil, Nat.zero_add, Nat.reduceBEq]
  refine calledW_of (cindex_ok d σ f p l t hx hl hf) ?_
  rintro v σ1 ⟨⟨i, rfl, hi⟩, g⟩
  simp -dsimp only [↓WPd, ↓wpC_block, ↓wpC_cond, WPu, Bool.false_eq_true, Bool.true_eq_false, Bool.not_true, Bool.not_false, if_true, if_false, ite_true, ite_false, Nat.reduceEqDiff, Nat.reduceLT, true_and, List.map_cons, List.map_nil, Nat.zero_add, Nat.reduceBEq]
  have : decide (i ≥ 0) = t.any p := hi
  rw [this]
  exact ⟨rfl, g⟩
end
end Go.Proofs.YtkjnanfkclijcaaDoor.Am

namespace Go.Proofs.YtkjnanfkclijcaaDoor.Am
open Go
set_option linter.unusedVariables false
set_option linter.unusedSimpArgs false
set_option linter.unusedSectionVars false
set_option maxRecDepth 100000
def endT (t : List Cel) (a : Nat) : Nat := if a < t.length then endAt t.length (t.drop a) 1 a else 0
theorem endAt_get {L : Nat} {t : List Cel} {a o : Nat} (h : a < t.length) : endAt L (t.drop a) (o + 1) a = if L < (t[a]).parts then 0 else endAt L (t.drop (a + 1)) (o + (t[a]).parts) (a + 1) := by
  rw [List.drop_eq_getElem_cons h, endAt_cons]
theorem endAt_out {L : Nat} {t : List Cel} {a o : Nat} (h : t.length ≤ a) : endAt L (t.drop a) (o + 1) a = 0 := by
  rw [List.drop_eq_nil_of_le h, endAt_nil]
section
variable (d : Nat) (σ : Store)
theorem parts_ok (c : Cel) : Called CU.cfg d 151 [c.val] σ fun v σ' => v = .int .i64 (c.parts : Int) ∧ Grows σ σ' := by
  refine called_of (fn := CU.a151) rfl (Nat.le_of_ble_eq_true rfl) ?_
  simp only [CU.a151]
  simp -dsimp only [↓WPd, ↓wpC_block, ↓wpC_cond, WPu, Bool.false_eq_true, Bool.true_eq_false, Bool.not_true, Bool.not_false, if_true, if_false, ite_true, ite_false, Nat.reduceEqDiff, Nat.reduceLT, true_and, List.map_cons, List.map_nil, Nat.zero_add, Nat.reduceBEq, Cel.cells, Cel.one]
  have ho : (σ ++ [AObj.cells c.cs])[σ.length]? = some (.cells c.cs) := by simp
  have g0 : Grows σ (σ ++ [AObj.cells c.cs]) := Grows.app _ _
  generalize σ ++ [AObj.cells c.cs] = σ1 at ho g0
  have hm : foldV maxV (.int .i64 c.n) [.int .i64 0] = some (.int .i64 (c.n.toNat : Int)) := by
    by_cases h : c.n < 0
    · simp [foldV, maxV]; omega
    · simp [foldV, maxV]; omega
  have key : ((c.k : Int) != 3) = !decide (c.k = 3) := by
    by_cases h : c.k = 3 <;> simp [h, bne] <;> omega
  simp -dsimp only [↓WPd, ↓wpC_block, ↓wpC_cond, WPu, Bool.false_eq_true, Bool.true_eq_false, Bool.not_true, Bool.not_false, if_true, if_false, ite_true, ite_false, Nat.reduceEqDiff, Nat.reduceLT, true_and, List.map_cons, List.map_nil, Nat.zero_add, Nat.reduceBEq, WPm, faddr_ptr, load_cells ho, Cel.g0, Cel.g2, key]
  refine condP_intro (fun h => ?_) (fun h => ?_)
  · have : c.parts = 0 := by simp only [Bool.not_eq_true', decide_eq_false_iff_not] at h; simp [Cel.parts, h]
    simp -dsimp only [↓WPd, ↓wpC_block, ↓wpC_cond, WPu, Bool.false_eq_true, Bool.true_eq_false, Bool.not_true, Bool.not_false, if_true, if_false, ite_true, ite_false, Nat.reduceEqDiff, Nat.reduceLT, true_and, List.map_cons, List.map_nil, Nat.zero_add, Nat.reduceBEq, this]
    exact ⟨rfl, g0⟩
  · have : c.parts = c.n.toNat := by simp only [Bool.not_eq_false', decide_eq_true_eq] at h; simp [Cel.parts, h]
    simp -dsimp only [↓WPd, ↓wpC_block, ↓wpC_cond, WPu, Bool.false_eq_true, Bool.true_eq_false, Bool.not_true, Bool.not_false, if_true, if_false, ite_true, ite_false, Nat.reduceEqDiff, Nat.reduceLT, true_and, List.map_cons, List.map_nil, Nat.zero_add, Nat.reduceBEq, faddr_ptr, load_cells ho, Cel.g0, Cel.g2, this, hm]
    exact g0
theorem end_ok (l : AVal) (t : List Cel) (a : Nat) (hx : t.length < 2 ^ 30) (hl : SlOf σ 5 l (t.map Cel.val)) : Called CU.cfg d 113 [l, .int .i64 a] σ fun v σ' => v = .int .i64 (endT t a : Int) ∧ Grows σ σ' := by
  refine called_of (fn := CU.a113) rfl (Nat.le_of_ble_eq_true rfl) ?_
  have ll := hl.len
  rw [List.length_map] at ll
  simp only [CU.a113]
  have w0 : lenSV l = some t.length := ll
  simp -dsimp only [↓WPd, ↓wpC_block, ↓wpC_cond, WPu, Bool.false_eq_true, Bool.true_eq_false, Bool.not_true, Bool.not_false, if_true, if_false, ite_true, ite_false, Nat.reduceEqDiff, Nat.reduceLT, true_and, List.map_cons, List.map_nil, Nat.zero_add, Nat.reduceBEq, WPm, ll]
  have key : (decide ((a : Int) < 0) || decide ((a : Int) ≥ (t.length : Int))) = !decide (a < t.length) := by
    rw [Bool.eq_iff_iff]; simp; omega
  rw [key]
  refine condP_intro (fun h => ?_) (fun h => ?_)
  · have : endT t a = 0 := by simp only [Bool.not_eq_true', decide_eq_false_iff_not] at h; simp [endT, h]
    simp -dsimp only [↓WPd, ↓wpC_block, ↓wpC_cond, WPu, Bool.false_eq_true, Bool.true_eq_false, Bool.not_true, Bool.not_false, if_true, if_false, ite_true, ite_false, Nat.reduceEqDiff, Nat.reduceLT, true_and, List.map_cons, List.map_nil, Nat.zero_add, Nat.reduceBEq, this]
    exact ⟨rfl, Keeps.refl _ _⟩
  · simp only [Bool.not_eq_false', decide_eq_true_eq] at h
    have hend : endT t a = endAt t.length (t.drop a) 1 a := by simp [endT, h]
    simp -dsimp only [↓WPd, ↓wpC_block, ↓wpC_cond, WPu, Bool.false_eq_true, Bool.true_eq_false, Bool.not_true, Bool.not_false, if_true, if_false, ite_true, ite_false, Nat.reduceEqDiff, Nat.reduceLT, true_and, List.map_cons, List.map_nil, Nat.zero_add, Nat.reduceBEq]
    refine loop_rule2 (fun m vs σ' => ∃ k o : Nat, k ≤ t.length ∧ m = t.length + 1 - k ∧ vs = [l, .int .i64 k, .int .i64 o] ∧ Grows σ σ' ∧ endAt t.length (t.drop k) o k = endT t a ∧ o ≤ 1 + k * t.length ∧ 0 < k + o) [1, 4]
      (fun e vs σ' => Grows σ σ' ∧ ((e = .exit 0 ∧ ∃ x, vs = [.int .i64 (endT t a : Int), x]) ∨ (e = .ret ∧ (∃ x, vs = [x, .int .i64 (endT t a : Int)])))) (t.length + 1 - a) ⟨a, 1, by omega, rfl, ?_, Keeps.refl _ _, hend.symm, by omega, by omega⟩ ?_ ?_
    · simp -dsimp only [↓WPd, ↓wpC_block, ↓wpC_cond, WPu, Bool.false_eq_true, Bool.true_eq_false, Bool.not_true, Bool.not_false, if_true, if_false, ite_true, ite_false, Nat.reduceEqDiff, Nat.reduceLT, true_and, List.map_cons, List.map_nil, Nat.zero_add, Nat.reduceBEq]; rfl
    · rintro m vs σ' ⟨k, o, hk, rfl, rfl, g, he, ho, hko⟩
      have hmul : k * t.length ≤ 2 ^ 60 := by
        calc k * t.length ≤ 2 ^ 30 * 2 ^ 30 := Nat.mul_le_mul (by omega) (by omega)
          _ = 2 ^ 60 := by decide
      simp -dsimp only [↓WPd, ↓wpC_block, ↓wpC_cond, WPu, Bool.false_eq_true, Bool.true_eq_false, Bool.not_true, Bool.not_false, if_true, if_false, ite_true, ite_false, Nat.reduceEqDiff, Nat.reduceLT, true_and, List.map_cons, List.map_nil, Nat.zero_add, Nat.reduceBEq]
      refine condP_dec (fun h => ?_) (fun h => ?_)
      · obtain ⟨o, rfl⟩ : ∃ o', o = o' + 1 := ⟨o - 1, by omega⟩
        have ke : ((k : Int) == (t.length : Int)) = decide (k = t.length) := by
          by_cases h : k = t.length <;> simp [h] <;> omega
        have ll' := (hl.grow g).len
        rw [List.length_map] at ll'
        simp -dsimp only [↓WPd, ↓wpC_block, ↓wpC_cond, WPu, Bool.false_eq_true, Bool.true_eq_false, Bool.not_true, Bool.not_false, if_true, if_false, ite_true, ite_false, Nat.reduceEqDiff, Nat.reduceLT, true_and, List.map_cons, List.map_nil, Nat.zero_add, Nat.reduceBEq, ll', ke]
        by_cases hkl : k = t.length
        · have hz : endT t a = 0 := by rw [← he, endAt_out (by omega)]
          simp -dsimp only [↓WPd, ↓wpC_block, ↓wpC_cond, WPu, Bool.false_eq_true, Bool.true_eq_false, Bool.not_true, Bool.not_false, if_true, if_false, ite_true, ite_false, Nat.reduceEqDiff, Nat.reduceLT, true_and, List.map_cons, List.map_nil, Nat.zero_add, Nat.reduceBEq, WPm, decide_eq_true hkl]
          exact ⟨g, .inr ⟨_, by rw [hz]; rfl⟩⟩
        · have hk' : k < t.length := by omega
          have hi : k < (t.map Cel.val).length := by rw [List.length_map]; exact hk'
          have hl' := hl.grow g
          have ha5 : loadV σ' 5 true (addrOf 5 l k) = some (t[k]).val := hl'.loadA hi (cs := (t[k]).cs) (by rw [cel_get]; rfl)
          simp -dsimp only [↓WPd, ↓wpC_block, ↓wpC_cond, WPu, Bool.false_eq_true, Bool.true_eq_false, Bool.not_true, Bool.not_false, if_true, if_false, ite_true, ite_false, Nat.reduceEqDiff, Nat.reduceLT, true_and, List.map_cons, List.map_nil, Nat.zero_add, Nat.reduceBEq, decide_eq_false hkl, hl'.iaddr hi, ha5]
          refine calledW_of (parts_ok d σ' t[k]) ?_
          rintro v σ2 ⟨rfl, g2⟩
          have ll2 := (hl'.grow g2).len
          rw [List.length_map] at ll2
          have hl2 := hl'.grow g2
          have ha2 : loadV σ2 5 true (addrOf 5 l k) = some (t[k]).val := hl2.loadA hi (cs := (t[k]).cs) (by rw [cel_get]; rfl)
          simp -dsimp only [↓WPd, ↓wpC_block, ↓wpC_cond, WPu, Bool.false_eq_true, Bool.true_eq_false, Bool.not_true, Bool.not_false, if_true, if_false, ite_true, ite_false, Nat.reduceEqDiff, Nat.reduceLT, true_and, List.map_cons, List.map_nil, Nat.zero_add, Nat.reduceBEq, ll2]
          rw [endAt_get hk'] at he
          refine condP_dec (fun h2 => ?_) (fun h2 => ?_)
          · rw [if_pos (by omega)] at he
            simp -dsimp only [↓WPd, ↓wpC_block, ↓wpC_cond, WPu, Bool.false_eq_true, Bool.true_eq_false, Bool.not_true, Bool.not_false, if_true, if_false, ite_true, ite_false, Nat.reduceEqDiff, Nat.reduceLT, true_and, List.map_cons, List.map_nil, Nat.zero_add, Nat.reduceBEq]
            exact ⟨g.trans g2, .inr ⟨_, by rw [← he]; rfl⟩⟩
          · rw [if_neg (by omega)] at he
            simp -dsimp only [↓WPd, ↓wpC_block, ↓wpC_cond, WPu, Bool.false_eq_true, Bool.true_eq_false, Bool.not_true, Bool.not_false, if_true, if_false, ite_true, ite_false, Nat.reduceEqDiff, Nat.reduceLT, true_and, List.map_cons, List.map_nil, Nat.zero_add, Nat.reduceBEq, hl2.iaddr hi, ha2]
            refine calledW_of (parts_ok d σ2 t[k]) ?_
            rintro v σ3 ⟨rfl, g3⟩
            have hp : (t[k]).parts ≤ t.length := by omega
            have hm2 : (k + 1) * t.length = k * t.length + t.length := by rw [Nat.add_mul, Nat.one_mul]
            have w1 : IntKind.i64.wrap (((t[k]).parts : Int) - 1) = ((t[k]).parts : Int) - 1 := wrap_i64 (by omega) (by omega)
            have w2 : IntKind.i64.wrap (((o + 1 : Nat) : Int) + (((t[k]).parts : Int) - 1)) = ((o + (t[k]).parts : Nat) : Int) := by rw [wrap_i64 (by omega) (by omega)]; omega
            have w3 : IntKind.i64.wrap ((k : Int) + 1) = ((k + 1 : Nat) : Int) := by rw [wrap_i64 (by omega) (by omega)]; omega
            simp -dsimp only [↓WPd, ↓wpC_block, ↓wpC_cond, WPu, Bool.false_eq_true, Bool.true_eq_false, Bool.not_true, Bool.not_false, if_true, if_false, ite_true, ite_false, Nat.reduceEqDiff, Nat.reduceLT, true_and, List.map_cons, List.map_nil, Nat.zero_add, Nat.reduceBEq, w1, w2, w3]
            exact ⟨t.length + 1 - (k + 1), by omega, k + 1, o + (t[k]).parts, by omega, rfl, rfl, (g.trans g2).trans g3, he, by omega, by omega⟩
      · have : o = 0 := by omega
        subst this
        rw [endAt_zero] at he
        simp -dsimp only [↓WPd, ↓wpC_block, ↓wpC_cond, WPu, Bool.false_eq_true, Bool.true_eq_false, Bool.not_true, Bool.not_false, if_true, if_false, ite_true, ite_false, Nat.reduceEqDiff, Nat.reduceLT, true_and, List.map_cons, List.map_nil, Nat.zero_add, Nat.reduceBEq]
        exact ⟨g, .inl ⟨_, by rw [← he]⟩⟩
    · rintro e σ' env ⟨g, ⟨rfl, x, hv⟩ | ⟨rfl, x, hv⟩⟩
      · simp only [List.map_cons, List.map_nil, List.cons.injEq, and_true] at hv
        simp -dsimp only [↓WPd, ↓wpC_block, ↓wpC_cond, WPu, Bool.false_eq_true, Bool.true_eq_false, Bool.not_true, Bool.not_false, if_true, if_false, ite_true, ite_false, Nat.reduceEqDiff, Nat.reduceLT, true_and, List.map_cons, List.map_nil, Nat.zero_add, Nat.reduceBEq, hv]
        exact g
      · simp only [List.map_cons, List.map_nil, List.cons.injEq, and_true] at hv
        simp -dsimp only [↓WPd, ↓wpC_block, ↓wpC_cond, WPu, Bool.false_eq_true, Bool.true_eq_false, Bool.not_true, Bool.not_false, if_true, if_false, ite_true, ite_false, Nat.reduceEqDiff, Nat.reduceLT, true_and, List.map_cons, List.map_nil, Nat.zero_add, Nat.reduceBEq, hv]
        exact g
theorem endT_zero {t : List Cel} (h : t ≠ []) : endT t 0 = endAt t.length t 1 0 := by
  have := List.length_pos_iff.2 h
  simp [endT, this]
theorem right_eq (t : List Cel) : right t = (!(decide (t.length = 0) || decide (256 < t.length) || decide (endT t 0 ≠ t.length)) && !(t.any fun c => !c.ok)) := by
  cases t with
  | nil => rfl
  | cons c r =>
    rw [endT_zero (by simp), Bool.eq_iff_iff]
    simp [right]
    first
      | done
      | (intros; omega)
      | (constructor <;> intro h <;> simp_all <;> omega)
theorem right_ok (l : AVal) (t : List Cel) (hx : t.length < 2 ^ 30) (hi : ∀ c ∈ t, c.k < 256 ∧ c.s.length < 2 ^ 40) (hl : SlOf σ 5 l (t.map Cel.val)) : Called CU.cfg d 60 [l] σ fun v σ' => v = .bool (right t) ∧ Grows σ σ' := by
  refine called_of (fn := CU.a60) rfl (Nat.le_of_ble_eq_true rfl) ?_
  have ll := hl.len
  rw [List.length_map] at ll
  simp only [CU.a60]
  have k0 : ((t.length : Int) == 0) = decide (t.length = 0) := by by_cases h : t.length = 0 <;> simp [h]
  have k1 : decide ((t.length : Int) > 256) = decide (256 < t.length) := decide_eq_decide.2 (by omega)
  simp -dsimp only [↓WPd, ↓wpC_block, ↓wpC_cond, WPu, Bool.false_eq_true, Bool.true_eq_false, Bool.not_true, Bool.not_false, if_true, if_false, ite_true, ite_false, Nat.reduceEqDiff, Nat.reduceLT, true_and, List.map_cons, List.map_nil, Nat.zero_add, Nat.reduceBEq, WPm, ll, k0, k1]
  rw [right_eq]
  generalize hb : (decide (t.length = 0) || decide (256 < t.length)) = b
  cases b
  · simp -dsimp only [↓WPd, ↓wpC_block, ↓wpC_cond, WPu, Bool.false_eq_true, Bool.true_eq_false, Bool.not_true, Bool.not_false, if_true, if_false, ite_true, ite_false, Nat.reduceEqDiff, Nat.reduceLT, true_and, List.map_cons, List.map_nil, Nat.zero_add, Nat.reduceBEq, WPm]
    refine calledW_of (end_ok d σ l t 0 hx hl) ?_
    rintro v σ1 ⟨rfl, g⟩
    have hl1 := hl.grow g
    have ll1 := hl1.len
    rw [List.length_map] at ll1
    have k2 : (((endT t 0 : Nat) : Int) != (t.length : Int)) = decide (endT t 0 ≠ t.length) := by by_cases h : endT t 0 = t.length <;> simp [h, bne] <;> omega
    simp -dsimp only [↓WPd, ↓wpC_block, ↓wpC_cond, WPu, Bool.false_eq_true, Bool.true_eq_false, Bool.not_true, Bool.not_false, if_true, if_false, ite_true, ite_false, Nat.reduceEqDiff, Nat.reduceLT, true_and, List.map_cons, List.map_nil, Nat.zero_add, Nat.reduceBEq, WPm, ll1, k2]
    generalize hq : decide (endT t 0 ≠ t.length) = q
    cases q
    · simp -dsimp only [↓WPd, ↓wpC_block, ↓wpC_cond, WPu, Bool.false_eq_true, Bool.true_eq_false, Bool.not_true, Bool.not_false, if_true, if_false, ite_true, ite_false, Nat.reduceEqDiff, Nat.reduceLT, true_and, List.map_cons, List.map_nil, Nat.zero_add, Nat.reduceBEq, WPm]
      refine calledW_of (ccontains_ok d σ1 _ (fun c => !c.ok) l t (by omega) hl1 fun c σ' hc => wrong_ok d σ' c (hi c hc).1 (hi c hc).2) ?_
      rintro v σ2 ⟨rfl, g2⟩
      simp -dsimp only [↓WPd, ↓wpC_block, ↓wpC_cond, WPu, Bool.false_eq_true, Bool.true_eq_false, Bool.not_true, Bool.not_false, if_true, if_false, ite_true, ite_false, Nat.reduceEqDiff, Nat.reduceLT, true_and, List.map_cons, List.map_nil, Nat.zero_add, Nat.reduceBEq, WPm, Bool.or_false, Bool.true_and]
      exact g.trans g2
    · simp -dsimp only [↓WPd, ↓wpC_block, ↓wpC_cond, WPu, Bool.false_eq_true, Bool.true_eq_false, Bool.not_true, Bool.not_false, if_true, if_false, ite_true, ite_false, Nat.reduceEqDiff, Nat.reduceLT, true_and, List.map_cons, List.map_nil, Nat.zero_add, Nat.reduceBEq, WPm, Bool.or_true, Bool.false_and]
      exact g
  · simp -dsimp only [↓WPd, ↓wpC_block, ↓wpC_cond, WPu, Bool.false_eq_true, Bool.true_eq_false, Bool.not_true, Bool.not_false, if_true, if_false, ite_true, ite_false, Nat.reduceEqDiff, Nat.reduceLT, true_and, List.map_cons, List.map_nil, Nat.zero_add, Nat.reduceBEq, WPm, Bool.true_or, Bool.false_and]
    exact Keeps.refl _ _
end
end Go.Proofs.YtkjnanfkclijcaaDoor.Am

namespace Go.Proofs.YtkjnanfkclijcaaDoor.Am
open Go
set_option linter.unusedVariables false
set_option linter.unusedSimpArgs false
set_option linter.unusedSectionVars false
set_option maxRecDepth 100000
section
variable (d : Nat) (σ : Store)
theorem int_beq (a b : Int) : (a == b) = decide (a = b) := by by_cases h : a = b <;> simp [h]
theorem nil_text (s : List UInt8) : sopV .eql (.str s) (.str []) = some (.bool (decide (s = []))) := by cases s <;> simp [sopV]
set_option maxHeartbeats 1000000 in
theorem cell_ok (c : Cel) : Called CU.cfg d 117 [c.val] σ fun v σ' => v = .bool c.ok ∧ Grows σ σ' := by
  refine called_of (fn := CU.a117) rfl (Nat.le_of_ble_eq_true rfl) ?_
  simp only [CU.a117]
  simp -dsimp only [↓WPd, ↓wpC_block, ↓wpC_cond, WPu, Bool.false_eq_true, Bool.true_eq_false, Bool.not_true, Bool.not_false, if_true, if_false, ite_true, ite_false, Nat.reduceEqDiff, Nat.reduceLT, true_and, List.map_cons, List.map_nil, Nat.zero_add, Nat.reduceBEq, Cel.cells, Cel.one]
  have ho : (σ ++ [AObj.cells c.cs])[σ.length]? = some (.cells c.cs) := by simp
  have g0 : Grows σ (σ ++ [AObj.cells c.cs]) := Grows.app _ _
  generalize σ ++ [AObj.cells c.cs] = σ1 at ho g0
  have l2 : loadV σ1 2 true (.ptr σ.length 3) = some (.agg [.int .i64 c.v.1, .int .i64 c.v.2]) := by simp [loadV, behind, ho, Cel.cs]
  have hz : fillA [AVal.int IntKind.i64 0, AVal.int IntKind.i64 0] [] = some [.int .i64 0, .int .i64 0] := rfl
  have he : eqsV [.i, .i] (.agg [.int .i64 c.v.1, .int .i64 c.v.2]) (.agg [.int .i64 0, .int .i64 0]) = some (decide (c.v = (0, 0))) := by
    simp [eqsV, cellsEq]
    rw [Bool.eq_iff_iff]
    simp
    constructor
    · intro h; exact Prod.ext h.1 h.2
    · intro h; rw [h]; exact ⟨rfl, rfl⟩
  have kq : ∀ j : Nat, ((c.k : Int) == (j : Int)) = decide (c.k = j) := by
    intro j
    by_cases h : c.k = j <;> simp [h] <;> omega
  have k1 : ((c.k : Int) == 1) = decide (c.k = 1) := kq 1
  have k2 : ((c.k : Int) == 2) = decide (c.k = 2) := kq 2
  have k3 : ((c.k : Int) == 3) = decide (c.k = 3) := kq 3
  have k4 : ((c.k : Int) == 4) = decide (c.k = 4) := kq 4
  simp -dsimp only [↓WPd, ↓wpC_block, ↓wpC_cond, WPu, Bool.false_eq_true, Bool.true_eq_false, Bool.not_true, Bool.not_false, if_true, if_false, ite_true, ite_false, Nat.reduceEqDiff, Nat.reduceLT, true_and, List.map_cons, List.map_nil, Nat.zero_add, Nat.reduceBEq, WPm, faddr_ptr, Nat.reduceAdd, Nat.add_zero, load_cells ho, Cel.g0, Cel.g1, Cel.g2, Cel.g3, Cel.g4, l2, hz, he, k1]
  refine condP_dec (fun h1 => ?_) (fun h1 => ?_)
  · have hok : c.ok = (decide (c.s = []) && decide (c.v = (0, 0)) && decide (c.n ≥ -2147483648) && decide (c.n ≤ 2147483648)) := by simp [Cel.ok, h1]
    simp -dsimp only [↓WPd, ↓wpC_block, ↓wpC_cond, WPu, Bool.false_eq_true, Bool.true_eq_false, Bool.not_true, Bool.not_false, if_true, if_false, ite_true, ite_false, Nat.reduceEqDiff, Nat.reduceLT, true_and, List.map_cons, List.map_nil, Nat.zero_add, Nat.reduceBEq, WPm, faddr_ptr, Nat.reduceAdd, Nat.add_zero, load_cells ho, Cel.g0, Cel.g1, Cel.g2, Cel.g3, Cel.g4, nil_text]
    rw [hok]
    exact ⟨rfl, g0⟩
  simp -dsimp only [↓WPd, ↓wpC_block, ↓wpC_cond, WPu, Bool.false_eq_true, Bool.true_eq_false, Bool.not_true, Bool.not_false, if_true, if_false, ite_true, ite_false, Nat.reduceEqDiff, Nat.reduceLT, true_and, List.map_cons, List.map_nil, Nat.zero_add, Nat.reduceBEq, k2]
  refine condP_dec (fun h2 => ?_) (fun h2 => ?_)
  · have hok : c.ok = (isName c.s && decide (c.v = (0, 0)) && (c.n == 0)) := by simp [Cel.ok, h2, int_beq]
    simp -dsimp only [↓WPd, ↓wpC_block, ↓wpC_cond, WPu, Bool.false_eq_true, Bool.true_eq_false, Bool.not_true, Bool.not_false, if_true, if_false, ite_true, ite_false, Nat.reduceEqDiff, Nat.reduceLT, true_and, List.map_cons, List.map_nil, Nat.zero_add, Nat.reduceBEq, WPm, faddr_ptr, load_cells ho, Cel.g0, Cel.g1, Cel.g2, Cel.g3, Cel.g4, nil_text]
    refine calledW_of (risname_ok d σ1 c.s) ?_
    rintro v σ2 ⟨rfl, rfl⟩
    simp -dsimp only [↓WPd, ↓wpC_block, ↓wpC_cond, WPu, Bool.false_eq_true, Bool.true_eq_false, Bool.not_true, Bool.not_false, if_true, if_false, ite_true, ite_false, Nat.reduceEqDiff, Nat.reduceLT, true_and, List.map_cons, List.map_nil, Nat.zero_add, Nat.reduceBEq, WPm, faddr_ptr, load_cells ho, Cel.g0, Cel.g1, Cel.g2, Cel.g3, Cel.g4, nil_text]
    rw [hok]
    exact ⟨rfl, g0⟩
  simp -dsimp only [↓WPd, ↓wpC_block, ↓wpC_cond, WPu, Bool.false_eq_true, Bool.true_eq_false, Bool.not_true, Bool.not_false, if_true, if_false, ite_true, ite_false, Nat.reduceEqDiff, Nat.reduceLT, true_and, List.map_cons, List.map_nil, Nat.zero_add, Nat.reduceBEq, k3]
  refine condP_dec (fun h3 => ?_) (fun h3 => ?_)
  · have hok : c.ok = (decide (c.v = (0, 0)) && ((isName c.s && decide (c.n ≥ 1) && decide (c.n ≤ 8)) || (signsL.contains c.s && (c.n == 2)))) := by simp [Cel.ok, h3, int_beq]
    rw [hok]
    generalize hb : decide (c.v = (0, 0)) = b at *
    cases b
    · simp -dsimp only [↓WPd, ↓wpC_block, ↓wpC_cond, WPu, Bool.false_eq_true, Bool.true_eq_false, Bool.not_true, Bool.not_false, if_true, if_false, ite_true, ite_false, Nat.reduceEqDiff, Nat.reduceLT, true_and, List.map_cons, List.map_nil, Nat.zero_add, Nat.reduceBEq, WPm, Bool.false_and]
      exact g0
    · simp -dsimp only [↓WPd, ↓wpC_block, ↓wpC_cond, WPu, Bool.false_eq_true, Bool.true_eq_false, Bool.not_true, Bool.not_false, if_true, if_false, ite_true, ite_false, Nat.reduceEqDiff, Nat.reduceLT, true_and, List.map_cons, List.map_nil, Nat.zero_add, Nat.reduceBEq, WPm, faddr_ptr, load_cells ho, Cel.g0, Cel.g1, Cel.g2, Cel.g3, Cel.g4, nil_text]
      refine calledW_of (risname_ok d σ1 c.s) ?_
      rintro v σ2 ⟨rfl, rfl⟩
      simp -dsimp only [↓WPd, ↓wpC_block, ↓wpC_cond, WPu, Bool.false_eq_true, Bool.true_eq_false, Bool.not_true, Bool.not_false, if_true, if_false, ite_true, ite_false, Nat.reduceEqDiff, Nat.reduceLT, true_and, List.map_cons, List.map_nil, Nat.zero_add, Nat.reduceBEq, WPm, faddr_ptr, load_cells ho, Cel.g0, Cel.g1, Cel.g2, Cel.g3, Cel.g4, nil_text]
      generalize hq : (isName c.s && decide (c.n ≥ 1) && decide (c.n ≤ 8)) = q
      cases q
      · simp -dsimp only [↓WPd, ↓wpC_block, ↓wpC_cond, WPu, Bool.false_eq_true, Bool.true_eq_false, Bool.not_true, Bool.not_false, if_true, if_false, ite_true, ite_false, Nat.reduceEqDiff, Nat.reduceLT, true_and, List.map_cons, List.map_nil, Nat.zero_add, Nat.reduceBEq, WPm, faddr_ptr, load_cells ho, Cel.g0, Cel.g1, Cel.g2, Cel.g3, Cel.g4, nil_text]
        refine calledW_of (issign_ok d σ2 c.s) ?_
        rintro v σ3 ⟨rfl, g3⟩
        have ho3 := g3.get ho
        simp -dsimp only [↓WPd, ↓wpC_block, ↓wpC_cond, WPu, Bool.false_eq_true, Bool.true_eq_false, Bool.not_true, Bool.not_false, if_true, if_false, ite_true, ite_false, Nat.reduceEqDiff, Nat.reduceLT, true_and, List.map_cons, List.map_nil, Nat.zero_add, Nat.reduceBEq, WPm, faddr_ptr, load_cells ho3, Cel.g0, Cel.g1, Cel.g2, Cel.g3, Cel.g4, nil_text, Bool.false_or, Bool.true_and]
        exact g0.trans g3
      · simp -dsimp only [↓WPd, ↓wpC_block, ↓wpC_cond, WPu, Bool.false_eq_true, Bool.true_eq_false, Bool.not_true, Bool.not_false, if_true, if_false, ite_true, ite_false, Nat.reduceEqDiff, Nat.reduceLT, true_and, List.map_cons, List.map_nil, Nat.zero_add, Nat.reduceBEq, WPm, Bool.true_or, Bool.true_and]
        exact g0
  simp -dsimp only [↓WPd, ↓wpC_block, ↓wpC_cond, WPu, Bool.false_eq_true, Bool.true_eq_false, Bool.not_true, Bool.not_false, if_true, if_false, ite_true, ite_false, Nat.reduceEqDiff, Nat.reduceLT, true_and, List.map_cons, List.map_nil, Nat.zero_add, Nat.reduceBEq, k4]
  refine condP_dec (fun h4 => ?_) (fun h4 => ?_)
  · have hok : c.ok = (decide (c.s = []) && (c.n == 0) && decide (c.v.1 ≥ -1) && decide (c.v.1 ≤ 3) && decide (c.v.2 ≥ 0)) := by simp [Cel.ok, h4, int_beq]
    simp -dsimp only [↓WPd, ↓wpC_block, ↓wpC_cond, WPu, Bool.false_eq_true, Bool.true_eq_false, Bool.not_true, Bool.not_false, if_true, if_false, ite_true, ite_false, Nat.reduceEqDiff, Nat.reduceLT, true_and, List.map_cons, List.map_nil, Nat.zero_add, Nat.reduceBEq, WPm, faddr_ptr, Nat.reduceAdd, Nat.add_zero, load_cells ho, Cel.g0, Cel.g1, Cel.g2, Cel.g3, Cel.g4, nil_text]
    rw [hok]
    exact ⟨rfl, g0⟩
  · have hok : c.ok = false := by simp [Cel.ok, h1, h2, h3, h4]
    simp -dsimp only [↓WPd, ↓wpC_block, ↓wpC_cond, WPu, Bool.false_eq_true, Bool.true_eq_false, Bool.not_true, Bool.not_false, if_true, if_false, ite_true, ite_false, Nat.reduceEqDiff, Nat.reduceLT, true_and, List.map_cons, List.map_nil, Nat.zero_add, Nat.reduceBEq]
    rw [hok]
    exact ⟨rfl, g0⟩
theorem rend_ok (l : AVal) (t : List Cel) (a : Nat) (hx : t.length < 2 ^ 30) (hl : SlOf σ 5 l (t.map Cel.val)) : Called CU.cfg d 118 [l, .int .i64 a] σ fun v σ' => v = .int .i64 (endT t a : Int) ∧ σ' = σ := by
  refine called_of (fn := CU.a118) rfl (Nat.le_of_ble_eq_true rfl) ?_
  have ll := hl.len
  rw [List.length_map] at ll
  simp only [CU.a118]
  simp -dsimp only [↓WPd, ↓wpC_block, ↓wpC_cond, WPu, Bool.false_eq_true, Bool.true_eq_false, Bool.not_true, Bool.not_false, if_true, if_false, ite_true, ite_false, Nat.reduceEqDiff, Nat.reduceLT, true_and, List.map_cons, List.map_nil, Nat.zero_add, Nat.reduceBEq, WPm, ll]
  have key : (decide ((a : Int) < 0) || decide ((a : Int) ≥ (t.length : Int))) = !decide (a < t.length) := by
    rw [Bool.eq_iff_iff]; simp; omega
  rw [key]
  refine condP_intro (fun h => ?_) (fun h => ?_)
  · have : endT t a = 0 := by simp only [Bool.not_eq_true', decide_eq_false_iff_not] at h; simp [endT, h]
    simp -dsimp only [↓WPd, ↓wpC_block, ↓wpC_cond, WPu, Bool.false_eq_true, Bool.true_eq_false, Bool.not_true, Bool.not_false, if_true, if_false, ite_true, ite_false, Nat.reduceEqDiff, Nat.reduceLT, true_and, List.map_cons, List.map_nil, Nat.zero_add, Nat.reduceBEq, this]
    exact ⟨rfl, trivial⟩
  · simp only [Bool.not_eq_false', decide_eq_true_eq] at h
    have hend : endT t a = endAt t.length (t.drop a) 1 a := by simp [endT, h]
    simp -dsimp only [↓WPd, ↓wpC_block, ↓wpC_cond, WPu, Bool.false_eq_true, Bool.true_eq_false, Bool.not_true, Bool.not_false, if_true, if_false, ite_true, ite_false, Nat.reduceEqDiff, Nat.reduceLT, true_and, List.map_cons, List.map_nil, Nat.zero_add, Nat.reduceBEq]
    refine loop_rule2 (fun m vs σ' => ∃ k o : Nat, k ≤ t.length ∧ m = t.length + 1 - k ∧ vs = [l, .int .i64 k, .int .i64 o] ∧ σ' = σ ∧ endAt t.length (t.drop k) o k = endT t a ∧ o ≤ 1 + k * t.length ∧ 0 < k + o) [1, 4]
      (fun e vs σ' => σ' = σ ∧ ((e = .exit 0 ∧ ∃ x, vs = [.int .i64 (endT t a : Int), x]) ∨ (e = .ret ∧ (∃ x, vs = [x, .int .i64 (endT t a : Int)])))) (t.length + 1 - a) ⟨a, 1, by omega, rfl, ?_, rfl, hend.symm, by omega, by omega⟩ ?_ ?_
    · simp -dsimp only [↓WPd, ↓wpC_block, ↓wpC_cond, WPu, Bool.false_eq_true, Bool.true_eq_false, Bool.not_true, Bool.not_false, if_true, if_false, ite_true, ite_false, Nat.reduceEqDiff, Nat.reduceLT, true_and, List.map_cons, List.map_nil, Nat.zero_add, Nat.reduceBEq]; rfl
    · rintro m vs σ' ⟨k, o, hk, rfl, rfl, rfl, he, ho, hko⟩
      have hmul : k * t.length ≤ 2 ^ 60 := by
        calc k * t.length ≤ 2 ^ 30 * 2 ^ 30 := Nat.mul_le_mul (by omega) (by omega)
          _ = 2 ^ 60 := by decide
      simp -dsimp only [↓WPd, ↓wpC_block, ↓wpC_cond, WPu, Bool.false_eq_true, Bool.true_eq_false, Bool.not_true, Bool.not_false, if_true, if_false, ite_true, ite_false, Nat.reduceEqDiff, Nat.reduceLT, true_and, List.map_cons, List.map_nil, Nat.zero_add, Nat.reduceBEq]
      refine condP_dec (fun h => ?_) (fun h => ?_)
      · obtain ⟨o, rfl⟩ : ∃ o', o = o' + 1 := ⟨o - 1, by omega⟩
        simp -dsimp only [↓WPd, ↓wpC_block, ↓wpC_cond, WPu, Bool.false_eq_true, Bool.true_eq_false, Bool.not_true, Bool.not_false, if_true, if_false, ite_true, ite_false, Nat.reduceEqDiff, Nat.reduceLT, true_and, List.map_cons, List.map_nil, Nat.zero_add, Nat.reduceBEq, ll]
        refine condP_dec (fun hkl => ?_) (fun hkl => ?_)
        · have hz : endT t a = 0 := by rw [← he, endAt_out (by omega)]
          simp -dsimp only [↓WPd, ↓wpC_block, ↓wpC_cond, WPu, Bool.false_eq_true, Bool.true_eq_false, Bool.not_true, Bool.not_false, if_true, if_false, ite_true, ite_false, Nat.reduceEqDiff, Nat.reduceLT, true_and, List.map_cons, List.map_nil, Nat.zero_add, Nat.reduceBEq, WPm]
          exact .inr ⟨_, by rw [hz]; rfl⟩
        · have hk' : k < t.length := by omega
          have hi : k < (t.map Cel.val).length := by rw [List.length_map]; exact hk'
          have hb := (hl.addr hi .i64).2
          rw [cel_get] at hb
          obtain ⟨q0, p0, r0⟩ := faddr_load hb 0
          obtain ⟨q2, p2, r2⟩ := faddr_load hb 2
          have r0' : loadV σ' 1 false q0 = some (.int .u8 (t[k]).k) := r0
          have r2' : loadV σ' 1 false q2 = some (.int .i64 (t[k]).n) := r2
          rw [endAt_get hk'] at he
          have kq : (((t[k]).k : Int) == 3) = decide ((t[k]).k = 3) := by
            by_cases h : (t[k]).k = 3 <;> simp [h] <;> omega
          have w1 : IntKind.i64.wrap (((o + 1 : Nat) : Int) - 1) = (o : Int) := by rw [wrap_i64 (by omega) (by omega)]; omega
          have w3 : IntKind.i64.wrap ((k : Int) + 1) = ((k + 1 : Nat) : Int) := by rw [wrap_i64 (by omega) (by omega)]; omega
          have hm2 : (k + 1) * t.length = k * t.length + t.length := by rw [Nat.add_mul, Nat.one_mul]
          have e1 : ((o + 1 : Nat) : Int) = (o : Int) + 1 := by omega
          simp -dsimp only [↓WPd, ↓wpC_block, ↓wpC_cond, WPu, Bool.false_eq_true, Bool.true_eq_false, Bool.not_true, Bool.not_false, if_true, if_false, ite_true, ite_false, Nat.reduceEqDiff, Nat.reduceLT, true_and, List.map_cons, List.map_nil, Nat.zero_add, Nat.reduceBEq, WPm, hl.iaddr hi, p0, p2, r0', r2', kq, w1]
          have key : (decide ((t[k]).k = 3) && decide ((t[k]).n > 0)) = decide (0 < (t[k]).parts) := by
            by_cases h : (t[k]).k = 3 <;> simp [Cel.parts, h]
          rw [key]
          refine condP_dec (fun h0 => ?_) (fun h0 => ?_)
          · have hp : (t[k]).n = ((t[k]).parts : Int) := by
              by_cases h3 : (t[k]).k = 3
              · have : (t[k]).parts = (t[k]).n.toNat := by simp [Cel.parts, h3]
                omega
              · have : (t[k]).parts = 0 := by simp [Cel.parts, h3]
                omega
            simp -dsimp only [↓WPd, ↓wpC_block, ↓wpC_cond, WPu, Bool.false_eq_true, Bool.true_eq_false, Bool.not_true, Bool.not_false, if_true, if_false, ite_true, ite_false, Nat.reduceEqDiff, Nat.reduceLT, true_and, List.map_cons, List.map_nil, Nat.zero_add, Nat.reduceBEq, WPm, ll, hl.iaddr hi, p2, r2']
            refine condP_dec (fun h2 => ?_) (fun h2 => ?_)
            · rw [if_pos (by omega)] at he
              simp -dsimp only [↓WPd, ↓wpC_block, ↓wpC_cond, WPu, Bool.false_eq_true, Bool.true_eq_false, Bool.not_true, Bool.not_false, if_true, if_false, ite_true, ite_false, Nat.reduceEqDiff, Nat.reduceLT, true_and, List.map_cons, List.map_nil, Nat.zero_add, Nat.reduceBEq]
              exact .inr ⟨_, by rw [← he]; rfl⟩
            · rw [if_neg (by omega)] at he
              have w2 : IntKind.i64.wrap ((o : Int) + (t[k]).n) = ((o + (t[k]).parts : Nat) : Int) := by rw [wrap_i64 (by omega) (by omega)]; omega
              simp -dsimp only [↓WPd, ↓wpC_block, ↓wpC_cond, WPu, Bool.false_eq_true, Bool.true_eq_false, Bool.not_true, Bool.not_false, if_true, if_false, ite_true, ite_false, Nat.reduceEqDiff, Nat.reduceLT, true_and, List.map_cons, List.map_nil, Nat.zero_add, Nat.reduceBEq, WPm, hl.iaddr hi, p2, r2', w2, w3]
              exact ⟨t.length + 1 - (k + 1), by omega, k + 1, o + (t[k]).parts, by omega, rfl, rfl, he, by omega, by omega⟩
          · have hp : (t[k]).parts = 0 := Nat.eq_zero_of_not_pos h0
            rw [hp, if_neg (Nat.not_lt_zero _), Nat.add_zero] at he
            simp -dsimp only [↓WPd, ↓wpC_block, ↓wpC_cond, WPu, Bool.false_eq_true, Bool.true_eq_false, Bool.not_true, Bool.not_false, if_true, if_false, ite_true, ite_false, Nat.reduceEqDiff, Nat.reduceLT, true_and, List.map_cons, List.map_nil, Nat.zero_add, Nat.reduceBEq, w3]
            exact ⟨t.length + 1 - (k + 1), by omega, k + 1, o, by omega, rfl, rfl, he, by omega, by omega⟩
      · have : o = 0 := by omega
        subst this
        rw [endAt_zero] at he
        simp -dsimp only [↓WPd, ↓wpC_block, ↓wpC_cond, WPu, Bool.false_eq_true, Bool.true_eq_false, Bool.not_true, Bool.not_false, if_true, if_false, ite_true, ite_false, Nat.reduceEqDiff, Nat.reduceLT, true_and, List.map_cons, List.map_nil, Nat.zero_add, Nat.reduceBEq]
        exact .inl ⟨_, by rw [← he]⟩
    · rintro e σ' env ⟨rfl, ⟨rfl, x, hv⟩ | ⟨rfl, x, hv⟩⟩
      · simp only [List.map_cons, List.map_nil, List.cons.injEq, and_true] at hv
        simp -dsimp only [↓WPd, ↓wpC_block, ↓wpC_cond, WPu, Bool.false_eq_true, Bool.true_eq_false, Bool.not_true, Bool.not_false, if_true, if_false, ite_true, ite_false, Nat.reduceEqDiff, Nat.reduceLT, true_and, List.map_cons, List.map_nil, Nat.zero_add, Nat.reduceBEq, hv]
      · simp only [List.map_cons, List.map_nil, List.cons.injEq, and_true] at hv
        simp -dsimp only [↓WPd, ↓wpC_block, ↓wpC_cond, WPu, Bool.false_eq_true, Bool.true_eq_false, Bool.not_true, Bool.not_false, if_true, if_false, ite_true, ite_false, Nat.reduceEqDiff, Nat.reduceLT, true_and, List.map_cons, List.map_nil, Nat.zero_add, Nat.reduceBEq, hv]
theorem rright_ok (l : AVal) (t : List Cel) (hx : t.length < 2 ^ 30) (hl : SlOf σ 5 l (t.map Cel.val)) : Called CU.cfg d 63 [l] σ fun v σ' => v = .bool (right t) ∧ Grows σ σ' := by
  refine called_of (fn := CU.a63) rfl (Nat.le_of_ble_eq_true rfl) ?_
  have ll := hl.len
  rw [List.length_map] at ll
  simp only [CU.a63]
  simp -dsimp only [↓WPd, ↓wpC_block, ↓wpC_cond, WPu, Bool.false_eq_true, Bool.true_eq_false, Bool.not_true, Bool.not_false, if_true, if_false, ite_true, ite_false, Nat.reduceEqDiff, Nat.reduceLT, true_and, List.map_cons, List.map_nil, Nat.zero_add, Nat.reduceBEq, WPm, ll]
  have key : (decide ((t.length : Int) < 1) || decide ((t.length : Int) > 256)) = !(decide (1 ≤ t.length) && decide (t.length ≤ 256)) := by
    generalize t.length = n
    rw [Bool.eq_iff_iff]; simp; omega
  rw [key]
  refine condP_intro (fun h => ?_) (fun h => ?_)
  · have : right t = false := by
      simp only [Bool.not_eq_true'] at h
      simp only [right, h, Bool.false_and]
    simp -dsimp only [↓WPd, ↓wpC_block, ↓wpC_cond, WPu, Bool.false_eq_true, Bool.true_eq_false, Bool.not_true, Bool.not_false, if_true, if_false, ite_true, ite_false, Nat.reduceEqDiff, Nat.reduceLT, true_and, List.map_cons, List.map_nil, Nat.zero_add, Nat.reduceBEq, this]
    exact Keeps.refl _ _
  · simp only [Bool.not_eq_false'] at h
    have hne : t ≠ [] := by
      intro e; subst e; simp at h
    have hr : right t = (decide (endT t 0 = t.length) && t.all Cel.ok) := by
      rw [endT_zero hne]; simp only [right, h, Bool.true_and]
    simp -dsimp only [↓WPd, ↓wpC_block, ↓wpC_cond, WPu, Bool.false_eq_true, Bool.true_eq_false, Bool.not_true, Bool.not_false, if_true, if_false, ite_true, ite_false, Nat.reduceEqDiff, Nat.reduceLT, true_and, List.map_cons, List.map_nil, Nat.zero_add, Nat.reduceBEq]
    refine loop_rule2 (fun m vs σ' => ∃ k, k ≤ t.length ∧ m = t.length - k ∧ vs = [l, .int .i64 k] ∧ Grows σ σ' ∧ ∀ (j : Nat) (hj : j < t.length), j < k → (t[j]).ok = true) [0, 2]
      (fun e vs σ' => Grows σ σ' ∧ ((e = .exit 0 ∧ (∃ x, vs = [l, x]) ∧ t.all Cel.ok = true) ∨ (e = .ret ∧ (∃ x, vs = [x, .bool false]) ∧ t.all Cel.ok = false))) t.length ⟨0, Nat.zero_le _, rfl, ?_, Keeps.refl _ _, fun j _ h => absurd h (Nat.not_lt_zero _)⟩ ?_ ?_
    · simp -dsimp only [↓WPd, ↓wpC_block, ↓wpC_cond, WPu, Bool.false_eq_true, Bool.true_eq_false, Bool.not_true, Bool.not_false, if_true, if_false, ite_true, ite_false, Nat.reduceEqDiff, Nat.reduceLT, true_and, List.map_cons, List.map_nil, Nat.zero_add, Nat.reduceBEq]; rfl
    · rintro m vs σ' ⟨k, hk, rfl, rfl, g, hall⟩
      have ll' := (hl.grow g).len
      rw [List.length_map] at ll'
      simp -dsimp only [↓WPd, ↓wpC_block, ↓wpC_cond, WPu, Bool.false_eq_true, Bool.true_eq_false, Bool.not_true, Bool.not_false, if_true, if_false, ite_true, ite_false, Nat.reduceEqDiff, Nat.reduceLT, true_and, List.map_cons, List.map_nil, Nat.zero_add, Nat.reduceBEq, ll']
      refine condP_dec (fun h => ?_) (fun h => ?_)
      · have hk' : k < t.length := by omega
        have hi : k < (t.map Cel.val).length := by rw [List.length_map]; exact hk'
        have hl' := hl.grow g
        have ha5 : loadV σ' 5 true (addrOf 5 l k) = some (t[k]).val := hl'.loadA hi (cs := (t[k]).cs) (by rw [cel_get]; rfl)
        simp -dsimp only [↓WPd, ↓wpC_block, ↓wpC_cond, WPu, Bool.false_eq_true, Bool.true_eq_false, Bool.not_true, Bool.not_false, if_true, if_false, ite_true, ite_false, Nat.reduceEqDiff, Nat.reduceLT, true_and, List.map_cons, List.map_nil, Nat.zero_add, Nat.reduceBEq, hl'.iaddr hi, ha5]
        refine calledW_of (cell_ok d σ' t[k]) ?_
        rintro v σ'' ⟨rfl, g2⟩
        simp -dsimp only [↓WPd, ↓wpC_block, ↓wpC_cond, WPu, Bool.false_eq_true, Bool.true_eq_false, Bool.not_true, Bool.not_false, if_true, if_false, ite_true, ite_false, Nat.reduceEqDiff, Nat.reduceLT, true_and, List.map_cons, List.map_nil, Nat.zero_add, Nat.reduceBEq]
        refine condP_intro (fun h4 => ?_) (fun h4 => ?_)
        · simp -dsimp only [↓WPd, ↓wpC_block, ↓wpC_cond, WPu, Bool.false_eq_true, Bool.true_eq_false, Bool.not_true, Bool.not_false, if_true, if_false, ite_true, ite_false, Nat.reduceEqDiff, Nat.reduceLT, true_and, List.map_cons, List.map_nil, Nat.zero_add, Nat.reduceBEq]
          refine ⟨g.trans g2, .inr ⟨⟨_, rfl⟩, ?_⟩⟩
          rw [List.all_eq_false]
          exact ⟨_, List.getElem_mem hk', by simpa using h4⟩
        · simp -dsimp only [↓WPd, ↓wpC_block, ↓wpC_cond, WPu, Bool.false_eq_true, Bool.true_eq_false, Bool.not_true, Bool.not_false, if_true, if_false, ite_true, ite_false, Nat.reduceEqDiff, Nat.reduceLT, true_and, List.map_cons, List.map_nil, Nat.zero_add, Nat.reduceBEq]
          refine ⟨t.length - (k + 1), by omega, k + 1, by omega, rfl, by rw [wrap_i64 (by omega) (by omega), Int.natCast_add, Int.natCast_one], g.trans g2, fun j hj hjk => ?_⟩
          by_cases e : j = k
          · subst e; simpa using h4
          · exact hall j hj (by omega)
      · simp -dsimp only [↓WPd, ↓wpC_block, ↓wpC_cond, WPu, Bool.false_eq_true, Bool.true_eq_false, Bool.not_true, Bool.not_false, if_true, if_false, ite_true, ite_false, Nat.reduceEqDiff, Nat.reduceLT, true_and, List.map_cons, List.map_nil, Nat.zero_add, Nat.reduceBEq]
        refine ⟨g, .inl ⟨⟨_, rfl⟩, ?_⟩⟩
        rw [List.all_eq_true]
        intro x hx
        obtain ⟨j, hj, rfl⟩ := List.getElem_of_mem hx
        exact hall j hj (by omega)
    · rintro e σ' env ⟨g, ⟨rfl, ⟨x, hv⟩, hyes⟩ | ⟨rfl, ⟨x, hv⟩, hno⟩⟩
      · simp only [List.map_cons, List.map_nil, List.cons.injEq, and_true] at hv
        have hl' := hl.grow g
        simp -dsimp only [↓WPd, ↓wpC_block, ↓wpC_cond, WPu, Bool.false_eq_true, Bool.true_eq_false, Bool.not_true, Bool.not_false, if_true, if_false, ite_true, ite_false, Nat.reduceEqDiff, Nat.reduceLT, true_and, List.map_cons, List.map_nil, Nat.zero_add, Nat.reduceBEq, hv]
        refine calledW_of (rend_ok d σ' l t 0 hx hl') ?_
        rintro v σ'' ⟨rfl, rfl⟩
        have ll' := hl'.len
        rw [List.length_map] at ll'
        have k2 : (((endT t 0 : Nat) : Int) == (t.length : Int)) = decide (endT t 0 = t.length) := by by_cases h : endT t 0 = t.length <;> simp [h] <;> omega
        simp -dsimp only [↓WPd, ↓wpC_block, ↓wpC_cond, WPu, Bool.false_eq_true, Bool.true_eq_false, Bool.not_true, Bool.not_false, if_true, if_false, ite_true, ite_false, Nat.reduceEqDiff, Nat.reduceLT, true_and, List.map_cons, List.map_nil, Nat.zero_add, Nat.reduceBEq, hv, ll', k2]
        rw [hr, hyes, Bool.and_true]
        exact ⟨rfl, g⟩
      · simp only [List.map_cons, List.map_nil, List.cons.injEq, and_true] at hv
        simp -dsimp only [↓WPd, ↓wpC_block, ↓wpC_cond, WPu, Bool.false_eq_true, Bool.true_eq_false, Bool.not_true, Bool.not_false, if_true, if_false, ite_true, ite_false, Nat.reduceEqDiff, Nat.reduceLT, true_and, List.map_cons, List.map_nil, Nat.zero_add, Nat.reduceBEq, hv]
        rw [hr, hno, Bool.and_false]
        exact ⟨rfl, g⟩
end
end Go.Proofs.YtkjnanfkclijcaaDoor.Am

namespace Go.Proofs.YtkjnanfkclijcaaDoor.Am
open Go
set_option linter.unusedVariables false
set_option linter.unusedSimpArgs false
set_option linter.unusedSectionVars false
set_option maxRecDepth 100000
section
variable (d : Nat) (σ : Store)
theorem cequal_ok (a b : AVal) (x y : List Cel) (hx : x.length < 2 ^ 40) (ha : SlOf σ 5 a (x.map Cel.val)) (hb : SlOf σ 5 b (y.map Cel.val)) : Called CU.cfg d 18 [a, b] σ fun v σ' => v = .bool (decide (x = y)) ∧ σ' = σ := by
  refine called_of (fn := CU.a18) rfl (Nat.le_of_ble_eq_true rfl) ?_
  have la := ha.len
  have lb := hb.len
  rw [List.length_map] at la lb
  simp only [CU.a18]
  simp -dsimp only [↓WPd, ↓wpC_block, ↓wpC_cond, WPu, Bool.false_eq_true, Bool.true_eq_false, Bool.not_true, Bool.not_false, if_true, if_false, ite_true, ite_false, Nat.reduceEqDiff, Nat.reduceLT, true_and, List.map_cons, List.map_nil, Nat.zero_add, Nat.reduceBEq, la, lb]
  refine condP_intro (fun h => ?_) (fun h => ?_)
  · have h' : x.length ≠ y.length := fun e => by rw [e] at h; simp at h
    simp -dsimp only [↓WPd, ↓wpC_block, ↓wpC_cond, WPu, Bool.false_eq_true, Bool.true_eq_false, Bool.not_true, Bool.not_false, if_true, if_false, ite_true, ite_false, Nat.reduceEqDiff, Nat.reduceLT, true_and, List.map_cons, List.map_nil, Nat.zero_add, Nat.reduceBEq]
    have : x ≠ y := fun e => h' (by rw [e])
    simp [this]
  · have h' : x.length = y.length := by simp at h; omega
    simp -dsimp only [↓WPd, ↓wpC_block, ↓wpC_cond, WPu, Bool.false_eq_true, Bool.true_eq_false, Bool.not_true, Bool.not_false, if_true, if_false, ite_true, ite_false, Nat.reduceEqDiff, Nat.reduceLT, true_and, List.map_cons, List.map_nil, Nat.zero_add, Nat.reduceBEq]
    refine loop_rule (fun m vs σ' => ∃ k : Nat, k ≤ x.length ∧ m = x.length - k ∧ σ' = σ ∧ x.take k = y.take k ∧ vs = [a, b, .int .i64 k]) x.length ⟨0, Nat.zero_le _, rfl, rfl, rfl, ?_⟩ ?_
    · simp -dsimp only [↓WPd, ↓wpC_block, ↓wpC_cond, WPu, Bool.false_eq_true, Bool.true_eq_false, Bool.not_true, Bool.not_false, if_true, if_false, ite_true, ite_false, Nat.reduceEqDiff, Nat.reduceLT, true_and, List.map_cons, List.map_nil, Nat.zero_add, Nat.reduceBEq]; rfl
    · rintro m vs σ' ⟨k, hk, rfl, rfl, he, rfl⟩
      simp -dsimp only [↓WPd, ↓wpC_block, ↓wpC_cond, WPu, Bool.false_eq_true, Bool.true_eq_false, Bool.not_true, Bool.not_false, if_true, if_false, ite_true, ite_false, Nat.reduceEqDiff, Nat.reduceLT, true_and, List.map_cons, List.map_nil, Nat.zero_add, Nat.reduceBEq, la]
      refine condP_dec (fun h => ?_) (fun h => ?_)
      · have hkx : k < x.length := by omega
        have hky : k < y.length := by omega
        have hi : k < (x.map Cel.val).length := by rw [List.length_map]; exact hkx
        have hj : k < (y.map Cel.val).length := by rw [List.length_map]; exact hky
        have l1 : loadV σ' 5 true (addrOf 5 a k) = some (x[k]).val := ha.loadA hi (cs := (x[k]).cs) (by rw [cel_get]; rfl)
        have l2 : loadV σ' 5 true (addrOf 5 b k) = some (y[k]).val := hb.loadA hj (cs := (y[k]).cs) (by rw [cel_get]; rfl)
        have eN : (if true = true then !decide (x[k] = y[k]) else decide (x[k] = y[k])) = !decide (x[k] = y[k]) := rfl
        simp -dsimp only [↓WPd, ↓wpC_block, ↓wpC_cond, WPu, Bool.false_eq_true, Bool.true_eq_false, Bool.not_true, Bool.not_false, if_true, if_false, ite_true, ite_false, Nat.reduceEqDiff, Nat.reduceLT, true_and, List.map_cons, List.map_nil, Nat.zero_add, Nat.reduceBEq, ha.iaddr hi, l1, hb.iaddr hj, l2, Cel.eqs]
        refine condP_intro (fun h => ?_) (fun h => ?_)
        · simp -dsimp only [↓WPd, ↓wpC_block, ↓wpC_cond, WPu, Bool.false_eq_true, Bool.true_eq_false, Bool.not_true, Bool.not_false, if_true, if_false, ite_true, ite_false, Nat.reduceEqDiff, Nat.reduceLT, true_and, List.map_cons, List.map_nil, Nat.zero_add, Nat.reduceBEq]
          have : x ≠ y := fun e => by subst e; simp at h
          simp [this]
        · simp -dsimp only [↓WPd, ↓wpC_block, ↓wpC_cond, WPu, Bool.false_eq_true, Bool.true_eq_false, Bool.not_true, Bool.not_false, if_true, if_false, ite_true, ite_false, Nat.reduceEqDiff, Nat.reduceLT, true_and, List.map_cons, List.map_nil, Nat.zero_add, Nat.reduceBEq]
          have e : x[k] = y[k] := by simpa using h
          refine ⟨x.length - (k + 1), by omega, k + 1, by omega, rfl, take_succ_eq hkx hky he e, ?_⟩
          rw [wrap_i64 (by omega) (by omega), Int.natCast_add, Int.natCast_one]
      · simp -dsimp only [↓WPd, ↓wpC_block, ↓wpC_cond, WPu, Bool.false_eq_true, Bool.true_eq_false, Bool.not_true, Bool.not_false, if_true, if_false, ite_true, ite_false, Nat.reduceEqDiff, Nat.reduceLT, true_and, List.map_cons, List.map_nil, Nat.zero_add, Nat.reduceBEq]
        have hk' : k = x.length := by omega
        subst hk'
        have : x = y := by rw [List.take_length, h', List.take_length] at he; exact he
        simp [this]
def isT (t : List Cel) (s : List UInt8) (n : Int) : Bool := match t with
  | [] => false
  | c :: _ => decide (c.s = s) && ((decide (c.k = 3) && decide (c.n = n)) || (decide (n = 0) && decide (c.k = 2)))
end
end Go.Proofs.YtkjnanfkclijcaaDoor.Am

namespace Go.Proofs.YtkjnanfkclijcaaDoor.Am
open Go
set_option linter.unusedVariables false
set_option linter.unusedSimpArgs false
set_option linter.unusedSectionVars false
set_option maxRecDepth 100000
theorem faddr_at {σ : Store} {p : AVal} {cs : List AVal} {off : Nat} (h : behind σ p = some (cs, off)) (o : Nat) : ∃ q, faddrV o p = some q ∧ behind σ q = some (cs, off + o) := by
  cases p with
  | ptr i k =>
    simp only [behind] at h
    split at h
    · rename_i cs' ho
      injection h with h; injection h with h1 h2; subst h1; subst h2
      exact ⟨.ptr i (k + o), rfl, by simp only [behind, ho]⟩
    · cases h
  | eptr i ep j k =>
    simp only [behind] at h
    split at h
    · rename_i sz es epo fl ho
      split at h
      · rename_i hf
        rw [Option.map_eq_some_iff] at h
        obtain ⟨e, he, h⟩ := h
        injection h with h1 h2; subst h1; subst h2
        exact ⟨.eptr i ep j (k + o), rfl, by simp only [behind, ho, if_pos hf, he, Option.map_some]⟩
      · cases h
    · cases h
  | fptr t cs' k =>
    simp only [behind, Option.some.injEq, Prod.mk.injEq] at h
    obtain ⟨rfl, rfl⟩ := h
    exact ⟨.fptr t cs' (k + o), rfl, by simp [behind]⟩
  | _ => simp [behind] at h
theorem load_at {σ : Store} {q : AVal} {cs : List AVal} {off : Nat} (h : behind σ q = some (cs, off)) : loadV σ 1 false q = cs[off]? := by simp only [loadV, h]; rfl
theorem loadN_at {σ : Store} {q : AVal} {cs : List AVal} {off : Nat} (h : behind σ q = some (cs, off)) {n : Nat} (hn : off + n ≤ cs.length) : loadV σ n true q = some (.agg ((cs.drop off).take n)) := by
  simp only [loadV, h, ld, if_true, hn]
def nmC (v : Nm) : List AVal := [.int .i64 v.1, .int .i64 v.2]
theorem nm_cells (v : Nm) : (nmV v).cells = nmC v := rfl
theorem nm_agg (v : Nm) : nmV v = .agg (nmC v) := rfl
theorem nm_one (v : Nm) : (nmC v).all AVal.one = true := rfl
theorem nm_g0 (v : Nm) : (nmC v)[0]? = some (.int .i64 v.1) := rfl
theorem nm_g1 (v : Nm) : (nmC v)[1]? = some (.int .i64 v.2) := rfl
theorem nm_eqs (a b : Nm) : eqsV [.i, .i] (nmV a) (nmV b) = some (decide (a = b)) := by
  obtain ⟨a1, a2⟩ := a; obtain ⟨b1, b2⟩ := b
  simp only [nmV, eqsV, cellsEq, cellEq, if_true, Bool.and_true]
  congr 1
  rw [Bool.eq_iff_iff]
  simp [Prod.ext_iff]
theorem nm_keyEq (a b : Nm) : keyEq true [.i, .i] (nmV a) (nmV b) = some (decide (a = b)) := nm_eqs a b
theorem load_nm {σ : Store} {i : Nat} {v : Nm} (h : σ[i]? = some (.cells (nmC v))) : loadV σ 2 true (.ptr i 0) = some (nmV v) := loadN_cells h rfl
theorem find_nm (v : Nm) : ∀ (H : Hp), ∃ o : Option Nat, findK true [.i, .i] (nmV v) (H.map fun p => nmV p.1) = some o ∧ (match o with | some i => ∃ p, H[i]? = some p ∧ p.1 = v ∧ lk H v = some p.2 | none => lk H v = none)
  | [] => ⟨none, rfl, rfl⟩
  | p :: r => by
    obtain ⟨o, h1, h2⟩ := find_nm v r
    by_cases e : v = p.1
    · refine ⟨some 0, ?_, p, rfl, e.symm, ?_⟩
      · simp only [List.map_cons, findK, nm_keyEq, decide_eq_true e]
      · simp [lk, e]
    · have hk : lk (p :: r) v = lk r v := by simp only [lk]; rw [if_neg fun h => e h.symm]
      refine ⟨o.map (· + 1), ?_, ?_⟩
      · simp only [List.map_cons, findK, nm_keyEq, decide_eq_false e, h1]
        cases o <;> rfl
      · cases o with
        | none => simp only [Option.map_none]; rw [hk]; exact h2
        | some i =>
          obtain ⟨q, q1, q2, q3⟩ := h2
          simp only [Option.map_some]
          exact ⟨q, by simpa using q1, q2, by rw [hk]; exact q3⟩
abbrev Told (u : AVal) (t : List Cel) : Prop := ∀ σ' : Store, SlOf σ' 5 u (CC t)
theorem Told.nil : Told .nilslice [] := fun σ' => SlOf.nil σ' 5
structure HeapP (σ : Store) (id mid : Nat) (vs : List AVal) (H : Hp) : Prop where
  obj : σ[id]? = some (.cells [.map mid])
  map : σ[mid]? = some (.map (H.map fun p => nmV p.1) vs)
  vals : Two (fun u p => Told u p.2) vs H
  wf : WF H
theorem HeapP.keeps {σ σ' : Store} {id mid : Nat} {vs : List AVal} {H : Hp} (h : HeapP σ id mid vs H) {M : Nat → Prop} (hk : Keeps M σ σ') (h1 : ¬ M id) (h2 : ¬ M mid) : HeapP σ' id mid vs H :=
  ⟨hk.get h.obj h1, hk.get h.map h2, h.vals, h.wf⟩
theorem HeapP.grow {σ σ' : Store} {id mid : Nat} {vs : List AVal} {H : Hp} (h : HeapP σ id mid vs H) (hk : Grows σ σ') : HeapP σ' id mid vs H := h.keeps hk (fun h => h) (fun h => h)
theorem HeapP.set {σ : Store} {id mid : Nat} {vs : List AVal} {H : Hp} (h : HeapP σ id mid vs H) {v : Nm} {u : AVal} {t : List Cel} (hl : lk H v = none) (hu : Told u t) (hok : okB (v, t)) :
    ∃ σ', mapsetV σ true [.i, .i] (.map mid) (nmV v) u = some σ' ∧ HeapP σ' id mid (vs ++ [u]) (H ++ [(v, t)]) ∧ Keeps (fun i => i = mid) σ σ' := by
  obtain ⟨o, h1, h2⟩ := find_nm v H
  have hk : keyEq true [.i, .i] (nmV v) (nmV v) = some true := by rw [nm_keyEq, decide_eq_true rfl]
  have hf : findKK true [.i, .i] (nmV v) (H.map fun p => nmV p.1) = some o := by simp only [findKK, hk, Option.isSome_some, if_true, h1]
  have hmo := h.map
  have ho : o = none := by
    cases o with
    | none => rfl
    | some i => obtain ⟨p, _, _, p3⟩ := h2; rw [hl] at p3; cases p3
  subst ho
  have hne : id ≠ mid := fun e => by have h1 := h.obj; rw [e, h.map] at h1; cases h1
  refine ⟨σ.set mid (.map ((H.map fun p => nmV p.1) ++ [nmV v]) (vs ++ [u])), by simp only [mapsetV, hmo, hf], ⟨?_, ?_, h.vals.push hu, ?_⟩, Keeps.set _ _ _⟩
  · rw [List.getElem?_set_ne (fun e => hne e.symm)]; exact h.obj
  · rw [get_set h.map]; simp
  · have := h.wf.bind v t
    rwa [bindH, if_pos (bindE_of hok hl)] at this
def HeapV (σ : Store) (hv : AVal) (H : Hp) : Prop := (hv = .nilptr ∧ H = []) ∨ ∃ id mid vs, hv = .ptr id 0 ∧ HeapP σ id mid vs H
theorem HeapV.wf {σ : Store} {hv : AVal} {H : Hp} (h : HeapV σ hv H) : WF H := by
  rcases h with ⟨_, rfl⟩ | ⟨_, _, _, _, h⟩
  · exact WF.nil
  · exact h.wf
theorem HeapV.grow {σ σ' : Store} {hv : AVal} {H : Hp} (h : HeapV σ hv H) (g : Grows σ σ') : HeapV σ' hv H := by
  rcases h with h | ⟨id, mid, vs, e, h⟩
  · exact .inl h
  · exact .inr ⟨id, mid, vs, e, h.grow g⟩
theorem HeapP.v {σ : Store} {id mid : Nat} {vs : List AVal} {H : Hp} (h : HeapP σ id mid vs H) : HeapV σ (.ptr id 0) H := .inr ⟨id, mid, vs, rfl, h⟩
section
variable (d : Nat) (σ : Store)
end
end Go.Proofs.YtkjnanfkclijcaaDoor.Am

namespace Go.Proofs.YtkjnanfkclijcaaDoor.Am
open Go
set_option linter.unusedVariables false
set_option linter.unusedSimpArgs false
set_option linter.unusedSectionVars false
set_option maxRecDepth 100000
def Small (t : List Cel) : Prop := t.length < 2 ^ 30 ∧ ∀ c ∈ t, c.k < 256 ∧ c.s.length < 2 ^ 40
section
variable (d : Nat) (σ : Store)
end
end Go.Proofs.YtkjnanfkclijcaaDoor.Am

namespace Go.Proofs.YtkjnanfkclijcaaDoor.Am
open Go
set_option linter.unusedVariables false
set_option linter.unusedSimpArgs false
set_option linter.unusedSectionVars false
set_option maxRecDepth 100000
def varT (v : Nm) : List Cel := if okVar v then [vCel v] else []
theorem vcel_small (v : Nm) : Small [vCel v] := ⟨by simp, fun c hc => by simp at hc; subst hc; exact ⟨by simp [vCel], by simp [vCel]⟩⟩
theorem vcel_build (v : Nm) : fillA [AVal.int IntKind.u8 0, AVal.str [], AVal.int IntKind.i64 0, AVal.int IntKind.i64 0, AVal.int IntKind.i64 0] [(0, 1, AVal.int IntKind.u8 4), (3, 2, nmV v)] = some (vCel v).cs := rfl
theorem cel_lit (c : Cel) : fillL 5 true (List.replicate 1 (zel [AVal.int IntKind.u8 0, AVal.str [], AVal.int IntKind.i64 0, AVal.int IntKind.i64 0, AVal.int IntKind.i64 0] true)) [(0, c.val)] = some [c.val] := rfl
theorem Told.lit (tg : Nat) (full : Bool) (t : List Cel) : Told (.fslice tg full 5 (CC t)) t := fun σ' => SlOf.fs _ _ _ _ _
section
variable (d : Nat) (σ : Store)
theorem single_ok (c : Cel) (hk : c.k < 256 ∧ c.s.length < 2 ^ 40) : Called CU.cfg d 137 [c.val] σ fun r σ' => Told r (if right [c] then [c] else []) ∧ Grows σ σ' := by
  refine called_of (fn := CU.a137) rfl (Nat.le_of_ble_eq_true rfl) ?_
  simp only [CU.a137]
  simp -dsimp only [↓WPd, ↓wpC_block, ↓wpC_cond, WPu, Bool.false_eq_true, Bool.true_eq_false, Bool.not_true, Bool.not_false, if_true, if_false, ite_true, ite_false, Nat.reduceEqDiff, Nat.reduceLT, true_and, List.map_cons, List.map_nil, Nat.zero_add, Nat.reduceBEq, Cel.cells, Cel.one]
  have ho : (σ ++ [AObj.cells c.cs])[σ.length]? = some (.cells c.cs) := by simp
  have g0 : Grows σ (σ ++ [AObj.cells c.cs]) := Grows.app _ _
  generalize σ ++ [AObj.cells c.cs] = σ1 at ho g0
  generalize σ.length = i1 at ho
  simp -dsimp only [↓WPd, ↓wpC_block, ↓wpC_cond, WPu, Bool.false_eq_true, Bool.true_eq_false, Bool.not_true, Bool.not_false, if_true, if_false, ite_true, ite_false, Nat.reduceEqDiff, Nat.reduceLT, true_and, List.map_cons, List.map_nil, Nat.zero_add, Nat.reduceBEq, cell_load ho, cel_lit]
  refine calledW_of (right_ok d σ1 _ [c] (by simp) (fun x hx => by simp at hx; subst hx; exact hk) (SlOf.fs σ1 5 _ _ _)) ?_
  rintro v σ2 ⟨rfl, g2⟩
  cases hr : right [c] with
  | false =>
    simp -dsimp only [↓WPd, ↓wpC_block, ↓wpC_cond, WPu, Bool.false_eq_true, Bool.true_eq_false, Bool.not_true, Bool.not_false, if_true, if_false, ite_true, ite_false, Nat.reduceEqDiff, Nat.reduceLT, true_and, List.map_cons, List.map_nil, Nat.zero_add, Nat.reduceBEq]
    exact ⟨Told.nil, g0.trans g2⟩
  | true =>
    simp -dsimp only [↓WPd, ↓wpC_block, ↓wpC_cond, WPu, Bool.false_eq_true, Bool.true_eq_false, Bool.not_true, Bool.not_false, if_true, if_false, ite_true, ite_false, Nat.reduceEqDiff, Nat.reduceLT, true_and, List.map_cons, List.map_nil, Nat.zero_add, Nat.reduceBEq]
    exact ⟨Told.lit _ _ [c], g0.trans g2⟩
theorem ofvar_ok (v : Nm) : Called CU.cfg d 90 [nmV v] σ fun r σ' => Told r (varT v) ∧ Grows σ σ' := by
  refine called_of (fn := CU.a90) rfl (Nat.le_of_ble_eq_true rfl) ?_
  simp only [CU.a90]
  simp -dsimp only [↓WPd, ↓wpC_block, ↓wpC_cond, WPu, Bool.false_eq_true, Bool.true_eq_false, Bool.not_true, Bool.not_false, if_true, if_false, ite_true, ite_false, Nat.reduceEqDiff, Nat.reduceLT, true_and, List.map_cons, List.map_nil, Nat.zero_add, Nat.reduceBEq, nm_cells, nm_one]
  have ho : (σ ++ [AObj.cells (nmC v)])[σ.length]? = some (.cells (nmC v)) := by simp
  have g0 : Grows σ (σ ++ [AObj.cells (nmC v)]) := Grows.app _ _
  generalize σ ++ [AObj.cells (nmC v)] = σ1 at ho g0
  generalize σ.length = i1 at ho
  simp -dsimp only [↓WPd, ↓wpC_block, ↓wpC_cond, WPu, Bool.false_eq_true, Bool.true_eq_false, Bool.not_true, Bool.not_false, if_true, if_false, ite_true, ite_false, Nat.reduceEqDiff, Nat.reduceLT, true_and, List.map_cons, List.map_nil, Nat.zero_add, Nat.reduceBEq, load_nm ho, vcel_build]
  refine calledW_of (single_ok d σ1 (vCel v) ⟨by simp [vCel], by simp [vCel]⟩) ?_
  rintro r σ2 ⟨h, g2⟩
  simp -dsimp only [↓WPd, ↓wpC_block, ↓wpC_cond, WPu, Bool.false_eq_true, Bool.true_eq_false, Bool.not_true, Bool.not_false, if_true, if_false, ite_true, ite_false, Nat.reduceEqDiff, Nat.reduceLT, true_and, List.map_cons, List.map_nil, Nat.zero_add, Nat.reduceBEq]
  rw [right_var] at h
  exact ⟨h, g0.trans g2⟩
theorem rone_ok (c : Cel) : Called CU.cfg d 139 [c.val] σ fun r σ' => Told r (if c.ok then [c] else []) ∧ Grows σ σ' := by
  refine called_of (fn := CU.a139) rfl (Nat.le_of_ble_eq_true rfl) ?_
  simp only [CU.a139]
  simp -dsimp only [↓WPd, ↓wpC_block, ↓wpC_cond, WPu, Bool.false_eq_true, Bool.true_eq_false, Bool.not_true, Bool.not_false, if_true, if_false, ite_true, ite_false, Nat.reduceEqDiff, Nat.reduceLT, true_and, List.map_cons, List.map_nil, Nat.zero_add, Nat.reduceBEq, Cel.cells, Cel.one]
  have ho : (σ ++ [AObj.cells c.cs])[σ.length]? = some (.cells c.cs) := by simp
  have g0 : Grows σ (σ ++ [AObj.cells c.cs]) := Grows.app _ _
  generalize σ ++ [AObj.cells c.cs] = σ1 at ho g0
  generalize σ.length = i1 at ho
  simp -dsimp only [↓WPd, ↓wpC_block, ↓wpC_cond, WPu, Bool.false_eq_true, Bool.true_eq_false, Bool.not_true, Bool.not_false, if_true, if_false, ite_true, ite_false, Nat.reduceEqDiff, Nat.reduceLT, true_and, List.map_cons, List.map_nil, Nat.zero_add, Nat.reduceBEq, cell_load ho]
  refine calledW_of (cell_ok d σ1 c) ?_
  rintro v σ2 ⟨rfl, g2⟩
  have ho2 := g2.get ho
  cases hr : c.ok with
  | false =>
    simp -dsimp only [↓WPd, ↓wpC_block, ↓wpC_cond, WPu, Bool.false_eq_true, Bool.true_eq_false, Bool.not_true, Bool.not_false, if_true, if_false, ite_true, ite_false, Nat.reduceEqDiff, Nat.reduceLT, true_and, List.map_cons, List.map_nil, Nat.zero_add, Nat.reduceBEq]
    exact ⟨Told.nil, g0.trans g2⟩
  | true =>
    simp -dsimp only [↓WPd, ↓wpC_block, ↓wpC_cond, WPu, Bool.false_eq_true, Bool.true_eq_false, Bool.not_true, Bool.not_false, if_true, if_false, ite_true, ite_false, Nat.reduceEqDiff, Nat.reduceLT, true_and, List.map_cons, List.map_nil, Nat.zero_add, Nat.reduceBEq, cell_load ho2, cel_lit]
    exact ⟨Told.lit _ _ [c], g0.trans g2⟩
theorem rofvar_ok (v : Nm) : Called CU.cfg d 93 [nmV v] σ fun r σ' => Told r (varT v) ∧ Grows σ σ' := by
  refine called_of (fn := CU.a93) rfl (Nat.le_of_ble_eq_true rfl) ?_
  simp only [CU.a93]
  simp -dsimp only [↓WPd, ↓wpC_block, ↓wpC_cond, WPu, Bool.false_eq_true, Bool.true_eq_false, Bool.not_true, Bool.not_false, if_true, if_false, ite_true, ite_false, Nat.reduceEqDiff, Nat.reduceLT, true_and, List.map_cons, List.map_nil, Nat.zero_add, Nat.reduceBEq, nm_cells, nm_one]
  have ho : (σ ++ [AObj.cells (nmC v)])[σ.length]? = some (.cells (nmC v)) := by simp
  have g0 : Grows σ (σ ++ [AObj.cells (nmC v)]) := Grows.app _ _
  generalize σ ++ [AObj.cells (nmC v)] = σ1 at ho g0
  generalize σ.length = i1 at ho
  simp -dsimp only [↓WPd, ↓wpC_block, ↓wpC_cond, WPu, Bool.false_eq_true, Bool.true_eq_false, Bool.not_true, Bool.not_false, if_true, if_false, ite_true, ite_false, Nat.reduceEqDiff, Nat.reduceLT, true_and, List.map_cons, List.map_nil, Nat.zero_add, Nat.reduceBEq, load_nm ho, vcel_build]
  refine calledW_of (rone_ok d σ1 (vCel v)) ?_
  rintro r σ2 ⟨h, g2⟩
  simp -dsimp only [↓WPd, ↓wpC_block, ↓wpC_cond, WPu, Bool.false_eq_true, Bool.true_eq_false, Bool.not_true, Bool.not_false, if_true, if_false, ite_true, ite_false, Nat.reduceEqDiff, Nat.reduceLT, true_and, List.map_cons, List.map_nil, Nat.zero_add, Nat.reduceBEq]
  exact ⟨h, g0.trans g2⟩
theorem hnew_ok : Called CU.cfg d 66 [] σ fun r σ' => ∃ id mid, r = .ptr id 0 ∧ HeapP σ' id mid [] [] ∧ Grows σ σ' ∧ id < σ'.length ∧ mid < σ'.length ∧ σ.length ≤ id ∧ σ.length ≤ mid := by
  refine called_of (fn := CU.a66) rfl (Nat.le_of_ble_eq_true rfl) ?_
  have e1 : fillA [AVal.nilmap] [(0, 1, AVal.map σ.length)] = some [AVal.map σ.length] := rfl
  have e2 : [AVal.map σ.length].all AVal.one = true := rfl
  simp only [CU.a66]
  simp -dsimp only [↓WPd, ↓wpC_block, ↓wpC_cond, WPu, Bool.false_eq_true, Bool.true_eq_false, Bool.not_true, Bool.not_false, if_true, if_false, ite_true, ite_false, Nat.reduceEqDiff, Nat.reduceLT, true_and, List.map_cons, List.map_nil, Nat.zero_add, Nat.reduceBEq, e1, e2, cells_agg]
  refine ⟨_, σ.length, rfl, ⟨by simp, ?_, .nil, WF.nil⟩, Grows.trans (Grows.app _ _) (Grows.app _ _), by simp, by simp, by simp, Nat.le_refl _⟩
  simp
end
end Go.Proofs.YtkjnanfkclijcaaDoor.Am

namespace Go.Proofs.YtkjnanfkclijcaaDoor.Am
open Go
set_option linter.unusedVariables false
set_option linter.unusedSimpArgs false
set_option linter.unusedSectionVars false
set_option maxRecDepth 100000
def bdV (v : Nm) (u : AVal) : AVal := .agg [.int .i64 v.1, .int .i64 v.2, u]
def bdC (v : Nm) (u : AVal) : List AVal := [.int .i64 v.1, .int .i64 v.2, u]
def BdRel (σ : Store) (A : Nat → Prop) (e : AVal) (p : Nm × List Cel) : Prop := ∃ u, e = bdV p.1 u ∧ SlOf σ 5 u (CC p.2) ∧ ∀ i, u.sid = some i → A i
theorem BdRel.keeps {σ σ' : Store} {A B M : Nat → Prop} {e : AVal} {p : Nm × List Cel} (h : BdRel σ A e p) (hk : Keeps M σ σ') (ha : ∀ i, i < σ.length → A i → B i ∧ ¬ M i) : BdRel σ' B e p := by
  obtain ⟨u, h1, h2, h3⟩ := h
  exact ⟨u, h1, h2.keeps hk fun i hi => (ha i (h2.lt hi) (h3 i hi)).2, fun i hi => (ha i (h2.lt hi) (h3 i hi)).1⟩
def RefP (σ : Store) (A : Nat → Prop) (id : Nat) (R : Hp) : Prop := ∃ w es, σ[id]? = some (.cells [w]) ∧ SlOf σ 3 w es ∧ (∀ i, w.sid = some i → A i) ∧ Two (BdRel σ A) es R
theorem RefP.keeps {σ σ' : Store} {A B M : Nat → Prop} {id : Nat} {R : Hp} (h : RefP σ A id R) (hk : Keeps M σ σ') (hi : ¬ M id) (ha : ∀ i, i < σ.length → A i → B i ∧ ¬ M i) : RefP σ' B id R := by
  obtain ⟨w, es, h1, h2, h3, h4⟩ := h
  exact ⟨w, es, hk.get h1 hi, h2.keeps hk fun i hw => (ha i (h2.lt hw) (h3 i hw)).2, fun i hw => (ha i (h2.lt hw) (h3 i hw)).1, h4.mono fun e p he => he.keeps hk ha⟩
theorem RefP.grow {σ σ' : Store} {A : Nat → Prop} {id : Nat} {R : Hp} (h : RefP σ A id R) (g : Grows σ σ') : RefP σ' A id R := h.keeps g (fun h => h) fun i _ a => ⟨a, fun h => h⟩
def RefV (σ : Store) (rv : AVal) (R : Hp) : Prop := (rv = .nilptr ∧ R = []) ∨ ∃ id A, rv = .ptr id 0 ∧ RefP σ A id R
theorem RefV.grow {σ σ' : Store} {rv : AVal} {R : Hp} (h : RefV σ rv R) (g : Grows σ σ') : RefV σ' rv R := by
  rcases h with h | ⟨id, A, e, h⟩
  · exact .inl h
  · exact .inr ⟨id, A, e, h.grow g⟩
theorem RefP.v {σ : Store} {A : Nat → Prop} {id : Nat} {R : Hp} (h : RefP σ A id R) : RefV σ (.ptr id 0) R := .inr ⟨id, A, rfl, h⟩
section
variable (d : Nat) (σ : Store)
end
end Go.Proofs.YtkjnanfkclijcaaDoor.Am

namespace Go.Proofs.YtkjnanfkclijcaaDoor.Am
open Go
set_option linter.unusedVariables false
set_option linter.unusedSimpArgs false
set_option linter.unusedSectionVars false
set_option maxRecDepth 100000
section
variable (d : Nat) (σ : Store)
end
end Go.Proofs.YtkjnanfkclijcaaDoor.Am

namespace Go.Proofs.YtkjnanfkclijcaaDoor.Am
open Go
set_option linter.unusedVariables false
set_option linter.unusedSimpArgs false
set_option linter.unusedSectionVars false
set_option maxRecDepth 100000
def Terms (σ : Store) (l : AVal) (ts : List (List Cel)) : Prop := ∃ es, SlOf σ 1 l es ∧ Two (fun e t => SlOf σ 5 e (CC t)) es ts
theorem Terms.grow {σ σ' : Store} {l : AVal} {ts : List (List Cel)} (h : Terms σ l ts) (g : Grows σ σ') : Terms σ' l ts := by
  obtain ⟨es, h1, h2⟩ := h
  exact ⟨es, h1.grow g, h2.mono fun e t he => he.grow g⟩
theorem Terms.len {σ : Store} {l : AVal} {ts : List (List Cel)} (h : Terms σ l ts) : lenSV l = some ts.length := by
  obtain ⟨es, h1, h2⟩ := h
  rw [← h2.len]; exact h1.len
theorem Terms.at {σ : Store} {l : AVal} {ts : List (List Cel)} (h : Terms σ l ts) {i : Nat} (hi : i < ts.length) : ∃ e, iaddrV 1 l (.int .i64 i) = some (addrOf 1 l i) ∧ loadV σ 1 false (addrOf 1 l i) = some e ∧ SlOf σ 5 e (CC ts[i]) := by
  obtain ⟨es, h1, h2⟩ := h
  have hl : i < es.length := by rw [h2.len]; exact hi
  obtain ⟨e, e1, e2⟩ := h2.get hi
  have he : es[i] = e := by rw [List.getElem?_eq_getElem hl] at e1; exact Option.some.inj e1
  have := h1.load1 hl (by rw [he]; exact e2.one) 1
  rw [he] at this
  exact ⟨e, h1.iaddr hl .i64, this, e2⟩
theorem Terms.nil (σ : Store) : Terms σ .nilslice [] := ⟨[], SlOf.nil _ _, .nil⟩
section
variable (d : Nat) (σ : Store)
end
end Go.Proofs.YtkjnanfkclijcaaDoor.Am

namespace Go.Proofs.YtkjnanfkclijcaaDoor.Am
open Go
set_option linter.unusedVariables false
set_option linter.unusedSimpArgs false
set_option linter.unusedSectionVars false
set_option maxRecDepth 100000
theorem CC_len (l : List Cel) : (CC l).length = l.length := by simp
def mkC (n : Int) : Cel := ⟨0, [], n, (0, 0)⟩
def cmarks : List Cel := (List.range 9).map fun j : Nat => mkC (-700 - (j : Int))
structure HandedC (σ : Store) (v : AVal) (x : List Cel) (id : Nat) : Prop where
  val : v = .slice 5 id 0 0 x.length (some (x.length + 9))
  obj : σ[id]? = some (.arr 5 (CC (x ++ cmarks)) 0 0)
theorem HandedC.sl {σ : Store} {v : AVal} {x : List Cel} {id : Nat} (h : HandedC σ v x id) : SlOf σ 5 v (CC x) := by
  obtain ⟨rfl, ho⟩ := h
  refine ⟨?_, by simp [lenSV, CC_len], fun s id' ep off len c hc => ?_⟩
  · simp [elems, ho]
  · injection hc with _ _ _ _ e5 e6; injection e6 with e6; omega
theorem HandedC.keep {σ σ' : Store} {v : AVal} {x : List Cel} {id : Nat} (h : HandedC σ v x id) {M : Nat → Prop} (hk : Keeps M σ σ') (hm : ¬ M id) : HandedC σ' v x id := ⟨h.val, hk.get h.obj hm⟩
section
variable (d : Nat) (σ : Store)
end
end Go.Proofs.YtkjnanfkclijcaaDoor.Am

namespace Go.Proofs.YtkjnanfkclijcaaDoor.Am
open Go
set_option linter.unusedVariables false
set_option linter.unusedSimpArgs false
set_option linter.unusedSectionVars false
set_option maxRecDepth 100000
def sCel (s : List UInt8) (n : Nat) : Cel := ⟨3, s, n, (0, 0)⟩
def makeE (s : List UInt8) (ts : List (List Cel)) : Int := if !(sCel s ts.length).ok || ts.any (fun t => !right t) then 6 else if 256 < 1 + ts.flatten.length then 5 else 0
def makeT (s : List UInt8) (ts : List (List Cel)) : List Cel := if makeE s ts = 0 then sCel s ts.length :: ts.flatten else []
theorem elems1 (tg : Nat) (σ : Store) (x : AVal) : elems 1 σ (.fslice tg true 1 [x]) = some [x] := elems_fs 1 tg true σ [x]
section
variable (d : Nat) (σ : Store)
theorem tindex_ok (f : FuncId) (p : List Cel → Bool) (l : AVal) (ts : List (List Cel)) (hx : ts.length < 2 ^ 40) (hl : Terms σ l ts) (hf : ∀ (t : List Cel) (e : AVal) (σ' : Store), t ∈ ts → SlOf σ' 5 e (CC t) → Called CU.cfg d f [e] σ' fun v σ'' => v = .bool (p t) ∧ Grows σ' σ'') :
    Called CU.cfg d 164 [l, .func f [] []] σ fun v σ' => (∃ i : Int, v = .int .i64 i ∧ (decide (0 ≤ i)) = ts.any p) ∧ Grows σ σ' := by
  refine called_of (fn := CU.a164) rfl (Nat.le_of_ble_eq_true rfl) ?_
  have ll := hl.len
  simp only [CU.a164]
  simp -dsimp only [↓WPd, ↓wpC_block, ↓wpC_cond, WPu, Bool.false_eq_true, Bool.true_eq_false, Bool.not_true, Bool.not_false, if_true, if_false, ite_true, ite_false, Nat.reduceEqDiff, Nat.reduceLT, true_and, List.map_cons, List.map_nil, Nat.zero_add, Nat.reduceBEq, ll]
  refine loop_rule2 (fun m vs σ' => ∃ k, k ≤ ts.length ∧ m = ts.length - k ∧ vs = [l, .func f [] [], .int .i64 ts.length, .int .i64 k] ∧ Grows σ σ' ∧ ∀ (j : Nat) (hj : j < ts.length), j < k → p ts[j] = false) [4]
    (fun e vs σ' => Grows σ σ' ∧ ((e = .exit 0 ∧ ts.any p = false) ∨ (e = .ret ∧ ts.any p = true ∧ ∃ k : Nat, vs = [.int .i64 k]))) ts.length ⟨0, Nat.zero_le _, rfl, ?_, Keeps.refl _ _, fun j _ h => by omega⟩ ?_ ?_
  · simp -dsimp only [↓WPd, ↓wpC_block, ↓wpC_cond, WPu, Bool.false_eq_true, Bool.true_eq_false, Bool.not_true, Bool.not_false, if_true, if_false, ite_true, ite_false, Nat.reduceEqDiff, Nat.reduceLT, true_and, List.map_cons, List.map_nil, Nat.zero_add, Nat.reduceBEq]; rfl
  · rintro m vs σ' ⟨k, hk, rfl, rfl, g, hall⟩
    simp -dsimp only [↓WPd, ↓wpC_block, ↓wpC_cond, WPu, Bool.false_eq_true, Bool.true_eq_false, Bool.not_true, Bool.not_false, if_true, if_false, ite_true, ite_false, Nat.reduceEqDiff, Nat.reduceLT, true_and, List.map_cons, List.map_nil, Nat.zero_add, Nat.reduceBEq]
    refine condP_dec (fun h => ?_) (fun h => ?_)
    · have hk' : k < ts.length := by omega
      obtain ⟨e, e1, e2, e3⟩ := (hl.grow g).at hk'
      simp -dsimp only [↓WPd, ↓wpC_block, ↓wpC_cond, WPu, Bool.false_eq_true, Bool.true_eq_false, Bool.not_true, Bool.not_false, if_true, if_false, ite_true, ite_false, Nat.reduceEqDiff, Nat.reduceLT, true_and, List.map_cons, List.map_nil, Nat.zero_add, Nat.reduceBEq, e1, e2]
      refine calledW_of (hf ts[k] e σ' (List.getElem_mem _) e3) ?_
      rintro v σ'' ⟨rfl, g2⟩
      simp -dsimp only [↓WPd, ↓wpC_block, ↓wpC_cond, WPu, Bool.false_eq_true, Bool.true_eq_false, Bool.not_true, Bool.not_false, if_true, if_false, ite_true, ite_false, Nat.reduceEqDiff, Nat.reduceLT, true_and, List.map_cons, List.map_nil, Nat.zero_add, Nat.reduceBEq]
      refine condP_intro (fun h => ?_) (fun h => ?_)
      · simp -dsimp only [↓WPd, ↓wpC_block, ↓wpC_cond, WPu, Bool.false_eq_true, Bool.true_eq_false, Bool.not_true, Bool.not_false, if_true, if_false, ite_true, ite_false, Nat.reduceEqDiff, Nat.reduceLT, true_and, List.map_cons, List.map_nil, Nat.zero_add, Nat.reduceBEq]
        exact ⟨g.trans g2, .inr ⟨by rw [List.any_eq_true]; exact ⟨_, List.getElem_mem _, h⟩, k, rfl⟩⟩
      · simp -dsimp only [↓WPd, ↓wpC_block, ↓wpC_cond, WPu, Bool.false_eq_true, Bool.true_eq_false, Bool.not_true, Bool.not_false, if_true, if_false, ite_true, ite_false, Nat.reduceEqDiff, Nat.reduceLT, true_and, List.map_cons, List.map_nil, Nat.zero_add, Nat.reduceBEq]
        refine ⟨ts.length - (k + 1), by omega, k + 1, by omega, rfl, by rw [wrap_i64 (by omega) (by omega), Int.natCast_add, Int.natCast_one], g.trans g2, fun j hj hjk => ?_⟩
        by_cases e : j = k
        · subst e; exact h
        · exact hall j hj (by omega)
    · simp -dsimp only [↓WPd, ↓wpC_block, ↓wpC_cond, WPu, Bool.false_eq_true, Bool.true_eq_false, Bool.not_true, Bool.not_false, if_true, if_false, ite_true, ite_false, Nat.reduceEqDiff, Nat.reduceLT, true_and, List.map_cons, List.map_nil, Nat.zero_add, Nat.reduceBEq]
      refine ⟨g, .inl ?_⟩
      rw [List.any_eq_false]
      intro x hx
      obtain ⟨j, hj, rfl⟩ := List.getElem_of_mem hx
      rw [hall j hj (by omega)]; simp
  · rintro e σ' env ⟨g, ⟨rfl, hno⟩ | ⟨rfl, hyes, k, hv⟩⟩
    · simp -dsimp only [↓WPd, ↓wpC_block, ↓wpC_cond, WPu, Bool.false_eq_true, Bool.true_eq_false, Bool.not_true, Bool.not_false, if_true, if_false, ite_true, ite_false, Nat.reduceEqDiff, Nat.reduceLT, true_and, List.map_cons, List.map_nil, Nat.zero_add, Nat.reduceBEq]
      exact ⟨⟨_, rfl, by rw [hno]; rfl⟩, g⟩
    · simp only [List.map_cons, List.map_nil, List.cons.injEq, and_true] at hv
      simp -dsimp only [↓WPd, ↓wpC_block, ↓wpC_cond, WPu, Bool.false_eq_true, Bool.true_eq_false, Bool.not_true, Bool.not_false, if_true, if_false, ite_true, ite_false, Nat.reduceEqDiff, Nat.reduceLT, true_and, List.map_cons, List.map_nil, Nat.zero_add, Nat.reduceBEq, hv]
      exact ⟨⟨_, rfl, by rw [hyes]; simp⟩, g⟩
theorem tcontains_ok (f : FuncId) (p : List Cel → Bool) (l : AVal) (ts : List (List Cel)) (hx : ts.length < 2 ^ 40) (hl : Terms σ l ts) (hf : ∀ (t : List Cel) (e : AVal) (σ' : Store), t ∈ ts → SlOf σ' 5 e (CC t) → Called CU.cfg d f [e] σ' fun v σ'' => v = .bool (p t) ∧ Grows σ' σ'') :
    Called CU.cfg d 125 [l, .func f [] []] σ fun v σ' => v = .bool (ts.any p) ∧ Grows σ σ' := by
  refine called_of (fn := CU.a125) rfl (Nat.le_of_ble_eq_true rfl) ?_
  simp only [CU.a125]
  simp -dsimp only [↓WPd, ↓wpC_block, ↓wpC_cond, WPu, Bool.false_eq_true, Bool.true_eq_false, Bool.not_true, Bool.not_false, if_true, if_false, ite_true, ite_false, Nat.reduceEqDiff, Nat.reduceLT, true_and, List.map_cons, List.map_nil, Nat.zero_add, Nat.reduceBEq]
  refine calledW_of (tindex_ok d σ f p l ts hx hl hf) ?_
  rintro v σ1 ⟨⟨i, rfl, hi⟩, g⟩
  simp -dsimp only [↓WPd, ↓wpC_block, ↓wpC_cond, WPu, Bool.false_eq_true, Bool.true_eq_false, Bool.not_true, Bool.not_false, if_true, if_false, ite_true, ite_false, Nat.reduceEqDiff, Nat.reduceLT, true_and, List.map_cons, List.map_nil, Nat.zero_add, Nat.reduceBEq]
  have : decide (i ≥ 0) = ts.any p := hi
  rw [this]
  exact ⟨rfl, g⟩
end
end Go.Proofs.YtkjnanfkclijcaaDoor.Am

namespace Go.Proofs.YtkjnanfkclijcaaDoor.Am
open Go
set_option linter.unusedVariables false
set_option linter.unusedSimpArgs false
set_option linter.unusedSectionVars false
set_option maxRecDepth 100000
section
variable (d : Nat) (σ : Store)
end
end Go.Proofs.YtkjnanfkclijcaaDoor.Am

namespace Go.Proofs.YtkjnanfkclijcaaDoor.Am
open Go
set_option linter.unusedVariables false
set_option linter.unusedSimpArgs false
set_option linter.unusedSectionVars false
set_option maxRecDepth 100000
section
variable (d : Nat) (σ : Store)
end
end Go.Proofs.YtkjnanfkclijcaaDoor.Am

namespace Go.Proofs.YtkjnanfkclijcaaDoor.Am
open Go
set_option linter.unusedVariables false
set_option linter.unusedSimpArgs false
set_option linter.unusedSectionVars false
set_option maxRecDepth 100000
def isEqT (t : List Cel) : Bool := right t && isT t [61] 2
def EqR (σ σ' : Store) (t : List Cel) (a b : AVal) : Prop := Grows σ σ' ∧ match isEqT t with
  | true => ∃ x y, args t = [x, y] ∧ Own σ' 5 a (CC x) ∧ Own σ' 5 b (CC y) ∧ Fresh σ.length a ∧ Fresh σ.length b ∧ NoLit a ∧ NoLit b ∧ ∀ j, a.sid = some j → b.sid ≠ some j
  | false => a = .nilslice ∧ b = .nilslice
section
variable (d : Nat) (σ : Store)
end
end Go.Proofs.YtkjnanfkclijcaaDoor.Am

namespace Go.Proofs.YtkjnanfkclijcaaDoor.Am
open Go
set_option linter.unusedVariables false
set_option linter.unusedSimpArgs false
set_option linter.unusedSectionVars false
set_option maxRecDepth 100000
theorem ORows.cell {σ σ' : Store} {lo sz : Nat} {l : AVal} {es : List AVal} {ps : List (List AVal)} {id : Nat} {cs : List AVal} (h : ORows σ lo sz l es ps) (ho : σ[id]? = some (.cells cs)) (hk : Keeps (fun i => i = id) σ σ') : ORows σ' lo sz l es ps :=
  ⟨h.row.keeps hk fun i hi e => h.row.noCell ho (by rw [← e]; exact hi), h.len, fun i e p h1 h2 => (h.one i e p h1 h2).keeps hk fun j hj e' => (h.one i e p h1 h2).noCell ho (by rw [← e']; exact hj), h.frs, h.frl, h.apart, h.off, h.lit, h.litl⟩
section
variable (d : Nat) (σ : Store)
end
end Go.Proofs.YtkjnanfkclijcaaDoor.Am

namespace Go.Proofs.YtkjnanfkclijcaaDoor.Am
open Go
set_option linter.unusedVariables false
set_option linter.unusedSimpArgs false
set_option linter.unusedSectionVars false
set_option maxRecDepth 100000
section
variable (d : Nat) (σ : Store)
end
end Go.Proofs.YtkjnanfkclijcaaDoor.Am

namespace Go.Proofs.YtkjnanfkclijcaaDoor.Am
open Go
set_option maxRecDepth 100000
end Go.Proofs.YtkjnanfkclijcaaDoor.Am

namespace Go.Proofs.YtkjnanfkclijcaaDoor.Am
open Go
set_option linter.unusedVariables false
set_option linter.unusedSimpArgs false
set_option linter.unusedSectionVars false
set_option maxRecDepth 100000
def sides (t : List Cel) : List Cel × List Cel := if isEqT t then ((args t).getD 0 [], (args t).getD 1 []) else ([], [])
theorem EqR.own {σ σ' : Store} {t : List Cel} {a b : AVal} (h : EqR σ σ' t a b) : Grows σ σ' ∧ Own σ' 5 a (CC (sides t).1) ∧ Own σ' 5 b (CC (sides t).2) ∧ Fresh σ.length a ∧ Fresh σ.length b ∧ NoLit a ∧ NoLit b ∧ ∀ j, a.sid = some j → b.sid ≠ some j := by
  obtain ⟨g, h⟩ := h
  refine ⟨g, ?_⟩
  unfold sides
  cases he : isEqT t with
  | false =>
    rw [he] at h
    obtain ⟨rfl, rfl⟩ := h
    exact ⟨Own.nil _ _, Own.nil _ _, Fresh.nil _, Fresh.nil _, trivial, trivial, fun j h => by cases h⟩
  | true =>
    rw [he] at h
    obtain ⟨x, y, h1, h2, h3, h4⟩ := h
    rw [h1]
    exact ⟨h2, h3, h4⟩
section
variable (d : Nat) (σ : Store)
end
end Go.Proofs.YtkjnanfkclijcaaDoor.Am

namespace Go.Proofs.YtkjnanfkclijcaaDoor.Am
open Go
set_option linter.unusedVariables false
set_option linter.unusedSimpArgs false
def pairs : List (List Cel) → List (List Cel) → Option (List (List Cel))
  | p :: ps, q :: qs => if makeE [61] [p, q] = 0 then (pairs ps qs).map (makeT [61] [p, q] :: ·) else none
  | _, _ => some []
structure StepR where
  k : Nat
  v : Nm
  t : List Cel
  ps : List (List Cel)
end Go.Proofs.YtkjnanfkclijcaaDoor.Am

namespace Go.Proofs.YtkjnanfkclijcaaDoor.Am
open Go
set_option linter.unusedVariables false
set_option linter.unusedSimpArgs false
set_option linter.unusedSectionVars false
set_option maxRecDepth 100000
theorem ORows.terms {σ : Store} {lo : Nat} {l : AVal} {es : List AVal} {ts : List (List Cel)} (h : ORows σ lo 5 l es (ts.map CC)) : Terms σ l ts :=
  ⟨es, h.row.sl, Two.of_get (by rw [h.len, List.length_map]) fun i a b ha hb => (h.one i a (CC b) ha (by rw [List.getElem?_map, hb]; rfl)).sl⟩
theorem ORows.lo {σ : Store} {lo lo' sz : Nat} {l : AVal} {es : List AVal} {ps : List (List AVal)} (h : ORows σ lo sz l es ps) (hl : lo' ≤ lo) : ORows σ lo' sz l es ps :=
  ⟨h.row, h.len, h.one, fun i e he => (h.frs i e he).le hl, h.frl.le hl, h.apart, h.off, h.lit, h.litl⟩
theorem lit1_ok {a : AVal} (ha : a.one = true) : fillL 1 false (List.replicate 1 (zel [AVal.nilslice] false)) [(0, a)] = some [a] := by
  have hc : a.cells = [a] := by cases a <;> simp_all [AVal.one]
  have h1 : [a].all AVal.one = true := by simp only [List.all_cons, List.all_nil, ha]; rfl
  have h2 : isAggV a = false := by cases a <;> first | (cases ha; done) | rfl
  simp only [fillL, hc, h1, h2]
  rfl
theorem celvar_load {c : Cel} {σ : Store} {i : Nat} (h : σ[i]? = some (.cells c.cs)) : loadV σ 2 true (.ptr i 3) = some (nmV c.v) := by
  have : behind σ (.ptr i 3) = some (c.cs, 3) := by simp only [behind, h]
  exact loadN_at this (by simp [Cel.cs])
section
variable (d : Nat) (σ : Store)
end
end Go.Proofs.YtkjnanfkclijcaaDoor.Am

namespace Go.Proofs.YtkjnanfkclijcaaDoor.Am
open Go
set_option linter.unusedVariables false
set_option linter.unusedSimpArgs false
set_option linter.unusedSectionVars false
set_option maxRecDepth 100000
structure BdArg (v : AVal) (bs : Hp) : Prop where
  row : ∃ es, (∀ σ : Store, SlOf σ 3 v es) ∧ Two (fun e p => ∃ u, e = bdV p.1 u ∧ Told u p.2) es bs
  small : ∀ p ∈ bs, Small p.2
  len : bs.length < 2 ^ 26
def bindsH (H : Hp) (bs : Hp) : Hp := bs.foldl (fun H p => bindH H p.1 p.2) H
def bindsR (R : Hp) (bs : Hp) : Hp := bs.foldl (fun R p => bindR R p.1 p.2) R
theorem Same.binds : ∀ (bs : Hp) {H R : Hp}, Same H R → Same (bindsH H bs) (bindsR R bs)
  | [], _, _, h => h
  | p :: bs, _, _, h => Same.binds bs (h.bind p.1 p.2)
theorem BdArg.at {v : AVal} {bs : Hp} (h : BdArg v bs) {k : Nat} (hk : k < bs.length) (σ : Store) : ∃ q0 q2 u, iaddrV 3 v (.int .i64 k) = some (addrOf 3 v k) ∧ faddrV 0 (addrOf 3 v k) = some q0 ∧ loadV σ 2 true q0 = some (nmV bs[k].1) ∧ faddrV 2 (addrOf 3 v k) = some q2 ∧ loadV σ 1 false q2 = some u ∧ Told u bs[k].2 := by
  obtain ⟨es, h1, h2⟩ := h.row
  have hke : k < es.length := by rw [h2.len]; exact hk
  obtain ⟨e, he1, u, he2, he3⟩ := h2.get hk
  have hee : es[k] = e := by rw [List.getElem?_eq_getElem hke] at he1; exact Option.some.inj he1
  have hb := ((h1 σ).addr hke .i64).2
  rw [hee, he2] at hb
  have hb' : behind σ (addrOf 3 v k) = some (bdC (bs[k]).1 u, 0) := hb
  obtain ⟨q0, p0, b0⟩ := faddr_at hb' 0
  obtain ⟨q2, p2, b2⟩ := faddr_at hb' 2
  exact ⟨q0, q2, u, (h1 σ).iaddr hke .i64, p0, loadN_at b0 (by simp [bdC]), p2, load_at b2, he3⟩
section
variable (d : Nat) (σ : Store)
end
structure Turned (r s : StepR) : Prop where
  k : r.k = s.k
  v : r.v = s.v
  t : r.t = s.t
  len : r.ps.length = s.ps.length
  parts : ∀ (i : Nat) (h : i < r.ps.length) (h' : i < s.ps.length), ∃ p q, r.ps[i] = makeT [61] [p, q] ∧ s.ps[i] = makeT [61] [q, p] ∧ makeE [61] [p, q] = 0 ∧ makeE [61] [q, p] = 0
theorem Turned.plain {r : StepR} (h : r.ps = []) : Turned r r := ⟨rfl, rfl, rfl, rfl, fun i hi => by rw [h] at hi; simp at hi⟩
end Go.Proofs.YtkjnanfkclijcaaDoor.Am

namespace Go.Proofs.YtkjnanfkclijcaaDoor.Am
open Go Go.RowKit Go.ChangeShapes Go.WideShapes Go.ChangeAt Go.Proofs.YtkjnanfkclijcaaDoor.Rows
set_option linter.unusedVariables false
set_option linter.unusedSimpArgs false
set_option maxRecDepth 100000
section
variable {H : Type}
theorem name_at {n : Nat} {d : DataW H} (h : Typed Tryd.prog (n + 2) 46 d) : ∃ v : Nm, dec Tryd.prog (n + 2) 46 d = [.int .i64 v.1, .int .i64 v.2] ∧ Nm.In v :=
  name_dec (n := n) Tryd.underlying46 Tryd.underlying3 Tryd.underlying3 h
theorem cel_at {n : Nat} {d : DataW H} (h : Typed Tryd.prog (n + 3) 83 d) : ∃ c : Cel, argV Tryd.prog (n + 3) 83 d = c.val ∧ c.In ∧ c.s.length ≤ uptoBulk d :=
  cel_dec (n := n) Tryd.underlying83 Tryd.underlying81 Tryd.underlying9 Tryd.underlying3 Tryd.underlying46 Tryd.underlying3 Tryd.underlying3 h
theorem term_at {n : Nat} {d : DataW H} (h : Typed Tryd.prog (n + 4) 23 d) :
    ∃ cs : List Cel, (∀ σ, SlOf σ 5 (argV Tryd.prog (n + 4) 23 d) (CC cs)) ∧ (∀ c ∈ cs, c.In) ∧ cs.length ≤ uptoBulk d ∧ (cs.map fun c => c.s.length).sum ≤ uptoBulk d :=
  term_of (n := n + 3) Tryd.underlying23 (by kernel_rfl) (fun d hd => cel_at hd) h
theorem cells_in {cs : List Cel} {b : Nat} (h1 : ∀ c ∈ cs, c.In) (h2 : (cs.map fun c => c.s.length).sum ≤ b) (hb : b < 2 ^ 40) : ∀ c ∈ cs, c.k < 256 ∧ c.s.length < 2 ^ 40 := fun c hc =>
  ⟨(h1 c hc).1, by have := mem_sum (fun c : Cel => c.s.length) hc; omega⟩
theorem term_told {n : Nat} {d : DataW H} (h : Typed Tryd.prog (n + 4) 23 d) (hb : uptoBulk d ≤ 1048576) : ∃ t : List Cel, Told (argV Tryd.prog (n + 4) 23 d) t ∧ Small t ∧ (∀ c ∈ t, c.In) ∧ t.length ≤ uptoBulk d := by
  obtain ⟨cs, h1, h2, h3, h4⟩ := term_at h
  exact ⟨cs, h1, ⟨by omega, cells_in h2 h4 (by omega)⟩, h2, h3⟩
end
end Go.Proofs.YtkjnanfkclijcaaDoor.Am

namespace Go.Proofs.YtkjnanfkclijcaaDoor.Am
open Go Go.RowKit
set_option linter.unusedVariables false
set_option linter.unusedSimpArgs false
section
variable {P : Program} {cfg : Cfg} {H : Type} {enc : TypeId × Value → H} {W : World}
theorem texts_read {m base : Nat} {sp : Nat → Bool} {held : Bool} {e : TypeId} (he : P.underlying e = some .string) : ∀ (xs : List (DataW H × List MemPlace)) (cs : List Value), cs.length = xs.length →
    (∀ i, i < xs.length → DataW.trod enc P W base sp held m e ((cs.drop i).take 1) = xs[i]?) → ∃ bs : List ByteArray, cs = bs.map Value.string ∧ xs.map (·.1) = bs.map fun b => .lit (.string b.data.toList)
  | [], cs, hl, _ => ⟨[], by simpa using List.eq_nil_of_length_eq_zero hl, rfl⟩
  | x :: xs, [], hl, _ => by simp at hl
  | x :: xs, c :: cs, hl, h => by
    have h0 := h 0 (by simp)
    simp only [List.drop_zero, List.take_succ_cons, List.take_zero, List.getElem?_cons_zero] at h0
    obtain ⟨s, e1, e2, _⟩ := DataW.trod_string he h0
    obtain ⟨bs, r1, r2⟩ := texts_read he xs cs (by simpa using hl) (fun i hi => by simpa using h (i + 1) (by simpa using hi))
    injection e1 with e1
    exact ⟨s :: bs, by rw [e1, r1]; rfl, by rw [e2, List.map_cons, r2]; rfl⟩
theorem texts_inj : ∀ {ss : List (List UInt8)} {bs : List ByteArray}, (ss.map fun s => (DataW.lit (.string s) : DataW H)) = (bs.map fun b => .lit (.string b.data.toList)) → ss = bs.map fun b => b.data.toList
  | [], [], _ => rfl
  | [], _ :: _, h => by simp at h
  | _ :: _, [], h => by simp at h
  | s :: ss, b :: bs, h => by
    simp only [List.map_cons, List.cons.injEq] at h ⊢
    obtain ⟨h1, h2⟩ := h
    injection h1 with h1
    injection h1 with h1
    exact ⟨h1, texts_inj h2⟩
theorem gl_of_laid {name : String} {g : Nat} {t e : TypeId} {n : Nat} {ss : List (List UInt8)} (hg : P.globalNamed name = some g) (ht : (P.globals[g]?).map (·.type) = some t) (hu : P.underlying t = some (.array n e)) (he : P.underlying e = some .string)
    (hce : P.cellsOf e = 1) (hct : P.cellsOf t = n) (hglob : ∀ i cs, cfg.glob i = some cs → i = g ∧ cs = ss.map AVal.str) (h : laidMet P [(name, .agg (ss.map fun s => .lit (.string s)))] W) : Gl cfg startE (startK W) := by
  intro i cs hi
  obtain ⟨rfl, rfl⟩ := hglob i cs hi
  obtain ⟨ps, ⟨g', t', cs', fuel, p, q, e1, e2, e3, e4, _, _⟩, _, _⟩ := h
  obtain rfl := Option.some.inj (hg.symm.trans e1)
  obtain rfl := Option.some.inj (ht.symm.trans e2)
  have hb : ∃ ty f, W.heap[i]? = some (.cells cs' ty f) := by
    simp only [World.var?, hg, Option.bind_some] at e3
    split at e3
    · rename_i c ty f hc
      injection e3 with e3; subst e3
      exact ⟨ty, f, hc⟩
    · cases e3
  obtain ⟨ty, f, hb⟩ := hb
  obtain ⟨xs, m, rfl, hx, hl, hxl, hel⟩ := DataW.trod_array hu e4
  obtain ⟨bs, r1, r2⟩ := texts_read he xs cs'.toList (by rw [hl, hct, hxl]) (fun i hi => by
    have := hel i (by omega)
    rw [hce, Nat.mul_one] at this
    exact this)
  injection hx with hx _
  injection hx with hx
  have hss := texts_inj (hx.trans r2)
  have hrel : ∀ bs : List ByteArray, VRelL cfg.conc W.heap ((startK W).safe startE) noIds ((bs.map fun b => b.data.toList).map AVal.str) (bs.map Value.string) := by
    intro bs
    induction bs with
    | nil => exact .nil _
    | cons b bs ih => exact .cons _ _ _ _ _ (.str _ b) ih
  have := VRel.fptr (cf := cfg.conc) (h := W.heap) (S := (startK W).safe startE) noIds 0 (ss.map AVal.str) 0 i 0 cs'.toList ⟨(Array.getElem?_eq_some_iff.1 hb).1, start_own W i, fun k _ hk => by simp [startE] at hk⟩
    (by rw [hss, r1]; exact hrel bs) (fun c hc => by obtain ⟨s, _, rfl⟩ := List.mem_map.1 hc; rfl) (fun c hc => by obtain ⟨s, _, rfl⟩ := List.mem_map.1 hc; exact Nat.le_refl _)
    (fun j v hj => by simp only [cellAt, hb, Nat.zero_add]; simpa using hj)
  exact this
end
end Go.Proofs.YtkjnanfkclijcaaDoor.Am

namespace Go.Proofs.YtkjnanfkclijcaaDoor.Am.CU
open Go Go.Proofs.YtkjnanfkclijcaaDoor.Am
set_option linter.unusedVariables false
set_option maxRecDepth 100000
set_option maxHeartbeats 4000000
theorem ok6 : FnOk cfg Tryd.prog 6 a6 := ⟨⟨Tryd.f6, _, Tryd.func6, by decide, rfl, rfl, by kernel_rfl, by kernel_rfl⟩⟩
theorem ok18 : FnOk cfg Tryd.prog 18 a18 := ⟨⟨Tryd.f18, _, Tryd.func18, by decide, rfl, rfl, by kernel_rfl, by kernel_rfl⟩⟩
theorem ok25 : FnOk cfg Tryd.prog 25 a25 := ⟨⟨Tryd.f25, _, Tryd.func25, by decide, rfl, rfl, by kernel_rfl, by kernel_rfl⟩⟩
theorem ok30 : FnOk cfg Tryd.prog 30 a30 := ⟨⟨Tryd.f30, _, Tryd.func30, by decide, rfl, rfl, by kernel_rfl, by kernel_rfl⟩⟩
theorem ok31 : FnOk cfg Tryd.prog 31 a31 := ⟨⟨Tryd.f31, _, Tryd.func31, by decide, rfl, rfl, by kernel_rfl, by kernel_rfl⟩⟩
theorem ok32 : FnOk cfg Tryd.prog 32 a32 := ⟨⟨Tryd.f32, _, Tryd.func32, by decide, rfl, rfl, by kernel_rfl, by kernel_rfl⟩⟩
theorem ok33 : FnOk cfg Tryd.prog 33 a33 := ⟨⟨Tryd.f33, _, Tryd.func33, by decide, rfl, rfl, by kernel_rfl, by kernel_rfl⟩⟩
theorem ok34 : FnOk cfg Tryd.prog 34 a34 := ⟨⟨Tryd.f34, _, Tryd.func34, by decide, rfl, rfl, by kernel_rfl, by kernel_rfl⟩⟩
theorem ok44 : FnOk cfg Tryd.prog 44 a44 := ⟨⟨Tryd.f44, _, Tryd.func44, by decide, rfl, rfl, by kernel_rfl, by kernel_rfl⟩⟩
theorem ok48 : FnOk cfg Tryd.prog 48 a48 := ⟨⟨Tryd.f48, _, Tryd.func48, by decide, rfl, rfl, by kernel_rfl, by kernel_rfl⟩⟩
theorem ok60 : FnOk cfg Tryd.prog 60 a60 := ⟨⟨Tryd.f60, _, Tryd.func60, by decide, rfl, rfl, by kernel_rfl, by kernel_rfl⟩⟩
theorem ok62 : FnOk cfg Tryd.prog 62 a62 := ⟨⟨Tryd.f62, _, Tryd.func62, by decide, rfl, rfl, by kernel_rfl, by kernel_rfl⟩⟩
theorem ok63 : FnOk cfg Tryd.prog 63 a63 := ⟨⟨Tryd.f63, _, Tryd.func63, by decide, rfl, rfl, by kernel_rfl, by kernel_rfl⟩⟩
theorem ok66 : FnOk cfg Tryd.prog 66 a66 := ⟨⟨Tryd.f66, _, Tryd.func66, by decide, rfl, rfl, by kernel_rfl, by kernel_rfl⟩⟩
theorem ok78 : FnOk cfg Tryd.prog 78 a78 := ⟨⟨Tryd.f78, _, Tryd.func78, by decide, rfl, rfl, by kernel_rfl, by kernel_rfl⟩⟩
theorem ok80 : FnOk cfg Tryd.prog 80 a80 := ⟨⟨Tryd.f80, _, Tryd.func80, by decide, rfl, rfl, by kernel_rfl, by kernel_rfl⟩⟩
theorem ok82 : FnOk cfg Tryd.prog 82 a82 := ⟨⟨Tryd.f82, _, Tryd.func82, by decide, rfl, rfl, by kernel_rfl, by kernel_rfl⟩⟩
theorem ok83 : FnOk cfg Tryd.prog 83 a83 := ⟨⟨Tryd.f83, _, Tryd.func83, by decide, rfl, rfl, by kernel_rfl, by kernel_rfl⟩⟩
theorem ok85 : FnOk cfg Tryd.prog 85 a85 := ⟨⟨Tryd.f85, _, Tryd.func85, by decide, rfl, rfl, by kernel_rfl, by kernel_rfl⟩⟩
theorem ok86 : FnOk cfg Tryd.prog 86 a86 := ⟨⟨Tryd.f86, _, Tryd.func86, by decide, rfl, rfl, by kernel_rfl, by kernel_rfl⟩⟩
theorem ok88 : FnOk cfg Tryd.prog 88 a88 := ⟨⟨Tryd.f88, _, Tryd.func88, by decide, rfl, rfl, by kernel_rfl, by kernel_rfl⟩⟩
theorem ok89 : FnOk cfg Tryd.prog 89 a89 := ⟨⟨Tryd.f89, _, Tryd.func89, by decide, rfl, rfl, by kernel_rfl, by kernel_rfl⟩⟩
theorem ok90 : FnOk cfg Tryd.prog 90 a90 := ⟨⟨Tryd.f90, _, Tryd.func90, by decide, rfl, rfl, by kernel_rfl, by kernel_rfl⟩⟩
theorem ok91 : FnOk cfg Tryd.prog 91 a91 := ⟨⟨Tryd.f91, _, Tryd.func91, by decide, rfl, rfl, by kernel_rfl, by kernel_rfl⟩⟩
theorem ok92 : FnOk cfg Tryd.prog 92 a92 := ⟨⟨Tryd.f92, _, Tryd.func92, by decide, rfl, rfl, by kernel_rfl, by kernel_rfl⟩⟩
theorem ok93 : FnOk cfg Tryd.prog 93 a93 := ⟨⟨Tryd.f93, _, Tryd.func93, by decide, rfl, rfl, by kernel_rfl, by kernel_rfl⟩⟩
theorem ok94 : FnOk cfg Tryd.prog 94 a94 := ⟨⟨Tryd.f94, _, Tryd.func94, by decide, rfl, rfl, by kernel_rfl, by kernel_rfl⟩⟩
theorem ok95 : FnOk cfg Tryd.prog 95 a95 := ⟨⟨Tryd.f95, _, Tryd.func95, by decide, rfl, rfl, by kernel_rfl, by kernel_rfl⟩⟩
theorem ok96 : FnOk cfg Tryd.prog 96 a96 := ⟨⟨Tryd.f96, _, Tryd.func96, by decide, rfl, rfl, by kernel_rfl, by kernel_rfl⟩⟩
theorem ok100 : FnOk cfg Tryd.prog 100 a100 := ⟨⟨Tryd.f100, _, Tryd.func100, by decide, rfl, rfl, by kernel_rfl, by kernel_rfl⟩⟩
theorem ok101 : FnOk cfg Tryd.prog 101 a101 := ⟨⟨Tryd.f101, _, Tryd.func101, by decide, rfl, rfl, by kernel_rfl, by kernel_rfl⟩⟩
theorem ok103 : FnOk cfg Tryd.prog 103 a103 := ⟨⟨Tryd.f103, _, Tryd.func103, by decide, rfl, rfl, by kernel_rfl, by kernel_rfl⟩⟩
theorem ok106 : FnOk cfg Tryd.prog 106 a106 := ⟨⟨Tryd.f106, _, Tryd.func106, by decide, rfl, rfl, by kernel_rfl, by kernel_rfl⟩⟩
theorem ok113 : FnOk cfg Tryd.prog 113 a113 := ⟨⟨Tryd.f113, _, Tryd.func113, by decide, rfl, rfl, by kernel_rfl, by kernel_rfl⟩⟩
theorem ok114 : FnOk cfg Tryd.prog 114 a114 := ⟨⟨Tryd.f114, _, Tryd.func114, by decide, rfl, rfl, by kernel_rfl, by kernel_rfl⟩⟩
theorem ok115 : FnOk cfg Tryd.prog 115 a115 := ⟨⟨Tryd.f115, _, Tryd.func115, by decide, rfl, rfl, by kernel_rfl, by kernel_rfl⟩⟩
theorem ok116 : FnOk cfg Tryd.prog 116 a116 := ⟨⟨Tryd.f116, _, Tryd.func116, by decide, rfl, rfl, by kernel_rfl, by kernel_rfl⟩⟩
theorem ok117 : FnOk cfg Tryd.prog 117 a117 := ⟨⟨Tryd.f117, _, Tryd.func117, by decide, rfl, rfl, by kernel_rfl, by kernel_rfl⟩⟩
theorem ok118 : FnOk cfg Tryd.prog 118 a118 := ⟨⟨Tryd.f118, _, Tryd.func118, by decide, rfl, rfl, by kernel_rfl, by kernel_rfl⟩⟩
theorem ok124 : FnOk cfg Tryd.prog 124 a124 := ⟨⟨Tryd.f124, _, Tryd.func124, by decide, rfl, rfl, by kernel_rfl, by kernel_rfl⟩⟩
theorem ok125 : FnOk cfg Tryd.prog 125 a125 := ⟨⟨Tryd.f125, _, Tryd.func125, by decide, rfl, rfl, by kernel_rfl, by kernel_rfl⟩⟩
theorem ok128 : FnOk cfg Tryd.prog 128 a128 := ⟨⟨Tryd.f128, _, Tryd.func128, by decide, rfl, rfl, by kernel_rfl, by kernel_rfl⟩⟩
theorem ok129 : FnOk cfg Tryd.prog 129 a129 := ⟨⟨Tryd.f129, _, Tryd.func129, by decide, rfl, rfl, by kernel_rfl, by kernel_rfl⟩⟩
theorem ok130 : FnOk cfg Tryd.prog 130 a130 := ⟨⟨Tryd.f130, _, Tryd.func130, by decide, rfl, rfl, by kernel_rfl, by kernel_rfl⟩⟩
theorem ok131 : FnOk cfg Tryd.prog 131 a131 := ⟨⟨Tryd.f131, _, Tryd.func131, by decide, rfl, rfl, by kernel_rfl, by kernel_rfl⟩⟩
theorem ok132 : FnOk cfg Tryd.prog 132 a132 := ⟨⟨Tryd.f132, _, Tryd.func132, by decide, rfl, rfl, by kernel_rfl, by kernel_rfl⟩⟩
theorem ok133 : FnOk cfg Tryd.prog 133 a133 := ⟨⟨Tryd.f133, _, Tryd.func133, by decide, rfl, rfl, by kernel_rfl, by kernel_rfl⟩⟩
theorem ok137 : FnOk cfg Tryd.prog 137 a137 := ⟨⟨Tryd.f137, _, Tryd.func137, by decide, rfl, rfl, by kernel_rfl, by kernel_rfl⟩⟩
theorem ok138 : FnOk cfg Tryd.prog 138 a138 := ⟨⟨Tryd.f138, _, Tryd.func138, by decide, rfl, rfl, by kernel_rfl, by kernel_rfl⟩⟩
theorem ok139 : FnOk cfg Tryd.prog 139 a139 := ⟨⟨Tryd.f139, _, Tryd.func139, by decide, rfl, rfl, by kernel_rfl, by kernel_rfl⟩⟩
theorem ok140 : FnOk cfg Tryd.prog 140 a140 := ⟨⟨Tryd.f140, _, Tryd.func140, by decide, rfl, rfl, by kernel_rfl, by kernel_rfl⟩⟩
theorem ok151 : FnOk cfg Tryd.prog 151 a151 := ⟨⟨Tryd.f151, _, Tryd.func151, by decide, rfl, rfl, by kernel_rfl, by kernel_rfl⟩⟩
theorem ok152 : FnOk cfg Tryd.prog 152 a152 := ⟨⟨Tryd.f152, _, Tryd.func152, by decide, rfl, rfl, by kernel_rfl, by kernel_rfl⟩⟩
theorem ok153 : FnOk cfg Tryd.prog 153 a153 := ⟨⟨Tryd.f153, _, Tryd.func153, by decide, rfl, rfl, by kernel_rfl, by kernel_rfl⟩⟩
theorem ok154 : FnOk cfg Tryd.prog 154 a154 := ⟨⟨Tryd.f154, _, Tryd.func154, by decide, rfl, rfl, by kernel_rfl, by kernel_rfl⟩⟩
theorem ok155 : FnOk cfg Tryd.prog 155 a155 := ⟨⟨Tryd.f155, _, Tryd.func155, by decide, rfl, rfl, by kernel_rfl, by kernel_rfl⟩⟩
theorem ok156 : FnOk cfg Tryd.prog 156 a156 := ⟨⟨Tryd.f156, _, Tryd.func156, by decide, rfl, rfl, by kernel_rfl, by kernel_rfl⟩⟩
theorem ok157 : FnOk cfg Tryd.prog 157 a157 := ⟨⟨Tryd.f157, _, Tryd.func157, by decide, rfl, rfl, by kernel_rfl, by kernel_rfl⟩⟩
theorem ok158 : FnOk cfg Tryd.prog 158 a158 := ⟨⟨Tryd.f158, _, Tryd.func158, by decide, rfl, rfl, by kernel_rfl, by kernel_rfl⟩⟩
theorem ok159 : FnOk cfg Tryd.prog 159 a159 := ⟨⟨Tryd.f159, _, Tryd.func159, by decide, rfl, rfl, by kernel_rfl, by kernel_rfl⟩⟩
theorem ok160 : FnOk cfg Tryd.prog 160 a160 := ⟨⟨Tryd.f160, _, Tryd.func160, by decide, rfl, rfl, by kernel_rfl, by kernel_rfl⟩⟩
theorem ok161 : FnOk cfg Tryd.prog 161 a161 := ⟨⟨Tryd.f161, _, Tryd.func161, by decide, rfl, rfl, by kernel_rfl, by kernel_rfl⟩⟩
theorem ok162 : FnOk cfg Tryd.prog 162 a162 := ⟨⟨Tryd.f162, _, Tryd.func162, by decide, rfl, rfl, by kernel_rfl, by kernel_rfl⟩⟩
theorem ok164 : FnOk cfg Tryd.prog 164 a164 := ⟨⟨Tryd.f164, _, Tryd.func164, by decide, rfl, rfl, by kernel_rfl, by kernel_rfl⟩⟩
theorem ok166 : FnOk cfg Tryd.prog 166 a166 := ⟨⟨Tryd.f166, _, Tryd.func166, by decide, rfl, rfl, by kernel_rfl, by kernel_rfl⟩⟩
theorem ok167 : FnOk cfg Tryd.prog 167 a167 := ⟨⟨Tryd.f167, _, Tryd.func167, by decide, rfl, rfl, by kernel_rfl, by kernel_rfl⟩⟩
theorem ok168 : FnOk cfg Tryd.prog 168 a168 := ⟨⟨Tryd.f168, _, Tryd.func168, by decide, rfl, rfl, by kernel_rfl, by kernel_rfl⟩⟩
theorem ok169 : FnOk cfg Tryd.prog 169 a169 := ⟨⟨Tryd.f169, _, Tryd.func169, by decide, rfl, rfl, by kernel_rfl, by kernel_rfl⟩⟩
theorem ok173 : FnOk cfg Tryd.prog 173 a173 := ⟨⟨Tryd.f173, _, Tryd.func173, by decide, rfl, rfl, by kernel_rfl, by kernel_rfl⟩⟩
theorem ok174 : FnOk cfg Tryd.prog 174 a174 := ⟨⟨Tryd.f174, _, Tryd.func174, by decide, rfl, rfl, by kernel_rfl, by kernel_rfl⟩⟩
theorem ok175 : FnOk cfg Tryd.prog 175 a175 := ⟨⟨Tryd.f175, _, Tryd.func175, by decide, rfl, rfl, by kernel_rfl, by kernel_rfl⟩⟩
theorem ok176 : FnOk cfg Tryd.prog 176 a176 := ⟨⟨Tryd.f176, _, Tryd.func176, by decide, rfl, rfl, by kernel_rfl, by kernel_rfl⟩⟩
theorem ok177 : FnOk cfg Tryd.prog 177 a177 := ⟨⟨Tryd.f177, _, Tryd.func177, by decide, rfl, rfl, by kernel_rfl, by kernel_rfl⟩⟩
theorem ok188 : FnOk cfg Tryd.prog 188 a188 := ⟨⟨Tryd.f188, _, Tryd.func188, by decide, rfl, rfl, by kernel_rfl, by kernel_rfl⟩⟩
theorem ok189 : FnOk cfg Tryd.prog 189 a189 := ⟨⟨Tryd.f189, _, Tryd.func189, by decide, rfl, rfl, by kernel_rfl, by kernel_rfl⟩⟩
theorem ok190 : FnOk cfg Tryd.prog 190 a190 := ⟨⟨Tryd.f190, _, Tryd.func190, by decide, rfl, rfl, by kernel_rfl, by kernel_rfl⟩⟩
theorem ok196 : FnOk cfg Tryd.prog 196 a196 := ⟨⟨Tryd.f196, _, Tryd.func196, by decide, rfl, rfl, by kernel_rfl, by kernel_rfl⟩⟩
theorem ok197 : FnOk cfg Tryd.prog 197 a197 := ⟨⟨Tryd.f197, _, Tryd.func197, by decide, rfl, rfl, by kernel_rfl, by kernel_rfl⟩⟩
theorem ok198 : FnOk cfg Tryd.prog 198 a198 := ⟨⟨Tryd.f198, _, Tryd.func198, by decide, rfl, rfl, by kernel_rfl, by kernel_rfl⟩⟩
theorem ok199 : FnOk cfg Tryd.prog 199 a199 := ⟨⟨Tryd.f199, _, Tryd.func199, by decide, rfl, rfl, by kernel_rfl, by kernel_rfl⟩⟩
theorem ok200 : FnOk cfg Tryd.prog 200 a200 := ⟨⟨Tryd.f200, _, Tryd.func200, by decide, rfl, rfl, by kernel_rfl, by kernel_rfl⟩⟩
theorem ok202 : FnOk cfg Tryd.prog 202 a202 := ⟨⟨Tryd.f202, _, Tryd.func202, by decide, rfl, rfl, by kernel_rfl, by kernel_rfl⟩⟩
theorem ok203 : FnOk cfg Tryd.prog 203 a203 := ⟨⟨Tryd.f203, _, Tryd.func203, by decide, rfl, rfl, by kernel_rfl, by kernel_rfl⟩⟩
theorem ok204 : FnOk cfg Tryd.prog 204 a204 := ⟨⟨Tryd.f204, _, Tryd.func204, by decide, rfl, rfl, by kernel_rfl, by kernel_rfl⟩⟩
theorem orF_cases {a b : Option AFunc} {x : AFunc} (h : orF a b = some x) : a = some x ∨ b = some x := by
  unfold orF at h
  split at h
  · exact .inl h
  · exact .inr h
theorem fns0 (f : FuncId) (fn : AFunc) (h : ir0 f = some fn) : FnOk cfg Tryd.prog f fn := by
  unfold ir0 at h
  split at h
  · injection h with h; subst h; exact ok6
  · injection h with h; subst h; exact ok18
  · injection h with h; subst h; exact ok25
  · injection h with h; subst h; exact ok30
  · injection h with h; subst h; exact ok31
  · injection h with h; subst h; exact ok32
  · injection h with h; subst h; exact ok33
  · injection h with h; subst h; exact ok34
  · injection h with h; subst h; exact ok44
  · injection h with h; subst h; exact ok48
  · injection h with h; subst h; exact ok60
  · injection h with h; subst h; exact ok62
  · injection h with h; subst h; exact ok63
  · injection h with h; subst h; exact ok66
  · injection h with h; subst h; exact ok78
  · injection h with h; subst h; exact ok80
  · injection h with h; subst h; exact ok82
  · injection h with h; subst h; exact ok83
  · injection h with h; subst h; exact ok85
  · injection h with h; subst h; exact ok86
  · injection h with h; subst h; exact ok88
  · injection h with h; subst h; exact ok89
  · injection h with h; subst h; exact ok90
  · injection h with h; subst h; exact ok91
  · injection h with h; subst h; exact ok92
  · injection h with h; subst h; exact ok93
  · injection h with h; subst h; exact ok94
  · injection h with h; subst h; exact ok95
  · injection h with h; subst h; exact ok96
  · injection h with h; subst h; exact ok100
  · injection h with h; subst h; exact ok101
  · injection h with h; subst h; exact ok103
  · injection h with h; subst h; exact ok106
  · injection h with h; subst h; exact ok113
  · injection h with h; subst h; exact ok114
  · injection h with h; subst h; exact ok115
  · injection h with h; subst h; exact ok116
  · injection h with h; subst h; exact ok117
  · injection h with h; subst h; exact ok118
  · injection h with h; subst h; exact ok124
  · cases h
theorem fns1 (f : FuncId) (fn : AFunc) (h : ir1 f = some fn) : FnOk cfg Tryd.prog f fn := by
  unfold ir1 at h
  split at h
  · injection h with h; subst h; exact ok125
  · injection h with h; subst h; exact ok128
  · injection h with h; subst h; exact ok129
  · injection h with h; subst h; exact ok130
  · injection h with h; subst h; exact ok131
  · injection h with h; subst h; exact ok132
  · injection h with h; subst h; exact ok133
  · injection h with h; subst h; exact ok137
  · injection h with h; subst h; exact ok138
  · injection h with h; subst h; exact ok139
  · injection h with h; subst h; exact ok140
  · injection h with h; subst h; exact ok151
  · injection h with h; subst h; exact ok152
  · injection h with h; subst h; exact ok153
  · injection h with h; subst h; exact ok154
  · injection h with h; subst h; exact ok155
  · injection h with h; subst h; exact ok156
  · injection h with h; subst h; exact ok157
  · injection h with h; subst h; exact ok158
  · injection h with h; subst h; exact ok159
  · injection h with h; subst h; exact ok160
  · injection h with h; subst h; exact ok161
  · injection h with h; subst h; exact ok162
  · injection h with h; subst h; exact ok164
  · injection h with h; subst h; exact ok166
  · injection h with h; subst h; exact ok167
  · injection h with h; subst h; exact ok168
  · injection h with h; subst h; exact ok169
  · injection h with h; subst h; exact ok173
  · injection h with h; subst h; exact ok174
  · injection h with h; subst h; exact ok175
  · injection h with h; subst h; exact ok176
  · injection h with h; subst h; exact ok177
  · injection h with h; subst h; exact ok188
  · injection h with h; subst h; exact ok189
  · injection h with h; subst h; exact ok190
  · injection h with h; subst h; exact ok196
  · injection h with h; subst h; exact ok197
  · injection h with h; subst h; exact ok198
  · injection h with h; subst h; exact ok199
  · cases h
theorem fns2 (f : FuncId) (fn : AFunc) (h : ir2 f = some fn) : FnOk cfg Tryd.prog f fn := by
  unfold ir2 at h
  split at h
  · injection h with h; subst h; exact ok200
  · injection h with h; subst h; exact ok202
  · injection h with h; subst h; exact ok203
  · injection h with h; subst h; exact ok204
  · cases h
theorem fns : ∀ f fn, cfg.ir f = some fn → FnOk cfg Tryd.prog f fn := by
  intro f fn h
  rcases orF_cases h with h | h
  · exact fns0 f fn h
  rcases orF_cases h with h | h
  · exact fns1 f fn h
  exact fns2 f fn h
theorem all : CfgOk Tryd.prog cfg := ⟨fns, fun _ _ h => by cases h⟩
end Go.Proofs.YtkjnanfkclijcaaDoor.Am.CU

namespace Go.Proofs.YtkjnanfkclijcaaDoor.Am
open Go
set_option linter.unusedVariables false
set_option linter.unusedSimpArgs false
set_option linter.unusedSectionVars false
def addN (ws : List Nm) (v : Nm) : List Nm := if ws.contains v then ws else ws ++ [v]
theorem addN_len (ws : List Nm) (v : Nm) : (addN ws v).length ≤ ws.length + 1 := by unfold addN; split <;> simp
def varsL (ws : List Nm) (t : List Cel) : List Nm := t.foldl (fun ws c => if c.k = 4 then addN ws c.v else ws) ws
theorem varsL_snoc (ws : List Nm) (t : List Cel) (c : Cel) : varsL ws (t ++ [c]) = if c.k = 4 then addN (varsL ws t) c.v else varsL ws t := by simp [varsL]
theorem varsL_len (ws : List Nm) : ∀ (t : List Cel), (varsL ws t).length ≤ ws.length + t.length := by
  intro t
  induction t generalizing ws with
  | nil => simp [varsL]
  | cons c t ih =>
    simp only [varsL, List.foldl_cons, List.length_cons]
    have := ih (if c.k = 4 then addN ws c.v else ws)
    simp only [varsL] at this
    have h2 : (if c.k = 4 then addN ws c.v else ws).length ≤ ws.length + 1 := by
      split
      · exact addN_len _ _
      · omega
    omega
structure TSt where
  ls : List (List Cel)
  ws : List Nm
def foldO {S α : Type} (f : S → α → α → Option S) : S → List α → List α → Option S
  | s, [], _ => some s
  | s, _ :: _, [] => some s
  | s, a :: azs, b :: bs => (f s a b).bind fun s' => foldO f s' azs bs
theorem foldO_step {S α : Type} {f : S → α → α → Option S} {s : S} {azs bs : List α} {k : Nat} (ha : k < azs.length) (hb : k < bs.length) : foldO f s (azs.drop k) (bs.drop k) = (f s azs[k] bs[k]).bind fun s' => foldO f s' (azs.drop (k + 1)) (bs.drop (k + 1)) := by
  rw [List.drop_eq_getElem_cons ha, List.drop_eq_getElem_cons hb, foldO]
theorem flat_step {azs : List (List Cel)} {k : Nat} (h : k < azs.length) : (azs.take (k + 1)).flatten.length = (azs.take k).flatten.length + (azs[k]).length := by
  rw [List.take_succ_eq_append_getElem h, List.flatten_append, List.length_append]; simp only [List.flatten_cons, List.flatten_nil, List.append_nil]
theorem flat_le (azs : List (List Cel)) (k : Nat) : (azs.take k).flatten.length ≤ azs.flatten.length := by
  have h : azs.flatten = (azs.take k).flatten ++ (azs.drop k).flatten := by rw [← List.flatten_append, List.take_append_drop]
  rw [h]; simp
structure TryR where
  k : Nat
  ls : List (List Cel)
  ws : List Nm
end Go.Proofs.YtkjnanfkclijcaaDoor.Am

namespace Go.Proofs.YtkjnanfkclijcaaDoor.Am
open Go
set_option linter.unusedVariables false
set_option linter.unusedSimpArgs false
set_option linter.unusedSectionVars false
set_option maxRecDepth 100000
abbrev NN (ws : List Nm) : List AVal := ws.map nmV
theorem names_at {σ : Store} {l : AVal} {ws : List Nm} (hl : SlOf σ 2 l (NN ws)) {i : Nat} (hi : i < ws.length) : iaddrV 2 l (.int .i64 i) = some (addrOf 2 l i) ∧ loadV σ 2 true (addrOf 2 l i) = some (nmV ws[i]) := by
  have hi' : i < (NN ws).length := by rw [List.length_map]; exact hi
  exact ⟨hl.iaddr hi' .i64, hl.loadA hi' (cs := nmC ws[i]) (by rw [List.getElem_map]; rfl)⟩
theorem names_len {σ : Store} {l : AVal} {ws : List Nm} (hl : SlOf σ 2 l (NN ws)) : lenSV l = some ws.length := by
  have := hl.len; rwa [List.length_map] at this
theorem nm_lit (v : Nm) : fillL 2 true (List.replicate 1 (zel [AVal.int IntKind.i64 0, AVal.int IntKind.i64 0] true)) [(0, nmV v)] = some [nmV v] := rfl
theorem elems2 (tg : Nat) (σ : Store) (x : AVal) : elems 2 σ (.fslice tg true 2 [x]) = some [x] := elems_fs 2 tg true σ [x]
theorem contains_not {ws : List Nm} {v : Nm} (h : ∀ (j : Nat) (hj : j < ws.length), ws[j] ≠ v) : ws.contains v = false := by
  rw [Bool.eq_false_iff]
  intro hc
  rw [List.contains_iff_mem] at hc
  obtain ⟨j, hj, e⟩ := List.getElem_of_mem hc
  exact h j hj e
theorem contains_at {ws : List Nm} {v : Nm} {k : Nat} (hk : k < ws.length) (h : ws[k] = v) : ws.contains v = true := by
  rw [List.contains_iff_mem, ← h]; exact List.getElem_mem hk
section
variable (d : Nat) (σ : Store)
theorem nindex_ok (l : AVal) (ws : List Nm) (v : Nm) (hx : ws.length < 2 ^ 40) (hl : SlOf σ 2 l (NN ws)) :
    Called CU.cfg d 140 [l, nmV v] σ fun r σ' => (∃ i : Int, r = .int .i64 i ∧ decide (0 ≤ i) = ws.contains v) ∧ Grows σ σ' := by
  refine called_of (fn := CU.a140) rfl (Nat.le_of_ble_eq_true rfl) ?_
  simp only [CU.a140]
  have ll := names_len hl
  simp -dsimp only [↓WPd, ↓wpC_block, ↓wpC_cond, WPu, Bool.false_eq_true, Bool.true_eq_false, Bool.not_true, Bool.not_false, if_true, if_false, ite_true, ite_false, Nat.reduceEqDiff, Nat.reduceLT, true_and, List.map_cons, List.map_nil, Nat.zero_add, Nat.reduceBEq, nm_cells, nm_one, ll]
  have ho : (σ ++ [AObj.cells (nmC v)])[σ.length]? = some (.cells (nmC v)) := by simp
  have g0 : Grows σ (σ ++ [AObj.cells (nmC v)]) := Grows.app _ _
  have hl1 := hl.grow g0
  generalize σ ++ [AObj.cells (nmC v)] = σ1 at ho g0 hl1
  generalize σ.length = i1 at ho
  refine loop_rule2 (fun m vs σ' => ∃ k, k ≤ ws.length ∧ m = ws.length - k ∧ vs = [l, .ptr i1 0, .int .i64 ws.length, .int .i64 k] ∧ σ' = σ1 ∧ ∀ (j : Nat) (hj : j < ws.length), j < k → ws[j] ≠ v) [4]
    (fun e vs σ' => σ' = σ1 ∧ ((e = .exit 0 ∧ ws.contains v = false) ∨ (e = .ret ∧ ws.contains v = true ∧ ∃ k : Nat, vs = [.int .i64 k]))) ws.length ⟨0, Nat.zero_le _, rfl, ?_, rfl, fun j _ h => by omega⟩ ?_ ?_
  · simp -dsimp only [↓WPd, ↓wpC_block, ↓wpC_cond, WPu, Bool.false_eq_true, Bool.true_eq_false, Bool.not_true, Bool.not_false, if_true, if_false, ite_true, ite_false, Nat.reduceEqDiff, Nat.reduceLT, true_and, List.map_cons, List.map_nil, Nat.zero_add, Nat.reduceBEq]; rfl
  · rintro m vs σ' ⟨k, hk, rfl, rfl, rfl, hall⟩
    simp -dsimp only [↓WPd, ↓wpC_block, ↓wpC_cond, WPu, Bool.false_eq_true, Bool.true_eq_false, Bool.not_true, Bool.not_false, if_true, if_false, ite_true, ite_false, Nat.reduceEqDiff, Nat.reduceLT, true_and, List.map_cons, List.map_nil, Nat.zero_add, Nat.reduceBEq]
    refine condP_dec (fun h => ?_) (fun h => ?_)
    · have hk' : k < ws.length := by omega
      obtain ⟨e1, e2⟩ := names_at hl1 hk'
      simp -dsimp only [↓WPd, ↓wpC_block, ↓wpC_cond, WPu, Bool.false_eq_true, Bool.true_eq_false, Bool.not_true, Bool.not_false, if_true, if_false, ite_true, ite_false, Nat.reduceEqDiff, Nat.reduceLT, true_and, List.map_cons, List.map_nil, Nat.zero_add, Nat.reduceBEq, e1, e2, load_nm ho, nm_eqs]
      refine condP_intro (fun h => ?_) (fun h => ?_)
      · rw [decide_eq_true_eq] at h
        simp -dsimp only [↓WPd, ↓wpC_block, ↓wpC_cond, WPu, Bool.false_eq_true, Bool.true_eq_false, Bool.not_true, Bool.not_false, if_true, if_false, ite_true, ite_false, Nat.reduceEqDiff, Nat.reduceLT, true_and, List.map_cons, List.map_nil, Nat.zero_add, Nat.reduceBEq]
        exact .inr ⟨contains_at hk' h.symm, k, rfl⟩
      · rw [decide_eq_false_iff_not] at h
        simp -dsimp only [↓WPd, ↓wpC_block, ↓wpC_cond, WPu, Bool.false_eq_true, Bool.true_eq_false, Bool.not_true, Bool.not_false, if_true, if_false, ite_true, ite_false, Nat.reduceEqDiff, Nat.reduceLT, true_and, List.map_cons, List.map_nil, Nat.zero_add, Nat.reduceBEq]
        refine ⟨ws.length - (k + 1), by omega, k + 1, by omega, rfl, by rw [wrap_i64 (by omega) (by omega), Int.natCast_add, Int.natCast_one], fun j hj hjk => ?_⟩
        by_cases e : j = k
        · subst e; exact fun e => h e.symm
        · exact hall j hj (by omega)
    · simp -dsimp only [↓WPd, ↓wpC_block, ↓wpC_cond, WPu, Bool.false_eq_true, Bool.true_eq_false, Bool.not_true, Bool.not_false, if_true, if_false, ite_true, ite_false, Nat.reduceEqDiff, Nat.reduceLT, true_and, List.map_cons, List.map_nil, Nat.zero_add, Nat.reduceBEq]
      exact .inl (contains_not fun j hj => hall j hj (by omega))
  · rintro e σ' env ⟨rfl, ⟨rfl, hno⟩ | ⟨rfl, hyes, k, hv⟩⟩
    · simp -dsimp only [↓WPd, ↓wpC_block, ↓wpC_cond, WPu, Bool.false_eq_true, Bool.true_eq_false, Bool.not_true, Bool.not_false, if_true, if_false, ite_true, ite_false, Nat.reduceEqDiff, Nat.reduceLT, true_and, List.map_cons, List.map_nil, Nat.zero_add, Nat.reduceBEq]
      exact ⟨⟨_, rfl, by rw [hno]; rfl⟩, g0⟩
    · simp only [List.map_cons, List.map_nil, List.cons.injEq, and_true] at hv
      simp -dsimp only [↓WPd, ↓wpC_block, ↓wpC_cond, WPu, Bool.false_eq_true, Bool.true_eq_false, Bool.not_true, Bool.not_false, if_true, if_false, ite_true, ite_false, Nat.reduceEqDiff, Nat.reduceLT, true_and, List.map_cons, List.map_nil, Nat.zero_add, Nat.reduceBEq, hv]
      exact ⟨⟨_, rfl, by rw [hyes]; simp⟩, g0⟩
theorem ncontains_ok (l : AVal) (ws : List Nm) (v : Nm) (hx : ws.length < 2 ^ 40) (hl : SlOf σ 2 l (NN ws)) :
    Called CU.cfg d 95 [l, nmV v] σ fun r σ' => r = .bool (ws.contains v) ∧ Grows σ σ' := by
  refine called_of (fn := CU.a95) rfl (Nat.le_of_ble_eq_true rfl) ?_
  simp only [CU.a95]
  simp -dsimp only [↓WPd, ↓wpC_block, ↓wpC_cond, WPu, Bool.false_eq_true, Bool.true_eq_false, Bool.not_true, Bool.not_false, if_true, if_false, ite_true, ite_false, Nat.reduceEqDiff, Nat.reduceLT, true_and, List.map_cons, List.map_nil, Nat.zero_add, Nat.reduceBEq, nm_cells, nm_one]
  have ho : (σ ++ [AObj.cells (nmC v)])[σ.length]? = some (.cells (nmC v)) := by simp
  have g0 : Grows σ (σ ++ [AObj.cells (nmC v)]) := Grows.app _ _
  have hl1 := hl.grow g0
  generalize σ ++ [AObj.cells (nmC v)] = σ1 at ho g0 hl1
  generalize σ.length = i1 at ho
  simp -dsimp only [↓WPd, ↓wpC_block, ↓wpC_cond, WPu, Bool.false_eq_true, Bool.true_eq_false, Bool.not_true, Bool.not_false, if_true, if_false, ite_true, ite_false, Nat.reduceEqDiff, Nat.reduceLT, true_and, List.map_cons, List.map_nil, Nat.zero_add, Nat.reduceBEq, load_nm ho]
  refine calledW_of (nindex_ok d σ1 l ws v hx hl1) ?_
  rintro r σ2 ⟨⟨i, rfl, hi⟩, g2⟩
  simp -dsimp only [↓WPd, ↓wpC_block, ↓wpC_cond, WPu, Bool.false_eq_true, Bool.true_eq_false, Bool.not_true, Bool.not_false, if_true, if_false, ite_true, ite_false, Nat.reduceEqDiff, Nat.reduceLT, true_and, List.map_cons, List.map_nil, Nat.zero_add, Nat.reduceBEq]
  have : decide (i ≥ 0) = ws.contains v := hi
  rw [this]
  exact ⟨rfl, g0.trans g2⟩
theorem hasname_ok (l : AVal) (ws : List Nm) (v : Nm) (hx : ws.length < 2 ^ 40) (hl : SlOf σ 2 l (NN ws)) :
    Called CU.cfg d 96 [l, nmV v] σ fun r σ' => r = .bool (ws.contains v) ∧ Grows σ σ' := by
  refine called_of (fn := CU.a96) rfl (Nat.le_of_ble_eq_true rfl) ?_
  simp only [CU.a96]
  have ll := names_len hl
  simp -dsimp only [↓WPd, ↓wpC_block, ↓wpC_cond, WPu, Bool.false_eq_true, Bool.true_eq_false, Bool.not_true, Bool.not_false, if_true, if_false, ite_true, ite_false, Nat.reduceEqDiff, Nat.reduceLT, true_and, List.map_cons, List.map_nil, Nat.zero_add, Nat.reduceBEq, nm_cells, nm_one]
  have ho : (σ ++ [AObj.cells (nmC v)])[σ.length]? = some (.cells (nmC v)) := by simp
  have g0 : Grows σ (σ ++ [AObj.cells (nmC v)]) := Grows.app _ _
  have hl1 := hl.grow g0
  generalize σ ++ [AObj.cells (nmC v)] = σ1 at ho g0 hl1
  generalize σ.length = i1 at ho
  refine loop_rule2 (fun m vs σ' => ∃ k, k ≤ ws.length ∧ m = ws.length - k ∧ vs = [l, .ptr i1 0, .int .i64 k] ∧ σ' = σ1 ∧ ∀ (j : Nat) (hj : j < ws.length), j < k → ws[j] ≠ v) [4]
    (fun e vs σ' => σ' = σ1 ∧ ((e = .exit 0 ∧ ws.contains v = false) ∨ (e = .ret ∧ ws.contains v = true ∧ vs = [.bool true]))) ws.length ⟨0, Nat.zero_le _, rfl, ?_, rfl, fun j _ h => by omega⟩ ?_ ?_
  · simp -dsimp only [↓WPd, ↓wpC_block, ↓wpC_cond, WPu, Bool.false_eq_true, Bool.true_eq_false, Bool.not_true, Bool.not_false, if_true, if_false, ite_true, ite_false, Nat.reduceEqDiff, Nat.reduceLT, true_and, List.map_cons, List.map_nil, Nat.zero_add, Nat.reduceBEq]; rfl
  · rintro m vs σ' ⟨k, hk, rfl, rfl, rfl, hall⟩
    simp -dsimp only [↓WPd, ↓wpC_block, ↓wpC_cond, WPu, Bool.false_eq_true, Bool.true_eq_false, Bool.not_true, Bool.not_false, if_true, if_false, ite_true, ite_false, Nat.reduceEqDiff, Nat.reduceLT, true_and, List.map_cons, List.map_nil, Nat.zero_add, Nat.reduceBEq, ll]
    refine condP_dec (fun h => ?_) (fun h => ?_)
    · have hk' : k < ws.length := by omega
      obtain ⟨e1, e2⟩ := names_at hl1 hk'
      simp -dsimp only [↓WPd, ↓wpC_block, ↓wpC_cond, WPu, Bool.false_eq_true, Bool.true_eq_false, Bool.not_true, Bool.not_false, if_true, if_false, ite_true, ite_false, Nat.reduceEqDiff, Nat.reduceLT, true_and, List.map_cons, List.map_nil, Nat.zero_add, Nat.reduceBEq, e1, e2, load_nm ho, nm_eqs]
      refine condP_intro (fun h => ?_) (fun h => ?_)
      · rw [decide_eq_true_eq] at h
        simp -dsimp only [↓WPd, ↓wpC_block, ↓wpC_cond, WPu, Bool.false_eq_true, Bool.true_eq_false, Bool.not_true, Bool.not_false, if_true, if_false, ite_true, ite_false, Nat.reduceEqDiff, Nat.reduceLT, true_and, List.map_cons, List.map_nil, Nat.zero_add, Nat.reduceBEq]
        exact .inr ⟨contains_at hk' h, trivial⟩
      · rw [decide_eq_false_iff_not] at h
        simp -dsimp only [↓WPd, ↓wpC_block, ↓wpC_cond, WPu, Bool.false_eq_true, Bool.true_eq_false, Bool.not_true, Bool.not_false, if_true, if_false, ite_true, ite_false, Nat.reduceEqDiff, Nat.reduceLT, true_and, List.map_cons, List.map_nil, Nat.zero_add, Nat.reduceBEq]
        refine ⟨ws.length - (k + 1), by omega, k + 1, by omega, rfl, by rw [wrap_i64 (by omega) (by omega), Int.natCast_add, Int.natCast_one], fun j hj hjk => ?_⟩
        by_cases e : j = k
        · subst e; exact h
        · exact hall j hj (by omega)
    · simp -dsimp only [↓WPd, ↓wpC_block, ↓wpC_cond, WPu, Bool.false_eq_true, Bool.true_eq_false, Bool.not_true, Bool.not_false, if_true, if_false, ite_true, ite_false, Nat.reduceEqDiff, Nat.reduceLT, true_and, List.map_cons, List.map_nil, Nat.zero_add, Nat.reduceBEq]
      exact .inl (contains_not fun j hj => hall j hj (by omega))
  · rintro e σ' env ⟨rfl, ⟨rfl, hno⟩ | ⟨rfl, hyes, hv⟩⟩
    · simp -dsimp only [↓WPd, ↓wpC_block, ↓wpC_cond, WPu, Bool.false_eq_true, Bool.true_eq_false, Bool.not_true, Bool.not_false, if_true, if_false, ite_true, ite_false, Nat.reduceEqDiff, Nat.reduceLT, true_and, List.map_cons, List.map_nil, Nat.zero_add, Nat.reduceBEq, hno]
      exact g0
    · simp only [List.map_cons, List.map_nil, List.cons.injEq, and_true] at hv
      simp -dsimp only [↓WPd, ↓wpC_block, ↓wpC_cond, WPu, Bool.false_eq_true, Bool.true_eq_false, Bool.not_true, Bool.not_false, if_true, if_false, ite_true, ite_false, Nat.reduceEqDiff, Nat.reduceLT, true_and, List.map_cons, List.map_nil, Nat.zero_add, Nat.reduceBEq, hv, hyes]
      exact g0
theorem Own.name {σ : Store} {l : AVal} {ws : List Nm} (h : Own σ 2 l (NN ws)) (v : Nm) (hx : ws.length < 2 ^ 40) :
    ∃ l' σ', appendV σ 2 16 l [nmV v] = some (l', σ') ∧ Own σ' 2 l' (NN (ws ++ [v])) ∧ Keeps (fun i => l.sid = some i) σ σ' ∧ (∀ id, l'.sid = some id → l.sid = some id ∨ id = σ.length) ∧ NoLit l' := by
  obtain ⟨l', σ', a, b, c, e, f⟩ := h.append [nmV v] 16 (by simp only [List.length_map, List.length_singleton]; omega)
  exact ⟨l', σ', a, by simpa using b, c, e, f (.inr (by simp))⟩
end
end Go.Proofs.YtkjnanfkclijcaaDoor.Am

namespace Go.Proofs.YtkjnanfkclijcaaDoor.Am
open Go
set_option linter.unusedVariables false
set_option linter.unusedSimpArgs false
set_option linter.unusedSectionVars false
set_option maxRecDepth 100000
theorem cel_put (σ : Store) (c : Cel) : storeV (σ ++ [AObj.cells [.int .u8 0, .str [], .int .i64 0, .int .i64 0, .int .i64 0]]) 5 (.ptr σ.length 0) c.val = some (σ ++ [AObj.cells c.cs]) := by
  have h : (σ ++ [AObj.cells [.int .u8 0, .str [], .int .i64 0, .int .i64 0, .int .i64 0]])[σ.length]? = some (.cells [.int .u8 0, .str [], .int .i64 0, .int .i64 0, .int .i64 0]) := by simp
  have e : c.val = .agg c.cs := rfl
  rw [e, storeN_cells (cs' := c.cs) (n := 5) h rfl rfl rfl, set_last]
theorem cela_at {σ : Store} {l : AVal} {t : List Cel} (hl : SlOf σ 5 l (CC t)) {i : Nat} (hi : i < t.length) : iaddrV 5 l (.int .i64 i) = some (addrOf 5 l i) ∧ loadV σ 5 true (addrOf 5 l i) = some (t[i]).val := by
  have hi' : i < (CC t).length := by rw [List.length_map]; exact hi
  exact ⟨hl.iaddr hi' .i64, hl.loadA hi' (cs := (t[i]).cs) (by rw [cel_get]; rfl)⟩
theorem Terms.at0 {σ : Store} {l : AVal} {ts : List (List Cel)} (h : Terms σ l ts) {i : Nat} (hi : i < ts.length) : ∃ e, SlOf σ 5 e (CC ts[i]) ∧ ∀ σ', Grows σ σ' → iaddrV 1 l (.int .i64 i) = some (addrOf 1 l i) ∧ loadV σ' 1 false (addrOf 1 l i) = some e := by
  obtain ⟨es, h1, h2⟩ := h
  have hi' : i < es.length := by rw [h2.len]; exact hi
  obtain ⟨e, he1, he2⟩ := h2.get hi
  have hee : es[i] = e := by rw [List.getElem?_eq_getElem hi'] at he1; exact Option.some.inj he1
  refine ⟨e, he2, fun σ' g => ⟨h1.iaddr hi' .i64, ?_⟩⟩
  have := (h1.grow g).load1 hi' (by rw [hee]; exact he2.one) 1
  rw [hee] at this; exact this
section
variable (d : Nat) (σ : Store)
theorem vars_ok (lv : AVal) (ts : List (List Cel)) (hx : ts.flatten.length < 2 ^ 30) (hn : ts.length < 2 ^ 30) (hl : Terms σ lv ts) :
    Called CU.cfg d 85 [lv] σ fun r σ' => Grows σ σ' ∧ Own σ' 2 r (NN (varsL [] ts.flatten)) ∧ Fresh σ.length r := by
  refine called_of (fn := CU.a85) rfl (Nat.le_of_ble_eq_true rfl) ?_
  simp only [CU.a85]
  have ll := hl.len
  simp -dsimp only [↓WPd, ↓wpC_block, ↓wpC_cond, WPu, Bool.false_eq_true, Bool.true_eq_false, Bool.not_true, Bool.not_false, if_true, if_false, ite_true, ite_false, Nat.reduceEqDiff, Nat.reduceLT, true_and, List.map_cons, List.map_nil, Nat.zero_add, Nat.reduceBEq, ll]
  refine loop_rule2 (fun m vs σ' => ∃ k acc, k ≤ ts.length ∧ m = ts.length - k ∧ vs = [acc, lv, .int .i64 ts.length, .int .i64 k] ∧ Grows σ σ' ∧ Own σ' 2 acc (NN (varsL [] (ts.take k).flatten)) ∧ Fresh σ.length acc) [3]
    (fun e vs σ' => e = .exit 0 ∧ ∃ acc, vs = [acc] ∧ Grows σ σ' ∧ Own σ' 2 acc (NN (varsL [] ts.flatten)) ∧ Fresh σ.length acc) ts.length ⟨0, .nilslice, Nat.zero_le _, rfl, ?_, Keeps.refl _ _, Own.nil _ _, Fresh.nil _⟩ ?_ ?_
  · simp -dsimp only [↓WPd, ↓wpC_block, ↓wpC_cond, WPu, Bool.false_eq_true, Bool.true_eq_false, Bool.not_true, Bool.not_false, if_true, if_false, ite_true, ite_false, Nat.reduceEqDiff, Nat.reduceLT, true_and, List.map_cons, List.map_nil, Nat.zero_add, Nat.reduceBEq]; rfl
  · rintro m vs σ' ⟨k, acc, hk, rfl, rfl, g, ha, fa⟩
    simp -dsimp only [↓WPd, ↓wpC_block, ↓wpC_cond, WPu, Bool.false_eq_true, Bool.true_eq_false, Bool.not_true, Bool.not_false, if_true, if_false, ite_true, ite_false, Nat.reduceEqDiff, Nat.reduceLT, true_and, List.map_cons, List.map_nil, Nat.zero_add, Nat.reduceBEq]
    refine condP_dec (fun h => ?_) (fun h => ?_)
    · have hk' : k < ts.length := by omega
      obtain ⟨e, e3, e0⟩ := hl.at0 hk'
      obtain ⟨e1, e2⟩ := e0 σ' g
      have le := e3.len
      rw [List.length_map] at le
      have hf : (ts.take (k + 1)).flatten = (ts.take k).flatten ++ ts[k] := by
        rw [List.take_succ_eq_append_getElem hk', List.flatten_append]; simp only [List.flatten_cons, List.flatten_nil, List.append_nil]
      have hb := flat_le ts (k + 1)
      rw [hf, List.length_append] at hb
      simp -dsimp only [↓WPd, ↓wpC_block, ↓wpC_cond, WPu, Bool.false_eq_true, Bool.true_eq_false, Bool.not_true, Bool.not_false, if_true, if_false, ite_true, ite_false, Nat.reduceEqDiff, Nat.reduceLT, true_and, List.map_cons, List.map_nil, Nat.zero_add, Nat.reduceBEq, e1, e2, le]
      refine loop_rule2 (fun m vs σ2 => ∃ j acc, j ≤ (ts[k]).length ∧ m = (ts[k]).length - j ∧ vs = [acc, lv, .int .i64 ts.length, .int .i64 k, e, .int .i64 (ts[k]).length, .int .i64 j] ∧ Grows σ σ2 ∧ Own σ2 2 acc (NN (varsL [] ((ts.take k).flatten ++ (ts[k]).take j))) ∧ Fresh σ.length acc) [3, 8, 9, 10]
        (fun x vs σ2 => x = .exit 2 ∧ ∃ acc, vs = [acc, lv, .int .i64 ts.length, .int .i64 k] ∧ Grows σ σ2 ∧ Own σ2 2 acc (NN (varsL [] ((ts.take k).flatten ++ ts[k]))) ∧ Fresh σ.length acc) (ts[k]).length ⟨0, acc, Nat.zero_le _, rfl, ?_, g, by simpa using ha, fa⟩ ?_ ?_
      · simp -dsimp only [↓WPd, ↓wpC_block, ↓wpC_cond, WPu, Bool.false_eq_true, Bool.true_eq_false, Bool.not_true, Bool.not_false, if_true, if_false, ite_true, ite_false, Nat.reduceEqDiff, Nat.reduceLT, true_and, List.map_cons, List.map_nil, Nat.zero_add, Nat.reduceBEq]; rfl
      · rintro m vs σ2 ⟨j, acc, hj, rfl, rfl, g2, ha, fa⟩
        simp -dsimp only [↓WPd, ↓wpC_block, ↓wpC_cond, WPu, Bool.false_eq_true, Bool.true_eq_false, Bool.not_true, Bool.not_false, if_true, if_false, ite_true, ite_false, Nat.reduceEqDiff, Nat.reduceLT, true_and, List.map_cons, List.map_nil, Nat.zero_add, Nat.reduceBEq]
        refine condP_dec (fun h => ?_) (fun h => ?_)
        · have hj' : j < (ts[k]).length := by omega
          have he := e3.grow g2
          obtain ⟨a1, a2⟩ := cela_at he hj'
          have hv := varsL_snoc [] ((ts.take k).flatten ++ (ts[k]).take j) (ts[k])[j]
          rw [List.append_assoc, ← List.take_succ_eq_append_getElem hj'] at hv
          have hvl := varsL_len [] ((ts.take k).flatten ++ (ts[k]).take j)
          rw [List.length_append, List.length_take] at hvl
          simp only [List.length_nil] at hvl
          simp -dsimp only [↓WPd, ↓wpC_block, ↓wpC_cond, WPu, Bool.false_eq_true, Bool.true_eq_false, Bool.not_true, Bool.not_false, if_true, if_false, ite_true, ite_false, Nat.reduceEqDiff, Nat.reduceLT, true_and, List.map_cons, List.map_nil, Nat.zero_add, Nat.reduceBEq, a1, a2, cel_put]
          generalize hcc : (ts[k])[j] = c at *
          have oc : (σ2 ++ [AObj.cells c.cs])[σ2.length]? = some (.cells c.cs) := by simp
          have g3 : Grows σ2 (σ2 ++ [AObj.cells c.cs]) := Grows.app _ _
          have he3 := he.grow g3
          have ha3 := ha.grow g3
          have gg := g2.trans g3
          generalize σ2 ++ [AObj.cells c.cs] = σ3 at oc g3 he3 ha3 gg
          generalize σ2.length = ic at oc
          have k4 : ((c.k : Int) == 4) = decide (c.k = 4) := by by_cases h : c.k = 4 <;> simp [h] <;> omega
          simp -dsimp only [↓WPd, ↓wpC_block, ↓wpC_cond, WPu, Bool.false_eq_true, Bool.true_eq_false, Bool.not_true, Bool.not_false, if_true, if_false, ite_true, ite_false, Nat.reduceEqDiff, Nat.reduceLT, true_and, List.map_cons, List.map_nil, Nat.zero_add, Nat.reduceBEq, faddr_ptr, Nat.add_zero, load_cells oc, Cel.g0, k4]
          by_cases h4 : c.k = 4
          · simp -dsimp only [↓WPd, ↓wpC_block, ↓wpC_cond, WPu, Bool.false_eq_true, Bool.true_eq_false, Bool.not_true, Bool.not_false, if_true, if_false, ite_true, ite_false, Nat.reduceEqDiff, Nat.reduceLT, true_and, List.map_cons, List.map_nil, Nat.zero_add, Nat.reduceBEq, decide_eq_true h4, faddr_ptr, Nat.zero_add, celvar_load oc]
            refine calledW_of (ncontains_ok d σ3 acc _ c.v (by omega) ha3.sl) ?_
            rintro r σ4 ⟨rfl, g4⟩
            have oc4 := g4.get oc
            have he4 := he3.grow g4
            have ha4 := ha3.grow g4
            simp -dsimp only [↓WPd, ↓wpC_block, ↓wpC_cond, WPu, Bool.false_eq_true, Bool.true_eq_false, Bool.not_true, Bool.not_false, if_true, if_false, ite_true, ite_false, Nat.reduceEqDiff, Nat.reduceLT, true_and, List.map_cons, List.map_nil, Nat.zero_add, Nat.reduceBEq]
            rw [if_pos h4, addN] at hv
            refine condP_intro (fun hc => ?_) (fun hc => ?_)
            · simp only [Bool.not_eq_true'] at hc
              rw [hc, if_neg (by simp)] at hv
              obtain ⟨l', σ5, p1, p2, p3, p4, p5⟩ := ha4.name c.v (by omega)
              simp -dsimp only [↓WPd, ↓wpC_block, ↓wpC_cond, WPu, Bool.false_eq_true, Bool.true_eq_false, Bool.not_true, Bool.not_false, if_true, if_false, ite_true, ite_false, Nat.reduceEqDiff, Nat.reduceLT, true_and, List.map_cons, List.map_nil, Nat.zero_add, Nat.reduceBEq, faddr_ptr, Nat.add_zero, celvar_load oc4, nm_lit, elems2, p1]
              refine ⟨(ts[k]).length - (j + 1), by omega, j + 1, l', by omega, rfl, by rw [wrap_i64 (by omega) (by omega), Int.natCast_add, Int.natCast_one], ?_, ?_, ?_⟩
              · exact Keeps.trans (gg.trans g4) p3 fun i hi e => by have := fa i e; omega
              · rw [hv]; exact p2
              · intro i hi
                rcases p4 i hi with e | e
                · exact fa i e
                · have := (gg.trans g4).1; omega
            · simp only [Bool.not_eq_false'] at hc
              rw [hc, if_pos rfl] at hv
              simp -dsimp only [↓WPd, ↓wpC_block, ↓wpC_cond, WPu, Bool.false_eq_true, Bool.true_eq_false, Bool.not_true, Bool.not_false, if_true, if_false, ite_true, ite_false, Nat.reduceEqDiff, Nat.reduceLT, true_and, List.map_cons, List.map_nil, Nat.zero_add, Nat.reduceBEq]
              refine ⟨(ts[k]).length - (j + 1), by omega, j + 1, acc, by omega, rfl, by rw [wrap_i64 (by omega) (by omega), Int.natCast_add, Int.natCast_one], gg.trans g4, ?_, fa⟩
              rw [hv]; exact ha4
          · rw [if_neg h4] at hv
            simp -dsimp only [↓WPd, ↓wpC_block, ↓wpC_cond, WPu, Bool.false_eq_true, Bool.true_eq_false, Bool.not_true, Bool.not_false, if_true, if_false, ite_true, ite_false, Nat.reduceEqDiff, Nat.reduceLT, true_and, List.map_cons, List.map_nil, Nat.zero_add, Nat.reduceBEq, decide_eq_false h4]
            refine ⟨(ts[k]).length - (j + 1), by omega, j + 1, acc, by omega, rfl, by rw [wrap_i64 (by omega) (by omega), Int.natCast_add, Int.natCast_one], gg, ?_, fa⟩
            rw [hv]; exact ha3
        · have : j = (ts[k]).length := by omega
          subst this
          rw [List.take_length] at ha
          simp -dsimp only [↓WPd, ↓wpC_block, ↓wpC_cond, WPu, Bool.false_eq_true, Bool.true_eq_false, Bool.not_true, Bool.not_false, if_true, if_false, ite_true, ite_false, Nat.reduceEqDiff, Nat.reduceLT, true_and, List.map_cons, List.map_nil, Nat.zero_add, Nat.reduceBEq]
          exact ⟨acc, rfl, g2, ha, fa⟩
      · rintro x σ2 env ⟨rfl, acc, hv, g2, ha, fa⟩
        simp only [List.map_cons, List.map_nil, List.cons.injEq, and_true] at hv
        obtain ⟨v1, v2, v3, v4⟩ := hv
        simp -dsimp only [↓WPd, ↓wpC_block, ↓wpC_cond, WPu, Bool.false_eq_true, Bool.true_eq_false, Bool.not_true, Bool.not_false, if_true, if_false, ite_true, ite_false, Nat.reduceEqDiff, Nat.reduceLT, true_and, List.map_cons, List.map_nil, Nat.zero_add, Nat.reduceBEq, v1, v2, v3, v4]
        refine ⟨ts.length - (k + 1), by omega, k + 1, acc, by omega, rfl, by rw [wrap_i64 (by omega) (by omega), Int.natCast_add, Int.natCast_one], g2, ?_, fa⟩
        rw [hf]; exact ha
    · have : k = ts.length := by omega
      subst this
      rw [List.take_length] at ha
      simp -dsimp only [↓WPd, ↓wpC_block, ↓wpC_cond, WPu, Bool.false_eq_true, Bool.true_eq_false, Bool.not_true, Bool.not_false, if_true, if_false, ite_true, ite_false, Nat.reduceEqDiff, Nat.reduceLT, true_and, List.map_cons, List.map_nil, Nat.zero_add, Nat.reduceBEq]
      exact ⟨acc, rfl, g, ha, fa⟩
  · rintro e σ' env ⟨rfl, acc, hv, g, ha, fa⟩
    simp only [List.map_cons, List.map_nil, List.cons.injEq, and_true] at hv
    simp -dsimp only [↓WPd, ↓wpC_block, ↓wpC_cond, WPu, Bool.false_eq_true, Bool.true_eq_false, Bool.not_true, Bool.not_false, if_true, if_false, ite_true, ite_false, Nat.reduceEqDiff, Nat.reduceLT, true_and, List.map_cons, List.map_nil, Nat.zero_add, Nat.reduceBEq, hv]
    exact ⟨g, ha, fa⟩
theorem rvars_ok (lv : AVal) (ts : List (List Cel)) (hx : ts.flatten.length < 2 ^ 30) (hn : ts.length < 2 ^ 30) (hl : Terms σ lv ts) :
    Called CU.cfg d 103 [lv] σ fun r σ' => Grows σ σ' ∧ Own σ' 2 r (NN (varsL [] ts.flatten)) ∧ Fresh σ.length r := by
  refine called_of (fn := CU.a103) rfl (Nat.le_of_ble_eq_true rfl) ?_
  simp only [CU.a103]
  have ll := hl.len
  simp -dsimp only [↓WPd, ↓wpC_block, ↓wpC_cond, WPu, Bool.false_eq_true, Bool.true_eq_false, Bool.not_true, Bool.not_false, if_true, if_false, ite_true, ite_false, Nat.reduceEqDiff, Nat.reduceLT, true_and, List.map_cons, List.map_nil, Nat.zero_add, Nat.reduceBEq, ll]
  refine loop_rule2 (fun m vs σ' => ∃ k acc, k ≤ ts.length ∧ m = ts.length - k ∧ vs = [lv, acc, .int .i64 k] ∧ Grows σ σ' ∧ Own σ' 2 acc (NN (varsL [] (ts.take k).flatten)) ∧ Fresh σ.length acc) [3]
    (fun e vs σ' => e = .exit 0 ∧ ∃ acc, vs = [acc] ∧ Grows σ σ' ∧ Own σ' 2 acc (NN (varsL [] ts.flatten)) ∧ Fresh σ.length acc) ts.length ⟨0, .nilslice, Nat.zero_le _, rfl, ?_, Keeps.refl _ _, Own.nil _ _, Fresh.nil _⟩ ?_ ?_
  · simp -dsimp only [↓WPd, ↓wpC_block, ↓wpC_cond, WPu, Bool.false_eq_true, Bool.true_eq_false, Bool.not_true, Bool.not_false, if_true, if_false, ite_true, ite_false, Nat.reduceEqDiff, Nat.reduceLT, true_and, List.map_cons, List.map_nil, Nat.zero_add, Nat.reduceBEq]; rfl
  · rintro m vs σ' ⟨k, acc, hk, rfl, rfl, g, ha, fa⟩
    simp -dsimp only [↓WPd, ↓wpC_block, ↓wpC_cond, WPu, Bool.false_eq_true, Bool.true_eq_false, Bool.not_true, Bool.not_false, if_true, if_false, ite_true, ite_false, Nat.reduceEqDiff, Nat.reduceLT, true_and, List.map_cons, List.map_nil, Nat.zero_add, Nat.reduceBEq, ll]
    refine condP_dec (fun h => ?_) (fun h => ?_)
    · have hk' : k < ts.length := by omega
      obtain ⟨e, e3, e0⟩ := hl.at0 hk'
      obtain ⟨e1, e2⟩ := e0 σ' g
      have le := e3.len
      rw [List.length_map] at le
      have hf : (ts.take (k + 1)).flatten = (ts.take k).flatten ++ ts[k] := by
        rw [List.take_succ_eq_append_getElem hk', List.flatten_append]; simp only [List.flatten_cons, List.flatten_nil, List.append_nil]
      have hb := flat_le ts (k + 1)
      rw [hf, List.length_append] at hb
      simp -dsimp only [↓WPd, ↓wpC_block, ↓wpC_cond, WPu, Bool.false_eq_true, Bool.true_eq_false, Bool.not_true, Bool.not_false, if_true, if_false, ite_true, ite_false, Nat.reduceEqDiff, Nat.reduceLT, true_and, List.map_cons, List.map_nil, Nat.zero_add, Nat.reduceBEq]
      refine loop_rule2 (fun m vs σ2 => ∃ j acc, j ≤ (ts[k]).length ∧ m = (ts[k]).length - j ∧ vs = [lv, acc, .int .i64 k, .int .i64 j] ∧ Grows σ σ2 ∧ Own σ2 2 acc (NN (varsL [] ((ts.take k).flatten ++ (ts[k]).take j))) ∧ Fresh σ.length acc) [0, 3, 4]
        (fun x vs σ2 => x = .exit 2 ∧ ∃ acc, vs = [lv, acc, .int .i64 k] ∧ Grows σ σ2 ∧ Own σ2 2 acc (NN (varsL [] ((ts.take k).flatten ++ ts[k]))) ∧ Fresh σ.length acc) (ts[k]).length ⟨0, acc, Nat.zero_le _, rfl, ?_, g, by simpa using ha, fa⟩ ?_ ?_
      · simp -dsimp only [↓WPd, ↓wpC_block, ↓wpC_cond, WPu, Bool.false_eq_true, Bool.true_eq_false, Bool.not_true, Bool.not_false, if_true, if_false, ite_true, ite_false, Nat.reduceEqDiff, Nat.reduceLT, true_and, List.map_cons, List.map_nil, Nat.zero_add, Nat.reduceBEq]; rfl
      · rintro m vs σ2 ⟨j, acc, hj, rfl, rfl, g2, ha, fa⟩
        obtain ⟨b1, b2⟩ := e0 σ2 g2
        simp -dsimp only [↓WPd, ↓wpC_block, ↓wpC_cond, WPu, Bool.false_eq_true, Bool.true_eq_false, Bool.not_true, Bool.not_false, if_true, if_false, ite_true, ite_false, Nat.reduceEqDiff, Nat.reduceLT, true_and, List.map_cons, List.map_nil, Nat.zero_add, Nat.reduceBEq, b1, b2, le]
        refine condP_dec (fun h => ?_) (fun h => ?_)
        · have hj' : j < (ts[k]).length := by omega
          have he := e3.grow g2
          obtain ⟨a1, a2⟩ := cela_at he hj'
          have hv := varsL_snoc [] ((ts.take k).flatten ++ (ts[k]).take j) (ts[k])[j]
          rw [List.append_assoc, ← List.take_succ_eq_append_getElem hj'] at hv
          have hvl := varsL_len [] ((ts.take k).flatten ++ (ts[k]).take j)
          rw [List.length_append, List.length_take] at hvl
          simp only [List.length_nil] at hvl
          simp -dsimp only [↓WPd, ↓wpC_block, ↓wpC_cond, WPu, Bool.false_eq_true, Bool.true_eq_false, Bool.not_true, Bool.not_false, if_true, if_false, ite_true, ite_false, Nat.reduceEqDiff, Nat.reduceLT, true_and, List.map_cons, List.map_nil, Nat.zero_add, Nat.reduceBEq, b1, b2, a1, a2, cel_put]
          generalize hcc : (ts[k])[j] = c at *
          have oc : (σ2 ++ [AObj.cells c.cs])[σ2.length]? = some (.cells c.cs) := by simp
          have g3 : Grows σ2 (σ2 ++ [AObj.cells c.cs]) := Grows.app _ _
          have he3 := he.grow g3
          have ha3 := ha.grow g3
          have gg := g2.trans g3
          generalize σ2 ++ [AObj.cells c.cs] = σ3 at oc g3 he3 ha3 gg
          generalize σ2.length = ic at oc
          have k4 : ((c.k : Int) == 4) = decide (c.k = 4) := by by_cases h : c.k = 4 <;> simp [h] <;> omega
          simp -dsimp only [↓WPd, ↓wpC_block, ↓wpC_cond, WPu, Bool.false_eq_true, Bool.true_eq_false, Bool.not_true, Bool.not_false, if_true, if_false, ite_true, ite_false, Nat.reduceEqDiff, Nat.reduceLT, true_and, List.map_cons, List.map_nil, Nat.zero_add, Nat.reduceBEq, faddr_ptr, Nat.add_zero, load_cells oc, Cel.g0, k4]
          by_cases h4 : c.k = 4
          · simp -dsimp only [↓WPd, ↓wpC_block, ↓wpC_cond, WPu, Bool.false_eq_true, Bool.true_eq_false, Bool.not_true, Bool.not_false, if_true, if_false, ite_true, ite_false, Nat.reduceEqDiff, Nat.reduceLT, true_and, List.map_cons, List.map_nil, Nat.zero_add, Nat.reduceBEq, decide_eq_true h4, faddr_ptr, Nat.zero_add, celvar_load oc]
            refine calledW_of (hasname_ok d σ3 acc _ c.v (by omega) ha3.sl) ?_
            rintro r σ4 ⟨rfl, g4⟩
            have oc4 := g4.get oc
            have he4 := he3.grow g4
            have ha4 := ha3.grow g4
            simp -dsimp only [↓WPd, ↓wpC_block, ↓wpC_cond, WPu, Bool.false_eq_true, Bool.true_eq_false, Bool.not_true, Bool.not_false, if_true, if_false, ite_true, ite_false, Nat.reduceEqDiff, Nat.reduceLT, true_and, List.map_cons, List.map_nil, Nat.zero_add, Nat.reduceBEq]
            rw [if_pos h4, addN] at hv
            refine condP_intro (fun hc => ?_) (fun hc => ?_)
            · simp only [Bool.not_eq_true'] at hc
              rw [hc, if_neg (by simp)] at hv
              obtain ⟨l', σ5, p1, p2, p3, p4, p5⟩ := ha4.name c.v (by omega)
              simp -dsimp only [↓WPd, ↓wpC_block, ↓wpC_cond, WPu, Bool.false_eq_true, Bool.true_eq_false, Bool.not_true, Bool.not_false, if_true, if_false, ite_true, ite_false, Nat.reduceEqDiff, Nat.reduceLT, true_and, List.map_cons, List.map_nil, Nat.zero_add, Nat.reduceBEq, faddr_ptr, Nat.add_zero, celvar_load oc4, nm_lit, elems2, p1]
              refine ⟨(ts[k]).length - (j + 1), by omega, j + 1, l', by omega, rfl, by rw [wrap_i64 (by omega) (by omega), Int.natCast_add, Int.natCast_one], ?_, ?_, ?_⟩
              · exact Keeps.trans (gg.trans g4) p3 fun i hi e => by have := fa i e; omega
              · rw [hv]; exact p2
              · intro i hi
                rcases p4 i hi with e | e
                · exact fa i e
                · have := (gg.trans g4).1; omega
            · simp only [Bool.not_eq_false'] at hc
              rw [hc, if_pos rfl] at hv
              simp -dsimp only [↓WPd, ↓wpC_block, ↓wpC_cond, WPu, Bool.false_eq_true, Bool.true_eq_false, Bool.not_true, Bool.not_false, if_true, if_false, ite_true, ite_false, Nat.reduceEqDiff, Nat.reduceLT, true_and, List.map_cons, List.map_nil, Nat.zero_add, Nat.reduceBEq]
              refine ⟨(ts[k]).length - (j + 1), by omega, j + 1, acc, by omega, rfl, by rw [wrap_i64 (by omega) (by omega), Int.natCast_add, Int.natCast_one], gg.trans g4, ?_, fa⟩
              rw [hv]; exact ha4
          · rw [if_neg h4] at hv
            simp -dsimp only [↓WPd, ↓wpC_block, ↓wpC_cond, WPu, Bool.false_eq_true, Bool.true_eq_false, Bool.not_true, Bool.not_false, if_true, if_false, ite_true, ite_false, Nat.reduceEqDiff, Nat.reduceLT, true_and, List.map_cons, List.map_nil, Nat.zero_add, Nat.reduceBEq, decide_eq_false h4]
            refine ⟨(ts[k]).length - (j + 1), by omega, j + 1, acc, by omega, rfl, by rw [wrap_i64 (by omega) (by omega), Int.natCast_add, Int.natCast_one], gg, ?_, fa⟩
            rw [hv]; exact ha3
        · have : j = (ts[k]).length := by omega
          subst this
          rw [List.take_length] at ha
          simp -dsimp only [↓WPd, ↓wpC_block, ↓wpC_cond, WPu, Bool.false_eq_true, Bool.true_eq_false, Bool.not_true, Bool.not_false, if_true, if_false, ite_true, ite_false, Nat.reduceEqDiff, Nat.reduceLT, true_and, List.map_cons, List.map_nil, Nat.zero_add, Nat.reduceBEq]
          exact ⟨acc, rfl, g2, ha, fa⟩
      · rintro x σ2 env ⟨rfl, acc, hv, g2, ha, fa⟩
        simp only [List.map_cons, List.map_nil, List.cons.injEq, and_true] at hv
        obtain ⟨v1, v2, v3⟩ := hv
        simp -dsimp only [↓WPd, ↓wpC_block, ↓wpC_cond, WPu, Bool.false_eq_true, Bool.true_eq_false, Bool.not_true, Bool.not_false, if_true, if_false, ite_true, ite_false, Nat.reduceEqDiff, Nat.reduceLT, true_and, List.map_cons, List.map_nil, Nat.zero_add, Nat.reduceBEq, v1, v2, v3]
        refine ⟨ts.length - (k + 1), by omega, k + 1, acc, by omega, rfl, by rw [wrap_i64 (by omega) (by omega), Int.natCast_add, Int.natCast_one], g2, ?_, fa⟩
        rw [hf]; exact ha
    · have : k = ts.length := by omega
      subst this
      rw [List.take_length] at ha
      simp -dsimp only [↓WPd, ↓wpC_block, ↓wpC_cond, WPu, Bool.false_eq_true, Bool.true_eq_false, Bool.not_true, Bool.not_false, if_true, if_false, ite_true, ite_false, Nat.reduceEqDiff, Nat.reduceLT, true_and, List.map_cons, List.map_nil, Nat.zero_add, Nat.reduceBEq]
      exact ⟨acc, rfl, g, ha, fa⟩
  · rintro e σ' env ⟨rfl, acc, hv, g, ha, fa⟩
    simp only [List.map_cons, List.map_nil, List.cons.injEq, and_true] at hv
    simp -dsimp only [↓WPd, ↓wpC_block, ↓wpC_cond, WPu, Bool.false_eq_true, Bool.true_eq_false, Bool.not_true, Bool.not_false, if_true, if_false, ite_true, ite_false, Nat.reduceEqDiff, Nat.reduceLT, true_and, List.map_cons, List.map_nil, Nat.zero_add, Nat.reduceBEq, hv]
    exact ⟨g, ha, fa⟩
end
end Go.Proofs.YtkjnanfkclijcaaDoor.Am

namespace Go.Proofs.YtkjnanfkclijcaaDoor.Am
open Go
set_option linter.unusedVariables false
set_option linter.unusedSimpArgs false
set_option linter.unusedSectionVars false
def lkL (ls : List (List Cel)) (i : Nat) : List Cel := ls[i]?.getD []
def isLoc (c : Cel) : Bool := decide (c.k = 4) && decide (c.v.1 = -1)
def badT (l : List Cel) : Bool := decide (l ≠ []) && !right l
def putB (t : List Cel) (ls : List (List Cel)) : Bool := t.any fun c => isLoc c && decide (lkL ls c.v.2.toNat = [])
def putC (ls : List (List Cel)) (c : Cel) : List Cel := if isLoc c then lkL ls c.v.2.toNat else [c]
def putO (t : List Cel) (ls : List (List Cel)) : List Cel := (t.map (putC ls)).flatten
def putE (t : List Cel) (ls : List (List Cel)) : Int := if !right t || ls.any badT then 6 else if putB t ls then 4 else if 256 < (putO t ls).length then 5 else 0
def putT (t : List Cel) (ls : List (List Cel)) : List Cel := if putE t ls = 0 then putO t ls else []
theorem lkL_in {ls : List (List Cel)} {i : Nat} (h : i < ls.length) : lkL ls i = ls[i] := by simp [lkL, h]
theorem lkL_out {ls : List (List Cel)} {i : Nat} (h : ls.length ≤ i) : lkL ls i = [] := by simp [lkL, h]
theorem any_lkL {p : List Cel → Bool} (hp : p [] = false) (ls : List (List Cel)) : ls.any p = true ↔ ∃ i, p (lkL ls i) = true := by
  rw [List.any_eq_true]
  constructor
  · rintro ⟨x, hx, h⟩
    obtain ⟨i, hi, rfl⟩ := List.getElem_of_mem hx
    exact ⟨i, by rw [lkL_in hi]; exact h⟩
  · rintro ⟨i, h⟩
    by_cases hi : i < ls.length
    · rw [lkL_in hi] at h; exact ⟨_, List.getElem_mem hi, h⟩
    · rw [lkL_out (by omega), hp] at h; cases h
theorem put_same {azs bs : List (List Cel)} (h : ∀ i, lkL azs i = lkL bs i) (t : List Cel) : putE t azs = putE t bs ∧ putT t azs = putT t bs := by
  have h1 : azs.any badT = bs.any badT := by
    rw [Bool.eq_iff_iff, any_lkL (by simp [badT]), any_lkL (by simp [badT])]
    simp only [h]
  have h2 : putB t azs = putB t bs := by simp only [putB, h]
  have h3 : putO t azs = putO t bs := by
    have : putC azs = putC bs := by funext c; simp only [putC, h]
    simp only [putO, this]
  have h4 : putE t azs = putE t bs := by simp only [putE, h1, h2, h3]
  exact ⟨h4, by simp only [putT, h3, h4]⟩
theorem putO_snoc (t : List Cel) (c : Cel) (ls : List (List Cel)) : putO (t ++ [c]) ls = putO t ls ++ putC ls c := by simp [putO]
theorem putC_len {ls : List (List Cel)} (h : ∀ l ∈ ls, l.length ≤ 256) (c : Cel) : (putC ls c).length ≤ 256 := by
  unfold putC
  split
  · by_cases hi : c.v.2.toNat < ls.length
    · rw [lkL_in hi]; exact h _ (List.getElem_mem hi)
    · rw [lkL_out (by omega)]; exact Nat.zero_le _
  · simp
theorem putO_len {ls : List (List Cel)} (h : ∀ l ∈ ls, l.length ≤ 256) : ∀ t : List Cel, (putO t ls).length ≤ t.length * 256
  | [] => by simp [putO]
  | c :: t => by
    have h1 := putC_len h c
    have h2 := putO_len h t
    have e : putO (c :: t) ls = putC ls c ++ putO t ls := by simp [putO]
    rw [e, List.length_append, List.length_cons]; omega
theorem bad_len {ls : List (List Cel)} (h : ls.any badT = false) : ∀ l ∈ ls, l.length ≤ 256 := by
  intro l hl
  have := List.any_eq_false.1 h l hl
  by_cases he : l = []
  · rw [he]; exact Nat.zero_le _
  · simp only [badT, Bool.and_eq_true, decide_eq_true_eq, Bool.not_eq_true', not_and, Bool.not_eq_false] at this
    exact (right_len (this he)).2
theorem addN_mem {ws : List Nm} {v w : Nm} : w ∈ addN ws v ↔ w ∈ ws ∨ w = v := by
  unfold addN
  split
  · rename_i h
    rw [List.contains_iff_mem] at h
    exact ⟨.inl, fun e => e.elim id fun e => by rw [e]; exact h⟩
  · simp
theorem varsL_iff : ∀ {t : List Cel} {ws : List Nm} {v : Nm}, v ∈ varsL ws t ↔ v ∈ ws ∨ ∃ c ∈ t, c.k = 4 ∧ c.v = v
  | [], ws, v => by simp [varsL]
  | c :: t, ws, v => by
    have e : varsL ws (c :: t) = varsL (if c.k = 4 then addN ws c.v else ws) t := by simp [varsL]
    rw [e, varsL_iff]
    by_cases h : c.k = 4
    · rw [if_pos h, addN_mem]
      constructor
      · rintro ((h1 | rfl) | ⟨d, h1, h2⟩)
        · exact .inl h1
        · exact .inr ⟨c, List.mem_cons_self, h, rfl⟩
        · exact .inr ⟨d, List.mem_cons_of_mem _ h1, h2⟩
      · rintro (h1 | ⟨d, h1, h2, h3⟩)
        · exact .inl (.inl h1)
        · rcases List.mem_cons.1 h1 with rfl | h1
          · exact .inl (.inr h3.symm)
          · exact .inr ⟨d, h1, h2, h3⟩
    · rw [if_neg h]
      constructor
      · rintro (h1 | ⟨d, h1, h2⟩)
        · exact .inl h1
        · exact .inr ⟨d, List.mem_cons_of_mem _ h1, h2⟩
      · rintro (h1 | ⟨d, h1, h2, h3⟩)
        · exact .inl h1
        · rcases List.mem_cons.1 h1 with rfl | h1
          · exact absurd h2 h
          · exact .inr ⟨d, h1, h2, h3⟩
theorem putB_vars (t : List Cel) (ls : List (List Cel)) : putB t ls = true ↔ ∃ v ∈ varsL [] t, v.1 = -1 ∧ lkL ls v.2.toNat = [] := by
  simp only [putB, List.any_eq_true, isLoc, Bool.and_eq_true, decide_eq_true_eq]
  constructor
  · rintro ⟨c, h1, ⟨h2, h3⟩, h4⟩
    exact ⟨c.v, varsL_iff.2 (.inr ⟨c, h1, h2, rfl⟩), h3, h4⟩
  · rintro ⟨v, h1, h2, h3⟩
    rcases varsL_iff.1 h1 with h | ⟨c, h4, h5, rfl⟩
    · cases h
    · exact ⟨c, h4, ⟨h5, h2⟩, h3⟩
theorem varsL_ok {t : List Cel} (h : right t = true) {v : Nm} (hv : v ∈ varsL [] t) : -1 ≤ v.1 ∧ 0 ≤ v.2 := by
  rcases varsL_iff.1 hv with h1 | ⟨c, h1, h2, rfl⟩
  · cases h1
  · obtain ⟨-, -, a, -, b⟩ := ok_var (right_ok_mem h h1) h2
    exact ⟨a, b⟩
def countC (n : Int) : Nat := if n < 0 then 0 else if n > 16 then 16 else n.toNat
theorem countC_le (n : Int) : countC n ≤ 16 := by unfold countC; split <;> (try split) <;> omega
def freeF (ws : List Nm) (n : Nat) : List Nat := (List.range n).filter fun i => !ws.contains ((-1 : Int), (i : Int))
theorem freeF_succ (ws : List Nm) (n : Nat) : freeF ws (n + 1) = if ws.contains ((-1 : Int), (n : Int)) then freeF ws n else freeF ws n ++ [n] := by
  unfold freeF
  rw [List.range_succ, List.filter_append]
  cases hc : ws.contains ((-1 : Int), (n : Int)) with
  | true => simp only [List.filter_cons, List.filter_nil, hc, Bool.not_true, if_true, Bool.false_eq_true, if_false, List.append_nil]
  | false => simp only [List.filter_cons, List.filter_nil, hc, Bool.not_false, if_true, Bool.false_eq_true, if_false]
theorem freeF_le (ws : List Nm) (n : Nat) : (freeF ws n).length ≤ n := by
  have := List.length_filter_le (fun i => !ws.contains ((-1 : Int), ((i : Nat) : Int))) (List.range n)
  rw [List.length_range] at this; exact this
theorem freeF_lt {ws : List Nm} {n i : Nat} (h : i ∈ freeF ws n) : i < n := by
  unfold freeF at h
  rw [List.mem_filter, List.mem_range] at h
  exact h.1
def padS (ls : List (List Cel)) (v : Nat) (x : List Cel) : List (List Cel) := (ls ++ List.replicate (v + 1 - ls.length) []).set v x
theorem lkL_pad (ls : List (List Cel)) (k i : Nat) : lkL (ls ++ List.replicate k []) i = lkL ls i := by
  unfold lkL
  by_cases h : i < ls.length
  · rw [List.getElem?_append_left h]
  · rw [List.getElem?_append_right (by omega), List.getElem?_replicate, List.getElem?_eq_none (by omega)]
    split <;> rfl
theorem lkL_set {ls : List (List Cel)} {v : Nat} (h : v < ls.length) (x : List Cel) (i : Nat) : lkL (ls.set v x) i = if i = v then x else lkL ls i := by
  unfold lkL
  rw [List.getElem?_set]
  by_cases e : i = v
  · subst e; simp [h]
  · rw [if_neg (fun h => e h.symm), if_neg e]
theorem lkL_padS (ls : List (List Cel)) (v : Nat) (x : List Cel) (i : Nat) : lkL (padS ls v x) i = if i = v then x else lkL ls i := by
  unfold padS
  rw [lkL_set (by simp; omega), lkL_pad]
theorem padS_len (ls : List (List Cel)) (v : Nat) (x : List Cel) : (padS ls v x).length = max ls.length (v + 1) := by simp [padS]; omega
def allP (ls : List (List Cel)) (n : Nat) (fs : List (Nat × Nm)) : List (List Cel) := fs.foldl (fun ls p => padS ls p.1 (varT p.2)) (ls.take n)
def allR (ls : List (List Cel)) (n : Nat) (fs : List (Nat × Nm)) : List (List Cel) := fs.foldl (fun ls p => ls.set p.1 (varT p.2)) (ls.take n ++ List.replicate (n - ls.length) [])
theorem allP_snoc (ls : List (List Cel)) (n : Nat) (fs : List (Nat × Nm)) (p : Nat × Nm) : allP ls n (fs ++ [p]) = padS (allP ls n fs) p.1 (varT p.2) := by simp [allP]
theorem allR_snoc (ls : List (List Cel)) (n : Nat) (fs : List (Nat × Nm)) (p : Nat × Nm) : allR ls n (fs ++ [p]) = (allR ls n fs).set p.1 (varT p.2) := by simp [allR]
theorem all_same (ls : List (List Cel)) (n : Nat) (fs : List (Nat × Nm)) (h : ∀ p ∈ fs, p.1 < n) : (allR ls n fs).length = n ∧ (allP ls n fs).length ≤ n ∧ ∀ i, lkL (allP ls n fs) i = lkL (allR ls n fs) i := by
  obtain ⟨k, hk⟩ : ∃ k, k = fs.length := ⟨_, rfl⟩
  induction k generalizing fs with
  | zero =>
    have : fs = [] := List.eq_nil_of_length_eq_zero hk.symm
    subst this
    refine ⟨by simp [allR]; omega, by simp [allP]; omega, fun i => by simp only [allP, allR, List.foldl_nil]; rw [lkL_pad]⟩
  | succ k ih =>
    obtain ⟨gs, p, rfl⟩ : ∃ gs p, fs = gs ++ [p] := by
      rcases List.eq_nil_or_concat fs with h0 | ⟨gs, p, h0⟩
      · subst h0; simp at hk
      · exact ⟨gs, p, by rw [h0]; simp⟩
    obtain ⟨i1, i2, i3⟩ := ih gs (fun q hq => h q (List.mem_append_left _ hq)) (by simpa using hk)
    have hp := h p (by simp)
    rw [allP_snoc, allR_snoc]
    refine ⟨by simp [i1], by rw [padS_len]; omega, fun i => ?_⟩
    rw [lkL_padS, lkL_set (by omega), i3]
end Go.Proofs.YtkjnanfkclijcaaDoor.Am

namespace Go.Proofs.YtkjnanfkclijcaaDoor.Am
open Go
set_option linter.unusedVariables false
set_option linter.unusedSimpArgs false
set_option linter.unusedSectionVars false
set_option maxRecDepth 100000
def tryC (k : Nat) (lv wv : AVal) : List AVal := [.int .u8 k, .int .i64 (-1), lv, wv]
abbrev tryZ : List AVal := [.int .u8 0, .int .i64 0, .nilslice, .nilslice]
theorem try_put {σ σ' : Store} {i : Nat} {k : Nat} {lv wv : AVal} (h : σ[i]? = some (.cells tryZ)) (hl : lv.one = true) (hw : wv.one = true) :
    storeV σ 4 (.ptr i 0) (.agg (tryC k lv wv)) = some (σ.set i (.cells (tryC k lv wv))) ∧ loadV (σ.set i (.cells (tryC k lv wv))) 4 true (.ptr i 0) = some (.agg (tryC k lv wv)) := by
  refine ⟨storeN_cells (n := 4) (cs' := tryC k lv wv) h rfl rfl ?_, loadN_cells (get_set h) rfl⟩
  simp only [tryC, List.all_cons, List.all_nil, hl, hw]; rfl
theorem nm_put (σ : Store) (v : Nm) : storeV (σ ++ [AObj.cells [.int .i64 0, .int .i64 0]]) 2 (.ptr σ.length 0) (nmV v) = some (σ ++ [AObj.cells (nmC v)]) := by
  have h : (σ ++ [AObj.cells [.int .i64 0, .int .i64 0]])[σ.length]? = some (.cells [.int .i64 0, .int .i64 0]) := by simp
  rw [nm_agg, storeN_cells (cs' := nmC v) (n := 2) h rfl rfl rfl, set_last]
section
variable (d : Nat) (σ : Store)
end
end Go.Proofs.YtkjnanfkclijcaaDoor.Am

namespace Go.Proofs.YtkjnanfkclijcaaDoor.Am
open Go
set_option linter.unusedVariables false
set_option linter.unusedSimpArgs false
set_option linter.unusedSectionVars false
set_option maxRecDepth 100000
def Mv (id aid : Nat) (nv : AVal) : Nat → Prop := fun i => i = id ∨ i = aid ∨ nv.sid = some i
structure Att (fm : AVal → List AVal) (σ0 : Store) (id aid : Nat) (σ : Store) (nv : AVal) (s : TSt) : Prop where
  old : Grows σ0 σ
  lid : σ0.length ≤ id
  laid : σ0.length ≤ aid
  lnv : Fresh σ0.length nv
  obj : σ[id]? = some (.cells (fm nv))
  names : Own σ 2 nv (NN s.ws)
  arr : ∃ es, σ[aid]? = some (.arr 1 es 0 0) ∧ Two (fun e t => Own σ 5 e (CC t)) es s.ls
theorem Own.noArr {σ : Store} {sz sz' i ep fl : Nat} {v : AVal} {es xs : List AVal} (h : Own σ sz v es) (ho : σ[i]? = some (.arr sz' xs ep fl)) (hn : sz ≠ sz') : v.sid ≠ some i := by
  intro hv
  rcases h.own with ⟨rfl, _⟩ | ⟨t, rfl⟩ | ⟨id, ep, off, cap, ys, epo, fl, rfl, h1, _⟩
  · cases hv
  · cases hv
  · injection hv with hv
    subst hv
    rw [ho] at h1; injection h1 with h1; injection h1 with h1; exact hn h1.symm
section
variable {fm : AVal → List AVal} {σ0 : Store} {id aid : Nat} {σ σ' : Store} {nv : AVal} {s : TSt}
theorem Att.lt (h : Att fm σ0 id aid σ nv s) : id < σ.length ∧ aid < σ.length := by
  obtain ⟨es, ha, -⟩ := h.arr
  exact ⟨(List.getElem?_eq_some_iff.1 h.obj).1, (List.getElem?_eq_some_iff.1 ha).1⟩
theorem Att.own5 (h : Att fm σ0 id aid σ nv s) {e : AVal} {p : List AVal} (he : Own σ 5 e p) (i : Nat) (hi : e.sid = some i) : ¬ Mv id aid nv i := by
  obtain ⟨es, ha, -⟩ := h.arr
  rintro (rfl | rfl | hv)
  · exact he.noCell h.obj hi
  · exact he.noArr ha (by decide) hi
  · exact he.sizes h.names (by decide) hi hv
theorem Att.keep5 (h : Att fm σ0 id aid σ nv s) {e : AVal} {p : List AVal} (he : Own σ 5 e p) (hk : Keeps (Mv id aid nv) σ σ') : Own σ' 5 e p :=
  he.keeps hk fun i hi => h.own5 he i hi
theorem Att.grow (h : Att fm σ0 id aid σ nv s) (g : Grows σ σ') : Att fm σ0 id aid σ' nv s := by
  obtain ⟨es, ha, ht⟩ := h.arr
  exact ⟨h.old.trans g, h.lid, h.laid, h.lnv, g.get h.obj, h.names.grow g, es, g.get ha, ht.mono fun e t ho => ho.grow g⟩
theorem Mv.trans {nv1 : AVal} {σ1 σ2 : Store} (h1 : Keeps (Mv id aid nv) σ σ1) (hs : ∀ i, nv1.sid = some i → nv.sid = some i ∨ σ.length ≤ i) (h2 : Keeps (Mv id aid nv1) σ1 σ2) : Keeps (Mv id aid nv) σ σ2 :=
  Keeps.trans h1 h2 fun i hi e => by
    rcases e with rfl | rfl | e
    · exact .inl rfl
    · exact .inr (.inl rfl)
    · rcases hs i e with e | e
      · exact .inr (.inr e)
      · omega
structure OT (σ : Store) (lo : Nat) (l : AVal) (es : List AVal) (ts : List (List Cel)) : Prop where
  row : Own σ 1 l es
  two : Two (fun e t => Own σ 5 e (CC t)) es ts
  frl : Fresh lo l
theorem OT.grow {lo : Nat} {l : AVal} {es : List AVal} {ts : List (List Cel)} (h : OT σ lo l es ts) (g : Grows σ σ') : OT σ' lo l es ts :=
  ⟨h.row.grow g, h.two.mono fun e t ho => ho.grow g, h.frl⟩
theorem OT.keep {lo : Nat} {l : AVal} {es : List AVal} {ts : List (List Cel)} (h : OT σ lo l es ts) (ha : Att fm σ0 id aid σ nv s) (h1 : id < lo) (h2 : aid < lo) (hk : Keeps (Mv id aid nv) σ σ') : OT σ' lo l es ts := by
  refine ⟨h.row.keeps hk fun i hi => ?_, h.two.mono fun e t ho => ha.keep5 ho hk, h.frl⟩
  have := h.frl i hi
  rintro (rfl | rfl | hv)
  · omega
  · omega
  · exact h.row.sizes ha.names (by decide) hi hv
theorem OT.at {lo : Nat} {l : AVal} {es : List AVal} {ts : List (List Cel)} (h : OT σ lo l es ts) {i : Nat} (hi : i < ts.length) : ∃ e, iaddrV 1 l (.int .i64 i) = some (addrOf 1 l i) ∧ loadV σ 1 false (addrOf 1 l i) = some e ∧ Own σ 5 e (CC ts[i]) := by
  have hi' : i < es.length := by rw [h.two.len]; exact hi
  obtain ⟨e, he1, he2⟩ := h.two.get hi
  have hee : es[i] = e := by rw [List.getElem?_eq_getElem hi'] at he1; exact Option.some.inj he1
  refine ⟨e, h.row.sl.iaddr hi' .i64, ?_, he2⟩
  have := h.row.sl.load1 hi' (by rw [hee]; exact he2.one) 1
  rw [hee] at this; exact this
theorem OT.len {lo : Nat} {l : AVal} {es : List AVal} {ts : List (List Cel)} (h : OT σ lo l es ts) : lenSV l = some ts.length := by
  rw [← h.two.len]; exact h.row.sl.len
end
def StepQ (fm : AVal → List AVal) (σ0 : Store) (id aid : Nat) (res : Option TSt) (s : TSt) (add : Nat) (nv : AVal) (σ : Store) : AVal → Store → Prop := fun r σ' =>
  ∃ (b : Bool) (nv' : AVal) (s' : TSt), r = .bool b ∧ Att fm σ0 id aid σ' nv' s' ∧ Keeps (Mv id aid nv) σ σ' ∧ (∀ i, nv'.sid = some i → nv.sid = some i ∨ σ.length ≤ i) ∧ res = (if b then some s' else none) ∧ s'.ws.length ≤ s.ws.length + add ∧ s'.ls.length = s.ls.length
section
variable (d : Nat)
theorem Two.set {α β : Type} {R : α → β → Prop} {us : List α} {ws : List β} (h : Two R us ws) (j : Nat) {a : α} {b : β} (hr : R a b) : Two R (us.set j a) (ws.set j b) :=
  Two.of_get (by simp [h.len]) fun i x y hx hy => by
    rw [List.getElem?_set] at hx hy
    split at hx
    · rename_i hij
      rw [if_pos hij] at hy
      split at hx
      · split at hy
        · injection hx with hx; injection hy with hy; subst hx; subst hy; exact hr
        · cases hy
      · cases hx
    · rename_i hij
      rw [if_neg hij] at hy
      exact h.at hx hy
theorem StepQ.plain {fm : AVal → List AVal} {σ0 : Store} {id aid : Nat} {res : Option TSt} {s : TSt} {add : Nat} {nv : AVal} {σ σ' : Store} (ha : Att fm σ0 id aid σ nv s) (g : Grows σ σ') (hr : res = none) : StepQ fm σ0 id aid res s add nv σ (.bool false) σ' :=
  ⟨false, nv, s, rfl, ha.grow g, g.any, fun i h => .inl h, by rw [hr]; rfl, by omega, rfl⟩
theorem Att.put {fm : AVal → List AVal} {σ0 : Store} {id aid : Nat} {nv : AVal} {s : TSt} {σ : Store} (ha : Att fm σ0 id aid σ nv s) {j : Nat} {u : AVal} {t : List Cel} (hu : Own σ 5 u (CC t)) (hj : j < s.ls.length) :
    ∃ σ', storeV σ 1 (.eptr aid 0 j 0) u = some σ' ∧ Att fm σ0 id aid σ' nv ⟨s.ls.set j t, s.ws⟩ ∧ Keeps (fun i => i = aid) σ σ' := by
  obtain ⟨es, h1, h2⟩ := ha.arr
  have hj' : j < es.length := by rw [h2.len]; exact hj
  obtain ⟨e, he1, he2⟩ := h2.get hj
  have hee : es[j] = e := by rw [List.getElem?_eq_getElem hj'] at he1; exact Option.some.inj he1
  have st := arr_store1 h1 hj' hu.one (by rw [hee]; exact he2.one)
  have k := Keeps.set σ aid (.arr 1 (es.set j u) 0 0)
  have hne : id ≠ aid := fun e => by have a := ha.obj; rw [e, h1] at a; cases a
  refine ⟨_, st, ⟨?_, ha.lid, ha.laid, ha.lnv, k.get ha.obj hne, ha.names.keeps k fun i hi e => ha.names.noArr h1 (by decide) (by rw [← e]; exact hi), es.set j u, get_set h1, ?_⟩, k⟩
  · exact Keeps.trans ha.old k fun i hi e => by have := ha.laid; omega
  · refine Two.set (h2.mono fun e t ho => ho.keeps k fun i hi e' => ho.noArr h1 (by decide) (by rw [← e']; exact hi)) j ?_
    exact hu.keeps k fun i hi e' => hu.noArr h1 (by decide) (by rw [← e']; exact hi)
theorem Att.get {fm : AVal → List AVal} {σ0 : Store} {id aid : Nat} {nv : AVal} {s : TSt} {σ : Store} (ha : Att fm σ0 id aid σ nv s) {j : Nat} (hj : j < s.ls.length) : ∃ e, loadV σ 1 false (.eptr aid 0 j 0) = some e ∧ lenSV e = some (s.ls[j]).length := by
  obtain ⟨es, h1, h2⟩ := ha.arr
  have hj' : j < es.length := by rw [h2.len]; exact hj
  obtain ⟨e, he1, he2⟩ := h2.get hj
  have hee : es[j] = e := by rw [List.getElem?_eq_getElem hj'] at he1; exact Option.some.inj he1
  refine ⟨e, ?_, by have := he2.sl.len; rwa [List.length_map] at this⟩
  rw [arr_load1 h1 (Nat.le_refl _) hj' (by rw [hee]; exact he2.one), hee]
end
end Go.Proofs.YtkjnanfkclijcaaDoor.Am

namespace Go.Proofs.YtkjnanfkclijcaaDoor.Am
open Go
set_option linter.unusedVariables false
set_option linter.unusedSimpArgs false
set_option linter.unusedSectionVars false
set_option maxRecDepth 100000
section
variable (d : Nat)
structure Tried (fm : AVal → List AVal) (σ0 : Store) (id aid : Nat) (F : TSt → List Cel → List Cel → Option TSt) (s : TSt) (azs bs : List (List Cel)) (lo : Nat) (al bl : AVal) (es fs : List AVal) (nv : AVal) (σ2 σ' : Store) (k : Nat) (nk : AVal) (sk : TSt) : Prop where
  att : Att fm σ0 id aid σ' nk sk
  keep : Keeps (Mv id aid nv) σ2 σ'
  nam : ∀ i, nk.sid = some i → nv.sid = some i ∨ σ2.length ≤ i
  ra : OT σ' lo al es azs
  rb : OT σ' lo bl fs bs
  res : foldO F s azs bs = foldO F sk (azs.drop k) (bs.drop k)
  ws : sk.ws.length ≤ s.ws.length + (azs.take k).flatten.length
  ls : sk.ls.length = s.ls.length
theorem Tried.step {fm : AVal → List AVal} {σ0 : Store} {id aid : Nat} {F : TSt → List Cel → List Cel → Option TSt} {s : TSt} {azs bs : List (List Cel)} {lo : Nat} {al bl : AVal} {es fs : List AVal} {nv : AVal} {σ2 σ' : Store} {k : Nat} {nk : AVal} {sk : TSt} (h : Tried fm σ0 id aid F s azs bs lo al bl es fs nv σ2 σ' k nk sk)
    (hk : k < azs.length) (hb : k < bs.length) (h1 : id < lo) (h2 : aid < lo) {σ3 : Store} {r : AVal} (hq : StepQ fm σ0 id aid (F sk azs[k] bs[k]) sk (azs[k]).length nk σ' r σ3) :
    ∃ b : Bool, r = .bool b ∧ ∃ nk' sk', Att fm σ0 id aid σ3 nk' sk' ∧ Keeps (Mv id aid nv) σ2 σ3 ∧ (∀ i, nk'.sid = some i → nv.sid = some i ∨ σ2.length ≤ i) ∧ sk'.ws.length ≤ s.ws.length + (azs.take (k + 1)).flatten.length ∧ sk'.ls.length = s.ls.length ∧ (b = true → Tried fm σ0 id aid F s azs bs lo al bl es fs nv σ2 σ3 (k + 1) nk' sk') ∧ (b = false → foldO F s azs bs = none) := by
  obtain ⟨b, nk', sk', rfl, a1, a2, a3, a4, a5, a6⟩ := hq
  have hfs := flat_step hk
  have stp := foldO_step (f := F) (s := sk) hk hb
  have c1 := Mv.trans h.keep h.nam a2
  have c2 : ∀ i, nk'.sid = some i → nv.sid = some i ∨ σ2.length ≤ i := fun i hi => (a3 i hi).elim (h.nam i) (fun e => .inr (by have := h.keep.1; omega))
  have c3 : sk'.ws.length ≤ s.ws.length + (azs.take (k + 1)).flatten.length := by have := h.ws; omega
  have c4 : sk'.ls.length = s.ls.length := by rw [a6]; exact h.ls
  refine ⟨b, rfl, nk', sk', a1, c1, c2, c3, c4, fun hb' => ?_, fun hb' => ?_⟩
  · refine ⟨a1, c1, c2, h.ra.keep h.att h1 h2 a2, h.rb.keep h.att h1 h2 a2, ?_, c3, c4⟩
    rw [h.res, stp, a4, hb']; rfl
  · rw [h.res, stp, a4, hb']; rfl
end
end Go.Proofs.YtkjnanfkclijcaaDoor.Am

namespace Go.Proofs.YtkjnanfkclijcaaDoor.Am
open Go
set_option linter.unusedVariables false
set_option linter.unusedSimpArgs false
set_option linter.unusedSectionVars false
set_option maxRecDepth 100000
theorem HeapV.one {σ : Store} {hv : AVal} {H : Hp} (h : HeapV σ hv H) : hv.one = true := by
  rcases h with ⟨rfl, _⟩ | ⟨id, mid, vs, rfl, _⟩ <;> rfl
theorem RefV.one {σ : Store} {rv : AVal} {R : Hp} (h : RefV σ rv R) : rv.one = true := by
  rcases h with ⟨rfl, _⟩ | ⟨id, A, rfl, _⟩ <;> rfl
def TryOk (σ : Store) (r : AVal) (x : TryR) : Prop := ∃ lv wv, r = .agg (tryC x.k lv wv) ∧ Terms σ lv x.ls ∧ SlOf σ 2 wv (NN x.ws)
theorem TryOk.grow {σ σ' : Store} {r : AVal} {x : TryR} (h : TryOk σ r x) (g : Grows σ σ') : TryOk σ' r x := by
  obtain ⟨lv, wv, h1, h2, h3⟩ := h
  exact ⟨lv, wv, h1, h2.grow g, h3.grow g⟩
theorem Terms.one {σ : Store} {l : AVal} {ts : List (List Cel)} (h : Terms σ l ts) : l.one = true := by obtain ⟨es, h1, -⟩ := h; exact h1.one
theorem try_told {σ σ0 : Store} {i k : Nat} {lv wv : AVal} {x : TryR} (ho : σ[i]? = some (.cells tryZ)) (hk : x.k = k) (h1 : Terms σ lv x.ls) (h2 : SlOf σ 2 wv (NN x.ws)) (hi : σ0.length ≤ i) (g : Grows σ0 σ) (n1 : ∀ j, lv.sid = some j → j ≠ i) (n2 : ∀ j, wv.sid = some j → j ≠ i) (n3 : ∀ (es : List AVal) (e : AVal) (j : Nat), SlOf σ 1 lv es → e ∈ es → e.sid = some j → j ≠ i) :
    ∃ σ', storeV σ 4 (.ptr i 0) (.agg (tryC k lv wv)) = some σ' ∧ loadV σ' 4 true (.ptr i 0) = some (.agg (tryC k lv wv)) ∧ Grows σ0 σ' ∧ TryOk σ' (.agg (tryC k lv wv)) x := by
  obtain ⟨p1, p2⟩ := try_put (σ' := σ) (k := k) ho h1.one h2.one
  have kk := Keeps.set σ i (.cells (tryC k lv wv))
  refine ⟨_, p1, p2, Keeps.trans g kk fun j hj e => by omega, lv, wv, by rw [hk], ?_, h2.keeps kk fun j hj e => n2 j hj e⟩
  obtain ⟨es, a1, a2⟩ := h1
  refine ⟨es, a1.keeps kk fun j hj e => n1 j hj e, a2.mono_mem fun e t he ht hs => hs.keeps kk fun j hj e' => n3 es e j a1 he hj e'⟩
theorem Att.new (fm : AVal → List AVal) (σ : Store) (n : Nat) : Att fm σ (σ.length + 1) σ.length ((σ ++ [.arr 1 (List.replicate n .nilslice) 0 0]) ++ [.cells (fm .nilslice)]) .nilslice ⟨List.replicate n [], []⟩ := by
  refine ⟨Grows.trans (Grows.app _ _) (Grows.app _ _), by omega, Nat.le_refl _, Fresh.nil _, by simp, Own.nil _ _, List.replicate n .nilslice, by simp, ?_⟩
  refine Two.of_get (by simp) fun i a b ha hb => ?_
  rw [List.getElem?_replicate] at ha hb
  by_cases h : i < n
  · rw [if_pos h] at ha hb
    cases ha; cases hb; exact Own.nil _ _
  · rw [if_neg h] at ha
    cases ha
theorem Att.terms {fm : AVal → List AVal} {σ0 : Store} {id aid : Nat} {nv : AVal} {s : TSt} {σ : Store} (ha : Att fm σ0 id aid σ nv s) : ∃ es, Own σ 1 (.slice 1 aid 0 0 s.ls.length (some s.ls.length)) es ∧ Two (fun e t => Own σ 5 e (CC t)) es s.ls := by
  obtain ⟨es, h1, h2⟩ := ha.arr
  refine ⟨es, ⟨.inr (.inr ⟨aid, 0, 0, some s.ls.length, es, 0, 0, by rw [h2.len], h1, Nat.le_refl _, by simp, fun _ => by simp, .inr (by rw [h2.len])⟩)⟩, h2⟩
theorem mk_locals (σ : Store) {n : Nat} (hn : n ≤ 1048576) : mkslV σ 1 24 [.nilslice] false (.int .i64 n) (.int .i64 n) = some (.slice 1 σ.length 0 0 n (some n), σ ++ [.arr 1 (List.replicate n .nilslice) 0 0]) := by
  have e : (0 : Int) ≤ (n : Int) ∧ (n : Int) ≤ (n : Int) ∧ (n : Int) * ((24 : Nat) : Int) ≤ apLim := by
    refine ⟨by omega, by omega, ?_⟩
    have : (apLim : Int) = 70368744177664 := rfl
    omega
  simp only [mkslV]
  rw [if_pos e]
  simp [zel]
section
variable (d : Nat) (σ : Store)
end
end Go.Proofs.YtkjnanfkclijcaaDoor.Am

namespace Go.Proofs.YtkjnanfkclijcaaDoor.Am
open Go
set_option linter.unusedVariables false
set_option linter.unusedSimpArgs false
set_option linter.unusedSectionVars false
set_option maxRecDepth 100000
section
variable (d : Nat) (σ : Store)
end
end Go.Proofs.YtkjnanfkclijcaaDoor.Am

namespace Go.Proofs.YtkjnanfkclijcaaDoor.Am
open Go
set_option linter.unusedVariables false
set_option linter.unusedSimpArgs false
set_option linter.unusedSectionVars false
set_option maxRecDepth 100000
theorem TryOk.put {σ σ0 : Store} {i : Nat} {r : AVal} {x : TryR} (h : TryOk σ r x) (ho : σ[i]? = some (.cells tryZ)) (hi : σ0.length ≤ i) (g : Grows σ0 σ) :
    ∃ σ', storeV σ 4 (.ptr i 0) r = some σ' ∧ loadV σ' 4 true (.ptr i 0) = some r ∧ Grows σ0 σ' ∧ TryOk σ' r x := by
  obtain ⟨lv, wv, rfl, h2, h3⟩ := h
  have h2' := h2
  obtain ⟨es, a1, a2⟩ := h2'
  refine try_told ho rfl h2 h3 hi g (fun j h e => a1.noCell ho (by rw [← e]; exact h)) (fun j h e => h3.noCell ho (by rw [← e]; exact h)) (fun fs e j hf he hj e' => ?_)
  have : fs = es := Option.some.inj (hf.1.symm.trans a1.1)
  subst this
  obtain ⟨b, _, hb⟩ := a2.mem_left he
  exact hb.noCell ho (by rw [← e']; exact hj)
theorem Terms.lit {σ : Store} {v : AVal} {p : List Cel} (tg : Nat) (h : SlOf σ 5 v (CC p)) : Terms σ (.fslice tg true 1 [v]) [p] := ⟨[v], SlOf.fs _ _ _ _ _, Two.one h⟩
theorem I64.of {i : Int} (h : I64 i) : -9223372036854775808 ≤ i ∧ i < 9223372036854775808 := h
section
variable (d : Nat) (σ : Store)
theorem rvarsof_ok (pv : AVal) (p : List Cel) (sp : Small p) (hp : SlOf σ 5 pv (CC p)) : Called CU.cfg d 44 [pv] σ fun r σ' => Grows σ σ' ∧ Own σ' 2 r (NN (varsL [] p)) := by
  refine called_of (fn := CU.a44) rfl (Nat.le_of_ble_eq_true rfl) ?_
  simp only [CU.a44]
  simp -dsimp only [↓WPd, ↓wpC_block, ↓wpC_cond, WPu, Bool.false_eq_true, Bool.true_eq_false, Bool.not_true, Bool.not_false, if_true, if_false, ite_true, ite_false, Nat.reduceEqDiff, Nat.reduceLT, true_and, List.map_cons, List.map_nil, Nat.zero_add, Nat.reduceBEq, lit1_ok hp.one]
  refine calledW_of (rvars_ok d σ _ [p] (by simpa using sp.1) (by simp) (Terms.lit _ hp)) ?_
  rintro l σ2 ⟨g2, ol, -⟩
  have hfl : [p].flatten = p := by simp
  rw [hfl] at ol
  simp -dsimp only [↓WPd, ↓wpC_block, ↓wpC_cond, WPu, Bool.false_eq_true, Bool.true_eq_false, Bool.not_true, Bool.not_false, if_true, if_false, ite_true, ite_false, Nat.reduceEqDiff, Nat.reduceLT, true_and, List.map_cons, List.map_nil, Nat.zero_add, Nat.reduceBEq]
  exact ⟨g2, ol⟩
end
end Go.Proofs.YtkjnanfkclijcaaDoor.Am

namespace Go.Proofs.YtkjnanfkclijcaaDoor.Am
open Go
set_option linter.unusedVariables false
set_option linter.unusedSimpArgs false
set_option linter.unusedSectionVars false
set_option maxRecDepth 100000
section
variable (d : Nat) (σ : Store)
theorem put1_ok (e : AVal) (t : List Cel) (hs : Small t) (he : SlOf σ 5 e (CC t)) : Called CU.cfg d 138 [e] σ fun v σ' => v = .bool (badT t) ∧ Grows σ σ' := by
  refine called_of (fn := CU.a138) rfl (Nat.le_of_ble_eq_true rfl) ?_
  simp only [CU.a138]
  have le := he.len
  rw [List.length_map] at le
  by_cases h0 : t = []
  · have e0 : decide ((t.length : Int) > 0) = false := by rw [h0]; rfl
    have e1 : badT t = false := by rw [h0]; rfl
    simp -dsimp only [↓WPd, ↓wpC_block, ↓wpC_cond, WPu, Bool.false_eq_true, Bool.true_eq_false, Bool.not_true, Bool.not_false, if_true, if_false, ite_true, ite_false, Nat.reduceEqDiff, Nat.reduceLT, true_and, List.map_cons, List.map_nil, Nat.zero_add, Nat.reduceBEq, le, e0, e1]
    exact Keeps.refl _ _
  · have e0 : decide ((t.length : Int) > 0) = true := by have := List.length_pos_iff.2 h0; rw [decide_eq_true_eq]; omega
    have e1 : badT t = !right t := by rw [badT, decide_eq_true h0, Bool.true_and]
    simp -dsimp only [↓WPd, ↓wpC_block, ↓wpC_cond, WPu, Bool.false_eq_true, Bool.true_eq_false, Bool.not_true, Bool.not_false, if_true, if_false, ite_true, ite_false, Nat.reduceEqDiff, Nat.reduceLT, true_and, List.map_cons, List.map_nil, Nat.zero_add, Nat.reduceBEq, le, e0]
    refine calledW_of (right_ok d σ e t hs.1 hs.2 he) ?_
    rintro v σ1 ⟨rfl, g⟩
    simp -dsimp only [↓WPd, ↓wpC_block, ↓wpC_cond, WPu, Bool.false_eq_true, Bool.true_eq_false, Bool.not_true, Bool.not_false, if_true, if_false, ite_true, ite_false, Nat.reduceEqDiff, Nat.reduceLT, true_and, List.map_cons, List.map_nil, Nat.zero_add, Nat.reduceBEq, e1]
    exact g
def PutOk (σ σ' : Store) (r : AVal) (t : List Cel) (ls : List (List Cel)) : Prop := ∃ u, r = .tuple [u, .int .i64 (putE t ls)] ∧ Grows σ σ' ∧ Own σ' 5 u (CC (putT t ls)) ∧ Fresh σ.length u ∧ NoLit u
theorem PutOk.fail {σ σ' : Store} {t : List Cel} {ls : List (List Cel)} {e : Int} (h : putE t ls = e) (he : e ≠ 0) (g : Grows σ σ') : PutOk σ σ' (.tuple [.nilslice, .int .i64 e]) t ls :=
  ⟨.nilslice, by rw [h], g, by rw [putT, if_neg (by rw [h]; exact he)]; exact Own.nil _ _, Fresh.nil _, trivial⟩
set_option maxHeartbeats 1000000 in
theorem mput_ok (tv lv : AVal) (t : List Cel) (ls : List (List Cel)) (st : Small t) (sl : ∀ l ∈ ls, Small l) (hl : ls.length < 2 ^ 40) (ht : SlOf σ 5 tv (CC t)) (hls : Terms σ lv ls) :
    Called CU.cfg d 91 [tv, lv] σ fun r σ' => PutOk σ σ' r t ls := by
  refine called_of (fn := CU.a91) rfl (Nat.le_of_ble_eq_true rfl) ?_
  simp only [CU.a91]
  simp -dsimp only [↓WPd, ↓wpC_block, ↓wpC_cond, WPu, Bool.false_eq_true, Bool.true_eq_false, Bool.not_true, Bool.not_false, if_true, if_false, ite_true, ite_false, Nat.reduceEqDiff, Nat.reduceLT, true_and, List.map_cons, List.map_nil, Nat.zero_add, Nat.reduceBEq]
  refine calledW_of (right_ok d σ tv t st.1 st.2 ht) ?_
  rintro r σ1 ⟨rfl, g1⟩
  cases hr : right t with
  | false =>
    simp -dsimp only [↓WPd, ↓wpC_block, ↓wpC_cond, WPu, Bool.false_eq_true, Bool.true_eq_false, Bool.not_true, Bool.not_false, if_true, if_false, ite_true, ite_false, Nat.reduceEqDiff, Nat.reduceLT, true_and, List.map_cons, List.map_nil, Nat.zero_add, Nat.reduceBEq]
    exact PutOk.fail (by simp [putE, hr]) (by decide) g1
  | true =>
    simp -dsimp only [↓WPd, ↓wpC_block, ↓wpC_cond, WPu, Bool.false_eq_true, Bool.true_eq_false, Bool.not_true, Bool.not_false, if_true, if_false, ite_true, ite_false, Nat.reduceEqDiff, Nat.reduceLT, true_and, List.map_cons, List.map_nil, Nat.zero_add, Nat.reduceBEq]
    refine calledW_of (tcontains_ok d σ1 138 badT lv ls hl (hls.grow g1) (fun l e σ' hm he => put1_ok d σ' e l (sl l hm) he)) ?_
    rintro r σ2 ⟨rfl, g2⟩
    have g02 := g1.trans g2
    cases hb : ls.any badT with
    | true =>
      simp -dsimp only [↓WPd, ↓wpC_block, ↓wpC_cond, WPu, Bool.false_eq_true, Bool.true_eq_false, Bool.not_true, Bool.not_false, if_true, if_false, ite_true, ite_false, Nat.reduceEqDiff, Nat.reduceLT, true_and, List.map_cons, List.map_nil, Nat.zero_add, Nat.reduceBEq]
      exact PutOk.fail (by simp [putE, hb]) (by decide) g02
    | false =>
      have h256 := bad_len hb
      have hE : putE t ls = if putB t ls then 4 else if 256 < (putO t ls).length then 5 else 0 := by simp [putE, hr, hb]
      have ht2 := ht.grow g02
      have hlen := right_len hr
      simp -dsimp only [↓WPd, ↓wpC_block, ↓wpC_cond, WPu, Bool.false_eq_true, Bool.true_eq_false, Bool.not_true, Bool.not_false, if_true, if_false, ite_true, ite_false, Nat.reduceEqDiff, Nat.reduceLT, true_and, List.map_cons, List.map_nil, Nat.zero_add, Nat.reduceBEq, lit1_ok ht.one]
      refine calledW_of (vars_ok d σ2 _ [t] (by simpa using st.1) (by simp) (Terms.lit _ ht2)) ?_
      rintro nl σ3 ⟨g3, on, -⟩
      have hfl : [t].flatten = t := by simp
      rw [hfl] at on
      have g03 := g02.trans g3
      have hPV := putB_vars t ls
      have hvok := fun v hv => varsL_ok hr (v := v) hv
      have hvl := varsL_len [] t
      simp only [List.length_nil, Nat.zero_add] at hvl
      have ln := names_len on.sl
      have hls3 := hls.grow g03
      have ll := hls3.len
      generalize varsL [] t = ws at *
      simp -dsimp only [↓WPd, ↓wpC_block, ↓wpC_cond, WPu, Bool.false_eq_true, Bool.true_eq_false, Bool.not_true, Bool.not_false, if_true, if_false, ite_true, ite_false, Nat.reduceEqDiff, Nat.reduceLT, true_and, List.map_cons, List.map_nil, Nat.zero_add, Nat.reduceBEq, ln]
      refine loop_rule2 (fun m vs σ' => ∃ k, k ≤ ws.length ∧ m = ws.length - k ∧ vs = [tv, lv, nl, .int .i64 ws.length, .int .i64 k] ∧ Grows σ3 σ' ∧ ∀ (j : Nat) (hj : j < ws.length), j < k → ¬ ((ws[j]).1 = -1 ∧ lkL ls (ws[j]).2.toNat = []))
        [0, 1, 4, 5] (fun e vs σ' => Grows σ3 σ' ∧ ((e = .exit 0 ∧ (∃ x y, vs = [tv, lv, x, y]) ∧ putB t ls = false) ∨ (e = .ret ∧ (∃ x y, vs = [x, y, .nilslice, .int .i64 4]) ∧ putB t ls = true))) ws.length ⟨0, Nat.zero_le _, rfl, ?_, Keeps.refl _ _, fun j _ h => by omega⟩ ?_ ?_
      · simp -dsimp only [↓WPd, ↓wpC_block, ↓wpC_cond, WPu, Bool.false_eq_true, Bool.true_eq_false, Bool.not_true, Bool.not_false, if_true, if_false, ite_true, ite_false, Nat.reduceEqDiff, Nat.reduceLT, true_and, List.map_cons, List.map_nil, Nat.zero_add, Nat.reduceBEq]; rfl
      · rintro m vs σ' ⟨k, hk, rfl, rfl, gl, hall⟩
        simp -dsimp only [↓WPd, ↓wpC_block, ↓wpC_cond, WPu, Bool.false_eq_true, Bool.true_eq_false, Bool.not_true, Bool.not_false, if_true, if_false, ite_true, ite_false, Nat.reduceEqDiff, Nat.reduceLT, true_and, List.map_cons, List.map_nil, Nat.zero_add, Nat.reduceBEq]
        refine condP_dec (fun h => ?_) (fun h => ?_)
        · have hk' : k < ws.length := by omega
          obtain ⟨a1, a2⟩ := names_at (on.grow gl).sl hk'
          have hvk := hvok _ (List.getElem_mem hk')
          have hP := fun (hg : (ws[k]).1 = -1 ∧ lkL ls (ws[k]).2.toNat = []) => hPV.2 ⟨_, List.getElem_mem hk', hg⟩
          simp -dsimp only [↓WPd, ↓wpC_block, ↓wpC_cond, WPu, Bool.false_eq_true, Bool.true_eq_false, Bool.not_true, Bool.not_false, if_true, if_false, ite_true, ite_false, Nat.reduceEqDiff, Nat.reduceLT, true_and, List.map_cons, List.map_nil, Nat.zero_add, Nat.reduceBEq, a1, a2, nm_put]
          have hnext : ¬ ((ws[k]).1 = -1 ∧ lkL ls (ws[k]).2.toNat = []) → ∀ (j : Nat) (hj : j < ws.length), j < k + 1 → ¬ ((ws[j]).1 = -1 ∧ lkL ls (ws[j]).2.toNat = []) := fun hn j hj hjk => by
            by_cases e : j = k
            · subst e; exact hn
            · exact hall j hj (by omega)
          generalize ws[k] = v at *
          have ov : (σ' ++ [AObj.cells (nmC v)])[σ'.length]? = some (.cells (nmC v)) := by simp
          have g4 : Grows σ' (σ' ++ [AObj.cells (nmC v)]) := Grows.app _ _
          generalize σ' ++ [AObj.cells (nmC v)] = σ4 at ov g4
          generalize σ'.length = iv at ov
          have wk : IntKind.i64.wrap ((k : Int) + 1) = ((k + 1 : Nat) : Int) := by rw [wrap_i64 (by omega) (by omega), Int.natCast_add, Int.natCast_one]
          simp -dsimp only [↓WPd, ↓wpC_block, ↓wpC_cond, WPu, Bool.false_eq_true, Bool.true_eq_false, Bool.not_true, Bool.not_false, if_true, if_false, ite_true, ite_false, Nat.reduceEqDiff, Nat.reduceLT, true_and, List.map_cons, List.map_nil, Nat.zero_add, Nat.reduceBEq, faddr_ptr, Nat.add_zero, Nat.zero_add, load_cells ov, nm_g0, nm_g1, int_beq]
          by_cases h1 : v.1 = -1
          · by_cases h2 : v.2 < ls.length
            · obtain ⟨j, hj⟩ : ∃ j : Nat, v.2 = j := ⟨v.2.toNat, by omega⟩
              have hjl : j < ls.length := by omega
              have e2 : decide (v.2 ≥ (ls.length : Int)) = false := by rw [decide_eq_false_iff_not]; omega
              obtain ⟨e, b1, b2, b3⟩ := ((hls3.grow gl).grow g4).at hjl
              rw [← hj] at b1
              have le := b3.len
              rw [List.length_map] at le
              have hjt : lkL ls v.2.toNat = ls[j] := by rw [hj, Int.toNat_natCast, lkL_in hjl]
              by_cases h3 : ls[j] = []
              · have e3 : (((ls[j]).length : Int) == 0) = true := by rw [h3]; rfl
                simp -dsimp only [↓WPd, ↓wpC_block, ↓wpC_cond, WPu, Bool.false_eq_true, Bool.true_eq_false, Bool.not_true, Bool.not_false, if_true, if_false, ite_true, ite_false, Nat.reduceEqDiff, Nat.reduceLT, true_and, List.map_cons, List.map_nil, Nat.zero_add, Nat.reduceBEq, decide_eq_true h1, faddr_ptr, Nat.zero_add, load_cells ov, nm_g1, ll, e2, b1, b2, le, e3]
                exact ⟨gl.trans g4, .inr ⟨⟨_, _, rfl⟩, hP ⟨h1, by rw [hjt]; exact h3⟩⟩⟩
              · have e3 : (((ls[j]).length : Int) == 0) = false := by
                  have := List.length_pos_iff.2 h3
                  rw [beq_eq_false_iff_ne]; omega
                simp -dsimp only [↓WPd, ↓wpC_block, ↓wpC_cond, WPu, Bool.false_eq_true, Bool.true_eq_false, Bool.not_true, Bool.not_false, if_true, if_false, ite_true, ite_false, Nat.reduceEqDiff, Nat.reduceLT, true_and, List.map_cons, List.map_nil, Nat.zero_add, Nat.reduceBEq, decide_eq_true h1, faddr_ptr, Nat.zero_add, load_cells ov, nm_g1, ll, e2, b1, b2, le, e3, wk]
                exact ⟨ws.length - (k + 1), by omega, k + 1, by omega, rfl, rfl, gl.trans g4, hnext fun hg => h3 (by rw [← hjt]; exact hg.2)⟩
            · have e2 : decide (v.2 ≥ (ls.length : Int)) = true := by rw [decide_eq_true_eq]; omega
              simp -dsimp only [↓WPd, ↓wpC_block, ↓wpC_cond, WPu, Bool.false_eq_true, Bool.true_eq_false, Bool.not_true, Bool.not_false, if_true, if_false, ite_true, ite_false, Nat.reduceEqDiff, Nat.reduceLT, true_and, List.map_cons, List.map_nil, Nat.zero_add, Nat.reduceBEq, decide_eq_true h1, faddr_ptr, Nat.zero_add, load_cells ov, nm_g1, ll, e2]
              exact ⟨gl.trans g4, .inr ⟨⟨_, _, rfl⟩, hP ⟨h1, lkL_out (by omega)⟩⟩⟩
          · simp -dsimp only [↓WPd, ↓wpC_block, ↓wpC_cond, WPu, Bool.false_eq_true, Bool.true_eq_false, Bool.not_true, Bool.not_false, if_true, if_false, ite_true, ite_false, Nat.reduceEqDiff, Nat.reduceLT, true_and, List.map_cons, List.map_nil, Nat.zero_add, Nat.reduceBEq, decide_eq_false h1, wk]
            exact ⟨ws.length - (k + 1), by omega, k + 1, by omega, rfl, rfl, gl.trans g4, hnext fun hg => h1 hg.1⟩
        · simp -dsimp only [↓WPd, ↓wpC_block, ↓wpC_cond, WPu, Bool.false_eq_true, Bool.true_eq_false, Bool.not_true, Bool.not_false, if_true, if_false, ite_true, ite_false, Nat.reduceEqDiff, Nat.reduceLT, true_and, List.map_cons, List.map_nil, Nat.zero_add, Nat.reduceBEq]
          refine ⟨gl, .inl ⟨⟨_, _, rfl⟩, ?_⟩⟩
          rw [Bool.eq_false_iff]
          intro hp
          obtain ⟨v, hv, h1⟩ := hPV.1 hp
          obtain ⟨j, hj, rfl⟩ := List.getElem_of_mem hv
          exact hall j hj (by omega) h1
      · rintro e σ' env ⟨gl, ⟨rfl, ⟨x, y, hv⟩, hpb⟩ | ⟨rfl, ⟨x, y, hv⟩, hpb⟩⟩
        · simp only [List.map_cons, List.map_nil, List.cons.injEq, and_true] at hv
          obtain ⟨v0, v1, -, -⟩ := hv
          have g04 := g03.trans gl
          have ht4 := ht.grow g04
          have hls4 := hls.grow g04
          have lt := ht4.len
          rw [List.length_map] at lt
          rw [hpb] at hE
          simp only [Bool.false_eq_true, if_false] at hE
          simp -dsimp only [↓WPd, ↓wpC_block, ↓wpC_cond, WPu, Bool.false_eq_true, Bool.true_eq_false, Bool.not_true, Bool.not_false, if_true, if_false, ite_true, ite_false, Nat.reduceEqDiff, Nat.reduceLT, true_and, List.map_cons, List.map_nil, Nat.zero_add, Nat.reduceBEq, v0, v1, lt]
          refine loop_rule2 (fun m vs σ5 => ∃ k o, k ≤ t.length ∧ m = t.length - k ∧ vs = [lv, o, tv, .int .i64 t.length, .int .i64 k] ∧ Grows σ σ5 ∧ Own σ5 5 o (CC (putO (t.take k) ls)) ∧ Fresh σ.length o ∧ NoLit o)
            [9] (fun e vs σ5 => e = .exit 2 ∧ ∃ o, vs = [o] ∧ Grows σ σ5 ∧ Own σ5 5 o (CC (putO t ls)) ∧ Fresh σ.length o ∧ NoLit o) t.length ⟨0, .nilslice, Nat.zero_le _, rfl, ?_, g04, Own.nil _ _, Fresh.nil _, trivial⟩ ?_ ?_
          · simp -dsimp only [↓WPd, ↓wpC_block, ↓wpC_cond, WPu, Bool.false_eq_true, Bool.true_eq_false, Bool.not_true, Bool.not_false, if_true, if_false, ite_true, ite_false, Nat.reduceEqDiff, Nat.reduceLT, true_and, List.map_cons, List.map_nil, Nat.zero_add, Nat.reduceBEq, v1]; rfl
          · rintro m vs σ5 ⟨k, o, hk, rfl, rfl, g5, oo, fo, no⟩
            simp -dsimp only [↓WPd, ↓wpC_block, ↓wpC_cond, WPu, Bool.false_eq_true, Bool.true_eq_false, Bool.not_true, Bool.not_false, if_true, if_false, ite_true, ite_false, Nat.reduceEqDiff, Nat.reduceLT, true_and, List.map_cons, List.map_nil, Nat.zero_add, Nat.reduceBEq]
            refine condP_dec (fun h => ?_) (fun h => ?_)
            · have hk' : k < t.length := by omega
              have ht5 := ht.grow g5
              obtain ⟨a1, a2⟩ := cela_at ht5 hk'
              have hsn := putO_snoc (t.take k) t[k] ls
              rw [← List.take_succ_eq_append_getElem hk'] at hsn
              have hpl := putO_len h256 (t.take k)
              rw [List.length_take] at hpl
              have hcl := putC_len h256 t[k]
              have hmem : t[k] ∈ t := List.getElem_mem hk'
              simp -dsimp only [↓WPd, ↓wpC_block, ↓wpC_cond, WPu, Bool.false_eq_true, Bool.true_eq_false, Bool.not_true, Bool.not_false, if_true, if_false, ite_true, ite_false, Nat.reduceEqDiff, Nat.reduceLT, true_and, List.map_cons, List.map_nil, Nat.zero_add, Nat.reduceBEq, a1, a2, cel_put]
              generalize hcc : t[k] = c at *
              have oc : (σ5 ++ [AObj.cells c.cs])[σ5.length]? = some (.cells c.cs) := by simp
              have g6 : Grows σ5 (σ5 ++ [AObj.cells c.cs]) := Grows.app _ _
              have oo6 := oo.grow g6
              have g06 := g5.trans g6
              generalize σ5 ++ [AObj.cells c.cs] = σ6 at oc g6 oo6 g06
              generalize σ5.length = ic at oc
              have k4 : ((c.k : Int) == 4) = decide (c.k = 4) := by by_cases h : c.k = 4 <;> simp [h] <;> omega
              have wk : IntKind.i64.wrap ((k : Int) + 1) = ((k + 1 : Nat) : Int) := by rw [wrap_i64 (by omega) (by omega), Int.natCast_add, Int.natCast_one]
              have one : isLoc c = false → ∃ o' σ7, appendV σ6 5 48 o [c.val] = some (o', σ7) ∧ Grows σ σ7 ∧ Own σ7 5 o' (CC (putO (t.take (k + 1)) ls)) ∧ Fresh σ.length o' ∧ NoLit o' := fun hn => by
                obtain ⟨o', σ7, p1, p2, p3, p4, p5⟩ := oo6.append (CC [c]) 48 (by simp only [List.length_map, List.length_singleton]; omega)
                refine ⟨o', σ7, p1, Keeps.trans g06 p3 fun i hi e => by have := fo i e; omega, ?_, fun i hi => ?_, p5 (.inl no)⟩
                · rw [hsn, putC, hn, if_neg (by simp)]
                  rw [← List.map_append] at p2; exact p2
                · rcases p4 i hi with e | e
                  · exact fo i e
                  · have := g06.1; omega
              simp -dsimp only [↓WPd, ↓wpC_block, ↓wpC_cond, WPu, Bool.false_eq_true, Bool.true_eq_false, Bool.not_true, Bool.not_false, if_true, if_false, ite_true, ite_false, Nat.reduceEqDiff, Nat.reduceLT, true_and, List.map_cons, List.map_nil, Nat.zero_add, Nat.reduceBEq, faddr_ptr, Nat.add_zero, Nat.zero_add, load_cells oc, Cel.g0, k4]
              by_cases h4 : c.k = 4
              · simp -dsimp only [↓WPd, ↓wpC_block, ↓wpC_cond, WPu, Bool.false_eq_true, Bool.true_eq_false, Bool.not_true, Bool.not_false, if_true, if_false, ite_true, ite_false, Nat.reduceEqDiff, Nat.reduceLT, true_and, List.map_cons, List.map_nil, Nat.zero_add, Nat.reduceBEq, decide_eq_true h4, faddr_ptr, Nat.add_zero, Nat.zero_add, load_cells oc, Cel.g3, int_beq]
                by_cases h1 : c.v.1 = -1
                · have hloc : isLoc c = true := by simp [isLoc, h4, h1]
                  have hvi := ok_var (right_ok_mem hr hmem) h4
                  have hnb : lkL ls c.v.2.toNat ≠ [] := fun hg => by
                    have : putB t ls = true := by
                      simp only [putB, List.any_eq_true, Bool.and_eq_true, decide_eq_true_eq]
                      exact ⟨c, hmem, hloc, hg⟩
                    rw [hpb] at this; cases this
                  have h2 : c.v.2.toNat < ls.length := by
                    refine Nat.lt_of_not_le fun h => hnb (lkL_out h)
                  obtain ⟨j, hj⟩ : ∃ j : Nat, c.v.2 = j := ⟨c.v.2.toNat, by omega⟩
                  have hjl : j < ls.length := by omega
                  obtain ⟨e, b1, b2, b3⟩ := (hls.grow g06).at hjl
                  rw [← hj] at b1
                  have hjt : lkL ls c.v.2.toNat = ls[j] := by rw [hj, Int.toNat_natCast, lkL_in hjl]
                  have hpc : putC ls c = ls[j] := by rw [putC, hloc, if_pos rfl, hjt]
                  obtain ⟨o', σ7, p1, p2, p3, p4, p5⟩ := oo6.append (CC ls[j]) 48 (by rw [hpc] at hcl; simp only [List.length_map]; omega)
                  simp -dsimp only [↓WPd, ↓wpC_block, ↓wpC_cond, WPu, Bool.false_eq_true, Bool.true_eq_false, Bool.not_true, Bool.not_false, if_true, if_false, ite_true, ite_false, Nat.reduceEqDiff, Nat.reduceLT, true_and, List.map_cons, List.map_nil, Nat.zero_add, Nat.reduceBEq, decide_eq_true h1, faddr_ptr, Nat.add_zero, Nat.zero_add, Nat.reduceAdd, load_cells oc, Cel.g4, b1, b2, b3.1, p1, wk]
                  refine ⟨t.length - (k + 1), by omega, k + 1, o', by omega, rfl, rfl, Keeps.trans g06 p3 fun i hi e => by have := fo i e; omega, ?_, fun i hi => ?_, p5 (.inl no)⟩
                  · rw [hsn, hpc]
                    rw [← List.map_append] at p2; exact p2
                  · rcases p4 i hi with e | e
                    · exact fo i e
                    · have := g06.1; omega
                · obtain ⟨o', σ7, p1, q⟩ := one (by simp [isLoc, h1])
                  simp -dsimp only [↓WPd, ↓wpC_block, ↓wpC_cond, WPu, Bool.false_eq_true, Bool.true_eq_false, Bool.not_true, Bool.not_false, if_true, if_false, ite_true, ite_false, Nat.reduceEqDiff, Nat.reduceLT, true_and, List.map_cons, List.map_nil, Nat.zero_add, Nat.reduceBEq, decide_eq_false h1, cell_load oc, cel_lit, elems_fs, p1, wk]
                  exact ⟨t.length - (k + 1), by omega, k + 1, o', by omega, rfl, rfl, q⟩
              · obtain ⟨o', σ7, p1, q⟩ := one (by simp [isLoc, h4])
                simp -dsimp only [↓WPd, ↓wpC_block, ↓wpC_cond, WPu, Bool.false_eq_true, Bool.true_eq_false, Bool.not_true, Bool.not_false, if_true, if_false, ite_true, ite_false, Nat.reduceEqDiff, Nat.reduceLT, true_and, List.map_cons, List.map_nil, Nat.zero_add, Nat.reduceBEq, decide_eq_false h4, cell_load oc, cel_lit, elems_fs, p1, wk]
                exact ⟨t.length - (k + 1), by omega, k + 1, o', by omega, rfl, rfl, q⟩
            · have : k = t.length := by omega
              subst this
              rw [List.take_length] at oo
              simp -dsimp only [↓WPd, ↓wpC_block, ↓wpC_cond, WPu, Bool.false_eq_true, Bool.true_eq_false, Bool.not_true, Bool.not_false, if_true, if_false, ite_true, ite_false, Nat.reduceEqDiff, Nat.reduceLT, true_and, List.map_cons, List.map_nil, Nat.zero_add, Nat.reduceBEq]
              exact ⟨o, rfl, g5, oo, fo, no⟩
          · rintro e σ5 env ⟨rfl, o, hv, g5, oo, fo, no⟩
            simp only [List.map_cons, List.map_nil, List.cons.injEq, and_true] at hv
            have lo := oo.sl.len
            rw [List.length_map] at lo
            simp -dsimp only [↓WPd, ↓wpC_block, ↓wpC_cond, WPu, Bool.false_eq_true, Bool.true_eq_false, Bool.not_true, Bool.not_false, if_true, if_false, ite_true, ite_false, Nat.reduceEqDiff, Nat.reduceLT, true_and, List.map_cons, List.map_nil, Nat.zero_add, Nat.reduceBEq, hv, lo]
            by_cases h5 : 256 < (putO t ls).length
            · have e5 : decide (((putO t ls).length : Int) > 256) = true := by rw [decide_eq_true_eq]; omega
              rw [if_pos h5] at hE
              simp -dsimp only [↓WPd, ↓wpC_block, ↓wpC_cond, WPu, Bool.false_eq_true, Bool.true_eq_false, Bool.not_true, Bool.not_false, if_true, if_false, ite_true, ite_false, Nat.reduceEqDiff, Nat.reduceLT, true_and, List.map_cons, List.map_nil, Nat.zero_add, Nat.reduceBEq, e5]
              exact PutOk.fail hE (by decide) g5
            · have e5 : decide (((putO t ls).length : Int) > 256) = false := by rw [decide_eq_false_iff_not]; omega
              rw [if_neg h5] at hE
              simp -dsimp only [↓WPd, ↓wpC_block, ↓wpC_cond, WPu, Bool.false_eq_true, Bool.true_eq_false, Bool.not_true, Bool.not_false, if_true, if_false, ite_true, ite_false, Nat.reduceEqDiff, Nat.reduceLT, true_and, List.map_cons, List.map_nil, Nat.zero_add, Nat.reduceBEq, e5, hv]
              exact ⟨o, by rw [hE], g5, by rw [putT, if_pos hE]; exact oo, fo, no⟩
        · simp only [List.map_cons, List.map_nil, List.cons.injEq, and_true] at hv
          obtain ⟨-, -, v4, v5⟩ := hv
          rw [hpb] at hE
          simp -dsimp only [↓WPd, ↓wpC_block, ↓wpC_cond, WPu, Bool.false_eq_true, Bool.true_eq_false, Bool.not_true, Bool.not_false, if_true, if_false, ite_true, ite_false, Nat.reduceEqDiff, Nat.reduceLT, true_and, List.map_cons, List.map_nil, Nat.zero_add, Nat.reduceBEq, v4, v5]
          exact PutOk.fail hE (by decide) (g03.trans gl)
end
end Go.Proofs.YtkjnanfkclijcaaDoor.Am

namespace Go.Proofs.YtkjnanfkclijcaaDoor.Am
open Go
set_option linter.unusedVariables false
set_option linter.unusedSimpArgs false
set_option linter.unusedSectionVars false
set_option maxRecDepth 100000
section
variable (d : Nat) (σ : Store)
set_option maxHeartbeats 1000000 in
theorem rput_ok (tv lv : AVal) (t : List Cel) (ls : List (List Cel)) (st : Small t) (sl : ∀ l ∈ ls, Small l) (hl : ls.length < 2 ^ 40) (ht : SlOf σ 5 tv (CC t)) (hls : Terms σ lv ls) :
    Called CU.cfg d 94 [tv, lv] σ fun r σ' => PutOk σ σ' r t ls := by
  refine called_of (fn := CU.a94) rfl (Nat.le_of_ble_eq_true rfl) ?_
  simp only [CU.a94]
  simp -dsimp only [↓WPd, ↓wpC_block, ↓wpC_cond, WPu, Bool.false_eq_true, Bool.true_eq_false, Bool.not_true, Bool.not_false, if_true, if_false, ite_true, ite_false, Nat.reduceEqDiff, Nat.reduceLT, true_and, List.map_cons, List.map_nil, Nat.zero_add, Nat.reduceBEq]
  refine calledW_of (rright_ok d σ tv t st.1 ht) ?_
  rintro r σ1 ⟨rfl, g1⟩
  cases hr : right t with
  | false =>
    simp -dsimp only [↓WPd, ↓wpC_block, ↓wpC_cond, WPu, Bool.false_eq_true, Bool.true_eq_false, Bool.not_true, Bool.not_false, if_true, if_false, ite_true, ite_false, Nat.reduceEqDiff, Nat.reduceLT, true_and, List.map_cons, List.map_nil, Nat.zero_add, Nat.reduceBEq]
    exact PutOk.fail (by simp [putE, hr]) (by decide) g1
  | true =>
    have hlen := right_len hr
    simp -dsimp only [↓WPd, ↓wpC_block, ↓wpC_cond, WPu, Bool.false_eq_true, Bool.true_eq_false, Bool.not_true, Bool.not_false, if_true, if_false, ite_true, ite_false, Nat.reduceEqDiff, Nat.reduceLT, true_and, List.map_cons, List.map_nil, Nat.zero_add, Nat.reduceBEq]
    refine loop_rule2 (fun m vs σ' => ∃ k, k ≤ ls.length ∧ m = ls.length - k ∧ vs = [tv, lv, .int .i64 k] ∧ Grows σ σ' ∧ ∀ (j : Nat) (hj : j < ls.length), j < k → badT ls[j] = false)
      [0, 1, 4, 5] (fun e vs σ' => Grows σ σ' ∧ ((e = .exit 0 ∧ (∃ x y, vs = [tv, lv, x, y]) ∧ ls.any badT = false) ∨ (e = .ret ∧ (∃ x y, vs = [x, y, .nilslice, .int .i64 6]) ∧ ls.any badT = true))) ls.length ⟨0, Nat.zero_le _, rfl, ?_, g1, fun j _ h => by omega⟩ ?_ ?_
    · simp -dsimp only [↓WPd, ↓wpC_block, ↓wpC_cond, WPu, Bool.false_eq_true, Bool.true_eq_false, Bool.not_true, Bool.not_false, if_true, if_false, ite_true, ite_false, Nat.reduceEqDiff, Nat.reduceLT, true_and, List.map_cons, List.map_nil, Nat.zero_add, Nat.reduceBEq]; rfl
    · rintro m vs σ' ⟨k, hk, rfl, rfl, g, hall⟩
      have hls' := hls.grow g
      have ll := hls'.len
      simp -dsimp only [↓WPd, ↓wpC_block, ↓wpC_cond, WPu, Bool.false_eq_true, Bool.true_eq_false, Bool.not_true, Bool.not_false, if_true, if_false, ite_true, ite_false, Nat.reduceEqDiff, Nat.reduceLT, true_and, List.map_cons, List.map_nil, Nat.zero_add, Nat.reduceBEq, ll]
      refine condP_dec (fun h => ?_) (fun h => ?_)
      · have hk' : k < ls.length := by omega
        obtain ⟨e, a1, a2, a3⟩ := hls'.at hk'
        have le := a3.len
        rw [List.length_map] at le
        have wk : IntKind.i64.wrap ((k : Int) + 1) = ((k + 1 : Nat) : Int) := by rw [wrap_i64 (by omega) (by omega), Int.natCast_add, Int.natCast_one]
        have hnext : badT ls[k] = false → ∀ (j : Nat) (hj : j < ls.length), j < k + 1 → badT ls[j] = false := fun hn j hj hjk => by
          by_cases e : j = k
          · subst e; exact hn
          · exact hall j hj (by omega)
        have hsk := sl _ (List.getElem_mem hk')
        simp -dsimp only [↓WPd, ↓wpC_block, ↓wpC_cond, WPu, Bool.false_eq_true, Bool.true_eq_false, Bool.not_true, Bool.not_false, if_true, if_false, ite_true, ite_false, Nat.reduceEqDiff, Nat.reduceLT, true_and, List.map_cons, List.map_nil, Nat.zero_add, Nat.reduceBEq, a1, a2, le]
        by_cases h0 : ls[k] = []
        · have e0 : decide (((ls[k]).length : Int) > 0) = false := by rw [h0]; rfl
          simp -dsimp only [↓WPd, ↓wpC_block, ↓wpC_cond, WPu, Bool.false_eq_true, Bool.true_eq_false, Bool.not_true, Bool.not_false, if_true, if_false, ite_true, ite_false, Nat.reduceEqDiff, Nat.reduceLT, true_and, List.map_cons, List.map_nil, Nat.zero_add, Nat.reduceBEq, e0, wk]
          exact ⟨ls.length - (k + 1), by omega, k + 1, by omega, rfl, rfl, g, hnext (by rw [h0]; rfl)⟩
        · have e0 : decide (((ls[k]).length : Int) > 0) = true := by have := List.length_pos_iff.2 h0; rw [decide_eq_true_eq]; omega
          have e1 : badT ls[k] = !right ls[k] := by rw [badT, decide_eq_true h0, Bool.true_and]
          simp -dsimp only [↓WPd, ↓wpC_block, ↓wpC_cond, WPu, Bool.false_eq_true, Bool.true_eq_false, Bool.not_true, Bool.not_false, if_true, if_false, ite_true, ite_false, Nat.reduceEqDiff, Nat.reduceLT, true_and, List.map_cons, List.map_nil, Nat.zero_add, Nat.reduceBEq, e0, a1, a2]
          refine calledW_of (rright_ok d σ' e ls[k] hsk.1 a3) ?_
          rintro v σ2 ⟨rfl, g2⟩
          cases hrk : right ls[k] with
          | true =>
            simp -dsimp only [↓WPd, ↓wpC_block, ↓wpC_cond, WPu, Bool.false_eq_true, Bool.true_eq_false, Bool.not_true, Bool.not_false, if_true, if_false, ite_true, ite_false, Nat.reduceEqDiff, Nat.reduceLT, true_and, List.map_cons, List.map_nil, Nat.zero_add, Nat.reduceBEq, wk]
            exact ⟨ls.length - (k + 1), by omega, k + 1, by omega, rfl, rfl, g.trans g2, hnext (by rw [e1, hrk]; rfl)⟩
          | false =>
            simp -dsimp only [↓WPd, ↓wpC_block, ↓wpC_cond, WPu, Bool.false_eq_true, Bool.true_eq_false, Bool.not_true, Bool.not_false, if_true, if_false, ite_true, ite_false, Nat.reduceEqDiff, Nat.reduceLT, true_and, List.map_cons, List.map_nil, Nat.zero_add, Nat.reduceBEq]
            refine ⟨g.trans g2, .inr ⟨⟨_, _, rfl⟩, ?_⟩⟩
            rw [List.any_eq_true]
            exact ⟨_, List.getElem_mem hk', by rw [e1, hrk]; rfl⟩
      · simp -dsimp only [↓WPd, ↓wpC_block, ↓wpC_cond, WPu, Bool.false_eq_true, Bool.true_eq_false, Bool.not_true, Bool.not_false, if_true, if_false, ite_true, ite_false, Nat.reduceEqDiff, Nat.reduceLT, true_and, List.map_cons, List.map_nil, Nat.zero_add, Nat.reduceBEq]
        refine ⟨g, .inl ⟨⟨_, _, rfl⟩, ?_⟩⟩
        rw [List.any_eq_false]
        intro x hx
        obtain ⟨j, hj, rfl⟩ := List.getElem_of_mem hx
        rw [hall j hj (by omega)]; simp
    · rintro e σ2 env ⟨g2, ⟨rfl, ⟨x, y, hv⟩, hb⟩ | ⟨rfl, ⟨x, y, hv⟩, hb⟩⟩
      · simp only [List.map_cons, List.map_nil, List.cons.injEq, and_true] at hv
        obtain ⟨v0, v1, -, -⟩ := hv
        have h256 := bad_len hb
        have hE : putE t ls = if putB t ls then 4 else if 256 < (putO t ls).length then 5 else 0 := by simp [putE, hr, hb]
        simp -dsimp only [↓WPd, ↓wpC_block, ↓wpC_cond, WPu, Bool.false_eq_true, Bool.true_eq_false, Bool.not_true, Bool.not_false, if_true, if_false, ite_true, ite_false, Nat.reduceEqDiff, Nat.reduceLT, true_and, List.map_cons, List.map_nil, Nat.zero_add, Nat.reduceBEq]
        refine loop_rule2 (fun m vs σ' => ∃ k, k ≤ t.length ∧ m = t.length - k ∧ vs = [tv, lv, .int .i64 k] ∧ Grows σ σ' ∧ ∀ (j : Nat) (hj : j < t.length), j < k → (isLoc t[j] && decide (lkL ls (t[j]).v.2.toNat = [])) = false)
          [0, 1, 4, 5] (fun e vs σ' => Grows σ σ' ∧ ((e = .exit 2 ∧ (∃ x y, vs = [tv, lv, x, y]) ∧ putB t ls = false) ∨ (e = .ret ∧ (∃ x y, vs = [x, y, .nilslice, .int .i64 4]) ∧ putB t ls = true))) t.length ⟨0, Nat.zero_le _, rfl, ?_, g2, fun j _ h => by omega⟩ ?_ ?_
        · simp -dsimp only [↓WPd, ↓wpC_block, ↓wpC_cond, WPu, Bool.false_eq_true, Bool.true_eq_false, Bool.not_true, Bool.not_false, if_true, if_false, ite_true, ite_false, Nat.reduceEqDiff, Nat.reduceLT, true_and, List.map_cons, List.map_nil, Nat.zero_add, Nat.reduceBEq, v0, v1]; rfl
        · rintro m vs σ' ⟨k, hk, rfl, rfl, g, hall⟩
          have ht' := ht.grow g
          have lt := ht'.len
          rw [List.length_map] at lt
          simp -dsimp only [↓WPd, ↓wpC_block, ↓wpC_cond, WPu, Bool.false_eq_true, Bool.true_eq_false, Bool.not_true, Bool.not_false, if_true, if_false, ite_true, ite_false, Nat.reduceEqDiff, Nat.reduceLT, true_and, List.map_cons, List.map_nil, Nat.zero_add, Nat.reduceBEq, lt]
          refine condP_dec (fun h => ?_) (fun h => ?_)
          · have hk' : k < t.length := by omega
            obtain ⟨a1, a2⟩ := cela_at ht' hk'
            have hmem : t[k] ∈ t := List.getElem_mem hk'
            have hnext : (isLoc t[k] && decide (lkL ls (t[k]).v.2.toNat = [])) = false → ∀ (j : Nat) (hj : j < t.length), j < k + 1 → (isLoc t[j] && decide (lkL ls (t[j]).v.2.toNat = [])) = false := fun hn j hj hjk => by
              by_cases e : j = k
              · subst e; exact hn
              · exact hall j hj (by omega)
            simp -dsimp only [↓WPd, ↓wpC_block, ↓wpC_cond, WPu, Bool.false_eq_true, Bool.true_eq_false, Bool.not_true, Bool.not_false, if_true, if_false, ite_true, ite_false, Nat.reduceEqDiff, Nat.reduceLT, true_and, List.map_cons, List.map_nil, Nat.zero_add, Nat.reduceBEq, a1, a2, cel_put]
            generalize hcc : t[k] = c at *
            have hbad : (isLoc c && decide (lkL ls c.v.2.toNat = [])) = true → putB t ls = true := fun h => by
              simp only [putB, List.any_eq_true]; exact ⟨c, hmem, h⟩
            have oc : (σ' ++ [AObj.cells c.cs])[σ'.length]? = some (.cells c.cs) := by simp
            have g6 : Grows σ' (σ' ++ [AObj.cells c.cs]) := Grows.app _ _
            have g06 := g.trans g6
            generalize σ' ++ [AObj.cells c.cs] = σ6 at oc g6 g06
            generalize σ'.length = ic at oc
            have k4 : ((c.k : Int) == 4) = decide (c.k = 4) := by by_cases h : c.k = 4 <;> simp [h] <;> omega
            have wk : IntKind.i64.wrap ((k : Int) + 1) = ((k + 1 : Nat) : Int) := by rw [wrap_i64 (by omega) (by omega), Int.natCast_add, Int.natCast_one]
            have ll := (hls.grow g06).len
            simp -dsimp only [↓WPd, ↓wpC_block, ↓wpC_cond, WPu, Bool.false_eq_true, Bool.true_eq_false, Bool.not_true, Bool.not_false, if_true, if_false, ite_true, ite_false, Nat.reduceEqDiff, Nat.reduceLT, true_and, List.map_cons, List.map_nil, Nat.zero_add, Nat.reduceBEq, faddr_ptr, Nat.add_zero, Nat.zero_add, load_cells oc, Cel.g0, k4]
            by_cases h4 : c.k = 4
            · simp -dsimp only [↓WPd, ↓wpC_block, ↓wpC_cond, WPu, Bool.false_eq_true, Bool.true_eq_false, Bool.not_true, Bool.not_false, if_true, if_false, ite_true, ite_false, Nat.reduceEqDiff, Nat.reduceLT, true_and, List.map_cons, List.map_nil, Nat.zero_add, Nat.reduceBEq, decide_eq_true h4, faddr_ptr, Nat.add_zero, Nat.zero_add, load_cells oc, Cel.g3, int_beq]
              by_cases h1 : c.v.1 = -1
              · have hloc : isLoc c = true := by simp [isLoc, h4, h1]
                have hvi := ok_var (right_ok_mem hr hmem) h4
                by_cases h2 : c.v.2 < ls.length
                · obtain ⟨j, hj⟩ : ∃ j : Nat, c.v.2 = j := ⟨c.v.2.toNat, by omega⟩
                  have hjl : j < ls.length := by omega
                  have e2 : decide (c.v.2 ≥ (ls.length : Int)) = false := by rw [decide_eq_false_iff_not]; omega
                  obtain ⟨e, b1, b2, b3⟩ := (hls.grow g06).at hjl
                  rw [← hj] at b1
                  have le := b3.len
                  rw [List.length_map] at le
                  have hjt : lkL ls c.v.2.toNat = ls[j] := by rw [hj, Int.toNat_natCast, lkL_in hjl]
                  by_cases h3 : ls[j] = []
                  · have e3 : (((ls[j]).length : Int) == 0) = true := by rw [h3]; rfl
                    simp -dsimp only [↓WPd, ↓wpC_block, ↓wpC_cond, WPu, Bool.false_eq_true, Bool.true_eq_false, Bool.not_true, Bool.not_false, if_true, if_false, ite_true, ite_false, Nat.reduceEqDiff, Nat.reduceLT, true_and, List.map_cons, List.map_nil, Nat.zero_add, Nat.reduceBEq, decide_eq_true h1, faddr_ptr, Nat.add_zero, Nat.zero_add, Nat.reduceAdd, load_cells oc, Cel.g4, ll, e2, b1, b2, le, e3]
                    exact ⟨g06, .inr ⟨⟨_, _, rfl⟩, hbad (by rw [hloc, hjt, decide_eq_true h3]; rfl)⟩⟩
                  · have e3 : (((ls[j]).length : Int) == 0) = false := by
                      have := List.length_pos_iff.2 h3
                      rw [beq_eq_false_iff_ne]; omega
                    simp -dsimp only [↓WPd, ↓wpC_block, ↓wpC_cond, WPu, Bool.false_eq_true, Bool.true_eq_false, Bool.not_true, Bool.not_false, if_true, if_false, ite_true, ite_false, Nat.reduceEqDiff, Nat.reduceLT, true_and, List.map_cons, List.map_nil, Nat.zero_add, Nat.reduceBEq, decide_eq_true h1, faddr_ptr, Nat.add_zero, Nat.zero_add, Nat.reduceAdd, load_cells oc, Cel.g4, ll, e2, b1, b2, le, e3, wk]
                    exact ⟨t.length - (k + 1), by omega, k + 1, by omega, rfl, rfl, g06, hnext (by rw [hjt, decide_eq_false h3, Bool.and_false])⟩
                · have e2 : decide (c.v.2 ≥ (ls.length : Int)) = true := by rw [decide_eq_true_eq]; omega
                  have h3 : lkL ls c.v.2.toNat = [] := lkL_out (by omega)
                  simp -dsimp only [↓WPd, ↓wpC_block, ↓wpC_cond, WPu, Bool.false_eq_true, Bool.true_eq_false, Bool.not_true, Bool.not_false, if_true, if_false, ite_true, ite_false, Nat.reduceEqDiff, Nat.reduceLT, true_and, List.map_cons, List.map_nil, Nat.zero_add, Nat.reduceBEq, decide_eq_true h1, faddr_ptr, Nat.add_zero, Nat.zero_add, Nat.reduceAdd, load_cells oc, Cel.g4, ll, e2]
                  exact ⟨g06, .inr ⟨⟨_, _, rfl⟩, hbad (by rw [hloc, decide_eq_true h3]; rfl)⟩⟩
              · have hloc : isLoc c = false := by simp [isLoc, h1]
                simp -dsimp only [↓WPd, ↓wpC_block, ↓wpC_cond, WPu, Bool.false_eq_true, Bool.true_eq_false, Bool.not_true, Bool.not_false, if_true, if_false, ite_true, ite_false, Nat.reduceEqDiff, Nat.reduceLT, true_and, List.map_cons, List.map_nil, Nat.zero_add, Nat.reduceBEq, decide_eq_false h1, wk]
                exact ⟨t.length - (k + 1), by omega, k + 1, by omega, rfl, rfl, g06, hnext (by rw [hloc, Bool.false_and])⟩
            · have hloc : isLoc c = false := by simp [isLoc, h4]
              simp -dsimp only [↓WPd, ↓wpC_block, ↓wpC_cond, WPu, Bool.false_eq_true, Bool.true_eq_false, Bool.not_true, Bool.not_false, if_true, if_false, ite_true, ite_false, Nat.reduceEqDiff, Nat.reduceLT, true_and, List.map_cons, List.map_nil, Nat.zero_add, Nat.reduceBEq, decide_eq_false h4, wk]
              exact ⟨t.length - (k + 1), by omega, k + 1, by omega, rfl, rfl, g06, hnext (by rw [hloc, Bool.false_and])⟩
          · simp -dsimp only [↓WPd, ↓wpC_block, ↓wpC_cond, WPu, Bool.false_eq_true, Bool.true_eq_false, Bool.not_true, Bool.not_false, if_true, if_false, ite_true, ite_false, Nat.reduceEqDiff, Nat.reduceLT, true_and, List.map_cons, List.map_nil, Nat.zero_add, Nat.reduceBEq]
            refine ⟨g, .inl ⟨⟨_, _, rfl⟩, ?_⟩⟩
            rw [putB, List.any_eq_false]
            intro x hx
            obtain ⟨j, hj, rfl⟩ := List.getElem_of_mem hx
            rw [hall j hj (by omega)]; simp
        · rintro e σ' env' ⟨g04, ⟨rfl, ⟨x', y', hv⟩, hpb⟩ | ⟨rfl, ⟨x', y', hv⟩, hpb⟩⟩
          · simp only [List.map_cons, List.map_nil, List.cons.injEq, and_true] at hv
            obtain ⟨v0, v1, -, -⟩ := hv
            rw [hpb] at hE
            simp only [Bool.false_eq_true, if_false] at hE
            simp -dsimp only [↓WPd, ↓wpC_block, ↓wpC_cond, WPu, Bool.false_eq_true, Bool.true_eq_false, Bool.not_true, Bool.not_false, if_true, if_false, ite_true, ite_false, Nat.reduceEqDiff, Nat.reduceLT, true_and, List.map_cons, List.map_nil, Nat.zero_add, Nat.reduceBEq]
            refine loop_rule2 (fun m vs σ5 => ∃ k o, k ≤ t.length ∧ m = t.length - k ∧ vs = [tv, lv, o, .int .i64 k] ∧ Grows σ σ5 ∧ Own σ5 5 o (CC (putO (t.take k) ls)) ∧ Fresh σ.length o ∧ NoLit o)
              [9] (fun e vs σ5 => e = .exit 4 ∧ ∃ o, vs = [o] ∧ Grows σ σ5 ∧ Own σ5 5 o (CC (putO t ls)) ∧ Fresh σ.length o ∧ NoLit o) t.length ⟨0, .nilslice, Nat.zero_le _, rfl, ?_, g04, Own.nil _ _, Fresh.nil _, trivial⟩ ?_ ?_
            · simp -dsimp only [↓WPd, ↓wpC_block, ↓wpC_cond, WPu, Bool.false_eq_true, Bool.true_eq_false, Bool.not_true, Bool.not_false, if_true, if_false, ite_true, ite_false, Nat.reduceEqDiff, Nat.reduceLT, true_and, List.map_cons, List.map_nil, Nat.zero_add, Nat.reduceBEq, v0, v1]; rfl
            · rintro m vs σ5 ⟨k, o, hk, rfl, rfl, g5, oo, fo, no⟩
              have ht5 := ht.grow g5
              have lt := ht5.len
              rw [List.length_map] at lt
              simp -dsimp only [↓WPd, ↓wpC_block, ↓wpC_cond, WPu, Bool.false_eq_true, Bool.true_eq_false, Bool.not_true, Bool.not_false, if_true, if_false, ite_true, ite_false, Nat.reduceEqDiff, Nat.reduceLT, true_and, List.map_cons, List.map_nil, Nat.zero_add, Nat.reduceBEq, lt]
              refine condP_dec (fun h => ?_) (fun h => ?_)
              · have hk' : k < t.length := by omega
                obtain ⟨a1, a2⟩ := cela_at ht5 hk'
                have hsn := putO_snoc (t.take k) t[k] ls
                rw [← List.take_succ_eq_append_getElem hk'] at hsn
                have hpl := putO_len h256 (t.take k)
                rw [List.length_take] at hpl
                have hcl := putC_len h256 t[k]
                have hmem : t[k] ∈ t := List.getElem_mem hk'
                simp -dsimp only [↓WPd, ↓wpC_block, ↓wpC_cond, WPu, Bool.false_eq_true, Bool.true_eq_false, Bool.not_true, Bool.not_false, if_true, if_false, ite_true, ite_false, Nat.reduceEqDiff, Nat.reduceLT, true_and, List.map_cons, List.map_nil, Nat.zero_add, Nat.reduceBEq, a1, a2, cel_put]
                generalize hcc : t[k] = c at *
                have oc : (σ5 ++ [AObj.cells c.cs])[σ5.length]? = some (.cells c.cs) := by simp
                have g6 : Grows σ5 (σ5 ++ [AObj.cells c.cs]) := Grows.app _ _
                have oo6 := oo.grow g6
                have g06 := g5.trans g6
                generalize σ5 ++ [AObj.cells c.cs] = σ6 at oc g6 oo6 g06
                generalize σ5.length = ic at oc
                have k4 : ((c.k : Int) == 4) = decide (c.k = 4) := by by_cases h : c.k = 4 <;> simp [h] <;> omega
                have wk : IntKind.i64.wrap ((k : Int) + 1) = ((k + 1 : Nat) : Int) := by rw [wrap_i64 (by omega) (by omega), Int.natCast_add, Int.natCast_one]
                have one : isLoc c = false → ∃ o' σ7, appendV σ6 5 48 o [c.val] = some (o', σ7) ∧ Grows σ σ7 ∧ Own σ7 5 o' (CC (putO (t.take (k + 1)) ls)) ∧ Fresh σ.length o' ∧ NoLit o' := fun hn => by
                  obtain ⟨o', σ7, p1, p2, p3, p4, p5⟩ := oo6.append (CC [c]) 48 (by simp only [List.length_map, List.length_singleton]; omega)
                  refine ⟨o', σ7, p1, Keeps.trans g06 p3 fun i hi e => by have := fo i e; omega, ?_, fun i hi => ?_, p5 (.inl no)⟩
                  · rw [hsn, putC, hn, if_neg (by simp)]
                    rw [← List.map_append] at p2; exact p2
                  · rcases p4 i hi with e | e
                    · exact fo i e
                    · have := g06.1; omega
                simp -dsimp only [↓WPd, ↓wpC_block, ↓wpC_cond, WPu, Bool.false_eq_true, Bool.true_eq_false, Bool.not_true, Bool.not_false, if_true, if_false, ite_true, ite_false, Nat.reduceEqDiff, Nat.reduceLT, true_and, List.map_cons, List.map_nil, Nat.zero_add, Nat.reduceBEq, faddr_ptr, Nat.add_zero, Nat.zero_add, load_cells oc, Cel.g0, k4]
                by_cases h4 : c.k = 4
                · simp -dsimp only [↓WPd, ↓wpC_block, ↓wpC_cond, WPu, Bool.false_eq_true, Bool.true_eq_false, Bool.not_true, Bool.not_false, if_true, if_false, ite_true, ite_false, Nat.reduceEqDiff, Nat.reduceLT, true_and, List.map_cons, List.map_nil, Nat.zero_add, Nat.reduceBEq, decide_eq_true h4, faddr_ptr, Nat.add_zero, Nat.zero_add, load_cells oc, Cel.g3, int_beq]
                  by_cases h1 : c.v.1 = -1
                  · have hloc : isLoc c = true := by simp [isLoc, h4, h1]
                    have hvi := ok_var (right_ok_mem hr hmem) h4
                    have hnb : lkL ls c.v.2.toNat ≠ [] := fun hg => by
                      have : putB t ls = true := by
                        simp only [putB, List.any_eq_true, Bool.and_eq_true, decide_eq_true_eq]
                        exact ⟨c, hmem, hloc, hg⟩
                      rw [hpb] at this; cases this
                    have h2 : c.v.2.toNat < ls.length := by
                      refine Nat.lt_of_not_le fun h => hnb (lkL_out h)
                    obtain ⟨j, hj⟩ : ∃ j : Nat, c.v.2 = j := ⟨c.v.2.toNat, by omega⟩
                    have hjl : j < ls.length := by omega
                    obtain ⟨e, b1, b2, b3⟩ := (hls.grow g06).at hjl
                    rw [← hj] at b1
                    have hjt : lkL ls c.v.2.toNat = ls[j] := by rw [hj, Int.toNat_natCast, lkL_in hjl]
                    have hpc : putC ls c = ls[j] := by rw [putC, hloc, if_pos rfl, hjt]
                    obtain ⟨o', σ7, p1, p2, p3, p4, p5⟩ := oo6.append (CC ls[j]) 48 (by rw [hpc] at hcl; simp only [List.length_map]; omega)
                    simp -dsimp only [↓WPd, ↓wpC_block, ↓wpC_cond, WPu, Bool.false_eq_true, Bool.true_eq_false, Bool.not_true, Bool.not_false, if_true, if_false, ite_true, ite_false, Nat.reduceEqDiff, Nat.reduceLT, true_and, List.map_cons, List.map_nil, Nat.zero_add, Nat.reduceBEq, decide_eq_true h1, faddr_ptr, Nat.add_zero, Nat.zero_add, Nat.reduceAdd, load_cells oc, Cel.g4, b1, b2, b3.1, p1, wk]
                    refine ⟨t.length - (k + 1), by omega, k + 1, o', by omega, rfl, rfl, Keeps.trans g06 p3 fun i hi e => by have := fo i e; omega, ?_, fun i hi => ?_, p5 (.inl no)⟩
                    · rw [hsn, hpc]
                      rw [← List.map_append] at p2; exact p2
                    · rcases p4 i hi with e | e
                      · exact fo i e
                      · have := g06.1; omega
                  · obtain ⟨o', σ7, p1, q⟩ := one (by simp [isLoc, h1])
                    simp -dsimp only [↓WPd, ↓wpC_block, ↓wpC_cond, WPu, Bool.false_eq_true, Bool.true_eq_false, Bool.not_true, Bool.not_false, if_true, if_false, ite_true, ite_false, Nat.reduceEqDiff, Nat.reduceLT, true_and, List.map_cons, List.map_nil, Nat.zero_add, Nat.reduceBEq, decide_eq_false h1, cell_load oc, cel_lit, elems_fs, p1, wk]
                    exact ⟨t.length - (k + 1), by omega, k + 1, o', by omega, rfl, rfl, q⟩
                · obtain ⟨o', σ7, p1, q⟩ := one (by simp [isLoc, h4])
                  simp -dsimp only [↓WPd, ↓wpC_block, ↓wpC_cond, WPu, Bool.false_eq_true, Bool.true_eq_false, Bool.not_true, Bool.not_false, if_true, if_false, ite_true, ite_false, Nat.reduceEqDiff, Nat.reduceLT, true_and, List.map_cons, List.map_nil, Nat.zero_add, Nat.reduceBEq, decide_eq_false h4, cell_load oc, cel_lit, elems_fs, p1, wk]
                  exact ⟨t.length - (k + 1), by omega, k + 1, o', by omega, rfl, rfl, q⟩
              · have : k = t.length := by omega
                subst this
                rw [List.take_length] at oo
                simp -dsimp only [↓WPd, ↓wpC_block, ↓wpC_cond, WPu, Bool.false_eq_true, Bool.true_eq_false, Bool.not_true, Bool.not_false, if_true, if_false, ite_true, ite_false, Nat.reduceEqDiff, Nat.reduceLT, true_and, List.map_cons, List.map_nil, Nat.zero_add, Nat.reduceBEq]
                exact ⟨o, rfl, g5, oo, fo, no⟩
            · rintro e σ5 env'' ⟨rfl, o, hv, g5, oo, fo, no⟩
              simp only [List.map_cons, List.map_nil, List.cons.injEq, and_true] at hv
              have lo := oo.sl.len
              rw [List.length_map] at lo
              simp -dsimp only [↓WPd, ↓wpC_block, ↓wpC_cond, WPu, Bool.false_eq_true, Bool.true_eq_false, Bool.not_true, Bool.not_false, if_true, if_false, ite_true, ite_false, Nat.reduceEqDiff, Nat.reduceLT, true_and, List.map_cons, List.map_nil, Nat.zero_add, Nat.reduceBEq, hv, lo]
              by_cases h5 : 256 < (putO t ls).length
              · have e5 : decide (((putO t ls).length : Int) > 256) = true := by rw [decide_eq_true_eq]; omega
                rw [if_pos h5] at hE
                simp -dsimp only [↓WPd, ↓wpC_block, ↓wpC_cond, WPu, Bool.false_eq_true, Bool.true_eq_false, Bool.not_true, Bool.not_false, if_true, if_false, ite_true, ite_false, Nat.reduceEqDiff, Nat.reduceLT, true_and, List.map_cons, List.map_nil, Nat.zero_add, Nat.reduceBEq, e5]
                exact PutOk.fail hE (by decide) g5
              · have e5 : decide (((putO t ls).length : Int) > 256) = false := by rw [decide_eq_false_iff_not]; omega
                rw [if_neg h5] at hE
                simp -dsimp only [↓WPd, ↓wpC_block, ↓wpC_cond, WPu, Bool.false_eq_true, Bool.true_eq_false, Bool.not_true, Bool.not_false, if_true, if_false, ite_true, ite_false, Nat.reduceEqDiff, Nat.reduceLT, true_and, List.map_cons, List.map_nil, Nat.zero_add, Nat.reduceBEq, e5, hv]
                exact ⟨o, by rw [hE], g5, by rw [putT, if_pos hE]; exact oo, fo, no⟩
          · simp only [List.map_cons, List.map_nil, List.cons.injEq, and_true] at hv
            obtain ⟨-, -, v4, v5⟩ := hv
            rw [hpb] at hE
            simp -dsimp only [↓WPd, ↓wpC_block, ↓wpC_cond, WPu, Bool.false_eq_true, Bool.true_eq_false, Bool.not_true, Bool.not_false, if_true, if_false, ite_true, ite_false, Nat.reduceEqDiff, Nat.reduceLT, true_and, List.map_cons, List.map_nil, Nat.zero_add, Nat.reduceBEq, v4, v5]
            exact PutOk.fail hE (by decide) g04
      · simp only [List.map_cons, List.map_nil, List.cons.injEq, and_true] at hv
        obtain ⟨-, -, v4, v5⟩ := hv
        simp -dsimp only [↓WPd, ↓wpC_block, ↓wpC_cond, WPu, Bool.false_eq_true, Bool.true_eq_false, Bool.not_true, Bool.not_false, if_true, if_false, ite_true, ite_false, Nat.reduceEqDiff, Nat.reduceLT, true_and, List.map_cons, List.map_nil, Nat.zero_add, Nat.reduceBEq, v4, v5]
        exact PutOk.fail (by simp [putE, hb]) (by decide) g2
end
end Go.Proofs.YtkjnanfkclijcaaDoor.Am

