/-
  The abstract machine and the functions of the law, 4: texts put together.
-/
import Derived.Test.YtelpjaejmneplaaDoorReachGarbagePkC
import Derived.Test.YtelpjaejmneplaaDoorProg
import Derived.Test.YtelpjaejmneplaaDoorReachGarbagePkB
import Derived.ChangeArms
import Derived.OpenShut
import Derived.LaidMore
import Derived.Sort.MapsRangeIn
import Derived.Maps.RangeRun
import Derived.Test.YtelpjaejmneplaaDoorReachGarbagePkA
import Derived.Shelf.SlIter.Collect
import Derived.RangeFuncBox
import Derived.Shelf.SlSortCmp.WholeK
import Derived.Shelf.SlMaps.Clone
import Derived.Shelf.SlSortCmp.NoneTotal
import Derived.RangeFuncBound
set_option linter.unusedVariables false
set_option linter.unusedSimpArgs false
set_option linter.unusedSectionVars false
set_option maxRecDepth 100000
namespace Go.Proofs.YtelpjaejmneplaaDoor.Am
open Go
theorem strIdx_ok {s : List UInt8} {k : Nat} (h : k < s.length) : strIdxV (.str s) (.int .i64 k) = some (.int .u8 ((s[k]).toNat : Int)) := by
 have e : (0 : Int) ≤ (k : Int) ∧ (k : Int) < (s.length : Int) := by omega
 simp [strIdxV, e, List.getElem?_eq_getElem h]
def chk (k : Nat) (c : UInt8) : Bool := smallC c || (decide (k ≠ 0) && wordC c)
theorem isName_not {s : List UInt8} {k : Nat} (hk : k < s.length) (h : chk k s[k] = false) : isName s = false := by
 simp only [chk, Bool.or_eq_false_iff] at h
 cases s with
 | nil => rfl
 | cons c r =>
  cases k with
  | zero => simp only [List.getElem_cons_zero] at h; simp [isName, h.1]
  | succ k =>
   simp only [List.getElem_cons_succ] at h
   have h2 : wordC (r[k]'(by simpa using hk)) = false := by simpa using h.2
   have : r.all wordC = false := by
    rw [List.all_eq_false]
    exact ⟨_, List.getElem_mem (by simpa using hk), by simp [h2]⟩
   simp [isName, this]
theorem word_small {c : UInt8} (h : smallC c = true) : wordC c = true := by simp [wordC, h]
theorem isName_yes {s : List UInt8} (h : ∀ (k : Nat) (hk : k < s.length), chk k s[k] = true) : isName s = (decide (s ≠ []) && decide (s.length ≤ 16)) := by
 cases s with
 | nil => rfl
 | cons c r =>
  have h0 := h 0 (by simp)
  simp only [List.getElem_cons_zero, chk, ne_eq, not_true_eq_false, decide_false, Bool.false_and, Bool.or_false] at h0
  have h1 : r.all wordC = true := by
   rw [List.all_eq_true]
   intro x hx
   obtain ⟨k, hk, rfl⟩ := List.getElem_of_mem hx
   have := h (k + 1) (by simpa using hk)
   simp only [List.getElem_cons_succ, chk, Bool.or_eq_true, Bool.and_eq_true] at this
   rcases this with h | h
   ·exact word_small h
   ·exact h.2
  simp [isName, h0, h1]
  omega
section
variable (d : Nat) (σ : Store)
theorem isname_ok (s : List UInt8) (hs : s.length < 2 ^ 40) : Called CU.cfg d 95 [.str s] σ fun v σ' => v = .bool (isName s) ∧ σ' = σ := by
 refine called_of (fn := CU.a95) rfl (Nat.le_of_ble_eq_true rfl) ?_
 simp only [CU.a95]
 simp -dsimp only [↓WPd, ↓wpC_block, ↓wpC_cond, WPu, Bool.false_eq_true, Bool.true_eq_false, Bool.not_true, Bool.not_false, if_true, if_false, ite_true, ite_false, Nat.reduceEqDiff, Nat.reduceLT, true_and, List.map_cons, List.map_nil, Nat.zero_add, Nat.reduceBEq, lenStrV_str]
 refine loop_rule2 (fun m vs σ' => ∃ k, k ≤ s.length ∧ m = s.length - k ∧ vs = [.str s, .int .i64 s.length, .int .i64 k] ∧ σ' = σ ∧ ∀ (j : Nat) (hj : j < s.length), j < k → chk j s[j] = true) [0, 2]
  (fun e vs σ' => σ' = σ ∧ ((e = .exit 0 ∧ (∃ x, vs = [.str s, x]) ∧ ∀ (j : Nat) (hj : j < s.length), chk j s[j] = true) ∨ (e = .ret ∧ (∃ x, vs = [x, .bool false]) ∧ isName s = false))) s.length ⟨0, Nat.zero_le _, rfl, ?_, rfl, fun j _ h => by omega⟩ ?_ ?_
 ·simp -dsimp only [↓WPd, ↓wpC_block, ↓wpC_cond, WPu, Bool.false_eq_true, Bool.true_eq_false, Bool.not_true, Bool.not_false, if_true, if_false, ite_true, ite_false, Nat.reduceEqDiff, Nat.reduceLT, true_and, List.map_cons, List.map_nil, Nat.zero_add, Nat.reduceBEq]; rfl
 ·rintro m vs σ' ⟨k, hk, rfl, rfl, rfl, hall⟩
  simp -dsimp only [↓WPd, ↓wpC_block, ↓wpC_cond, WPu, Bool.false_eq_true, Bool.true_eq_false, Bool.not_true, Bool.not_false, if_true, if_false, ite_true, ite_false, Nat.reduceEqDiff, Nat.reduceLT, true_and, List.map_cons, List.map_nil, Nat.zero_add, Nat.reduceBEq]
  refine condP_dec (fun h => ?_) (fun h => ?_)
  ·have hk' : k < s.length := by omega
   simp -dsimp only [↓WPd, ↓wpC_block, ↓wpC_cond, WPu, Bool.false_eq_true, Bool.true_eq_false, Bool.not_true, Bool.not_false, if_true, if_false, ite_true, ite_false, Nat.reduceEqDiff, Nat.reduceLT, true_and, List.map_cons, List.map_nil, Nat.zero_add, Nat.reduceBEq, WPm, strIdx_ok hk']
   have key : (!(decide (((s[k]).toNat : Int) ≥ 97) && decide (((s[k]).toNat : Int) ≤ 122)) && (((k : Int) == 0) || (decide (((s[k]).toNat : Int) < 65) || decide (((s[k]).toNat : Int) > 90)) && (decide (((s[k]).toNat : Int) < 48) || decide (((s[k]).toNat : Int) > 57)) && (((s[k]).toNat : Int) != 95))) = !chk k s[k] := by
    generalize s[k] = c
    rw [Bool.eq_iff_iff]
    simp [chk, wordC, smallC]
    omega
   rw [key]
   refine condP_intro (fun h => ?_) (fun h => ?_)
   ·simp -dsimp only [↓WPd, ↓wpC_block, ↓wpC_cond, WPu, Bool.false_eq_true, Bool.true_eq_false, Bool.not_true, Bool.not_false, if_true, if_false, ite_true, ite_false, Nat.reduceEqDiff, Nat.reduceLT, true_and, List.map_cons, List.map_nil, Nat.zero_add, Nat.reduceBEq]
    exact .inr ⟨⟨_, rfl⟩, isName_not hk' (by simpa using h)⟩
   ·simp -dsimp only [↓WPd, ↓wpC_block, ↓wpC_cond, WPu, Bool.false_eq_true, Bool.true_eq_false, Bool.not_true, Bool.not_false, if_true, if_false, ite_true, ite_false, Nat.reduceEqDiff, Nat.reduceLT, true_and, List.map_cons, List.map_nil, Nat.zero_add, Nat.reduceBEq]
    refine ⟨s.length - (k + 1), by omega, k + 1, by omega, rfl, by rw [wrap_i64 (by omega) (by omega), Int.natCast_add, Int.natCast_one], fun j hj hjk => ?_⟩
    by_cases e : j = k
    ·subst e; simpa using h
    ·exact hall j hj (by omega)
  ·simp -dsimp only [↓WPd, ↓wpC_block, ↓wpC_cond, WPu, Bool.false_eq_true, Bool.true_eq_false, Bool.not_true, Bool.not_false, if_true, if_false, ite_true, ite_false, Nat.reduceEqDiff, Nat.reduceLT, true_and, List.map_cons, List.map_nil, Nat.zero_add, Nat.reduceBEq]
   exact .inl ⟨⟨_, rfl⟩, fun j hj => hall j hj (by omega)⟩
 ·rintro e σ' env ⟨rfl, ⟨rfl, ⟨x, hv⟩, hall⟩ | ⟨rfl, ⟨x, hv⟩, hno⟩⟩
  ·simp only [List.map_cons, List.map_nil, List.cons.injEq, and_true] at hv
   have e1 : sopV .neq (.str s) (.str []) = some (.bool (decide (s ≠ []))) := by cases s <;> simp [sopV]
   simp -dsimp only [↓WPd, ↓wpC_block, ↓wpC_cond, WPu, Bool.false_eq_true, Bool.true_eq_false, Bool.not_true, Bool.not_false, if_true, if_false, ite_true, ite_false, Nat.reduceEqDiff, Nat.reduceLT, true_and, List.map_cons, List.map_nil, Nat.zero_add, Nat.reduceBEq, WPm, hv, e1]
   rw [isName_yes hall]
   have e2 : decide ((s.length : Int) ≤ 16) = decide (s.length ≤ 16) := decide_eq_decide.2 (by omega)
   rw [e2]
   exact ⟨rfl, trivial⟩
  ·simp only [List.map_cons, List.map_nil, List.cons.injEq, and_true] at hv
   simp -dsimp only [↓WPd, ↓wpC_block, ↓wpC_cond, WPu, Bool.false_eq_true, Bool.true_eq_false, Bool.not_true, Bool.not_false, if_true, if_false, ite_true, ite_false, Nat.reduceEqDiff, Nat.reduceLT, true_and, List.map_cons, List.map_nil, Nat.zero_add, Nat.reduceBEq, hv, hno]
theorem isName_word {s : List UInt8} {k : Nat} (hk : k < s.length) (h : wordC s[k] = false) : isName s = false := by
 refine isName_not hk ?_
 simp only [chk, h, Bool.and_false, Bool.or_false]
 cases hq : smallC s[k] with
 | false => rfl
 | true => rw [word_small hq] at h; cases h
set_option maxHeartbeats 400000 in
theorem risname_ok (s : List UInt8) : Called CU.cfg d 87 [.str s] σ fun v σ' => v = .bool (isName s) ∧ σ' = σ := by
 refine called_of (fn := CU.a87) rfl (Nat.le_of_ble_eq_true rfl) ?_
 simp only [CU.a87]
 cases s with
 | nil =>
  have e : decide (((0 : Nat) : Int) < 1) = true := rfl
  simp -dsimp only [↓WPd, ↓wpC_block, ↓wpC_cond, WPu, Bool.false_eq_true, Bool.true_eq_false, Bool.not_true, Bool.not_false, if_true, if_false, ite_true, ite_false, Nat.reduceEqDiff, Nat.reduceLT, true_and, List.map_cons, List.map_nil, Nat.zero_add, Nat.reduceBEq, WPm, lenStrV_str, List.length_nil, e, bq_tf, Bool.true_or]
  exact ⟨rfl, trivial⟩
 | cons c r =>
  have e0 : strIdxV (.str (c :: r)) (.int .i64 0) = some (.int .u8 (c.toNat : Int)) := strIdx_ok (s := c :: r) (k := 0) (by simp)
  simp -dsimp only [↓WPd, ↓wpC_block, ↓wpC_cond, WPu, Bool.false_eq_true, Bool.true_eq_false, Bool.not_true, Bool.not_false, if_true, if_false, ite_true, ite_false, Nat.reduceEqDiff, Nat.reduceLT, true_and, List.map_cons, List.map_nil, Nat.zero_add, Nat.reduceBEq, WPm, lenStrV_str, e0]
  have key : (((decide ((((c :: r).length : Nat) : Int) < 1) || decide ((((c :: r).length : Nat) : Int) > 16)) || decide ((c.toNat : Int) < 97)) || decide ((c.toNat : Int) > 122)) = !(decide (r.length < 16) && smallC c) := by
   rw [Bool.eq_iff_iff]
   simp [smallC]
   omega
  rw [key]
  refine condP_intro (fun h => ?_) (fun h => ?_)
  ·have : isName (c :: r) = false := by
    simp only [Bool.not_eq_true', Bool.and_eq_false_iff] at h
    rcases h with h | h <;> simp [isName, h]
   simp -dsimp only [↓WPd, ↓wpC_block, ↓wpC_cond, WPu, Bool.false_eq_true, Bool.true_eq_false, Bool.not_true, Bool.not_false, if_true, if_false, ite_true, ite_false, Nat.reduceEqDiff, Nat.reduceLT, true_and, List.map_cons, List.map_nil, Nat.zero_add, Nat.reduceBEq, this]
  ·have h2 : isName (c :: r) = r.all wordC := by
    simp only [Bool.not_eq_false', Bool.and_eq_true] at h
    simp [isName, h]
   have hl : (c :: r).length ≤ 16 := by
    simp only [Bool.not_eq_false', Bool.and_eq_true, decide_eq_true_eq] at h
    simp only [List.length_cons]; omega
   have h3 : smallC c = true := by
    simp only [Bool.not_eq_false', Bool.and_eq_true] at h
    exact h.2
   simp -dsimp only [↓WPd, ↓wpC_block, ↓wpC_cond, WPu, Bool.false_eq_true, Bool.true_eq_false, Bool.not_true, Bool.not_false, if_true, if_false, ite_true, ite_false, Nat.reduceEqDiff, Nat.reduceLT, true_and, List.map_cons, List.map_nil, Nat.zero_add, Nat.reduceBEq]
   refine loop_rule2 (fun m vs σ' => ∃ k, k ≤ (c :: r).length ∧ m = (c :: r).length - k ∧ vs = [.str (c :: r), .int .i64 k] ∧ σ' = σ ∧ ∀ (j : Nat) (hj : j < (c :: r).length), j < k → wordC (c :: r)[j] = true) [0, 2]
    (fun e vs σ' => σ' = σ ∧ ((e = .exit 0 ∧ ∀ (j : Nat) (hj : j < (c :: r).length), wordC (c :: r)[j] = true) ∨ (e = .ret ∧ (∃ x, vs = [x, .bool false]) ∧ isName (c :: r) = false))) (c :: r).length ⟨0, Nat.zero_le _, rfl, ?_, rfl, fun j _ h => by omega⟩ ?_ ?_
   ·simp -dsimp only [↓WPd, ↓wpC_block, ↓wpC_cond, WPu, Bool.false_eq_true, Bool.true_eq_false, Bool.not_true, Bool.not_false, if_true, if_false, ite_true, ite_false, Nat.reduceEqDiff, Nat.reduceLT, true_and, List.map_cons, List.map_nil, Nat.zero_add, Nat.reduceBEq]; rfl
   ·rintro m vs σ' ⟨k, hk, rfl, rfl, rfl, hall⟩
    simp -dsimp only [↓WPd, ↓wpC_block, ↓wpC_cond, WPu, Bool.false_eq_true, Bool.true_eq_false, Bool.not_true, Bool.not_false, if_true, if_false, ite_true, ite_false, Nat.reduceEqDiff, Nat.reduceLT, true_and, List.map_cons, List.map_nil, Nat.zero_add, Nat.reduceBEq, lenStrV_str]
    refine condP_dec (fun h => ?_) (fun h => ?_)
    ·have hk' : k < (c :: r).length := by omega
     simp -dsimp only [↓WPd, ↓wpC_block, ↓wpC_cond, WPu, Bool.false_eq_true, Bool.true_eq_false, Bool.not_true, Bool.not_false, if_true, if_false, ite_true, ite_false, Nat.reduceEqDiff, Nat.reduceLT, true_and, List.map_cons, List.map_nil, Nat.zero_add, Nat.reduceBEq, WPm, strIdx_ok hk']
     have key : (!((decide ((((c :: r)[k]).toNat : Int) ≥ 97) && decide ((((c :: r)[k]).toNat : Int) ≤ 122) || decide ((((c :: r)[k]).toNat : Int) ≥ 65) && decide ((((c :: r)[k]).toNat : Int) ≤ 90) || decide ((((c :: r)[k]).toNat : Int) ≥ 48) && decide ((((c :: r)[k]).toNat : Int) ≤ 57)) || ((((c :: r)[k]).toNat : Int) == 95))) = !wordC (c :: r)[k] := by
      generalize (c :: r)[k] = x
      rw [Bool.eq_iff_iff]
      simp [wordC, smallC]
      omega
     rw [key]
     refine condP_intro (fun h => ?_) (fun h => ?_)
     ·simp -dsimp only [↓WPd, ↓wpC_block, ↓wpC_cond, WPu, Bool.false_eq_true, Bool.true_eq_false, Bool.not_true, Bool.not_false, if_true, if_false, ite_true, ite_false, Nat.reduceEqDiff, Nat.reduceLT, true_and, List.map_cons, List.map_nil, Nat.zero_add, Nat.reduceBEq]
      exact .inr ⟨⟨_, rfl⟩, isName_word hk' (by simpa using h)⟩
     ·simp -dsimp only [↓WPd, ↓wpC_block, ↓wpC_cond, WPu, Bool.false_eq_true, Bool.true_eq_false, Bool.not_true, Bool.not_false, if_true, if_false, ite_true, ite_false, Nat.reduceEqDiff, Nat.reduceLT, true_and, List.map_cons, List.map_nil, Nat.zero_add, Nat.reduceBEq]
      refine ⟨(c :: r).length - (k + 1), by omega, k + 1, by omega, rfl, by rw [wrap_i64 (by omega) (by omega), Int.natCast_add, Int.natCast_one], fun j hj hjk => ?_⟩
      by_cases e : j = k
      ·subst e; simpa using h
      ·exact hall j hj (by omega)
    ·simp -dsimp only [↓WPd, ↓wpC_block, ↓wpC_cond, WPu, Bool.false_eq_true, Bool.true_eq_false, Bool.not_true, Bool.not_false, if_true, if_false, ite_true, ite_false, Nat.reduceEqDiff, Nat.reduceLT, true_and, List.map_cons, List.map_nil, Nat.zero_add, Nat.reduceBEq]
     exact .inl fun j hj => hall j hj (by omega)
   ·rintro e σ' env ⟨rfl, ⟨rfl, hall⟩ | ⟨rfl, ⟨x, hv⟩, hno⟩⟩
    ·simp -dsimp only [↓WPd, ↓wpC_block, ↓wpC_cond, WPu, Bool.false_eq_true, Bool.true_eq_false, Bool.not_true, Bool.not_false, if_true, if_false, ite_true, ite_false, Nat.reduceEqDiff, Nat.reduceLT, true_and, List.map_cons, List.map_nil, Nat.zero_add, Nat.reduceBEq]
     rw [isName_yes fun j hj => ?_]
     ·simp only [List.length_cons] at hl
      simp; omega
     ·simp only [chk, Bool.or_eq_true, Bool.and_eq_true, hall j hj, and_true]
      cases j with
      | zero => left; simpa using h3
      | succ j => right; simp
    ·simp only [List.map_cons, List.map_nil, List.cons.injEq, and_true] at hv
     simp -dsimp only [↓WPd, ↓wpC_block, ↓wpC_cond, WPu, Bool.false_eq_true, Bool.true_eq_false, Bool.not_true, Bool.not_false, if_true, if_false, ite_true, ite_false, Nat.reduceEqDiff, Nat.reduceLT, true_and, List.map_cons, List.map_nil, Nat.zero_add, Nat.reduceBEq, hv, hno]
def SS (l : List (List UInt8)) : List AVal := l.map AVal.str
theorem SS_len (l : List (List UInt8)) : (SS l).length = l.length := by simp [SS]
theorem SS_get (l : List (List UInt8)) (i : Nat) (h : i < (SS l).length) : (SS l)[i] = .str (l[i]'(by simpa [SS] using h)) := by simp [SS]
theorem sop_eql (a b : List UInt8) : sopV .eql (.str a) (.str b) = some (.bool (a == b)) := rfl
theorem sindex_ok (l : AVal) (x : List (List UInt8)) (s : List UInt8) (hx : x.length < 2 ^ 40) (hl : SlOf σ 1 l (SS x)) : Called CU.cfg d 112 [l, .str s] σ fun v σ' => (∃ i : Int, v = .int .i64 i ∧ (decide (0 ≤ i)) = x.contains s) ∧ σ' = σ := by
 refine called_of (fn := CU.a112) rfl (Nat.le_of_ble_eq_true rfl) ?_
 have ll := hl.len
 rw [SS_len] at ll
 simp only [CU.a112]
 simp -dsimp only [↓WPd, ↓wpC_block, ↓wpC_cond, WPu, Bool.false_eq_true, Bool.true_eq_false, Bool.not_true, Bool.not_false, if_true, if_false, ite_true, ite_false, Nat.reduceEqDiff, Nat.reduceLT, true_and, List.map_cons, List.map_nil, Nat.zero_add, Nat.reduceBEq, ll]
 refine loop_rule2 (fun m vs σ' => ∃ k, k ≤ x.length ∧ m = x.length - k ∧ vs = [l, .str s, .int .i64 x.length, .int .i64 k] ∧ σ' = σ ∧ ∀ (j : Nat) (hj : j < x.length), j < k → x[j] ≠ s) [4]
  (fun e vs σ' => σ' = σ ∧ ((e = .exit 0 ∧ x.contains s = false) ∨ (e = .ret ∧ x.contains s = true ∧ ∃ k : Nat, vs = [.int .i64 k]))) x.length ⟨0, Nat.zero_le _, rfl, ?_, rfl, fun j _ h => by omega⟩ ?_ ?_
 ·simp -dsimp only [↓WPd, ↓wpC_block, ↓wpC_cond, WPu, Bool.false_eq_true, Bool.true_eq_false, Bool.not_true, Bool.not_false, if_true, if_false, ite_true, ite_false, Nat.reduceEqDiff, Nat.reduceLT, true_and, List.map_cons, List.map_nil, Nat.zero_add, Nat.reduceBEq]; rfl
 ·rintro m vs σ' ⟨k, hk, rfl, rfl, rfl, hall⟩
  simp -dsimp only [↓WPd, ↓wpC_block, ↓wpC_cond, WPu, Bool.false_eq_true, Bool.true_eq_false, Bool.not_true, Bool.not_false, if_true, if_false, ite_true, ite_false, Nat.reduceEqDiff, Nat.reduceLT, true_and, List.map_cons, List.map_nil, Nat.zero_add, Nat.reduceBEq]
  refine condP_dec (fun h => ?_) (fun h => ?_)
  ·have hk' : k < x.length := by omega
   have hi : k < (SS x).length := by rw [SS_len]; exact hk'
   simp -dsimp only [↓WPd, ↓wpC_block, ↓wpC_cond, WPu, Bool.false_eq_true, Bool.true_eq_false, Bool.not_true, Bool.not_false, if_true, if_false, ite_true, ite_false, Nat.reduceEqDiff, Nat.reduceLT, true_and, List.map_cons, List.map_nil, Nat.zero_add, Nat.reduceBEq, hl.iaddr hi, hl.load1 hi (by rw [SS_get]; rfl), SS_get, sop_eql]
   refine condP_intro (fun h => ?_) (fun h => ?_)
   ·simp -dsimp only [↓WPd, ↓wpC_block, ↓wpC_cond, WPu, Bool.false_eq_true, Bool.true_eq_false, Bool.not_true, Bool.not_false, if_true, if_false, ite_true, ite_false, Nat.reduceEqDiff, Nat.reduceLT, true_and, List.map_cons, List.map_nil, Nat.zero_add, Nat.reduceBEq]
    have e : s = x[k] := by simpa using h
    exact .inr ⟨by rw [e]; simp, k, rfl⟩
   ·simp -dsimp only [↓WPd, ↓wpC_block, ↓wpC_cond, WPu, Bool.false_eq_true, Bool.true_eq_false, Bool.not_true, Bool.not_false, if_true, if_false, ite_true, ite_false, Nat.reduceEqDiff, Nat.reduceLT, true_and, List.map_cons, List.map_nil, Nat.zero_add, Nat.reduceBEq]
    refine ⟨x.length - (k + 1), by omega, k + 1, by omega, rfl, by rw [wrap_i64 (by omega) (by omega), Int.natCast_add, Int.natCast_one], fun j hj hjk => ?_⟩
    by_cases e : j = k
    ·subst e
     intro e; rw [e] at h; simp at h
    ·exact hall j hj (by omega)
  ·simp -dsimp only [↓WPd, ↓wpC_block, ↓wpC_cond, WPu, Bool.false_eq_true, Bool.true_eq_false, Bool.not_true, Bool.not_false, if_true, if_false, ite_true, ite_false, Nat.reduceEqDiff, Nat.reduceLT, true_and, List.map_cons, List.map_nil, Nat.zero_add, Nat.reduceBEq]
   refine .inl ?_
   cases hc : x.contains s with
   | false => rfl
   | true =>
    exfalso
    rw [List.contains_iff_mem] at hc
    obtain ⟨j, hj, e⟩ := List.getElem_of_mem hc
    exact hall j hj (by omega) e
 ·rintro e σ' env ⟨rfl, ⟨rfl, hno⟩ | ⟨rfl, hyes, k, hv⟩⟩
  ·simp -dsimp only [↓WPd, ↓wpC_block, ↓wpC_cond, WPu, Bool.false_eq_true, Bool.true_eq_false, Bool.not_true, Bool.not_false, if_true, if_false, ite_true, ite_false, Nat.reduceEqDiff, Nat.reduceLT, true_and, List.map_cons, List.map_nil, Nat.zero_add, Nat.reduceBEq]
   exact ⟨⟨_, rfl, by rw [hno]; rfl⟩, trivial⟩
  ·simp only [List.map_cons, List.map_nil, List.cons.injEq, and_true] at hv
   simp -dsimp only [↓WPd, ↓wpC_block, ↓wpC_cond, WPu, Bool.false_eq_true, Bool.true_eq_false, Bool.not_true, Bool.not_false, if_true, if_false, ite_true, ite_false, Nat.reduceEqDiff, Nat.reduceLT, true_and, List.map_cons, List.map_nil, Nat.zero_add, Nat.reduceBEq, hv]
   exact ⟨⟨_, rfl, by rw [hyes]; simp⟩, trivial⟩
theorem scontains_ok (l : AVal) (x : List (List UInt8)) (s : List UInt8) (hx : x.length < 2 ^ 40) (hl : SlOf σ 1 l (SS x)) : Called CU.cfg d 97 [l, .str s] σ fun v σ' => v = .bool (x.contains s) ∧ σ' = σ := by
 refine called_of (fn := CU.a97) rfl (Nat.le_of_ble_eq_true rfl) ?_
 simp only [CU.a97]
 simp -dsimp only [↓WPd, ↓wpC_block, ↓wpC_cond, WPu, Bool.false_eq_true, Bool.true_eq_false, Bool.not_true, Bool.not_false, if_true, if_false, ite_true, ite_false, Nat.reduceEqDiff, Nat.reduceLT, true_and, List.map_cons, List.map_nil, Nat.zero_add, Nat.reduceBEq]
 refine calledW_of (sindex_ok d σ l x s hx hl) ?_
 rintro v σ1 ⟨⟨i, rfl, hi⟩, rfl⟩
 simp -dsimp only [↓WPd, ↓wpC_block, ↓wpC_cond, WPu, Bool.false_eq_true, Bool.true_eq_false, Bool.not_true, Bool.not_false, if_true, if_false, ite_true, ite_false, Nat.reduceEqDiff, Nat.reduceLT, true_and, List.map_cons, List.map_nil, Nat.zero_add, Nat.reduceBEq]
 have : decide (i ≥ 0) = x.contains s := hi
 rw [this]
 exact ⟨rfl, trivial⟩
theorem issign_ok (s : List UInt8) : Called CU.cfg d 88 [.str s] σ fun v σ' => v = .bool (signsL.contains s) ∧ Grows σ σ' := by
 refine called_of (fn := CU.a88) rfl (Nat.le_of_ble_eq_true rfl) ?_
 simp only [CU.a88]
 have hf : fillA [AVal.str [], AVal.str [], AVal.str [], AVal.str [], AVal.str [], AVal.str [], AVal.str [], AVal.str [], AVal.str [], AVal.str [], AVal.str [], AVal.str []] [(0, 1, AVal.str [61]), (1, 1, AVal.str [58, 61]), (2, 1, AVal.str [64]), (3, 1, AVal.str [43]), (4, 1, AVal.str [45]), (5, 1, AVal.str [42]), (6, 1, AVal.str [60]), (7, 1, AVal.str [61, 60]), (8, 1, AVal.str [62]), (9, 1, AVal.str [62, 61]), (10, 1, AVal.str [61, 58, 61]), (11, 1, AVal.str [61, 92, 61])] = some (SS signsL) := rfl
 have hl : (σ ++ [AObj.cells (List.replicate 12 (.str []))])[σ.length]? = some (.cells (List.replicate 12 (.str []))) := by simp
 have hs := storeN_cells hl (n := 12) rfl (cs' := SS signsL) rfl rfl
 rw [set_last] at hs
 have hst : storeV (σ ++ [AObj.cells [AVal.str [], AVal.str [], AVal.str [], AVal.str [], AVal.str [], AVal.str [], AVal.str [], AVal.str [], AVal.str [], AVal.str [], AVal.str [], AVal.str []]]) 12 (.ptr σ.length 0) (.agg (SS signsL)) = some (σ ++ [.cells (SS signsL)]) := hs
 simp -dsimp only [↓WPd, ↓wpC_block, ↓wpC_cond, WPu, Bool.false_eq_true, Bool.true_eq_false, Bool.not_true, Bool.not_false, if_true, if_false, ite_true, ite_false, Nat.reduceEqDiff, Nat.reduceLT, true_and, List.map_cons, List.map_nil, Nat.zero_add, Nat.reduceBEq, hf, hst]
 have ho : (σ ++ [AObj.cells (SS signsL)])[σ.length]? = some (.cells (SS signsL)) := by simp
 refine loop_rule2 (fun m vs σ' => ∃ k, k ≤ 12 ∧ m = 12 - k ∧ vs = [.str s, .ptr σ.length 0, .int .i64 k] ∧ σ' = σ ++ [AObj.cells (SS signsL)] ∧ ∀ (j : Nat) (hj : j < signsL.length), j < k → s ≠ signsL[j]) [2]
  (fun e vs σ' => σ' = σ ++ [AObj.cells (SS signsL)] ∧ ((e = .exit 0 ∧ signsL.contains s = false) ∨ (e = .ret ∧ signsL.contains s = true ∧ vs = [.bool true]))) 12 ⟨0, Nat.zero_le _, rfl, ?_, rfl, fun j _ h => by omega⟩ ?_ ?_
 ·simp -dsimp only [↓WPd, ↓wpC_block, ↓wpC_cond, WPu, Bool.false_eq_true, Bool.true_eq_false, Bool.not_true, Bool.not_false, if_true, if_false, ite_true, ite_false, Nat.reduceEqDiff, Nat.reduceLT, true_and, List.map_cons, List.map_nil, Nat.zero_add, Nat.reduceBEq]; rfl
 ·rintro m vs σ' ⟨k, hk, rfl, rfl, rfl, hall⟩
  simp -dsimp only [↓WPd, ↓wpC_block, ↓wpC_cond, WPu, Bool.false_eq_true, Bool.true_eq_false, Bool.not_true, Bool.not_false, if_true, if_false, ite_true, ite_false, Nat.reduceEqDiff, Nat.reduceLT, true_and, List.map_cons, List.map_nil, Nat.zero_add, Nat.reduceBEq]
  refine condP_dec (fun h => ?_) (fun h => ?_)
  ·have hk' : k < 12 := by omega
   have ha : aaddrV 12 1 (.ptr σ.length 0) (.int .i64 k) = some (.ptr σ.length k) := by
    have e : (0 : Int) ≤ (k : Int) ∧ (k : Int) < 12 := by omega
    simp [aaddrV, e]
   have hg : (SS signsL)[k]? = some (.str (signsL[k]'hk')) := by
    have hi : k < (SS signsL).length := hk'
    rw [List.getElem?_eq_getElem hi, SS_get]; rfl
   simp -dsimp only [↓WPd, ↓wpC_block, ↓wpC_cond, WPu, Bool.false_eq_true, Bool.true_eq_false, Bool.not_true, Bool.not_false, if_true, if_false, ite_true, ite_false, Nat.reduceEqDiff, Nat.reduceLT, true_and, List.map_cons, List.map_nil, Nat.zero_add, Nat.reduceBEq, ha, load_cells ho, hg, sop_eql]
   refine condP_intro (fun h => ?_) (fun h => ?_)
   ·simp -dsimp only [↓WPd, ↓wpC_block, ↓wpC_cond, WPu, Bool.false_eq_true, Bool.true_eq_false, Bool.not_true, Bool.not_false, if_true, if_false, ite_true, ite_false, Nat.reduceEqDiff, Nat.reduceLT, true_and, List.map_cons, List.map_nil, Nat.zero_add, Nat.reduceBEq]
    have e : s = signsL[k] := by simpa using h
    refine .inr ?_
    rw [e, List.contains_iff_mem]
    exact ⟨List.getElem_mem _, trivial⟩
   ·simp -dsimp only [↓WPd, ↓wpC_block, ↓wpC_cond, WPu, Bool.false_eq_true, Bool.true_eq_false, Bool.not_true, Bool.not_false, if_true, if_false, ite_true, ite_false, Nat.reduceEqDiff, Nat.reduceLT, true_and, List.map_cons, List.map_nil, Nat.zero_add, Nat.reduceBEq]
    refine ⟨12 - (k + 1), by omega, k + 1, by omega, rfl, by rw [wrap_i64 (by omega) (by omega), Int.natCast_add, Int.natCast_one], fun j hj hjk => ?_⟩
    by_cases e : j = k
    ·subst e
     intro e2
     have h2 : (s == signsL[j]'hk') = true := by rw [e2]; exact beq_self_eq_true _
     rw [h2] at h; cases h
    ·exact hall j hj (by omega)
  ·simp -dsimp only [↓WPd, ↓wpC_block, ↓wpC_cond, WPu, Bool.false_eq_true, Bool.true_eq_false, Bool.not_true, Bool.not_false, if_true, if_false, ite_true, ite_false, Nat.reduceEqDiff, Nat.reduceLT, true_and, List.map_cons, List.map_nil, Nat.zero_add, Nat.reduceBEq]
   refine .inl ?_
   cases hc : signsL.contains s with
   | false => rfl
   | true =>
    exfalso
    rw [List.contains_iff_mem] at hc
    obtain ⟨j, hj, e⟩ := List.getElem_of_mem hc
    have : signsL.length = 12 := rfl
    exact hall j hj (by omega) e.symm
 ·rintro e σ' env ⟨rfl, ⟨rfl, hno⟩ | ⟨rfl, hyes, hv⟩⟩
  ·simp -dsimp only [↓WPd, ↓wpC_block, ↓wpC_cond, WPu, Bool.false_eq_true, Bool.true_eq_false, Bool.not_true, Bool.not_false, if_true, if_false, ite_true, ite_false, Nat.reduceEqDiff, Nat.reduceLT, true_and, List.map_cons, List.map_nil, Nat.zero_add, Nat.reduceBEq, hno]
   exact Grows.app _ _
  ·simp only [List.map_cons, List.map_nil, List.cons.injEq, and_true] at hv
   simp -dsimp only [↓WPd, ↓wpC_block, ↓wpC_cond, WPu, Bool.false_eq_true, Bool.true_eq_false, Bool.not_true, Bool.not_false, if_true, if_false, ite_true, ite_false, Nat.reduceEqDiff, Nat.reduceLT, true_and, List.map_cons, List.map_nil, Nat.zero_add, Nat.reduceBEq, hv, hyes]
   exact Grows.app _ _
end
theorem Cel.one (c : Cel) : c.cs.all AVal.one = true := rfl
theorem Cel.cells (c : Cel) : c.val.cells = c.cs := rfl
theorem Cel.g0 (c : Cel) : c.cs[0]? = some (.int .u8 c.k) := rfl
theorem Cel.g1 (c : Cel) : c.cs[1]? = some (.str c.s) := rfl
theorem Cel.g2 (c : Cel) : c.cs[2]? = some (.int .i64 c.n) := rfl
theorem Cel.g3 (c : Cel) : c.cs[3]? = some (.int .i64 c.v.1) := rfl
theorem Cel.g4 (c : Cel) : c.cs[4]? = some (.int .i64 c.v.2) := rfl
theorem Cel.eqs (a b : Cel) : eqsV [.i, .s, .i, .i, .i] a.val b.val = some (decide (a = b)) := by
 obtain ⟨k, s, n, v, w⟩ := a
 obtain ⟨k', s', n', v', w'⟩ := b
 simp [eqsV, cellsEq, Cel.val, Cel.cs]
 rw [Bool.eq_iff_iff]
 simp
 omega
section
variable (d : Nat) (σ : Store)
theorem only_ok (a b : Cel) : Called CU.cfg d 93 [a.val, b.val] σ fun v σ' => v = .bool (decide (a = b)) ∧ Grows σ σ' := by
 refine called_of (fn := CU.a93) rfl (Nat.le_of_ble_eq_true rfl) ?_
 simp only [CU.a93]
 simp -dsimp only [↓WPd, ↓wpC_block, ↓wpC_cond, WPu, Bool.false_eq_true, Bool.true_eq_false, Bool.not_true, Bool.not_false, if_true, if_false, ite_true, ite_false, Nat.reduceEqDiff, Nat.reduceLT, true_and, List.map_cons, List.map_nil, Nat.zero_add, Nat.reduceBEq, Cel.cells, Cel.one]
 have h1 : (σ ++ [AObj.cells a.cs] ++ [AObj.cells b.cs])[σ.length]? = some (.cells a.cs) := by simp
 have h2 : (σ ++ [AObj.cells a.cs] ++ [AObj.cells b.cs])[(σ ++ [AObj.cells a.cs]).length]? = some (.cells b.cs) := by simp
 have l1 : loadV (σ ++ [AObj.cells a.cs] ++ [AObj.cells b.cs]) 5 true (.ptr σ.length 0) = some a.val := loadN_cells h1 rfl
 have l2 : loadV (σ ++ [AObj.cells a.cs] ++ [AObj.cells b.cs]) 5 true (.ptr (σ ++ [AObj.cells a.cs]).length 0) = some b.val := loadN_cells h2 rfl
 simp -dsimp only [↓WPd, ↓wpC_block, ↓wpC_cond, WPu, Bool.false_eq_true, Bool.true_eq_false, Bool.not_true, Bool.not_false, if_true, if_false, ite_true, ite_false, Nat.reduceEqDiff, Nat.reduceLT, true_and, List.map_cons, List.map_nil, Nat.zero_add, Nat.reduceBEq, l1, l2, Cel.eqs]
 exact (Grows.app _ _).trans (Grows.app _ _)
theorem cell_load {c : Cel} {σ' : Store} {i : Nat} (h : σ'[i]? = some (.cells c.cs)) : loadV σ' 5 true (.ptr i 0) = some c.val := loadN_cells h rfl
theorem rule1_ok (c : Cel) : Called CU.cfg d 92 [c.val] σ fun v σ' => v = .bool (decide (c.k = 1) && c.ok) ∧ Grows σ σ' := by
 refine called_of (fn := CU.a92) rfl (Nat.le_of_ble_eq_true rfl) ?_
 simp only [CU.a92]
 simp -dsimp only [↓WPd, ↓wpC_block, ↓wpC_cond, WPu, Bool.false_eq_true, Bool.true_eq_false, Bool.not_true, Bool.not_false, if_true, if_false, ite_true, ite_false, Nat.reduceEqDiff, Nat.reduceLT, true_and, List.map_cons, List.map_nil, Nat.zero_add, Nat.reduceBEq, Cel.cells, Cel.one]
 have ho : (σ ++ [AObj.cells c.cs])[σ.length]? = some (.cells c.cs) := by simp
 have g0 : Grows σ (σ ++ [AObj.cells c.cs]) := Grows.app _ _
 generalize σ ++ [AObj.cells c.cs] = σ1 at ho g0
 simp -dsimp only [↓WPd, ↓wpC_block, ↓wpC_cond, WPu, Bool.false_eq_true, Bool.true_eq_false, Bool.not_true, Bool.not_false, if_true, if_false, ite_true, ite_false, Nat.reduceEqDiff, Nat.reduceLT, true_and, List.map_cons, List.map_nil, Nat.zero_add, Nat.reduceBEq, WPm, faddr_ptr, load_cells ho, Cel.g0, Cel.g1, Cel.g2, Cel.g3, Cel.g4, cell_load ho]
 generalize hb : (decide (c.n ≥ -2147483648) && decide (c.n ≤ 2147483648)) = b
 have hok : (decide (c.k = 1) && c.ok) = (b && decide (c = ⟨1, [], c.n, (0, 0)⟩)) := by
  rw [← hb]
  obtain ⟨k, s, n, v⟩ := c
  by_cases h1 : k = 1
  ·subst h1
   rw [Bool.eq_iff_iff]
   simp [Cel.ok]
   constructor <;> intro h <;> simp_all
  ·simp [h1]
 have hf : fillA [AVal.int IntKind.u8 0, AVal.str [], AVal.int IntKind.i64 0, AVal.int IntKind.i64 0, AVal.int IntKind.i64 0] [(0, 1, AVal.int IntKind.u8 1), (2, 1, AVal.int IntKind.i64 c.n)] = some (Cel.cs ⟨1, [], c.n, (0, 0)⟩) := rfl
 cases b
 ·simp -dsimp only [↓WPd, ↓wpC_block, ↓wpC_cond, WPu, Bool.false_eq_true, Bool.true_eq_false, Bool.not_true, Bool.not_false, if_true, if_false, ite_true, ite_false, Nat.reduceEqDiff, Nat.reduceLT, true_and, List.map_cons, List.map_nil, Nat.zero_add, Nat.reduceBEq, WPm, hok, Bool.false_and]
  exact g0
 ·simp -dsimp only [↓WPd, ↓wpC_block, ↓wpC_cond, WPu, Bool.false_eq_true, Bool.true_eq_false, Bool.not_true, Bool.not_false, if_true, if_false, ite_true, ite_false, Nat.reduceEqDiff, Nat.reduceLT, true_and, List.map_cons, List.map_nil, Nat.zero_add, Nat.reduceBEq, WPm, hf]
  refine calledW_of (only_ok d σ1 c ⟨1, [], c.n, (0, 0)⟩) ?_
  rintro v σ2 ⟨rfl, g2⟩
  simp -dsimp only [↓WPd, ↓wpC_block, ↓wpC_cond, WPu, Bool.false_eq_true, Bool.true_eq_false, Bool.not_true, Bool.not_false, if_true, if_false, ite_true, ite_false, Nat.reduceEqDiff, Nat.reduceLT, true_and, List.map_cons, List.map_nil, Nat.zero_add, Nat.reduceBEq, hok, Bool.true_and]
  exact g0.trans g2
theorem rule2_ok (c : Cel) (hs : c.s.length < 2 ^ 40) : Called CU.cfg d 94 [c.val] σ fun v σ' => v = .bool (decide (c.k = 2) && c.ok) ∧ Grows σ σ' := by
 refine called_of (fn := CU.a94) rfl (Nat.le_of_ble_eq_true rfl) ?_
 simp only [CU.a94]
 simp -dsimp only [↓WPd, ↓wpC_block, ↓wpC_cond, WPu, Bool.false_eq_true, Bool.true_eq_false, Bool.not_true, Bool.not_false, if_true, if_false, ite_true, ite_false, Nat.reduceEqDiff, Nat.reduceLT, true_and, List.map_cons, List.map_nil, Nat.zero_add, Nat.reduceBEq, Cel.cells, Cel.one]
 have ho : (σ ++ [AObj.cells c.cs])[σ.length]? = some (.cells c.cs) := by simp
 have g0 : Grows σ (σ ++ [AObj.cells c.cs]) := Grows.app _ _
 generalize σ ++ [AObj.cells c.cs] = σ1 at ho g0
 simp -dsimp only [↓WPd, ↓wpC_block, ↓wpC_cond, WPu, Bool.false_eq_true, Bool.true_eq_false, Bool.not_true, Bool.not_false, if_true, if_false, ite_true, ite_false, Nat.reduceEqDiff, Nat.reduceLT, true_and, List.map_cons, List.map_nil, Nat.zero_add, Nat.reduceBEq, WPm, faddr_ptr, load_cells ho, Cel.g0, Cel.g1, Cel.g2, Cel.g3, Cel.g4, cell_load ho]
 refine calledW_of (isname_ok d σ1 c.s hs) ?_
 rintro v σ2 ⟨rfl, rfl⟩
 have hok : (decide (c.k = 2) && c.ok) = (isName c.s && decide (c = ⟨2, c.s, 0, (0, 0)⟩)) := by
  obtain ⟨k, s, n, v⟩ := c
  by_cases h1 : k = 2
  ·subst h1
   rw [Bool.eq_iff_iff]
   simp [Cel.ok]
   constructor <;> intro h <;> simp_all
  ·simp [h1]
 have hf : fillA [AVal.int IntKind.u8 0, AVal.str [], AVal.int IntKind.i64 0, AVal.int IntKind.i64 0, AVal.int IntKind.i64 0] [(0, 1, AVal.int IntKind.u8 2), (1, 1, AVal.str c.s)] = some (Cel.cs ⟨2, c.s, 0, (0, 0)⟩) := rfl
 generalize hb : isName c.s = b at hok
 cases b
 ·simp -dsimp only [↓WPd, ↓wpC_block, ↓wpC_cond, WPu, Bool.false_eq_true, Bool.true_eq_false, Bool.not_true, Bool.not_false, if_true, if_false, ite_true, ite_false, Nat.reduceEqDiff, Nat.reduceLT, true_and, List.map_cons, List.map_nil, Nat.zero_add, Nat.reduceBEq, WPm, hok, Bool.false_and]
  exact g0
 ·simp -dsimp only [↓WPd, ↓wpC_block, ↓wpC_cond, WPu, Bool.false_eq_true, Bool.true_eq_false, Bool.not_true, Bool.not_false, if_true, if_false, ite_true, ite_false, Nat.reduceEqDiff, Nat.reduceLT, true_and, List.map_cons, List.map_nil, Nat.zero_add, Nat.reduceBEq, WPm, faddr_ptr, load_cells ho, Cel.g0, Cel.g1, Cel.g2, Cel.g3, Cel.g4, cell_load ho, hf]
  refine calledW_of (only_ok d σ2 c ⟨2, c.s, 0, (0, 0)⟩) ?_
  rintro v σ3 ⟨rfl, g2⟩
  simp -dsimp only [↓WPd, ↓wpC_block, ↓wpC_cond, WPu, Bool.false_eq_true, Bool.true_eq_false, Bool.not_true, Bool.not_false, if_true, if_false, ite_true, ite_false, Nat.reduceEqDiff, Nat.reduceLT, true_and, List.map_cons, List.map_nil, Nat.zero_add, Nat.reduceBEq, hok, Bool.true_and]
  exact g0.trans g2
theorem rule4_ok (c : Cel) : Called CU.cfg d 98 [c.val] σ fun v σ' => v = .bool (decide (c.k = 4) && c.ok) ∧ Grows σ σ' := by
 refine called_of (fn := CU.a98) rfl (Nat.le_of_ble_eq_true rfl) ?_
 simp only [CU.a98]
 simp -dsimp only [↓WPd, ↓wpC_block, ↓wpC_cond, WPu, Bool.false_eq_true, Bool.true_eq_false, Bool.not_true, Bool.not_false, if_true, if_false, ite_true, ite_false, Nat.reduceEqDiff, Nat.reduceLT, true_and, List.map_cons, List.map_nil, Nat.zero_add, Nat.reduceBEq, Cel.cells, Cel.one]
 have ho : (σ ++ [AObj.cells c.cs])[σ.length]? = some (.cells c.cs) := by simp
 have g0 : Grows σ (σ ++ [AObj.cells c.cs]) := Grows.app _ _
 generalize σ ++ [AObj.cells c.cs] = σ1 at ho g0
 have l2 : loadV σ1 2 true (.ptr σ.length 3) = some (.agg [.int .i64 c.v.1, .int .i64 c.v.2]) := by simp [loadV, behind, ho, Cel.cs]
 simp -dsimp only [↓WPd, ↓wpC_block, ↓wpC_cond, WPu, Bool.false_eq_true, Bool.true_eq_false, Bool.not_true, Bool.not_false, if_true, if_false, ite_true, ite_false, Nat.reduceEqDiff, Nat.reduceLT, true_and, List.map_cons, List.map_nil, Nat.zero_add, Nat.reduceBEq, WPm, faddr_ptr, Nat.reduceAdd, Nat.add_zero, load_cells ho, Cel.g0, Cel.g1, Cel.g2, Cel.g3, Cel.g4, cell_load ho, l2]
 generalize hb : (decide (c.v.1 ≥ -1) && decide (c.v.1 < 4) && decide (c.v.2 ≥ 0)) = b
 have hok : (decide (c.k = 4) && c.ok) = (b && decide (c = ⟨4, [], 0, c.v⟩)) := by
  rw [← hb]
  obtain ⟨k, s, n, v, w⟩ := c
  by_cases h1 : k = 4
  ·subst h1
   rw [Bool.eq_iff_iff]
   simp [Cel.ok]
   constructor
   ·intro h; simp_all; omega
   ·intro h; simp_all; omega
  ·simp [h1]
 have hf : fillA [AVal.int IntKind.u8 0, AVal.str [], AVal.int IntKind.i64 0, AVal.int IntKind.i64 0, AVal.int IntKind.i64 0] [(0, 1, AVal.int IntKind.u8 4), (3, 2, AVal.agg [.int .i64 c.v.1, .int .i64 c.v.2])] = some (Cel.cs ⟨4, [], 0, c.v⟩) := rfl
 cases b
 ·simp -dsimp only [↓WPd, ↓wpC_block, ↓wpC_cond, WPu, Bool.false_eq_true, Bool.true_eq_false, Bool.not_true, Bool.not_false, if_true, if_false, ite_true, ite_false, Nat.reduceEqDiff, Nat.reduceLT, true_and, List.map_cons, List.map_nil, Nat.zero_add, Nat.reduceBEq, WPm, hok, Bool.false_and]
  exact g0
 ·simp -dsimp only [↓WPd, ↓wpC_block, ↓wpC_cond, WPu, Bool.false_eq_true, Bool.true_eq_false, Bool.not_true, Bool.not_false, if_true, if_false, ite_true, ite_false, Nat.reduceEqDiff, Nat.reduceLT, true_and, List.map_cons, List.map_nil, Nat.zero_add, Nat.reduceBEq, WPm, hf]
  refine calledW_of (only_ok d σ1 c ⟨4, [], 0, c.v⟩) ?_
  rintro v σ2 ⟨rfl, g2⟩
  simp -dsimp only [↓WPd, ↓wpC_block, ↓wpC_cond, WPu, Bool.false_eq_true, Bool.true_eq_false, Bool.not_true, Bool.not_false, if_true, if_false, ite_true, ite_false, Nat.reduceEqDiff, Nat.reduceLT, true_and, List.map_cons, List.map_nil, Nat.zero_add, Nat.reduceBEq, hok, Bool.true_and]
  exact g0.trans g2
theorem rule5_ok (c : Cel) : Called CU.cfg d 99 [c.val] σ fun v σ' => v = .bool false ∧ Grows σ σ' := by
 refine called_of (fn := CU.a99) rfl (Nat.le_of_ble_eq_true rfl) ?_
 simp only [CU.a99]
 simp -dsimp only [↓WPd, ↓wpC_block, ↓wpC_cond, WPu, Bool.false_eq_true, Bool.true_eq_false, Bool.not_true, Bool.not_false, if_true, if_false, ite_true, ite_false, Nat.reduceEqDiff, Nat.reduceLT, true_and, List.map_cons, List.map_nil, Nat.zero_add, Nat.reduceBEq, Cel.cells, Cel.one]
 exact Grows.app _ _
theorem ev_signs (fr : List AVal) : ev CU.cfg fr (.glob 0) = .fptr 0 (SS signsL) 0 := rfl
theorem gslice_signs : gsliceV 12 (.fptr 0 (SS signsL) 0) = some (.fslice 0 true 1 (SS signsL)) := rfl
theorem rule3_ok (c : Cel) (hs : c.s.length < 2 ^ 40) : Called CU.cfg d 96 [c.val] σ fun v σ' => v = .bool (decide (c.k = 3) && c.ok) ∧ Grows σ σ' := by
 refine called_of (fn := CU.a96) rfl (Nat.le_of_ble_eq_true rfl) ?_
 simp only [CU.a96]
 simp -dsimp only [↓WPd, ↓wpC_block, ↓wpC_cond, WPu, Bool.false_eq_true, Bool.true_eq_false, Bool.not_true, Bool.not_false, if_true, if_false, ite_true, ite_false, Nat.reduceEqDiff, Nat.reduceLT, true_and, List.map_cons, List.map_nil, Nat.zero_add, Nat.reduceBEq, Cel.cells, Cel.one]
 have ho : (σ ++ [AObj.cells c.cs])[σ.length]? = some (.cells c.cs) := by simp
 have g0 : Grows σ (σ ++ [AObj.cells c.cs]) := Grows.app _ _
 generalize σ ++ [AObj.cells c.cs] = σ1 at ho g0
 simp -dsimp only [↓WPd, ↓wpC_block, ↓wpC_cond, WPu, Bool.false_eq_true, Bool.true_eq_false, Bool.not_true, Bool.not_false, if_true, if_false, ite_true, ite_false, Nat.reduceEqDiff, Nat.reduceLT, true_and, List.map_cons, List.map_nil, Nat.zero_add, Nat.reduceBEq, WPm, faddr_ptr, load_cells ho, Cel.g0, Cel.g1, Cel.g2, Cel.g3, Cel.g4, cell_load ho]
 refine calledW_of (isname_ok d σ1 c.s hs) ?_
 rintro v σ2 ⟨rfl, rfl⟩
 simp -dsimp only [↓WPd, ↓wpC_block, ↓wpC_cond, WPu, Bool.false_eq_true, Bool.true_eq_false, Bool.not_true, Bool.not_false, if_true, if_false, ite_true, ite_false, Nat.reduceEqDiff, Nat.reduceLT, true_and, List.map_cons, List.map_nil, Nat.zero_add, Nat.reduceBEq, WPm, faddr_ptr, load_cells ho, Cel.g0, Cel.g1, Cel.g2, Cel.g3, Cel.g4, cell_load ho]
 generalize hb : (isName c.s && decide (c.n ≥ 1) && decide (c.n ≤ 8)) = b
 have hf : fillA [AVal.int IntKind.u8 0, AVal.str [], AVal.int IntKind.i64 0, AVal.int IntKind.i64 0, AVal.int IntKind.i64 0] [(0, 1, AVal.int IntKind.u8 3), (1, 1, AVal.str c.s), (2, 1, AVal.int IntKind.i64 c.n)] = some (Cel.cs ⟨3, c.s, c.n, (0, 0)⟩) := rfl
 have hok : (decide (c.k = 3) && c.ok) = ((b || (signsL.contains c.s && (c.n == 2))) && decide (c = ⟨3, c.s, c.n, (0, 0)⟩)) := by
  rw [← hb]
  obtain ⟨k, s, n, v⟩ := c
  by_cases h1 : k = 3
  ·subst h1
   rw [Bool.eq_iff_iff]
   simp only [Cel.ok]
   simp
   constructor
   ·intro h; simp_all
   ·intro h; simp_all
  ·simp [h1]
 have fin : ∀ (q : Bool) (σ3 : Store), Grows σ σ3 → σ3[σ.length]? = some (.cells c.cs) → (b || (signsL.contains c.s && (c.n == 2))) = q → q = true → Called CU.cfg d 93 [c.val, .agg (Cel.cs ⟨3, c.s, c.n, (0, 0)⟩)] σ3 fun v σ' => v = .bool (decide (c.k = 3) && c.ok) ∧ Grows σ σ' := by
  intro q σ3 g3 h3 hq hq1
  refine (only_ok d σ3 c ⟨3, c.s, c.n, (0, 0)⟩).mono ?_
  rintro v σ4 ⟨rfl, g4⟩
  rw [hok, hq, hq1, Bool.true_and]
  exact ⟨rfl, g3.trans g4⟩
 cases b
 ·simp -dsimp only [↓WPd, ↓wpC_block, ↓wpC_cond, WPu, Bool.false_eq_true, Bool.true_eq_false, Bool.not_true, Bool.not_false, if_true, if_false, ite_true, ite_false, Nat.reduceEqDiff, Nat.reduceLT, true_and, List.map_cons, List.map_nil, Nat.zero_add, Nat.reduceBEq, WPm, ev_signs, gslice_signs, faddr_ptr, load_cells ho, Cel.g0, Cel.g1, Cel.g2, Cel.g3, Cel.g4, cell_load ho]
  refine calledW_of (scontains_ok d σ2 _ signsL c.s (by decide) (SlOf.fs _ _ _ _ _)) ?_
  rintro v σ3 ⟨rfl, rfl⟩
  simp -dsimp only [↓WPd, ↓wpC_block, ↓wpC_cond, WPu, Bool.false_eq_true, Bool.true_eq_false, Bool.not_true, Bool.not_false, if_true, if_false, ite_true, ite_false, Nat.reduceEqDiff, Nat.reduceLT, true_and, List.map_cons, List.map_nil, Nat.zero_add, Nat.reduceBEq, WPm, faddr_ptr, load_cells ho, Cel.g0, Cel.g1, Cel.g2, Cel.g3, Cel.g4, cell_load ho]
  generalize hq : (signsL.contains c.s && (c.n == 2)) = q at hok fin
  cases q
  ·simp -dsimp only [↓WPd, ↓wpC_block, ↓wpC_cond, WPu, Bool.false_eq_true, Bool.true_eq_false, Bool.not_true, Bool.not_false, if_true, if_false, ite_true, ite_false, Nat.reduceEqDiff, Nat.reduceLT, true_and, List.map_cons, List.map_nil, Nat.zero_add, Nat.reduceBEq, WPm, hok, Bool.false_or, Bool.false_and]
   exact g0
  ·simp -dsimp only [↓WPd, ↓wpC_block, ↓wpC_cond, WPu, Bool.false_eq_true, Bool.true_eq_false, Bool.not_true, Bool.not_false, if_true, if_false, ite_true, ite_false, Nat.reduceEqDiff, Nat.reduceLT, true_and, List.map_cons, List.map_nil, Nat.zero_add, Nat.reduceBEq, WPm, Bool.false_or, faddr_ptr, load_cells ho, Cel.g0, Cel.g1, Cel.g2, Cel.g3, Cel.g4, cell_load ho, hf]
   refine calledW_of (fin _ _ g0 ho rfl rfl) ?_
   rintro v σ4 ⟨rfl, g4⟩
   simp -dsimp only [↓WPd, ↓wpC_block, ↓wpC_cond, WPu, Bool.false_eq_true, Bool.true_eq_false, Bool.not_true, Bool.not_false, if_true, if_false, ite_true, ite_false, Nat.reduceEqDiff, Nat.reduceLT, true_and, List.map_cons, List.map_nil, Nat.zero_add, Nat.reduceBEq]
   exact g4
 ·simp -dsimp only [↓WPd, ↓wpC_block, ↓wpC_cond, WPu, Bool.false_eq_true, Bool.true_eq_false, Bool.not_true, Bool.not_false, if_true, if_false, ite_true, ite_false, Nat.reduceEqDiff, Nat.reduceLT, true_and, List.map_cons, List.map_nil, Nat.zero_add, Nat.reduceBEq, WPm, Bool.true_or, faddr_ptr, load_cells ho, Cel.g0, Cel.g1, Cel.g2, Cel.g3, Cel.g4, cell_load ho, hf]
  refine calledW_of (fin _ _ g0 ho rfl rfl) ?_
  rintro v σ4 ⟨rfl, g4⟩
  simp -dsimp only [↓WPd, ↓wpC_block, ↓wpC_cond, WPu, Bool.false_eq_true, Bool.true_eq_false, Bool.not_true, Bool.not_false, if_true, if_false, ite_true, ite_false, Nat.reduceEqDiff, Nat.reduceLT, true_and, List.map_cons, List.map_nil, Nat.zero_add, Nat.reduceBEq]
  exact g4
end
def ruleF (k : Nat) : FuncId := if k = 1 then 92 else if k = 2 then 94 else if k = 3 then 96 else if k = 4 then 98 else 99
def rulesL : List AVal := [.nilfunc, .func 92 [] [], .func 94 [] [], .func 96 [] [], .func 98 [] []]
section
variable (d : Nat) (σ : Store)
theorem rule_ok (k : Nat) (hk8 : k < 256) : Called CU.cfg d 74 [.int .u8 k] σ fun v σ' => v = .agg [.func (ruleF k) [] []] ∧ Grows σ σ' := by
 refine called_of (fn := CU.a74) rfl (Nat.le_of_ble_eq_true rfl) ?_
 simp only [CU.a74]
 have b1 : ∀ f : FuncId, fillA [AVal.nilfunc] [(0, 1, .func f [] [])] = some [.func f [] []] := fun f => rfl
 have b2 : ∀ a b c e : FuncId, fillA [AVal.nilfunc, .nilfunc, .nilfunc, .nilfunc, .nilfunc] [(1, 1, .agg [.func a [] []]), (2, 1, .agg [.func b [] []]), (3, 1, .agg [.func c [] []]), (4, 1, .agg [.func e [] []])] = some [.nilfunc, .func a [] [], .func b [] [], .func c [] [], .func e [] []] := fun a b c e => rfl
 have h5 : (σ ++ [AObj.cells [AVal.nilfunc]] ++ [AObj.cells [AVal.nilfunc, AVal.nilfunc, AVal.nilfunc, AVal.nilfunc, AVal.nilfunc]])[(σ ++ [AObj.cells [AVal.nilfunc]]).length]? = some (.cells [AVal.nilfunc, AVal.nilfunc, AVal.nilfunc, AVal.nilfunc, AVal.nilfunc]) := by simp
 have s5 := storeN_cells h5 (n := 5) rfl (cs' := rulesL) rfl rfl
 rw [set_last] at s5
 have s5' : storeV (σ ++ [AObj.cells [AVal.nilfunc]] ++ [AObj.cells [AVal.nilfunc, AVal.nilfunc, AVal.nilfunc, AVal.nilfunc, AVal.nilfunc]]) 5 (.ptr (σ ++ [AObj.cells [AVal.nilfunc]]).length 0) (.agg [.nilfunc, .func 92 [] [], .func 94 [] [], .func 96 [] [], .func 98 [] []]) = some (σ ++ [AObj.cells [AVal.nilfunc]] ++ [AObj.cells rulesL]) := s5
 have g0 : Grows σ (σ ++ [AObj.cells [AVal.nilfunc]] ++ [AObj.cells rulesL]) := (Grows.app _ _).trans (Grows.app _ _)
 have h1 : (σ ++ [AObj.cells [AVal.nilfunc]] ++ [AObj.cells rulesL])[σ.length]? = some (.cells [.nilfunc]) := by simp
 have h2 : (σ ++ [AObj.cells [AVal.nilfunc]] ++ [AObj.cells rulesL])[(σ ++ [AObj.cells [AVal.nilfunc]]).length]? = some (.cells rulesL) := by simp
 have cv : convV .i64 (.int .u8 (k : Int)) = some (.int .i64 (k : Int)) := by rw [convV_int, wrap_i64 (by omega) (by omega)]
 simp -dsimp only [↓WPd, ↓wpC_block, ↓wpC_cond, WPu, Bool.false_eq_true, Bool.true_eq_false, Bool.not_true, Bool.not_false, if_true, if_false, ite_true, ite_false, Nat.reduceEqDiff, Nat.reduceLT, true_and, List.map_cons, List.map_nil, Nat.zero_add, Nat.reduceBEq, WPm, b1, b2, s5', cv]
 generalize (σ ++ [AObj.cells [AVal.nilfunc]]).length = i5 at *
 generalize σ ++ [AObj.cells [AVal.nilfunc]] ++ [AObj.cells rulesL] = σ1 at *
 have fin : ∀ f : FuncId, ruleF k = f → storeV σ1 1 (.ptr σ.length 0) (.agg [.func f [] []]) = some (σ1.set σ.length (.cells [.func f [] []])) ∧ loadV (σ1.set σ.length (.cells [.func f [] []])) 1 true (.ptr σ.length 0) = some (.agg [.func (ruleF k) [] []]) ∧ Grows σ (σ1.set σ.length (.cells [.func f [] []])) := by
  intro f hf
  refine ⟨storeN_cells h1 (n := 1) rfl rfl rfl, ?_, ?_⟩
  ·rw [hf]; exact loadN_cells (get_set h1) rfl
  ·exact Keeps.trans g0 (Keeps.set _ _ _) fun i hi e => by omega
 have key : (decide ((k : Int) < 1) || decide ((k : Int) ≥ 5)) = !(decide (1 ≤ k) && decide (k < 5)) := by
  rw [Bool.eq_iff_iff]; simp; omega
 rw [key]
 refine condP_intro (fun h => ?_) (fun h => ?_)
 ·have hk : ruleF k = 99 := by
   simp only [Bool.not_eq_true', Bool.and_eq_false_iff, decide_eq_false_iff_not] at h
   simp only [ruleF]
   rw [if_neg (by omega), if_neg (by omega), if_neg (by omega), if_neg (by omega)]
  obtain ⟨f1, f2, f3⟩ := fin _ hk
  simp -dsimp only [↓WPd, ↓wpC_block, ↓wpC_cond, WPu, Bool.false_eq_true, Bool.true_eq_false, Bool.not_true, Bool.not_false, if_true, if_false, ite_true, ite_false, Nat.reduceEqDiff, Nat.reduceLT, true_and, List.map_cons, List.map_nil, Nat.zero_add, Nat.reduceBEq, b1, f1, f2]
  exact f3
 ·simp only [Bool.not_eq_false', Bool.and_eq_true, decide_eq_true_eq] at h
  have ha : aaddrV 5 1 (.ptr i5 0) (.int .u8 k) = some (.ptr i5 k) := by
   have e : (0 : Int) ≤ (k : Int) ∧ (k : Int) < 5 := by omega
   simp [aaddrV, e]
  have hl : loadV σ1 1 true (.ptr i5 k) = some (.agg [.func (ruleF k) [] []]) := by
   have : k = 1 ∨ k = 2 ∨ k = 3 ∨ k = 4 := by omega
   rcases this with rfl | rfl | rfl | rfl <;> simp [loadV, behind, h2, rulesL, ruleF]
  obtain ⟨f1, f2, f3⟩ := fin _ rfl
  simp -dsimp only [↓WPd, ↓wpC_block, ↓wpC_cond, WPu, Bool.false_eq_true, Bool.true_eq_false, Bool.not_true, Bool.not_false, if_true, if_false, ite_true, ite_false, Nat.reduceEqDiff, Nat.reduceLT, true_and, List.map_cons, List.map_nil, Nat.zero_add, Nat.reduceBEq, ha, hl, f1, f2]
  exact f3
theorem law_ok (c : Cel) (hs : c.s.length < 2 ^ 40) : Called CU.cfg d (ruleF c.k) [c.val] σ fun v σ' => v = .bool c.ok ∧ Grows σ σ' := by
 have q : ∀ {j : Nat} {f : FuncId}, c.k = j → ruleF c.k = f → Called CU.cfg d f [c.val] σ (fun v σ' => v = .bool (decide (c.k = j) && c.ok) ∧ Grows σ σ') → Called CU.cfg d (ruleF c.k) [c.val] σ fun v σ' => v = .bool c.ok ∧ Grows σ σ' := by
  intro j f hj hf h
  rw [hf]
  refine h.mono ?_
  rintro v σ' ⟨rfl, g⟩
  rw [hj, decide_eq_true rfl, Bool.true_and]
  exact ⟨rfl, g⟩
 by_cases h1 : c.k = 1
 ·exact q h1 (by simp [ruleF, h1]) (rule1_ok d σ c)
 by_cases h2 : c.k = 2
 ·exact q h2 (by simp [ruleF, h2]) (rule2_ok d σ c hs)
 by_cases h3 : c.k = 3
 ·exact q h3 (by simp [ruleF, h3]) (rule3_ok d σ c hs)
 by_cases h4 : c.k = 4
 ·exact q h4 (by simp [ruleF, h4]) (rule4_ok d σ c)
 have e1 : ruleF c.k = 99 := by simp [ruleF, h1, h2, h3, h4]
 have e2 : c.ok = false := by simp [Cel.ok, h1, h2, h3, h4]
 rw [e1, e2]
 exact rule5_ok d σ c
theorem wrong_ok (c : Cel) (hk8 : c.k < 256) (hs : c.s.length < 2 ^ 40) : Called CU.cfg d 73 [c.val] σ fun v σ' => v = .bool (!c.ok) ∧ Grows σ σ' := by
 refine called_of (fn := CU.a73) rfl (Nat.le_of_ble_eq_true rfl) ?_
 simp only [CU.a73]
 simp -dsimp only [↓WPd, ↓wpC_block, ↓wpC_cond, WPu, Bool.false_eq_true, Bool.true_eq_false, Bool.not_true, Bool.not_false, if_true, if_false, ite_true, ite_false, Nat.reduceEqDiff, Nat.reduceLT, true_and, List.map_cons, List.map_nil, Nat.zero_add, Nat.reduceBEq, Cel.cells, Cel.one]
 have ho : (σ ++ [AObj.cells c.cs])[σ.length]? = some (.cells c.cs) := by simp
 have g0 : Grows σ (σ ++ [AObj.cells c.cs]) := Grows.app _ _
 generalize σ ++ [AObj.cells c.cs] = σ1 at ho g0
 refine drawnP_of rfl ?_
 simp -dsimp only [↓WPd, ↓wpC_block, ↓wpC_cond, WPu, Bool.false_eq_true, Bool.true_eq_false, Bool.not_true, Bool.not_false, if_true, if_false, ite_true, ite_false, Nat.reduceEqDiff, Nat.reduceLT, true_and, List.map_cons, List.map_nil, Nat.zero_add, Nat.reduceBEq, ↓WPed, WPeu, Nat.reduceAdd, and_self, faddr_ptr, load_cells ho, Cel.g0]
 refine calledW_of (rule_ok d σ1 c.k hk8) ?_
 rintro v σ2 ⟨rfl, g1⟩
 have ho2 := g1.get ho
 have fv : ∀ f : FuncId, fieldV 0 1 false (.agg [.func f [] []]) = some (.func f [] []) := fun f => rfl
 simp -dsimp only [↓WPd, ↓wpC_block, ↓wpC_cond, WPu, Bool.false_eq_true, Bool.true_eq_false, Bool.not_true, Bool.not_false, if_true, if_false, ite_true, ite_false, Nat.reduceEqDiff, Nat.reduceLT, true_and, List.map_cons, List.map_nil, Nat.zero_add, Nat.reduceBEq, ↓WPed, WPeu, Nat.reduceAdd, and_self, fv, cell_load ho, cell_load ho2]
 refine calledW_of (law_ok d σ2 c hs) ?_
 rintro v σ3 ⟨rfl, g3⟩
 simp -dsimp only [↓WPd, ↓wpC_block, ↓wpC_cond, WPu, Bool.false_eq_true, Bool.true_eq_false, Bool.not_true, Bool.not_false, if_true, if_false, ite_true, ite_false, Nat.reduceEqDiff, Nat.reduceLT, true_and, List.map_cons, List.map_nil, Nat.zero_add, Nat.reduceBEq, ↓WPed, WPeu, Nat.reduceAdd, and_self]
 exact (g0.trans g1).trans g3
theorem cel_get (t : List Cel) (i : Nat) (h : i < (t.map Cel.val).length) : (t.map Cel.val)[i] = (t[i]'(by simpa using h)).val := by simp
theorem cindex_ok (f : FuncId) (p : Cel → Bool) (l : AVal) (t : List Cel) (hx : t.length < 2 ^ 40) (hl : SlOf σ 5 l (t.map Cel.val)) (hf : ∀ (c : Cel) (σ' : Store), c ∈ t → Called CU.cfg d f [c.val] σ' fun v σ'' => v = .bool (p c) ∧ Grows σ' σ'') :
  Called CU.cfg d 89 [l, .func f [] []] σ fun v σ' => (∃ i : Int, v = .int .i64 i ∧ (decide (0 ≤ i)) = t.any p) ∧ Grows σ σ' := by
 refine called_of (fn := CU.a89) rfl (Nat.le_of_ble_eq_true rfl) ?_
 have ll := hl.len
 rw [List.length_map] at ll
 simp only [CU.a89]
 simp -dsimp only [↓WPd, ↓wpC_block, ↓wpC_cond, WPu, Bool.false_eq_true, Bool.true_eq_false, Bool.not_true, Bool.not_false, if_true, if_false, ite_true, ite_false, Nat.reduceEqDiff, Nat.reduceLT, true_and, List.map_cons, List.map_nil, Nat.zero_add, Nat.reduceBEq, ll]
 refine loop_rule2 (fun m vs σ' => ∃ k, k ≤ t.length ∧ m = t.length - k ∧ vs = [l, .func f [] [], .int .i64 t.length, .int .i64 k] ∧ Grows σ σ' ∧ ∀ (j : Nat) (hj : j < t.length), j < k → p t[j] = false) [4]
  (fun e vs σ' => Grows σ σ' ∧ ((e = .exit 0 ∧ t.any p = false) ∨ (e = .ret ∧ t.any p = true ∧ ∃ k : Nat, vs = [.int .i64 k]))) t.length ⟨0, Nat.zero_le _, rfl, ?_, Keeps.refl _ _, fun j _ h => by omega⟩ ?_ ?_
 ·simp -dsimp only [↓WPd, ↓wpC_block, ↓wpC_cond, WPu, Bool.false_eq_true, Bool.true_eq_false, Bool.not_true, Bool.not_false, if_true, if_false, ite_true, ite_false, Nat.reduceEqDiff, Nat.reduceLT, true_and, List.map_cons, List.map_nil, Nat.zero_add, Nat.reduceBEq]; rfl
 ·rintro m vs σ' ⟨k, hk, rfl, rfl, g, hall⟩
  simp -dsimp only [↓WPd, ↓wpC_block, ↓wpC_cond, WPu, Bool.false_eq_true, Bool.true_eq_false, Bool.not_true, Bool.not_false, if_true, if_false, ite_true, ite_false, Nat.reduceEqDiff, Nat.reduceLT, true_and, List.map_cons, List.map_nil, Nat.zero_add, Nat.reduceBEq]
  refine condP_dec (fun h => ?_) (fun h => ?_)
  ·have hk' : k < t.length := by omega
   have hi : k < (t.map Cel.val).length := by rw [List.length_map]; exact hk'
   have hl' := hl.grow g
   have ha := hl'.loadA hi (cs := (t[k]).cs) (by rw [cel_get]; rfl)
   have ha5 : loadV σ' 5 true (addrOf 5 l k) = some (t[k]).val := ha
   simp -dsimp only [↓WPd, ↓wpC_block, ↓wpC_cond, WPu, Bool.false_eq_true, Bool.true_eq_false, Bool.not_true, Bool.not_false, if_true, if_false, ite_true, ite_false, Nat.reduceEqDiff, Nat.reduceLT, true_and, List.map_cons, List.map_nil, Nat.zero_add, Nat.reduceBEq, hl'.iaddr hi, ha5]
   refine calledW_of (hf t[k] σ' (List.getElem_mem _)) ?_
   rintro v σ'' ⟨rfl, g2⟩
   simp -dsimp only [↓WPd, ↓wpC_block, ↓wpC_cond, WPu, Bool.false_eq_true, Bool.true_eq_false, Bool.not_true, Bool.not_false, if_true, if_false, ite_true, ite_false, Nat.reduceEqDiff, Nat.reduceLT, true_and, List.map_cons, List.map_nil, Nat.zero_add, Nat.reduceBEq]
   refine condP_intro (fun h => ?_) (fun h => ?_)
   ·simp -dsimp only [↓WPd, ↓wpC_block, ↓wpC_cond, WPu, Bool.false_eq_true, Bool.true_eq_false, Bool.not_true, Bool.not_false, if_true, if_false, ite_true, ite_false, Nat.reduceEqDiff, Nat.reduceLT, true_and, List.map_cons, List.map_nil, Nat.zero_add, Nat.reduceBEq]
    exact ⟨g.trans g2, .inr ⟨by rw [List.any_eq_true]; exact ⟨_, List.getElem_mem _, h⟩, k, rfl⟩⟩
   ·simp -dsimp only [↓WPd, ↓wpC_block, ↓wpC_cond, WPu, Bool.false_eq_true, Bool.true_eq_false, Bool.not_true, Bool.not_false, if_true, if_false, ite_true, ite_false, Nat.reduceEqDiff, Nat.reduceLT, true_and, List.map_cons, List.map_nil, Nat.zero_add, Nat.reduceBEq]
    refine ⟨t.length - (k + 1), by omega, k + 1, by omega, rfl, by rw [wrap_i64 (by omega) (by omega), Int.natCast_add, Int.natCast_one], g.trans g2, fun j hj hjk => ?_⟩
    by_cases e : j = k
    ·subst e; exact h
    ·exact hall j hj (by omega)
  ·simp -dsimp only [↓WPd, ↓wpC_block, ↓wpC_cond, WPu, Bool.false_eq_true, Bool.true_eq_false, Bool.not_true, Bool.not_false, if_true, if_false, ite_true, ite_false, Nat.reduceEqDiff, Nat.reduceLT, true_and, List.map_cons, List.map_nil, Nat.zero_add, Nat.reduceBEq]
   refine ⟨g, .inl ?_⟩
   rw [List.any_eq_false]
   intro x hx
   obtain ⟨j, hj, rfl⟩ := List.getElem_of_mem hx
   rw [hall j hj (by omega)]; simp
 ·rintro e σ' env ⟨g, ⟨rfl, hno⟩ | ⟨rfl, hyes, k, hv⟩⟩
  ·simp -dsimp only [↓WPd, ↓wpC_block, ↓wpC_cond, WPu, Bool.false_eq_true, Bool.true_eq_false, Bool.not_true, Bool.not_false, if_true, if_false, ite_true, ite_false, Nat.reduceEqDiff, Nat.reduceLT, true_and, List.map_cons, List.map_nil, Nat.zero_add, Nat.reduceBEq]
   exact ⟨⟨_, rfl, by rw [hno]; rfl⟩, g⟩
  ·simp only [List.map_cons, List.map_nil, List.cons.injEq, and_true] at hv
   simp -dsimp only [↓WPd, ↓wpC_block, ↓wpC_cond, WPu, Bool.false_eq_true, Bool.true_eq_false, Bool.not_true, Bool.not_false, if_true, if_false, ite_true, ite_false, Nat.reduceEqDiff, Nat.reduceLT, true_and, List.map_cons, List.map_nil, Nat.zero_add, Nat.reduceBEq, hv]
   exact ⟨⟨_, rfl, by rw [hyes]; simp⟩, g⟩
theorem ccontains_ok (f : FuncId) (p : Cel → Bool) (l : AVal) (t : List Cel) (hx : t.length < 2 ^ 40) (hl : SlOf σ 5 l (t.map Cel.val)) (hf : ∀ (c : Cel) (σ' : Store), c ∈ t → Called CU.cfg d f [c.val] σ' fun v σ'' => v = .bool (p c) ∧ Grows σ' σ'') :
  Called CU.cfg d 67 [l, .func f [] []] σ fun v σ' => v = .bool (t.any p) ∧ Grows σ σ' := by
 refine called_of (fn := CU.a67) rfl (Nat.le_of_ble_eq_true rfl) ?_
 simp only [CU.a67]
 simp -dsimp only [↓WPd, ↓wpC_block, ↓wpC_cond, WPu, Bool.false_eq_true, Bool.true_eq_false, Bool.not_true, Bool.not_false, if_true, if_false, ite_true, ite_false, Nat.reduceEqDiff, Nat.reduceLT, true_and, List.map_cons, List.map_nil, Nat.zero_add, Nat.reduceBEq]
 refine calledW_of (cindex_ok d σ f p l t hx hl hf) ?_
 rintro v σ1 ⟨⟨i, rfl, hi⟩, g⟩
 simp -dsimp only [↓WPd, ↓wpC_block, ↓wpC_cond, WPu, Bool.false_eq_true, Bool.true_eq_false, Bool.not_true, Bool.not_false, if_true, if_false, ite_true, ite_false, Nat.reduceEqDiff, Nat.reduceLT, true_and, List.map_cons, List.map_nil, Nat.zero_add, Nat.reduceBEq]
 have : decide (i ≥ 0) = t.any p := hi
 rw [this]
 exact ⟨rfl, g⟩
end
def endT (t : List Cel) (a : Nat) : Nat := if a < t.length then endAt t.length (t.drop a) 1 a else 0
theorem endAt_get {L : Nat} {t : List Cel} {a o : Nat} (h : a < t.length) : endAt L (t.drop a) (o + 1) a = if L < (t[a]).parts then 0 else endAt L (t.drop (a + 1)) (o + (t[a]).parts) (a + 1) := by
 rw [List.drop_eq_getElem_cons h, endAt_cons]
theorem endAt_out {L : Nat} {t : List Cel} {a o : Nat} (h : t.length ≤ a) : endAt L (t.drop a) (o + 1) a = 0 := by
 rw [List.drop_eq_nil_of_le h, endAt_nil]
section
variable (d : Nat) (σ : Store)
theorem parts_ok (c : Cel) : Called CU.cfg d 91 [c.val] σ fun v σ' => v = .int .i64 (c.parts : Int) ∧ Grows σ σ' := by
 refine called_of (fn := CU.a91) rfl (Nat.le_of_ble_eq_true rfl) ?_
 simp only [CU.a91]
 simp -dsimp only [↓WPd, ↓wpC_block, ↓wpC_cond, WPu, Bool.false_eq_true, Bool.true_eq_false, Bool.not_true, Bool.not_false, if_true, if_false, ite_true, ite_false, Nat.reduceEqDiff, Nat.reduceLT, true_and, List.map_cons, List.map_nil, Nat.zero_add, Nat.reduceBEq, Cel.cells, Cel.one]
 have ho : (σ ++ [AObj.cells c.cs])[σ.length]? = some (.cells c.cs) := by simp
 have g0 : Grows σ (σ ++ [AObj.cells c.cs]) := Grows.app _ _
 generalize σ ++ [AObj.cells c.cs] = σ1 at ho g0
 have hm : foldV maxV (.int .i64 c.n) [.int .i64 0] = some (.int .i64 (c.n.toNat : Int)) := by
  by_cases h : c.n < 0
  ·simp [foldV, maxV]; omega
  ·simp [foldV, maxV]; omega
 have key : ((c.k : Int) != 3) = !decide (c.k = 3) := by
  by_cases h : c.k = 3 <;> simp [h, bne] <;> omega
 simp -dsimp only [↓WPd, ↓wpC_block, ↓wpC_cond, WPu, Bool.false_eq_true, Bool.true_eq_false, Bool.not_true, Bool.not_false, if_true, if_false, ite_true, ite_false, Nat.reduceEqDiff, Nat.reduceLT, true_and, List.map_cons, List.map_nil, Nat.zero_add, Nat.reduceBEq, WPm, faddr_ptr, load_cells ho, Cel.g0, Cel.g2, key]
 refine condP_intro (fun h => ?_) (fun h => ?_)
 ·have : c.parts = 0 := by simp only [Bool.not_eq_true', decide_eq_false_iff_not] at h; simp [Cel.parts, h]
  simp -dsimp only [↓WPd, ↓wpC_block, ↓wpC_cond, WPu, Bool.false_eq_true, Bool.true_eq_false, Bool.not_true, Bool.not_false, if_true, if_false, ite_true, ite_false, Nat.reduceEqDiff, Nat.reduceLT, true_and, List.map_cons, List.map_nil, Nat.zero_add, Nat.reduceBEq, this]
  exact ⟨rfl, g0⟩
 ·have : c.parts = c.n.toNat := by simp only [Bool.not_eq_false', decide_eq_true_eq] at h; simp [Cel.parts, h]
  simp -dsimp only [↓WPd, ↓wpC_block, ↓wpC_cond, WPu, Bool.false_eq_true, Bool.true_eq_false, Bool.not_true, Bool.not_false, if_true, if_false, ite_true, ite_false, Nat.reduceEqDiff, Nat.reduceLT, true_and, List.map_cons, List.map_nil, Nat.zero_add, Nat.reduceBEq, faddr_ptr, load_cells ho, Cel.g0, Cel.g2, this, hm]
  exact g0
theorem end_ok (l : AVal) (t : List Cel) (a : Nat) (hx : t.length < 2 ^ 30) (hl : SlOf σ 5 l (t.map Cel.val)) : Called CU.cfg d 72 [l, .int .i64 a] σ fun v σ' => v = .int .i64 (endT t a : Int) ∧ Grows σ σ' := by
 refine called_of (fn := CU.a72) rfl (Nat.le_of_ble_eq_true rfl) ?_
 have ll := hl.len
 rw [List.length_map] at ll
 simp only [CU.a72]
 have w0 : lenSV l = some t.length := ll
 simp -dsimp only [↓WPd, ↓wpC_block, ↓wpC_cond, WPu, Bool.false_eq_true, Bool.true_eq_false, Bool.not_true, Bool.not_false, if_true, if_false, ite_true, ite_false, Nat.reduceEqDiff, Nat.reduceLT, true_and, List.map_cons, List.map_nil, Nat.zero_add, Nat.reduceBEq, WPm, ll]
 have key : (decide ((a : Int) < 0) || decide ((a : Int) ≥ (t.length : Int))) = !decide (a < t.length) := by
  rw [Bool.eq_iff_iff]; simp; omega
 rw [key]
 refine condP_intro (fun h => ?_) (fun h => ?_)
 ·have : endT t a = 0 := by simp only [Bool.not_eq_true', decide_eq_false_iff_not] at h; simp [endT, h]
  simp -dsimp only [↓WPd, ↓wpC_block, ↓wpC_cond, WPu, Bool.false_eq_true, Bool.true_eq_false, Bool.not_true, Bool.not_false, if_true, if_false, ite_true, ite_false, Nat.reduceEqDiff, Nat.reduceLT, true_and, List.map_cons, List.map_nil, Nat.zero_add, Nat.reduceBEq, this]
  exact ⟨rfl, Keeps.refl _ _⟩
 ·simp only [Bool.not_eq_false', decide_eq_true_eq] at h
  have hend : endT t a = endAt t.length (t.drop a) 1 a := by simp [endT, h]
  simp -dsimp only [↓WPd, ↓wpC_block, ↓wpC_cond, WPu, Bool.false_eq_true, Bool.true_eq_false, Bool.not_true, Bool.not_false, if_true, if_false, ite_true, ite_false, Nat.reduceEqDiff, Nat.reduceLT, true_and, List.map_cons, List.map_nil, Nat.zero_add, Nat.reduceBEq]
  refine loop_rule2 (fun m vs σ' => ∃ k o : Nat, k ≤ t.length ∧ m = t.length + 1 - k ∧ vs = [l, .int .i64 k, .int .i64 o] ∧ Grows σ σ' ∧ endAt t.length (t.drop k) o k = endT t a ∧ o ≤ 1 + k * t.length ∧ 0 < k + o) [1, 4]
   (fun e vs σ' => Grows σ σ' ∧ ((e = .exit 0 ∧ ∃ x, vs = [.int .i64 (endT t a : Int), x]) ∨ (e = .ret ∧ (∃ x, vs = [x, .int .i64 (endT t a : Int)])))) (t.length + 1 - a) ⟨a, 1, by omega, rfl, ?_, Keeps.refl _ _, hend.symm, by omega, by omega⟩ ?_ ?_
  ·simp -dsimp only [↓WPd, ↓wpC_block, ↓wpC_cond, WPu, Bool.false_eq_true, Bool.true_eq_false, Bool.not_true, Bool.not_false, if_true, if_false, ite_true, ite_false, Nat.reduceEqDiff, Nat.reduceLT, true_and, List.map_cons, List.map_nil, Nat.zero_add, Nat.reduceBEq]; rfl
  ·rintro m vs σ' ⟨k, o, hk, rfl, rfl, g, he, ho, hko⟩
   have hmul : k * t.length ≤ 2 ^ 60 := by
    calc k * t.length ≤ 2 ^ 30 * 2 ^ 30 := Nat.mul_le_mul (by omega) (by omega)
     _ = 2 ^ 60 := by decide
   simp -dsimp only [↓WPd, ↓wpC_block, ↓wpC_cond, WPu, Bool.false_eq_true, Bool.true_eq_false, Bool.not_true, Bool.not_false, if_true, if_false, ite_true, ite_false, Nat.reduceEqDiff, Nat.reduceLT, true_and, List.map_cons, List.map_nil, Nat.zero_add, Nat.reduceBEq]
   refine condP_dec (fun h => ?_) (fun h => ?_)
   ·obtain ⟨o, rfl⟩ : ∃ o', o = o' + 1 := ⟨o - 1, by omega⟩
    have ke : ((k : Int) == (t.length : Int)) = decide (k = t.length) := by
     by_cases h : k = t.length <;> simp [h] <;> omega
    have ll' := (hl.grow g).len
    rw [List.length_map] at ll'
    simp -dsimp only [↓WPd, ↓wpC_block, ↓wpC_cond, WPu, Bool.false_eq_true, Bool.true_eq_false, Bool.not_true, Bool.not_false, if_true, if_false, ite_true, ite_false, Nat.reduceEqDiff, Nat.reduceLT, true_and, List.map_cons, List.map_nil, Nat.zero_add, Nat.reduceBEq, ll', ke]
    by_cases hkl : k = t.length
    ·have hz : endT t a = 0 := by rw [← he, endAt_out (by omega)]
     simp -dsimp only [↓WPd, ↓wpC_block, ↓wpC_cond, WPu, Bool.false_eq_true, Bool.true_eq_false, Bool.not_true, Bool.not_false, if_true, if_false, ite_true, ite_false, Nat.reduceEqDiff, Nat.reduceLT, true_and, List.map_cons, List.map_nil, Nat.zero_add, Nat.reduceBEq, WPm, decide_eq_true hkl]
     exact ⟨g, .inr ⟨_, by rw [hz]; rfl⟩⟩
    ·have hk' : k < t.length := by omega
     have hi : k < (t.map Cel.val).length := by rw [List.length_map]; exact hk'
     have hl' := hl.grow g
     have ha5 : loadV σ' 5 true (addrOf 5 l k) = some (t[k]).val := hl'.loadA hi (cs := (t[k]).cs) (by rw [cel_get]; rfl)
     simp -dsimp only [↓WPd, ↓wpC_block, ↓wpC_cond, WPu, Bool.false_eq_true, Bool.true_eq_false, Bool.not_true, Bool.not_false, if_true, if_false, ite_true, ite_false, Nat.reduceEqDiff, Nat.reduceLT, true_and, List.map_cons, List.map_nil, Nat.zero_add, Nat.reduceBEq, decide_eq_false hkl, hl'.iaddr hi, ha5]
     refine calledW_of (parts_ok d σ' t[k]) ?_
     rintro v σ2 ⟨rfl, g2⟩
     have ll2 := (hl'.grow g2).len
     rw [List.length_map] at ll2
     have hl2 := hl'.grow g2
     have ha2 : loadV σ2 5 true (addrOf 5 l k) = some (t[k]).val := hl2.loadA hi (cs := (t[k]).cs) (by rw [cel_get]; rfl)
     simp -dsimp only [↓WPd, ↓wpC_block, ↓wpC_cond, WPu, Bool.false_eq_true, Bool.true_eq_false, Bool.not_true, Bool.not_false, if_true, if_false, ite_true, ite_false, Nat.reduceEqDiff, Nat.reduceLT, true_and, List.map_cons, List.map_nil, Nat.zero_add, Nat.reduceBEq, ll2]
     rw [endAt_get hk'] at he
     refine condP_dec (fun h2 => ?_) (fun h2 => ?_)
     ·rw [if_pos (by omega)] at he
      simp -dsimp only [↓WPd, ↓wpC_block, ↓wpC_cond, WPu, Bool.false_eq_true, Bool.true_eq_false, Bool.not_true, Bool.not_false, if_true, if_false, ite_true, ite_false, Nat.reduceEqDiff, Nat.reduceLT, true_and, List.map_cons, List.map_nil, Nat.zero_add, Nat.reduceBEq]
      exact ⟨g.trans g2, .inr ⟨_, by rw [← he]; rfl⟩⟩
     ·rw [if_neg (by omega)] at he
      simp -dsimp only [↓WPd, ↓wpC_block, ↓wpC_cond, WPu, Bool.false_eq_true, Bool.true_eq_false, Bool.not_true, Bool.not_false, if_true, if_false, ite_true, ite_false, Nat.reduceEqDiff, Nat.reduceLT, true_and, List.map_cons, List.map_nil, Nat.zero_add, Nat.reduceBEq, hl2.iaddr hi, ha2]
      refine calledW_of (parts_ok d σ2 t[k]) ?_
      rintro v σ3 ⟨rfl, g3⟩
      have hp : (t[k]).parts ≤ t.length := by omega
      have hm2 : (k + 1) * t.length = k * t.length + t.length := by rw [Nat.add_mul, Nat.one_mul]
      have w1 : IntKind.i64.wrap (((t[k]).parts : Int) - 1) = ((t[k]).parts : Int) - 1 := wrap_i64 (by omega) (by omega)
      have w2 : IntKind.i64.wrap (((o + 1 : Nat) : Int) + (((t[k]).parts : Int) - 1)) = ((o + (t[k]).parts : Nat) : Int) := by rw [wrap_i64 (by omega) (by omega)]; omega
      have w3 : IntKind.i64.wrap ((k : Int) + 1) = ((k + 1 : Nat) : Int) := by rw [wrap_i64 (by omega) (by omega)]; omega
      simp -dsimp only [↓WPd, ↓wpC_block, ↓wpC_cond, WPu, Bool.false_eq_true, Bool.true_eq_false, Bool.not_true, Bool.not_false, if_true, if_false, ite_true, ite_false, Nat.reduceEqDiff, Nat.reduceLT, true_and, List.map_cons, List.map_nil, Nat.zero_add, Nat.reduceBEq, w1, w2, w3]
      exact ⟨t.length + 1 - (k + 1), by omega, k + 1, o + (t[k]).parts, by omega, rfl, rfl, (g.trans g2).trans g3, he, by omega, by omega⟩
   ·have : o = 0 := by omega
    subst this
    rw [endAt_zero] at he
    simp -dsimp only [↓WPd, ↓wpC_block, ↓wpC_cond, WPu, Bool.false_eq_true, Bool.true_eq_false, Bool.not_true, Bool.not_false, if_true, if_false, ite_true, ite_false, Nat.reduceEqDiff, Nat.reduceLT, true_and, List.map_cons, List.map_nil, Nat.zero_add, Nat.reduceBEq]
    exact ⟨g, .inl ⟨_, by rw [← he]⟩⟩
  ·rintro e σ' env ⟨g, ⟨rfl, x, hv⟩ | ⟨rfl, x, hv⟩⟩
   ·simp only [List.map_cons, List.map_nil, List.cons.injEq, and_true] at hv
    simp -dsimp only [↓WPd, ↓wpC_block, ↓wpC_cond, WPu, Bool.false_eq_true, Bool.true_eq_false, Bool.not_true, Bool.not_false, if_true, if_false, ite_true, ite_false, Nat.reduceEqDiff, Nat.reduceLT, true_and, List.map_cons, List.map_nil, Nat.zero_add, Nat.reduceBEq, hv]
    exact g
   ·simp only [List.map_cons, List.map_nil, List.cons.injEq, and_true] at hv
    simp -dsimp only [↓WPd, ↓wpC_block, ↓wpC_cond, WPu, Bool.false_eq_true, Bool.true_eq_false, Bool.not_true, Bool.not_false, if_true, if_false, ite_true, ite_false, Nat.reduceEqDiff, Nat.reduceLT, true_and, List.map_cons, List.map_nil, Nat.zero_add, Nat.reduceBEq, hv]
    exact g
theorem endT_zero {t : List Cel} (h : t ≠ []) : endT t 0 = endAt t.length t 1 0 := by
 have := List.length_pos_iff.2 h
 simp [endT, this]
theorem right_eq (t : List Cel) : right t = (!(decide (t.length = 0) || decide (256 < t.length) || decide (endT t 0 ≠ t.length)) && !(t.any fun c => !c.ok)) := by
 cases t with
 | nil => rfl
 | cons c r =>
  rw [endT_zero (by simp), Bool.eq_iff_iff]
  simp [right]
  first
   | done
   | (intros; omega)
   | (constructor <;> intro h <;> simp_all <;> omega)
theorem right_ok (l : AVal) (t : List Cel) (hx : t.length < 2 ^ 30) (hi : ∀ c ∈ t, c.k < 256 ∧ c.s.length < 2 ^ 40) (hl : SlOf σ 5 l (t.map Cel.val)) : Called CU.cfg d 47 [l] σ fun v σ' => v = .bool (right t) ∧ Grows σ σ' := by
 refine called_of (fn := CU.a47) rfl (Nat.le_of_ble_eq_true rfl) ?_
 have ll := hl.len
 rw [List.length_map] at ll
 simp only [CU.a47]
 have k0 : ((t.length : Int) == 0) = decide (t.length = 0) := by by_cases h : t.length = 0 <;> simp [h]
 have k1 : decide ((t.length : Int) > 256) = decide (256 < t.length) := decide_eq_decide.2 (by omega)
 simp -dsimp only [↓WPd, ↓wpC_block, ↓wpC_cond, WPu, Bool.false_eq_true, Bool.true_eq_false, Bool.not_true, Bool.not_false, if_true, if_false, ite_true, ite_false, Nat.reduceEqDiff, Nat.reduceLT, true_and, List.map_cons, List.map_nil, Nat.zero_add, Nat.reduceBEq, WPm, ll, k0, k1]
 rw [right_eq]
 generalize hb : (decide (t.length = 0) || decide (256 < t.length)) = b
 cases b
 ·simp -dsimp only [↓WPd, ↓wpC_block, ↓wpC_cond, WPu, Bool.false_eq_true, Bool.true_eq_false, Bool.not_true, Bool.not_false, if_true, if_false, ite_true, ite_false, Nat.reduceEqDiff, Nat.reduceLT, true_and, List.map_cons, List.map_nil, Nat.zero_add, Nat.reduceBEq, WPm]
  refine calledW_of (end_ok d σ l t 0 hx hl) ?_
  rintro v σ1 ⟨rfl, g⟩
  have hl1 := hl.grow g
  have ll1 := hl1.len
  rw [List.length_map] at ll1
  have k2 : (((endT t 0 : Nat) : Int) != (t.length : Int)) = decide (endT t 0 ≠ t.length) := by by_cases h : endT t 0 = t.length <;> simp [h, bne] <;> omega
  simp -dsimp only [↓WPd, ↓wpC_block, ↓wpC_cond, WPu, Bool.false_eq_true, Bool.true_eq_false, Bool.not_true, Bool.not_false, if_true, if_false, ite_true, ite_false, Nat.reduceEqDiff, Nat.reduceLT, true_and, List.map_cons, List.map_nil, Nat.zero_add, Nat.reduceBEq, WPm, ll1, k2]
  generalize hq : decide (endT t 0 ≠ t.length) = q
  cases q
  ·simp -dsimp only [↓WPd, ↓wpC_block, ↓wpC_cond, WPu, Bool.false_eq_true, Bool.true_eq_false, Bool.not_true, Bool.not_false, if_true, if_false, ite_true, ite_false, Nat.reduceEqDiff, Nat.reduceLT, true_and, List.map_cons, List.map_nil, Nat.zero_add, Nat.reduceBEq, WPm]
   refine calledW_of (ccontains_ok d σ1 _ (fun c => !c.ok) l t (by omega) hl1 fun c σ' hc => wrong_ok d σ' c (hi c hc).1 (hi c hc).2) ?_
   rintro v σ2 ⟨rfl, g2⟩
   simp -dsimp only [↓WPd, ↓wpC_block, ↓wpC_cond, WPu, Bool.false_eq_true, Bool.true_eq_false, Bool.not_true, Bool.not_false, if_true, if_false, ite_true, ite_false, Nat.reduceEqDiff, Nat.reduceLT, true_and, List.map_cons, List.map_nil, Nat.zero_add, Nat.reduceBEq, WPm, Bool.or_false, Bool.true_and]
   exact g.trans g2
  ·simp -dsimp only [↓WPd, ↓wpC_block, ↓wpC_cond, WPu, Bool.false_eq_true, Bool.true_eq_false, Bool.not_true, Bool.not_false, if_true, if_false, ite_true, ite_false, Nat.reduceEqDiff, Nat.reduceLT, true_and, List.map_cons, List.map_nil, Nat.zero_add, Nat.reduceBEq, WPm, Bool.or_true, Bool.false_and]
   exact g
 ·simp -dsimp only [↓WPd, ↓wpC_block, ↓wpC_cond, WPu, Bool.false_eq_true, Bool.true_eq_false, Bool.not_true, Bool.not_false, if_true, if_false, ite_true, ite_false, Nat.reduceEqDiff, Nat.reduceLT, true_and, List.map_cons, List.map_nil, Nat.zero_add, Nat.reduceBEq, WPm, Bool.true_or, Bool.false_and]
  exact Keeps.refl _ _
end
section
variable (d : Nat) (σ : Store)
theorem int_beq (a b : Int) : (a == b) = decide (a = b) := by by_cases h : a = b <;> simp [h]
theorem nil_text (s : List UInt8) : sopV .eql (.str s) (.str []) = some (.bool (decide (s = []))) := by cases s <;> simp [sopV]
set_option maxHeartbeats 1000000 in
theorem cell_ok (c : Cel) : Called CU.cfg d 66 [c.val] σ fun v σ' => v = .bool c.ok ∧ Grows σ σ' := by
 refine called_of (fn := CU.a66) rfl (Nat.le_of_ble_eq_true rfl) ?_
 simp only [CU.a66]
 simp -dsimp only [↓WPd, ↓wpC_block, ↓wpC_cond, WPu, Bool.false_eq_true, Bool.true_eq_false, Bool.not_true, Bool.not_false, if_true, if_false, ite_true, ite_false, Nat.reduceEqDiff, Nat.reduceLT, true_and, List.map_cons, List.map_nil, Nat.zero_add, Nat.reduceBEq, Cel.cells, Cel.one]
 have ho : (σ ++ [AObj.cells c.cs])[σ.length]? = some (.cells c.cs) := by simp
 have g0 : Grows σ (σ ++ [AObj.cells c.cs]) := Grows.app _ _
 generalize σ ++ [AObj.cells c.cs] = σ1 at ho g0
 have l2 : loadV σ1 2 true (.ptr σ.length 3) = some (.agg [.int .i64 c.v.1, .int .i64 c.v.2]) := by simp [loadV, behind, ho, Cel.cs]
 have hz : fillA [AVal.int IntKind.i64 0, AVal.int IntKind.i64 0] [] = some [.int .i64 0, .int .i64 0] := rfl
 have he : eqsV [.i, .i] (.agg [.int .i64 c.v.1, .int .i64 c.v.2]) (.agg [.int .i64 0, .int .i64 0]) = some (decide (c.v = (0, 0))) := by
  simp [eqsV, cellsEq]
  rw [Bool.eq_iff_iff]
  simp
  constructor
  ·intro h; exact Prod.ext h.1 h.2
  ·intro h; rw [h]; exact ⟨rfl, rfl⟩
 have kq : ∀ j : Nat, ((c.k : Int) == (j : Int)) = decide (c.k = j) := by
  intro j
  by_cases h : c.k = j <;> simp [h] <;> omega
 have k1 : ((c.k : Int) == 1) = decide (c.k = 1) := kq 1
 have k2 : ((c.k : Int) == 2) = decide (c.k = 2) := kq 2
 have k3 : ((c.k : Int) == 3) = decide (c.k = 3) := kq 3
 have k4 : ((c.k : Int) == 4) = decide (c.k = 4) := kq 4
 simp -dsimp only [↓WPd, ↓wpC_block, ↓wpC_cond, WPu, Bool.false_eq_true, Bool.true_eq_false, Bool.not_true, Bool.not_false, if_true, if_false, ite_true, ite_false, Nat.reduceEqDiff, Nat.reduceLT, true_and, List.map_cons, List.map_nil, Nat.zero_add, Nat.reduceBEq, WPm, faddr_ptr, Nat.reduceAdd, Nat.add_zero, load_cells ho, Cel.g0, Cel.g1, Cel.g2, Cel.g3, Cel.g4, l2, hz, he, k1]
 refine condP_dec (fun h1 => ?_) (fun h1 => ?_)
 ·have hok : c.ok = (decide (c.s = []) && decide (c.v = (0, 0)) && decide (c.n ≥ -2147483648) && decide (c.n ≤ 2147483648)) := by simp [Cel.ok, h1]
  simp -dsimp only [↓WPd, ↓wpC_block, ↓wpC_cond, WPu, Bool.false_eq_true, Bool.true_eq_false, Bool.not_true, Bool.not_false, if_true, if_false, ite_true, ite_false, Nat.reduceEqDiff, Nat.reduceLT, true_and, List.map_cons, List.map_nil, Nat.zero_add, Nat.reduceBEq, WPm, faddr_ptr, Nat.reduceAdd, Nat.add_zero, load_cells ho, Cel.g0, Cel.g1, Cel.g2, Cel.g3, Cel.g4, nil_text]
  rw [hok]
  exact ⟨rfl, g0⟩
 simp -dsimp only [↓WPd, ↓wpC_block, ↓wpC_cond, WPu, Bool.false_eq_true, Bool.true_eq_false, Bool.not_true, Bool.not_false, if_true, if_false, ite_true, ite_false, Nat.reduceEqDiff, Nat.reduceLT, true_and, List.map_cons, List.map_nil, Nat.zero_add, Nat.reduceBEq, k2]
 refine condP_dec (fun h2 => ?_) (fun h2 => ?_)
 ·have hok : c.ok = (isName c.s && decide (c.v = (0, 0)) && (c.n == 0)) := by simp [Cel.ok, h2, int_beq]
  simp -dsimp only [↓WPd, ↓wpC_block, ↓wpC_cond, WPu, Bool.false_eq_true, Bool.true_eq_false, Bool.not_true, Bool.not_false, if_true, if_false, ite_true, ite_false, Nat.reduceEqDiff, Nat.reduceLT, true_and, List.map_cons, List.map_nil, Nat.zero_add, Nat.reduceBEq, WPm, faddr_ptr, load_cells ho, Cel.g0, Cel.g1, Cel.g2, Cel.g3, Cel.g4, nil_text]
  refine calledW_of (risname_ok d σ1 c.s) ?_
  rintro v σ2 ⟨rfl, rfl⟩
  simp -dsimp only [↓WPd, ↓wpC_block, ↓wpC_cond, WPu, Bool.false_eq_true, Bool.true_eq_false, Bool.not_true, Bool.not_false, if_true, if_false, ite_true, ite_false, Nat.reduceEqDiff, Nat.reduceLT, true_and, List.map_cons, List.map_nil, Nat.zero_add, Nat.reduceBEq, WPm, faddr_ptr, load_cells ho, Cel.g0, Cel.g1, Cel.g2, Cel.g3, Cel.g4, nil_text]
  rw [hok]
  exact ⟨rfl, g0⟩
 simp -dsimp only [↓WPd, ↓wpC_block, ↓wpC_cond, WPu, Bool.false_eq_true, Bool.true_eq_false, Bool.not_true, Bool.not_false, if_true, if_false, ite_true, ite_false, Nat.reduceEqDiff, Nat.reduceLT, true_and, List.map_cons, List.map_nil, Nat.zero_add, Nat.reduceBEq, k3]
 refine condP_dec (fun h3 => ?_) (fun h3 => ?_)
 ·have hok : c.ok = (decide (c.v = (0, 0)) && ((isName c.s && decide (c.n ≥ 1) && decide (c.n ≤ 8)) || (signsL.contains c.s && (c.n == 2)))) := by simp [Cel.ok, h3, int_beq]
  rw [hok]
  generalize hb : decide (c.v = (0, 0)) = b at *
  cases b
  ·simp -dsimp only [↓WPd, ↓wpC_block, ↓wpC_cond, WPu, Bool.false_eq_true, Bool.true_eq_false, Bool.not_true, Bool.not_false, if_true, if_false, ite_true, ite_false, Nat.reduceEqDiff, Nat.reduceLT, true_and, List.map_cons, List.map_nil, Nat.zero_add, Nat.reduceBEq, WPm, Bool.false_and]
   exact g0
  ·simp -dsimp only [↓WPd, ↓wpC_block, ↓wpC_cond, WPu, Bool.false_eq_true, Bool.true_eq_false, Bool.not_true, Bool.not_false, if_true, if_false, ite_true, ite_false, Nat.reduceEqDiff, Nat.reduceLT, true_and, List.map_cons, List.map_nil, Nat.zero_add, Nat.reduceBEq, WPm, faddr_ptr, load_cells ho, Cel.g0, Cel.g1, Cel.g2, Cel.g3, Cel.g4, nil_text]
   refine calledW_of (risname_ok d σ1 c.s) ?_
   rintro v σ2 ⟨rfl, rfl⟩
   simp -dsimp only [↓WPd, ↓wpC_block, ↓wpC_cond, WPu, Bool.false_eq_true, Bool.true_eq_false, Bool.not_true, Bool.not_false, if_true, if_false, ite_true, ite_false, Nat.reduceEqDiff, Nat.reduceLT, true_and, List.map_cons, List.map_nil, Nat.zero_add, Nat.reduceBEq, WPm, faddr_ptr, load_cells ho, Cel.g0, Cel.g1, Cel.g2, Cel.g3, Cel.g4, nil_text]
   generalize hq : (isName c.s && decide (c.n ≥ 1) && decide (c.n ≤ 8)) = q
   cases q
   ·simp -dsimp only [↓WPd, ↓wpC_block, ↓wpC_cond, WPu, Bool.false_eq_true, Bool.true_eq_false, Bool.not_true, Bool.not_false, if_true, if_false, ite_true, ite_false, Nat.reduceEqDiff, Nat.reduceLT, true_and, List.map_cons, List.map_nil, Nat.zero_add, Nat.reduceBEq, WPm, faddr_ptr, load_cells ho, Cel.g0, Cel.g1, Cel.g2, Cel.g3, Cel.g4, nil_text]
    refine calledW_of (issign_ok d σ2 c.s) ?_
    rintro v σ3 ⟨rfl, g3⟩
    have ho3 := g3.get ho
    simp -dsimp only [↓WPd, ↓wpC_block, ↓wpC_cond, WPu, Bool.false_eq_true, Bool.true_eq_false, Bool.not_true, Bool.not_false, if_true, if_false, ite_true, ite_false, Nat.reduceEqDiff, Nat.reduceLT, true_and, List.map_cons, List.map_nil, Nat.zero_add, Nat.reduceBEq, WPm, faddr_ptr, load_cells ho3, Cel.g0, Cel.g1, Cel.g2, Cel.g3, Cel.g4, nil_text, Bool.false_or, Bool.true_and]
    exact g0.trans g3
   ·simp -dsimp only [↓WPd, ↓wpC_block, ↓wpC_cond, WPu, Bool.false_eq_true, Bool.true_eq_false, Bool.not_true, Bool.not_false, if_true, if_false, ite_true, ite_false, Nat.reduceEqDiff, Nat.reduceLT, true_and, List.map_cons, List.map_nil, Nat.zero_add, Nat.reduceBEq, WPm, Bool.true_or, Bool.true_and]
    exact g0
 simp -dsimp only [↓WPd, ↓wpC_block, ↓wpC_cond, WPu, Bool.false_eq_true, Bool.true_eq_false, Bool.not_true, Bool.not_false, if_true, if_false, ite_true, ite_false, Nat.reduceEqDiff, Nat.reduceLT, true_and, List.map_cons, List.map_nil, Nat.zero_add, Nat.reduceBEq, k4]
 refine condP_dec (fun h4 => ?_) (fun h4 => ?_)
 ·have hok : c.ok = (decide (c.s = []) && (c.n == 0) && decide (c.v.1 ≥ -1) && decide (c.v.1 ≤ 3) && decide (c.v.2 ≥ 0)) := by simp [Cel.ok, h4, int_beq]
  simp -dsimp only [↓WPd, ↓wpC_block, ↓wpC_cond, WPu, Bool.false_eq_true, Bool.true_eq_false, Bool.not_true, Bool.not_false, if_true, if_false, ite_true, ite_false, Nat.reduceEqDiff, Nat.reduceLT, true_and, List.map_cons, List.map_nil, Nat.zero_add, Nat.reduceBEq, WPm, faddr_ptr, Nat.reduceAdd, Nat.add_zero, load_cells ho, Cel.g0, Cel.g1, Cel.g2, Cel.g3, Cel.g4, nil_text]
  rw [hok]
  exact ⟨rfl, g0⟩
 ·have hok : c.ok = false := by simp [Cel.ok, h1, h2, h3, h4]
  simp -dsimp only [↓WPd, ↓wpC_block, ↓wpC_cond, WPu, Bool.false_eq_true, Bool.true_eq_false, Bool.not_true, Bool.not_false, if_true, if_false, ite_true, ite_false, Nat.reduceEqDiff, Nat.reduceLT, true_and, List.map_cons, List.map_nil, Nat.zero_add, Nat.reduceBEq]
  rw [hok]
  exact ⟨rfl, g0⟩
theorem rend_ok (l : AVal) (t : List Cel) (a : Nat) (hx : t.length < 2 ^ 30) (hl : SlOf σ 5 l (t.map Cel.val)) : Called CU.cfg d 86 [l, .int .i64 a] σ fun v σ' => v = .int .i64 (endT t a : Int) ∧ σ' = σ := by
 refine called_of (fn := CU.a86) rfl (Nat.le_of_ble_eq_true rfl) ?_
 have ll := hl.len
 rw [List.length_map] at ll
 simp only [CU.a86]
 simp -dsimp only [↓WPd, ↓wpC_block, ↓wpC_cond, WPu, Bool.false_eq_true, Bool.true_eq_false, Bool.not_true, Bool.not_false, if_true, if_false, ite_true, ite_false, Nat.reduceEqDiff, Nat.reduceLT, true_and, List.map_cons, List.map_nil, Nat.zero_add, Nat.reduceBEq, WPm, ll]
 have key : (decide ((a : Int) < 0) || decide ((a : Int) ≥ (t.length : Int))) = !decide (a < t.length) := by
  rw [Bool.eq_iff_iff]; simp; omega
 rw [key]
 refine condP_intro (fun h => ?_) (fun h => ?_)
 ·have : endT t a = 0 := by simp only [Bool.not_eq_true', decide_eq_false_iff_not] at h; simp [endT, h]
  simp -dsimp only [↓WPd, ↓wpC_block, ↓wpC_cond, WPu, Bool.false_eq_true, Bool.true_eq_false, Bool.not_true, Bool.not_false, if_true, if_false, ite_true, ite_false, Nat.reduceEqDiff, Nat.reduceLT, true_and, List.map_cons, List.map_nil, Nat.zero_add, Nat.reduceBEq, this]
  exact ⟨rfl, trivial⟩
 ·simp only [Bool.not_eq_false', decide_eq_true_eq] at h
  have hend : endT t a = endAt t.length (t.drop a) 1 a := by simp [endT, h]
  simp -dsimp only [↓WPd, ↓wpC_block, ↓wpC_cond, WPu, Bool.false_eq_true, Bool.true_eq_false, Bool.not_true, Bool.not_false, if_true, if_false, ite_true, ite_false, Nat.reduceEqDiff, Nat.reduceLT, true_and, List.map_cons, List.map_nil, Nat.zero_add, Nat.reduceBEq]
  refine loop_rule2 (fun m vs σ' => ∃ k o : Nat, k ≤ t.length ∧ m = t.length + 1 - k ∧ vs = [l, .int .i64 k, .int .i64 o] ∧ σ' = σ ∧ endAt t.length (t.drop k) o k = endT t a ∧ o ≤ 1 + k * t.length ∧ 0 < k + o) [1, 4]
   (fun e vs σ' => σ' = σ ∧ ((e = .exit 0 ∧ ∃ x, vs = [.int .i64 (endT t a : Int), x]) ∨ (e = .ret ∧ (∃ x, vs = [x, .int .i64 (endT t a : Int)])))) (t.length + 1 - a) ⟨a, 1, by omega, rfl, ?_, rfl, hend.symm, by omega, by omega⟩ ?_ ?_
  ·simp -dsimp only [↓WPd, ↓wpC_block, ↓wpC_cond, WPu, Bool.false_eq_true, Bool.true_eq_false, Bool.not_true, Bool.not_false, if_true, if_false, ite_true, ite_false, Nat.reduceEqDiff, Nat.reduceLT, true_and, List.map_cons, List.map_nil, Nat.zero_add, Nat.reduceBEq]; rfl
  ·rintro m vs σ' ⟨k, o, hk, rfl, rfl, rfl, he, ho, hko⟩
   have hmul : k * t.length ≤ 2 ^ 60 := by
    calc k * t.length ≤ 2 ^ 30 * 2 ^ 30 := Nat.mul_le_mul (by omega) (by omega)
     _ = 2 ^ 60 := by decide
   simp -dsimp only [↓WPd, ↓wpC_block, ↓wpC_cond, WPu, Bool.false_eq_true, Bool.true_eq_false, Bool.not_true, Bool.not_false, if_true, if_false, ite_true, ite_false, Nat.reduceEqDiff, Nat.reduceLT, true_and, List.map_cons, List.map_nil, Nat.zero_add, Nat.reduceBEq]
   refine condP_dec (fun h => ?_) (fun h => ?_)
   ·obtain ⟨o, rfl⟩ : ∃ o', o = o' + 1 := ⟨o - 1, by omega⟩
    simp -dsimp only [↓WPd, ↓wpC_block, ↓wpC_cond, WPu, Bool.false_eq_true, Bool.true_eq_false, Bool.not_true, Bool.not_false, if_true, if_false, ite_true, ite_false, Nat.reduceEqDiff, Nat.reduceLT, true_and, List.map_cons, List.map_nil, Nat.zero_add, Nat.reduceBEq, ll]
    refine condP_dec (fun hkl => ?_) (fun hkl => ?_)
    ·have hz : endT t a = 0 := by rw [← he, endAt_out (by omega)]
     simp -dsimp only [↓WPd, ↓wpC_block, ↓wpC_cond, WPu, Bool.false_eq_true, Bool.true_eq_false, Bool.not_true, Bool.not_false, if_true, if_false, ite_true, ite_false, Nat.reduceEqDiff, Nat.reduceLT, true_and, List.map_cons, List.map_nil, Nat.zero_add, Nat.reduceBEq, WPm]
     exact .inr ⟨_, by rw [hz]; rfl⟩
    ·have hk' : k < t.length := by omega
     have hi : k < (t.map Cel.val).length := by rw [List.length_map]; exact hk'
     have hb := (hl.addr hi .i64).2
     rw [cel_get] at hb
     obtain ⟨q0, p0, r0⟩ := faddr_load hb 0
     obtain ⟨q2, p2, r2⟩ := faddr_load hb 2
     have r0' : loadV σ' 1 false q0 = some (.int .u8 (t[k]).k) := r0
     have r2' : loadV σ' 1 false q2 = some (.int .i64 (t[k]).n) := r2
     rw [endAt_get hk'] at he
     have kq : (((t[k]).k : Int) == 3) = decide ((t[k]).k = 3) := by
      by_cases h : (t[k]).k = 3 <;> simp [h] <;> omega
     have w1 : IntKind.i64.wrap (((o + 1 : Nat) : Int) - 1) = (o : Int) := by rw [wrap_i64 (by omega) (by omega)]; omega
     have w3 : IntKind.i64.wrap ((k : Int) + 1) = ((k + 1 : Nat) : Int) := by rw [wrap_i64 (by omega) (by omega)]; omega
     have hm2 : (k + 1) * t.length = k * t.length + t.length := by rw [Nat.add_mul, Nat.one_mul]
     have e1 : ((o + 1 : Nat) : Int) = (o : Int) + 1 := by omega
     simp -dsimp only [↓WPd, ↓wpC_block, ↓wpC_cond, WPu, Bool.false_eq_true, Bool.true_eq_false, Bool.not_true, Bool.not_false, if_true, if_false, ite_true, ite_false, Nat.reduceEqDiff, Nat.reduceLT, true_and, List.map_cons, List.map_nil, Nat.zero_add, Nat.reduceBEq, WPm, hl.iaddr hi, p0, p2, r0', r2', kq, w1]
     have key : (decide ((t[k]).k = 3) && decide ((t[k]).n > 0)) = decide (0 < (t[k]).parts) := by
      by_cases h : (t[k]).k = 3 <;> simp [Cel.parts, h]
     rw [key]
     refine condP_dec (fun h0 => ?_) (fun h0 => ?_)
     ·have hp : (t[k]).n = ((t[k]).parts : Int) := by
       by_cases h3 : (t[k]).k = 3
       ·have : (t[k]).parts = (t[k]).n.toNat := by simp [Cel.parts, h3]
        omega
       ·have : (t[k]).parts = 0 := by simp [Cel.parts, h3]
        omega
      simp -dsimp only [↓WPd, ↓wpC_block, ↓wpC_cond, WPu, Bool.false_eq_true, Bool.true_eq_false, Bool.not_true, Bool.not_false, if_true, if_false, ite_true, ite_false, Nat.reduceEqDiff, Nat.reduceLT, true_and, List.map_cons, List.map_nil, Nat.zero_add, Nat.reduceBEq, WPm, ll, hl.iaddr hi, p2, r2']
      refine condP_dec (fun h2 => ?_) (fun h2 => ?_)
      ·rw [if_pos (by omega)] at he
       simp -dsimp only [↓WPd, ↓wpC_block, ↓wpC_cond, WPu, Bool.false_eq_true, Bool.true_eq_false, Bool.not_true, Bool.not_false, if_true, if_false, ite_true, ite_false, Nat.reduceEqDiff, Nat.reduceLT, true_and, List.map_cons, List.map_nil, Nat.zero_add, Nat.reduceBEq]
       exact .inr ⟨_, by rw [← he]; rfl⟩
      ·rw [if_neg (by omega)] at he
       have w2 : IntKind.i64.wrap ((o : Int) + (t[k]).n) = ((o + (t[k]).parts : Nat) : Int) := by rw [wrap_i64 (by omega) (by omega)]; omega
       simp -dsimp only [↓WPd, ↓wpC_block, ↓wpC_cond, WPu, Bool.false_eq_true, Bool.true_eq_false, Bool.not_true, Bool.not_false, if_true, if_false, ite_true, ite_false, Nat.reduceEqDiff, Nat.reduceLT, true_and, List.map_cons, List.map_nil, Nat.zero_add, Nat.reduceBEq, WPm, hl.iaddr hi, p2, r2', w2, w3]
       exact ⟨t.length + 1 - (k + 1), by omega, k + 1, o + (t[k]).parts, by omega, rfl, rfl, he, by omega, by omega⟩
     ·have hp : (t[k]).parts = 0 := Nat.eq_zero_of_not_pos h0
      rw [hp, if_neg (Nat.not_lt_zero _), Nat.add_zero] at he
      simp -dsimp only [↓WPd, ↓wpC_block, ↓wpC_cond, WPu, Bool.false_eq_true, Bool.true_eq_false, Bool.not_true, Bool.not_false, if_true, if_false, ite_true, ite_false, Nat.reduceEqDiff, Nat.reduceLT, true_and, List.map_cons, List.map_nil, Nat.zero_add, Nat.reduceBEq, w3]
      exact ⟨t.length + 1 - (k + 1), by omega, k + 1, o, by omega, rfl, rfl, he, by omega, by omega⟩
   ·have : o = 0 := by omega
    subst this
    rw [endAt_zero] at he
    simp -dsimp only [↓WPd, ↓wpC_block, ↓wpC_cond, WPu, Bool.false_eq_true, Bool.true_eq_false, Bool.not_true, Bool.not_false, if_true, if_false, ite_true, ite_false, Nat.reduceEqDiff, Nat.reduceLT, true_and, List.map_cons, List.map_nil, Nat.zero_add, Nat.reduceBEq]
    exact .inl ⟨_, by rw [← he]⟩
  ·rintro e σ' env ⟨rfl, ⟨rfl, x, hv⟩ | ⟨rfl, x, hv⟩⟩
   ·simp only [List.map_cons, List.map_nil, List.cons.injEq, and_true] at hv
    simp -dsimp only [↓WPd, ↓wpC_block, ↓wpC_cond, WPu, Bool.false_eq_true, Bool.true_eq_false, Bool.not_true, Bool.not_false, if_true, if_false, ite_true, ite_false, Nat.reduceEqDiff, Nat.reduceLT, true_and, List.map_cons, List.map_nil, Nat.zero_add, Nat.reduceBEq, hv]
   ·simp only [List.map_cons, List.map_nil, List.cons.injEq, and_true] at hv
    simp -dsimp only [↓WPd, ↓wpC_block, ↓wpC_cond, WPu, Bool.false_eq_true, Bool.true_eq_false, Bool.not_true, Bool.not_false, if_true, if_false, ite_true, ite_false, Nat.reduceEqDiff, Nat.reduceLT, true_and, List.map_cons, List.map_nil, Nat.zero_add, Nat.reduceBEq, hv]
theorem rright_ok (l : AVal) (t : List Cel) (hx : t.length < 2 ^ 30) (hl : SlOf σ 5 l (t.map Cel.val)) : Called CU.cfg d 65 [l] σ fun v σ' => v = .bool (right t) ∧ Grows σ σ' := by
 refine called_of (fn := CU.a65) rfl (Nat.le_of_ble_eq_true rfl) ?_
 have ll := hl.len
 rw [List.length_map] at ll
 simp only [CU.a65]
 simp -dsimp only [↓WPd, ↓wpC_block, ↓wpC_cond, WPu, Bool.false_eq_true, Bool.true_eq_false, Bool.not_true, Bool.not_false, if_true, if_false, ite_true, ite_false, Nat.reduceEqDiff, Nat.reduceLT, true_and, List.map_cons, List.map_nil, Nat.zero_add, Nat.reduceBEq, WPm, ll]
 have key : (decide ((t.length : Int) < 1) || decide ((t.length : Int) > 256)) = !(decide (1 ≤ t.length) && decide (t.length ≤ 256)) := by
  generalize t.length = n
  rw [Bool.eq_iff_iff]; simp; omega
 rw [key]
 refine condP_intro (fun h => ?_) (fun h => ?_)
 ·have : right t = false := by
   simp only [Bool.not_eq_true'] at h
   simp only [right, h, Bool.false_and]
  simp -dsimp only [↓WPd, ↓wpC_block, ↓wpC_cond, WPu, Bool.false_eq_true, Bool.true_eq_false, Bool.not_true, Bool.not_false, if_true, if_false, ite_true, ite_false, Nat.reduceEqDiff, Nat.reduceLT, true_and, List.map_cons, List.map_nil, Nat.zero_add, Nat.reduceBEq, this]
  exact Keeps.refl _ _
 ·simp only [Bool.not_eq_false'] at h
  have hne : t ≠ [] := by
   intro e; subst e; simp at h
  have hr : right t = (decide (endT t 0 = t.length) && t.all Cel.ok) := by
   rw [endT_zero hne]; simp only [right, h, Bool.true_and]
  simp -dsimp only [↓WPd, ↓wpC_block, ↓wpC_cond, WPu, Bool.false_eq_true, Bool.true_eq_false, Bool.not_true, Bool.not_false, if_true, if_false, ite_true, ite_false, Nat.reduceEqDiff, Nat.reduceLT, true_and, List.map_cons, List.map_nil, Nat.zero_add, Nat.reduceBEq]
  refine loop_rule2 (fun m vs σ' => ∃ k, k ≤ t.length ∧ m = t.length - k ∧ vs = [l, .int .i64 k] ∧ Grows σ σ' ∧ ∀ (j : Nat) (hj : j < t.length), j < k → (t[j]).ok = true) [0, 2]
   (fun e vs σ' => Grows σ σ' ∧ ((e = .exit 0 ∧ (∃ x, vs = [l, x]) ∧ t.all Cel.ok = true) ∨ (e = .ret ∧ (∃ x, vs = [x, .bool false]) ∧ t.all Cel.ok = false))) t.length ⟨0, Nat.zero_le _, rfl, ?_, Keeps.refl _ _, fun j _ h => absurd h (Nat.not_lt_zero _)⟩ ?_ ?_
  ·simp -dsimp only [↓WPd, ↓wpC_block, ↓wpC_cond, WPu, Bool.false_eq_true, Bool.true_eq_false, Bool.not_true, Bool.not_false, if_true, if_false, ite_true, ite_false, Nat.reduceEqDiff, Nat.reduceLT, true_and, List.map_cons, List.map_nil, Nat.zero_add, Nat.reduceBEq]; rfl
  ·rintro m vs σ' ⟨k, hk, rfl, rfl, g, hall⟩
   have ll' := (hl.grow g).len
   rw [List.length_map] at ll'
   simp -dsimp only [↓WPd, ↓wpC_block, ↓wpC_cond, WPu, Bool.false_eq_true, Bool.true_eq_false, Bool.not_true, Bool.not_false, if_true, if_false, ite_true, ite_false, Nat.reduceEqDiff, Nat.reduceLT, true_and, List.map_cons, List.map_nil, Nat.zero_add, Nat.reduceBEq, ll']
   refine condP_dec (fun h => ?_) (fun h => ?_)
   ·have hk' : k < t.length := by omega
    have hi : k < (t.map Cel.val).length := by rw [List.length_map]; exact hk'
    have hl' := hl.grow g
    have ha5 : loadV σ' 5 true (addrOf 5 l k) = some (t[k]).val := hl'.loadA hi (cs := (t[k]).cs) (by rw [cel_get]; rfl)
    simp -dsimp only [↓WPd, ↓wpC_block, ↓wpC_cond, WPu, Bool.false_eq_true, Bool.true_eq_false, Bool.not_true, Bool.not_false, if_true, if_false, ite_true, ite_false, Nat.reduceEqDiff, Nat.reduceLT, true_and, List.map_cons, List.map_nil, Nat.zero_add, Nat.reduceBEq, hl'.iaddr hi, ha5]
    refine calledW_of (cell_ok d σ' t[k]) ?_
    rintro v σ'' ⟨rfl, g2⟩
    simp -dsimp only [↓WPd, ↓wpC_block, ↓wpC_cond, WPu, Bool.false_eq_true, Bool.true_eq_false, Bool.not_true, Bool.not_false, if_true, if_false, ite_true, ite_false, Nat.reduceEqDiff, Nat.reduceLT, true_and, List.map_cons, List.map_nil, Nat.zero_add, Nat.reduceBEq]
    refine condP_intro (fun h4 => ?_) (fun h4 => ?_)
    ·simp -dsimp only [↓WPd, ↓wpC_block, ↓wpC_cond, WPu, Bool.false_eq_true, Bool.true_eq_false, Bool.not_true, Bool.not_false, if_true, if_false, ite_true, ite_false, Nat.reduceEqDiff, Nat.reduceLT, true_and, List.map_cons, List.map_nil, Nat.zero_add, Nat.reduceBEq]
     refine ⟨g.trans g2, .inr ⟨⟨_, rfl⟩, ?_⟩⟩
     rw [List.all_eq_false]
     exact ⟨_, List.getElem_mem hk', by simpa using h4⟩
    ·simp -dsimp only [↓WPd, ↓wpC_block, ↓wpC_cond, WPu, Bool.false_eq_true, Bool.true_eq_false, Bool.not_true, Bool.not_false, if_true, if_false, ite_true, ite_false, Nat.reduceEqDiff, Nat.reduceLT, true_and, List.map_cons, List.map_nil, Nat.zero_add, Nat.reduceBEq]
     refine ⟨t.length - (k + 1), by omega, k + 1, by omega, rfl, by rw [wrap_i64 (by omega) (by omega), Int.natCast_add, Int.natCast_one], g.trans g2, fun j hj hjk => ?_⟩
     by_cases e : j = k
     ·subst e; simpa using h4
     ·exact hall j hj (by omega)
   ·simp -dsimp only [↓WPd, ↓wpC_block, ↓wpC_cond, WPu, Bool.false_eq_true, Bool.true_eq_false, Bool.not_true, Bool.not_false, if_true, if_false, ite_true, ite_false, Nat.reduceEqDiff, Nat.reduceLT, true_and, List.map_cons, List.map_nil, Nat.zero_add, Nat.reduceBEq]
    refine ⟨g, .inl ⟨⟨_, rfl⟩, ?_⟩⟩
    rw [List.all_eq_true]
    intro x hx
    obtain ⟨j, hj, rfl⟩ := List.getElem_of_mem hx
    exact hall j hj (by omega)
  ·rintro e σ' env ⟨g, ⟨rfl, ⟨x, hv⟩, hyes⟩ | ⟨rfl, ⟨x, hv⟩, hno⟩⟩
   ·simp only [List.map_cons, List.map_nil, List.cons.injEq, and_true] at hv
    have hl' := hl.grow g
    simp -dsimp only [↓WPd, ↓wpC_block, ↓wpC_cond, WPu, Bool.false_eq_true, Bool.true_eq_false, Bool.not_true, Bool.not_false, if_true, if_false, ite_true, ite_false, Nat.reduceEqDiff, Nat.reduceLT, true_and, List.map_cons, List.map_nil, Nat.zero_add, Nat.reduceBEq, hv]
    refine calledW_of (rend_ok d σ' l t 0 hx hl') ?_
    rintro v σ'' ⟨rfl, rfl⟩
    have ll' := hl'.len
    rw [List.length_map] at ll'
    have k2 : (((endT t 0 : Nat) : Int) == (t.length : Int)) = decide (endT t 0 = t.length) := by by_cases h : endT t 0 = t.length <;> simp [h] <;> omega
    simp -dsimp only [↓WPd, ↓wpC_block, ↓wpC_cond, WPu, Bool.false_eq_true, Bool.true_eq_false, Bool.not_true, Bool.not_false, if_true, if_false, ite_true, ite_false, Nat.reduceEqDiff, Nat.reduceLT, true_and, List.map_cons, List.map_nil, Nat.zero_add, Nat.reduceBEq, hv, ll', k2]
    rw [hr, hyes, Bool.and_true]
    exact ⟨rfl, g⟩
   ·simp only [List.map_cons, List.map_nil, List.cons.injEq, and_true] at hv
    simp -dsimp only [↓WPd, ↓wpC_block, ↓wpC_cond, WPu, Bool.false_eq_true, Bool.true_eq_false, Bool.not_true, Bool.not_false, if_true, if_false, ite_true, ite_false, Nat.reduceEqDiff, Nat.reduceLT, true_and, List.map_cons, List.map_nil, Nat.zero_add, Nat.reduceBEq, hv]
    rw [hr, hno, Bool.and_false]
    exact ⟨rfl, g⟩
end
section
variable (d : Nat) (σ : Store)
theorem cclone_ok (b : AVal) (t : List Cel) (hs : t.length < 2 ^ 30) (hb : SlOf σ 5 b (t.map Cel.val)) : Called CU.cfg d 33 [b] σ fun v σ' => Grows σ σ' ∧ Own σ' 5 v (t.map Cel.val) ∧ Fresh σ.length v ∧ NoLit v := by
 refine called_of (fn := CU.a33) rfl (Nat.le_of_ble_eq_true rfl) ?_
 obtain ⟨x, hx, hx'⟩ := hb.isnil
 simp only [CU.a33]
 simp -dsimp only [↓WPd, ↓wpC_block, ↓wpC_cond, WPu, Bool.false_eq_true, Bool.true_eq_false, Bool.not_true, Bool.not_false, if_true, if_false, ite_true, ite_false, Nat.reduceEqDiff, Nat.reduceLT, true_and, List.map_cons, List.map_nil, Nat.zero_add, Nat.reduceBEq, hx, Bool.false_eq_true]
 refine condP_intro (fun h => ?_) (fun h => ?_)
 ·obtain ⟨rfl, he⟩ := hx' h
  simp -dsimp only [↓WPd, ↓wpC_block, ↓wpC_cond, WPu, Bool.false_eq_true, Bool.true_eq_false, Bool.not_true, Bool.not_false, if_true, if_false, ite_true, ite_false, Nat.reduceEqDiff, Nat.reduceLT, true_and, List.map_cons, List.map_nil, Nat.zero_add, Nat.reduceBEq]
  exact ⟨Keeps.refl _ _, by rw [he]; exact Own.nil _ _, (fun id h => by cases h), trivial⟩
 ·simp -dsimp only [↓WPd, ↓wpC_block, ↓wpC_cond, WPu, Bool.false_eq_true, Bool.true_eq_false, Bool.not_true, Bool.not_false, if_true, if_false, ite_true, ite_false, Nat.reduceEqDiff, Nat.reduceLT, true_and, List.map_cons, List.map_nil, Nat.zero_add, Nat.reduceBEq, hb.els]
  refine stepP_of [] rfl ?_
  have ho : Own σ 5 (.fslice (AVal.tagL []) true 5 []) [] := ⟨.inr (.inl ⟨_, rfl⟩)⟩
  obtain ⟨v', σ', h1, h2, h3, h4, h5⟩ := ho.append (t.map Cel.val) 48 (by rw [List.length_map]; simp; omega)
  simp -dsimp only [↓WPd, ↓wpC_block, ↓wpC_cond, WPu, Bool.false_eq_true, Bool.true_eq_false, Bool.not_true, Bool.not_false, if_true, if_false, ite_true, ite_false, Nat.reduceEqDiff, Nat.reduceLT, true_and, List.map_cons, List.map_nil, Nat.zero_add, Nat.reduceBEq, hb.els, h1]
  refine ⟨h3.mono (fun i _ h => by cases h), by simpa using h2, fun id hid => ?_, h5 (.inl rfl)⟩
  rcases h4 id hid with h | h
  ·cases h
  ·omega
def isT (t : List Cel) (s : List UInt8) (n : Int) : Bool := match t with
 | [] => false
 | c :: _ => decide (c.s = s) && ((decide (c.k = 3) && decide (c.n = n)) || (decide (n = 0) && decide (c.k = 2)))
end
theorem faddr_at {σ : Store} {p : AVal} {cs : List AVal} {off : Nat} (h : behind σ p = some (cs, off)) (o : Nat) : ∃ q, faddrV o p = some q ∧ behind σ q = some (cs, off + o) := by
 cases p with
 | ptr i k =>
  simp only [behind] at h
  split at h
  ·rename_i cs' ho
   injection h with h; injection h with h1 h2; subst h1; subst h2
   exact ⟨.ptr i (k + o), rfl, by simp only [behind, ho]⟩
  ·cases h
 | eptr i ep j k =>
  simp only [behind] at h
  split at h
  ·rename_i sz es epo fl ho
   split at h
   ·rename_i hf
    rw [Option.map_eq_some_iff] at h
    obtain ⟨e, he, h⟩ := h
    injection h with h1 h2; subst h1; subst h2
    exact ⟨.eptr i ep j (k + o), rfl, by simp only [behind, ho, if_pos hf, he, Option.map_some]⟩
   ·cases h
  ·cases h
 | fptr t cs' k =>
  simp only [behind, Option.some.injEq, Prod.mk.injEq] at h
  obtain ⟨rfl, rfl⟩ := h
  exact ⟨.fptr t cs' (k + o), rfl, by simp [behind]⟩
 | _ => simp [behind] at h
theorem load_at {σ : Store} {q : AVal} {cs : List AVal} {off : Nat} (h : behind σ q = some (cs, off)) : loadV σ 1 false q = cs[off]? := by simp only [loadV, h]; rfl
theorem loadN_at {σ : Store} {q : AVal} {cs : List AVal} {off : Nat} (h : behind σ q = some (cs, off)) {n : Nat} (hn : off + n ≤ cs.length) : loadV σ n true q = some (.agg ((cs.drop off).take n)) := by
 simp only [loadV, h, ld, if_true, hn]
def nmC (v : Nm) : List AVal := [.int .i64 v.1, .int .i64 v.2]
theorem nm_cells (v : Nm) : (nmV v).cells = nmC v := rfl
theorem nm_agg (v : Nm) : nmV v = .agg (nmC v) := rfl
theorem nm_one (v : Nm) : (nmC v).all AVal.one = true := rfl
theorem nm_g0 (v : Nm) : (nmC v)[0]? = some (.int .i64 v.1) := rfl
theorem nm_g1 (v : Nm) : (nmC v)[1]? = some (.int .i64 v.2) := rfl
theorem nm_eqs (a b : Nm) : eqsV [.i, .i] (nmV a) (nmV b) = some (decide (a = b)) := by
 obtain ⟨a1, a2⟩ := a; obtain ⟨b1, b2⟩ := b
 simp only [nmV, eqsV, cellsEq, cellEq, if_true, Bool.and_true]
 congr 1
 rw [Bool.eq_iff_iff]
 simp [Prod.ext_iff]
theorem nm_keyEq (a b : Nm) : keyEq true [.i, .i] (nmV a) (nmV b) = some (decide (a = b)) := nm_eqs a b
theorem load_nm {σ : Store} {i : Nat} {v : Nm} (h : σ[i]? = some (.cells (nmC v))) : loadV σ 2 true (.ptr i 0) = some (nmV v) := loadN_cells h rfl
theorem find_nm (v : Nm) : ∀ (H : Hp), ∃ o : Option Nat, findK true [.i, .i] (nmV v) (H.map fun p => nmV p.1) = some o ∧ (match o with | some i => ∃ p, H[i]? = some p ∧ p.1 = v ∧ lk H v = some p.2 | none => lk H v = none)
 | [] => ⟨none, rfl, rfl⟩
 | p :: r => by
  obtain ⟨o, h1, h2⟩ := find_nm v r
  by_cases e : v = p.1
  ·refine ⟨some 0, ?_, p, rfl, e.symm, ?_⟩
   ·simp only [List.map_cons, findK, nm_keyEq, decide_eq_true e]
   ·simp [lk, e]
  ·have hk : lk (p :: r) v = lk r v := by simp only [lk]; rw [if_neg fun h => e h.symm]
   refine ⟨o.map (· + 1), ?_, ?_⟩
   ·simp only [List.map_cons, findK, nm_keyEq, decide_eq_false e, h1]
    cases o <;> rfl
   ·cases o with
    | none => simp only [Option.map_none]; rw [hk]; exact h2
    | some i =>
     obtain ⟨q, q1, q2, q3⟩ := h2
     simp only [Option.map_some]
     exact ⟨q, by simpa using q1, q2, by rw [hk]; exact q3⟩
abbrev Told (u : AVal) (t : List Cel) : Prop := ∀ σ' : Store, SlOf σ' 5 u (CC t)
theorem Told.nil : Told .nilslice [] := fun σ' => SlOf.nil σ' 5
structure HeapP (σ : Store) (id mid : Nat) (vs : List AVal) (H : Hp) : Prop where
 obj : σ[id]? = some (.cells [.map mid])
 map : σ[mid]? = some (.map (H.map fun p => nmV p.1) vs)
 vals : Two (fun u p => Told u p.2) vs H
 wf : WF H
theorem HeapP.keeps {σ σ' : Store} {id mid : Nat} {vs : List AVal} {H : Hp} (h : HeapP σ id mid vs H) {M : Nat → Prop} (hk : Keeps M σ σ') (h1 : ¬ M id) (h2 : ¬ M mid) : HeapP σ' id mid vs H :=
 ⟨hk.get h.obj h1, hk.get h.map h2, h.vals, h.wf⟩
theorem HeapP.grow {σ σ' : Store} {id mid : Nat} {vs : List AVal} {H : Hp} (h : HeapP σ id mid vs H) (hk : Grows σ σ') : HeapP σ' id mid vs H := h.keeps hk (fun h => h) (fun h => h)
theorem HeapP.look {σ : Store} {id mid : Nat} {vs : List AVal} {H : Hp} (h : HeapP σ id mid vs H) (v : Nm) :
  ∃ u, lookupV σ true [.i, .i] .nilslice (.map mid) (nmV v) true = some (.tuple [u, .bool (lk H v).isSome]) ∧ Told u ((lk H v).getD []) := by
 obtain ⟨o, h1, h2⟩ := find_nm v H
 have hk : keyEq true [.i, .i] (nmV v) (nmV v) = some true := by rw [nm_keyEq, decide_eq_true rfl]
 have hf : findKK true [.i, .i] (nmV v) (H.map fun p => nmV p.1) = some o := by simp only [findKK, hk, Option.isSome_some, if_true, h1]
 have hm : mapOf σ (.map mid) = some (H.map fun p => nmV p.1, vs) := by simp only [mapOf, h.map]
 cases o with
 | none =>
  refine ⟨.nilslice, ?_, ?_⟩
  ·simp only [lookupV, hm, hf, h2, Option.isSome_none, if_true]
  ·rw [h2]; exact Told.nil
 | some i =>
  obtain ⟨p, p1, p2, p3⟩ := h2
  obtain ⟨hi, hpe⟩ := List.getElem?_eq_some_iff.1 p1
  obtain ⟨u, u1, u2⟩ := h.vals.get hi
  refine ⟨u, ?_, ?_⟩
  ·simp only [lookupV, hm, hf, u1, Option.map_some, p3, Option.isSome_some, if_true]
  ·rw [p3]; rw [hpe] at u2; exact u2
theorem HeapP.set {σ : Store} {id mid : Nat} {vs : List AVal} {H : Hp} (h : HeapP σ id mid vs H) {v : Nm} {u : AVal} {t : List Cel} (hl : lk H v = none) (hu : Told u t) (hok : okB (v, t)) :
  ∃ σ', mapsetV σ true [.i, .i] (.map mid) (nmV v) u = some σ' ∧ HeapP σ' id mid (vs ++ [u]) (H ++ [(v, t)]) ∧ Keeps (fun i => i = mid) σ σ' := by
 obtain ⟨o, h1, h2⟩ := find_nm v H
 have hk : keyEq true [.i, .i] (nmV v) (nmV v) = some true := by rw [nm_keyEq, decide_eq_true rfl]
 have hf : findKK true [.i, .i] (nmV v) (H.map fun p => nmV p.1) = some o := by simp only [findKK, hk, Option.isSome_some, if_true, h1]
 have hmo := h.map
 have ho : o = none := by
  cases o with
  | none => rfl
  | some i => obtain ⟨p, _, _, p3⟩ := h2; rw [hl] at p3; cases p3
 subst ho
 have hne : id ≠ mid := fun e => by have h1 := h.obj; rw [e, h.map] at h1; cases h1
 refine ⟨σ.set mid (.map ((H.map fun p => nmV p.1) ++ [nmV v]) (vs ++ [u])), by simp only [mapsetV, hmo, hf], ⟨?_, ?_, h.vals.push hu, ?_⟩, Keeps.set _ _ _⟩
 ·rw [List.getElem?_set_ne (fun e => hne e.symm)]; exact h.obj
 ·rw [get_set h.map]; simp
 ·have := h.wf.bind v t
  rwa [bindH, if_pos (bindE_of hok hl)] at this
def HeapV (σ : Store) (hv : AVal) (H : Hp) : Prop := (hv = .nilptr ∧ H = []) ∨ ∃ id mid vs, hv = .ptr id 0 ∧ HeapP σ id mid vs H
theorem HeapV.wf {σ : Store} {hv : AVal} {H : Hp} (h : HeapV σ hv H) : WF H := by
 rcases h with ⟨_, rfl⟩ | ⟨_, _, _, _, h⟩
 ·exact WF.nil
 ·exact h.wf
theorem HeapV.grow {σ σ' : Store} {hv : AVal} {H : Hp} (h : HeapV σ hv H) (g : Grows σ σ') : HeapV σ' hv H := by
 rcases h with h | ⟨id, mid, vs, e, h⟩
 ·exact .inl h
 ·exact .inr ⟨id, mid, vs, e, h.grow g⟩
theorem HeapP.v {σ : Store} {id mid : Nat} {vs : List AVal} {H : Hp} (h : HeapP σ id mid vs H) : HeapV σ (.ptr id 0) H := .inr ⟨id, mid, vs, rfl, h⟩
theorem frz_fs (σ : Store) (t n t' : Nat) (full : Bool) (sz : Nat) (es : List AVal) : frz σ t (n + 1) (.fslice t' full sz es) = match mapO (frz σ t n) es with
 | some es' => some (.fslice (max t' (AVal.tagL es')) full sz es')
 | none => none := rfl
theorem frz_sl (σ : Store) (t n sz id ep off len : Nat) (cap : Option Nat) : frz σ t (n + 1) (.slice sz id ep off len cap) = match σ[id]? with
 | some (.arr _ es _ fl) => if fl ≤ ep then
   match mapO (frz σ t n) ((es.drop off).take len) with
   | some es' => some (.fslice (max t (AVal.tagL es')) (cap == some len) sz es')
   | none => none
  else none
 | _ => none := rfl
theorem frz_cel (σ : Store) (t n : Nat) (c : Cel) : frz σ t (n + 2) c.val = some c.val := rfl
theorem mapO_cel (σ : Store) (t n : Nat) : ∀ l : List Cel, mapO (frz σ t (n + 2)) (CC l) = some (CC l)
 | [] => rfl
 | c :: l => by
  have ih := mapO_cel σ t n l
  simp only [List.map_cons, mapO, frz_cel] at ih ⊢
  rw [ih]
theorem tagL_cel : ∀ l : List Cel, AVal.tagL (CC l) = 0
 | [] => rfl
 | c :: l => by
  have ih := tagL_cel l
  simp only [List.map_cons, AVal.tagL] at ih ⊢
  rw [ih]; rfl
theorem frz_cells {σ : Store} {v : AVal} {t : List Cel} (h : SlOf σ 5 v (CC t)) (tg n : Nat) : ∃ v', frz σ tg (n + 3) v = some v' ∧ Told v' t := by
 rcases h.cases with ⟨rfl, he⟩ | ⟨t', full, rfl⟩ | ⟨id, ep, off, cap, sz', xs, epo, fl, rfl, ho, hf, he, _⟩
 ·have : t = [] := by simpa using he
  subst this
  exact ⟨.nilslice, rfl, Told.nil⟩
 ·refine ⟨.fslice (max t' 0) full 5 (CC t), ?_, fun σ' => SlOf.fs _ _ _ _ _⟩
  rw [frz_fs, mapO_cel]
  simp only [tagL_cel]
 ·refine ⟨.fslice (max tg 0) (cap == some (CC t).length) 5 (CC t), ?_, fun σ' => SlOf.fs _ _ _ _ _⟩
  rw [frz_sl, ho]
  simp only [hf, if_true, ← he, mapO_cel, tagL_cel]
theorem frz_own {σ : Store} {v : AVal} {t : List Cel} (h : Own σ 5 v (CC t)) (hn : NoLit v) (ht : t ≠ []) (n : Nat) : ∃ v', frz σ 0 (n + 3) v = some v' ∧ Told v' t ∧ v'.tag = 0 := by
 rcases h.own with ⟨rfl, he⟩ | ⟨t', rfl⟩ | ⟨id, ep, off, cap, xs, epo, fl, rfl, ho, hf, he, _⟩
 ·exact absurd (by simpa using he) ht
 ·have : CC t = [] := hn
  exact absurd (by simpa using this) ht
 ·refine ⟨.fslice (max 0 0) (cap == some (CC t).length) 5 (CC t), ?_, fun σ' => SlOf.fs _ _ _ _ _, rfl⟩
  rw [frz_sl, ho]
  simp only [hf, if_true, ← he, mapO_cel, tagL_cel]
section
variable (d : Nat) (σ : Store)
theorem isoclone (b : AVal) (t : List Cel) (hs : t.length < 2 ^ 30) (ht : t ≠ []) (hb : SlOf σ 5 b (CC t)) {fr : List AVal} {K : List AVal → Store → AVal → Prop} {w : Wit K} (hk : ∀ u, Told u t → K fr σ u) : isoW CU.cfg d 33 [b] fr σ K w := by
 unfold isoW callP
 obtain ⟨b', e1, e2⟩ := frz_cells hb (d + 1) 13
 refine ⟨[b'], by simp only [frzFuel, mapO, e1], (cclone_ok (d + 1) [] b' t hs (e2 [])).mono ?_⟩
 rintro v σ1 ⟨_, ho, _, hn⟩
 obtain ⟨v', f1, f2, f3⟩ := frz_own ho hn ht 13
 exact ⟨v', f1, by omega, hk v' f2⟩
theorem less_ok (a b : Nm) : Called CU.cfg d 46 [nmV a, nmV b] σ fun v σ' => v = .bool (nless a b) ∧ Grows σ σ' := by
 refine called_of (fn := CU.a46) rfl (Nat.le_of_ble_eq_true rfl) ?_
 simp only [CU.a46]
 simp -dsimp only [↓WPd, ↓wpC_block, ↓wpC_cond, WPu, Bool.false_eq_true, Bool.true_eq_false, Bool.not_true, Bool.not_false, if_true, if_false, ite_true, ite_false, Nat.reduceEqDiff, Nat.reduceLT, true_and, List.map_cons, List.map_nil, Nat.zero_add, Nat.reduceBEq, nm_cells, nm_one]
 have g0 : Grows σ (σ ++ [AObj.cells (nmC a)] ++ [AObj.cells (nmC b)]) := Grows.trans (Grows.app _ _) (Grows.app _ _)
 have h1 : (σ ++ [AObj.cells (nmC a)] ++ [AObj.cells (nmC b)])[σ.length]? = some (.cells (nmC a)) := by simp
 have h2 : (σ ++ [AObj.cells (nmC a)] ++ [AObj.cells (nmC b)])[(σ ++ [AObj.cells (nmC a)]).length]? = some (.cells (nmC b)) := by simp
 generalize σ ++ [AObj.cells (nmC a)] ++ [AObj.cells (nmC b)] = σ1 at g0 h1 h2
 generalize (σ ++ [AObj.cells (nmC a)]).length = i2 at h2
 simp -dsimp only [↓WPd, ↓wpC_block, ↓wpC_cond, WPu, Bool.false_eq_true, Bool.true_eq_false, Bool.not_true, Bool.not_false, if_true, if_false, ite_true, ite_false, Nat.reduceEqDiff, Nat.reduceLT, true_and, List.map_cons, List.map_nil, Nat.zero_add, Nat.reduceBEq, WPm, faddr_ptr, load_cells h1, load_cells h2, nm_g0, nm_g1]
 refine ⟨?_, g0⟩
 simp only [nless, int_beq]
theorem rless_ok (a b : Nm) : Called CU.cfg d 21 [nmV a, nmV b] σ fun v σ' => v = .bool (nless a b) ∧ Grows σ σ' := by
 refine called_of (fn := CU.a21) rfl (Nat.le_of_ble_eq_true rfl) ?_
 simp only [CU.a21]
 simp -dsimp only [↓WPd, ↓wpC_block, ↓wpC_cond, WPu, Bool.false_eq_true, Bool.true_eq_false, Bool.not_true, Bool.not_false, if_true, if_false, ite_true, ite_false, Nat.reduceEqDiff, Nat.reduceLT, true_and, List.map_cons, List.map_nil, Nat.zero_add, Nat.reduceBEq, nm_cells, nm_one]
 have g0 : Grows σ (σ ++ [AObj.cells (nmC a)] ++ [AObj.cells (nmC b)]) := Grows.trans (Grows.app _ _) (Grows.app _ _)
 have h1 : (σ ++ [AObj.cells (nmC a)] ++ [AObj.cells (nmC b)])[σ.length]? = some (.cells (nmC a)) := by simp
 have h2 : (σ ++ [AObj.cells (nmC a)] ++ [AObj.cells (nmC b)])[(σ ++ [AObj.cells (nmC a)]).length]? = some (.cells (nmC b)) := by simp
 generalize σ ++ [AObj.cells (nmC a)] ++ [AObj.cells (nmC b)] = σ1 at g0 h1 h2
 generalize (σ ++ [AObj.cells (nmC a)]).length = i2 at h2
 simp -dsimp only [↓WPd, ↓wpC_block, ↓wpC_cond, WPu, Bool.false_eq_true, Bool.true_eq_false, Bool.not_true, Bool.not_false, if_true, if_false, ite_true, ite_false, Nat.reduceEqDiff, Nat.reduceLT, true_and, List.map_cons, List.map_nil, Nat.zero_add, Nat.reduceBEq, WPm, faddr_ptr, load_cells h1, load_cells h2, nm_g0, nm_g1]
 refine ⟨?_, g0⟩
 simp only [nless, int_beq]
end
def Small (t : List Cel) : Prop := t.length < 2 ^ 30 ∧ ∀ c ∈ t, c.k < 256 ∧ c.s.length < 2 ^ 40
section
variable (d : Nat) (σ : Store)
theorem globc_ok (c : Cel) : Called CU.cfg d 68 [c.val] σ fun v σ' => v = .bool (decide (c.k = 4) && decide (c.v.1 = -1)) ∧ Grows σ σ' := by
 refine called_of (fn := CU.a68) rfl (Nat.le_of_ble_eq_true rfl) ?_
 simp only [CU.a68]
 simp -dsimp only [↓WPd, ↓wpC_block, ↓wpC_cond, WPu, Bool.false_eq_true, Bool.true_eq_false, Bool.not_true, Bool.not_false, if_true, if_false, ite_true, ite_false, Nat.reduceEqDiff, Nat.reduceLT, true_and, List.map_cons, List.map_nil, Nat.zero_add, Nat.reduceBEq, Cel.cells, Cel.one]
 have ho : (σ ++ [AObj.cells c.cs])[σ.length]? = some (.cells c.cs) := by simp
 have g0 : Grows σ (σ ++ [AObj.cells c.cs]) := Grows.app _ _
 generalize σ ++ [AObj.cells c.cs] = σ1 at ho g0
 have key : ((c.k : Int) == 4) = decide (c.k = 4) := by by_cases h : c.k = 4 <;> simp [h] <;> omega
 simp -dsimp only [↓WPd, ↓wpC_block, ↓wpC_cond, WPu, Bool.false_eq_true, Bool.true_eq_false, Bool.not_true, Bool.not_false, if_true, if_false, ite_true, ite_false, Nat.reduceEqDiff, Nat.reduceLT, true_and, List.map_cons, List.map_nil, Nat.zero_add, Nat.reduceBEq, WPm, faddr_ptr, load_cells ho, Cel.g0, Cel.g3, key, int_beq, Nat.add_zero]
 exact g0
theorem global_ok (l : AVal) (t : List Cel) (hs : Small t) (hl : SlOf σ 5 l (CC t)) : Called CU.cfg d 41 [l] σ fun v σ' => v = .bool (glob t) ∧ Grows σ σ' := by
 refine called_of (fn := CU.a41) rfl (Nat.le_of_ble_eq_true rfl) ?_
 simp only [CU.a41]
 simp -dsimp only [↓WPd, ↓wpC_block, ↓wpC_cond, WPu, Bool.false_eq_true, Bool.true_eq_false, Bool.not_true, Bool.not_false, if_true, if_false, ite_true, ite_false, Nat.reduceEqDiff, Nat.reduceLT, true_and, List.map_cons, List.map_nil, Nat.zero_add, Nat.reduceBEq, WPm]
 refine calledW_of (right_ok d σ l t hs.1 hs.2 hl) ?_
 rintro v σ1 ⟨rfl, g1⟩
 have hl1 := hl.grow g1
 rw [glob_eq]
 cases hr : right t with
 | false =>
  simp -dsimp only [↓WPd, ↓wpC_block, ↓wpC_cond, WPu, Bool.false_eq_true, Bool.true_eq_false, Bool.not_true, Bool.not_false, if_true, if_false, ite_true, ite_false, Nat.reduceEqDiff, Nat.reduceLT, true_and, List.map_cons, List.map_nil, Nat.zero_add, Nat.reduceBEq, WPm]
  exact ⟨by simp, g1⟩
 | true =>
  simp -dsimp only [↓WPd, ↓wpC_block, ↓wpC_cond, WPu, Bool.false_eq_true, Bool.true_eq_false, Bool.not_true, Bool.not_false, if_true, if_false, ite_true, ite_false, Nat.reduceEqDiff, Nat.reduceLT, true_and, List.map_cons, List.map_nil, Nat.zero_add, Nat.reduceBEq, WPm]
  refine calledW_of (ccontains_ok d σ1 68 (fun c => decide (c.k = 4) && decide (c.v.1 = -1)) l t (by have := hs.1; omega) hl1 (fun c σ' _ => globc_ok d σ' c)) ?_
  rintro v σ2 ⟨rfl, g2⟩
  simp -dsimp only [↓WPd, ↓wpC_block, ↓wpC_cond, WPu, Bool.false_eq_true, Bool.true_eq_false, Bool.not_true, Bool.not_false, if_true, if_false, ite_true, ite_false, Nat.reduceEqDiff, Nat.reduceLT, true_and, List.map_cons, List.map_nil, Nat.zero_add, Nat.reduceBEq, WPm]
  exact ⟨by simp, g1.trans g2⟩
theorem rglobal_ok (l : AVal) (t : List Cel) (hs : t.length < 2 ^ 30) (hl : SlOf σ 5 l (CC t)) : Called CU.cfg d 54 [l] σ fun v σ' => v = .bool (glob t) ∧ Grows σ σ' := by
 refine called_of (fn := CU.a54) rfl (Nat.le_of_ble_eq_true rfl) ?_
 simp only [CU.a54]
 simp -dsimp only [↓WPd, ↓wpC_block, ↓wpC_cond, WPu, Bool.false_eq_true, Bool.true_eq_false, Bool.not_true, Bool.not_false, if_true, if_false, ite_true, ite_false, Nat.reduceEqDiff, Nat.reduceLT, true_and, List.map_cons, List.map_nil, Nat.zero_add, Nat.reduceBEq, WPm]
 refine calledW_of (rright_ok d σ l t hs hl) ?_
 rintro v σ1 ⟨rfl, g1⟩
 have hl1 := hl.grow g1
 have ll := hl1.len
 rw [List.length_map] at ll
 unfold glob
 cases hr : right t with
 | false =>
  simp -dsimp only [↓WPd, ↓wpC_block, ↓wpC_cond, WPu, Bool.false_eq_true, Bool.true_eq_false, Bool.not_true, Bool.not_false, if_true, if_false, ite_true, ite_false, Nat.reduceEqDiff, Nat.reduceLT, true_and, List.map_cons, List.map_nil, Nat.zero_add, Nat.reduceBEq, WPm]
  exact ⟨by simp, g1⟩
 | true =>
  simp -dsimp only [↓WPd, ↓wpC_block, ↓wpC_cond, WPu, Bool.false_eq_true, Bool.true_eq_false, Bool.not_true, Bool.not_false, if_true, if_false, ite_true, ite_false, Nat.reduceEqDiff, Nat.reduceLT, true_and, List.map_cons, List.map_nil, Nat.zero_add, Nat.reduceBEq, WPm, Bool.true_and]
  refine loop_rule (fun m vs σ' => ∃ k : Nat, k ≤ t.length ∧ m = t.length - k ∧ vs = [l, .int .i64 k] ∧ σ' = σ1 ∧ ((t.take k).all fun c => !(decide (c.k = 4) && decide (c.v.1 < 0))) = true) t.length ⟨0, Nat.zero_le _, rfl, ?_, rfl, rfl⟩ ?_
  ·simp -dsimp only [↓WPd, ↓wpC_block, ↓wpC_cond, WPu, Bool.false_eq_true, Bool.true_eq_false, Bool.not_true, Bool.not_false, if_true, if_false, ite_true, ite_false, Nat.reduceEqDiff, Nat.reduceLT, true_and, List.map_cons, List.map_nil, Nat.zero_add, Nat.reduceBEq]; rfl
  ·rintro m vs σ' ⟨k, hk, rfl, rfl, rfl, ha⟩
   simp -dsimp only [↓WPd, ↓wpC_block, ↓wpC_cond, WPu, Bool.false_eq_true, Bool.true_eq_false, Bool.not_true, Bool.not_false, if_true, if_false, ite_true, ite_false, Nat.reduceEqDiff, Nat.reduceLT, true_and, List.map_cons, List.map_nil, Nat.zero_add, Nat.reduceBEq, ll]
   refine condP_dec (fun h => ?_) (fun h => ?_)
   ·have hk' : k < t.length := by omega
    have hi : k < (CC t).length := by rw [List.length_map]; exact hk'
    have hb := (hl1.addr hi .i64).2
    rw [cel_get] at hb
    obtain ⟨q0, p0, r0⟩ := faddr_load hb 0
    obtain ⟨q3, p3, b3⟩ := faddr_at hb 3
    obtain ⟨q4, p4, b4⟩ := faddr_at b3 0
    have r4 := load_at b4
    have r0' : loadV σ' 1 false q0 = some (.int .u8 (t[k]).k) := r0
    have r4' : loadV σ' 1 false q4 = some (.int .i64 (t[k]).v.1) := r4
    have ia := hl1.iaddr hi .i64
    have key : (((t[k]).k : Int) == 4) = decide ((t[k]).k = 4) := by by_cases h : (t[k]).k = 4 <;> simp [h] <;> omega
    have ht : t.take (k + 1) = t.take k ++ [t[k]] := List.take_succ_eq_append_getElem hk'
    simp -dsimp only [↓WPd, ↓wpC_block, ↓wpC_cond, WPu, Bool.false_eq_true, Bool.true_eq_false, Bool.not_true, Bool.not_false, if_true, if_false, ite_true, ite_false, Nat.reduceEqDiff, Nat.reduceLT, true_and, List.map_cons, List.map_nil, Nat.zero_add, Nat.reduceBEq, WPm, ia, p0, r0', p3, p4, r4', key]
    refine condP_intro (fun h => ?_) (fun h => ?_)
    ·simp -dsimp only [↓WPd, ↓wpC_block, ↓wpC_cond, WPu, Bool.false_eq_true, Bool.true_eq_false, Bool.not_true, Bool.not_false, if_true, if_false, ite_true, ite_false, Nat.reduceEqDiff, Nat.reduceLT, true_and, List.map_cons, List.map_nil, Nat.zero_add, Nat.reduceBEq]
     have : (t.all fun c => !(decide (c.k = 4) && decide (c.v.1 < 0))) = false := by
      rw [List.all_eq_false]
      exact ⟨t[k], List.getElem_mem hk', by simp only [h, Bool.not_true]; simp⟩
     rw [this]
     exact ⟨rfl, g1⟩
    ·simp -dsimp only [↓WPd, ↓wpC_block, ↓wpC_cond, WPu, Bool.false_eq_true, Bool.true_eq_false, Bool.not_true, Bool.not_false, if_true, if_false, ite_true, ite_false, Nat.reduceEqDiff, Nat.reduceLT, true_and, List.map_cons, List.map_nil, Nat.zero_add, Nat.reduceBEq]
     refine ⟨t.length - (k + 1), by omega, k + 1, by omega, rfl, ?_, ?_⟩
     ·rw [wrap_i64 (by omega) (by omega), Int.natCast_add, Int.natCast_one]
     ·rw [ht, List.all_append, ha]; simp only [List.all_cons, List.all_nil, h]; rfl
   ·simp -dsimp only [↓WPd, ↓wpC_block, ↓wpC_cond, WPu, Bool.false_eq_true, Bool.true_eq_false, Bool.not_true, Bool.not_false, if_true, if_false, ite_true, ite_false, Nat.reduceEqDiff, Nat.reduceLT, true_and, List.map_cons, List.map_nil, Nat.zero_add, Nat.reduceBEq]
    have : k = t.length := by omega
    subst this
    rw [List.take_length] at ha
    rw [ha]
    exact ⟨rfl, g1⟩
end
def varT (v : Nm) : List Cel := if okVar v then [vCel v] else []
theorem vcel_build (v : Nm) : fillA [AVal.int IntKind.u8 0, AVal.str [], AVal.int IntKind.i64 0, AVal.int IntKind.i64 0, AVal.int IntKind.i64 0] [(0, 1, AVal.int IntKind.u8 4), (3, 2, nmV v)] = some (vCel v).cs := rfl
theorem cel_lit (c : Cel) : fillL 5 true (List.replicate 1 (zel [AVal.int IntKind.u8 0, AVal.str [], AVal.int IntKind.i64 0, AVal.int IntKind.i64 0, AVal.int IntKind.i64 0] true)) [(0, c.val)] = some [c.val] := rfl
theorem Told.lit (tg : Nat) (full : Bool) (t : List Cel) : Told (.fslice tg full 5 (CC t)) t := fun σ' => SlOf.fs _ _ _ _ _
section
variable (d : Nat) (σ : Store)
theorem single_ok (c : Cel) (hk : c.k < 256 ∧ c.s.length < 2 ^ 40) : Called CU.cfg d 71 [c.val] σ fun r σ' => Told r (if right [c] then [c] else []) ∧ Grows σ σ' := by
 refine called_of (fn := CU.a71) rfl (Nat.le_of_ble_eq_true rfl) ?_
 simp only [CU.a71]
 simp -dsimp only [↓WPd, ↓wpC_block, ↓wpC_cond, WPu, Bool.false_eq_true, Bool.true_eq_false, Bool.not_true, Bool.not_false, if_true, if_false, ite_true, ite_false, Nat.reduceEqDiff, Nat.reduceLT, true_and, List.map_cons, List.map_nil, Nat.zero_add, Nat.reduceBEq, Cel.cells, Cel.one]
 have ho : (σ ++ [AObj.cells c.cs])[σ.length]? = some (.cells c.cs) := by simp
 have g0 : Grows σ (σ ++ [AObj.cells c.cs]) := Grows.app _ _
 generalize σ ++ [AObj.cells c.cs] = σ1 at ho g0
 generalize σ.length = i1 at ho
 simp -dsimp only [↓WPd, ↓wpC_block, ↓wpC_cond, WPu, Bool.false_eq_true, Bool.true_eq_false, Bool.not_true, Bool.not_false, if_true, if_false, ite_true, ite_false, Nat.reduceEqDiff, Nat.reduceLT, true_and, List.map_cons, List.map_nil, Nat.zero_add, Nat.reduceBEq, cell_load ho, cel_lit]
 refine calledW_of (right_ok d σ1 _ [c] (by simp) (fun x hx => by simp at hx; subst hx; exact hk) (SlOf.fs σ1 5 _ _ _)) ?_
 rintro v σ2 ⟨rfl, g2⟩
 cases hr : right [c] with
 | false =>
  simp -dsimp only [↓WPd, ↓wpC_block, ↓wpC_cond, WPu, Bool.false_eq_true, Bool.true_eq_false, Bool.not_true, Bool.not_false, if_true, if_false, ite_true, ite_false, Nat.reduceEqDiff, Nat.reduceLT, true_and, List.map_cons, List.map_nil, Nat.zero_add, Nat.reduceBEq]
  exact ⟨Told.nil, g0.trans g2⟩
 | true =>
  simp -dsimp only [↓WPd, ↓wpC_block, ↓wpC_cond, WPu, Bool.false_eq_true, Bool.true_eq_false, Bool.not_true, Bool.not_false, if_true, if_false, ite_true, ite_false, Nat.reduceEqDiff, Nat.reduceLT, true_and, List.map_cons, List.map_nil, Nat.zero_add, Nat.reduceBEq]
  exact ⟨Told.lit _ _ [c], g0.trans g2⟩
theorem ofvar_ok (v : Nm) : Called CU.cfg d 45 [nmV v] σ fun r σ' => Told r (varT v) ∧ Grows σ σ' := by
 refine called_of (fn := CU.a45) rfl (Nat.le_of_ble_eq_true rfl) ?_
 simp only [CU.a45]
 simp -dsimp only [↓WPd, ↓wpC_block, ↓wpC_cond, WPu, Bool.false_eq_true, Bool.true_eq_false, Bool.not_true, Bool.not_false, if_true, if_false, ite_true, ite_false, Nat.reduceEqDiff, Nat.reduceLT, true_and, List.map_cons, List.map_nil, Nat.zero_add, Nat.reduceBEq, nm_cells, nm_one]
 have ho : (σ ++ [AObj.cells (nmC v)])[σ.length]? = some (.cells (nmC v)) := by simp
 have g0 : Grows σ (σ ++ [AObj.cells (nmC v)]) := Grows.app _ _
 generalize σ ++ [AObj.cells (nmC v)] = σ1 at ho g0
 generalize σ.length = i1 at ho
 simp -dsimp only [↓WPd, ↓wpC_block, ↓wpC_cond, WPu, Bool.false_eq_true, Bool.true_eq_false, Bool.not_true, Bool.not_false, if_true, if_false, ite_true, ite_false, Nat.reduceEqDiff, Nat.reduceLT, true_and, List.map_cons, List.map_nil, Nat.zero_add, Nat.reduceBEq, load_nm ho, vcel_build]
 refine calledW_of (single_ok d σ1 (vCel v) ⟨by simp [vCel], by simp [vCel]⟩) ?_
 rintro r σ2 ⟨h, g2⟩
 simp -dsimp only [↓WPd, ↓wpC_block, ↓wpC_cond, WPu, Bool.false_eq_true, Bool.true_eq_false, Bool.not_true, Bool.not_false, if_true, if_false, ite_true, ite_false, Nat.reduceEqDiff, Nat.reduceLT, true_and, List.map_cons, List.map_nil, Nat.zero_add, Nat.reduceBEq]
 rw [right_var] at h
 exact ⟨h, g0.trans g2⟩
theorem rone_ok (c : Cel) : Called CU.cfg d 79 [c.val] σ fun r σ' => Told r (if c.ok then [c] else []) ∧ Grows σ σ' := by
 refine called_of (fn := CU.a79) rfl (Nat.le_of_ble_eq_true rfl) ?_
 simp only [CU.a79]
 simp -dsimp only [↓WPd, ↓wpC_block, ↓wpC_cond, WPu, Bool.false_eq_true, Bool.true_eq_false, Bool.not_true, Bool.not_false, if_true, if_false, ite_true, ite_false, Nat.reduceEqDiff, Nat.reduceLT, true_and, List.map_cons, List.map_nil, Nat.zero_add, Nat.reduceBEq, Cel.cells, Cel.one]
 have ho : (σ ++ [AObj.cells c.cs])[σ.length]? = some (.cells c.cs) := by simp
 have g0 : Grows σ (σ ++ [AObj.cells c.cs]) := Grows.app _ _
 generalize σ ++ [AObj.cells c.cs] = σ1 at ho g0
 generalize σ.length = i1 at ho
 simp -dsimp only [↓WPd, ↓wpC_block, ↓wpC_cond, WPu, Bool.false_eq_true, Bool.true_eq_false, Bool.not_true, Bool.not_false, if_true, if_false, ite_true, ite_false, Nat.reduceEqDiff, Nat.reduceLT, true_and, List.map_cons, List.map_nil, Nat.zero_add, Nat.reduceBEq, cell_load ho]
 refine calledW_of (cell_ok d σ1 c) ?_
 rintro v σ2 ⟨rfl, g2⟩
 have ho2 := g2.get ho
 cases hr : c.ok with
 | false =>
  simp -dsimp only [↓WPd, ↓wpC_block, ↓wpC_cond, WPu, Bool.false_eq_true, Bool.true_eq_false, Bool.not_true, Bool.not_false, if_true, if_false, ite_true, ite_false, Nat.reduceEqDiff, Nat.reduceLT, true_and, List.map_cons, List.map_nil, Nat.zero_add, Nat.reduceBEq]
  exact ⟨Told.nil, g0.trans g2⟩
 | true =>
  simp -dsimp only [↓WPd, ↓wpC_block, ↓wpC_cond, WPu, Bool.false_eq_true, Bool.true_eq_false, Bool.not_true, Bool.not_false, if_true, if_false, ite_true, ite_false, Nat.reduceEqDiff, Nat.reduceLT, true_and, List.map_cons, List.map_nil, Nat.zero_add, Nat.reduceBEq, cell_load ho2, cel_lit]
  exact ⟨Told.lit _ _ [c], g0.trans g2⟩
theorem rofvar_ok (v : Nm) : Called CU.cfg d 53 [nmV v] σ fun r σ' => Told r (varT v) ∧ Grows σ σ' := by
 refine called_of (fn := CU.a53) rfl (Nat.le_of_ble_eq_true rfl) ?_
 simp only [CU.a53]
 simp -dsimp only [↓WPd, ↓wpC_block, ↓wpC_cond, WPu, Bool.false_eq_true, Bool.true_eq_false, Bool.not_true, Bool.not_false, if_true, if_false, ite_true, ite_false, Nat.reduceEqDiff, Nat.reduceLT, true_and, List.map_cons, List.map_nil, Nat.zero_add, Nat.reduceBEq, nm_cells, nm_one]
 have ho : (σ ++ [AObj.cells (nmC v)])[σ.length]? = some (.cells (nmC v)) := by simp
 have g0 : Grows σ (σ ++ [AObj.cells (nmC v)]) := Grows.app _ _
 generalize σ ++ [AObj.cells (nmC v)] = σ1 at ho g0
 generalize σ.length = i1 at ho
 simp -dsimp only [↓WPd, ↓wpC_block, ↓wpC_cond, WPu, Bool.false_eq_true, Bool.true_eq_false, Bool.not_true, Bool.not_false, if_true, if_false, ite_true, ite_false, Nat.reduceEqDiff, Nat.reduceLT, true_and, List.map_cons, List.map_nil, Nat.zero_add, Nat.reduceBEq, load_nm ho, vcel_build]
 refine calledW_of (rone_ok d σ1 (vCel v)) ?_
 rintro r σ2 ⟨h, g2⟩
 simp -dsimp only [↓WPd, ↓wpC_block, ↓wpC_cond, WPu, Bool.false_eq_true, Bool.true_eq_false, Bool.not_true, Bool.not_false, if_true, if_false, ite_true, ite_false, Nat.reduceEqDiff, Nat.reduceLT, true_and, List.map_cons, List.map_nil, Nat.zero_add, Nat.reduceBEq]
 exact ⟨h, g0.trans g2⟩
theorem hnew_ok : Called CU.cfg d 26 [] σ fun r σ' => ∃ id mid, r = .ptr id 0 ∧ HeapP σ' id mid [] [] ∧ Grows σ σ' ∧ id < σ'.length ∧ mid < σ'.length ∧ σ.length ≤ id ∧ σ.length ≤ mid := by
 refine called_of (fn := CU.a26) rfl (Nat.le_of_ble_eq_true rfl) ?_
 have e1 : fillA [AVal.nilmap] [(0, 1, AVal.map σ.length)] = some [AVal.map σ.length] := rfl
 have e2 : [AVal.map σ.length].all AVal.one = true := rfl
 simp only [CU.a26]
 simp -dsimp only [↓WPd, ↓wpC_block, ↓wpC_cond, WPu, Bool.false_eq_true, Bool.true_eq_false, Bool.not_true, Bool.not_false, if_true, if_false, ite_true, ite_false, Nat.reduceEqDiff, Nat.reduceLT, true_and, List.map_cons, List.map_nil, Nat.zero_add, Nat.reduceBEq, e1, e2, cells_agg]
 refine ⟨_, σ.length, rfl, ⟨by simp, ?_, .nil, WF.nil⟩, Grows.trans (Grows.app _ _) (Grows.app _ _), by simp, by simp, by simp, Nat.le_refl _⟩
 simp
theorem value_ok (hv : AVal) (H : Hp) (v : Nm) (h : HeapV σ hv H) : Called CU.cfg d 32 [hv, nmV v] σ fun r σ' => ∃ u, r = .tuple [u, .bool (lk H v).isSome] ∧ Told u ((lk H v).getD []) ∧ Grows σ σ' := by
 refine called_of (fn := CU.a32) rfl (Nat.le_of_ble_eq_true rfl) ?_
 simp only [CU.a32]
 simp -dsimp only [↓WPd, ↓wpC_block, ↓wpC_cond, WPu, Bool.false_eq_true, Bool.true_eq_false, Bool.not_true, Bool.not_false, if_true, if_false, ite_true, ite_false, Nat.reduceEqDiff, Nat.reduceLT, true_and, List.map_cons, List.map_nil, Nat.zero_add, Nat.reduceBEq, nm_cells, nm_one]
 have ho : (σ ++ [AObj.cells (nmC v)])[σ.length]? = some (.cells (nmC v)) := by simp
 have g0 : Grows σ (σ ++ [AObj.cells (nmC v)]) := Grows.app _ _
 have h1 := h.grow g0
 generalize σ ++ [AObj.cells (nmC v)] = σ1 at ho g0 h1
 generalize σ.length = i1 at ho
 rcases h1 with ⟨rfl, rfl⟩ | ⟨id, mid, vs, rfl, hp⟩
 ·have e : isNil .p .nilptr = some true := rfl
  simp -dsimp only [↓WPd, ↓wpC_block, ↓wpC_cond, WPu, Bool.false_eq_true, Bool.true_eq_false, Bool.not_true, Bool.not_false, if_true, if_false, ite_true, ite_false, Nat.reduceEqDiff, Nat.reduceLT, true_and, List.map_cons, List.map_nil, Nat.zero_add, Nat.reduceBEq, e]
  exact ⟨.nilslice, rfl, Told.nil, g0⟩
 ·obtain ⟨u, l1, l2⟩ := hp.look v
  have e0 : ([AVal.map mid] : List AVal)[0]? = some (.map mid) := rfl
  simp -dsimp only [↓WPd, ↓wpC_block, ↓wpC_cond, WPu, Bool.false_eq_true, Bool.true_eq_false, Bool.not_true, Bool.not_false, if_true, if_false, ite_true, ite_false, Nat.reduceEqDiff, Nat.reduceLT, true_and, List.map_cons, List.map_nil, Nat.zero_add, Nat.reduceBEq, isnil_ptr, faddr_ptr, Nat.add_zero, load_cells hp.obj, e0, load_nm ho, l1, List.getElem?_cons_zero, List.getElem?_cons_succ]
  exact ⟨u, rfl, l2, g0⟩
theorem hbind_ok (id mid : Nat) (vs : List AVal) (H : Hp) (v : Nm) (tv : AVal) (t : List Cel) (h : HeapP σ id mid vs H) (hs : Small t) (ht : SlOf σ 5 tv (CC t)) :
  Called CU.cfg d 20 [.ptr id 0, nmV v, tv] σ fun r σ' => r = .int .i64 (bindE H v t) ∧ (∃ vs', HeapP σ' id mid vs' (bindH H v t)) ∧ Keeps (fun i => i = mid) σ σ' := by
 refine called_of (fn := CU.a20) rfl (Nat.le_of_ble_eq_true rfl) ?_
 simp only [CU.a20]
 simp -dsimp only [↓WPd, ↓wpC_block, ↓wpC_cond, WPu, Bool.false_eq_true, Bool.true_eq_false, Bool.not_true, Bool.not_false, if_true, if_false, ite_true, ite_false, Nat.reduceEqDiff, Nat.reduceLT, true_and, List.map_cons, List.map_nil, Nat.zero_add, Nat.reduceBEq, nm_cells, nm_one]
 have ho : (σ ++ [AObj.cells (nmC v)])[σ.length]? = some (.cells (nmC v)) := by simp
 have g0 : Grows σ (σ ++ [AObj.cells (nmC v)]) := Grows.app _ _
 have h1 := h.grow g0
 have ht1 := ht.grow g0
 have hlt : id < σ.length ∧ mid < σ.length := ⟨(List.getElem?_eq_some_iff.1 h.obj).1, (List.getElem?_eq_some_iff.1 h.map).1⟩
 generalize σ ++ [AObj.cells (nmC v)] = σ1 at ho g0 h1 ht1
 have hi1 : σ.length ≠ mid := by omega
 generalize hq : σ.length = i1 at ho hi1
 simp -dsimp only [↓WPd, ↓wpC_block, ↓wpC_cond, WPu, Bool.false_eq_true, Bool.true_eq_false, Bool.not_true, Bool.not_false, if_true, if_false, ite_true, ite_false, Nat.reduceEqDiff, Nat.reduceLT, true_and, List.map_cons, List.map_nil, Nat.zero_add, Nat.reduceBEq, WPm, isnil_ptr, faddr_ptr, Nat.add_zero, load_cells ho, nm_g0, load_nm ho]
 have fin : ∀ {σ' : Store} {e : Int}, Grows σ σ' → bindE H v t = e → e ≠ 0 → AVal.int .i64 e = .int .i64 (bindE H v t) ∧ (∃ vs', HeapP σ' id mid vs' (bindH H v t)) ∧ Keeps (fun i => i = mid) σ σ' := fun g e1 e2 => ⟨by rw [e1], ⟨vs, by rw [bindH, if_neg (by rw [e1]; exact e2)]; exact h.grow g⟩, g.any⟩
 cases hn : decide (v.1 < 0) with
 | true =>
  simp -dsimp only [↓WPd, ↓wpC_block, ↓wpC_cond, WPu, Bool.false_eq_true, Bool.true_eq_false, Bool.not_true, Bool.not_false, if_true, if_false, ite_true, ite_false, Nat.reduceEqDiff, Nat.reduceLT, true_and, List.map_cons, List.map_nil, Nat.zero_add, Nat.reduceBEq, WPm]
  exact fin (e := 6) g0 (by unfold bindE; rw [hn]; rfl) (by decide)
 | false =>
  simp -dsimp only [↓WPd, ↓wpC_block, ↓wpC_cond, WPu, Bool.false_eq_true, Bool.true_eq_false, Bool.not_true, Bool.not_false, if_true, if_false, ite_true, ite_false, Nat.reduceEqDiff, Nat.reduceLT, true_and, List.map_cons, List.map_nil, Nat.zero_add, Nat.reduceBEq, WPm]
  refine calledW_of (ofvar_ok d σ1 v) ?_
  rintro r σ2 ⟨hr, g2⟩
  have lr : lenSV r = some (CC (varT v)).length := (hr σ2).len
  have h2 := h1.grow g2
  have ht2 := ht1.grow g2
  have ho2 := g2.get ho
  cases hov : okVar v with
  | false =>
   have lr' : lenSV r = some 0 := by rw [lr]; simp [varT, hov]
   have e0 : (((0 : Nat) : Int) == 0) = true := rfl
   simp -dsimp only [↓WPd, ↓wpC_block, ↓wpC_cond, WPu, Bool.false_eq_true, Bool.true_eq_false, Bool.not_true, Bool.not_false, if_true, if_false, ite_true, ite_false, Nat.reduceEqDiff, Nat.reduceLT, true_and, List.map_cons, List.map_nil, Nat.zero_add, Nat.reduceBEq, WPm, lr', e0]
   exact fin (e := 6) (g0.trans g2) (by unfold bindE; rw [hn, hov]; rfl) (by decide)
  | true =>
   have lr' : lenSV r = some 1 := by rw [lr]; simp [varT, hov]
   have e0 : (((1 : Nat) : Int) == 0) = false := rfl
   simp -dsimp only [↓WPd, ↓wpC_block, ↓wpC_cond, WPu, Bool.false_eq_true, Bool.true_eq_false, Bool.not_true, Bool.not_false, if_true, if_false, ite_true, ite_false, Nat.reduceEqDiff, Nat.reduceLT, true_and, List.map_cons, List.map_nil, Nat.zero_add, Nat.reduceBEq, WPm, lr', e0]
   refine calledW_of (global_ok d σ2 tv t hs ht2) ?_
   rintro r3 σ3 ⟨rfl, g3⟩
   have h3 := h2.grow g3
   have ht3 := ht2.grow g3
   have ho3 := g3.get ho2
   have g03 := (g0.trans g2).trans g3
   cases hg : glob t with
   | false =>
    simp -dsimp only [↓WPd, ↓wpC_block, ↓wpC_cond, WPu, Bool.false_eq_true, Bool.true_eq_false, Bool.not_true, Bool.not_false, if_true, if_false, ite_true, ite_false, Nat.reduceEqDiff, Nat.reduceLT, true_and, List.map_cons, List.map_nil, Nat.zero_add, Nat.reduceBEq, WPm]
    exact fin (e := 6) g03 (by unfold bindE; rw [hn, hov, hg]; rfl) (by decide)
   | true =>
    obtain ⟨u, l1, l2⟩ := h3.look v
    have e1 : ([AVal.map mid] : List AVal)[0]? = some (.map mid) := rfl
    simp -dsimp only [↓WPd, ↓wpC_block, ↓wpC_cond, WPu, Bool.false_eq_true, Bool.true_eq_false, Bool.not_true, Bool.not_false, if_true, if_false, ite_true, ite_false, Nat.reduceEqDiff, Nat.reduceLT, true_and, List.map_cons, List.map_nil, Nat.zero_add, Nat.reduceBEq, WPm, isnil_ptr, faddr_ptr, Nat.add_zero, load_cells h3.obj, e1, load_nm ho3, l1, List.getElem?_cons_zero, List.getElem?_cons_succ]
    cases hl : (lk H v).isSome with
    | true =>
     simp -dsimp only [↓WPd, ↓wpC_block, ↓wpC_cond, WPu, Bool.false_eq_true, Bool.true_eq_false, Bool.not_true, Bool.not_false, if_true, if_false, ite_true, ite_false, Nat.reduceEqDiff, Nat.reduceLT, true_and, List.map_cons, List.map_nil, Nat.zero_add, Nat.reduceBEq]
     exact fin (e := 70) g03 (by unfold bindE; rw [hn, hov, hg, hl]; rfl) (by decide)
    | false =>
     have hl' : lk H v = none := by simpa using hl
     obtain ⟨c, s, rfl⟩ : ∃ c s, t = c :: s := List.exists_cons_of_ne_nil (right_ne (glob_right hg))
     have hi0 : 0 < (CC (c :: s)).length := by simp
     have hb := (ht3.addr hi0 .i64).2
     rw [cel_get] at hb
     have hb' : behind σ3 (addrOf 5 tv 0) = some (c.cs, 0) := hb
     obtain ⟨q0, p0, b0⟩ := faddr_at hb' 0
     obtain ⟨q3, p3, b3⟩ := faddr_at hb' 3
     have r0 : loadV σ3 1 false q0 = some (.int .u8 c.k) := load_at b0
     have r3 : loadV σ3 2 true q3 = some (nmV c.v) := loadN_at b3 (by simp [Cel.cs])
     have ia : iaddrV 5 tv (.int .i64 0) = some (addrOf 5 tv 0) := ht3.iaddr hi0 .i64
     have k4 : ((c.k : Int) == 4) = decide (c.k = 4) := by by_cases h : c.k = 4 <;> simp [h] <;> omega
     have last : ∀ {σ4 : Store}, Grows σ3 σ4 → okB (v, c :: s) → ∀ (K : List AVal → Store → AVal → Prop) (fr : List AVal) (w : Wit K), (∀ u σ5, mapsetV σ4 true [.i, .i] (.map mid) (nmV v) u = some σ5 → (∃ vs', HeapP σ5 id mid vs' (bindH H v (c :: s))) → Keeps (fun i => i = mid) σ4 σ5 → K fr σ4 u) → isoW CU.cfg d 33 [tv] fr σ4 K w := by
      intro σ4 g4 hok K fr w hk
      refine isoclone d σ4 tv (c :: s) hs.1 (by simp) (ht3.grow g4) (fun u hu => ?_)
      obtain ⟨σ5, m1, m2, m3⟩ := (h3.grow g4).set hl' hu hok
      exact hk u σ5 m1 ⟨vs ++ [u], by rw [bindH, if_pos (bindE_of hok hl')]; exact m2⟩ m3
     have okb : (c.k = 4 → nless c.v v = true) → okB (v, c :: s) := fun h => ⟨by simp only [decide_eq_false_iff_not] at hn; simp only; omega, hov, hg, h⟩
     have fin2 : ∀ {σ4 σ5 : Store}, Grows σ3 σ4 → okB (v, c :: s) → (∃ vs', HeapP σ5 id mid vs' (bindH H v (c :: s))) → Keeps (fun i => i = mid) σ4 σ5 → AVal.int .i64 0 = .int .i64 (bindE H v (c :: s)) ∧ (∃ vs', HeapP σ5 id mid vs' (bindH H v (c :: s))) ∧ Keeps (fun i => i = mid) σ σ5 :=
      fun g4 hok hh k => ⟨by rw [bindE_of hok hl'], hh, Keeps.trans (g03.trans g4).any k fun _ _ h => h⟩
     simp -dsimp only [↓WPd, ↓wpC_block, ↓wpC_cond, WPu, Bool.false_eq_true, Bool.true_eq_false, Bool.not_true, Bool.not_false, if_true, if_false, ite_true, ite_false, Nat.reduceEqDiff, Nat.reduceLT, true_and, List.map_cons, List.map_nil, Nat.zero_add, Nat.reduceBEq, WPm, ia, p0, r0, k4]
     cases hk4 : decide (c.k = 4) with
     | true =>
      simp -dsimp only [↓WPd, ↓wpC_block, ↓wpC_cond, WPu, Bool.false_eq_true, Bool.true_eq_false, Bool.not_true, Bool.not_false, if_true, if_false, ite_true, ite_false, Nat.reduceEqDiff, Nat.reduceLT, true_and, List.map_cons, List.map_nil, Nat.zero_add, Nat.reduceBEq, WPm, ia, p3, r3, load_nm ho3]
      refine calledW_of (less_ok d σ3 c.v v) ?_
      rintro r4 σ4 ⟨rfl, g4⟩
      have h4 := h3.grow g4
      have ho4 := g4.get ho3
      cases hless : nless c.v v with
      | false =>
       simp -dsimp only [↓WPd, ↓wpC_block, ↓wpC_cond, WPu, Bool.false_eq_true, Bool.true_eq_false, Bool.not_true, Bool.not_false, if_true, if_false, ite_true, ite_false, Nat.reduceEqDiff, Nat.reduceLT, true_and, List.map_cons, List.map_nil, Nat.zero_add, Nat.reduceBEq, WPm]
       exact fin (e := 71) (g03.trans g4) (by
        have e : (decide (((c :: s).headD default).k = 4) && !nless ((c :: s).headD default).v v) = true := by
         show (decide (c.k = 4) && !nless c.v v) = true
         rw [hless, hk4]; rfl
        unfold bindE; rw [hn, hov, hg, hl, e]; rfl) (by decide)
      | true =>
       have hok := okb fun _ => hless
       simp -dsimp only [↓WPd, ↓wpC_block, ↓wpC_cond, WPu, Bool.false_eq_true, Bool.true_eq_false, Bool.not_true, Bool.not_false, if_true, if_false, ite_true, ite_false, Nat.reduceEqDiff, Nat.reduceLT, true_and, List.map_cons, List.map_nil, Nat.zero_add, Nat.reduceBEq, WPm, isnil_ptr, faddr_ptr, Nat.add_zero, load_cells h4.obj, e1, load_nm ho4]
       refine last g4 hok _ _ _ fun u σ5 m1 m2 m3 => ?_
       simp -dsimp only [↓WPd, ↓wpC_block, ↓wpC_cond, WPu, Bool.false_eq_true, Bool.true_eq_false, Bool.not_true, Bool.not_false, if_true, if_false, ite_true, ite_false, Nat.reduceEqDiff, Nat.reduceLT, true_and, List.map_cons, List.map_nil, Nat.zero_add, Nat.reduceBEq, m1]
       exact fin2 g4 hok m2 m3
     | false =>
      have hok := okb fun h => absurd h (by simpa using hk4)
      simp -dsimp only [↓WPd, ↓wpC_block, ↓wpC_cond, WPu, Bool.false_eq_true, Bool.true_eq_false, Bool.not_true, Bool.not_false, if_true, if_false, ite_true, ite_false, Nat.reduceEqDiff, Nat.reduceLT, true_and, List.map_cons, List.map_nil, Nat.zero_add, Nat.reduceBEq, WPm, isnil_ptr, faddr_ptr, Nat.add_zero, load_cells h3.obj, e1, load_nm ho3]
      refine last (Keeps.refl _ _) hok _ _ _ fun u σ5 m1 m2 m3 => ?_
      simp -dsimp only [↓WPd, ↓wpC_block, ↓wpC_cond, WPu, Bool.false_eq_true, Bool.true_eq_false, Bool.not_true, Bool.not_false, if_true, if_false, ite_true, ite_false, Nat.reduceEqDiff, Nat.reduceLT, true_and, List.map_cons, List.map_nil, Nat.zero_add, Nat.reduceBEq, m1]
      exact fin2 (Keeps.refl _ _) hok m2 m3
end
def bdV (v : Nm) (u : AVal) : AVal := .agg [.int .i64 v.1, .int .i64 v.2, u]
def bdC (v : Nm) (u : AVal) : List AVal := [.int .i64 v.1, .int .i64 v.2, u]
def BdRel (σ : Store) (A : Nat → Prop) (e : AVal) (p : Nm × List Cel) : Prop := ∃ u, e = bdV p.1 u ∧ SlOf σ 5 u (CC p.2) ∧ ∀ i, u.sid = some i → A i
theorem BdRel.keeps {σ σ' : Store} {A B M : Nat → Prop} {e : AVal} {p : Nm × List Cel} (h : BdRel σ A e p) (hk : Keeps M σ σ') (ha : ∀ i, i < σ.length → A i → B i ∧ ¬ M i) : BdRel σ' B e p := by
 obtain ⟨u, h1, h2, h3⟩ := h
 exact ⟨u, h1, h2.keeps hk fun i hi => (ha i (h2.lt hi) (h3 i hi)).2, fun i hi => (ha i (h2.lt hi) (h3 i hi)).1⟩
theorem bdV_one {σ : Store} {u : AVal} {t : List AVal} (v : Nm) (h : SlOf σ 5 u t) : (bdC v u).all AVal.one = true := by
 simp only [bdC, List.all_cons, List.all_nil, h.one]; rfl
def RefP (σ : Store) (A : Nat → Prop) (id : Nat) (R : Hp) : Prop := ∃ w es, σ[id]? = some (.cells [w]) ∧ SlOf σ 3 w es ∧ (∀ i, w.sid = some i → A i) ∧ Two (BdRel σ A) es R
theorem RefP.keeps {σ σ' : Store} {A B M : Nat → Prop} {id : Nat} {R : Hp} (h : RefP σ A id R) (hk : Keeps M σ σ') (hi : ¬ M id) (ha : ∀ i, i < σ.length → A i → B i ∧ ¬ M i) : RefP σ' B id R := by
 obtain ⟨w, es, h1, h2, h3, h4⟩ := h
 exact ⟨w, es, hk.get h1 hi, h2.keeps hk fun i hw => (ha i (h2.lt hw) (h3 i hw)).2, fun i hw => (ha i (h2.lt hw) (h3 i hw)).1, h4.mono fun e p he => he.keeps hk ha⟩
theorem RefP.grow {σ σ' : Store} {A : Nat → Prop} {id : Nat} {R : Hp} (h : RefP σ A id R) (g : Grows σ σ') : RefP σ' A id R := h.keeps g (fun h => h) fun i _ a => ⟨a, fun h => h⟩
def RefV (σ : Store) (rv : AVal) (R : Hp) : Prop := (rv = .nilptr ∧ R = []) ∨ ∃ id A, rv = .ptr id 0 ∧ RefP σ A id R
theorem RefV.grow {σ σ' : Store} {rv : AVal} {R : Hp} (h : RefV σ rv R) (g : Grows σ σ') : RefV σ' rv R := by
 rcases h with h | ⟨id, A, e, h⟩
 ·exact .inl h
 ·exact .inr ⟨id, A, e, h.grow g⟩
theorem RefP.v {σ : Store} {A : Nat → Prop} {id : Nat} {R : Hp} (h : RefP σ A id R) : RefV σ (.ptr id 0) R := .inr ⟨id, A, rfl, h⟩
section
variable (d : Nat) (σ : Store)
theorem rnew_ok : Called CU.cfg d 28 [] σ fun r σ' => ∃ id, r = .ptr id 0 ∧ RefP σ' (fun _ => False) id [] ∧ Grows σ σ' ∧ id < σ'.length ∧ σ.length ≤ id := by
 refine called_of (fn := CU.a28) rfl (Nat.le_of_ble_eq_true rfl) ?_
 have e1 : fillA [AVal.nilslice] [] = some [AVal.nilslice] := rfl
 have e2 : [AVal.nilslice].all AVal.one = true := rfl
 simp only [CU.a28]
 simp -dsimp only [↓WPd, ↓wpC_block, ↓wpC_cond, WPu, Bool.false_eq_true, Bool.true_eq_false, Bool.not_true, Bool.not_false, if_true, if_false, ite_true, ite_false, Nat.reduceEqDiff, Nat.reduceLT, true_and, List.map_cons, List.map_nil, Nat.zero_add, Nat.reduceBEq, e1, e2, cells_agg]
 exact ⟨_, rfl, ⟨.nilslice, [], by simp, SlOf.nil _ _, (fun i h => by cases h), Two.nil⟩, Grows.app _ _, by simp, Nat.le_refl _⟩
theorem place_ok (rv : AVal) (R : Hp) (v : Nm) (h : RefV σ rv R) (hR : R.length < 2 ^ 40) : Called CU.cfg d 55 [rv, nmV v] σ fun r σ' => ∃ k : Int, r = .int .i64 k ∧ (match lk R v with | some t => ∃ j : Nat, k = j ∧ R[j]? = some (v, t) | none => k = -1) ∧ Grows σ σ' := by
 refine called_of (fn := CU.a55) rfl (Nat.le_of_ble_eq_true rfl) ?_
 simp only [CU.a55]
 simp -dsimp only [↓WPd, ↓wpC_block, ↓wpC_cond, WPu, Bool.false_eq_true, Bool.true_eq_false, Bool.not_true, Bool.not_false, if_true, if_false, ite_true, ite_false, Nat.reduceEqDiff, Nat.reduceLT, true_and, List.map_cons, List.map_nil, Nat.zero_add, Nat.reduceBEq, nm_cells, nm_one]
 have ho : (σ ++ [AObj.cells (nmC v)])[σ.length]? = some (.cells (nmC v)) := by simp
 have g0 : Grows σ (σ ++ [AObj.cells (nmC v)]) := Grows.app _ _
 have h1 := h.grow g0
 generalize σ ++ [AObj.cells (nmC v)] = σ1 at ho g0 h1
 generalize σ.length = i1 at ho
 refine loop_rule (fun m vs σ' => ∃ k : Nat, k ≤ R.length ∧ m = R.length - k ∧ vs = [rv, .ptr i1 0, .int .i64 k] ∧ σ' = σ1 ∧ ∀ p ∈ R.take k, p.1 ≠ v) R.length ⟨0, Nat.zero_le _, rfl, ?_, rfl, fun p hp => by simp at hp⟩ ?_
 ·simp -dsimp only [↓WPd, ↓wpC_block, ↓wpC_cond, WPu, Bool.false_eq_true, Bool.true_eq_false, Bool.not_true, Bool.not_false, if_true, if_false, ite_true, ite_false, Nat.reduceEqDiff, Nat.reduceLT, true_and, List.map_cons, List.map_nil, Nat.zero_add, Nat.reduceBEq]; rfl
 ·rintro m vs σ' ⟨k, hk, rfl, rfl, rfl, ha⟩
  have hnone : (∀ p ∈ R, p.1 ≠ v) → lk R v = none := fun h => lk_none.2 fun hm => by
   obtain ⟨p, hp, e⟩ := List.mem_map.1 hm
   exact h p hp e
  rcases h1 with ⟨rfl, rfl⟩ | ⟨id, A, rfl, w, es, o1, o2, -, o4⟩
  ·have e : isNil .p .nilptr = some true := rfl
   simp -dsimp only [↓WPd, ↓wpC_block, ↓wpC_cond, WPu, Bool.false_eq_true, Bool.true_eq_false, Bool.not_true, Bool.not_false, if_true, if_false, ite_true, ite_false, Nat.reduceEqDiff, Nat.reduceLT, true_and, List.map_cons, List.map_nil, Nat.zero_add, Nat.reduceBEq, WPm, e]
   exact ⟨-1, rfl, rfl, g0⟩
  ·have hlen := o4.len
   have lw := o2.len
   rw [hlen] at lw
   have e0 : ([w] : List AVal)[0]? = some w := rfl
   simp -dsimp only [↓WPd, ↓wpC_block, ↓wpC_cond, WPu, Bool.false_eq_true, Bool.true_eq_false, Bool.not_true, Bool.not_false, if_true, if_false, ite_true, ite_false, Nat.reduceEqDiff, Nat.reduceLT, true_and, List.map_cons, List.map_nil, Nat.zero_add, Nat.reduceBEq, WPm, isnil_ptr, faddr_ptr, Nat.add_zero, load_cells o1, e0, lw]
   refine condP_dec (fun hc => ?_) (fun hc => ?_)
   ·have hk' : k < R.length := by omega
    have hke : k < es.length := by omega
    obtain ⟨e, he1, u, he2, he3, -⟩ := o4.get hk'
    have hee : es[k] = e := by rw [List.getElem?_eq_getElem hke] at he1; exact Option.some.inj he1
    have hb := (o2.addr hke .i64).2
    rw [hee, he2] at hb
    have hb' : behind σ' (addrOf 3 w k) = some (bdC (R[k]).1 u, 0) := hb
    obtain ⟨q0, p0, b0⟩ := faddr_at hb' 0
    have r0 : loadV σ' 2 true q0 = some (nmV (R[k]).1) := loadN_at b0 (by simp [bdC])
    have ia : iaddrV 3 w (.int .i64 k) = some (addrOf 3 w k) := o2.iaddr hke .i64
    simp -dsimp only [↓WPd, ↓wpC_block, ↓wpC_cond, WPu, Bool.false_eq_true, Bool.true_eq_false, Bool.not_true, Bool.not_false, if_true, if_false, ite_true, ite_false, Nat.reduceEqDiff, Nat.reduceLT, true_and, List.map_cons, List.map_nil, Nat.zero_add, Nat.reduceBEq, WPm, isnil_ptr, faddr_ptr, Nat.add_zero, load_cells o1, e0, lw, ia, p0, r0, load_nm ho, nm_eqs]
    have ht : R.take (k + 1) = R.take k ++ [R[k]] := List.take_succ_eq_append_getElem hk'
    refine condP_dec (fun hv => ?_) (fun hv => ?_)
    ·simp -dsimp only [↓WPd, ↓wpC_block, ↓wpC_cond, WPu, Bool.false_eq_true, Bool.true_eq_false, Bool.not_true, Bool.not_false, if_true, if_false, ite_true, ite_false, Nat.reduceEqDiff, Nat.reduceLT, true_and, List.map_cons, List.map_nil, Nat.zero_add, Nat.reduceBEq]
     have hl : lk R v = some (R[k]).2 := by
      have : ∀ (R : Hp) (k : Nat) (hk : k < R.length), (∀ p ∈ R.take k, p.1 ≠ v) → (R[k]).1 = v → lk R v = some (R[k]).2 := by
       intro R
       induction R with
       | nil => intro k hk; simp at hk
       | cons q r ih =>
        intro k hk h1 h2
        cases k with
        | zero => simp only [List.getElem_cons_zero] at h2 ⊢; simp [lk, h2]
        | succ k =>
         have : q.1 ≠ v := h1 q (by simp)
         simp only [List.getElem_cons_succ] at h2 ⊢
         rw [lk, if_neg this]
         exact ih k (by simpa using hk) (fun p hp => h1 p (by simp [hp])) h2
      exact this R k hk' ha hv
     rw [hl]
     exact ⟨_, rfl, ⟨k, rfl, by rw [List.getElem?_eq_getElem hk', ← hv]⟩, g0⟩
    ·simp -dsimp only [↓WPd, ↓wpC_block, ↓wpC_cond, WPu, Bool.false_eq_true, Bool.true_eq_false, Bool.not_true, Bool.not_false, if_true, if_false, ite_true, ite_false, Nat.reduceEqDiff, Nat.reduceLT, true_and, List.map_cons, List.map_nil, Nat.zero_add, Nat.reduceBEq]
     refine ⟨R.length - (k + 1), by omega, k + 1, by omega, rfl, ?_, fun p hp => ?_⟩
     ·rw [wrap_i64 (by omega) (by omega), Int.natCast_add, Int.natCast_one]
     ·rw [ht] at hp
      rcases List.mem_append.1 hp with hp | hp
      ·exact ha p hp
      ·simp at hp; rw [hp]; exact hv
   ·have hk2 : k = R.length := by omega
    subst hk2
    rw [List.take_length] at ha
    simp -dsimp only [↓WPd, ↓wpC_block, ↓wpC_cond, WPu, Bool.false_eq_true, Bool.true_eq_false, Bool.not_true, Bool.not_false, if_true, if_false, ite_true, ite_false, Nat.reduceEqDiff, Nat.reduceLT, true_and, List.map_cons, List.map_nil, Nat.zero_add, Nat.reduceBEq]
    rw [hnone ha]
    exact ⟨-1, rfl, rfl, g0⟩
end
theorem bd_build (v : Nm) (u : AVal) (h : u.one = true) : fillA [AVal.int IntKind.i64 0, AVal.int IntKind.i64 0, AVal.nilslice] [(0, 2, nmV v), (2, 1, u)] = some (bdC v u) := by
 have hc : u.cells = [u] := by cases u <;> simp_all [AVal.one]
 have h1 : [u].all AVal.one = true := by simp only [List.all_cons, List.all_nil, h]; rfl
 simp only [fillA, nm_cells, hc, nmC, List.length_cons, List.length_nil, h1]
 rfl
def seqL : ACode → ACode
 | .seq a _ => a
 | c => c
def seqR : ACode → ACode
 | .seq _ b => b
 | c => c
theorem bd_lit (v : Nm) (u : AVal) (h : u.one = true) : fillL 3 true (List.replicate 1 (zel [AVal.int IntKind.i64 0, AVal.int IntKind.i64 0, AVal.nilslice] true)) [(0, .agg (bdC v u))] = some [bdV v u] := by
 have : (bdC v u).all AVal.one = true := by simp only [bdC, List.all_cons, List.all_nil, h]; rfl
 simp only [fillL, AVal.cells, this]
 rfl
section
variable (d : Nat) (σ : Store)
set_option maxHeartbeats 1000000 in
theorem rbind_ok (A : Nat → Prop) (id : Nat) (R : Hp) (v : Nm) (tv : AVal) (t : List Cel) (h : RefP σ A id R) (hR : R.length < 2 ^ 30) (hs : t.length < 2 ^ 30) (ht : SlOf σ 5 tv (CC t)) :
  Called CU.cfg d 29 [.ptr id 0, nmV v, tv] σ fun r σ' => r = .int .i64 (bindE R v t) ∧ RefP σ' (fun i => A i ∨ σ.length ≤ i) id (bindR R v t) ∧ Keeps (fun i => i = id) σ σ' := by
 refine called_of (fn := CU.a29) rfl (Nat.le_of_ble_eq_true rfl) ?_
 obtain ⟨T, hT⟩ : ∃ T, T = seqR (seqR CU.a29.body) := ⟨_, rfl⟩
 rw [show CU.a29.body = .seq (seqL CU.a29.body) (.seq (seqL (seqR CU.a29.body)) T) from by rw [hT]; rfl]
 simp only [CU.a29, seqL, seqR]
 simp -dsimp only [↓WPd, ↓wpC_block, ↓wpC_cond, WPu, Bool.false_eq_true, Bool.true_eq_false, Bool.not_true, Bool.not_false, if_true, if_false, ite_true, ite_false, Nat.reduceEqDiff, Nat.reduceLT, true_and, List.map_cons, List.map_nil, Nat.zero_add, Nat.reduceBEq, nm_cells, nm_one]
 have ho : (σ ++ [AObj.cells (nmC v)])[σ.length]? = some (.cells (nmC v)) := by simp
 have g0 : Grows σ (σ ++ [AObj.cells (nmC v)]) := Grows.app _ _
 have h1 := h.grow g0
 have ht1 := ht.grow g0
 generalize σ ++ [AObj.cells (nmC v)] = σ1 at ho g0 h1 ht1
 have hid : id < σ.length := by obtain ⟨w, es, o1, _⟩ := h; exact (List.getElem?_eq_some_iff.1 o1).1
 have hi1 : σ.length ≠ id := by omega
 generalize hq : σ.length = i1 at ho hi1
 simp -dsimp only [↓WPd, ↓wpC_block, ↓wpC_cond, WPu, Bool.false_eq_true, Bool.true_eq_false, Bool.not_true, Bool.not_false, if_true, if_false, ite_true, ite_false, Nat.reduceEqDiff, Nat.reduceLT, true_and, List.map_cons, List.map_nil, Nat.zero_add, Nat.reduceBEq, WPm, isnil_ptr, load_nm ho]
 refine calledW_of (rofvar_ok d σ1 v) ?_
 rintro r σ2 ⟨hr, g2⟩
 have h2 := h1.grow g2
 have ht2 := ht1.grow g2
 have ho2 := g2.get ho
 have lr : lenSV r = some (CC (varT v)).length := (hr σ2).len
 have weak : ∀ {σ' : Store}, Grows σ σ' → RefP σ' (fun i => A i ∨ i1 ≤ i) id R := fun g => h.keeps g (fun h => h) fun i _ a => ⟨.inl a, fun h => h⟩
 have fin : ∀ {σ' : Store} {e : Int}, Grows σ σ' → bindE R v t = e → e ≠ 0 → AVal.int .i64 e = .int .i64 (bindE R v t) ∧ RefP σ' (fun i => A i ∨ i1 ≤ i) id (bindR R v t) ∧ Keeps (fun i => i = id) σ σ' := fun g e1 e2 =>
  ⟨by rw [e1], by rw [bindR, if_neg (by rw [e1]; exact e2)]; exact weak g, g.any⟩
 cases hov : okVar v with
 | false =>
  have lr' : lenSV r = some 0 := by rw [lr]; simp [varT, hov]
  have e0 : (((0 : Nat) : Int) == 0) = true := rfl
  simp -dsimp only [↓WPd, ↓wpC_block, ↓wpC_cond, WPu, Bool.false_eq_true, Bool.true_eq_false, Bool.not_true, Bool.not_false, if_true, if_false, ite_true, ite_false, Nat.reduceEqDiff, Nat.reduceLT, true_and, List.map_cons, List.map_nil, Nat.zero_add, Nat.reduceBEq, WPm, lr', e0]
  exact fin (e := 6) (g0.trans g2) (by unfold bindE; rw [hov]; simp) (by decide)
 | true =>
  have lr' : lenSV r = some 1 := by rw [lr]; simp [varT, hov]
  have e0 : (((1 : Nat) : Int) == 0) = false := rfl
  simp -dsimp only [↓WPd, ↓wpC_block, ↓wpC_cond, WPu, Bool.false_eq_true, Bool.true_eq_false, Bool.not_true, Bool.not_false, if_true, if_false, ite_true, ite_false, Nat.reduceEqDiff, Nat.reduceLT, true_and, List.map_cons, List.map_nil, Nat.zero_add, Nat.reduceBEq, WPm, lr', e0, faddr_ptr, Nat.add_zero, load_cells ho2, nm_g0]
  cases hn : decide (v.1 < 0) with
  | true =>
   simp -dsimp only [↓WPd, ↓wpC_block, ↓wpC_cond, WPu, Bool.false_eq_true, Bool.true_eq_false, Bool.not_true, Bool.not_false, if_true, if_false, ite_true, ite_false, Nat.reduceEqDiff, Nat.reduceLT, true_and, List.map_cons, List.map_nil, Nat.zero_add, Nat.reduceBEq, WPm]
   exact fin (e := 6) (g0.trans g2) (by unfold bindE; rw [hn]; rfl) (by decide)
  | false =>
   simp -dsimp only [↓WPd, ↓wpC_block, ↓wpC_cond, WPu, Bool.false_eq_true, Bool.true_eq_false, Bool.not_true, Bool.not_false, if_true, if_false, ite_true, ite_false, Nat.reduceEqDiff, Nat.reduceLT, true_and, List.map_cons, List.map_nil, Nat.zero_add, Nat.reduceBEq, WPm]
   refine calledW_of (rglobal_ok d σ2 tv t hs ht2) ?_
   rintro r3 σ3 ⟨rfl, g3⟩
   have h3 := h2.grow g3
   have ht3 := ht2.grow g3
   have ho3 := g3.get ho2
   have g03 := (g0.trans g2).trans g3
   cases hg : glob t with
   | false =>
    simp -dsimp only [↓WPd, ↓wpC_block, ↓wpC_cond, WPu, Bool.false_eq_true, Bool.true_eq_false, Bool.not_true, Bool.not_false, if_true, if_false, ite_true, ite_false, Nat.reduceEqDiff, Nat.reduceLT, true_and, List.map_cons, List.map_nil, Nat.zero_add, Nat.reduceBEq, WPm]
    exact fin (e := 6) g03 (by unfold bindE; rw [hn, hov, hg]; rfl) (by decide)
   | true =>
    simp -dsimp only [↓WPd, ↓wpC_block, ↓wpC_cond, WPu, Bool.false_eq_true, Bool.true_eq_false, Bool.not_true, Bool.not_false, if_true, if_false, ite_true, ite_false, Nat.reduceEqDiff, Nat.reduceLT, true_and, List.map_cons, List.map_nil, Nat.zero_add, Nat.reduceBEq, WPm, load_nm ho3]
    refine calledW_of (place_ok d σ3 (.ptr id 0) R v h3.v (by omega)) ?_
    rintro r4 σ4 ⟨k, rfl, hk, g4⟩
    have h4 := h3.grow g4
    have ht4 := ht3.grow g4
    have ho4 := g4.get ho3
    have g04 := g03.trans g4
    cases hl : lk R v with
    | some t0 =>
     rw [hl] at hk
     obtain ⟨j, rfl, _⟩ := hk
     have e1 : decide ((j : Int) ≥ 0) = true := by simp
     simp -dsimp only [↓WPd, ↓wpC_block, ↓wpC_cond, WPu, Bool.false_eq_true, Bool.true_eq_false, Bool.not_true, Bool.not_false, if_true, if_false, ite_true, ite_false, Nat.reduceEqDiff, Nat.reduceLT, true_and, List.map_cons, List.map_nil, Nat.zero_add, Nat.reduceBEq, e1]
     exact fin (e := 70) g04 (by unfold bindE; rw [hn, hov, hg, hl]; rfl) (by decide)
    | none =>
     rw [hl] at hk
     simp only at hk
     subst hk
     obtain ⟨c, s, hcs⟩ : ∃ c s, t = c :: s := List.exists_cons_of_ne_nil (right_ne (glob_right hg))
     have hhd : t.headD default = c := by rw [hcs]; rfl
     have hi0 : 0 < (CC t).length := by rw [hcs]; simp
     have hb := (ht4.addr hi0 .i64).2
     rw [show (CC t)[0] = c.val by simp [hcs]] at hb
     have hb' : behind σ4 (addrOf 5 tv 0) = some (c.cs, 0) := hb
     obtain ⟨q0, p0, b0⟩ := faddr_at hb' 0
     obtain ⟨q3, p3, b3⟩ := faddr_at hb' 3
     have r0 : loadV σ4 1 false q0 = some (.int .u8 c.k) := load_at b0
     have r3 : loadV σ4 2 true q3 = some (nmV c.v) := loadN_at b3 (by simp [Cel.cs])
     have ia : iaddrV 5 tv (.int .i64 0) = some (addrOf 5 tv 0) := ht4.iaddr hi0 .i64
     have k4 : ((c.k : Int) == 4) = decide (c.k = 4) := by by_cases h : c.k = 4 <;> simp [h] <;> omega
     have e1 : decide ((-1 : Int) ≥ 0) = false := rfl
     have okb : (c.k = 4 → nless c.v v = true) → okB (v, t) := fun h => ⟨by simp only [decide_eq_false_iff_not] at hn; simp only; omega, hov, hg, by rw [hhd]; exact h⟩
     have tail : ∀ (e : Nat → AVal) (σ5 : Store), Grows σ4 σ5 → e 0 = .ptr id 0 → e 2 = tv → e 4 = .ptr i1 0 → okB (v, t) → wpC CU.cfg d T (Fr' 103 e) σ5 (endQ [ARes.tmp 6] fun r σ' => r = .int .i64 (bindE R v t) ∧ RefP σ' (fun i => A i ∨ i1 ≤ i) id (bindR R v t) ∧ Keeps (fun i => i = id) σ σ') := by
      intro e σ5 g5 v0 v2 v4 hok
      have ht5 := ht4.grow g5
      have ho5 := g5.get ho4
      have h5 := h4.grow g5
      have g05 := g04.trans g5
      obtain ⟨u, σ6, a1, a2, a3, a4, a5⟩ := (Own.nil σ5 5).append (CC t) 48 (by rw [List.length_map]; simp only [List.length_nil]; omega)
      have g56 : Grows σ5 σ6 := a3.mono fun i _ h => by cases h
      have h6 := h5.grow g56
      have ho6 := g56.get ho5
      have g06 := g05.trans g56
      have le6 : i1 ≤ σ5.length := by rw [← hq]; exact g05.1
      have fu : ∀ i, u.sid = some i → i1 ≤ i := fun i hi => by
       rcases a4 i hi with e | e
       ·cases e
       ·omega
      obtain ⟨w, es, o1, o2, o3, o4⟩ := h6
      have hlen := o4.len
      have lw := o2.len
      rw [hlen] at lw
      have e0 : ([w] : List AVal)[0]? = some w := rfl
      have hbe : bindE R v t = 0 := bindE_of hok hl
      have newR : BdRel σ6 (fun i => A i ∨ i1 ≤ i) (bdV v u) (v, t) := ⟨u, rfl, by simpa using a2.sl, fun i hi => .inr (fu i hi)⟩
      have o4' : Two (BdRel σ6 fun i => A i ∨ i1 ≤ i) es R := o4.mono fun e p he => he.keeps (Keeps.refl (fun _ => False) σ6) fun i _ a => ⟨.inl a, fun h => h⟩
      have uone : u.one = true := a2.one
      have push : ∀ {σ' : Store} {nx : AVal} {ns : List AVal} {P : Hp} {x : AVal} {p : Nm × List Cel}, Grows σ6 σ' → Own σ' 3 nx ns → (∀ i, nx.sid = some i → σ6.length ≤ i) → Two (BdRel σ6 fun i => A i ∨ i1 ≤ i) ns P → BdRel σ6 (fun i => A i ∨ i1 ≤ i) x p → P.length ≤ R.length + 1 →
        ∃ nx' σ2, appendV σ' 3 40 nx [x] = some (nx', σ2) ∧ Own σ2 3 nx' (ns ++ [x]) ∧ (∀ i, nx'.sid = some i → σ6.length ≤ i) ∧ Two (BdRel σ6 fun i => A i ∨ i1 ≤ i) (ns ++ [x]) (P ++ [p]) ∧ Grows σ6 σ2 := by
       intro σ' nx ns P x p g on fn tn hx hl
       have := tn.len
       obtain ⟨nx', σ2, b1, b2, b3, b4, _⟩ := on.append [x] 40 (by simp only [List.length_singleton]; omega)
       refine ⟨nx', σ2, b1, b2, fun i hi => ?_, tn.push hx, Keeps.trans g b3 fun i hi e => by have := fn i e; omega⟩
       rcases b4 i hi with e | e
       ·exact fn i e
       ·have := g.1; omega
      rw [hT]
      simp only [CU.a29, seqR]
      simp -dsimp only [↓WPd, ↓wpC_block, ↓wpC_cond, WPu, Bool.false_eq_true, Bool.true_eq_false, Bool.not_true, Bool.not_false, if_true, if_false, ite_true, ite_false, Nat.reduceEqDiff, Nat.reduceLT, true_and, List.map_cons, List.map_nil, Nat.zero_add, Nat.reduceBEq, WPm, v0, v2, v4, ht5.els, a1]
      have x1 : ∀ {a b : Hp}, bindR R v t = a ++ b → a.length ≤ R.length + 1 := fun {a b} h => by
       have h1 := congrArg List.length h
       have h2 : (bindR R v t).length = R.length + 1 := by rw [bindR, if_pos hbe]; simpa using (insR_perm (v, t) R).length_eq
       simp only [List.length_append] at h1
       omega
      refine loop_rule2 (fun m vs σ' => ∃ (k : Nat) (nx : AVal) (ns : List AVal) (P : Hp) (b : Bool), k ≤ R.length ∧ m = R.length - k ∧ vs = [.ptr id 0, .ptr i1 0, nx, u, .bool b, .int .i64 k] ∧ Grows σ6 σ' ∧ Own σ' 3 nx ns ∧ (∀ i, nx.sid = some i → σ6.length ≤ i) ∧ Two (BdRel σ6 (fun i => A i ∨ i1 ≤ i)) ns P ∧ P ++ (if b then R.drop k else insR (v, t) (R.drop k)) = bindR R v t)
       [0, 4, 7, 8, 9] (fun e vs σ' => e = .exit 1 ∧ ∃ (nx : AVal) (ns : List AVal) (P : Hp) (b : Bool), vs = [.ptr id 0, .ptr i1 0, nx, u, .bool b] ∧ Grows σ6 σ' ∧ Own σ' 3 nx ns ∧ (∀ i, nx.sid = some i → σ6.length ≤ i) ∧ Two (BdRel σ6 (fun i => A i ∨ i1 ≤ i)) ns P ∧ P ++ (if b then [] else [(v, t)]) = bindR R v t)
       R.length ⟨0, .nilslice, [], [], false, Nat.zero_le _, rfl, ?_, Keeps.refl _ _, Own.nil _ _, (fun i h => by cases h), Two.nil, by simp [bindR, hbe]⟩ ?_ ?_
      ·simp -dsimp only [↓WPd, ↓wpC_block, ↓wpC_cond, WPu, Bool.false_eq_true, Bool.true_eq_false, Bool.not_true, Bool.not_false, if_true, if_false, ite_true, ite_false, Nat.reduceEqDiff, Nat.reduceLT, true_and, List.map_cons, List.map_nil, Nat.zero_add, Nat.reduceBEq, v0, v4]; rfl
      ·rintro m vs σ' ⟨k, nx, ns, P, b, hk, rfl, rfl, g, on, fn, tn, hP⟩
       have o1' := g.get o1
       have o2' := o2.grow g
       have ho' := g.get ho6
       simp -dsimp only [↓WPd, ↓wpC_block, ↓wpC_cond, WPu, Bool.false_eq_true, Bool.true_eq_false, Bool.not_true, Bool.not_false, if_true, if_false, ite_true, ite_false, Nat.reduceEqDiff, Nat.reduceLT, true_and, List.map_cons, List.map_nil, Nat.zero_add, Nat.reduceBEq, WPm, isnil_ptr, faddr_ptr, Nat.add_zero, load_cells o1', e0, lw]
       refine condP_dec (fun hc => ?_) (fun hc => ?_)
       ·have hk' : k < R.length := by omega
        have hke : k < es.length := by omega
        obtain ⟨e, he1, he⟩ := o4'.get hk'
        have he' := he
        obtain ⟨y, he2, he3, -⟩ := he'
        have hee : es[k] = e := by rw [List.getElem?_eq_getElem hke] at he1; exact Option.some.inj he1
        have hb := (o2'.addr hke .i64).2
        rw [hee, he2] at hb
        have hb' : behind σ' (addrOf 3 w k) = some (bdC (R[k]).1 y, 0) := hb
        obtain ⟨q0, p0, b0⟩ := faddr_at hb' 0
        have r0 : loadV σ' 2 true q0 = some (nmV (R[k]).1) := loadN_at b0 (by simp [bdC])
        have r3 : loadV σ' 3 true (addrOf 3 w k) = some (.agg (bdC (R[k]).1 y)) := loadN_at hb' (by simp [bdC])
        have ia : iaddrV 3 w (.int .i64 k) = some (addrOf 3 w k) := o2'.iaddr hke .i64
        have hd : R.drop k = R[k] :: R.drop (k + 1) := List.drop_eq_getElem_cons hk'
        have ly := bd_lit (R[k]).1 y he3.one
        have lit1 : ∀ (tg : Nat) (σ : Store) (x : AVal), elems 3 σ (.fslice tg true 3 [x]) = some [x] := fun tg σ x => elems_fs 3 tg true σ [x]
        have keep : ∀ {σ2 : Store} {nx' : AVal} {ns' : List AVal} {P' : Hp} {b' : Bool} {fr : List AVal} (h : fr = fr), Grows σ6 σ2 → Own σ2 3 nx' ns' → (∀ i, nx'.sid = some i → σ6.length ≤ i) → Two (BdRel σ6 fun i => A i ∨ i1 ≤ i) ns' P' → P' ++ (if b' then R.drop k else insR (v, t) (R.drop k)) = bindR R v t → (b' = true ∨ nless v (R[k]).1 = false) →
          ∃ nx2 σ3, appendV σ2 3 40 nx' [bdV (R[k]).1 y] = some (nx2, σ3) ∧ ∃ m', m' < R.length - k ∧ ∃ k2 nx3 ns3 P3 b3, k2 ≤ R.length ∧ m' = R.length - k2 ∧ [AVal.ptr id 0, .ptr i1 0, nx2, u, .bool b', .int .i64 (IntKind.i64.wrap ((k : Int) + 1))] = [.ptr id 0, .ptr i1 0, nx3, u, .bool b3, .int .i64 (k2 : Nat)] ∧ Grows σ6 σ3 ∧ Own σ3 3 nx3 ns3 ∧ (∀ i, nx3.sid = some i → σ6.length ≤ i) ∧ Two (BdRel σ6 fun i => A i ∨ i1 ≤ i) ns3 P3 ∧ P3 ++ (if b3 then R.drop k2 else insR (v, t) (R.drop k2)) = bindR R v t := by
         intro σ2 nx' ns' P' b' fr _ g2 on2 fn2 tn2 hP2 hb2
         obtain ⟨nx2, σ3, c1, c2, c3, c4, c5⟩ := push g2 on2 fn2 tn2 (by rw [he2] at he; exact he) (x1 hP2.symm)
         refine ⟨nx2, σ3, c1, R.length - (k + 1), by omega, k + 1, nx2, _, _, b', by omega, rfl, ?_, c5, c2, c3, c4, ?_⟩
         ·rw [wrap_i64 (by omega) (by omega), Int.natCast_add, Int.natCast_one]
         ·rw [← hP2, hd]
          rcases hb2 with rfl | hb2
          ·simp
          ·cases b' with
           | true => simp
           | false => simp [insR, hb2]
        cases b with
        | true =>
         obtain ⟨nx2, σ3, c1, c2⟩ := keep (fr := []) rfl g on fn tn hP (.inl rfl)
         simp -dsimp only [↓WPd, ↓wpC_block, ↓wpC_cond, WPu, Bool.false_eq_true, Bool.true_eq_false, Bool.not_true, Bool.not_false, if_true, if_false, ite_true, ite_false, Nat.reduceEqDiff, Nat.reduceLT, true_and, List.map_cons, List.map_nil, Nat.zero_add, Nat.reduceBEq, WPm, isnil_ptr, faddr_ptr, Nat.add_zero, load_cells o1', e0, ia, r3, ly, lit1, c1]
         exact c2
        | false =>
         simp -dsimp only [↓WPd, ↓wpC_block, ↓wpC_cond, WPu, Bool.false_eq_true, Bool.true_eq_false, Bool.not_true, Bool.not_false, if_true, if_false, ite_true, ite_false, Nat.reduceEqDiff, Nat.reduceLT, true_and, List.map_cons, List.map_nil, Nat.zero_add, Nat.reduceBEq, WPm, isnil_ptr, faddr_ptr, Nat.add_zero, load_cells o1', e0, ia, p0, r0, load_nm ho']
         refine calledW_of (rless_ok d σ' v (R[k]).1) ?_
         rintro r7 σ7 ⟨rfl, g7⟩
         have g' := Grows.trans g g7
         have on' := on.grow g7
         have o1'' := g7.get o1'
         have ho'' := g7.get ho'
         have r3' : loadV σ7 3 true (addrOf 3 w k) = some (.agg (bdC (R[k]).1 y)) := by
          have hb7 := ((o2'.grow g7).addr hke .i64).2
          rw [hee, he2] at hb7
          exact loadN_at (cs := bdC (R[k]).1 y) hb7 (by simp [bdC])
         cases hl2 : nless v (R[k]).1 with
         | false =>
          obtain ⟨nx2, σ3, c1, c2⟩ := keep (fr := []) rfl g' on' fn tn hP (.inr hl2)
          simp -dsimp only [↓WPd, ↓wpC_block, ↓wpC_cond, WPu, Bool.false_eq_true, Bool.true_eq_false, Bool.not_true, Bool.not_false, if_true, if_false, ite_true, ite_false, Nat.reduceEqDiff, Nat.reduceLT, true_and, List.map_cons, List.map_nil, Nat.zero_add, Nat.reduceBEq, WPm, isnil_ptr, faddr_ptr, Nat.add_zero, load_cells o1'', e0, ia, r3', ly, lit1, c1]
          exact c2
         | true =>
          obtain ⟨nx5, σ5', c1, c2, c3, c4, c5⟩ := push g' on' fn tn newR (x1 hP.symm)
          have o1c := c5.get o1
          have r3c : loadV σ5' 3 true (addrOf 3 w k) = some (.agg (bdC (R[k]).1 y)) := by
           have hb7 := ((o2.grow c5).addr hke .i64).2
           rw [hee, he2] at hb7
           exact loadN_at (cs := bdC (R[k]).1 y) hb7 (by simp [bdC])
          obtain ⟨nx2, σ3, d1, d2⟩ := keep (fr := []) (b' := true) rfl c5 c2 c3 c4 (by rw [← hP, hd]; simp [insR, hl2]) (.inl rfl)
          simp -dsimp only [↓WPd, ↓wpC_block, ↓wpC_cond, WPu, Bool.false_eq_true, Bool.true_eq_false, Bool.not_true, Bool.not_false, if_true, if_false, ite_true, ite_false, Nat.reduceEqDiff, Nat.reduceLT, true_and, List.map_cons, List.map_nil, Nat.zero_add, Nat.reduceBEq, WPm, isnil_ptr, faddr_ptr, Nat.add_zero, load_nm ho'', bd_build v u uone, bd_lit v u uone, lit1, c1, load_cells o1c, e0, ia, r3c, ly, d1]
          exact d2
       ·have hk2 : k = R.length := by omega
        subst hk2
        simp -dsimp only [↓WPd, ↓wpC_block, ↓wpC_cond, WPu, Bool.false_eq_true, Bool.true_eq_false, Bool.not_true, Bool.not_false, if_true, if_false, ite_true, ite_false, Nat.reduceEqDiff, Nat.reduceLT, true_and, List.map_cons, List.map_nil, Nat.zero_add, Nat.reduceBEq]
        refine ⟨nx, ns, P, b, rfl, g, on, fn, tn, ?_⟩
        rw [← hP, List.drop_length]; rfl
      ·rintro x σ' env ⟨rfl, nx, ns, P, b, hv, g, on, fn, tn, hP⟩
       simp only [List.map_cons, List.map_nil, List.cons.injEq, and_true] at hv
       obtain ⟨w0, w4, w7, w8, w9⟩ := hv
       have lit1 : ∀ (tg : Nat) (σ : Store) (x : AVal), elems 3 σ (.fslice tg true 3 [x]) = some [x] := fun tg σ x => elems_fs 3 tg true σ [x]
       have last : ∀ {σ2 : Store} {nx' : AVal} {ns' : List AVal} {P' : Hp}, Grows σ6 σ2 → Own σ2 3 nx' ns' → (∀ i, nx'.sid = some i → σ6.length ≤ i) → Two (BdRel σ6 fun i => A i ∨ i1 ≤ i) ns' P' → P' = bindR R v t →
         storeV σ2 1 (.ptr id 0) nx' = some (σ2.set id (.cells [nx'])) ∧ AVal.int .i64 0 = .int .i64 (bindE R v t) ∧ RefP (σ2.set id (.cells [nx'])) (fun i => A i ∨ i1 ≤ i) id (bindR R v t) ∧ Keeps (fun i => i = id) σ (σ2.set id (.cells [nx'])) := by
        intro σ2 nx' ns' P' g2 on2 fn2 tn2 hP2
        have o12 := g2.get o1
        have st := store_cells o12 (off := 0) (by simp) (v := nx') on2.one
        have ks : Keeps (fun i => i = id) σ2 (σ2.set id (.cells [nx'])) := Keeps.set _ _ _
        refine ⟨st, by rw [hbe], ⟨nx', ns', get_set o12, on2.sl.keeps ks fun i hi e => on2.noCell o12 (by rw [← e]; exact hi), fun i hi => .inr (Nat.le_trans (Nat.le_trans le6 g56.1) (fn2 i hi)), ?_⟩, Keeps.trans (g06.trans g2).any ks fun _ _ h => h⟩
        rw [← hP2]
        refine tn2.mono fun e p he => ?_
        obtain ⟨y, y1, y2, y3⟩ := he
        exact ⟨y, y1, (y2.grow g2).keeps ks fun i hi e => (y2.grow g2).noCell o12 (by rw [← e]; exact hi), y3⟩
       have ho' := g.get ho6
       cases b with
       | true =>
        obtain ⟨s1, s2⟩ := last g on fn tn (by simpa using hP)
        simp -dsimp only [↓WPd, ↓wpC_block, ↓wpC_cond, WPu, Bool.false_eq_true, Bool.true_eq_false, Bool.not_true, Bool.not_false, if_true, if_false, ite_true, ite_false, Nat.reduceEqDiff, Nat.reduceLT, true_and, List.map_cons, List.map_nil, Nat.zero_add, Nat.reduceBEq, WPm, w0, w4, w7, w8, w9, isnil_ptr, faddr_ptr, Nat.add_zero, s1]
        exact s2
       | false =>
        obtain ⟨nx5, σ5', c1, c2, c3, c4, c5⟩ := push g on fn tn newR (x1 hP.symm)
        obtain ⟨s1, s2⟩ := last c5 c2 c3 c4 (by simpa using hP)
        simp -dsimp only [↓WPd, ↓wpC_block, ↓wpC_cond, WPu, Bool.false_eq_true, Bool.true_eq_false, Bool.not_true, Bool.not_false, if_true, if_false, ite_true, ite_false, Nat.reduceEqDiff, Nat.reduceLT, true_and, List.map_cons, List.map_nil, Nat.zero_add, Nat.reduceBEq, WPm, w0, w4, w7, w8, w9, isnil_ptr, faddr_ptr, Nat.add_zero, load_nm ho', bd_build v u uone, bd_lit v u uone, lit1, c1, s1]
        exact s2
     simp -dsimp only [↓WPd, ↓wpC_block, ↓wpC_cond, WPu, Bool.false_eq_true, Bool.true_eq_false, Bool.not_true, Bool.not_false, if_true, if_false, ite_true, ite_false, Nat.reduceEqDiff, Nat.reduceLT, true_and, List.map_cons, List.map_nil, Nat.zero_add, Nat.reduceBEq, WPm, e1, ia, p0, r0, k4]
     cases hk4 : decide (c.k = 4) with
     | true =>
      simp -dsimp only [↓WPd, ↓wpC_block, ↓wpC_cond, WPu, Bool.false_eq_true, Bool.true_eq_false, Bool.not_true, Bool.not_false, if_true, if_false, ite_true, ite_false, Nat.reduceEqDiff, Nat.reduceLT, true_and, List.map_cons, List.map_nil, Nat.zero_add, Nat.reduceBEq, WPm, ia, p3, r3, load_nm ho4]
      refine calledW_of (rless_ok d σ4 c.v v) ?_
      rintro r5 σ5 ⟨rfl, g5⟩
      cases hless : nless c.v v with
      | false =>
       simp -dsimp only [↓WPd, ↓wpC_block, ↓wpC_cond, WPu, Bool.false_eq_true, Bool.true_eq_false, Bool.not_true, Bool.not_false, if_true, if_false, ite_true, ite_false, Nat.reduceEqDiff, Nat.reduceLT, true_and, List.map_cons, List.map_nil, Nat.zero_add, Nat.reduceBEq, WPm]
       refine fin (e := 71) (g04.trans g5) ?_ (by decide)
       have e : (decide ((t.headD default).k = 4) && !nless (t.headD default).v v) = true := by rw [hhd, hless, hk4]; rfl
       unfold bindE; rw [hn, hov, hg, hl, e]; rfl
      | true =>
       simp -dsimp only [↓WPd, ↓wpC_block, ↓wpC_cond, WPu, Bool.false_eq_true, Bool.true_eq_false, Bool.not_true, Bool.not_false, if_true, if_false, ite_true, ite_false, Nat.reduceEqDiff, Nat.reduceLT, true_and, List.map_cons, List.map_nil, Nat.zero_add, Nat.reduceBEq, WPm]
       exact tail _ σ5 g5 rfl rfl rfl (okb fun _ => hless)
     | false =>
      simp -dsimp only [↓WPd, ↓wpC_block, ↓wpC_cond, WPu, Bool.false_eq_true, Bool.true_eq_false, Bool.not_true, Bool.not_false, if_true, if_false, ite_true, ite_false, Nat.reduceEqDiff, Nat.reduceLT, true_and, List.map_cons, List.map_nil, Nat.zero_add, Nat.reduceBEq, WPm]
      exact tail _ σ4 (Keeps.refl _ _) rfl rfl rfl (okb fun h => absurd h (by simpa using hk4))
end
def Terms (σ : Store) (l : AVal) (ts : List (List Cel)) : Prop := ∃ es, SlOf σ 1 l es ∧ Two (fun e t => SlOf σ 5 e (CC t)) es ts
theorem Terms.grow {σ σ' : Store} {l : AVal} {ts : List (List Cel)} (h : Terms σ l ts) (g : Grows σ σ') : Terms σ' l ts := by
 obtain ⟨es, h1, h2⟩ := h
 exact ⟨es, h1.grow g, h2.mono fun e t he => he.grow g⟩
theorem Terms.len {σ : Store} {l : AVal} {ts : List (List Cel)} (h : Terms σ l ts) : lenSV l = some ts.length := by
 obtain ⟨es, h1, h2⟩ := h
 rw [← h2.len]; exact h1.len
theorem Terms.at {σ : Store} {l : AVal} {ts : List (List Cel)} (h : Terms σ l ts) {i : Nat} (hi : i < ts.length) : ∃ e, iaddrV 1 l (.int .i64 i) = some (addrOf 1 l i) ∧ loadV σ 1 false (addrOf 1 l i) = some e ∧ SlOf σ 5 e (CC ts[i]) := by
 obtain ⟨es, h1, h2⟩ := h
 have hl : i < es.length := by rw [h2.len]; exact hi
 obtain ⟨e, e1, e2⟩ := h2.get hi
 have he : es[i] = e := by rw [List.getElem?_eq_getElem hl] at e1; exact Option.some.inj e1
 have := h1.load1 hl (by rw [he]; exact e2.one) 1
 rw [he] at this
 exact ⟨e, h1.iaddr hl .i64, this, e2⟩
theorem Terms.nil (σ : Store) : Terms σ .nilslice [] := ⟨[], SlOf.nil _ _, .nil⟩
section
variable (d : Nat) (σ : Store)
end
theorem CC_len (l : List Cel) : (CC l).length = l.length := by simp
def mkC (n : Int) : Cel := ⟨0, [], n, (0, 0)⟩
def cmarks : List Cel := (List.range 9).map fun j : Nat => mkC (-700 - (j : Int))
structure HandedC (σ : Store) (v : AVal) (x : List Cel) (id : Nat) : Prop where
 val : v = .slice 5 id 0 0 x.length (some (x.length + 9))
 obj : σ[id]? = some (.arr 5 (CC (x ++ cmarks)) 0 0)
theorem HandedC.sl {σ : Store} {v : AVal} {x : List Cel} {id : Nat} (h : HandedC σ v x id) : SlOf σ 5 v (CC x) := by
 obtain ⟨rfl, ho⟩ := h
 refine ⟨?_, by simp [lenSV, CC_len], fun s id' ep off len c hc => ?_⟩
 ·simp [elems, ho]
 ·injection hc with _ _ _ _ e5 e6; injection e6 with e6; omega
theorem HandedC.keep {σ σ' : Store} {v : AVal} {x : List Cel} {id : Nat} (h : HandedC σ v x id) {M : Nat → Prop} (hk : Keeps M σ σ') (hm : ¬ M id) : HandedC σ' v x id := ⟨h.val, hk.get h.obj hm⟩
section
variable (d : Nat) (σ : Store)
end
def sCel (s : List UInt8) (n : Nat) : Cel := ⟨3, s, n, (0, 0)⟩
def makeE (s : List UInt8) (ts : List (List Cel)) : Int := if !(sCel s ts.length).ok || ts.any (fun t => !right t) then 6 else if 256 < 1 + ts.flatten.length then 5 else 0
def makeT (s : List UInt8) (ts : List (List Cel)) : List Cel := if makeE s ts = 0 then sCel s ts.length :: ts.flatten else []
section
variable (d : Nat) (σ : Store)
end
section
variable (d : Nat) (σ : Store)
end
section
variable (d : Nat) (σ : Store)
end
def isEqT (t : List Cel) : Bool := right t && isT t [61] 2
def EqR (σ σ' : Store) (t : List Cel) (a b : AVal) : Prop := Grows σ σ' ∧ match isEqT t with
 | true => ∃ x y, args t = [x, y] ∧ Own σ' 5 a (CC x) ∧ Own σ' 5 b (CC y) ∧ Fresh σ.length a ∧ Fresh σ.length b ∧ NoLit a ∧ NoLit b ∧ ∀ j, a.sid = some j → b.sid ≠ some j
 | false => a = .nilslice ∧ b = .nilslice
section
variable (d : Nat) (σ : Store)
end
theorem ORows.cell {σ σ' : Store} {lo sz : Nat} {l : AVal} {es : List AVal} {ps : List (List AVal)} {id : Nat} {cs : List AVal} (h : ORows σ lo sz l es ps) (ho : σ[id]? = some (.cells cs)) (hk : Keeps (fun i => i = id) σ σ') : ORows σ' lo sz l es ps :=
 ⟨h.row.keeps hk fun i hi e => h.row.noCell ho (by rw [← e]; exact hi), h.len, fun i e p h1 h2 => (h.one i e p h1 h2).keeps hk fun j hj e' => (h.one i e p h1 h2).noCell ho (by rw [← e']; exact hj), h.frs, h.frl, h.apart, h.off, h.lit, h.litl⟩
section
variable (d : Nat) (σ : Store)
end
theorem Own.lit1 {σ : Store} {sz : Nat} {e : AVal} {p : List AVal} (he : Own σ sz e p) : fillL 1 false (List.replicate 1 (zel [AVal.nilslice] false)) [(0, e)] = some [e] := by
 rcases he.own with ⟨rfl, _⟩ | ⟨t, rfl⟩ | ⟨id, ep, off, cap, xs, epo, fl, rfl, _⟩ <;> simp
section
variable (d : Nat) (σ : Store)
end
def sides (t : List Cel) : List Cel × List Cel := if isEqT t then ((args t).getD 0 [], (args t).getD 1 []) else ([], [])
theorem EqR.own {σ σ' : Store} {t : List Cel} {a b : AVal} (h : EqR σ σ' t a b) : Grows σ σ' ∧ Own σ' 5 a (CC (sides t).1) ∧ Own σ' 5 b (CC (sides t).2) ∧ Fresh σ.length a ∧ Fresh σ.length b ∧ NoLit a ∧ NoLit b ∧ ∀ j, a.sid = some j → b.sid ≠ some j := by
 obtain ⟨g, h⟩ := h
 refine ⟨g, ?_⟩
 unfold sides
 cases he : isEqT t with
 | false =>
  rw [he] at h
  obtain ⟨rfl, rfl⟩ := h
  exact ⟨Own.nil _ _, Own.nil _ _, Fresh.nil _, Fresh.nil _, trivial, trivial, fun j h => by cases h⟩
 | true =>
  rw [he] at h
  obtain ⟨x, y, h1, h2, h3, h4⟩ := h
  rw [h1]
  exact ⟨h2, h3, h4⟩
section
variable (d : Nat) (σ : Store)
end
theorem endAt_app {L L' : Nat} (hL : L ≤ L') {s : List Cel} {m : Nat} : ∀ {r : List Cel} {o a b : Nat}, endAt L r o a = a + r.length → 0 < a + r.length → endAt L' (r ++ s) (o + m) b = endAt L' s m (b + r.length)
 | [], 0, a, b, _, _ => by simp
 | [], o + 1, a, b, h, h0 => by rw [endAt_nil] at h; omega
 | c :: r, 0, a, b, h, h0 => by rw [endAt_zero] at h; simp at h
 | c :: r, o + 1, a, b, h, h0 => by
  rw [endAt_cons] at h
  simp only [List.length_cons] at h h0 ⊢
  split at h
  ·omega
  ·rename_i hp
   have ih := endAt_app hL (s := s) (m := m) (r := r) (o := o + c.parts) (a := a + 1) (b := b + 1) (by omega) (by omega)
   rw [List.cons_append, show o + 1 + m = o + m + 1 by omega, endAt_cons, if_neg (by omega), show o + m + c.parts = o + c.parts + m by omega, ih]
   congr 1
   omega
theorem right_end {t : List Cel} (h : right t = true) : endAt t.length t 1 0 = 0 + t.length := by
 simp only [right, Bool.and_eq_true, decide_eq_true_eq] at h
 rw [h.1.2]; omega
theorem endAt_right {L : Nat} {t s : List Cel} (h : right t = true) (hL : t.length ≤ L) (m b : Nat) : endAt L (t ++ s) (1 + m) b = endAt L s m (b + t.length) :=
 endAt_app hL (right_end h) (by have := (right_len h).1; omega)
def pairs : List (List Cel) → List (List Cel) → Option (List (List Cel))
 | p :: ps, q :: qs => if makeE [61] [p, q] = 0 then (pairs ps qs).map (makeT [61] [p, q] :: ·) else none
 | _, _ => some []
structure StepR where
 k : Nat
 v : Nm
 t : List Cel
 ps : List (List Cel)
theorem ORows.terms {σ : Store} {lo : Nat} {l : AVal} {es : List AVal} {ts : List (List Cel)} (h : ORows σ lo 5 l es (ts.map CC)) : Terms σ l ts :=
 ⟨es, h.row.sl, Two.of_get (by rw [h.len, List.length_map]) fun i a b ha hb => (h.one i a (CC b) ha (by rw [List.getElem?_map, hb]; rfl)).sl⟩
theorem ORows.lo {σ : Store} {lo lo' sz : Nat} {l : AVal} {es : List AVal} {ps : List (List AVal)} (h : ORows σ lo sz l es ps) (hl : lo' ≤ lo) : ORows σ lo' sz l es ps :=
 ⟨h.row, h.len, h.one, fun i e he => (h.frs i e he).le hl, h.frl.le hl, h.apart, h.off, h.lit, h.litl⟩
theorem celvar_load {c : Cel} {σ : Store} {i : Nat} (h : σ[i]? = some (.cells c.cs)) : loadV σ 2 true (.ptr i 3) = some (nmV c.v) := by
 have : behind σ (.ptr i 3) = some (c.cs, 3) := by simp only [behind, h]
 exact loadN_at this (by simp [Cel.cs])
section
variable (d : Nat) (σ : Store)
end
structure BdArg (v : AVal) (bs : Hp) : Prop where
 row : ∃ es, (∀ σ : Store, SlOf σ 3 v es) ∧ Two (fun e p => ∃ u, e = bdV p.1 u ∧ Told u p.2) es bs
 small : ∀ p ∈ bs, Small p.2
 len : bs.length < 2 ^ 26
def bindsH (H : Hp) (bs : Hp) : Hp := bs.foldl (fun H p => bindH H p.1 p.2) H
def bindsR (R : Hp) (bs : Hp) : Hp := bs.foldl (fun R p => bindR R p.1 p.2) R
theorem bindR_len (R : Hp) (v : Nm) (t : List Cel) : (bindR R v t).length ≤ R.length + 1 := by
 unfold bindR; split
 ·have := (insR_perm (v, t) R).length_eq; simp at this; omega
 ·omega
theorem bindsR_len : ∀ (bs R : Hp), (bindsR R bs).length ≤ R.length + bs.length
 | [], R => Nat.le_refl _
 | p :: bs, R => by
  have h1 := bindsR_len bs (bindR R p.1 p.2)
  have h2 := bindR_len R p.1 p.2
  simp only [bindsR, List.foldl_cons, List.length_cons] at h1 ⊢
  omega
theorem Same.binds : ∀ (bs : Hp) {H R : Hp}, Same H R → Same (bindsH H bs) (bindsR R bs)
 | [], _, _, h => h
 | p :: bs, _, _, h => Same.binds bs (h.bind p.1 p.2)
theorem bindsH_snoc (H : Hp) (bs : Hp) (p : Nm × List Cel) : bindsH H (bs ++ [p]) = bindH (bindsH H bs) p.1 p.2 := by simp [bindsH]
theorem bindsR_snoc (H : Hp) (bs : Hp) (p : Nm × List Cel) : bindsR H (bs ++ [p]) = bindR (bindsR H bs) p.1 p.2 := by simp [bindsR]
theorem BdArg.at {v : AVal} {bs : Hp} (h : BdArg v bs) {k : Nat} (hk : k < bs.length) (σ : Store) : ∃ q0 q2 u, iaddrV 3 v (.int .i64 k) = some (addrOf 3 v k) ∧ faddrV 0 (addrOf 3 v k) = some q0 ∧ loadV σ 2 true q0 = some (nmV bs[k].1) ∧ faddrV 2 (addrOf 3 v k) = some q2 ∧ loadV σ 1 false q2 = some u ∧ Told u bs[k].2 := by
 obtain ⟨es, h1, h2⟩ := h.row
 have hke : k < es.length := by rw [h2.len]; exact hk
 obtain ⟨e, he1, u, he2, he3⟩ := h2.get hk
 have hee : es[k] = e := by rw [List.getElem?_eq_getElem hke] at he1; exact Option.some.inj he1
 have hb := ((h1 σ).addr hke .i64).2
 rw [hee, he2] at hb
 have hb' : behind σ (addrOf 3 v k) = some (bdC (bs[k]).1 u, 0) := hb
 obtain ⟨q0, p0, b0⟩ := faddr_at hb' 0
 obtain ⟨q2, p2, b2⟩ := faddr_at hb' 2
 exact ⟨q0, q2, u, (h1 σ).iaddr hke .i64, p0, loadN_at b0 (by simp [bdC]), p2, load_at b2, he3⟩
section
variable (d : Nat) (σ : Store)
end
structure Turned (r s : StepR) : Prop where
 k : r.k = s.k
 v : r.v = s.v
 t : r.t = s.t
 len : r.ps.length = s.ps.length
 parts : ∀ (i : Nat) (h : i < r.ps.length) (h' : i < s.ps.length), ∃ p q, r.ps[i] = makeT [61] [p, q] ∧ s.ps[i] = makeT [61] [q, p] ∧ makeE [61] [p, q] = 0 ∧ makeE [61] [q, p] = 0
theorem Turned.plain {r : StepR} (h : r.ps = []) : Turned r r := ⟨rfl, rfl, rfl, rfl, fun i hi => by rw [h] at hi; simp at hi⟩
end Go.Proofs.YtelpjaejmneplaaDoor.Am
namespace Go.Proofs.YtelpjaejmneplaaDoor.Am
open Go Go.RowKit Go.ChangeShapes Go.WideShapes Go.ChangeAt Go.Proofs.YtelpjaejmneplaaDoor.Rows
section
variable {H : Type}
theorem name_at {n : Nat} {d : DataW H} (h : Typed Tryd.prog (n + 2) 25 d) : ∃ v : Nm, dec Tryd.prog (n + 2) 25 d = [.int .i64 v.1, .int .i64 v.2] ∧ Nm.In v :=
 name_dec (n := n) Tryd.underlying25 Tryd.underlying3 Tryd.underlying3 h
theorem cel_at {n : Nat} {d : DataW H} (h : Typed Tryd.prog (n + 3) 56 d) : ∃ c : Cel, argV Tryd.prog (n + 3) 56 d = c.val ∧ c.In ∧ c.s.length ≤ uptoBulk d :=
 cel_dec (n := n) Tryd.underlying56 Tryd.underlying54 Tryd.underlying9 Tryd.underlying3 Tryd.underlying25 Tryd.underlying3 Tryd.underlying3 h
theorem term_at {n : Nat} {d : DataW H} (h : Typed Tryd.prog (n + 4) 34 d) :
  ∃ cs : List Cel, (∀ σ, SlOf σ 5 (argV Tryd.prog (n + 4) 34 d) (CC cs)) ∧ (∀ c ∈ cs, c.In) ∧ cs.length ≤ uptoBulk d ∧ (cs.map fun c => c.s.length).sum ≤ uptoBulk d :=
 term_of (n := n + 3) Tryd.underlying34 (by kernel_rfl) (fun d hd => cel_at hd) h
theorem cells_in {cs : List Cel} {b : Nat} (h1 : ∀ c ∈ cs, c.In) (h2 : (cs.map fun c => c.s.length).sum ≤ b) (hb : b < 2 ^ 40) : ∀ c ∈ cs, c.k < 256 ∧ c.s.length < 2 ^ 40 := fun c hc =>
 ⟨(h1 c hc).1, by have := mem_sum (fun c : Cel => c.s.length) hc; omega⟩
theorem term_told {n : Nat} {d : DataW H} (h : Typed Tryd.prog (n + 4) 34 d) (hb : uptoBulk d ≤ 1048576) : ∃ t : List Cel, Told (argV Tryd.prog (n + 4) 34 d) t ∧ Small t ∧ (∀ c ∈ t, c.In) ∧ t.length ≤ uptoBulk d := by
 obtain ⟨cs, h1, h2, h3, h4⟩ := term_at h
 exact ⟨cs, h1, ⟨by omega, cells_in h2 h4 (by omega)⟩, h2, h3⟩
theorem bd_at {n : Nat} {d : DataW H} (h : Typed Tryd.prog (n + 5) 44 d) (hb : uptoBulk d ≤ 1048576) : ∃ p : Nm × List Cel, (∃ u, argV Tryd.prog (n + 5) 44 d = bdV p.1 u ∧ Told u p.2) ∧ Small p.2 ∧ Nm.In p.1 ∧ (∀ c ∈ p.2, c.In) ∧ p.2.length ≤ uptoBulk d := by
 obtain ⟨ds, rfl, hl, hty, _, hsum⟩ := struct_of Tryd.underlying44 h
 match ds, hl with
 | [x, y], _ =>
  obtain ⟨v, v1, v2⟩ := name_at (n := n + 2) (hty 0 _ x rfl rfl)
  have hy := hty 1 _ y rfl rfl
  simp only [uptoBulkAll] at hsum
  obtain ⟨t, t1, t2, t3, t4⟩ := term_told (n := n) hy (by omega)
  have dy : dec Tryd.prog (n + 4) 34 y = [argV Tryd.prog (n + 4) 34 y] := dec_one hy (by kernel_rfl)
  refine ⟨(v, t), ⟨_, ?_, t1⟩, t2, v2, t3, by simp only; omega⟩
  rw [struct_argV Tryd.underlying44, struct_dec Tryd.underlying44]
  simp only [List.zipWith_cons_cons, List.zipWith_nil_left, List.flatten_cons, List.flatten_nil, v1, dy]
  rfl
theorem binds_at {n : Nat} {d : DataW H} (h : Typed Tryd.prog (n + 6) 22 d) (hb : uptoBulk d ≤ 1048576) : ∃ bs : Hp, BdArg (argV Tryd.prog (n + 6) 22 d) bs ∧ (∀ p ∈ bs, Nm.In p.1 ∧ ∀ c ∈ p.2, c.In) ∧ bs.length ≤ uptoBulk d ∧ ∀ p ∈ bs, p.2.length ≤ uptoBulk d := by
 rcases slice_of Tryd.underlying22 h with rfl | ⟨ds, rest, rfl, hd, ha, hb2⟩
 ·exact ⟨[], ⟨⟨[], fun σ => by rw [argV_nil Tryd.underlying22]; exact SlOf.nil σ 3, .nil⟩, (fun p hp => by cases hp), by simp⟩, (fun p hp => by cases hp), Nat.zero_le _, fun p hp => by cases hp⟩
 ·have hds : ∀ x ∈ ds, uptoBulk x ≤ uptoBulkAll ds := by
   intro x hx
   clear hd ha hb hb2 h
   induction ds with
   | nil => cases hx
   | cons y ys ih =>
    simp only [uptoBulkAll]
    rcases List.mem_cons.1 hx with rfl | hx
    ·omega
    ·have := ih hx; omega
  have hall : ∀ x ∈ ds, ∃ p : Nm × List Cel, (∃ u, argV Tryd.prog (n + 5) 44 x = bdV p.1 u ∧ Told u p.2) ∧ Small p.2 ∧ Nm.In p.1 ∧ (∀ c ∈ p.2, c.In) ∧ p.2.length ≤ uptoBulkAll ds := fun x hx => by
   obtain ⟨p, h1, h2, h3, h4, h5⟩ := bd_at (n := n) (hd x hx) (by have := hds x hx; omega)
   exact ⟨p, h1, h2, h3, h4, by have := hds x hx; omega⟩
  have hln : ds.length ≤ uptoBulkAll ds := by
   clear hd ha hb hb2 h hds hall
   induction ds with
   | nil => simp
   | cons y ys ih =>
    have h3 : 1 ≤ uptoBulk y := by cases y <;> first | (simp only [uptoBulk]; omega) | (rename_i l; cases l <;> simp only [uptoBulk] <;> omega)
    simp only [uptoBulkAll, List.length_cons]; omega
  have key : ∀ (l : List (DataW H)) (B : Nat), (∀ x ∈ l, ∃ p : Nm × List Cel, (∃ u, argV Tryd.prog (n + 5) 44 x = bdV p.1 u ∧ Told u p.2) ∧ Small p.2 ∧ Nm.In p.1 ∧ (∀ c ∈ p.2, c.In) ∧ p.2.length ≤ B) →
    ∃ bs : Hp, Two (fun e p => ∃ u, e = bdV p.1 u ∧ Told u p.2) (l.map fun x => argV Tryd.prog (n + 5) 44 x) bs ∧ (∀ p ∈ bs, Small p.2 ∧ Nm.In p.1 ∧ (∀ c ∈ p.2, c.In) ∧ p.2.length ≤ B) := by
   intro l B
   induction l with
   | nil => intro _; exact ⟨[], .nil, fun p hp => by cases hp⟩
   | cons x xs ih =>
    intro hx
    obtain ⟨p, p1, p2⟩ := hx x List.mem_cons_self
    obtain ⟨bs, b1, b2⟩ := ih fun y hy => hx y (List.mem_cons_of_mem _ hy)
    refine ⟨p :: bs, .cons p1 b1, fun q hq => ?_⟩
    rcases List.mem_cons.1 hq with rfl | hq
    ·exact p2
    ·exact b2 q hq
  obtain ⟨bs, b1, b2⟩ := key ds _ hall
  have hlen := b1.len
  rw [List.length_map] at hlen
  refine ⟨bs, ⟨⟨_, fun σ => by rw [ha]; exact SlOf.fs _ _ _ _ _, b1⟩, fun p hp => (b2 p hp).1, by omega⟩, fun p hp => ⟨(b2 p hp).2.1, (b2 p hp).2.2.1⟩, by omega, fun p hp => by have := (b2 p hp).2.2.2; omega⟩
end
end Go.Proofs.YtelpjaejmneplaaDoor.Am
namespace Go.Proofs.YtelpjaejmneplaaDoor.Am
open Go Go.RowKit
section
variable {P : Program} {cfg : Cfg} {H : Type} {enc : TypeId × Value → H} {W : World}
theorem texts_read {m base : Nat} {sp : Nat → Bool} {held : Bool} {e : TypeId} (he : P.underlying e = some .string) : ∀ (xs : List (DataW H × List MemPlace)) (cs : List Value), cs.length = xs.length →
  (∀ i, i < xs.length → DataW.trod enc P W base sp held m e ((cs.drop i).take 1) = xs[i]?) → ∃ bs : List ByteArray, cs = bs.map Value.string ∧ xs.map (·.1) = bs.map fun b => .lit (.string b.data.toList)
 | [], cs, hl, _ => ⟨[], by simpa using List.eq_nil_of_length_eq_zero hl, rfl⟩
 | x :: xs, [], hl, _ => by simp at hl
 | x :: xs, c :: cs, hl, h => by
  have h0 := h 0 (by simp)
  simp only [List.drop_zero, List.take_succ_cons, List.take_zero, List.getElem?_cons_zero] at h0
  obtain ⟨s, e1, e2, _⟩ := DataW.trod_string he h0
  obtain ⟨bs, r1, r2⟩ := texts_read he xs cs (by simpa using hl) (fun i hi => by simpa using h (i + 1) (by simpa using hi))
  injection e1 with e1
  exact ⟨s :: bs, by rw [e1, r1]; rfl, by rw [e2, List.map_cons, r2]; rfl⟩
theorem texts_inj : ∀ {ss : List (List UInt8)} {bs : List ByteArray}, (ss.map fun s => (DataW.lit (.string s) : DataW H)) = (bs.map fun b => .lit (.string b.data.toList)) → ss = bs.map fun b => b.data.toList
 | [], [], _ => rfl
 | [], _ :: _, h => by simp at h
 | _ :: _, [], h => by simp at h
 | s :: ss, b :: bs, h => by
  simp only [List.map_cons, List.cons.injEq] at h ⊢
  obtain ⟨h1, h2⟩ := h
  injection h1 with h1
  injection h1 with h1
  exact ⟨h1, texts_inj h2⟩
theorem gl_of_laid {name : String} {g : Nat} {t e : TypeId} {n : Nat} {ss : List (List UInt8)} (hg : P.globalNamed name = some g) (ht : (P.globals[g]?).map (·.type) = some t) (hu : P.underlying t = some (.array n e)) (he : P.underlying e = some .string)
  (hce : P.cellsOf e = 1) (hct : P.cellsOf t = n) (hglob : ∀ i cs, cfg.glob i = some cs → i = g ∧ cs = ss.map AVal.str) (h : laidMet P [(name, .agg (ss.map fun s => .lit (.string s)))] W) : Gl cfg startE (startK W) := by
 intro i cs hi
 obtain ⟨rfl, rfl⟩ := hglob i cs hi
 obtain ⟨ps, ⟨g', t', cs', fuel, p, q, e1, e2, e3, e4, _, _⟩, _, _⟩ := h
 obtain rfl := Option.some.inj (hg.symm.trans e1)
 obtain rfl := Option.some.inj (ht.symm.trans e2)
 have hb : ∃ ty f, W.heap[i]? = some (.cells cs' ty f) := by
  simp only [World.var?, hg, Option.bind_some] at e3
  split at e3
  ·rename_i c ty f hc
   injection e3 with e3; subst e3
   exact ⟨ty, f, hc⟩
  ·cases e3
 obtain ⟨ty, f, hb⟩ := hb
 obtain ⟨xs, m, rfl, hx, hl, hxl, hel⟩ := DataW.trod_array hu e4
 obtain ⟨bs, r1, r2⟩ := texts_read he xs cs'.toList (by rw [hl, hct, hxl]) (fun i hi => by
  have := hel i (by omega)
  rw [hce, Nat.mul_one] at this
  exact this)
 injection hx with hx _
 injection hx with hx
 have hss := texts_inj (hx.trans r2)
 have hrel : ∀ bs : List ByteArray, VRelL cfg.conc W.heap ((startK W).safe startE) noIds ((bs.map fun b => b.data.toList).map AVal.str) (bs.map Value.string) := by
  intro bs
  induction bs with
  | nil => exact .nil _
  | cons b bs ih => exact .cons _ _ _ _ _ (.str _ b) ih
 have := VRel.fptr (cf := cfg.conc) (h := W.heap) (S := (startK W).safe startE) noIds 0 (ss.map AVal.str) 0 i 0 cs'.toList ⟨(Array.getElem?_eq_some_iff.1 hb).1, start_own W i, fun k _ hk => by simp [startE] at hk⟩
  (by rw [hss, r1]; exact hrel bs) (fun c hc => by obtain ⟨s, _, rfl⟩ := List.mem_map.1 hc; rfl) (fun c hc => by obtain ⟨s, _, rfl⟩ := List.mem_map.1 hc; exact Nat.le_refl _)
  (fun j v hj => by simp only [cellAt, hb, Nat.zero_add]; simpa using hj)
 exact this
end
end Go.Proofs.YtelpjaejmneplaaDoor.Am
namespace Go.Proofs.YtelpjaejmneplaaDoor.Am
open Go Go.ChangeMaps
section
variable {F : Fence} {n : Nat} {P : Program} (w : World) {ops : Array Oper} {rest : List Oper} {o : Oper} {a : Act} {Q : Exit → Act → World → Prop}
theorem range_raw (hg : o.guard = none) (m : Operand) (t : TypeId) (hop : o.op = Op.range t m) (k e : TypeId) (ht : P.underlying t = some (.map k e)) (b : Nat) (es : Array MapEntry) (clock : Nat) (hm : a.eval m = .map (some b)) (hb : w.heap[b]? = some (.map es clock))
  (hK : wpListIn F n P ops Q rest (a.put o.dst (.pointer (some ⟨w.heap.size, 0, none⟩))) (w.alloc (.mapIter (some b) clock #[] clock))) :
  wpListIn F n P ops Q (o :: rest) a w := by
 refine wpListIn_plain hg fun K' hK' => ?_
 have hrun := run_range_map (P := P) w t k e b es clock ht hb
 unfold Oper.wpIn
 refine ⟨by simp [Oper.about, hop], ?_⟩
 rw [Oper.semAt_plain F _ _ (by rw [hop]; intro c hc'; cases hc')]
 simp [execOp, hop, hm, hrun, Result.andThen]
 exact hK' _ _ hK
theorem next_raw (hg : o.guard = none) (it : Operand) (hop : o.op = Op.next it false) (b r since c0 : Nat) (seen : Array Nat) (es : Array MapEntry) (clock : Nat)
  (hit : a.eval it = .pointer (some ⟨r, 0, none⟩)) (hr : w.heap[r]? = some (.mapIter (some b) since seen c0)) (hb : w.heap[b]? = some (.map es clock)) (hold : ∀ x ∈ es.toList, x.born < since) (hsc : since ≤ c0)
  (hDone : (leftOf es seen).size = 0 → wpListIn F n P ops Q rest (a.put o.dst (.tuple #[.bool false])) w)
  (hMore : ∀ (x : MapEntry) (w1 : World), x ∈ (leftOf es seen).toList → (w1 = w ∨ w1 = w.drew) → wpListIn F n P ops Q rest (a.put o.dst (.tuple #[.bool true, x.key, x.val])) (setBlock w1 r (.mapIter (some b) since (seen.push x.born) clock))) :
  wpListIn F n P ops Q (o :: rest) a w := by
 refine wpListIn_plain hg fun K' hK' => ?_
 unfold Oper.wpIn
 refine ⟨by simp [Oper.about, hop], ?_⟩
 rw [Oper.semAt_plain F _ _ (by rw [hop]; intro c hc'; cases hc')]
 rcases run_next_at (P := P) w o.type r b since c0 seen es clock hr hb hold hsc with ⟨h0, hrun⟩ | ⟨x, hx, w1, hw1, hrun⟩
 ·simp [execOp, hop, hit, hrun, Result.andThen]
  exact hK' _ _ (hDone h0)
 ·simp [execOp, hop, hit, hrun, Result.andThen]
  exact hK' _ _ (hMore x w1 hx hw1)
end
theorem left_step {es : Array MapEntry} (hB : (es.toList.map (·.born)).Nodup) {seen : Array Nat} {x : MapEntry} (hx : x ∈ (leftOf es seen).toList) : (leftOf es seen).toList.Perm (x :: (leftOf es (seen.push x.born)).toList) := by
 have hn : ((leftOf es seen).toList.map (·.born)).Nodup := by
  have : (leftOf es seen).toList.Sublist es.toList := by simp only [leftOf, Array.toList_filter]; exact List.filter_sublist
  exact (this.map _).nodup hB
 have e : (leftOf es (seen.push x.born)).toList = (leftOf es seen).toList.filter fun y => !(y.born == x.born) := by
  simp only [leftOf, Array.toList_filter, List.filter_filter]
  refine List.filter_congr fun y _ => ?_
  by_cases h : y.born = x.born <;> simp [h]
 rw [e]
 generalize (leftOf es seen).toList = L at hx hn
 clear e
 induction L with
 | nil => cases hx
 | cons y L ih =>
  rw [List.map_cons, List.nodup_cons] at hn
  rcases List.mem_cons.1 hx with rfl | hx
  ·have : L.filter (fun y => !(y.born == x.born)) = L := by
    rw [List.filter_eq_self]
    intro z hz
    have : z.born ≠ x.born := fun e => hn.1 (by rw [← e]; exact List.mem_map.2 ⟨z, hz, rfl⟩)
    simpa using this
   simp [this]
  ·have hne : y.born ≠ x.born := fun e => hn.1 (by rw [e]; exact List.mem_map.2 ⟨x, hx, rfl⟩)
   have := ih hx hn.2
   have hb : (!(y.born == x.born)) = true := by simpa using hne
   rw [List.filter_cons_of_pos (by simpa using hne)]
   exact (this.cons y).trans (List.Perm.swap x y _)
end Go.Proofs.YtelpjaejmneplaaDoor.Am
namespace Go.Proofs.YtelpjaejmneplaaDoor.Am
open Go Go.Proofs Go.RowKit Go.Maps Go.Sort Go.Shelf Go.ChangeMaps
abbrev encNm (v : Int × Int) : Value := .agg #[.int .i64 v.1, .int .i64 v.2]
set_option maxHeartbeats 1000000 in
theorem keys_walk (F : Fence) (n : Nat) (h : F.fn 62) (hro : F.round = none) (hn : 1 ≤ n) (l Bm b : Nat) (es : Array MapEntry) (clock : Nat) (J : List (Int × Int) → World → Prop)
 (hY : ∀ pre x W, J pre W → pre.length < es.size → YieldAt F (n - 1) Tryd.prog l #[encNm x] W fun e W' => e = .returned (.bool true) ∧ J (pre ++ [x]) W' ∧ KeepsWalks W W')
 (W : World) (hJ : AbidesFrom W.heap.size J) (hm : W.cell? ⟨Bm, 0, none⟩ = some (.map (some b))) (hb : W.heap[b]? = some (.map es clock)) (hB : (∀ e ∈ es.toList, e.born < clock) ∧ (es.toList.map (·.born)).Nodup) (h0 : J [] W) (hk : ∀ e ∈ es.toList, ∃ v : Int × Int, e.key = encNm v) :
 CallsIn F n Tryd.prog 62 #[.func (.yield l) #[] #[], .pointer (some ⟨Bm, 0, none⟩)] W fun e W' => (∃ v, e = .returned v) ∧ ∃ ks : List (Int × Int), (ks.map encNm).Perm (es.toList.map (·.key)) ∧ J ks W' := by
 have u126 := run_underlying (P := Tryd.prog) Tryd.underlying76
 have u46 := run_underlying (P := Tryd.prog) Tryd.underlying25
 refine callsIn_of_wp Tryd.func62 rfl h ?_ hro
 simp only [Tryd.f62, List.size_toArray, List.length_cons, List.length_nil, Nat.reduceAdd, Nat.reduceSub, Array.replicate_succ, Array.replicate_zero, List.push_toArray, List.append_toArray, List.nil_append, List.cons_append]
 gi_wp2_with (first
  | (gi_at_range; refine range_raw _ rfl _ 76 rfl _ _ Tryd.underlying76 b es clock rfl hb ?_)
  | gi_in)
 go_frame
 gi_loopw [3] (fun _ wr => ∃ (seen : Array Nat) (c0 : Nat) (ks : List (Int × Int)), wr.heap[W.heap.size]? = some (.mapIter (some b) clock seen c0) ∧ clock ≤ c0 ∧ wr.heap[b]? = some (.map es clock) ∧ (ks.map encNm ++ (leftOf es seen).toList.map (·.key)).Perm (es.toList.map (·.key)) ∧ ks.length + (leftOf es seen).size = es.size ∧ J ks wr)
  (fun _ wr => match wr.heap[W.heap.size]? with | some (.mapIter _ _ seen _) => (leftOf es seen).size | _ => 0)
 case atStart =>
  refine ⟨#[], clock, [], World.alloc_heap_new W _, Nat.le_refl _, (Below.heap_alloc W _ b (Array.getElem?_eq_some_iff.1 hb).1).trans hb, ?_, ?_, hJ [] W _ none h0 (World.grownBy_alloc W _ none) (fun r e => by cases e)⟩
  ·have : (leftOf es #[]).toList = es.toList := by simp only [leftOf, Array.toList_filter]; exact List.filter_eq_self.2 fun a _ => by simp
   rw [this]; exact List.Perm.refl _
  ·simp [leftOf]
 case round =>
  obtain ⟨seen, c0, ks, hr, hc0, hb1, hperm, hlen, hJs⟩ := hrel
  gi_wp2_with (first
   | (gi_at_next; refine next_raw _ rfl _ rfl b W.heap.size clock c0 seen es clock rfl hr hb1 hB.1 hc0 ?_ ?_)
   | gi_in)
  ·intro h0'
   gi_wp2
   go_end0
   refine ⟨⟨_, rfl⟩, ks, ?_, hJs⟩
   have : (leftOf es seen).toList = [] := List.eq_nil_of_length_eq_zero (by simpa using h0')
   rw [this] at hperm; simpa using hperm
  ·intro x w1 hx hw1
   obtain ⟨w2, hw2⟩ : ∃ w2, setBlock w1 W.heap.size (.mapIter (some b) clock (seen.push x.born) clock) = w2 := ⟨_, rfl⟩
   rw [hw2]
   have hxe : x ∈ es.toList := by
    have : (leftOf es seen).toList.Sublist es.toList := by simp only [leftOf, Array.toList_filter]; exact List.filter_sublist
    exact this.subset (by simpa using hx)
   have hwh : w1.heap = wr.heap := by rcases hw1 with rfl | rfl <;> rfl
   have hne : b ≠ W.heap.size := by have := (Array.getElem?_eq_some_iff.1 hb).1; omega
   have hr1 : w1.heap[W.heap.size]? = some (.mapIter (some b) clock seen c0) := by rw [hwh]; exact hr
   have hlt1 := (Array.getElem?_eq_some_iff.1 hr1).1
   have hr2 : w2.heap[W.heap.size]? = some (.mapIter (some b) clock (seen.push x.born) clock) := by rw [← hw2]; simp [setBlock, hlt1]
   have hb2 : w2.heap[b]? = some (.map es clock) := by rw [← hw2]; simp only [setBlock]; rw [Array.getElem?_setIfInBounds_ne (by omega), hwh]; exact hb1
   have hg2 : wr.grownBy w2 (some W.heap.size) := by
    have h1 : wr.grownBy w1 (some W.heap.size) := by rcases hw1 with rfl | rfl <;> exact ⟨rfl, rfl, rfl, Nat.le_refl _, fun _ _ _ => rfl⟩
    refine h1.trans ?_
    rw [← hw2]
    exact ⟨rfl, rfl, rfl, by simp [setBlock], fun i _ hi => by simp only [setBlock]; exact Array.getElem?_setIfInBounds_ne (fun e1 => hi (by rw [e1]))⟩
   have hen := run_entry_at (P := Tryd.prog) w2 W.heap.size b clock seen es clock x hr2 hb2 hxe hB.2
   obtain ⟨v, hv⟩ := hk x hxe
   rw [hv, show encNm v = .agg #[.int .i64 v.1, .int .i64 v.2] from rfl] at hen
   obtain ⟨w3, hw3⟩ : ∃ w3, w2.alloc (.cells #[.int .i64 v.1, .int .i64 v.2] 25) = w3 := ⟨_, rfl⟩
   have hg3 : wr.grownBy w3 (some W.heap.size) := by rw [← hw3]; exact hg2.trans (World.grownBy_alloc _ _ _)
   have hJ3 : J ks w3 := hJ ks wr w3 (some W.heap.size) hJs hg3 (fun r e => by cases e; exact ⟨Nat.le_refl _, _, hr, rfl⟩)
   have hleft := left_step hB.2 (seen := seen) (x := x) (by simpa using hx)
   have hll := hleft.length_eq
   simp only [List.length_cons, Array.length_toList] at hll
   have hperm2 : ((ks ++ [v]).map encNm ++ (leftOf es (seen.push x.born)).toList.map (·.key)).Perm (es.toList.map (·.key)) := by
    refine List.Perm.trans ?_ hperm
    rw [List.map_append, List.append_assoc]
    refine List.Perm.append_left _ ?_
    have := (hleft.map (·.key)).symm
    rw [List.map_cons, hv] at this
    exact this
   obtain ⟨fn, tmps, assign, body, hy, hR⟩ := hY ks v w3 hJ3 (by omega)
   have hr3 : w3.heap[W.heap.size]? = some (.mapIter (some b) clock (seen.push x.born) clock) := by rw [← hw3]; exact (Below.heap_alloc _ _ _ (Array.getElem?_eq_some_iff.1 hr2).1).trans hr2
   have hb3 : w3.heap[b]? = some (.map es clock) := by rw [← hw3]; exact (Below.heap_alloc _ _ _ (Array.getElem?_eq_some_iff.1 hb2).1).trans hb2
   subst hw3
   gi_wp2
   refine hR.mono ?_
   rintro e W3 ⟨rfl, hJ4, hk3⟩
   gi_wp2
   go_roundw
   case rel => exact ⟨_, clock, ks ++ [v], hk3.same _ _ hr3 rfl, Nat.le_refl _, hk3.same _ _ hb3 rfl, hperm2, by simp; omega, hJ4⟩
   case measure =>
    rw [hk3.same _ _ hr3 rfl, hr]
    simp only
    omega
noncomputable def apParts : Code × Code := match (Tryd.f82).body with
 | some (.seq _ (.seq (.seq _ (.block _ (.rangeFunc _ _ a b))) _)) => (a, b)
 | _ => (.skip, .skip)
noncomputable def apRec (fn : FuncId) (sv : Value) (Bs D : Nat) (st : LoopState) (pend : Option Code) : Loop :=
 { state := st, pending := pend, fn, tmps := #[.slice none 0 0, sv, .pointer (some ⟨Bs, 0, none⟩), undef, .slice none 0 0, undef, sv, undef, undef, undef, undef, undef, undef], params := #[7], assign := apParts.1, body := apParts.2, defers := D }
structure ApAt (w0 : World) (fn : FuncId) (sv : Value) (Bs l D : Nat) (ss : List (Int × Int)) (W : World) : Prop where
 box : ∃ v, Boxed W Bs 23 v ∧ W.ownsRow w0.heap.size 25 2 v ss.length (ss.flatMap fun p => [.int .i64 p.1, .int .i64 p.2]) ∧ (v = .slice none 0 0 ↔ ss = [])
 L : W.heap[l]? = some (.loop (apRec fn sv Bs D .ready none))
 K : W.heap[D]? = some (.deferred (some []))
 below : Below w0.heap.size w0 W
theorem ap_abides (w0 : World) (fn : FuncId) (sv : Value) (Bs l D B : Nat) (hB : w0.heap.size ≤ B) : AbidesFrom B (ApAt w0 fn sv Bs l D) := fun s W W' row h hg hrow => by
 have hrow' : ∀ r, row = some r → ∃ o : Obj, W.heap[r]? = some o ∧ o.isWalk = true := fun r e => (hrow r e).2
 obtain ⟨v, hv, hr, hn⟩ := h.box
 exact ⟨⟨v, (grownBy_keeps hg hrow' hv rfl).trans hv, ownsRow_abides_a hr hg hrow', hn⟩, (grownBy_keeps hg hrow' h.L rfl).trans h.L, (grownBy_keeps hg hrow' h.K rfl).trans h.K,
  h.below.grown hg h.below.size (fun k e => Nat.le_trans hB (hrow k e).1)⟩
abbrev nmCells (p : Int × Int) : List Value := [.int .i64 p.1, .int .i64 p.2]
theorem new_cells (W : World) (x : Int × Int) : ∀ (j : Nat) (u : Value), ([.int .i64 x.1, .int .i64 x.2] : List Value)[j]? = some u → (W.alloc (.cells #[.int .i64 x.1, .int .i64 x.2] 25)).cell? ((⟨W.heap.size, 0, none⟩ : Addr).add j) = some u := by
 have h := World.alloc_heap_new W (.cells #[.int .i64 x.1, .int .i64 x.2] 25)
 intro j u hj
 match j, hj with
 | 0, hj => simp at hj; subst hj; rw [show (⟨W.heap.size, 0, none⟩ : Addr).add 0 = ⟨W.heap.size, 0, none⟩ from rfl]; simp only [World.cell?, h]; rfl
 | 1, hj => simp at hj; subst hj; rw [show (⟨W.heap.size, 0, none⟩ : Addr).add 1 = ⟨W.heap.size, 1, none⟩ from rfl]; simp only [World.cell?, h]; rfl
 | j + 2, hj => simp at hj
set_option maxHeartbeats 2000000 in
theorem apYield (F : Fence) (m : Nat) (w0 : World) (fn : FuncId) (hfn : F.fn fn) (sv : Value) (Bs l D : Nat) (hBl : Bs ≠ l) (hDl : D ≠ l) (hDB : D ≠ Bs) (h0B : w0.heap.size ≤ Bs) (h0l : w0.heap.size ≤ l)
    (N : Nat) (hN : N ≤ maxLen) (hNb : N * 16 ≤ 140737488355328) (ss : List (Int × Int)) (x : Int × Int) (W : World) (h : ApAt w0 fn sv Bs l D ss W) (hlen : ss.length < N) :
    YieldAt F m Tryd.prog l #[encNm x] W fun e W' => e = .returned (.bool true) ∧ ApAt w0 fn sv Bs l D (ss ++ [x]) W' ∧ KeepsWalks W W' := by
  have u46 := run_underlying (P := Tryd.prog) Tryd.underlying25
  have u54 := run_underlying (P := Tryd.prog) Tryd.underlying23
  obtain ⟨v, hv, hrow, _⟩ := h.box
  refine ⟨fn, #[.slice none 0 0, sv, .pointer (some ⟨Bs, 0, none⟩), undef, .slice none 0 0, undef, sv, encNm x, undef, undef, undef, undef, undef], apParts.1, apParts.2, by simpa [apRec] using run_yield (P := Tryd.prog) (args := #[encNm x]) h.L rfl, roundIn_of_wpIn hfn ?_⟩
  have hl : l < W.heap.size := (Array.getElem?_eq_some_iff.1 h.L).1
  have hBs : Bs < W.heap.size := (Array.getElem?_eq_some_iff.1 hv).1
  have hDs : D < W.heap.size := (Array.getElem?_eq_some_iff.1 h.K).1
  obtain ⟨W1, hW1⟩ : ∃ W1, W.alloc (.cells #[.int .i64 x.1, .int .i64 x.2] 25) = W1 := ⟨_, rfl⟩
  have hL1 : W1.heap[l]? = some (.loop (apRec fn sv Bs D .ready none)) := by rw [← hW1]; exact (Below.heap_alloc _ _ _ hl).trans h.L
  have hbr := run_beginRound (P := Tryd.prog) hL1 rfl
  unfold apParts
  simp only [Tryd.f82]
  gi_wp2_with gi_round_op_a
  obtain ⟨W2, hW2⟩ : ∃ W2, W1.putObj l (.loop { apRec fn sv Bs D .ready none with state := .busy }) = W2 := ⟨_, rfl⟩
  rw [hW2] at hbr
  refine ⟨W2, hbr, ?_⟩
  have hg1 : W.grownBy W1 none := by rw [← hW1]; exact World.grownBy_alloc W _ none
  have hg2 : W1.grownBy W2 (some l) := by rw [← hW2]; exact grownBy_putObj_a _ _ _
  have hl1 : l < W1.heap.size := (Array.getElem?_eq_some_iff.1 hL1).1
  have hv1 : Boxed W1 Bs 23 v := hv.kept hg1 (by simp)
  have hv2 : Boxed W2 Bs 23 v := hv1.kept hg2 (by simpa using hBl)
  have hx1 : W1.heap[W.heap.size]? = some (.cells #[.int .i64 x.1, .int .i64 x.2] 25 (0, 0)) := by rw [← hW1]; exact World.alloc_heap_new W _
  have hx2 : W2.heap[W.heap.size]? = some (.cells #[.int .i64 x.1, .int .i64 x.2] 25 (0, 0)) := (hg2.block _ (Array.getElem?_eq_some_iff.1 hx1).1 (by intro e; injection e with e; omega)).trans hx1
  have hrow1 := hrow.alloc (.cells #[.int .i64 x.1, .int .i64 x.2] 25)
  rw [hW1] at hrow1
  have hrow2 := hrow1.kept hg2 (ownsRow_ne_a hrow1 hL1 (fun cur e => by cases e))
  obtain ⟨hc2, hf2⟩ := cell_of_box_a (show W2.heap[Bs]? = some (.cells #[v] 23 (0, 0)) from hv2)
  have ha2 : W2.cell? ⟨W.heap.size, 0, none⟩ = some (.int .i64 x.1) := by simp [World.cell?, hx2]
  have hb2 : W2.cell? ⟨W.heap.size, 1, none⟩ = some (.int .i64 x.2) := by simp [World.cell?, hx2]
  have hne : (23 : TypeId) ≠ 25 := by decide
  have i46 : (Tryd.prog.info? 25).map (fun i => (i.zero, i.size, i.bytes)) = some (some (.agg #[.int .i64 0, .int .i64 0]), 2, 16) := by kernel_rfl
  obtain ⟨i0, hi, hz0, hz1, hz2⟩ := info_parts i46
  have hb1' : Below w0.heap.size w0 W1 := by rw [← hW1]; exact h.below.alloc h.below.size _
  have hb2' : Below w0.heap.size w0 W2 := hb1'.grown hg2 hb1'.size (fun k e => by cases e; exact h0l)
  gi_wp2_with (first
    | (gi_at_builtin; refine wpListIn_append_own _ rfl _ _ 23 rfl w0.heap.size 25 i0 (.agg #[.int .i64 0, .int .i64 0]) 2 16 Tryd.underlying23 hi hz0 hz1 hz2 rfl (by decide) _ _ _ rfl (hrow2.alloc _) ⟨W2.heap.size, 0, none⟩ 1 1 [.int .i64 x.1, .int .i64 x.2] rfl rfl (new_cells W2 x) (by simp [Value.oneCell']) (by omega) (by omega) (by have := hb2'.size; simp; omega) ?_; intro v' w3 hown' hg3 hnil3
       have hv3 : Boxed w3 Bs 23 v := (hv2.alloc _).kept hg3 (show some Bs ≠ v.ownBlock from hv2.not_row hne hrow2)
       obtain ⟨hc3, hf3⟩ := cell_of_box_a (show w3.heap[Bs]? = some (.cells #[v] 23 (0, 0)) from hv3)
       obtain ⟨g', cap', rfl⟩ := ownsRow_succ hown'
       go_frame)
    | gi_round_op_a)
  have hne' : ∀ {j : Nat} {o : Obj}, W2.heap[j]? = some o → (∀ cur, o ≠ .cells cur 25 (0, 0)) → some j ≠ v.ownBlock := fun hj hno => by
    rcases ownsRow_ne_a hrow2 hj hno with e | e
    · rw [e]; simp
    · exact fun e' => e e'.symm
  have hL2 : W2.heap[l]? = some (.loop { apRec fn sv Bs D .ready none with state := .busy }) := by rw [← hW2]; exact World.putObj_heap_same hl1
  have hK1 : W1.heap[D]? = some (.deferred (some [])) := by rw [← hW1]; exact (Below.heap_alloc _ _ _ hDs).trans h.K
  have hK2 : W2.heap[D]? = some (.deferred (some [])) := by rw [← hW2]; exact (World.putObj_heap_other hDl).trans hK1
  have hg3' : (W2.alloc (.cells #[.int .i64 x.1, .int .i64 x.2] 25)).grownBy w3 v.ownBlock := hg3
  have hl2 : l < W2.heap.size := (Array.getElem?_eq_some_iff.1 hL2).1
  have hDlt : D < W2.heap.size := (Array.getElem?_eq_some_iff.1 hK2).1
  have hL3 : w3.heap[l]? = some (.loop { apRec fn sv Bs D .ready none with state := .busy }) := (hg3'.block l (by simp; omega) (hne' hL2 (fun cur e => by cases e))).trans ((Below.heap_alloc _ _ l hl2).trans hL2)
  have hK3 : w3.heap[D]? = some (.deferred (some [])) := (hg3'.block D (by simp; omega) (hne' hK2 (fun cur e => by cases e))).trans ((Below.heap_alloc _ _ D hDlt).trans hK2)
  have hk2 : KeepsWalks W W2 := by rw [← hW2]; rw [← hW1]; exact (KeepsWalks.alloc _ _).trans (KeepsWalks.putObj _ (by rw [hW1]; exact hL1) rfl)
  obtain ⟨w4, hw4⟩ : ∃ w4, w3.setCell ⟨Bs, 0, none⟩ (.slice (some ⟨g', 0, none⟩) (ss.length + 1) cap') = w4 := ⟨_, rfl⟩
  rw [hw4]
  have hg4 : w3.grownBy w4 (some Bs) := by rw [← hw4]; exact grownBy_setCell0_a _ _ _
  have hv4 : Boxed w4 Bs 23 (.slice (some ⟨g', 0, none⟩) (ss.length + 1) cap') := by rw [← hw4]; exact hv3.set _
  have hL4 : w4.heap[l]? = some (.loop { apRec fn sv Bs D .ready none with state := .busy }) := (hg4.block l (Array.getElem?_eq_some_iff.1 hL3).1 (fun e => hBl (by cases e; rfl))).trans hL3
  have hK4 : w4.heap[D]? = some (.deferred (some [])) := (hg4.block D (Array.getElem?_eq_some_iff.1 hK3).1 (fun e => hDB (by cases e; rfl))).trans hK3
  have hrow4 := hown'.kept hg4 (ownsRow_ne_a hown' (show w3.heap[Bs]? = some (.cells #[v] 23 (0, 0)) from hv3) (fun cur e => hne (Obj.cells.inj e).2.1))
  have hl4 : l < w4.heap.size := (Array.getElem?_eq_some_iff.1 hL4).1
  have hb3 : Below w0.heap.size w0 w3 := (hb2'.alloc hb2'.size _).grown hg3' (by have := hb2'.size; simp; omega) (fun k e => (hrow2.lt k e).1)
  have hb4 : Below w0.heap.size w0 w4 := hb3.grown hg4 hb3.size (fun k e => by cases e; exact h0B)
  have hk4 : KeepsWalks W w4 := ((hk2.trans (KeepsWalks.alloc _ _)).trans (KeepsWalks.of_grownBy hg3' (ownsRow_not_walk_a (hrow2.alloc _)))).trans (by rw [← hw4]; exact KeepsWalks.setCell _ _ _)
  clear hw4
  refine ⟨_, _, run_endRound none hL4, rfl, ⟨⟨_, hv4.kept (grownBy_putObj_a w4 l _) (by simpa using hBl), ?_, by simp⟩, World.putObj_heap_same hl4, (World.putObj_heap_other hDl).trans hK4, hb4.grown (grownBy_putObj_a _ _ _) hb4.size (fun k e => by cases e; exact h0l)⟩, hk4.trans (KeepsWalks.putObj _ hL4 rfl)⟩
  have := hrow4.kept (grownBy_putObj_a w4 l (.loop { { apRec fn sv Bs D .ready none with state := .busy } with state := if (none : Option Code).isNone then .ready else .done, pending := none })) (ownsRow_ne_a hrow4 hL4 (fun cur e => by cases e))
  simpa [List.flatMap_append] using this
set_option maxHeartbeats 2000000 in
theorem appendSeq_nm (F : Fence) (n : Nat) (h11 : F.fn 82) (hro : F.round = none) (hn : 2 ≤ n) (g : Nat) (lb : Array Value) (hFg : F.fn g) (eg : ∀ args w, (callFunc g args).run Tryd.prog w = .ok (.enter g args) w)
    (S : List (Int × Int) → Prop) (N : Nat) (hN : N ≤ maxLen) (hNb : N * 16 ≤ 140737488355328) (w : World) (hseq : SeqGives F (n - 1) Tryd.prog g lb encNm S N w) :
    CallsIn F n Tryd.prog 82 #[.slice none 0 0, .func (.func g) #[] lb] w fun e w' => ∃ (v : Value) (ss : List (Int × Int)), e = .returned v ∧ S ss ∧ w'.ownsRow w.heap.size 25 2 v ss.length (ss.flatMap nmCells) ∧ (v = .slice none 0 0 ↔ ss = []) ∧ Below w.heap.size w w' := by
  have h1 : 1 ≤ n := by omega
  have hne : (23 : TypeId) ≠ 25 := by decide
  have u46 := run_underlying (P := Tryd.prog) Tryd.underlying25
  have u54 := run_underlying (P := Tryd.prog) Tryd.underlying23
  refine callsIn_of_wp_marks Tryd.func82 rfl h11 ?_ hro
  obtain ⟨ap, hap⟩ : ∃ ap, apParts = ap := ⟨_, rfl⟩
  simp only [Tryd.f82, List.size_toArray, List.length_cons, List.length_nil, Nat.reduceAdd, Nat.reduceSub, Array.replicate_succ, Array.replicate_zero, List.push_toArray, List.append_toArray, List.nil_append, List.cons_append]
  gi_wp2
  refine wpIn_rangeFunc ?_
  intro fn hfn
  rw [hro]
  obtain ⟨W0, hW0⟩ : ∃ W0, w.alloc (.cells #[.slice none 0 0] 23) = W0 := ⟨_, rfl⟩
  have hs0 : W0.heap.size = w.heap.size + 1 := by rw [← hW0]; simp
  have hv0 : W0.heap[w.heap.size]? = some (.cells #[.slice none 0 0] 23 (0, 0)) := by rw [← hW0]; exact World.alloc_heap_new w _
  have hb0 : Below w.heap.size w W0 := by rw [← hW0]; exact (Below.refl _ w).alloc (Nat.le_refl _) _
  rw [hW0]
  obtain ⟨W1, hW1⟩ : ∃ W1, (W0.alloc (.deferred (some []))).alloc (.loop (apRec fn (.func (.func g) #[] lb) w.heap.size W0.heap.size .ready none)) = W1 := ⟨_, rfl⟩
  have hold : ∀ k, k < W0.heap.size → W1.heap[k]? = W0.heap[k]? := fun k hk => by
    rw [← hW1]; exact (Below.heap_alloc _ _ k (by simp; omega)).trans (Below.heap_alloc _ _ k hk)
  have hb1 : Below w.heap.size w W1 := by rw [← hW1]; exact (hb0.alloc hb0.size _).alloc (by have := hb0.size; simp; omega) _
  have hs1 : W1.heap.size = W0.heap.size + 2 := by rw [← hW1]; simp
  have hM : ApAt w fn (.func (.func g) #[] lb) w.heap.size (W0.heap.size + 1) W0.heap.size [] W1 :=
    ⟨⟨_, (hold w.heap.size (by omega)).trans hv0, ⟨rfl, .inl ⟨rfl, rfl⟩⟩, by simp⟩,
     by rw [← hW1]; have := World.alloc_heap_new (W0.alloc (.deferred (some []))) (.loop (apRec fn (.func (.func g) #[] lb) w.heap.size W0.heap.size .ready none)); rwa [World.size_alloc] at this,
     by rw [← hW1]; exact (Below.heap_alloc _ _ _ (by simp)).trans (World.alloc_heap_new W0 _), hb1⟩
  refine ⟨W0.heap.size + 1, [{ target := .collected W0.heap.size, args := #[] }], W1, { target := .fn (.func g) lb, args := #[.func (.yield (W0.heap.size + 1)) #[] #[]] }, W1, g,
    #[.func (.yield (W0.heap.size + 1)) #[] #[]] ++ lb, W1, ?_, ?_, ?_, ?_, fun _ => h1, ?_⟩
  · rw [← hW1]; exact run_enterLoop_outer _ _ _ _ _
  · simp [resolve, go_sem]
  · intro f' hf'; simp [Target.leads] at hf'; subst hf'; exact hFg
  · simp [invoke, go_sem, eg]
  · refine (hseq (W0.heap.size + 1) (ApAt w fn (.func (.func g) #[] lb) w.heap.size (W0.heap.size + 1) W0.heap.size) W1 hb1 (ap_abides _ _ _ _ _ _ _ hb1.size)
      (fun pre x W hJ hl => apYield F (n - 1 - 1) w fn hfn _ w.heap.size (W0.heap.size + 1) W0.heap.size (by omega) (by omega) (by omega) (Nat.le_refl _) (by omega) N hN hNb pre x W hJ hl) hM).mono ?_
    rintro e W2 ⟨⟨v0, rfl⟩, ss, hS, h2⟩
    obtain ⟨v, hv, hrow, hnil⟩ := h2.box
    have hend := run_endLoop (P := Tryd.prog) h2.L (by simp [apRec])
    obtain ⟨W3, hW3⟩ : ∃ W3, W2.putObj (W0.heap.size + 1) (.loop { apRec fn (.func (.func g) #[] lb) w.heap.size W0.heap.size .ready none with state := .exhausted }) = W3 := ⟨_, rfl⟩
    rw [hW3] at hend
    have hg3 : W2.grownBy W3 (some (W0.heap.size + 1)) := by rw [← hW3]; exact grownBy_putObj_a _ _ _
    have hv3 : W3.heap[w.heap.size]? = some (.cells #[v] 23 (0, 0)) := by rw [← hW3]; exact (World.putObj_heap_other (by omega)).trans hv
    have hK3 : W3.heap[W0.heap.size]? = some (.deferred (some [])) := by rw [← hW3]; exact (World.putObj_heap_other (by omega)).trans h2.K
    have hrow3 := hrow.kept hg3 (ownsRow_ne_a hrow h2.L (fun cur e => by cases e))
    have hb3 : Below w.heap.size w W3 := h2.below.grown hg3 h2.below.size (fun k e => by cases e; omega)
    obtain ⟨hc3, hf3⟩ := cell_of_box_a hv3
    clear hW3
    refine ⟨none, W3, hend, ?_⟩
    gi_wp2
    rw [← hs0]
    refine ⟨by simp, .inl ⟨_, _, rfl, run_takeDeferred hK3, ?_⟩⟩
    exact ⟨_, results_tmp rfl _ _ _, v, ss, rfl, hS, hrow3.kept (grownBy_putObj_a _ _ _) (ownsRow_ne_a hrow3 hK3 (fun cur e => by cases e)), hnil, hb3.grown (grownBy_putObj_a _ _ _) hb3.size (fun k e => by cases e; omega)⟩
set_option maxHeartbeats 1000000 in
theorem collect_nm (F : Fence) (n : Nat) (h8 : F.fn 61) (h11 : F.fn 82) (hro : F.round = none) (hn : 3 ≤ n) (g : Nat) (lb : Array Value) (hFg : F.fn g) (eg : ∀ args w, (callFunc g args).run Tryd.prog w = .ok (.enter g args) w)
  (S : List (Int × Int) → Prop) (N : Nat) (hN : N ≤ maxLen) (hNb : N * 16 ≤ 140737488355328) (w : World) (hseq : SeqGives F (n - 1 - 1) Tryd.prog g lb encNm S N w) :
  CallsIn F n Tryd.prog 61 #[.func (.func g) #[] lb] w fun e w' => ∃ (v : Value) (ss : List (Int × Int)), e = .returned v ∧ S ss ∧ w'.ownsRow w.heap.size 25 2 v ss.length (ss.flatMap nmCells) ∧ (v = .slice none 0 0 ↔ ss = []) ∧ Below w.heap.size w w' := by
 have h1 : 1 ≤ n := by omega
 have e11 : ∀ args w, (callFunc 82 args).run Tryd.prog w = .ok (.enter 82 args) w := enters_of Tryd.func82 (by kernel_rfl) rfl
 have u46 := run_underlying (P := Tryd.prog) Tryd.underlying25
 have u54 := run_underlying (P := Tryd.prog) Tryd.underlying23
 refine callsIn_of_wp Tryd.func61 rfl h8 ?_ hro
 simp only [Tryd.f61, List.size_toArray, List.length_cons, List.length_nil, Nat.reduceAdd, Nat.reduceSub, Array.replicate_succ, Array.replicate_zero, List.push_toArray, List.append_toArray, List.nil_append, List.cons_append]
 gi_wp2_with (gi_at_fn 82; refine (appendSeq_nm F (n - 1) h11 hro (by omega) g lb hFg eg S N hN hNb _ hseq).mono ?_; rintro e w' ⟨v, ss, rfl, hS, hrow, hnil, hb⟩)
 go_ret
 exact ⟨v, ss, rfl, hS, hrow, hnil, hb⟩
end Go.Proofs.YtelpjaejmneplaaDoor.Am
namespace Go.Proofs.YtelpjaejmneplaaDoor.Am
open Go Go.Proofs Go.Shelf
def sortNm_ren : Go.Shelf.Ren := ⟨fun | 6 => 58 | 15 => 81 | 14 => 80 | 28 => 108 | 29 => 109 | 20 => 100 | 21 => 101 | 22 => 102 | 23 => 103 | 24 => 104 | 25 => 105 | 26 => 106 | 27 => 107 | 46 => 113 | 47 => 114 | 48 => 115 | 49 => 116 | 50 => 117 | 57 => 118 | n => n, fun | 22 => 23 | 24 => 25 | 25 => 83 | 3 => 3 | 39 => 121 | 0 => 0 | 53 => 143 | 55 => 145 | 4 => 4 | 46 => 136 | 45 => 135 | 50 => 140 | 5 => 5 | 9 => 9 | 66 => 149 | 70 => 153 | 76 => 155 | 77 => 156 | n => n, fun | n => n⟩
theorem sortNm : Go.Proofs.SlLaysF0.n6 Tryd.prog sortNm_ren := {
 mixed := by kernel_rfl
 f6 := ⟨Tryd.f58.name, by decide, Tryd.func58.trans (congrArg some (by kernel_rfl))⟩
 f14 := ⟨Tryd.f80.name, by decide, Tryd.func80.trans (congrArg some (by kernel_rfl))⟩
 f15 := Tryd.func81.trans (congrArg some (by kernel_rfl))
 f20 := ⟨Tryd.f100.name, by decide, Tryd.func100.trans (congrArg some (by kernel_rfl))⟩
 f21 := ⟨Tryd.f101.name, by decide, Tryd.func101.trans (congrArg some (by kernel_rfl))⟩
 f22 := ⟨Tryd.f102.name, by decide, Tryd.func102.trans (congrArg some (by kernel_rfl))⟩
 f23 := ⟨Tryd.f103.name, by decide, Tryd.func103.trans (congrArg some (by kernel_rfl))⟩
 f24 := ⟨Tryd.f104.name, by decide, Tryd.func104.trans (congrArg some (by kernel_rfl))⟩
 f25 := ⟨Tryd.f105.name, by decide, Tryd.func105.trans (congrArg some (by kernel_rfl))⟩
 f26 := ⟨Tryd.f106.name, by decide, Tryd.func106.trans (congrArg some (by kernel_rfl))⟩
 f27 := ⟨Tryd.f107.name, by decide, Tryd.func107.trans (congrArg some (by kernel_rfl))⟩
 f28 := Tryd.func108.trans (congrArg some (by kernel_rfl))
 f29 := Tryd.func109.trans (congrArg some (by kernel_rfl))
 f46 := ⟨Tryd.f113.name, by decide, Tryd.func113.trans (congrArg some (by kernel_rfl))⟩
 f47 := Tryd.func114.trans (congrArg some (by kernel_rfl))
 f48 := Tryd.func115.trans (congrArg some (by kernel_rfl))
 f49 := ⟨Tryd.f116.name, by decide, Tryd.func116.trans (congrArg some (by kernel_rfl))⟩
 f50 := ⟨Tryd.f117.name, by decide, Tryd.func117.trans (congrArg some (by kernel_rfl))⟩
 f57 := ⟨Tryd.f118.name, by decide, Tryd.func118.trans (congrArg some (by kernel_rfl))⟩
 t0 := Tryd.underlying0
 a0 := Tryd.isAgg0
 z0 := Tryd.sizeOf0
 v0 := Tryd.zeroValue0
 t3 := Tryd.underlying3
 a3 := Tryd.isAgg3
 z3 := Tryd.sizeOf3
 v3 := Tryd.zeroValue3
 t4 := Tryd.underlying4
 a4 := Tryd.isAgg4
 z4 := Tryd.sizeOf4
 v4 := Tryd.zeroValue4
 t5 := Tryd.underlying5
 a5 := Tryd.isAgg5
 z5 := Tryd.sizeOf5
 v5 := Tryd.zeroValue5
 t9 := Tryd.underlying9
 a9 := Tryd.isAgg9
 z9 := Tryd.sizeOf9
 v9 := Tryd.zeroValue9
 t22 := Tryd.underlying23
 a22 := Tryd.isAgg23
 z22 := Tryd.sizeOf23
 v22 := Tryd.zeroValue23
 t25 := Tryd.underlying83
 a25 := Tryd.isAgg83
 z25 := Tryd.sizeOf83
 v25 := Tryd.zeroValue83
 t39 := Tryd.underlying121
 a39 := Tryd.isAgg121
 z39 := Tryd.sizeOf121
 v39 := Tryd.zeroValue121
 t45 := Tryd.underlying135
 a45 := Tryd.isAgg135
 z45 := Tryd.sizeOf135
 v45 := Tryd.zeroValue135
 t46 := Tryd.underlying136
 a46 := Tryd.isAgg136
 z46 := Tryd.sizeOf136
 v46 := Tryd.zeroValue136
 t50 := Tryd.underlying140
 a50 := Tryd.isAgg140
 z50 := Tryd.sizeOf140
 v50 := Tryd.zeroValue140
 t53 := Tryd.underlying143
 a53 := Tryd.isAgg143
 z53 := Tryd.sizeOf143
 v53 := Tryd.zeroValue143
 t55 := Tryd.underlying145
 a55 := Tryd.isAgg145
 z55 := Tryd.sizeOf145
 v55 := Tryd.zeroValue145
 t66 := Tryd.underlying149
 a66 := Tryd.isAgg149
 z66 := Tryd.sizeOf149
 v66 := Tryd.zeroValue149
 t70 := Tryd.underlying153
 a70 := Tryd.isAgg153
 z70 := Tryd.sizeOf153
 v70 := Tryd.zeroValue153
 t76 := Tryd.underlying155
 a76 := Tryd.isAgg155
 z76 := Tryd.sizeOf155
 v76 := Tryd.zeroValue155
 t77 := Tryd.underlying156
 a77 := Tryd.isAgg156
 z77 := Tryd.sizeOf156
 v77 := Tryd.zeroValue156 }
def cloneNm_ren : Go.Shelf.Ren := ⟨fun | 5 => 69 | 7 => 90 | n => n, fun | 23 => 76 | 25 => 25 | 3 => 34 | 4 => 4 | 20 => 20 | n => n, fun | n => n⟩
theorem cloneNm : Go.Proofs.SlLaysW.n5 Tryd.prog cloneNm_ren := {
 mixed := by kernel_rfl
 f5 := ⟨Tryd.f69.name, by decide, Tryd.func69.trans (congrArg some (by kernel_rfl))⟩
 f7 := Tryd.func90.trans (congrArg some (by kernel_rfl))
 t4 := Tryd.underlying4
 a4 := Tryd.isAgg4
 z4 := Tryd.sizeOf4
 v4 := Tryd.zeroValue4
 t20 := Tryd.underlying20
 a20 := Tryd.isAgg20
 z20 := Tryd.sizeOf20
 v20 := Tryd.zeroValue20
 t23 := Tryd.underlying76
 a23 := Tryd.isAgg76
 z23 := Tryd.sizeOf76
 v23 := Tryd.zeroValue76 }
end Go.Proofs.YtelpjaejmneplaaDoor.Am
namespace Go.Proofs.YtelpjaejmneplaaDoor.Am
open Go Go.Proofs Go.RowKit Go.Maps Go.Sort Go.Shelf Go.ChangeMaps
theorem ordF_ltOf : ltOf ordF = nless := by
 funext x y
 exact ordF_lt x y
theorem ordF_swo : SWO (ltOf ordF) := by
 rw [ordF_ltOf]
 exact ⟨nless_irrefl, fun _ _ _ h h' => nless_trans h h', fun x y z h h' => by
  simp only [nless, Bool.or_eq_false_iff, Bool.and_eq_false_iff, decide_eq_false_iff_not] at *; omega⟩
theorem flatK_nm (d : Array Nm) : (flatK nmCells 2 d).toList = d.toList.flatMap nmCells := by
 have key : ∀ (l : List Nm) (t : Nat), (l.flatMap nmCells)[t]? = if t < l.length * 2 then some ((nmCells (l[t / 2]?.getD default))[t % 2]!) else none := by
  intro l
  induction l with
  | nil => intro t; simp
  | cons x r ih =>
   intro t
   match t with
   | 0 => simp [nmCells]
   | 1 => simp [nmCells]; omega
   | t + 2 =>
    have h1 : ((x :: r).flatMap nmCells)[t + 2]? = (r.flatMap nmCells)[t]? := by simp [nmCells]
    have h2 : (t + 2) / 2 = t / 2 + 1 := by omega
    have h3 : (t + 2) % 2 = t % 2 := by omega
    rw [h1, ih t, h2, h3]
    simp only [List.length_cons, List.getElem?_cons_succ]
    by_cases h : t < r.length * 2
    ·rw [if_pos h, if_pos (by omega)]
    ·rw [if_neg h, if_neg (by omega)]
 apply List.ext_getElem?
 intro t
 rw [key]
 unfold flatK
 simp only [Array.toList_map, List.getElem?_map, Array.toList_range, List.getElem?_range]
 by_cases h : t < d.size * 2
 ·rw [List.getElem?_range h, if_pos (by simpa using h)]
  simp only [Option.map_some]
  have : d[t / 2]! = d.toList[t / 2]?.getD default := by
   have h' : t / 2 < d.size := by omega
   simp [h']
  rw [this]
 ·rw [List.getElem?_eq_none (by simp; omega), if_neg (by simpa using h)]; rfl
theorem holds_nm {w : World} {g : Nat} {cur : Array Value} {e : TypeId} {ss : List Nm} (hb : w.heap[g]? = some (.cells cur e (0, 0))) (ht : cur.toList.take (ss.length * 2) = ss.flatMap nmCells) : HoldsK nmCells 2 w g 0 ss.toArray := by
 intro j hj
 rw [size_flatK] at hj
 have hj' : j < ss.length * 2 := by simpa using hj
 refine ⟨?_, by simp [World.frozen?, hb]⟩
 have h1 : (cur.toList.take (ss.length * 2))[j]? = (ss.flatMap nmCells)[j]? := by rw [ht]
 rw [List.getElem?_take_of_lt hj'] at h1
 have h2 : (ss.flatMap nmCells)[j]? = (flatK nmCells 2 ss.toArray)[j]? := by rw [← Array.getElem?_toList, flatK_nm]
 simp only [World.cell?, hb, Nat.zero_add]
 simp only [Option.isSome_none, Bool.false_eq_true, if_false]
 rw [← Array.getElem?_toList, h1, h2]
 have h3 : j < (flatK nmCells 2 ss.toArray).size := by rw [size_flatK]; simpa using hj'
 rw [Array.getElem?_eq_getElem h3, getElem!_pos _ j h3]; rfl
theorem heap_sortedV {w : World} {g n : Nat} {os : Array Obj} {cur : Array Value} {e : TypeId} {fr : Nat × Nat} (d : Array Value) (hb : w.heap[g]? = some (.cells cur e fr)) :
  (grow (putRow id (Sort.ahead w n) g 0 d) os).heap[g]? = some (.cells (putCells id 0 d cur) e fr) := by
 have hg : g < w.heap.size := (Array.getElem?_eq_some_iff.1 hb).1
 rw [heap_grow_old _ _ (by simpa using hg)]
 simp [putRow, mapBlock, Sort.ahead, Array.getElem?_modify, hb, onCells]
theorem grownBy_sortedV {w : World} {g n : Nat} {os : Array Obj} (d : Array Value) : w.grownBy (grow (putRow id (Sort.ahead w n) g 0 d) os) (some g) := by
 refine ⟨rfl, rfl, rfl, by simp, fun k hk hne => ?_⟩
 rw [heap_grow_old _ _ (by simpa using hk)]
 have : g ≠ k := fun e => hne (by rw [e])
 simp [putRow, mapBlock, Sort.ahead, Array.getElem?_modify, this]
theorem take_putCellsV (cur : Array Value) (ts : Array Value) (h : ts.size ≤ cur.size) : (putCells id 0 ts cur).toList.take ts.size = ts.toList := by
 apply List.ext_getElem?
 intro j
 by_cases hj : j < ts.size
 ·rw [List.getElem?_take_of_lt hj, Array.getElem?_toList]
  simp [putCells, hj, show j < cur.size by omega]
 ·rw [List.getElem?_take_eq_none (by omega), List.getElem?_eq_none (by simp; omega)]
theorem ownsRow_sortedV {w : World} {base g cap n : Nat} {e : TypeId} {os : Array Obj} {cur : Array Value} {d : Array Nm} {m : Nat} (hl : d.size = m) (hbase : base ≤ g) (hb : w.heap[g]? = some (.cells cur e (0, 0)))
  (h1 : m ≤ cap) (h2 : cap ≤ maxLen) (h3 : cur.size = cap * 2) :
  (sortWorldK nmCells 2 w g 0 n d os).ownsRow base e 2 (.slice (some ⟨g, 0, none⟩) m cap) m (d.toList.flatMap nmCells) := by
 subst hl
 refine ⟨by rw [← flatK_nm]; simp, .inr ⟨g, cap, _, rfl, hbase, heap_sortedV _ hb, h1, h2, by simp [putCells, h3], ?_⟩⟩
 have := take_putCellsV cur (flatK nmCells 2 d) (by rw [size_flatK, h3]; omega)
 rw [size_flatK, flatK_nm] at this
 exact this
theorem sorted_is {d d' : Array Nm} (hp : PermIn 0 d.size d d') (hs : SortedIn (ltOf ordF) 0 d.size d') : d'.toList = sortN d.toList := by
 obtain ⟨h1, _, h2⟩ := hp
 have hp : d'.toList.Perm d.toList := by
  have e1 : d'.extract 0 d.size = d' := by rw [← h1]; exact Array.extract_size
  have e2 : d.extract 0 d.size = d := Array.extract_size
  rw [e1, e2] at h2; exact h2
 refine (sortN_of ?_ hp.symm).symm
 refine List.pairwise_iff_getElem.2 fun i j hi hj hij => ?_
 have hi' : i < d'.size := by simpa using hi
 have hj' : j < d'.size := by simpa using hj
 have := hs i j (Nat.zero_le _) hij (by omega)
 rw [ordF_ltOf, getElem!_pos d' i hi', getElem!_pos d' j hj'] at this
 simpa using this
theorem less_nm (x y : Nm) (W : World) : Calls Tryd.prog 46 #[encNm x, encNm y] W fun e w' => e = .returned (.bool (nless x y)) ∧ ∃ q os', w' = grow (W.drewN q) os' := by
 go_enter Tryd.func46, Tryd.ntmps46
 go_wp2
 all_goals go_ret
 all_goals refine ⟨?_, 0, _, by rw [alloc_eq_grow, alloc_eq_grow, grow_grow]; rfl⟩
 all_goals show Ending.returned (Value.bool _) = Ending.returned (Value.bool _)
 all_goals congr 2
 all_goals simp_all [nless]
theorem cell_grow {w : World} {os : Array Obj} {a : Addr} {v : Value} (h : w.cell? a = some v) (hb : a.block < w.heap.size) : (grow w os).cell? a = some v := by
 have e : (grow w os).heap[a.block]? = w.heap[a.block]? := heap_grow_old _ _ hb
 rw [← h]
 simp only [World.cell?, e]
theorem order_nm (x y : Nm) (W : World) : Calls Tryd.prog 38 #[encNm x, encNm y] W fun e w' => e = .returned (.int .i64 (ordF x y)) ∧ ∃ q os', w' = grow (W.drewN q) os' := by
 have h := less_nm x y
 go_enter Tryd.func38, Tryd.ntmps38
 obtain ⟨W1, hW1⟩ : ∃ W1, (W.alloc (.cells #[.int .i64 x.1, .int .i64 x.2] 25)).alloc (.cells #[.int .i64 y.1, .int .i64 y.2] 25) = W1 := ⟨_, rfl⟩
 have b0 : W.heap.size < W1.heap.size := by rw [← hW1]; simp; omega
 have b1 : W.heap.size + 1 < W1.heap.size := by rw [← hW1]; simp
 have c0 : W1.cell? ⟨W.heap.size, 0, none⟩ = some (.int .i64 x.1) := by rw [← hW1]; simp [go_sem]
 have c1 : W1.cell? ⟨W.heap.size, 1, none⟩ = some (.int .i64 x.2) := by rw [← hW1]; simp [go_sem]
 have c2 : W1.cell? ⟨W.heap.size + 1, 0, none⟩ = some (.int .i64 y.1) := by rw [← hW1]; simp [go_sem]
 have c3 : W1.cell? ⟨W.heap.size + 1, 1, none⟩ = some (.int .i64 y.2) := by rw [← hW1]; simp [go_sem]
 go_wp2_with (go_at_call 46; rw [hW1])
 refine (h _).mono ?_
 rintro e w' ⟨rfl, hE⟩
 have d0 : w'.cell? ⟨W.heap.size, 0, none⟩ = some (.int .i64 x.1) := by obtain ⟨q, os', rfl⟩ := hE; exact cell_grow (w := W1.drewN q) c0 b0
 have d1 : w'.cell? ⟨W.heap.size, 1, none⟩ = some (.int .i64 x.2) := by obtain ⟨q, os', rfl⟩ := hE; exact cell_grow (w := W1.drewN q) c1 b0
 have d2 : w'.cell? ⟨W.heap.size + 1, 0, none⟩ = some (.int .i64 y.1) := by obtain ⟨q, os', rfl⟩ := hE; exact cell_grow (w := W1.drewN q) c2 b1
 have d3 : w'.cell? ⟨W.heap.size + 1, 1, none⟩ = some (.int .i64 y.2) := by obtain ⟨q, os', rfl⟩ := hE; exact cell_grow (w := W1.drewN q) c3 b1
 have hF : ∃ q os', w' = grow (W.drewN q) os' := by
  obtain ⟨q, os', rfl⟩ := hE
  rw [← hW1, alloc_eq_grow, alloc_eq_grow, grow_grow]
  exact ⟨q, _, (grow_grow (W.drewN q) _ os')⟩
 clear hE hW1
 go_wp2
 all_goals go_ret
 all_goals refine ⟨?_, hF⟩
 all_goals show Ending.returned (Value.int .i64 _) = Ending.returned (Value.int .i64 _)
 all_goals congr 2
 all_goals (unfold ordF; simp [*, Prod.ext_iff])
theorem order_lays (blk off size : Nat) (w : World) : CmpLays Tryd.prog 38 #[] nmCells 2 ordF blk off size w :=
 fun _ _ _ _ x y => order_nm x y _
theorem keys_gives_nm (F : Fence) (n : Nat) (h : F.fn 62) (hro : F.round = none) (hn : 1 ≤ n) (Bm b : Nat) (es : Array MapEntry) (clock : Nat) (w : World) (hBm : Bm < w.heap.size)
  (hm : w.cell? ⟨Bm, 0, none⟩ = some (.map (some b))) (hb : w.heap[b]? = some (.map es clock)) (hB : Born es clock) (hk : ∀ e ∈ es.toList, ∃ v : Int × Int, e.key = encNm v) :
  SeqGives F n Tryd.prog 62 #[.pointer (some ⟨Bm, 0, none⟩)] encNm (fun ks => (ks.map encNm).Perm (es.toList.map (·.key))) es.size w := fun l J W hW hJ hY h0 =>
 keys_walk F n h hro hn l Bm b es clock J hY W hJ ((hW.cell (p := ⟨Bm, 0, none⟩) hBm).trans hm) ((hW.block b (Array.getElem?_eq_some_iff.1 hb).1).trans hb) hB h0 hk
set_option maxHeartbeats 1000000 in
theorem sorted_nm (Bm b : Nat) (es : Array MapEntry) (clock : Nat) (w : World) (hBm : Bm < w.heap.size)
  (hm : w.cell? ⟨Bm, 0, none⟩ = some (.map (some b))) (hb : w.heap[b]? = some (.map es clock)) (hB : Born es clock) (hk : ∀ e ∈ es.toList, ∃ v : Int × Int, e.key = encNm v) (hN : es.size ≤ 8796093022208) :
  Calls Tryd.prog 36 #[.func (.func 62) #[] #[.pointer (some ⟨Bm, 0, none⟩)], .func (.func 38) #[] #[]] w fun e w' =>
   ∃ (v : Value) (ns : List Nm), e = .returned v ∧ (ns.map encNm).Perm (es.toList.map (·.key)) ∧ w'.ownsRow w.heap.size 25 2 v ns.length ((sortN ns).flatMap nmCells) ∧ (v = .slice none 0 0 ↔ ns = []) ∧ Below w.heap.size w w' := by
 have ek : ∀ args w, (callFunc 62 args).run Tryd.prog w = .ok (.enter 62 args) w := enters_of Tryd.func62 (by kernel_rfl) rfl
 have eo : ∀ args w, (callFunc 38 args).run Tryd.prog w = .ok (.enter 38 args) w := enters_of Tryd.func38 (by kernel_rfl) rfl
 have hseq := SeqGives.bounded (keys_gives_nm Fence.wide 4 trivial rfl (by omega) Bm b es clock w hBm hm hb hB hk)
 have cC := callsIn_wide.1 (collect_nm Fence.wide 6 trivial trivial rfl (by omega) 62 _ trivial ek _ es.size (by unfold maxLen; omega) (by omega) w hseq)
 have u46 := run_underlying (P := Tryd.prog) Tryd.underlying25
 have u54 := run_underlying (P := Tryd.prog) Tryd.underlying23
 go_enter Tryd.func36, Tryd.ntmps36
 go_wp2_with (go_at_call 61; refine cC.mono ?_; rintro e W ⟨v, ss, rfl, ⟨hS, hlen⟩, hrow, hnil, hb⟩)
 rcases hrow.2 with ⟨rfl, hz⟩ | ⟨gb, cap, cur, rfl, hbase, hgb, r1, r2, r3, r4⟩
 ·have hss : ss = [] := List.eq_nil_of_length_eq_zero hz
  subst hss
  refine Calls.mono (show Calls Tryd.prog 58 #[.slice none 0 0, .func (.func 38) #[] #[]] W fun e w' => e = .returned (.tuple #[]) ∧ w' = W from AnyF.slices_SortFunc_none sortNm none 0 _ W) ?_
  rintro e w' ⟨rfl, rfl⟩
  go_wp2
  go_ret
  exact ⟨.slice none 0 0, [], rfl, hS, hrow, by simp, hb⟩
 ·have hH : HoldsK nmCells 2 W gb 0 ss.toArray := holds_nm hgb r4
  have hgl : gb < W.heap.size := (Array.getElem?_eq_some_iff.1 hgb).1
  have hsz : ss.toArray.size < 4611686018427387904 := by simp; omega
  have cS := AnyQ.slices_SortFunc sortNm 2 Tryd.isAgg25 Tryd.sizeOf25 nmCells (fun _ => rfl) (fun x v hv => by simp [nmCells] at hv; rcases hv with rfl | rfl <;> rfl) ordF ordF_swo 38 #[] gb 0 cap ss.toArray W eo (order_lays gb 0 _ W) hH hgl hsz
  change Calls Tryd.prog 58 _ _ _ at cS
  rw [List.size_toArray] at cS
  refine cS.mono ?_
  rintro e w' ⟨rfl, d', n, os, hp, hs, rfl⟩
  have hd := sorted_is (d := ss.toArray) (by simpa using hp) (by simpa using hs)
  have hds : d'.size = ss.length := by have := hp.1; simpa using this
  have ho := ownsRow_sortedV (n := n) (os := os) hds hbase hgb r1 r2 r3
  rw [hd] at ho
  have hbel : Below w.heap.size w (sortWorldK nmCells 2 W gb 0 n d' os) := hb.grown (grownBy_sortedV _) hb.size (fun j hj => by cases hj; exact hbase)
  generalize sortWorldK nmCells 2 W gb 0 n d' os = W' at ho hbel
  go_wp2
  go_ret
  exact ⟨_, ss, rfl, hS, ho, hnil, hbel⟩
end Go.Proofs.YtelpjaejmneplaaDoor.Am
namespace Go.Proofs.YtelpjaejmneplaaDoor.Am
open Go Go.Proofs Go.RowKit Go.Maps Go.Sort Go.Shelf
def decNm : Value → Nm
 | .agg a => match a.toList with
  | [Value.int _ x, Value.int _ y] => (x, y)
  | _ => (0, 0)
 | _ => (0, 0)
theorem natSF_ok {cfg : Cfg} (hc : ∀ f, cfg.conc f = f) : NatOk Tryd.prog cfg 36 (natSF 62 38) := by
 intro args σ v σ' h
 rw [hc]
 refine ⟨⟨_, Tryd.func36, by decide, rfl⟩, ?_⟩
 obtain ⟨id, m, ks, ns, rfl, h1, h2, h3, hlen, h4⟩ := natSF_cases h
 intro E κ cargs hσ hR ha r w hw
 subst hσ
 cases ha with
 | cons _ _ _ _ _ a1 a2 =>
 cases a2 with
 | cons _ _ _ _ _ a2 a3 =>
 cases a3
 cases a2 with
 | func _ _ _ _ us us' b1 b2 =>
 cases b1; cases b2
 cases a1 with
 | func _ _ _ _ us us' b1 b2 =>
 cases b1
 cases b2 with
 | cons _ _ _ _ _ b1 b2 =>
 cases b2
 cases b1 with
 | ptr _ _ _ b hp =>
 obtain ⟨⟨_, hpd⟩, rfl⟩ := hp
 obtain ⟨hc1, vs, e, hb1, hvl⟩ := hR.obj id _ h1 hpd
 obtain ⟨cm, rfl, hm⟩ : ∃ cm, vs = #[cm] ∧ κ.V E cfg.conc m cm := by
  obtain ⟨l⟩ := vs
  cases hvl with
  | cons _ _ _ _ _ hv hl => cases hl; exact ⟨_, rfl, hv⟩
 obtain ⟨mb, es, clock, rfl, hmb, hkeys, hB⟩ := keysOf_ok hR hm h2
 have hks := nmsOf_eq h3
 subst hks
 have hke := nms_V hkeys
 have hel : es.size = ns.length := by
  have := congrArg List.length hke
  simpa using this
 obtain ⟨hwh, hwo, hwu⟩ := hw
 have hloc : κ.loc id < w.heap.size := by rw [hwh]; exact hR.hi id (K.live_of h1 hpd)
 have hcell : w.cell? ⟨κ.loc id, 0, none⟩ = some (.map (some mb)) := by rw [cellAt_eq, hwh]; simp [cellAt, hb1]
 have con := sorted_nm (κ.loc id) mb es clock w hloc hcell (by rw [hwh]; exact hmb) hB (fun e he => by
  have : e.key ∈ es.toList.map (·.key) := List.mem_map.2 ⟨e, he, rfl⟩
  rw [hke] at this
  obtain ⟨n, _, hn⟩ := List.mem_map.1 this
  exact ⟨n, hn.symm⟩) (by rw [hel]; exact hlen)
 rw [hc, hc]
 refine Calls.mono con ?_
 rintro e w' ⟨v0, ns', rfl, hperm, hrow, hnil, hbel⟩
 simp only
 have hs : κ.h.size ≤ w'.heap.size := by rw [← hwh]; exact hbel.size
 have hh : ∀ b, b < κ.h.size → w'.heap[b]? = κ.h[b]? := fun b hb => by rw [← hwh]; exact hbel.block b (by rw [hwh]; exact hb)
 have hns : ns'.Perm ns := by
  rw [hke] at hperm
  have h := hperm.map decNm
  have e : ∀ l : List Nm, (l.map encNm).map decNm = l := fun l => by
   rw [List.map_map, show decNm ∘ encNm = _root_.id from funext fun a => rfl, List.map_id]
  have e' : (ns.map fun n => (Value.agg #[.int .i64 n.1, .int .i64 n.2])).map decNm = ns := e ns
  rw [e, e'] at h
  exact h
 rcases h4 with ⟨rfl, rfl, rfl⟩ | ⟨hne, rfl, rfl⟩
 ·have e0 : ns' = [] := List.perm_nil.1 hns
  rw [hnil.2 e0]
  exact ⟨κ.more w'.heap, ⟨rfl, hbel.os.trans hwo, hbel.output.trans hwu⟩, rfl, K.more_le hR hs hh, K.more_R hR hs hh, .nilslice _⟩
 ·have hso : sortN ns' = sortN ns := up_one (sortN_up _) (sortN_up _) ((sortN_perm _).trans (hns.trans (sortN_perm _).symm))
  have hl' := hns.length_eq
  rcases hrow.2 with ⟨e1, _⟩ | ⟨g, cap, cur, rfl, hg, hgb, c1, c2, c3, c4⟩
  ·have := hnil.1 e1
   subst this
   exact (hne (List.nil_perm.1 hns)).elim
  ·have htake : cur.toList = (sortN ns).flatMap nmCells ++ cur.toList.drop (ns'.length * 2) := by
    rw [← hso, ← c4, List.take_append_drop]
   obtain ⟨k1, k2⟩ := farArr_ok (es := (sortN ns).map nmV) hR hs hh (by rw [← hwh]; exact hg) hgb htake (by decide) (nms_elems _) (nms_VL _) (by simp [sortN_len]; omega) c3
   refine ⟨_, ⟨rfl, hbel.os.trans hwo, hbel.output.trans hwu⟩, rfl, K.far_le hR hs hh g (by rw [← hwh]; exact hg) _, k1, ?_⟩
   rw [hl']
   simpa [sortN_len] using k2
theorem natMC_ok {cfg : Cfg} (hc : ∀ f, cfg.conc f = f) : NatOk Tryd.prog cfg 69 natMC := by
 intro args σ v σ' h
 rw [hc]
 refine ⟨⟨_, Tryd.func69, by decide, rfl⟩, ?_⟩
 obtain ⟨m, ks, vs, rfl, h1, rfl, rfl⟩ := natMC_cases h
 intro E κ cargs hσ hR ha r w hw
 subst hσ
 cases ha with
 | cons _ _ _ _ _ a1 a2 =>
 cases a2
 obtain ⟨b, es, clock, rfl, hb, hk, hv, hB⟩ := kvOf_ok hR a1 h1
 obtain ⟨hwh, hwo, hwu⟩ := hw
 refine Calls.mono (AnyW.maps_Clone cloneNm b es clock w (by rw [hwh]; exact hb)) ?_
 rintro e w' ⟨rfl, rfl⟩
 simp only
 refine ⟨κ.new (.map es clock) (.map ks vs), ⟨by simp [World.alloc, K.new, hwh], hwo, hwu⟩, by simp [K.new], K.new_le hR _ _,
  K.new_R hR _ _ ⟨es, clock, by simp [K.new], K.VL.le hR.lb (K.new_le hR _ _) hk, K.VL.le hR.lb (K.new_le hR _ _) hv, hB⟩, ?_⟩
 rw [hwh]
 exact .map _ _ _ ⟨⟨⟨ks, vs, by simp [K.new]⟩, hR.fresh⟩, by simp [K.new]⟩
theorem rorder_nm (x y : Nm) (W : World) : Calls Tryd.prog 59 #[encNm x, encNm y] W fun e w' => e = .returned (.int .i64 (ordF x y)) ∧ ∃ q os', w' = grow (W.drewN q) os' := by
 have h := less_nm x y
 go_enter Tryd.func59, Tryd.ntmps59
 obtain ⟨W1, hW1⟩ : ∃ W1, (W.alloc (.cells #[.int .i64 x.1, .int .i64 x.2] 25)).alloc (.cells #[.int .i64 y.1, .int .i64 y.2] 25) = W1 := ⟨_, rfl⟩
 have b0 : W.heap.size < W1.heap.size := by rw [← hW1]; simp; omega
 have b1 : W.heap.size + 1 < W1.heap.size := by rw [← hW1]; simp
 have c0 : W1.cell? ⟨W.heap.size, 0, none⟩ = some (.int .i64 x.1) := by rw [← hW1]; simp [go_sem]
 have c1 : W1.cell? ⟨W.heap.size, 1, none⟩ = some (.int .i64 x.2) := by rw [← hW1]; simp [go_sem]
 have c2 : W1.cell? ⟨W.heap.size + 1, 0, none⟩ = some (.int .i64 y.1) := by rw [← hW1]; simp [go_sem]
 have c3 : W1.cell? ⟨W.heap.size + 1, 1, none⟩ = some (.int .i64 y.2) := by rw [← hW1]; simp [go_sem]
 go_wp2_with (go_at_call 46; rw [hW1])
 refine (h _).mono ?_
 rintro e w' ⟨rfl, hE⟩
 have d0 : w'.cell? ⟨W.heap.size, 0, none⟩ = some (.int .i64 x.1) := by obtain ⟨q, os', rfl⟩ := hE; exact cell_grow (w := W1.drewN q) c0 b0
 have d1 : w'.cell? ⟨W.heap.size, 1, none⟩ = some (.int .i64 x.2) := by obtain ⟨q, os', rfl⟩ := hE; exact cell_grow (w := W1.drewN q) c1 b0
 have d2 : w'.cell? ⟨W.heap.size + 1, 0, none⟩ = some (.int .i64 y.1) := by obtain ⟨q, os', rfl⟩ := hE; exact cell_grow (w := W1.drewN q) c2 b1
 have d3 : w'.cell? ⟨W.heap.size + 1, 1, none⟩ = some (.int .i64 y.2) := by obtain ⟨q, os', rfl⟩ := hE; exact cell_grow (w := W1.drewN q) c3 b1
 have hF : ∃ q os', w' = grow (W.drewN q) os' := by
  obtain ⟨q, os', rfl⟩ := hE
  rw [← hW1, alloc_eq_grow, alloc_eq_grow, grow_grow]
  exact ⟨q, _, (grow_grow (W.drewN q) _ os')⟩
 clear hE hW1
 go_wp2
 all_goals go_ret
 all_goals refine ⟨?_, hF⟩
 all_goals show Ending.returned (Value.int .i64 _) = Ending.returned (Value.int .i64 _)
 all_goals congr 2
 all_goals (unfold ordF; simp [*, Prod.ext_iff])
theorem nms_us {cf : FuncId → FuncId} {h : Array Obj} {S : Nat → Nat → Prop} {I : Ids} : ∀ {ns : List Nm} {us : List Value}, VRelL cf h S I ((ns.map nmV).flatMap AVal.cells) us → us = ns.flatMap nmCells
 | [], _, h => by cases h; rfl
 | n :: r, us, h => by
  rw [List.map_cons, List.flatMap_cons] at h
  have e : (nmV n).cells = [.int .i64 n.1, .int .i64 n.2] := rfl
  rw [e] at h
  simp only [List.cons_append, List.nil_append] at h
  cases h with
  | cons _ _ _ _ _ a h =>
  cases a
  cases h with
  | cons _ _ _ _ _ b h =>
  cases b
  rw [nms_us h]; rfl
theorem natSO_ok {cfg : Cfg} (hc : ∀ f, cfg.conc f = f) : NatOk Tryd.prog cfg 58 (natSO 59) := by
 intro args σ v σ' h
 rw [hc]
 refine ⟨⟨_, Tryd.func58, by decide, rfl⟩, ?_⟩
 intro E κ cargs hσ hR ha r w hw
 subst hσ
 have eo : ∀ args w, (callFunc 59 args).run Tryd.prog w = .ok (.enter 59 args) w := enters_of Tryd.func59 (by kernel_rfl) rfl
 obtain ⟨hwh, hwo, hwu⟩ := hw
 rcases natSO_cases h with ⟨id, ep, ns, fl, rfl, h1, hpos, hlen, rfl, rfl⟩ | ⟨rfl, rfl, rfl⟩
 ·cases ha with
  | cons _ _ _ _ _ a1 a2 =>
  cases a2 with
  | cons _ _ _ _ _ a2 a3 =>
  cases a3
  cases a2 with
  | func _ _ _ _ us us' b1 b2 =>
  cases b1; cases b2
  cases a1 with
  | slice _ _ _ _ _ _ _ b o cap hp =>
  obtain ⟨⟨hlc, hpd⟩, -, h0, es, epo, fl', hid, hep, hat⟩ := hp
  rw [h1] at hid
  cases hid
  obtain ⟨q1, q2, q3, vs, e, us, rest, hb, hvs, hl⟩ := hR.obj id _ h1 hpd
  obtain ⟨-, hAt, hwhole⟩ := hat q1
  have hone : b = κ.loc id ∧ o = 0 := by
   rcases hAt with ⟨e1, e2 | e2⟩ | ⟨e1, _⟩
   ·exact ⟨e1, by simpa using e2⟩
   ·omega
   ·omega
  obtain ⟨rfl, rfl⟩ := hone
  have hus := nms_us hl
  subst hus
  have hul : (ns.flatMap nmCells).length = ns.length * 2 := by
   have := flat_length q3
   have e : (ns.map nmV).flatMap AVal.cells = ns.flatMap fun n => (nmV n).cells := by rw [List.flatMap_map]
   have h2 := VL_len hl
   rw [this, List.length_map] at h2
   exact h2.symm
  have hwb : w.heap[κ.loc id]? = some (.cells vs e (0, 0)) := by rw [hwh]; exact hb
  have htk : vs.toList.take (ns.length * 2) = ns.flatMap nmCells := by rw [hvs, ← hul, List.take_left]
  have hH : HoldsK nmCells 2 w (κ.loc id) 0 ns.toArray := holds_nm hwb htk
  have hgl : κ.loc id < w.heap.size := (Array.getElem?_eq_some_iff.1 hwb).1
  have cS := AnyQ.slices_SortFunc sortNm 2 Tryd.isAgg25 Tryd.sizeOf25 nmCells (fun _ => rfl) (fun x v hv => by simp [nmCells] at hv; rcases hv with rfl | rfl <;> rfl) ordF ordF_swo 59 #[] (κ.loc id) 0 cap ns.toArray w eo (fun _ _ _ _ x y => rorder_nm x y _) hH hgl (by simp; omega)
  change Calls Tryd.prog 58 _ _ _ at cS
  rw [List.size_toArray] at cS
  rw [hc]
  refine cS.mono ?_
  rintro e' w' ⟨rfl, d', n, os, hp, hs, rfl⟩
  simp only
  have hd := sorted_is (d := ns.toArray) (by simpa using hp) (by simpa using hs)
  have hds : d'.size = ns.length := by have := hp.1; simpa using this
  have hfs : (flatK nmCells 2 d').size = ns.length * 2 := by rw [size_flatK, hds]
  have hvsz : ns.length * 2 ≤ vs.size := by rw [← Array.length_toList, hvs, List.length_append, hul]; omega
  have hnew := heap_sortedV (n := n) (os := os) (flatK nmCells 2 d') hwb
  have hgb := grownBy_sortedV (w := w) (g := κ.loc id) (n := n) (os := os) (flatK nmCells 2 d')
  have htake := take_putCellsV vs (flatK nmCells 2 d') (by rw [hfs]; exact hvsz)
  rw [hfs, flatK_nm, hd] at htake
  have hpsz : (putCells _root_.id 0 (flatK nmCells 2 d') vs).size = vs.size := by simp [putCells]
  change (sortWorldK nmCells 2 w (κ.loc id) 0 n d' os).heap[κ.loc id]? = _ at hnew
  change w.grownBy (sortWorldK nmCells 2 w (κ.loc id) 0 n d' os) _ at hgb
  generalize sortWorldK nmCells 2 w (κ.loc id) 0 n d' os = w' at hnew hgb
  generalize putCells _root_.id 0 (flatK nmCells 2 d') vs = vs' at hnew htake hpsz
  have hle : κ.Le (κ.upd id (.cells vs' e (0, 0)) (.arr 2 ((sortN ns).map nmV) ep ep)) := by
   refine K.upd_le hR id _ _ _ h1 hpd ⟨_, ep, ep, K.upd_σ id _ _ _ h1, Nat.le_refl _, q1, by simp [sortN_len], fun _ => ⟨rfl, by simp [sortN_len], fun vs2 e2 f2 hv2 => ?_⟩, fun _ h => by omega, fun h => by omega⟩
   rw [K.upd_at hR id _ _ _ h1 hpd] at hv2
   cases hv2
   exact ⟨vs, e, (0, 0), hb, hpsz⟩
  have hRu := K.upd_R hR id (.cells vs' e (0, 0)) (.arr 2 ((sortN ns).map nmV) ep ep) _ h1 hpd hle ⟨Nat.le_refl _, q2, nms_elems _, vs', e, (sortN ns).flatMap nmCells, vs'.toList.drop (ns.length * 2), K.upd_at hR id _ _ _ h1 hpd, by rw [← htake, List.take_append_drop], nms_VL _⟩
  have hsz : (κ.upd id (.cells vs' e (0, 0)) (.arr 2 ((sortN ns).map nmV) ep ep)).h.size = w.heap.size := by simp [K.upd, hwh]
  have hs' : (κ.upd id (.cells vs' e (0, 0)) (.arr 2 ((sortN ns).map nmV) ep ep)).h.size ≤ w'.heap.size := by rw [hsz]; exact hgb.size
  have hh : ∀ b, b < (κ.upd id (.cells vs' e (0, 0)) (.arr 2 ((sortN ns).map nmV) ep ep)).h.size → w'.heap[b]? = (κ.upd id (.cells vs' e (0, 0)) (.arr 2 ((sortN ns).map nmV) ep ep)).h[b]? := fun b hb' => by
   rw [hsz] at hb'
   by_cases hbe : b = κ.loc id
   ·subst hbe
    rw [hnew, K.upd_at hR id _ _ _ h1 hpd]
   ·rw [hgb.block b hb' (fun e => hbe (by injection e))]
    simp only [K.upd]
    rw [Array.getElem?_setIfInBounds_ne (fun e => hbe e.symm), hwh]
  exact ⟨(κ.upd id (.cells vs' e (0, 0)) (.arr 2 ((sortN ns).map nmV) ep ep)).more w'.heap, ⟨rfl, hgb.os.trans hwo, hgb.output.trans hwu⟩, rfl, K.Le.trans hR.lb hle (K.more_le hRu hs' hh), K.more_R hRu hs' hh, .tuple _ [] [] (.nil _)⟩
 ·cases ha with
  | cons _ _ _ _ _ a1 a2 =>
  cases a2 with
  | cons _ _ _ _ _ a2 a3 =>
  cases a3
  cases a2 with
  | func _ _ _ _ us us' b1 b2 =>
  cases b1; cases b2
  cases a1
  rw [hc]
  refine Calls.mono (show Calls Tryd.prog 58 #[.slice none 0 0, .func (.func 59) #[] #[]] w fun e w' => e = .returned (.tuple #[]) ∧ w' = w from AnyF.slices_SortFunc_none sortNm none 0 _ w) ?_
  rintro e w' ⟨rfl, rfl⟩
  exact ⟨κ, ⟨hwh, hwo, hwu⟩, rfl, K.Le.refl _, hR, .tuple _ [] [] (.nil _)⟩
end Go.Proofs.YtelpjaejmneplaaDoor.Am
namespace Go.Proofs.YtelpjaejmneplaaDoor.Am.CU
open Go Go.Proofs.YtelpjaejmneplaaDoor.Am
set_option maxHeartbeats 4000000
theorem ok4 : FnOk cfg Tryd.prog 4 a4 := ⟨⟨Tryd.f4, _, Tryd.func4, by decide, rfl, rfl, by kernel_rfl, by kernel_rfl⟩⟩
theorem ok6 : FnOk cfg Tryd.prog 6 a6 := ⟨⟨Tryd.f6, _, Tryd.func6, by decide, rfl, rfl, by kernel_rfl, by kernel_rfl⟩⟩
theorem ok7 : FnOk cfg Tryd.prog 7 a7 := ⟨⟨Tryd.f7, _, Tryd.func7, by decide, rfl, rfl, by kernel_rfl, by kernel_rfl⟩⟩
theorem ok8 : FnOk cfg Tryd.prog 8 a8 := ⟨⟨Tryd.f8, _, Tryd.func8, by decide, rfl, rfl, by kernel_rfl, by kernel_rfl⟩⟩
theorem ok9 : FnOk cfg Tryd.prog 9 a9 := ⟨⟨Tryd.f9, _, Tryd.func9, by decide, rfl, rfl, by kernel_rfl, by kernel_rfl⟩⟩
theorem ok10 : FnOk cfg Tryd.prog 10 a10 := ⟨⟨Tryd.f10, _, Tryd.func10, by decide, rfl, rfl, by kernel_rfl, by kernel_rfl⟩⟩
theorem ok12 : FnOk cfg Tryd.prog 12 a12 := ⟨⟨Tryd.f12, _, Tryd.func12, by decide, rfl, rfl, by kernel_rfl, by kernel_rfl⟩⟩
theorem ok13 : FnOk cfg Tryd.prog 13 a13 := ⟨⟨Tryd.f13, _, Tryd.func13, by decide, rfl, rfl, by kernel_rfl, by kernel_rfl⟩⟩
theorem ok14 : FnOk cfg Tryd.prog 14 a14 := ⟨⟨Tryd.f14, _, Tryd.func14, by decide, rfl, rfl, by kernel_rfl, by kernel_rfl⟩⟩
theorem ok15 : FnOk cfg Tryd.prog 15 a15 := ⟨⟨Tryd.f15, _, Tryd.func15, by decide, rfl, rfl, by kernel_rfl, by kernel_rfl⟩⟩
theorem ok16 : FnOk cfg Tryd.prog 16 a16 := ⟨⟨Tryd.f16, _, Tryd.func16, by decide, rfl, rfl, by kernel_rfl, by kernel_rfl⟩⟩
theorem ok20 : FnOk cfg Tryd.prog 20 a20 := ⟨⟨Tryd.f20, _, Tryd.func20, by decide, rfl, rfl, by kernel_rfl, by kernel_rfl⟩⟩
theorem ok21 : FnOk cfg Tryd.prog 21 a21 := ⟨⟨Tryd.f21, _, Tryd.func21, by decide, rfl, rfl, by kernel_rfl, by kernel_rfl⟩⟩
theorem ok26 : FnOk cfg Tryd.prog 26 a26 := ⟨⟨Tryd.f26, _, Tryd.func26, by decide, rfl, rfl, by kernel_rfl, by kernel_rfl⟩⟩
theorem ok27 : FnOk cfg Tryd.prog 27 a27 := ⟨⟨Tryd.f27, _, Tryd.func27, by decide, rfl, rfl, by kernel_rfl, by kernel_rfl⟩⟩
theorem ok28 : FnOk cfg Tryd.prog 28 a28 := ⟨⟨Tryd.f28, _, Tryd.func28, by decide, rfl, rfl, by kernel_rfl, by kernel_rfl⟩⟩
theorem ok29 : FnOk cfg Tryd.prog 29 a29 := ⟨⟨Tryd.f29, _, Tryd.func29, by decide, rfl, rfl, by kernel_rfl, by kernel_rfl⟩⟩
theorem ok30 : FnOk cfg Tryd.prog 30 a30 := ⟨⟨Tryd.f30, _, Tryd.func30, by decide, rfl, rfl, by kernel_rfl, by kernel_rfl⟩⟩
theorem ok31 : FnOk cfg Tryd.prog 31 a31 := ⟨⟨Tryd.f31, _, Tryd.func31, by decide, rfl, rfl, by kernel_rfl, by kernel_rfl⟩⟩
theorem ok32 : FnOk cfg Tryd.prog 32 a32 := ⟨⟨Tryd.f32, _, Tryd.func32, by decide, rfl, rfl, by kernel_rfl, by kernel_rfl⟩⟩
theorem ok33 : FnOk cfg Tryd.prog 33 a33 := ⟨⟨Tryd.f33, _, Tryd.func33, by decide, rfl, rfl, by kernel_rfl, by kernel_rfl⟩⟩
theorem ok35 : FnOk cfg Tryd.prog 35 a35 := ⟨⟨Tryd.f35, _, Tryd.func35, by decide, rfl, rfl, by kernel_rfl, by kernel_rfl⟩⟩
theorem ok36 : FnOk cfg Tryd.prog 36 a36 := ⟨⟨Tryd.f36, _, Tryd.func36, by decide, rfl, rfl, by kernel_rfl, by kernel_rfl⟩⟩
theorem ok37 : FnOk cfg Tryd.prog 37 a37 := ⟨⟨Tryd.f37, _, Tryd.func37, by decide, rfl, rfl, by kernel_rfl, by kernel_rfl⟩⟩
theorem ok38 : FnOk cfg Tryd.prog 38 a38 := ⟨⟨Tryd.f38, _, Tryd.func38, by decide, rfl, rfl, by kernel_rfl, by kernel_rfl⟩⟩
theorem ok41 : FnOk cfg Tryd.prog 41 a41 := ⟨⟨Tryd.f41, _, Tryd.func41, by decide, rfl, rfl, by kernel_rfl, by kernel_rfl⟩⟩
theorem ok45 : FnOk cfg Tryd.prog 45 a45 := ⟨⟨Tryd.f45, _, Tryd.func45, by decide, rfl, rfl, by kernel_rfl, by kernel_rfl⟩⟩
theorem ok46 : FnOk cfg Tryd.prog 46 a46 := ⟨⟨Tryd.f46, _, Tryd.func46, by decide, rfl, rfl, by kernel_rfl, by kernel_rfl⟩⟩
theorem ok47 : FnOk cfg Tryd.prog 47 a47 := ⟨⟨Tryd.f47, _, Tryd.func47, by decide, rfl, rfl, by kernel_rfl, by kernel_rfl⟩⟩
theorem ok51 : FnOk cfg Tryd.prog 51 a51 := ⟨⟨Tryd.f51, _, Tryd.func51, by decide, rfl, rfl, by kernel_rfl, by kernel_rfl⟩⟩
theorem ok52 : FnOk cfg Tryd.prog 52 a52 := ⟨⟨Tryd.f52, _, Tryd.func52, by decide, rfl, rfl, by kernel_rfl, by kernel_rfl⟩⟩
theorem ok53 : FnOk cfg Tryd.prog 53 a53 := ⟨⟨Tryd.f53, _, Tryd.func53, by decide, rfl, rfl, by kernel_rfl, by kernel_rfl⟩⟩
theorem ok54 : FnOk cfg Tryd.prog 54 a54 := ⟨⟨Tryd.f54, _, Tryd.func54, by decide, rfl, rfl, by kernel_rfl, by kernel_rfl⟩⟩
theorem ok55 : FnOk cfg Tryd.prog 55 a55 := ⟨⟨Tryd.f55, _, Tryd.func55, by decide, rfl, rfl, by kernel_rfl, by kernel_rfl⟩⟩
theorem ok56 : FnOk cfg Tryd.prog 56 a56 := ⟨⟨Tryd.f56, _, Tryd.func56, by decide, rfl, rfl, by kernel_rfl, by kernel_rfl⟩⟩
theorem ok57 : FnOk cfg Tryd.prog 57 a57 := ⟨⟨Tryd.f57, _, Tryd.func57, by decide, rfl, rfl, by kernel_rfl, by kernel_rfl⟩⟩
theorem ok58 : FnOk cfg Tryd.prog 58 a58 := ⟨⟨Tryd.f58, _, Tryd.func58, by decide, rfl, rfl, by kernel_rfl, by kernel_rfl⟩⟩
theorem ok59 : FnOk cfg Tryd.prog 59 a59 := ⟨⟨Tryd.f59, _, Tryd.func59, by decide, rfl, rfl, by kernel_rfl, by kernel_rfl⟩⟩
theorem ok60 : FnOk cfg Tryd.prog 60 a60 := ⟨⟨Tryd.f60, _, Tryd.func60, by decide, rfl, rfl, by kernel_rfl, by kernel_rfl⟩⟩
theorem ok61 : FnOk cfg Tryd.prog 61 a61 := ⟨⟨Tryd.f61, _, Tryd.func61, by decide, rfl, rfl, by kernel_rfl, by kernel_rfl⟩⟩
theorem ok62 : FnOk cfg Tryd.prog 62 a62 := ⟨⟨Tryd.f62, _, Tryd.func62, by decide, rfl, rfl, by kernel_rfl, by kernel_rfl⟩⟩
theorem ok65 : FnOk cfg Tryd.prog 65 a65 := ⟨⟨Tryd.f65, _, Tryd.func65, by decide, rfl, rfl, by kernel_rfl, by kernel_rfl⟩⟩
theorem ok66 : FnOk cfg Tryd.prog 66 a66 := ⟨⟨Tryd.f66, _, Tryd.func66, by decide, rfl, rfl, by kernel_rfl, by kernel_rfl⟩⟩
theorem ok67 : FnOk cfg Tryd.prog 67 a67 := ⟨⟨Tryd.f67, _, Tryd.func67, by decide, rfl, rfl, by kernel_rfl, by kernel_rfl⟩⟩
theorem ok68 : FnOk cfg Tryd.prog 68 a68 := ⟨⟨Tryd.f68, _, Tryd.func68, by decide, rfl, rfl, by kernel_rfl, by kernel_rfl⟩⟩
theorem ok71 : FnOk cfg Tryd.prog 71 a71 := ⟨⟨Tryd.f71, _, Tryd.func71, by decide, rfl, rfl, by kernel_rfl, by kernel_rfl⟩⟩
theorem ok72 : FnOk cfg Tryd.prog 72 a72 := ⟨⟨Tryd.f72, _, Tryd.func72, by decide, rfl, rfl, by kernel_rfl, by kernel_rfl⟩⟩
theorem ok73 : FnOk cfg Tryd.prog 73 a73 := ⟨⟨Tryd.f73, _, Tryd.func73, by decide, rfl, rfl, by kernel_rfl, by kernel_rfl⟩⟩
theorem ok74 : FnOk cfg Tryd.prog 74 a74 := ⟨⟨Tryd.f74, _, Tryd.func74, by decide, rfl, rfl, by kernel_rfl, by kernel_rfl⟩⟩
theorem ok77 : FnOk cfg Tryd.prog 77 a77 := ⟨⟨Tryd.f77, _, Tryd.func77, by decide, rfl, rfl, by kernel_rfl, by kernel_rfl⟩⟩
theorem ok78 : FnOk cfg Tryd.prog 78 a78 := ⟨⟨Tryd.f78, _, Tryd.func78, by decide, rfl, rfl, by kernel_rfl, by kernel_rfl⟩⟩
theorem ok79 : FnOk cfg Tryd.prog 79 a79 := ⟨⟨Tryd.f79, _, Tryd.func79, by decide, rfl, rfl, by kernel_rfl, by kernel_rfl⟩⟩
theorem ok80 : FnOk cfg Tryd.prog 80 a80 := ⟨⟨Tryd.f80, _, Tryd.func80, by decide, rfl, rfl, by kernel_rfl, by kernel_rfl⟩⟩
theorem ok81 : FnOk cfg Tryd.prog 81 a81 := ⟨⟨Tryd.f81, _, Tryd.func81, by decide, rfl, rfl, by kernel_rfl, by kernel_rfl⟩⟩
theorem ok82 : FnOk cfg Tryd.prog 82 a82 := ⟨⟨Tryd.f82, _, Tryd.func82, by decide, rfl, rfl, by kernel_rfl, by kernel_rfl⟩⟩
theorem ok86 : FnOk cfg Tryd.prog 86 a86 := ⟨⟨Tryd.f86, _, Tryd.func86, by decide, rfl, rfl, by kernel_rfl, by kernel_rfl⟩⟩
theorem ok87 : FnOk cfg Tryd.prog 87 a87 := ⟨⟨Tryd.f87, _, Tryd.func87, by decide, rfl, rfl, by kernel_rfl, by kernel_rfl⟩⟩
theorem ok88 : FnOk cfg Tryd.prog 88 a88 := ⟨⟨Tryd.f88, _, Tryd.func88, by decide, rfl, rfl, by kernel_rfl, by kernel_rfl⟩⟩
theorem ok89 : FnOk cfg Tryd.prog 89 a89 := ⟨⟨Tryd.f89, _, Tryd.func89, by decide, rfl, rfl, by kernel_rfl, by kernel_rfl⟩⟩
theorem ok91 : FnOk cfg Tryd.prog 91 a91 := ⟨⟨Tryd.f91, _, Tryd.func91, by decide, rfl, rfl, by kernel_rfl, by kernel_rfl⟩⟩
theorem ok92 : FnOk cfg Tryd.prog 92 a92 := ⟨⟨Tryd.f92, _, Tryd.func92, by decide, rfl, rfl, by kernel_rfl, by kernel_rfl⟩⟩
theorem ok93 : FnOk cfg Tryd.prog 93 a93 := ⟨⟨Tryd.f93, _, Tryd.func93, by decide, rfl, rfl, by kernel_rfl, by kernel_rfl⟩⟩
theorem ok94 : FnOk cfg Tryd.prog 94 a94 := ⟨⟨Tryd.f94, _, Tryd.func94, by decide, rfl, rfl, by kernel_rfl, by kernel_rfl⟩⟩
theorem ok95 : FnOk cfg Tryd.prog 95 a95 := ⟨⟨Tryd.f95, _, Tryd.func95, by decide, rfl, rfl, by kernel_rfl, by kernel_rfl⟩⟩
theorem ok96 : FnOk cfg Tryd.prog 96 a96 := ⟨⟨Tryd.f96, _, Tryd.func96, by decide, rfl, rfl, by kernel_rfl, by kernel_rfl⟩⟩
theorem ok97 : FnOk cfg Tryd.prog 97 a97 := ⟨⟨Tryd.f97, _, Tryd.func97, by decide, rfl, rfl, by kernel_rfl, by kernel_rfl⟩⟩
theorem ok98 : FnOk cfg Tryd.prog 98 a98 := ⟨⟨Tryd.f98, _, Tryd.func98, by decide, rfl, rfl, by kernel_rfl, by kernel_rfl⟩⟩
theorem ok99 : FnOk cfg Tryd.prog 99 a99 := ⟨⟨Tryd.f99, _, Tryd.func99, by decide, rfl, rfl, by kernel_rfl, by kernel_rfl⟩⟩
theorem ok100 : FnOk cfg Tryd.prog 100 a100 := ⟨⟨Tryd.f100, _, Tryd.func100, by decide, rfl, rfl, by kernel_rfl, by kernel_rfl⟩⟩
theorem ok101 : FnOk cfg Tryd.prog 101 a101 := ⟨⟨Tryd.f101, _, Tryd.func101, by decide, rfl, rfl, by kernel_rfl, by kernel_rfl⟩⟩
theorem ok102 : FnOk cfg Tryd.prog 102 a102 := ⟨⟨Tryd.f102, _, Tryd.func102, by decide, rfl, rfl, by kernel_rfl, by kernel_rfl⟩⟩
theorem ok103 : FnOk cfg Tryd.prog 103 a103 := ⟨⟨Tryd.f103, _, Tryd.func103, by decide, rfl, rfl, by kernel_rfl, by kernel_rfl⟩⟩
theorem ok104 : FnOk cfg Tryd.prog 104 a104 := ⟨⟨Tryd.f104, _, Tryd.func104, by decide, rfl, rfl, by kernel_rfl, by kernel_rfl⟩⟩
theorem ok105 : FnOk cfg Tryd.prog 105 a105 := ⟨⟨Tryd.f105, _, Tryd.func105, by decide, rfl, rfl, by kernel_rfl, by kernel_rfl⟩⟩
theorem ok106 : FnOk cfg Tryd.prog 106 a106 := ⟨⟨Tryd.f106, _, Tryd.func106, by decide, rfl, rfl, by kernel_rfl, by kernel_rfl⟩⟩
theorem ok107 : FnOk cfg Tryd.prog 107 a107 := ⟨⟨Tryd.f107, _, Tryd.func107, by decide, rfl, rfl, by kernel_rfl, by kernel_rfl⟩⟩
theorem ok108 : FnOk cfg Tryd.prog 108 a108 := ⟨⟨Tryd.f108, _, Tryd.func108, by decide, rfl, rfl, by kernel_rfl, by kernel_rfl⟩⟩
theorem ok109 : FnOk cfg Tryd.prog 109 a109 := ⟨⟨Tryd.f109, _, Tryd.func109, by decide, rfl, rfl, by kernel_rfl, by kernel_rfl⟩⟩
theorem ok112 : FnOk cfg Tryd.prog 112 a112 := ⟨⟨Tryd.f112, _, Tryd.func112, by decide, rfl, rfl, by kernel_rfl, by kernel_rfl⟩⟩
theorem ok113 : FnOk cfg Tryd.prog 113 a113 := ⟨⟨Tryd.f113, _, Tryd.func113, by decide, rfl, rfl, by kernel_rfl, by kernel_rfl⟩⟩
theorem ok114 : FnOk cfg Tryd.prog 114 a114 := ⟨⟨Tryd.f114, _, Tryd.func114, by decide, rfl, rfl, by kernel_rfl, by kernel_rfl⟩⟩
theorem ok115 : FnOk cfg Tryd.prog 115 a115 := ⟨⟨Tryd.f115, _, Tryd.func115, by decide, rfl, rfl, by kernel_rfl, by kernel_rfl⟩⟩
theorem ok116 : FnOk cfg Tryd.prog 116 a116 := ⟨⟨Tryd.f116, _, Tryd.func116, by decide, rfl, rfl, by kernel_rfl, by kernel_rfl⟩⟩
theorem ok117 : FnOk cfg Tryd.prog 117 a117 := ⟨⟨Tryd.f117, _, Tryd.func117, by decide, rfl, rfl, by kernel_rfl, by kernel_rfl⟩⟩
theorem ok118 : FnOk cfg Tryd.prog 118 a118 := ⟨⟨Tryd.f118, _, Tryd.func118, by decide, rfl, rfl, by kernel_rfl, by kernel_rfl⟩⟩
theorem orF_cases {a b : Option AFunc} {x : AFunc} (h : orF a b = some x) : a = some x ∨ b = some x := by
 unfold orF at h
 split at h
 ·exact .inl h
 ·exact .inr h
theorem fns0 (f : FuncId) (fn : AFunc) (h : ir0 f = some fn) : FnOk cfg Tryd.prog f fn := by
 unfold ir0 at h
 split at h
 ·injection h with h; subst h; exact ok4
 ·injection h with h; subst h; exact ok6
 ·injection h with h; subst h; exact ok7
 ·injection h with h; subst h; exact ok8
 ·injection h with h; subst h; exact ok9
 ·injection h with h; subst h; exact ok10
 ·injection h with h; subst h; exact ok12
 ·injection h with h; subst h; exact ok13
 ·injection h with h; subst h; exact ok14
 ·injection h with h; subst h; exact ok15
 ·injection h with h; subst h; exact ok16
 ·injection h with h; subst h; exact ok20
 ·injection h with h; subst h; exact ok21
 ·injection h with h; subst h; exact ok26
 ·injection h with h; subst h; exact ok27
 ·injection h with h; subst h; exact ok28
 ·injection h with h; subst h; exact ok29
 ·injection h with h; subst h; exact ok30
 ·injection h with h; subst h; exact ok31
 ·injection h with h; subst h; exact ok32
 ·injection h with h; subst h; exact ok33
 ·injection h with h; subst h; exact ok35
 ·injection h with h; subst h; exact ok36
 ·injection h with h; subst h; exact ok37
 ·injection h with h; subst h; exact ok38
 ·injection h with h; subst h; exact ok41
 ·injection h with h; subst h; exact ok45
 ·injection h with h; subst h; exact ok46
 ·injection h with h; subst h; exact ok47
 ·injection h with h; subst h; exact ok51
 ·injection h with h; subst h; exact ok52
 ·injection h with h; subst h; exact ok53
 ·injection h with h; subst h; exact ok54
 ·injection h with h; subst h; exact ok55
 ·injection h with h; subst h; exact ok56
 ·injection h with h; subst h; exact ok57
 ·injection h with h; subst h; exact ok58
 ·injection h with h; subst h; exact ok59
 ·injection h with h; subst h; exact ok60
 ·injection h with h; subst h; exact ok61
 ·cases h
theorem fns1 (f : FuncId) (fn : AFunc) (h : ir1 f = some fn) : FnOk cfg Tryd.prog f fn := by
 unfold ir1 at h
 split at h
 ·injection h with h; subst h; exact ok62
 ·injection h with h; subst h; exact ok65
 ·injection h with h; subst h; exact ok66
 ·injection h with h; subst h; exact ok67
 ·injection h with h; subst h; exact ok68
 ·injection h with h; subst h; exact ok71
 ·injection h with h; subst h; exact ok72
 ·injection h with h; subst h; exact ok73
 ·injection h with h; subst h; exact ok74
 ·injection h with h; subst h; exact ok77
 ·injection h with h; subst h; exact ok78
 ·injection h with h; subst h; exact ok79
 ·injection h with h; subst h; exact ok80
 ·injection h with h; subst h; exact ok81
 ·injection h with h; subst h; exact ok82
 ·injection h with h; subst h; exact ok86
 ·injection h with h; subst h; exact ok87
 ·injection h with h; subst h; exact ok88
 ·injection h with h; subst h; exact ok89
 ·injection h with h; subst h; exact ok91
 ·injection h with h; subst h; exact ok92
 ·injection h with h; subst h; exact ok93
 ·injection h with h; subst h; exact ok94
 ·injection h with h; subst h; exact ok95
 ·injection h with h; subst h; exact ok96
 ·injection h with h; subst h; exact ok97
 ·injection h with h; subst h; exact ok98
 ·injection h with h; subst h; exact ok99
 ·injection h with h; subst h; exact ok100
 ·injection h with h; subst h; exact ok101
 ·injection h with h; subst h; exact ok102
 ·injection h with h; subst h; exact ok103
 ·injection h with h; subst h; exact ok104
 ·injection h with h; subst h; exact ok105
 ·injection h with h; subst h; exact ok106
 ·injection h with h; subst h; exact ok107
 ·injection h with h; subst h; exact ok108
 ·injection h with h; subst h; exact ok109
 ·injection h with h; subst h; exact ok112
 ·injection h with h; subst h; exact ok113
 ·cases h
theorem fns2 (f : FuncId) (fn : AFunc) (h : ir2 f = some fn) : FnOk cfg Tryd.prog f fn := by
 unfold ir2 at h
 split at h
 ·injection h with h; subst h; exact ok114
 ·injection h with h; subst h; exact ok115
 ·injection h with h; subst h; exact ok116
 ·injection h with h; subst h; exact ok117
 ·injection h with h; subst h; exact ok118
 ·cases h
theorem fns : ∀ f fn, cfg.ir f = some fn → FnOk cfg Tryd.prog f fn := by
 intro f fn h
 rcases orF_cases h with h | h
 ·exact fns0 f fn h
 rcases orF_cases h with h | h
 ·exact fns1 f fn h
 exact fns2 f fn h
theorem all : CfgOk Tryd.prog cfg := ⟨fns, by
 intro f g h
 simp only [cfg] at h
 split at h
 ·injection h with h; subst h; exact natSF_ok fun _ => rfl
 ·injection h with h; subst h; exact natMC_ok fun _ => rfl
 ·injection h with h; subst h; exact natSO_ok fun _ => rfl
 ·cases h⟩
end Go.Proofs.YtelpjaejmneplaaDoor.Am.CU
namespace Go.Proofs.YtelpjaejmneplaaDoor.Am
open Go
def addN (ws : List Nm) (v : Nm) : List Nm := if ws.contains v then ws else ws ++ [v]
theorem addN_len (ws : List Nm) (v : Nm) : (addN ws v).length ≤ ws.length + 1 := by unfold addN; split <;> simp
def varsL (ws : List Nm) (t : List Cel) : List Nm := t.foldl (fun ws c => if c.k = 4 then addN ws c.v else ws) ws
theorem varsL_snoc (ws : List Nm) (t : List Cel) (c : Cel) : varsL ws (t ++ [c]) = if c.k = 4 then addN (varsL ws t) c.v else varsL ws t := by simp [varsL]
theorem varsL_len (ws : List Nm) : ∀ (t : List Cel), (varsL ws t).length ≤ ws.length + t.length := by
 intro t
 induction t generalizing ws with
 | nil => simp [varsL]
 | cons c t ih =>
  simp only [varsL, List.foldl_cons, List.length_cons]
  have := ih (if c.k = 4 then addN ws c.v else ws)
  simp only [varsL] at this
  have h2 : (if c.k = 4 then addN ws c.v else ws).length ≤ ws.length + 1 := by
   split
   ·exact addN_len _ _
   ·omega
  omega
structure TSt where
 ls : List (List Cel)
 ws : List Nm
def foldO {S α : Type} (f : S → α → α → Option S) : S → List α → List α → Option S
 | s, [], _ => some s
 | s, _ :: _, [] => some s
 | s, a :: azs, b :: bs => (f s a b).bind fun s' => foldO f s' azs bs
theorem foldO_step {S α : Type} {f : S → α → α → Option S} {s : S} {azs bs : List α} {k : Nat} (ha : k < azs.length) (hb : k < bs.length) : foldO f s (azs.drop k) (bs.drop k) = (f s azs[k] bs[k]).bind fun s' => foldO f s' (azs.drop (k + 1)) (bs.drop (k + 1)) := by
 rw [List.drop_eq_getElem_cons ha, List.drop_eq_getElem_cons hb, foldO]
theorem flat_step {azs : List (List Cel)} {k : Nat} (h : k < azs.length) : (azs.take (k + 1)).flatten.length = (azs.take k).flatten.length + (azs[k]).length := by
 rw [List.take_succ_eq_append_getElem h, List.flatten_append, List.length_append]; simp only [List.flatten_cons, List.flatten_nil, List.append_nil]
theorem flat_le (azs : List (List Cel)) (k : Nat) : (azs.take k).flatten.length ≤ azs.flatten.length := by
 have h : azs.flatten = (azs.take k).flatten ++ (azs.drop k).flatten := by rw [← List.flatten_append, List.take_append_drop]
 rw [h]; simp
structure TryR where
 k : Nat
 ls : List (List Cel)
 ws : List Nm
end Go.Proofs.YtelpjaejmneplaaDoor.Am
namespace Go.Proofs.YtelpjaejmneplaaDoor.Am
open Go
theorem WF.short {H : Hp} (hw : WF H) {p : Nm × List Cel} (hp : p ∈ H) : p.2.length ≤ 256 := (right_len (glob_right (hw.ok _ hp).2.2.1)).2
theorem WF.lk_short {H : Hp} (hw : WF H) (v : Nm) : ((lk H v).getD []).length ≤ 256 := by
 cases h : lk H v with
 | none => simp
 | some t => exact hw.short (lk_mem h)
def stepN (H : Hp) (v : Nm) : List Nm := varsL [] ((lk H v).getD [])
inductive Rea (H : Hp) (rs : List Nm) : Nm → Prop
 | root {v : Nm} : v ∈ rs → Rea H rs v
 | step {v w : Nm} : Rea H rs v → w ∈ stepN H v → Rea H rs w
def adds (l ws : List Nm) : List Nm := ws.foldl addN l
theorem addN_mem_rc {l : List Nm} {v w : Nm} : w ∈ addN l v ↔ w ∈ l ∨ w = v := by
 unfold addN
 split
 ·rename_i h
  have h' : v ∈ l := by simpa using h
  constructor
  ·exact .inl
  ·rintro (h | rfl)
   ·exact h
   ·exact h'
 ·simp
theorem addN_nodup {l : List Nm} {v : Nm} (h : l.Nodup) : (addN l v).Nodup := by
 unfold addN
 split
 ·exact h
 ·rename_i hc
  have hc' : v ∉ l := by simpa using hc
  rw [List.nodup_append]
  refine ⟨h, by simp, fun a ha b hb e => ?_⟩
  simp at hb; subst hb; subst e; exact hc' ha
theorem addN_pre (l : List Nm) (v : Nm) : ∃ x, addN l v = l ++ x := by
 unfold addN
 split
 ·exact ⟨[], by simp⟩
 ·exact ⟨[v], rfl⟩
theorem adds_mem : ∀ {ws l : List Nm} {w : Nm}, w ∈ adds l ws ↔ w ∈ l ∨ w ∈ ws
 | [], l, w => by simp [adds]
 | v :: ws, l, w => by
  have := adds_mem (ws := ws) (l := addN l v) (w := w)
  simp only [adds, List.foldl_cons] at this ⊢
  rw [this, addN_mem_rc, List.mem_cons]
  constructor
  ·rintro ((h | h) | h)
   ·exact .inl h
   ·exact .inr (.inl h)
   ·exact .inr (.inr h)
  ·rintro (h | h | h)
   ·exact .inl (.inl h)
   ·exact .inl (.inr h)
   ·exact .inr h
theorem adds_nodup : ∀ {ws l : List Nm}, l.Nodup → (adds l ws).Nodup
 | [], l, h => h
 | v :: ws, l, h => adds_nodup (ws := ws) (addN_nodup h)
theorem adds_pre : ∀ (ws l : List Nm), ∃ x, adds l ws = l ++ x
 | [], l => ⟨[], by simp [adds]⟩
 | v :: ws, l => by
  obtain ⟨x, hx⟩ := addN_pre l v
  obtain ⟨y, hy⟩ := adds_pre ws (addN l v)
  exact ⟨x ++ y, by simp only [adds, List.foldl_cons] at hy ⊢; rw [hy, hx, List.append_assoc]⟩
theorem adds_snoc (l ws : List Nm) (v : Nm) : adds l (ws ++ [v]) = addN (adds l ws) v := by simp [adds]
theorem nodup_le : ∀ {l u : List Nm}, l.Nodup → (∀ v ∈ l, v ∈ u) → l.length ≤ u.length
 | [], u, _, _ => Nat.zero_le _
 | v :: l, u, hn, h => by
  simp only [List.nodup_cons] at hn
  have hv := h v List.mem_cons_self
  have ih := nodup_le (u := u.erase v) hn.2 fun w hw => (List.mem_erase_of_ne (fun e : w = v => hn.1 (by rw [← e]; exact hw))).2 (h w (List.mem_cons_of_mem _ hw))
  have := List.length_erase_of_mem hv
  have hp := List.length_pos_of_mem hv
  simp only [List.length_cons]
  omega
def univ (H : Hp) (rs : List Nm) : List Nm := rs ++ H.flatMap fun p => varsL [] p.2
theorem stepN_univ {H : Hp} {rs : List Nm} {v w : Nm} (h : w ∈ stepN H v) : w ∈ univ H rs := by
 unfold stepN at h
 cases hl : lk H v with
 | none => rw [hl] at h; simp [varsL] at h
 | some t =>
  rw [hl] at h
  exact List.mem_append.2 (.inr (List.mem_flatMap.2 ⟨_, lk_mem hl, h⟩))
theorem Rea.univ {H : Hp} {rs : List Nm} {v : Nm} (h : Rea H rs v) : v ∈ univ H rs := by
 cases h with
 | root h => exact List.mem_append.2 (.inl h)
 | step _ h => exact stepN_univ h
theorem stepN_len {H : Hp} (hw : WF H) (v : Nm) : (stepN H v).length ≤ 256 := by
 have := varsL_len [] ((lk H v).getD [])
 have := hw.lk_short v
 unfold stepN
 simp only [List.length_nil] at *
 omega
theorem univ_len {H : Hp} (hw : WF H) (rs : List Nm) : (univ H rs).length ≤ rs.length + H.length * 256 := by
 unfold univ
 rw [List.length_append]
 have key : ∀ l : Hp, (∀ p ∈ l, p.2.length ≤ 256) → (l.flatMap fun p => varsL [] p.2).length ≤ l.length * 256 := by
  intro l
  induction l with
  | nil => intro _; simp
  | cons p l ih =>
   intro h
   have h1 := h p List.mem_cons_self
   have h2 := ih fun q hq => h q (List.mem_cons_of_mem _ hq)
   have h3 := varsL_len [] p.2
   rw [List.flatMap_cons, List.length_append, List.length_cons]
   simp only [List.length_nil] at h3
   omega
 have := key H fun p hp => hw.short hp
 omega
structure Way (H : Hp) (rs l : List Nm) (i : Nat) : Prop where
 nodup : l.Nodup
 rea : ∀ v ∈ l, Rea H rs v
 roots : ∀ v ∈ rs, v ∈ l
 done : ∀ (j : Nat) (hj : j < l.length), j < i → ∀ w ∈ stepN H l[j], w ∈ l
theorem Way.start (H : Hp) (rs : List Nm) : Way H rs (adds [] rs) 0 :=
 ⟨adds_nodup List.nodup_nil, fun v hv => by
  rcases adds_mem.1 hv with h | h
  ·cases h
  ·exact .root h, fun v hv => adds_mem.2 (.inr hv), fun j _ h => by omega⟩
theorem Way.len {H : Hp} {rs l : List Nm} {i : Nat} (h : Way H rs l i) : l.length ≤ (univ H rs).length := nodup_le h.nodup fun v hv => (h.rea v hv).univ
theorem Way.next {H : Hp} {rs l : List Nm} {i : Nat} (h : Way H rs l i) (hi : i < l.length) : Way H rs (adds l (stepN H l[i])) (i + 1) := by
 obtain ⟨x, hx⟩ := adds_pre (stepN H l[i]) l
 refine ⟨adds_nodup h.nodup, fun v hv => ?_, fun v hv => adds_mem.2 (.inl (h.roots v hv)), fun j hj hji w hw => ?_⟩
 ·rcases adds_mem.1 hv with hv | hv
  ·exact h.rea v hv
  ·exact .step (h.rea _ (List.getElem_mem hi)) hv
 ·have hjl : j < l.length := by omega
  have e : (adds l (stepN H l[i]))[j] = l[j] := by
   have : ∀ (y : List Nm) (hy : y = l ++ x) (h : j < y.length), y[j] = l[j] := by
    intro y hy h; subst hy; exact List.getElem_append_left hjl
   exact this _ hx hj
  rw [e] at hw
  by_cases hji' : j = i
  ·subst hji'; exact adds_mem.2 (.inr hw)
  ·exact adds_mem.2 (.inl (h.done j hjl (by omega) w hw))
theorem Way.all {H : Hp} {rs l : List Nm} (h : Way H rs l l.length) : ∀ v, v ∈ l ↔ Rea H rs v := fun v => ⟨h.rea v, fun hr => by
 induction hr with
 | root hv => exact h.roots _ hv
 | step _ hw ih =>
  obtain ⟨j, hj, rfl⟩ := List.mem_iff_getElem.1 ih
  exact h.done j hj hj _ hw⟩
theorem Rea.again {H : Hp} {rs xs : List Nm} (hx : ∀ v, v ∈ xs ↔ Rea H rs v) (v : Nm) : Rea H xs v ↔ Rea H rs v := by
 constructor
 ·intro h
  induction h with
  | root h => exact (hx _).1 h
  | step _ hw ih => exact .step ih hw
 ·intro h; exact .root ((hx v).2 h)
theorem Rea.more {H H' : Hp} {rs rs' : List Nm} (hr : ∀ v ∈ rs, v ∈ rs') (hH : ∀ v t, lk H v = some t → lk H' v = some t) {v : Nm} (h : Rea H rs v) : Rea H' rs' v := by
 induction h with
 | root h => exact .root (hr _ h)
 | step _ hw ih =>
  rename_i v w _
  refine .step ih ?_
  unfold stepN at hw ⊢
  cases hl : lk H v with
  | none => rw [hl] at hw; simp [varsL] at hw
  | some t => rw [hl] at hw; rw [hH v t hl]; exact hw
theorem sortN_same {a b : List Nm} (ha : a.Nodup) (hb : b.Nodup) (h : ∀ v, v ∈ a ↔ v ∈ b) : sortN a = sortN b := by
 have hp : a.Perm b := (List.perm_ext_iff_of_nodup ha hb).2 h
 exact up_one (sortN_up _) (sortN_up _) ((sortN_perm _).trans (hp.trans (sortN_perm _).symm))
end Go.Proofs.YtelpjaejmneplaaDoor.Am
