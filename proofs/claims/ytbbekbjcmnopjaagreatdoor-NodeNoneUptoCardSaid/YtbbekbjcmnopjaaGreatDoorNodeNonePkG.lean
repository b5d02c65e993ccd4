/-
  The abstract machine and the functions of the law, 7: texts put together.
-/
import Derived.Test.YtbbekbjcmnopjaaGreatDoorNodeNonePkF
import Derived.Test.YtbbekbjcmnopjaaGreatDoorNodeNonePkB
import Derived.Test.YtbbekbjcmnopjaaGreatDoorNodeNonePkC
set_option linter.unusedVariables false
set_option linter.unusedSimpArgs false
set_option linter.unusedSectionVars false
set_option maxRecDepth 100000
namespace Go.Proofs.YtbbekbjcmnopjaaGreatDoor.Am
open Go
theorem res_ct {fr : List AVal} {σ : Store} {t n b : Nat} {agg : Bool} {x : AVal} (h : loadV σ n agg (fr.getD t .undef) = some x) : resultsA [.cell t n agg,.tmp b] (fr,σ) = some (.tuple [x,fr.getD b .undef]) := by
 simp only [resultsA,mapO,res_cell,res_tmp,h]
section
variable (d : Nat) (σ : Store)
theorem nqueue19_ok : Called CU.cfg d 7 [.nilptr] σ fun r σ' => r = .nilslice ∧ Grows σ σ' := by
 refine called_of (fn := CU.a7) rfl (Nat.le_of_ble_eq_true rfl) ?_
 simp only [CU.a7, CU.o]
 have e1 : isNil .p .nilptr = some true := rfl
 simp -dsimp only [↓WPd,↓Zm,↓Zn,WPu,Za,Zb,Zc,Zd,Ze,Zf,Zg,Zh,Nat.reduceEqDiff,Nat.reduceLT,Zi,Zj,Zk,Zl,Nat.reduceBEq,WPm,e1,Bool.not_true]
 exact Keeps.refl _ _
theorem nwaiting19_ok : Called CU.cfg d 8 [.nilptr] σ fun r σ' => r = .nilslice ∧ Grows σ σ' := by
 refine called_of (fn := CU.a8) rfl (Nat.le_of_ble_eq_true rfl) ?_
 simp only [CU.a8, CU.o]
 have e1 : isNil .p .nilptr = some true := rfl
 simp -dsimp only [↓WPd,↓Zm,↓Zn,WPu,Za,Zb,Zc,Zd,Ze,Zf,Zg,Zh,Nat.reduceEqDiff,Nat.reduceLT,Zi,Zj,Zk,Zl,Nat.reduceBEq,WPm,e1,Bool.not_true]
 exact Keeps.refl _ _
theorem nheap19_ok : Called CU.cfg d 9 [.nilptr] σ fun r σ' => r = .nilptr ∧ Grows σ σ' := by
 refine called_of (fn := CU.a9) rfl (Nat.le_of_ble_eq_true rfl) ?_
 simp only [CU.a9, CU.o]
 have e1 : isNil .p .nilptr = some true := rfl
 simp -dsimp only [↓WPd,↓Zm,↓Zn,WPu,Za,Zb,Zc,Zd,Ze,Zf,Zg,Zh,Nat.reduceEqDiff,Nat.reduceLT,Zi,Zj,Zk,Zl,Nat.reduceBEq,WPm,e1,Bool.not_true]
 exact Keeps.refl _ _
theorem nexports19_ok : Called CU.cfg d 10 [.nilptr] σ fun r σ' => r = .nilslice ∧ Grows σ σ' := by
 refine called_of (fn := CU.a10) rfl (Nat.le_of_ble_eq_true rfl) ?_
 simp only [CU.a10, CU.o]
 have e1 : isNil .p .nilptr = some true := rfl
 simp -dsimp only [↓WPd,↓Zm,↓Zn,WPu,Za,Zb,Zc,Zd,Ze,Zf,Zg,Zh,Nat.reduceEqDiff,Nat.reduceLT,Zi,Zj,Zk,Zl,Nat.reduceBEq,WPm,e1,Bool.not_true]
 exact Keeps.refl _ _
theorem nimports19_ok : Called CU.cfg d 11 [.nilptr] σ fun r σ' => r = .nilslice ∧ Grows σ σ' := by
 refine called_of (fn := CU.a11) rfl (Nat.le_of_ble_eq_true rfl) ?_
 simp only [CU.a11, CU.o]
 have e1 : isNil .p .nilptr = some true := rfl
 simp -dsimp only [↓WPd,↓Zm,↓Zn,WPu,Za,Zb,Zc,Zd,Ze,Zf,Zg,Zh,Nat.reduceEqDiff,Nat.reduceLT,Zi,Zj,Zk,Zl,Nat.reduceBEq,WPm,e1,Bool.not_true]
 exact Keeps.refl _ _
theorem nleft19_ok : Called CU.cfg d 15 [.nilptr] σ fun r σ' => r = .int .i64 0 ∧ Grows σ σ' := by
 refine called_of (fn := CU.a15) rfl (Nat.le_of_ble_eq_true rfl) ?_
 simp only [CU.a15, CU.o]
 have e1 : isNil .p .nilptr = some true := rfl
 simp -dsimp only [↓WPd,↓Zm,↓Zn,WPu,Za,Zb,Zc,Zd,Ze,Zf,Zg,Zh,Nat.reduceEqDiff,Nat.reduceLT,Zi,Zj,Zk,Zl,Nat.reduceBEq,WPm,e1,Bool.not_true]
 exact Keeps.refl _ _
theorem nroots19_ok : Called CU.cfg d 16 [.nilptr] σ fun r σ' => r = .nilslice ∧ Grows σ σ' := by
 refine called_of (fn := CU.a16) rfl (Nat.le_of_ble_eq_true rfl) ?_
 simp only [CU.a16, CU.o]
 have e1 : isNil .p .nilptr = some true := rfl
 simp -dsimp only [↓WPd,↓Zm,↓Zn,WPu,Za,Zb,Zc,Zd,Ze,Zf,Zg,Zh,Nat.reduceEqDiff,Nat.reduceLT,Zi,Zj,Zk,Zl,Nat.reduceBEq,WPm,e1,Bool.not_true]
 exact Keeps.refl _ _
theorem nfork19_ok : Called CU.cfg d 17 [.nilptr] σ fun r σ' => r = .nilptr ∧ Grows σ σ' := by
 refine called_of (fn := CU.a17) rfl (Nat.le_of_ble_eq_true rfl) ?_
 simp only [CU.a17, CU.o]
 have e1 : isNil .p .nilptr = some true := rfl
 simp -dsimp only [↓WPd,↓Zm,↓Zn,WPu,Za,Zb,Zc,Zd,Ze,Zf,Zg,Zh,Nat.reduceEqDiff,Nat.reduceLT,Zi,Zj,Zk,Zl,Nat.reduceBEq,WPm,e1,Bool.not_true]
 exact Keeps.refl _ _
theorem nverdict19_ok : Called CU.cfg d 14 [.nilptr] σ fun r σ' => r = .int .u8 0 ∧ Grows σ σ' := by
 refine called_of (fn := CU.a14) rfl (Nat.le_of_ble_eq_true rfl) ?_
 simp only [CU.a14, CU.o]
 have e1 : isNil .p .nilptr = some true := rfl
 simp -dsimp only [↓WPd,↓Zm,↓Zn,WPu,Za,Zb,Zc,Zd,Ze,Zf,Zg,Zh,Nat.reduceEqDiff,Nat.reduceLT,Zi,Zj,Zk,Zl,Nat.reduceBEq,WPm,e1,Bool.not_true]
 exact Keeps.refl _ _
theorem ncredit19_ok : Called CU.cfg d 13 [.nilptr] σ fun r σ' => r = .agg [.int .i64 0,.nilslice] ∧ Grows σ σ' := by
 refine called_of (fn := CU.a13) rfl (Nat.le_of_ble_eq_true rfl) ?_
 simp only [CU.a13, CU.o]
 have e1 : isNil .p .nilptr = some true := rfl
 have ho : (σ ++ [AObj.cells [.int .i64 0,.nilslice]])[σ.length]? = some (.cells [.int .i64 0,.nilslice]) := by simp
 have g0 : Grows σ (σ ++ [AObj.cells [.int .i64 0,.nilslice]]) := Grows.app _ _
 simp -dsimp only [↓WPd,↓Zm,↓Zn,WPu,Za,Zb,Zc,Zd,Ze,Zf,Zg,Zh,Nat.reduceEqDiff,Nat.reduceLT,Zi,Zj,Zk,Zl,Nat.reduceBEq,WPm,e1]
 have hb : fillA [AVal.int .i64 0,.nilslice] [] = some [.int .i64 0,.nilslice] := rfl
 generalize σ ++ [AObj.cells [.int .i64 0,.nilslice]] = σ1 at ho g0
 generalize hi : σ.length = i at ho
 have hs : storeV σ1 2 (.ptr i 0) (.agg [.int .i64 0,.nilslice]) = some (σ1.set i (.cells [.int .i64 0,.nilslice])) := storeN_cells ho rfl rfl rfl
 have hset : σ1.set i (.cells [.int .i64 0,.nilslice]) = σ1 := set_same ho
 rw [hset] at hs
 simp -dsimp only [↓WPd,↓Zm,↓Zn,WPu,Za,Zb,Zc,Zd,Ze,Zf,Zg,Zh,Nat.reduceEqDiff,Nat.reduceLT,Zi,Zj,Zk,Zl,Nat.reduceBEq,WPm,hb,hs,loadN_cells (n := 2) ho rfl]
 exact g0
theorem ncollected19_ok : Called CU.cfg d 4 [.nilptr] σ fun r σ' => r = .tuple [.agg [.int .i64 0,.nilslice],.int .i64 0] ∧ Grows σ σ' := by
 refine called_of (fn := CU.a4) rfl (Nat.le_of_ble_eq_true rfl) ?_
 simp only [CU.a4, CU.o]
 have e1 : isNil .p .nilptr = some true := rfl
 have ho : (σ ++ [AObj.cells [.int .i64 0,.nilslice]])[σ.length]? = some (.cells [.int .i64 0,.nilslice]) := by simp
 have g0 : Grows σ (σ ++ [AObj.cells [.int .i64 0,.nilslice]]) := Grows.app _ _
 simp -dsimp only [↓WPd,↓Zm,↓Zn,WPu,Za,Zb,Zc,Zd,Ze,Zf,Zg,Zh,Nat.reduceEqDiff,Nat.reduceLT,Zi,Zj,Zk,Zl,Nat.reduceBEq,WPm,e1]
 have hb : fillA [AVal.int .i64 0,.nilslice] [] = some [.int .i64 0,.nilslice] := rfl
 generalize σ ++ [AObj.cells [.int .i64 0,.nilslice]] = σ1 at ho g0
 generalize hi : σ.length = i at ho
 have hs : storeV σ1 2 (.ptr i 0) (.agg [.int .i64 0,.nilslice]) = some (σ1.set i (.cells [.int .i64 0,.nilslice])) := storeN_cells ho rfl rfl rfl
 have hset : σ1.set i (.cells [.int .i64 0,.nilslice]) = σ1 := set_same ho
 rw [hset] at hs
 simp -dsimp only [↓WPd,↓Zm,↓Zn,WPu,Za,Zb,Zc,Zd,Ze,Zf,Zg,Zh,Nat.reduceEqDiff,Nat.reduceLT,Zi,Zj,Zk,Zl,Nat.reduceBEq,WPm,hb,hs,loadN_cells (n := 2) ho rfl]
 rw [res_ct (x := .agg [.int .i64 0,.nilslice]) (by simp -dsimp only [↓WPd,↓Zm,↓Zn,WPu,Za,Zb,Zc,Zd,Ze,Zf,Zg,Zh,Nat.reduceEqDiff,Nat.reduceLT,Zi,Zj,Zk,Zl,Nat.reduceBEq]; exact loadN_cells (n := 2) ho rfl)]
 simp -dsimp only [↓WPd,↓Zm,↓Zn,WPu,Za,Zb,Zc,Zd,Ze,Zf,Zg,Zh,Nat.reduceEqDiff,Nat.reduceLT,Zi,Zj,Zk,Zl,Nat.reduceBEq]
 exact g0
theorem ndo19_ok (cs : List AVal) (h1 : cs.all AVal.one = true) : Called CU.cfg d 6 [.nilptr,.agg cs] σ fun r σ' => r = .agg [.int .i64 1,.nilslice,.nilslice] ∧ Grows σ σ' := by
 refine called_of (fn := CU.a6) rfl (Nat.le_of_ble_eq_true rfl) ?_
 simp only [CU.a6, CU.o]
 have e1 : isNil .p .nilptr = some true := rfl
 have c3 : (AVal.agg cs).cells = cs := rfl
 have ho : (σ ++ [AObj.cells cs] ++ [AObj.cells [.int .i64 0,.nilslice,.nilslice]])[(σ ++ [AObj.cells cs]).length]? = some (.cells [.int .i64 0,.nilslice,.nilslice]) := by simp
 have g0 : Grows σ (σ ++ [AObj.cells cs] ++ [AObj.cells [.int .i64 0,.nilslice,.nilslice]]) := (Grows.app _ _).trans (Grows.app _ _)
 have hb : fillA [AVal.int .i64 0,.nilslice,.nilslice] [(0,1,AVal.int .i64 1)] = some [.int .i64 1,.nilslice,.nilslice] := rfl
 simp -dsimp only [↓WPd,↓Zm,↓Zn,WPu,Za,Zb,Zc,Zd,Ze,Zf,Zg,Zh,Nat.reduceEqDiff,Nat.reduceLT,Zi,Zj,Zk,Zl,Nat.reduceBEq,WPm,e1,c3,h1]
 generalize σ ++ [AObj.cells cs] ++ [AObj.cells [.int .i64 0,.nilslice,.nilslice]] = σ1 at ho g0
 have hl : σ.length ≤ (σ ++ [AObj.cells cs]).length := by simp
 generalize (σ ++ [AObj.cells cs]).length = i at ho hl
 have hs : storeV σ1 3 (.ptr i 0) (.agg [.int .i64 1,.nilslice,.nilslice]) = some (σ1.set i (.cells [.int .i64 1,.nilslice,.nilslice])) := storeN_cells ho rfl rfl rfl
 have hi := get_set (o' := .cells [.int .i64 1,.nilslice,.nilslice]) ho
 simp -dsimp only [↓WPd,↓Zm,↓Zn,WPu,Za,Zb,Zc,Zd,Ze,Zf,Zg,Zh,Nat.reduceEqDiff,Nat.reduceLT,Zi,Zj,Zk,Zl,Nat.reduceBEq,WPm,hb,hs,loadN_cells (n := 3) hi rfl]
 exact Keeps.trans g0 (Keeps.set _ _ _) fun j hj e => by omega
theorem niszero_ok : Called CU.cfg d 12 [.agg [.int .i64 0,.nilslice]] σ fun r σ' => r = .bool true ∧ Grows σ σ' := by
 refine called_of (fn := CU.a12) rfl (Nat.le_of_ble_eq_true rfl) ?_
 simp only [CU.a12, CU.o]
 have c3 : (AVal.agg [AVal.int .i64 0,.nilslice]).cells = [.int .i64 0,.nilslice] := rfl
 have c4 : [AVal.int .i64 0,.nilslice].all AVal.one = true := rfl
 have ho : (σ ++ [AObj.cells [.int .i64 0,.nilslice]])[σ.length]? = some (.cells [.int .i64 0,.nilslice]) := by simp
 have g0 : Grows σ (σ ++ [AObj.cells [.int .i64 0,.nilslice]]) := Grows.app _ _
 simp -dsimp only [↓WPd,↓Zm,↓Zn,WPu,Za,Zb,Zc,Zd,Ze,Zf,Zg,Zh,Nat.reduceEqDiff,Nat.reduceLT,Zi,Zj,Zk,Zl,Nat.reduceBEq,WPm,c3,c4]
 generalize σ ++ [AObj.cells [.int .i64 0,.nilslice]] = σ1 at ho g0
 generalize σ.length = i at ho
 have l0 : lenSV .nilslice = some 0 := rfl
 have b0 : ((0 : Int) == 0) = true := rfl
 have b1 : (((0 : Nat) : Int) == 0) = true := rfl
 have x0 : ([AVal.int .i64 0,.nilslice] : List AVal)[0]? = some (.int .i64 0) := rfl
 have x1 : ([AVal.int .i64 0,.nilslice] : List AVal)[1]? = some .nilslice := rfl
 simp -dsimp only [↓WPd,↓Zm,↓Zn,WPu,Za,Zb,Zc,Zd,Ze,Zf,Zg,Zh,Nat.reduceEqDiff,Nat.reduceLT,Zi,Zj,Zk,Zl,Nat.reduceBEq,WPm,faddr_ptr,Nat.add_zero,Nat.zero_add,load_cells ho,x0,x1,l0,b0,b1]
 exact g0
end
theorem node_none_run (cs : List AVal) (c1 : cs.all AVal.one = true) (lc : cs.length = 4) :
  Called CU.cfg 0 3 [.agg cs] [] fun v _ => v = .bool true := by
 refine called_of (fn := CU.a3) rfl (Nat.le_of_ble_eq_true rfl) ?_
 simp only [CU.a3, CU.o]
 have k2 : (AVal.agg cs).cells = cs := rfl
 simp -dsimp only [↓WPd,↓Zm,↓Zn,WPu,Za,Zb,Zc,Zd,Ze,Zf,Zg,Zh,Nat.reduceEqDiff,Nat.reduceLT,Zi,Zj,Zk,Zl,Nat.reduceBEq,WPm,k2,c1]
 have oc : ([] ++ [AObj.cells cs])[([] : Store).length]? = some (.cells cs) := rfl
 generalize ([] : Store).length = ic at oc
 generalize [] ++ [AObj.cells cs] = σ1 at oc
 refine calledW_of (ncollected19_ok 0 σ1) ?_
 rintro r σ2 ⟨rfl,g2⟩
 have oc2 := g2.get oc
 have t0 : ([AVal.agg [.int .i64 0,.nilslice],.int .i64 0] : List AVal)[0]? = some (.agg [.int .i64 0,.nilslice]) := rfl
 have t1 : ([AVal.agg [.int .i64 0,.nilslice],.int .i64 0] : List AVal)[1]? = some (.int .i64 0) := rfl
 have oa : (σ2 ++ [AObj.cells [.int .i64 0,.nilslice]])[σ2.length]? = some (.cells [.int .i64 0,.nilslice]) := by simp
 have st : storeV (σ2 ++ [AObj.cells [.int .i64 0,.nilslice]]) 2 (.ptr σ2.length 0) (.agg [.int .i64 0,.nilslice]) = some (σ2 ++ [AObj.cells [.int .i64 0,.nilslice]]) := by
  rw [storeN_cells (n := 2) oa rfl rfl rfl,set_same oa]
 simp -dsimp only [↓WPd,↓Zm,↓Zn,WPu,Za,Zb,Zc,Zd,Ze,Zf,Zg,Zh,Nat.reduceEqDiff,Nat.reduceLT,Zi,Zj,Zk,Zl,Nat.reduceBEq,WPm,t0,t1,st]
 have oc3 := (Grows.app σ2 [AObj.cells [.int .i64 0,.nilslice]]).get oc2
 generalize σ2 ++ [AObj.cells [.int .i64 0,.nilslice]] = σ3 at oa oc3
 generalize σ2.length = ia at oa
 refine isoW_bool live19_ran ?_
 have b1 : ((1 : Int) == 1) = true := rfl
 have b0 : (((0 : Nat) : Int) == 0) = true := rfl
 have b00 : ((0 : Int) == 0) = true := rfl
 have l0 : lenSV .nilslice = some 0 := rfl
 have n1 : isNil .p .nilptr = some true := rfl
 have f0 : ld [AVal.int .i64 1,.nilslice,.nilslice] 0 1 false = some (.int .i64 1) := rfl
 simp -dsimp only [↓WPd,↓Zm,↓Zn,WPu,Za,Zb,Zc,Zd,Ze,Zf,Zg,Zh,Nat.reduceEqDiff,Nat.reduceLT,Zi,Zj,Zk,Zl,Nat.reduceBEq,WPm,loadN_cells oc3 lc]
 refine calledW_of (ndo19_ok 0 σ3 cs c1) ?_
 rintro r σ4 ⟨rfl,g4⟩
 have oa4 := g4.get oa
 simp -dsimp only [↓WPd,↓Zm,↓Zn,WPu,Za,Zb,Zc,Zd,Ze,Zf,Zg,Zh,Nat.reduceEqDiff,Nat.reduceLT,Zi,Zj,Zk,Zl,Nat.reduceBEq,WPm,f0,b1]
 refine calledW_of (nqueue19_ok 0 σ4) ?_
 rintro r σ5 ⟨rfl,g5⟩
 have oa5 := g5.get oa4
 simp -dsimp only [↓WPd,↓Zm,↓Zn,WPu,Za,Zb,Zc,Zd,Ze,Zf,Zg,Zh,Nat.reduceEqDiff,Nat.reduceLT,Zi,Zj,Zk,Zl,Nat.reduceBEq,WPm,b1,l0,b0]
 refine calledW_of (nwaiting19_ok 0 σ5) ?_
 rintro r σ6 ⟨rfl,g6⟩
 have oa6 := g6.get oa5
 simp -dsimp only [↓WPd,↓Zm,↓Zn,WPu,Za,Zb,Zc,Zd,Ze,Zf,Zg,Zh,Nat.reduceEqDiff,Nat.reduceLT,Zi,Zj,Zk,Zl,Nat.reduceBEq,WPm,b1,l0,b0]
 refine calledW_of (nheap19_ok 0 σ6) ?_
 rintro r σ7 ⟨rfl,g7⟩
 have oa7 := g7.get oa6
 simp -dsimp only [↓WPd,↓Zm,↓Zn,WPu,Za,Zb,Zc,Zd,Ze,Zf,Zg,Zh,Nat.reduceEqDiff,Nat.reduceLT,Zi,Zj,Zk,Zl,Nat.reduceBEq,WPm,b1,l0,b0,n1]
 refine calledW_of (nexports19_ok 0 σ7) ?_
 rintro r σ8 ⟨rfl,g8⟩
 have oa8 := g8.get oa7
 simp -dsimp only [↓WPd,↓Zm,↓Zn,WPu,Za,Zb,Zc,Zd,Ze,Zf,Zg,Zh,Nat.reduceEqDiff,Nat.reduceLT,Zi,Zj,Zk,Zl,Nat.reduceBEq,WPm,b1,l0,b0,n1]
 refine calledW_of (nimports19_ok 0 σ8) ?_
 rintro r σ9 ⟨rfl,g9⟩
 have oa9 := g9.get oa8
 simp -dsimp only [↓WPd,↓Zm,↓Zn,WPu,Za,Zb,Zc,Zd,Ze,Zf,Zg,Zh,Nat.reduceEqDiff,Nat.reduceLT,Zi,Zj,Zk,Zl,Nat.reduceBEq,WPm,b1,l0,b0,n1]
 refine calledW_of (ncredit19_ok 0 σ9) ?_
 rintro r σ10 ⟨rfl,g10⟩
 have oa10 := g10.get oa9
 simp -dsimp only [↓WPd,↓Zm,↓Zn,WPu,Za,Zb,Zc,Zd,Ze,Zf,Zg,Zh,Nat.reduceEqDiff,Nat.reduceLT,Zi,Zj,Zk,Zl,Nat.reduceBEq,WPm,b1,l0,b0,n1]
 refine calledW_of (niszero_ok 0 σ10) ?_
 rintro r σ11 ⟨rfl,g11⟩
 have oa11 := g11.get oa10
 simp -dsimp only [↓WPd,↓Zm,↓Zn,WPu,Za,Zb,Zc,Zd,Ze,Zf,Zg,Zh,Nat.reduceEqDiff,Nat.reduceLT,Zi,Zj,Zk,Zl,Nat.reduceBEq,WPm,b1,l0,b0,n1,loadN_cells (n := 2) oa11 rfl]
 refine calledW_of (niszero_ok 0 σ11) ?_
 rintro r σ12 ⟨rfl,g12⟩
 simp -dsimp only [↓WPd,↓Zm,↓Zn,WPu,Za,Zb,Zc,Zd,Ze,Zf,Zg,Zh,Nat.reduceEqDiff,Nat.reduceLT,Zi,Zj,Zk,Zl,Nat.reduceBEq,WPm,b1,l0,b0,b00,n1]
 refine calledW_of (nverdict19_ok 0 σ12) ?_
 rintro r σ13 ⟨rfl,g13⟩
 simp -dsimp only [↓WPd,↓Zm,↓Zn,WPu,Za,Zb,Zc,Zd,Ze,Zf,Zg,Zh,Nat.reduceEqDiff,Nat.reduceLT,Zi,Zj,Zk,Zl,Nat.reduceBEq,WPm,b1,l0,b0,b00,n1]
 refine calledW_of (nleft19_ok 0 σ13) ?_
 rintro r σ14 ⟨rfl,g14⟩
 simp -dsimp only [↓WPd,↓Zm,↓Zn,WPu,Za,Zb,Zc,Zd,Ze,Zf,Zg,Zh,Nat.reduceEqDiff,Nat.reduceLT,Zi,Zj,Zk,Zl,Nat.reduceBEq,WPm,b1,l0,b0,b00,n1]
 refine calledW_of (nroots19_ok 0 σ14) ?_
 rintro r σ15 ⟨rfl,g15⟩
 simp -dsimp only [↓WPd,↓Zm,↓Zn,WPu,Za,Zb,Zc,Zd,Ze,Zf,Zg,Zh,Nat.reduceEqDiff,Nat.reduceLT,Zi,Zj,Zk,Zl,Nat.reduceBEq,WPm,b1,l0,b0,b00,n1]
 refine calledW_of (nfork19_ok 0 σ15) ?_
 rintro r σ16 ⟨rfl,g16⟩
 simp -dsimp only [↓WPd,↓Zm,↓Zn,WPu,Za,Zb,Zc,Zd,Ze,Zf,Zg,Zh,Nat.reduceEqDiff,Nat.reduceLT,Zi,Zj,Zk,Zl,Nat.reduceBEq,WPm,b1,l0,b0,b00,n1]
end Go.Proofs.YtbbekbjcmnopjaaGreatDoor.Am
namespace Go.Proofs.YtbbekbjcmnopjaaGreatDoor.Am
open Go Go.RowKit Go.ChangeShapes Go.WideShapes Go.ChangeAt Go.Proofs.YtbbekbjcmnopjaaGreatDoor.Rows
theorem agg_read {P : Program} {W : World} {H : Type} {enc : TypeId × Value → H} {n : Nat} {t : TypeId} {v : Value} {d : DataW H} {ps : List MemPlace} (hr : rdT P n t = true) (ha : aggB P t = true) (h : DataW.Trod enc P W 0 (fun _ => true) true t v d ps) :
  ∃ cs,argV P n t d = .agg cs ∧ cs.all AVal.one = true ∧ cs.length = P.cellsOf t := by
 obtain ⟨fuel,hf⟩ := h
 obtain ⟨g,gt⟩ := read_dec (cf := id) n hr hf
 exact ⟨dec P n t d,by simp [argV,elv,ha],by rw [List.all_eq_true]; exact g.one,g.len⟩
end Go.Proofs.YtbbekbjcmnopjaaGreatDoor.Am
