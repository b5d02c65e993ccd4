/-
  The abstract machine and the functions of the law, 4: texts put together.
-/
import Derived.Test.YtelpjaejmneplaaGreatDoorUnifySolvesPkC
set_option linter.unusedVariables false
set_option linter.unusedSimpArgs false
set_option linter.unusedSectionVars false
set_option maxRecDepth 100000
namespace Go.Proofs.YtelpjaejmneplaaGreatDoor.Am
open Go
theorem Cel.one (c : Cel) : c.cs.all AVal.one = true := rfl
theorem Cel.cells (c : Cel) : c.val.cells = c.cs := rfl
theorem Cel.g0 (c : Cel) : c.cs[0]? = some (.int .u8 c.k) := rfl
theorem Cel.g1 (c : Cel) : c.cs[1]? = some (.str c.s) := rfl
theorem Cel.g2 (c : Cel) : c.cs[2]? = some (.int .i64 c.n) := rfl
theorem Cel.g3 (c : Cel) : c.cs[3]? = some (.int .i64 c.v.1) := rfl
theorem Cel.g4 (c : Cel) : c.cs[4]? = some (.int .i64 c.v.2) := rfl
theorem Cel.eqs (a b : Cel) : eqsV [.i,.s,.i,.i,.i] a.val b.val = some (decide (a = b)) := by
 obtain ⟨k,s,n,v,w⟩ := a
 obtain ⟨k',s',n',v',w'⟩ := b
 simp [eqsV,cellsEq,Cel.val,Cel.cs]
 rw [Bool.eq_iff_iff]
 simp
 omega
section
variable (d : Nat) (σ : Store)
theorem only_ok (a b : Cel) : Called CU.cfg d 165 [a.val,b.val] σ fun v σ' => v = .bool (decide (a = b)) ∧ Grows σ σ' := by
 refine called_of (fn := CU.a165) rfl (Nat.le_of_ble_eq_true rfl) ?_
 simp only [CU.a165, CU.o]
 simp -dsimp only [↓WPd,↓Zm,↓Zn,WPu,Za,Zb,Zc,Zd,Ze,Zf,Zg,Zh,Nat.reduceEqDiff,Nat.reduceLT,Zi,Zj,Zk,Zl,Nat.reduceBEq,Cel.cells,Cel.one]
 have h1 : (σ ++ [AObj.cells a.cs] ++ [AObj.cells b.cs])[σ.length]? = some (.cells a.cs) := by simp
 have h2 : (σ ++ [AObj.cells a.cs] ++ [AObj.cells b.cs])[(σ ++ [AObj.cells a.cs]).length]? = some (.cells b.cs) := by simp
 have l1 : loadV (σ ++ [AObj.cells a.cs] ++ [AObj.cells b.cs]) 5 true (.ptr σ.length 0) = some a.val := loadN_cells h1 rfl
 have l2 : loadV (σ ++ [AObj.cells a.cs] ++ [AObj.cells b.cs]) 5 true (.ptr (σ ++ [AObj.cells a.cs]).length 0) = some b.val := loadN_cells h2 rfl
 simp -dsimp only [↓WPd,↓Zm,↓Zn,WPu,Za,Zb,Zc,Zd,Ze,Zf,Zg,Zh,Nat.reduceEqDiff,Nat.reduceLT,Zi,Zj,Zk,Zl,Nat.reduceBEq,l1,l2,Cel.eqs]
 exact (Grows.app _ _).trans (Grows.app _ _)
theorem cell_load {c : Cel} {σ' : Store} {i : Nat} (h : σ'[i]? = some (.cells c.cs)) : loadV σ' 5 true (.ptr i 0) = some c.val := loadN_cells h rfl
theorem rule1_ok (c : Cel) : Called CU.cfg d 164 [c.val] σ fun v σ' => v = .bool (decide (c.k = 1) && c.ok) ∧ Grows σ σ' := by
 refine called_of (fn := CU.a164) rfl (Nat.le_of_ble_eq_true rfl) ?_
 simp only [CU.a164, CU.o]
 simp -dsimp only [↓WPd,↓Zm,↓Zn,WPu,Za,Zb,Zc,Zd,Ze,Zf,Zg,Zh,Nat.reduceEqDiff,Nat.reduceLT,Zi,Zj,Zk,Zl,Nat.reduceBEq,Cel.cells,Cel.one]
 have ho : (σ ++ [AObj.cells c.cs])[σ.length]? = some (.cells c.cs) := by simp
 have g0 : Grows σ (σ ++ [AObj.cells c.cs]) := Grows.app _ _
 generalize σ ++ [AObj.cells c.cs] = σ1 at ho g0
 simp -dsimp only [↓WPd,↓Zm,↓Zn,WPu,Za,Zb,Zc,Zd,Ze,Zf,Zg,Zh,Nat.reduceEqDiff,Nat.reduceLT,Zi,Zj,Zk,Zl,Nat.reduceBEq,WPm,faddr_ptr,load_cells ho,Cel.g0,Cel.g1,Cel.g2,Cel.g3,Cel.g4,cell_load ho]
 generalize hb : (decide (c.n ≥ -2147483648) && decide (c.n ≤ 2147483648)) = b
 have hok : (decide (c.k = 1) && c.ok) = (b && decide (c = ⟨1,[],c.n,(0,0)⟩)) := by
  rw [← hb]
  obtain ⟨k,s,n,v⟩ := c
  by_cases h1 : k = 1
  ·subst h1
   rw [Bool.eq_iff_iff]
   simp [Cel.ok]
   constructor <;> intro h <;> simp_all
  ·simp [h1]
 have hf : fillA [AVal.int IntKind.u8 0,AVal.str [],AVal.int IntKind.i64 0,AVal.int IntKind.i64 0,AVal.int IntKind.i64 0] [(0,1,AVal.int IntKind.u8 1),(2,1,AVal.int IntKind.i64 c.n)] = some (Cel.cs ⟨1,[],c.n,(0,0)⟩) := rfl
 cases b
 ·simp -dsimp only [↓WPd,↓Zm,↓Zn,WPu,Za,Zb,Zc,Zd,Ze,Zf,Zg,Zh,Nat.reduceEqDiff,Nat.reduceLT,Zi,Zj,Zk,Zl,Nat.reduceBEq,WPm,hok,Bool.false_and]
  exact g0
 ·simp -dsimp only [↓WPd,↓Zm,↓Zn,WPu,Za,Zb,Zc,Zd,Ze,Zf,Zg,Zh,Nat.reduceEqDiff,Nat.reduceLT,Zi,Zj,Zk,Zl,Nat.reduceBEq,WPm,hf]
  refine calledW_of (only_ok d σ1 c ⟨1,[],c.n,(0,0)⟩) ?_
  rintro v σ2 ⟨rfl,g2⟩
  simp -dsimp only [↓WPd,↓Zm,↓Zn,WPu,Za,Zb,Zc,Zd,Ze,Zf,Zg,Zh,Nat.reduceEqDiff,Nat.reduceLT,Zi,Zj,Zk,Zl,Nat.reduceBEq,hok,Bool.true_and]
  exact g0.trans g2
theorem rule2_ok (c : Cel) (hs : c.s.length < 2 ^ 40) : Called CU.cfg d 166 [c.val] σ fun v σ' => v = .bool (decide (c.k = 2) && c.ok) ∧ Grows σ σ' := by
 refine called_of (fn := CU.a166) rfl (Nat.le_of_ble_eq_true rfl) ?_
 simp only [CU.a166, CU.o]
 simp -dsimp only [↓WPd,↓Zm,↓Zn,WPu,Za,Zb,Zc,Zd,Ze,Zf,Zg,Zh,Nat.reduceEqDiff,Nat.reduceLT,Zi,Zj,Zk,Zl,Nat.reduceBEq,Cel.cells,Cel.one]
 have ho : (σ ++ [AObj.cells c.cs])[σ.length]? = some (.cells c.cs) := by simp
 have g0 : Grows σ (σ ++ [AObj.cells c.cs]) := Grows.app _ _
 generalize σ ++ [AObj.cells c.cs] = σ1 at ho g0
 simp -dsimp only [↓WPd,↓Zm,↓Zn,WPu,Za,Zb,Zc,Zd,Ze,Zf,Zg,Zh,Nat.reduceEqDiff,Nat.reduceLT,Zi,Zj,Zk,Zl,Nat.reduceBEq,WPm,faddr_ptr,load_cells ho,Cel.g0,Cel.g1,Cel.g2,Cel.g3,Cel.g4,cell_load ho]
 refine calledW_of (isname_ok d σ1 c.s hs) ?_
 rintro v σ2 ⟨rfl,rfl⟩
 have hok : (decide (c.k = 2) && c.ok) = (isName c.s && decide (c = ⟨2,c.s,0,(0,0)⟩)) := by
  obtain ⟨k,s,n,v⟩ := c
  by_cases h1 : k = 2
  ·subst h1
   rw [Bool.eq_iff_iff]
   simp [Cel.ok]
   constructor <;> intro h <;> simp_all
  ·simp [h1]
 have hf : fillA [AVal.int IntKind.u8 0,AVal.str [],AVal.int IntKind.i64 0,AVal.int IntKind.i64 0,AVal.int IntKind.i64 0] [(0,1,AVal.int IntKind.u8 2),(1,1,AVal.str c.s)] = some (Cel.cs ⟨2,c.s,0,(0,0)⟩) := rfl
 generalize hb : isName c.s = b at hok
 cases b
 ·simp -dsimp only [↓WPd,↓Zm,↓Zn,WPu,Za,Zb,Zc,Zd,Ze,Zf,Zg,Zh,Nat.reduceEqDiff,Nat.reduceLT,Zi,Zj,Zk,Zl,Nat.reduceBEq,WPm,hok,Bool.false_and]
  exact g0
 ·simp -dsimp only [↓WPd,↓Zm,↓Zn,WPu,Za,Zb,Zc,Zd,Ze,Zf,Zg,Zh,Nat.reduceEqDiff,Nat.reduceLT,Zi,Zj,Zk,Zl,Nat.reduceBEq,WPm,faddr_ptr,load_cells ho,Cel.g0,Cel.g1,Cel.g2,Cel.g3,Cel.g4,cell_load ho,hf]
  refine calledW_of (only_ok d σ2 c ⟨2,c.s,0,(0,0)⟩) ?_
  rintro v σ3 ⟨rfl,g2⟩
  simp -dsimp only [↓WPd,↓Zm,↓Zn,WPu,Za,Zb,Zc,Zd,Ze,Zf,Zg,Zh,Nat.reduceEqDiff,Nat.reduceLT,Zi,Zj,Zk,Zl,Nat.reduceBEq,hok,Bool.true_and]
  exact g0.trans g2
theorem rule4_ok (c : Cel) : Called CU.cfg d 170 [c.val] σ fun v σ' => v = .bool (decide (c.k = 4) && c.ok) ∧ Grows σ σ' := by
 refine called_of (fn := CU.a170) rfl (Nat.le_of_ble_eq_true rfl) ?_
 simp only [CU.a170, CU.o]
 simp -dsimp only [↓WPd,↓Zm,↓Zn,WPu,Za,Zb,Zc,Zd,Ze,Zf,Zg,Zh,Nat.reduceEqDiff,Nat.reduceLT,Zi,Zj,Zk,Zl,Nat.reduceBEq,Cel.cells,Cel.one]
 have ho : (σ ++ [AObj.cells c.cs])[σ.length]? = some (.cells c.cs) := by simp
 have g0 : Grows σ (σ ++ [AObj.cells c.cs]) := Grows.app _ _
 generalize σ ++ [AObj.cells c.cs] = σ1 at ho g0
 have l2 : loadV σ1 2 true (.ptr σ.length 3) = some (.agg [.int .i64 c.v.1,.int .i64 c.v.2]) := by simp [loadV,behind,ho,Cel.cs]
 simp -dsimp only [↓WPd,↓Zm,↓Zn,WPu,Za,Zb,Zc,Zd,Ze,Zf,Zg,Zh,Nat.reduceEqDiff,Nat.reduceLT,Zi,Zj,Zk,Zl,Nat.reduceBEq,WPm,faddr_ptr,Nat.reduceAdd,Nat.add_zero,load_cells ho,Cel.g0,Cel.g1,Cel.g2,Cel.g3,Cel.g4,cell_load ho,l2]
 generalize hb : (decide (c.v.1 ≥ -1) && decide (c.v.1 < 4) && decide (c.v.2 ≥ 0)) = b
 have hok : (decide (c.k = 4) && c.ok) = (b && decide (c = ⟨4,[],0,c.v⟩)) := by
  rw [← hb]
  obtain ⟨k,s,n,v,w⟩ := c
  by_cases h1 : k = 4
  ·subst h1
   rw [Bool.eq_iff_iff]
   simp [Cel.ok]
   constructor
   ·intro h; simp_all; omega
   ·intro h; simp_all; omega
  ·simp [h1]
 have hf : fillA [AVal.int IntKind.u8 0,AVal.str [],AVal.int IntKind.i64 0,AVal.int IntKind.i64 0,AVal.int IntKind.i64 0] [(0,1,AVal.int IntKind.u8 4),(3,2,AVal.agg [.int .i64 c.v.1,.int .i64 c.v.2])] = some (Cel.cs ⟨4,[],0,c.v⟩) := rfl
 cases b
 ·simp -dsimp only [↓WPd,↓Zm,↓Zn,WPu,Za,Zb,Zc,Zd,Ze,Zf,Zg,Zh,Nat.reduceEqDiff,Nat.reduceLT,Zi,Zj,Zk,Zl,Nat.reduceBEq,WPm,hok,Bool.false_and]
  exact g0
 ·simp -dsimp only [↓WPd,↓Zm,↓Zn,WPu,Za,Zb,Zc,Zd,Ze,Zf,Zg,Zh,Nat.reduceEqDiff,Nat.reduceLT,Zi,Zj,Zk,Zl,Nat.reduceBEq,WPm,hf]
  refine calledW_of (only_ok d σ1 c ⟨4,[],0,c.v⟩) ?_
  rintro v σ2 ⟨rfl,g2⟩
  simp -dsimp only [↓WPd,↓Zm,↓Zn,WPu,Za,Zb,Zc,Zd,Ze,Zf,Zg,Zh,Nat.reduceEqDiff,Nat.reduceLT,Zi,Zj,Zk,Zl,Nat.reduceBEq,hok,Bool.true_and]
  exact g0.trans g2
theorem rule5_ok (c : Cel) : Called CU.cfg d 171 [c.val] σ fun v σ' => v = .bool false ∧ Grows σ σ' := by
 refine called_of (fn := CU.a171) rfl (Nat.le_of_ble_eq_true rfl) ?_
 simp only [CU.a171, CU.o]
 simp -dsimp only [↓WPd,↓Zm,↓Zn,WPu,Za,Zb,Zc,Zd,Ze,Zf,Zg,Zh,Nat.reduceEqDiff,Nat.reduceLT,Zi,Zj,Zk,Zl,Nat.reduceBEq,Cel.cells,Cel.one]
 exact Grows.app _ _
theorem ev_signs (fr : List AVal) : ev CU.cfg fr (.glob 0) = .fptr 0 (SS signsL) 0 := rfl
theorem gslice_signs : gsliceV 12 (.fptr 0 (SS signsL) 0) = some (.fslice 0 true 1 (SS signsL)) := rfl
theorem rule3_ok (c : Cel) (hs : c.s.length < 2 ^ 40) : Called CU.cfg d 168 [c.val] σ fun v σ' => v = .bool (decide (c.k = 3) && c.ok) ∧ Grows σ σ' := by
 refine called_of (fn := CU.a168) rfl (Nat.le_of_ble_eq_true rfl) ?_
 simp only [CU.a168, CU.o]
 simp -dsimp only [↓WPd,↓Zm,↓Zn,WPu,Za,Zb,Zc,Zd,Ze,Zf,Zg,Zh,Nat.reduceEqDiff,Nat.reduceLT,Zi,Zj,Zk,Zl,Nat.reduceBEq,Cel.cells,Cel.one]
 have ho : (σ ++ [AObj.cells c.cs])[σ.length]? = some (.cells c.cs) := by simp
 have g0 : Grows σ (σ ++ [AObj.cells c.cs]) := Grows.app _ _
 generalize σ ++ [AObj.cells c.cs] = σ1 at ho g0
 simp -dsimp only [↓WPd,↓Zm,↓Zn,WPu,Za,Zb,Zc,Zd,Ze,Zf,Zg,Zh,Nat.reduceEqDiff,Nat.reduceLT,Zi,Zj,Zk,Zl,Nat.reduceBEq,WPm,faddr_ptr,load_cells ho,Cel.g0,Cel.g1,Cel.g2,Cel.g3,Cel.g4,cell_load ho]
 refine calledW_of (isname_ok d σ1 c.s hs) ?_
 rintro v σ2 ⟨rfl,rfl⟩
 simp -dsimp only [↓WPd,↓Zm,↓Zn,WPu,Za,Zb,Zc,Zd,Ze,Zf,Zg,Zh,Nat.reduceEqDiff,Nat.reduceLT,Zi,Zj,Zk,Zl,Nat.reduceBEq,WPm,faddr_ptr,load_cells ho,Cel.g0,Cel.g1,Cel.g2,Cel.g3,Cel.g4,cell_load ho]
 generalize hb : (isName c.s && decide (c.n ≥ 1) && decide (c.n ≤ 8)) = b
 have hf : fillA [AVal.int IntKind.u8 0,AVal.str [],AVal.int IntKind.i64 0,AVal.int IntKind.i64 0,AVal.int IntKind.i64 0] [(0,1,AVal.int IntKind.u8 3),(1,1,AVal.str c.s),(2,1,AVal.int IntKind.i64 c.n)] = some (Cel.cs ⟨3,c.s,c.n,(0,0)⟩) := rfl
 have hok : (decide (c.k = 3) && c.ok) = ((b || (signsL.contains c.s && (c.n == 2))) && decide (c = ⟨3,c.s,c.n,(0,0)⟩)) := by
  rw [← hb]
  obtain ⟨k,s,n,v⟩ := c
  by_cases h1 : k = 3
  ·subst h1
   rw [Bool.eq_iff_iff]
   simp only [Cel.ok]
   simp
   constructor
   ·intro h; simp_all
   ·intro h; simp_all
  ·simp [h1]
 have fin : ∀ (q : Bool) (σ3 : Store),Grows σ σ3 → σ3[σ.length]? = some (.cells c.cs) → (b || (signsL.contains c.s && (c.n == 2))) = q → q = true → Called CU.cfg d 165 [c.val,.agg (Cel.cs ⟨3,c.s,c.n,(0,0)⟩)] σ3 fun v σ' => v = .bool (decide (c.k = 3) && c.ok) ∧ Grows σ σ' := by
  intro q σ3 g3 h3 hq hq1
  refine (only_ok d σ3 c ⟨3,c.s,c.n,(0,0)⟩).mono ?_
  rintro v σ4 ⟨rfl,g4⟩
  rw [hok,hq,hq1,Bool.true_and]
  exact ⟨rfl,g3.trans g4⟩
 cases b
 ·simp -dsimp only [↓WPd,↓Zm,↓Zn,WPu,Za,Zb,Zc,Zd,Ze,Zf,Zg,Zh,Nat.reduceEqDiff,Nat.reduceLT,Zi,Zj,Zk,Zl,Nat.reduceBEq,WPm,ev_signs,gslice_signs,faddr_ptr,load_cells ho,Cel.g0,Cel.g1,Cel.g2,Cel.g3,Cel.g4,cell_load ho]
  refine calledW_of (scontains_ok d σ2 _ signsL c.s (by decide) (SlOf.fs _ _ _ _ _)) ?_
  rintro v σ3 ⟨rfl,rfl⟩
  simp -dsimp only [↓WPd,↓Zm,↓Zn,WPu,Za,Zb,Zc,Zd,Ze,Zf,Zg,Zh,Nat.reduceEqDiff,Nat.reduceLT,Zi,Zj,Zk,Zl,Nat.reduceBEq,WPm,faddr_ptr,load_cells ho,Cel.g0,Cel.g1,Cel.g2,Cel.g3,Cel.g4,cell_load ho]
  generalize hq : (signsL.contains c.s && (c.n == 2)) = q at hok fin
  cases q
  ·simp -dsimp only [↓WPd,↓Zm,↓Zn,WPu,Za,Zb,Zc,Zd,Ze,Zf,Zg,Zh,Nat.reduceEqDiff,Nat.reduceLT,Zi,Zj,Zk,Zl,Nat.reduceBEq,WPm,hok,Bool.false_or,Bool.false_and]
   exact g0
  ·simp -dsimp only [↓WPd,↓Zm,↓Zn,WPu,Za,Zb,Zc,Zd,Ze,Zf,Zg,Zh,Nat.reduceEqDiff,Nat.reduceLT,Zi,Zj,Zk,Zl,Nat.reduceBEq,WPm,Bool.false_or,faddr_ptr,load_cells ho,Cel.g0,Cel.g1,Cel.g2,Cel.g3,Cel.g4,cell_load ho,hf]
   refine calledW_of (fin _ _ g0 ho rfl rfl) ?_
   rintro v σ4 ⟨rfl,g4⟩
   simp -dsimp only [↓WPd,↓Zm,↓Zn,WPu,Za,Zb,Zc,Zd,Ze,Zf,Zg,Zh,Nat.reduceEqDiff,Nat.reduceLT,Zi,Zj,Zk,Zl,Nat.reduceBEq]
   exact g4
 ·simp -dsimp only [↓WPd,↓Zm,↓Zn,WPu,Za,Zb,Zc,Zd,Ze,Zf,Zg,Zh,Nat.reduceEqDiff,Nat.reduceLT,Zi,Zj,Zk,Zl,Nat.reduceBEq,WPm,Bool.true_or,faddr_ptr,load_cells ho,Cel.g0,Cel.g1,Cel.g2,Cel.g3,Cel.g4,cell_load ho,hf]
  refine calledW_of (fin _ _ g0 ho rfl rfl) ?_
  rintro v σ4 ⟨rfl,g4⟩
  simp -dsimp only [↓WPd,↓Zm,↓Zn,WPu,Za,Zb,Zc,Zd,Ze,Zf,Zg,Zh,Nat.reduceEqDiff,Nat.reduceLT,Zi,Zj,Zk,Zl,Nat.reduceBEq]
  exact g4
end
def ruleF (k : Nat) : FuncId := if k = 1 then 164 else if k = 2 then 166 else if k = 3 then 168 else if k = 4 then 170 else 171
def rulesL : List AVal := [.nilfunc,.func 164 [] [],.func 166 [] [],.func 168 [] [],.func 170 [] []]
section
variable (d : Nat) (σ : Store)
theorem rule_ok (k : Nat) (hk8 : k < 256) : Called CU.cfg d 130 [.int .u8 k] σ fun v σ' => v = .agg [.func (ruleF k) [] []] ∧ Grows σ σ' := by
 refine called_of (fn := CU.a130) rfl (Nat.le_of_ble_eq_true rfl) ?_
 simp only [CU.a130, CU.o]
 have b1 : ∀ f : FuncId,fillA [AVal.nilfunc] [(0,1,.func f [] [])] = some [.func f [] []] := fun f => rfl
 have b2 : ∀ a b c e : FuncId,fillA [AVal.nilfunc,.nilfunc,.nilfunc,.nilfunc,.nilfunc] [(1,1,.agg [.func a [] []]),(2,1,.agg [.func b [] []]),(3,1,.agg [.func c [] []]),(4,1,.agg [.func e [] []])] = some [.nilfunc,.func a [] [],.func b [] [],.func c [] [],.func e [] []] := fun a b c e => rfl
 have h5 : (σ ++ [AObj.cells [AVal.nilfunc]] ++ [AObj.cells [AVal.nilfunc,AVal.nilfunc,AVal.nilfunc,AVal.nilfunc,AVal.nilfunc]])[(σ ++ [AObj.cells [AVal.nilfunc]]).length]? = some (.cells [AVal.nilfunc,AVal.nilfunc,AVal.nilfunc,AVal.nilfunc,AVal.nilfunc]) := by simp
 have s5 := storeN_cells h5 (n := 5) rfl (cs' := rulesL) rfl rfl
 rw [set_last] at s5
 have s5' : storeV (σ ++ [AObj.cells [AVal.nilfunc]] ++ [AObj.cells [AVal.nilfunc,AVal.nilfunc,AVal.nilfunc,AVal.nilfunc,AVal.nilfunc]]) 5 (.ptr (σ ++ [AObj.cells [AVal.nilfunc]]).length 0) (.agg [.nilfunc,.func 164 [] [],.func 166 [] [],.func 168 [] [],.func 170 [] []]) = some (σ ++ [AObj.cells [AVal.nilfunc]] ++ [AObj.cells rulesL]) := s5
 have g0 : Grows σ (σ ++ [AObj.cells [AVal.nilfunc]] ++ [AObj.cells rulesL]) := (Grows.app _ _).trans (Grows.app _ _)
 have h1 : (σ ++ [AObj.cells [AVal.nilfunc]] ++ [AObj.cells rulesL])[σ.length]? = some (.cells [.nilfunc]) := by simp
 have h2 : (σ ++ [AObj.cells [AVal.nilfunc]] ++ [AObj.cells rulesL])[(σ ++ [AObj.cells [AVal.nilfunc]]).length]? = some (.cells rulesL) := by simp
 have cv : convV .i64 (.int .u8 (k : Int)) = some (.int .i64 (k : Int)) := by rw [convV_int,wrap_i64 (by omega) (by omega)]
 simp -dsimp only [↓WPd,↓Zm,↓Zn,WPu,Za,Zb,Zc,Zd,Ze,Zf,Zg,Zh,Nat.reduceEqDiff,Nat.reduceLT,Zi,Zj,Zk,Zl,Nat.reduceBEq,WPm,b1,b2,s5',cv]
 generalize (σ ++ [AObj.cells [AVal.nilfunc]]).length = i5 at *
 generalize σ ++ [AObj.cells [AVal.nilfunc]] ++ [AObj.cells rulesL] = σ1 at *
 have fin : ∀ f : FuncId,ruleF k = f → storeV σ1 1 (.ptr σ.length 0) (.agg [.func f [] []]) = some (σ1.set σ.length (.cells [.func f [] []])) ∧ loadV (σ1.set σ.length (.cells [.func f [] []])) 1 true (.ptr σ.length 0) = some (.agg [.func (ruleF k) [] []]) ∧ Grows σ (σ1.set σ.length (.cells [.func f [] []])) := by
  intro f hf
  refine ⟨storeN_cells h1 (n := 1) rfl rfl rfl,?_,?_⟩
  ·rw [hf]; exact loadN_cells (get_set h1) rfl
  ·exact Keeps.trans g0 (Keeps.set _ _ _) fun i hi e => by omega
 have key : (decide ((k : Int) < 1) || decide ((k : Int) ≥ 5)) = !(decide (1 ≤ k) && decide (k < 5)) := by
  rw [Bool.eq_iff_iff]; simp; omega
 rw [key]
 refine condP_intro (fun h => ?_) (fun h => ?_)
 ·have hk : ruleF k = 171 := by
   simp only [Bool.not_eq_true',Bool.and_eq_false_iff,decide_eq_false_iff_not] at h
   simp only [ruleF]
   rw [if_neg (by omega),if_neg (by omega),if_neg (by omega),if_neg (by omega)]
  obtain ⟨f1,f2,f3⟩ := fin _ hk
  simp -dsimp only [↓WPd,↓Zm,↓Zn,WPu,Za,Zb,Zc,Zd,Ze,Zf,Zg,Zh,Nat.reduceEqDiff,Nat.reduceLT,Zi,Zj,Zk,Zl,Nat.reduceBEq,b1,f1,f2]
  exact f3
 ·simp only [Bool.not_eq_false',Bool.and_eq_true,decide_eq_true_eq] at h
  have ha : aaddrV 5 1 (.ptr i5 0) (.int .u8 k) = some (.ptr i5 k) := by
   have e : (0 : Int) ≤ (k : Int) ∧ (k : Int) < 5 := by omega
   simp [aaddrV,e]
  have hl : loadV σ1 1 true (.ptr i5 k) = some (.agg [.func (ruleF k) [] []]) := by
   have : k = 1 ∨ k = 2 ∨ k = 3 ∨ k = 4 := by omega
   rcases this with rfl | rfl | rfl | rfl <;> simp [loadV,behind,h2,rulesL,ruleF]
  obtain ⟨f1,f2,f3⟩ := fin _ rfl
  simp -dsimp only [↓WPd,↓Zm,↓Zn,WPu,Za,Zb,Zc,Zd,Ze,Zf,Zg,Zh,Nat.reduceEqDiff,Nat.reduceLT,Zi,Zj,Zk,Zl,Nat.reduceBEq,ha,hl,f1,f2]
  exact f3
theorem law_ok (c : Cel) (hs : c.s.length < 2 ^ 40) : Called CU.cfg d (ruleF c.k) [c.val] σ fun v σ' => v = .bool c.ok ∧ Grows σ σ' := by
 have q : ∀ {j : Nat} {f : FuncId},c.k = j → ruleF c.k = f → Called CU.cfg d f [c.val] σ (fun v σ' => v = .bool (decide (c.k = j) && c.ok) ∧ Grows σ σ') → Called CU.cfg d (ruleF c.k) [c.val] σ fun v σ' => v = .bool c.ok ∧ Grows σ σ' := by
  intro j f hj hf h
  rw [hf]
  refine h.mono ?_
  rintro v σ' ⟨rfl,g⟩
  rw [hj,decide_eq_true rfl,Bool.true_and]
  exact ⟨rfl,g⟩
 by_cases h1 : c.k = 1
 ·exact q h1 (by simp [ruleF,h1]) (rule1_ok d σ c)
 by_cases h2 : c.k = 2
 ·exact q h2 (by simp [ruleF,h2]) (rule2_ok d σ c hs)
 by_cases h3 : c.k = 3
 ·exact q h3 (by simp [ruleF,h3]) (rule3_ok d σ c hs)
 by_cases h4 : c.k = 4
 ·exact q h4 (by simp [ruleF,h4]) (rule4_ok d σ c)
 have e1 : ruleF c.k = 171 := by simp [ruleF,h1,h2,h3,h4]
 have e2 : c.ok = false := by simp [Cel.ok,h1,h2,h3,h4]
 rw [e1,e2]
 exact rule5_ok d σ c
theorem wrong_ok (c : Cel) (hk8 : c.k < 256) (hs : c.s.length < 2 ^ 40) : Called CU.cfg d 160 [c.val] σ fun v σ' => v = .bool (!c.ok) ∧ Grows σ σ' := by
 refine called_of (fn := CU.a160) rfl (Nat.le_of_ble_eq_true rfl) ?_
 simp only [CU.a160, CU.o]
 simp -dsimp only [↓WPd,↓Zm,↓Zn,WPu,Za,Zb,Zc,Zd,Ze,Zf,Zg,Zh,Nat.reduceEqDiff,Nat.reduceLT,Zi,Zj,Zk,Zl,Nat.reduceBEq,Cel.cells,Cel.one]
 have ho : (σ ++ [AObj.cells c.cs])[σ.length]? = some (.cells c.cs) := by simp
 have g0 : Grows σ (σ ++ [AObj.cells c.cs]) := Grows.app _ _
 generalize σ ++ [AObj.cells c.cs] = σ1 at ho g0
 refine drawnP_of rfl ?_
 simp -dsimp only [↓WPd,↓Zm,↓Zn,WPu,Za,Zb,Zc,Zd,Ze,Zf,Zg,Zh,Nat.reduceEqDiff,Nat.reduceLT,Zi,Zj,Zk,Zl,Nat.reduceBEq,↓WPed,WPeu,Nat.reduceAdd,and_self,faddr_ptr,load_cells ho,Cel.g0]
 refine calledW_of (rule_ok d σ1 c.k hk8) ?_
 rintro v σ2 ⟨rfl,g1⟩
 have ho2 := g1.get ho
 have fv : ∀ f : FuncId,fieldV 0 1 false (.agg [.func f [] []]) = some (.func f [] []) := fun f => rfl
 simp -dsimp only [↓WPd,↓Zm,↓Zn,WPu,Za,Zb,Zc,Zd,Ze,Zf,Zg,Zh,Nat.reduceEqDiff,Nat.reduceLT,Zi,Zj,Zk,Zl,Nat.reduceBEq,↓WPed,WPeu,Nat.reduceAdd,and_self,fv,cell_load ho,cell_load ho2]
 refine calledW_of (law_ok d σ2 c hs) ?_
 rintro v σ3 ⟨rfl,g3⟩
 simp -dsimp only [↓WPd,↓Zm,↓Zn,WPu,Za,Zb,Zc,Zd,Ze,Zf,Zg,Zh,Nat.reduceEqDiff,Nat.reduceLT,Zi,Zj,Zk,Zl,Nat.reduceBEq,↓WPed,WPeu,Nat.reduceAdd,and_self]
 exact (g0.trans g1).trans g3
theorem cel_get (t : List Cel) (i : Nat) (h : i < (t.map Cel.val).length) : (t.map Cel.val)[i] = (t[i]'(by simpa using h)).val := by simp
theorem cindex_ok (f : FuncId) (p : Cel → Bool) (l : AVal) (t : List Cel) (hx : t.length < 2 ^ 40) (hl : SlOf σ 5 l (t.map Cel.val)) (hf : ∀ (c : Cel) (σ' : Store),c ∈ t → Called CU.cfg d f [c.val] σ' fun v σ'' => v = .bool (p c) ∧ Grows σ' σ'') :
  Called CU.cfg d 161 [l,.func f [] []] σ fun v σ' => (∃ i : Int,v = .int .i64 i ∧ (decide (0 ≤ i)) = t.any p) ∧ Grows σ σ' := by
 refine called_of (fn := CU.a161) rfl (Nat.le_of_ble_eq_true rfl) ?_
 have ll := hl.len
 rw [List.length_map] at ll
 simp only [CU.a161, CU.o]
 simp -dsimp only [↓WPd,↓Zm,↓Zn,WPu,Za,Zb,Zc,Zd,Ze,Zf,Zg,Zh,Nat.reduceEqDiff,Nat.reduceLT,Zi,Zj,Zk,Zl,Nat.reduceBEq,ll]
 refine loop_rule2 (fun m vs σ' => ∃ k,k ≤ t.length ∧ m = t.length - k ∧ vs = [l,.func f [] [],.int .i64 t.length,.int .i64 k] ∧ Grows σ σ' ∧ ∀ (j : Nat) (hj : j < t.length),j < k → p t[j] = false) [4]
  (fun e vs σ' => Grows σ σ' ∧ ((e = .exit 0 ∧ t.any p = false) ∨ (e = .ret ∧ t.any p = true ∧ ∃ k : Nat,vs = [.int .i64 k]))) t.length ⟨0,Nat.zero_le _,rfl,?_,Keeps.refl _ _,fun j _ h => by omega⟩ ?_ ?_
 ·simp -dsimp only [↓WPd,↓Zm,↓Zn,WPu,Za,Zb,Zc,Zd,Ze,Zf,Zg,Zh,Nat.reduceEqDiff,Nat.reduceLT,Zi,Zj,Zk,Zl,Nat.reduceBEq]; rfl
 ·rintro m vs σ' ⟨k,hk,rfl,rfl,g,hall⟩
  simp -dsimp only [↓WPd,↓Zm,↓Zn,WPu,Za,Zb,Zc,Zd,Ze,Zf,Zg,Zh,Nat.reduceEqDiff,Nat.reduceLT,Zi,Zj,Zk,Zl,Nat.reduceBEq]
  refine condP_dec (fun h => ?_) (fun h => ?_)
  ·have hk' : k < t.length := by omega
   have hi : k < (t.map Cel.val).length := by rw [List.length_map]; exact hk'
   have hl' := hl.grow g
   have ha := hl'.loadA hi (cs := (t[k]).cs) (by rw [cel_get]; rfl)
   have ha5 : loadV σ' 5 true (addrOf 5 l k) = some (t[k]).val := ha
   simp -dsimp only [↓WPd,↓Zm,↓Zn,WPu,Za,Zb,Zc,Zd,Ze,Zf,Zg,Zh,Nat.reduceEqDiff,Nat.reduceLT,Zi,Zj,Zk,Zl,Nat.reduceBEq,hl'.iaddr hi,ha5]
   refine calledW_of (hf t[k] σ' (List.getElem_mem _)) ?_
   rintro v σ'' ⟨rfl,g2⟩
   simp -dsimp only [↓WPd,↓Zm,↓Zn,WPu,Za,Zb,Zc,Zd,Ze,Zf,Zg,Zh,Nat.reduceEqDiff,Nat.reduceLT,Zi,Zj,Zk,Zl,Nat.reduceBEq]
   refine condP_intro (fun h => ?_) (fun h => ?_)
   ·simp -dsimp only [↓WPd,↓Zm,↓Zn,WPu,Za,Zb,Zc,Zd,Ze,Zf,Zg,Zh,Nat.reduceEqDiff,Nat.reduceLT,Zi,Zj,Zk,Zl,Nat.reduceBEq]
    exact ⟨g.trans g2,.inr ⟨by rw [List.any_eq_true]; exact ⟨_,List.getElem_mem _,h⟩,k,rfl⟩⟩
   ·simp -dsimp only [↓WPd,↓Zm,↓Zn,WPu,Za,Zb,Zc,Zd,Ze,Zf,Zg,Zh,Nat.reduceEqDiff,Nat.reduceLT,Zi,Zj,Zk,Zl,Nat.reduceBEq]
    refine ⟨t.length - (k + 1),by omega,k + 1,by omega,rfl,by rw [wrap_i64 (by omega) (by omega),Int.natCast_add,Int.natCast_one],g.trans g2,fun j hj hjk => ?_⟩
    by_cases e : j = k
    ·subst e; exact h
    ·exact hall j hj (by omega)
  ·simp -dsimp only [↓WPd,↓Zm,↓Zn,WPu,Za,Zb,Zc,Zd,Ze,Zf,Zg,Zh,Nat.reduceEqDiff,Nat.reduceLT,Zi,Zj,Zk,Zl,Nat.reduceBEq]
   refine ⟨g,.inl ?_⟩
   rw [List.any_eq_false]
   intro x hx
   obtain ⟨j,hj,rfl⟩ := List.getElem_of_mem hx
   rw [hall j hj (by omega)]; simp
 ·rintro e σ' env ⟨g,⟨rfl,hno⟩ | ⟨rfl,hyes,k,hv⟩⟩
  ·simp -dsimp only [↓WPd,↓Zm,↓Zn,WPu,Za,Zb,Zc,Zd,Ze,Zf,Zg,Zh,Nat.reduceEqDiff,Nat.reduceLT,Zi,Zj,Zk,Zl,Nat.reduceBEq]
   exact ⟨⟨_,rfl,by rw [hno]; rfl⟩,g⟩
  ·simp only [List.map_cons,List.map_nil,List.cons.injEq,and_true] at hv
   simp -dsimp only [↓WPd,↓Zm,↓Zn,WPu,Za,Zb,Zc,Zd,Ze,Zf,Zg,Zh,Nat.reduceEqDiff,Nat.reduceLT,Zi,Zj,Zk,Zl,Nat.reduceBEq,hv]
   exact ⟨⟨_,rfl,by rw [hyes]; simp⟩,g⟩
theorem ccontains_ok (f : FuncId) (p : Cel → Bool) (l : AVal) (t : List Cel) (hx : t.length < 2 ^ 40) (hl : SlOf σ 5 l (t.map Cel.val)) (hf : ∀ (c : Cel) (σ' : Store),c ∈ t → Called CU.cfg d f [c.val] σ' fun v σ'' => v = .bool (p c) ∧ Grows σ' σ'') :
  Called CU.cfg d 126 [l,.func f [] []] σ fun v σ' => v = .bool (t.any p) ∧ Grows σ σ' := by
 refine called_of (fn := CU.a126) rfl (Nat.le_of_ble_eq_true rfl) ?_
 simp only [CU.a126, CU.o]
 simp -dsimp only [↓WPd,↓Zm,↓Zn,WPu,Za,Zb,Zc,Zd,Ze,Zf,Zg,Zh,Nat.reduceEqDiff,Nat.reduceLT,Zi,Zj,Zk,Zl,Nat.reduceBEq]
 refine calledW_of (cindex_ok d σ f p l t hx hl hf) ?_
 rintro v σ1 ⟨⟨i,rfl,hi⟩,g⟩
 simp -dsimp only [↓WPd,↓Zm,↓Zn,WPu,Za,Zb,Zc,Zd,Ze,Zf,Zg,Zh,Nat.reduceEqDiff,Nat.reduceLT,Zi,Zj,Zk,Zl,Nat.reduceBEq]
 have : decide (i ≥ 0) = t.any p := hi
 rw [this]
 exact ⟨rfl,g⟩
end
def endT (t : List Cel) (a : Nat) : Nat := if a < t.length then endAt t.length (t.drop a) 1 a else 0
theorem endAt_get {L : Nat} {t : List Cel} {a o : Nat} (h : a < t.length) : endAt L (t.drop a) (o + 1) a = if L < (t[a]).parts then 0 else endAt L (t.drop (a + 1)) (o + (t[a]).parts) (a + 1) := by
 rw [List.drop_eq_getElem_cons h,endAt_cons]
theorem endAt_out {L : Nat} {t : List Cel} {a o : Nat} (h : t.length ≤ a) : endAt L (t.drop a) (o + 1) a = 0 := by
 rw [List.drop_eq_nil_of_le h,endAt_nil]
section
variable (d : Nat) (σ : Store)
theorem parts_ok (c : Cel) : Called CU.cfg d 163 [c.val] σ fun v σ' => v = .int .i64 (c.parts : Int) ∧ Grows σ σ' := by
 refine called_of (fn := CU.a163) rfl (Nat.le_of_ble_eq_true rfl) ?_
 simp only [CU.a163, CU.o]
 simp -dsimp only [↓WPd,↓Zm,↓Zn,WPu,Za,Zb,Zc,Zd,Ze,Zf,Zg,Zh,Nat.reduceEqDiff,Nat.reduceLT,Zi,Zj,Zk,Zl,Nat.reduceBEq,Cel.cells,Cel.one]
 have ho : (σ ++ [AObj.cells c.cs])[σ.length]? = some (.cells c.cs) := by simp
 have g0 : Grows σ (σ ++ [AObj.cells c.cs]) := Grows.app _ _
 generalize σ ++ [AObj.cells c.cs] = σ1 at ho g0
 have hm : foldV maxV (.int .i64 c.n) [.int .i64 0] = some (.int .i64 (c.n.toNat : Int)) := by
  by_cases h : c.n < 0
  ·simp [foldV,maxV]; omega
  ·simp [foldV,maxV]; omega
 have key : ((c.k : Int) != 3) = !decide (c.k = 3) := by
  by_cases h : c.k = 3 <;> simp [h,bne] <;> omega
 simp -dsimp only [↓WPd,↓Zm,↓Zn,WPu,Za,Zb,Zc,Zd,Ze,Zf,Zg,Zh,Nat.reduceEqDiff,Nat.reduceLT,Zi,Zj,Zk,Zl,Nat.reduceBEq,WPm,faddr_ptr,load_cells ho,Cel.g0,Cel.g2,key]
 refine condP_intro (fun h => ?_) (fun h => ?_)
 ·have : c.parts = 0 := by simp only [Bool.not_eq_true',decide_eq_false_iff_not] at h; simp [Cel.parts,h]
  simp -dsimp only [↓WPd,↓Zm,↓Zn,WPu,Za,Zb,Zc,Zd,Ze,Zf,Zg,Zh,Nat.reduceEqDiff,Nat.reduceLT,Zi,Zj,Zk,Zl,Nat.reduceBEq,this]
  exact ⟨rfl,g0⟩
 ·have : c.parts = c.n.toNat := by simp only [Bool.not_eq_false',decide_eq_true_eq] at h; simp [Cel.parts,h]
  simp -dsimp only [↓WPd,↓Zm,↓Zn,WPu,Za,Zb,Zc,Zd,Ze,Zf,Zg,Zh,Nat.reduceEqDiff,Nat.reduceLT,Zi,Zj,Zk,Zl,Nat.reduceBEq,faddr_ptr,load_cells ho,Cel.g0,Cel.g2,this,hm]
  exact g0
theorem end_ok (l : AVal) (t : List Cel) (a : Nat) (hx : t.length < 2 ^ 30) (hl : SlOf σ 5 l (t.map Cel.val)) : Called CU.cfg d 129 [l,.int .i64 a] σ fun v σ' => v = .int .i64 (endT t a : Int) ∧ Grows σ σ' := by
 refine called_of (fn := CU.a129) rfl (Nat.le_of_ble_eq_true rfl) ?_
 have ll := hl.len
 rw [List.length_map] at ll
 simp only [CU.a129, CU.o]
 have w0 : lenSV l = some t.length := ll
 simp -dsimp only [↓WPd,↓Zm,↓Zn,WPu,Za,Zb,Zc,Zd,Ze,Zf,Zg,Zh,Nat.reduceEqDiff,Nat.reduceLT,Zi,Zj,Zk,Zl,Nat.reduceBEq,WPm,ll]
 have key : (decide ((a : Int) < 0) || decide ((a : Int) ≥ (t.length : Int))) = !decide (a < t.length) := by
  rw [Bool.eq_iff_iff]; simp; omega
 rw [key]
 refine condP_intro (fun h => ?_) (fun h => ?_)
 ·have : endT t a = 0 := by simp only [Bool.not_eq_true',decide_eq_false_iff_not] at h; simp [endT,h]
  simp -dsimp only [↓WPd,↓Zm,↓Zn,WPu,Za,Zb,Zc,Zd,Ze,Zf,Zg,Zh,Nat.reduceEqDiff,Nat.reduceLT,Zi,Zj,Zk,Zl,Nat.reduceBEq,this]
  exact ⟨rfl,Keeps.refl _ _⟩
 ·simp only [Bool.not_eq_false',decide_eq_true_eq] at h
  have hend : endT t a = endAt t.length (t.drop a) 1 a := by simp [endT,h]
  simp -dsimp only [↓WPd,↓Zm,↓Zn,WPu,Za,Zb,Zc,Zd,Ze,Zf,Zg,Zh,Nat.reduceEqDiff,Nat.reduceLT,Zi,Zj,Zk,Zl,Nat.reduceBEq]
  refine loop_rule2 (fun m vs σ' => ∃ k o : Nat,k ≤ t.length ∧ m = t.length + 1 - k ∧ vs = [l,.int .i64 k,.int .i64 o] ∧ Grows σ σ' ∧ endAt t.length (t.drop k) o k = endT t a ∧ o ≤ 1 + k * t.length ∧ 0 < k + o) [1,4]
   (fun e vs σ' => Grows σ σ' ∧ ((e = .exit 0 ∧ ∃ x,vs = [.int .i64 (endT t a : Int),x]) ∨ (e = .ret ∧ (∃ x,vs = [x,.int .i64 (endT t a : Int)])))) (t.length + 1 - a) ⟨a,1,by omega,rfl,?_,Keeps.refl _ _,hend.symm,by omega,by omega⟩ ?_ ?_
  ·simp -dsimp only [↓WPd,↓Zm,↓Zn,WPu,Za,Zb,Zc,Zd,Ze,Zf,Zg,Zh,Nat.reduceEqDiff,Nat.reduceLT,Zi,Zj,Zk,Zl,Nat.reduceBEq]; rfl
  ·rintro m vs σ' ⟨k,o,hk,rfl,rfl,g,he,ho,hko⟩
   have hmul : k * t.length ≤ 2 ^ 60 := by
    calc k * t.length ≤ 2 ^ 30 * 2 ^ 30 := Nat.mul_le_mul (by omega) (by omega)
     _ = 2 ^ 60 := by decide
   simp -dsimp only [↓WPd,↓Zm,↓Zn,WPu,Za,Zb,Zc,Zd,Ze,Zf,Zg,Zh,Nat.reduceEqDiff,Nat.reduceLT,Zi,Zj,Zk,Zl,Nat.reduceBEq]
   refine condP_dec (fun h => ?_) (fun h => ?_)
   ·obtain ⟨o,rfl⟩ : ∃ o',o = o' + 1 := ⟨o - 1,by omega⟩
    have ke : ((k : Int) == (t.length : Int)) = decide (k = t.length) := by
     by_cases h : k = t.length <;> simp [h] <;> omega
    have ll' := (hl.grow g).len
    rw [List.length_map] at ll'
    simp -dsimp only [↓WPd,↓Zm,↓Zn,WPu,Za,Zb,Zc,Zd,Ze,Zf,Zg,Zh,Nat.reduceEqDiff,Nat.reduceLT,Zi,Zj,Zk,Zl,Nat.reduceBEq,ll',ke]
    by_cases hkl : k = t.length
    ·have hz : endT t a = 0 := by rw [← he,endAt_out (by omega)]
     simp -dsimp only [↓WPd,↓Zm,↓Zn,WPu,Za,Zb,Zc,Zd,Ze,Zf,Zg,Zh,Nat.reduceEqDiff,Nat.reduceLT,Zi,Zj,Zk,Zl,Nat.reduceBEq,WPm,decide_eq_true hkl]
     exact ⟨g,.inr ⟨_,by rw [hz]; rfl⟩⟩
    ·have hk' : k < t.length := by omega
     have hi : k < (t.map Cel.val).length := by rw [List.length_map]; exact hk'
     have hl' := hl.grow g
     have ha5 : loadV σ' 5 true (addrOf 5 l k) = some (t[k]).val := hl'.loadA hi (cs := (t[k]).cs) (by rw [cel_get]; rfl)
     simp -dsimp only [↓WPd,↓Zm,↓Zn,WPu,Za,Zb,Zc,Zd,Ze,Zf,Zg,Zh,Nat.reduceEqDiff,Nat.reduceLT,Zi,Zj,Zk,Zl,Nat.reduceBEq,decide_eq_false hkl,hl'.iaddr hi,ha5]
     refine calledW_of (parts_ok d σ' t[k]) ?_
     rintro v σ2 ⟨rfl,g2⟩
     have ll2 := (hl'.grow g2).len
     rw [List.length_map] at ll2
     have hl2 := hl'.grow g2
     have ha2 : loadV σ2 5 true (addrOf 5 l k) = some (t[k]).val := hl2.loadA hi (cs := (t[k]).cs) (by rw [cel_get]; rfl)
     simp -dsimp only [↓WPd,↓Zm,↓Zn,WPu,Za,Zb,Zc,Zd,Ze,Zf,Zg,Zh,Nat.reduceEqDiff,Nat.reduceLT,Zi,Zj,Zk,Zl,Nat.reduceBEq,ll2]
     rw [endAt_get hk'] at he
     refine condP_dec (fun h2 => ?_) (fun h2 => ?_)
     ·rw [if_pos (by omega)] at he
      simp -dsimp only [↓WPd,↓Zm,↓Zn,WPu,Za,Zb,Zc,Zd,Ze,Zf,Zg,Zh,Nat.reduceEqDiff,Nat.reduceLT,Zi,Zj,Zk,Zl,Nat.reduceBEq]
      exact ⟨g.trans g2,.inr ⟨_,by rw [← he]; rfl⟩⟩
     ·rw [if_neg (by omega)] at he
      simp -dsimp only [↓WPd,↓Zm,↓Zn,WPu,Za,Zb,Zc,Zd,Ze,Zf,Zg,Zh,Nat.reduceEqDiff,Nat.reduceLT,Zi,Zj,Zk,Zl,Nat.reduceBEq,hl2.iaddr hi,ha2]
      refine calledW_of (parts_ok d σ2 t[k]) ?_
      rintro v σ3 ⟨rfl,g3⟩
      have hp : (t[k]).parts ≤ t.length := by omega
      have hm2 : (k + 1) * t.length = k * t.length + t.length := by rw [Nat.add_mul,Nat.one_mul]
      have w1 : IntKind.i64.wrap (((t[k]).parts : Int) - 1) = ((t[k]).parts : Int) - 1 := wrap_i64 (by omega) (by omega)
      have w2 : IntKind.i64.wrap (((o + 1 : Nat) : Int) + (((t[k]).parts : Int) - 1)) = ((o + (t[k]).parts : Nat) : Int) := by rw [wrap_i64 (by omega) (by omega)]; omega
      have w3 : IntKind.i64.wrap ((k : Int) + 1) = ((k + 1 : Nat) : Int) := by rw [wrap_i64 (by omega) (by omega)]; omega
      simp -dsimp only [↓WPd,↓Zm,↓Zn,WPu,Za,Zb,Zc,Zd,Ze,Zf,Zg,Zh,Nat.reduceEqDiff,Nat.reduceLT,Zi,Zj,Zk,Zl,Nat.reduceBEq,w1,w2,w3]
      exact ⟨t.length + 1 - (k + 1),by omega,k + 1,o + (t[k]).parts,by omega,rfl,rfl,(g.trans g2).trans g3,he,by omega,by omega⟩
   ·have : o = 0 := by omega
    subst this
    rw [endAt_zero] at he
    simp -dsimp only [↓WPd,↓Zm,↓Zn,WPu,Za,Zb,Zc,Zd,Ze,Zf,Zg,Zh,Nat.reduceEqDiff,Nat.reduceLT,Zi,Zj,Zk,Zl,Nat.reduceBEq]
    exact ⟨g,.inl ⟨_,by rw [← he]⟩⟩
  ·rintro e σ' env ⟨g,⟨rfl,x,hv⟩ | ⟨rfl,x,hv⟩⟩
   ·simp only [List.map_cons,List.map_nil,List.cons.injEq,and_true] at hv
    simp -dsimp only [↓WPd,↓Zm,↓Zn,WPu,Za,Zb,Zc,Zd,Ze,Zf,Zg,Zh,Nat.reduceEqDiff,Nat.reduceLT,Zi,Zj,Zk,Zl,Nat.reduceBEq,hv]
    exact g
   ·simp only [List.map_cons,List.map_nil,List.cons.injEq,and_true] at hv
    simp -dsimp only [↓WPd,↓Zm,↓Zn,WPu,Za,Zb,Zc,Zd,Ze,Zf,Zg,Zh,Nat.reduceEqDiff,Nat.reduceLT,Zi,Zj,Zk,Zl,Nat.reduceBEq,hv]
    exact g
theorem endT_zero {t : List Cel} (h : t ≠ []) : endT t 0 = endAt t.length t 1 0 := by
 have := List.length_pos_iff.2 h
 simp [endT,this]
theorem right_eq (t : List Cel) : right t = (!(decide (t.length = 0) || decide (256 < t.length) || decide (endT t 0 ≠ t.length)) && !(t.any fun c => !c.ok)) := by
 cases t with
 | nil => rfl
 | cons c r =>
  rw [endT_zero (by simp),Bool.eq_iff_iff]
  simp [right]
  first
   | done
   | (intros; omega)
   | (constructor <;> intro h <;> simp_all <;> omega)
theorem right_ok (l : AVal) (t : List Cel) (hx : t.length < 2 ^ 30) (hi : ∀ c ∈ t,c.k < 256 ∧ c.s.length < 2 ^ 40) (hl : SlOf σ 5 l (t.map Cel.val)) : Called CU.cfg d 125 [l] σ fun v σ' => v = .bool (right t) ∧ Grows σ σ' := by
 refine called_of (fn := CU.a125) rfl (Nat.le_of_ble_eq_true rfl) ?_
 have ll := hl.len
 rw [List.length_map] at ll
 simp only [CU.a125, CU.o]
 have k0 : ((t.length : Int) == 0) = decide (t.length = 0) := by by_cases h : t.length = 0 <;> simp [h]
 have k1 : decide ((t.length : Int) > 256) = decide (256 < t.length) := decide_eq_decide.2 (by omega)
 simp -dsimp only [↓WPd,↓Zm,↓Zn,WPu,Za,Zb,Zc,Zd,Ze,Zf,Zg,Zh,Nat.reduceEqDiff,Nat.reduceLT,Zi,Zj,Zk,Zl,Nat.reduceBEq,WPm,ll,k0,k1]
 rw [right_eq]
 generalize hb : (decide (t.length = 0) || decide (256 < t.length)) = b
 cases b
 ·simp -dsimp only [↓WPd,↓Zm,↓Zn,WPu,Za,Zb,Zc,Zd,Ze,Zf,Zg,Zh,Nat.reduceEqDiff,Nat.reduceLT,Zi,Zj,Zk,Zl,Nat.reduceBEq,WPm]
  refine calledW_of (end_ok d σ l t 0 hx hl) ?_
  rintro v σ1 ⟨rfl,g⟩
  have hl1 := hl.grow g
  have ll1 := hl1.len
  rw [List.length_map] at ll1
  have k2 : (((endT t 0 : Nat) : Int) != (t.length : Int)) = decide (endT t 0 ≠ t.length) := by by_cases h : endT t 0 = t.length <;> simp [h,bne] <;> omega
  simp -dsimp only [↓WPd,↓Zm,↓Zn,WPu,Za,Zb,Zc,Zd,Ze,Zf,Zg,Zh,Nat.reduceEqDiff,Nat.reduceLT,Zi,Zj,Zk,Zl,Nat.reduceBEq,WPm,ll1,k2]
  generalize hq : decide (endT t 0 ≠ t.length) = q
  cases q
  ·simp -dsimp only [↓WPd,↓Zm,↓Zn,WPu,Za,Zb,Zc,Zd,Ze,Zf,Zg,Zh,Nat.reduceEqDiff,Nat.reduceLT,Zi,Zj,Zk,Zl,Nat.reduceBEq,WPm]
   refine calledW_of (ccontains_ok d σ1 _ (fun c => !c.ok) l t (by omega) hl1 fun c σ' hc => wrong_ok d σ' c (hi c hc).1 (hi c hc).2) ?_
   rintro v σ2 ⟨rfl,g2⟩
   simp -dsimp only [↓WPd,↓Zm,↓Zn,WPu,Za,Zb,Zc,Zd,Ze,Zf,Zg,Zh,Nat.reduceEqDiff,Nat.reduceLT,Zi,Zj,Zk,Zl,Nat.reduceBEq,WPm,Bool.or_false,Bool.true_and]
   exact g.trans g2
  ·simp -dsimp only [↓WPd,↓Zm,↓Zn,WPu,Za,Zb,Zc,Zd,Ze,Zf,Zg,Zh,Nat.reduceEqDiff,Nat.reduceLT,Zi,Zj,Zk,Zl,Nat.reduceBEq,WPm,Bool.or_true,Bool.false_and]
   exact g
 ·simp -dsimp only [↓WPd,↓Zm,↓Zn,WPu,Za,Zb,Zc,Zd,Ze,Zf,Zg,Zh,Nat.reduceEqDiff,Nat.reduceLT,Zi,Zj,Zk,Zl,Nat.reduceBEq,WPm,Bool.true_or,Bool.false_and]
  exact Keeps.refl _ _
end
section
variable (d : Nat) (σ : Store)
theorem int_beq (a b : Int) : (a == b) = decide (a = b) := by by_cases h : a = b <;> simp [h]
theorem nil_text (s : List UInt8) : sopV .eql (.str s) (.str []) = some (.bool (decide (s = []))) := by cases s <;> simp [sopV]
set_option maxHeartbeats 1000000 in
theorem cell_ok (c : Cel) : Called CU.cfg d 135 [c.val] σ fun v σ' => v = .bool c.ok ∧ Grows σ σ' := by
 refine called_of (fn := CU.a135) rfl (Nat.le_of_ble_eq_true rfl) ?_
 simp only [CU.a135, CU.o]
 simp -dsimp only [↓WPd,↓Zm,↓Zn,WPu,Za,Zb,Zc,Zd,Ze,Zf,Zg,Zh,Nat.reduceEqDiff,Nat.reduceLT,Zi,Zj,Zk,Zl,Nat.reduceBEq,Cel.cells,Cel.one]
 have ho : (σ ++ [AObj.cells c.cs])[σ.length]? = some (.cells c.cs) := by simp
 have g0 : Grows σ (σ ++ [AObj.cells c.cs]) := Grows.app _ _
 generalize σ ++ [AObj.cells c.cs] = σ1 at ho g0
 have l2 : loadV σ1 2 true (.ptr σ.length 3) = some (.agg [.int .i64 c.v.1,.int .i64 c.v.2]) := by simp [loadV,behind,ho,Cel.cs]
 have hz : fillA [AVal.int IntKind.i64 0,AVal.int IntKind.i64 0] [] = some [.int .i64 0,.int .i64 0] := rfl
 have he : eqsV [.i,.i] (.agg [.int .i64 c.v.1,.int .i64 c.v.2]) (.agg [.int .i64 0,.int .i64 0]) = some (decide (c.v = (0,0))) := by
  simp [eqsV,cellsEq]
  rw [Bool.eq_iff_iff]
  simp
  constructor
  ·intro h; exact Prod.ext h.1 h.2
  ·intro h; rw [h]; exact ⟨rfl,rfl⟩
 have kq : ∀ j : Nat,((c.k : Int) == (j : Int)) = decide (c.k = j) := by
  intro j
  by_cases h : c.k = j <;> simp [h] <;> omega
 have k1 : ((c.k : Int) == 1) = decide (c.k = 1) := kq 1
 have k2 : ((c.k : Int) == 2) = decide (c.k = 2) := kq 2
 have k3 : ((c.k : Int) == 3) = decide (c.k = 3) := kq 3
 have k4 : ((c.k : Int) == 4) = decide (c.k = 4) := kq 4
 simp -dsimp only [↓WPd,↓Zm,↓Zn,WPu,Za,Zb,Zc,Zd,Ze,Zf,Zg,Zh,Nat.reduceEqDiff,Nat.reduceLT,Zi,Zj,Zk,Zl,Nat.reduceBEq,WPm,faddr_ptr,Nat.reduceAdd,Nat.add_zero,load_cells ho,Cel.g0,Cel.g1,Cel.g2,Cel.g3,Cel.g4,l2,hz,he,k1]
 refine condP_dec (fun h1 => ?_) (fun h1 => ?_)
 ·have hok : c.ok = (decide (c.s = []) && decide (c.v = (0,0)) && decide (c.n ≥ -2147483648) && decide (c.n ≤ 2147483648)) := by simp [Cel.ok,h1]
  simp -dsimp only [↓WPd,↓Zm,↓Zn,WPu,Za,Zb,Zc,Zd,Ze,Zf,Zg,Zh,Nat.reduceEqDiff,Nat.reduceLT,Zi,Zj,Zk,Zl,Nat.reduceBEq,WPm,faddr_ptr,Nat.reduceAdd,Nat.add_zero,load_cells ho,Cel.g0,Cel.g1,Cel.g2,Cel.g3,Cel.g4,nil_text]
  rw [hok]
  exact ⟨rfl,g0⟩
 simp -dsimp only [↓WPd,↓Zm,↓Zn,WPu,Za,Zb,Zc,Zd,Ze,Zf,Zg,Zh,Nat.reduceEqDiff,Nat.reduceLT,Zi,Zj,Zk,Zl,Nat.reduceBEq,k2]
 refine condP_dec (fun h2 => ?_) (fun h2 => ?_)
 ·have hok : c.ok = (isName c.s && decide (c.v = (0,0)) && (c.n == 0)) := by simp [Cel.ok,h2,int_beq]
  simp -dsimp only [↓WPd,↓Zm,↓Zn,WPu,Za,Zb,Zc,Zd,Ze,Zf,Zg,Zh,Nat.reduceEqDiff,Nat.reduceLT,Zi,Zj,Zk,Zl,Nat.reduceBEq,WPm,faddr_ptr,load_cells ho,Cel.g0,Cel.g1,Cel.g2,Cel.g3,Cel.g4,nil_text]
  refine calledW_of (risname_ok d σ1 c.s) ?_
  rintro v σ2 ⟨rfl,rfl⟩
  simp -dsimp only [↓WPd,↓Zm,↓Zn,WPu,Za,Zb,Zc,Zd,Ze,Zf,Zg,Zh,Nat.reduceEqDiff,Nat.reduceLT,Zi,Zj,Zk,Zl,Nat.reduceBEq,WPm,faddr_ptr,load_cells ho,Cel.g0,Cel.g1,Cel.g2,Cel.g3,Cel.g4,nil_text]
  rw [hok]
  exact ⟨rfl,g0⟩
 simp -dsimp only [↓WPd,↓Zm,↓Zn,WPu,Za,Zb,Zc,Zd,Ze,Zf,Zg,Zh,Nat.reduceEqDiff,Nat.reduceLT,Zi,Zj,Zk,Zl,Nat.reduceBEq,k3]
 refine condP_dec (fun h3 => ?_) (fun h3 => ?_)
 ·have hok : c.ok = (decide (c.v = (0,0)) && ((isName c.s && decide (c.n ≥ 1) && decide (c.n ≤ 8)) || (signsL.contains c.s && (c.n == 2)))) := by simp [Cel.ok,h3,int_beq]
  rw [hok]
  generalize hb : decide (c.v = (0,0)) = b at *
  cases b
  ·simp -dsimp only [↓WPd,↓Zm,↓Zn,WPu,Za,Zb,Zc,Zd,Ze,Zf,Zg,Zh,Nat.reduceEqDiff,Nat.reduceLT,Zi,Zj,Zk,Zl,Nat.reduceBEq,WPm,Bool.false_and]
   exact g0
  ·simp -dsimp only [↓WPd,↓Zm,↓Zn,WPu,Za,Zb,Zc,Zd,Ze,Zf,Zg,Zh,Nat.reduceEqDiff,Nat.reduceLT,Zi,Zj,Zk,Zl,Nat.reduceBEq,WPm,faddr_ptr,load_cells ho,Cel.g0,Cel.g1,Cel.g2,Cel.g3,Cel.g4,nil_text]
   refine calledW_of (risname_ok d σ1 c.s) ?_
   rintro v σ2 ⟨rfl,rfl⟩
   simp -dsimp only [↓WPd,↓Zm,↓Zn,WPu,Za,Zb,Zc,Zd,Ze,Zf,Zg,Zh,Nat.reduceEqDiff,Nat.reduceLT,Zi,Zj,Zk,Zl,Nat.reduceBEq,WPm,faddr_ptr,load_cells ho,Cel.g0,Cel.g1,Cel.g2,Cel.g3,Cel.g4,nil_text]
   generalize hq : (isName c.s && decide (c.n ≥ 1) && decide (c.n ≤ 8)) = q
   cases q
   ·simp -dsimp only [↓WPd,↓Zm,↓Zn,WPu,Za,Zb,Zc,Zd,Ze,Zf,Zg,Zh,Nat.reduceEqDiff,Nat.reduceLT,Zi,Zj,Zk,Zl,Nat.reduceBEq,WPm,faddr_ptr,load_cells ho,Cel.g0,Cel.g1,Cel.g2,Cel.g3,Cel.g4,nil_text]
    refine calledW_of (issign_ok d σ2 c.s) ?_
    rintro v σ3 ⟨rfl,g3⟩
    have ho3 := g3.get ho
    simp -dsimp only [↓WPd,↓Zm,↓Zn,WPu,Za,Zb,Zc,Zd,Ze,Zf,Zg,Zh,Nat.reduceEqDiff,Nat.reduceLT,Zi,Zj,Zk,Zl,Nat.reduceBEq,WPm,faddr_ptr,load_cells ho3,Cel.g0,Cel.g1,Cel.g2,Cel.g3,Cel.g4,nil_text,Bool.false_or,Bool.true_and]
    exact g0.trans g3
   ·simp -dsimp only [↓WPd,↓Zm,↓Zn,WPu,Za,Zb,Zc,Zd,Ze,Zf,Zg,Zh,Nat.reduceEqDiff,Nat.reduceLT,Zi,Zj,Zk,Zl,Nat.reduceBEq,WPm,Bool.true_or,Bool.true_and]
    exact g0
 simp -dsimp only [↓WPd,↓Zm,↓Zn,WPu,Za,Zb,Zc,Zd,Ze,Zf,Zg,Zh,Nat.reduceEqDiff,Nat.reduceLT,Zi,Zj,Zk,Zl,Nat.reduceBEq,k4]
 refine condP_dec (fun h4 => ?_) (fun h4 => ?_)
 ·have hok : c.ok = (decide (c.s = []) && (c.n == 0) && decide (c.v.1 ≥ -1) && decide (c.v.1 ≤ 3) && decide (c.v.2 ≥ 0)) := by simp [Cel.ok,h4,int_beq]
  simp -dsimp only [↓WPd,↓Zm,↓Zn,WPu,Za,Zb,Zc,Zd,Ze,Zf,Zg,Zh,Nat.reduceEqDiff,Nat.reduceLT,Zi,Zj,Zk,Zl,Nat.reduceBEq,WPm,faddr_ptr,Nat.reduceAdd,Nat.add_zero,load_cells ho,Cel.g0,Cel.g1,Cel.g2,Cel.g3,Cel.g4,nil_text]
  rw [hok]
  exact ⟨rfl,g0⟩
 ·have hok : c.ok = false := by simp [Cel.ok,h1,h2,h3,h4]
  simp -dsimp only [↓WPd,↓Zm,↓Zn,WPu,Za,Zb,Zc,Zd,Ze,Zf,Zg,Zh,Nat.reduceEqDiff,Nat.reduceLT,Zi,Zj,Zk,Zl,Nat.reduceBEq]
  rw [hok]
  exact ⟨rfl,g0⟩
theorem rend_ok (l : AVal) (t : List Cel) (a : Nat) (hx : t.length < 2 ^ 30) (hl : SlOf σ 5 l (t.map Cel.val)) : Called CU.cfg d 137 [l,.int .i64 a] σ fun v σ' => v = .int .i64 (endT t a : Int) ∧ σ' = σ := by
 refine called_of (fn := CU.a137) rfl (Nat.le_of_ble_eq_true rfl) ?_
 have ll := hl.len
 rw [List.length_map] at ll
 simp only [CU.a137, CU.o]
 simp -dsimp only [↓WPd,↓Zm,↓Zn,WPu,Za,Zb,Zc,Zd,Ze,Zf,Zg,Zh,Nat.reduceEqDiff,Nat.reduceLT,Zi,Zj,Zk,Zl,Nat.reduceBEq,WPm,ll]
 have key : (decide ((a : Int) < 0) || decide ((a : Int) ≥ (t.length : Int))) = !decide (a < t.length) := by
  rw [Bool.eq_iff_iff]; simp; omega
 rw [key]
 refine condP_intro (fun h => ?_) (fun h => ?_)
 ·have : endT t a = 0 := by simp only [Bool.not_eq_true',decide_eq_false_iff_not] at h; simp [endT,h]
  simp -dsimp only [↓WPd,↓Zm,↓Zn,WPu,Za,Zb,Zc,Zd,Ze,Zf,Zg,Zh,Nat.reduceEqDiff,Nat.reduceLT,Zi,Zj,Zk,Zl,Nat.reduceBEq,this]
  exact ⟨rfl,trivial⟩
 ·simp only [Bool.not_eq_false',decide_eq_true_eq] at h
  have hend : endT t a = endAt t.length (t.drop a) 1 a := by simp [endT,h]
  simp -dsimp only [↓WPd,↓Zm,↓Zn,WPu,Za,Zb,Zc,Zd,Ze,Zf,Zg,Zh,Nat.reduceEqDiff,Nat.reduceLT,Zi,Zj,Zk,Zl,Nat.reduceBEq]
  refine loop_rule2 (fun m vs σ' => ∃ k o : Nat,k ≤ t.length ∧ m = t.length + 1 - k ∧ vs = [l,.int .i64 k,.int .i64 o] ∧ σ' = σ ∧ endAt t.length (t.drop k) o k = endT t a ∧ o ≤ 1 + k * t.length ∧ 0 < k + o) [1,4]
   (fun e vs σ' => σ' = σ ∧ ((e = .exit 0 ∧ ∃ x,vs = [.int .i64 (endT t a : Int),x]) ∨ (e = .ret ∧ (∃ x,vs = [x,.int .i64 (endT t a : Int)])))) (t.length + 1 - a) ⟨a,1,by omega,rfl,?_,rfl,hend.symm,by omega,by omega⟩ ?_ ?_
  ·simp -dsimp only [↓WPd,↓Zm,↓Zn,WPu,Za,Zb,Zc,Zd,Ze,Zf,Zg,Zh,Nat.reduceEqDiff,Nat.reduceLT,Zi,Zj,Zk,Zl,Nat.reduceBEq]; rfl
  ·rintro m vs σ' ⟨k,o,hk,rfl,rfl,rfl,he,ho,hko⟩
   have hmul : k * t.length ≤ 2 ^ 60 := by
    calc k * t.length ≤ 2 ^ 30 * 2 ^ 30 := Nat.mul_le_mul (by omega) (by omega)
     _ = 2 ^ 60 := by decide
   simp -dsimp only [↓WPd,↓Zm,↓Zn,WPu,Za,Zb,Zc,Zd,Ze,Zf,Zg,Zh,Nat.reduceEqDiff,Nat.reduceLT,Zi,Zj,Zk,Zl,Nat.reduceBEq]
   refine condP_dec (fun h => ?_) (fun h => ?_)
   ·obtain ⟨o,rfl⟩ : ∃ o',o = o' + 1 := ⟨o - 1,by omega⟩
    simp -dsimp only [↓WPd,↓Zm,↓Zn,WPu,Za,Zb,Zc,Zd,Ze,Zf,Zg,Zh,Nat.reduceEqDiff,Nat.reduceLT,Zi,Zj,Zk,Zl,Nat.reduceBEq,ll]
    refine condP_dec (fun hkl => ?_) (fun hkl => ?_)
    ·have hz : endT t a = 0 := by rw [← he,endAt_out (by omega)]
     simp -dsimp only [↓WPd,↓Zm,↓Zn,WPu,Za,Zb,Zc,Zd,Ze,Zf,Zg,Zh,Nat.reduceEqDiff,Nat.reduceLT,Zi,Zj,Zk,Zl,Nat.reduceBEq,WPm]
     exact .inr ⟨_,by rw [hz]; rfl⟩
    ·have hk' : k < t.length := by omega
     have hi : k < (t.map Cel.val).length := by rw [List.length_map]; exact hk'
     have hb := (hl.addr hi .i64).2
     rw [cel_get] at hb
     obtain ⟨q0,p0,r0⟩ := faddr_load hb 0
     obtain ⟨q2,p2,r2⟩ := faddr_load hb 2
     have r0' : loadV σ' 1 false q0 = some (.int .u8 (t[k]).k) := r0
     have r2' : loadV σ' 1 false q2 = some (.int .i64 (t[k]).n) := r2
     rw [endAt_get hk'] at he
     have kq : (((t[k]).k : Int) == 3) = decide ((t[k]).k = 3) := by
      by_cases h : (t[k]).k = 3 <;> simp [h] <;> omega
     have w1 : IntKind.i64.wrap (((o + 1 : Nat) : Int) - 1) = (o : Int) := by rw [wrap_i64 (by omega) (by omega)]; omega
     have w3 : IntKind.i64.wrap ((k : Int) + 1) = ((k + 1 : Nat) : Int) := by rw [wrap_i64 (by omega) (by omega)]; omega
     have hm2 : (k + 1) * t.length = k * t.length + t.length := by rw [Nat.add_mul,Nat.one_mul]
     have e1 : ((o + 1 : Nat) : Int) = (o : Int) + 1 := by omega
     simp -dsimp only [↓WPd,↓Zm,↓Zn,WPu,Za,Zb,Zc,Zd,Ze,Zf,Zg,Zh,Nat.reduceEqDiff,Nat.reduceLT,Zi,Zj,Zk,Zl,Nat.reduceBEq,WPm,hl.iaddr hi,p0,p2,r0',r2',kq,w1]
     have key : (decide ((t[k]).k = 3) && decide ((t[k]).n > 0)) = decide (0 < (t[k]).parts) := by
      by_cases h : (t[k]).k = 3 <;> simp [Cel.parts,h]
     rw [key]
     refine condP_dec (fun h0 => ?_) (fun h0 => ?_)
     ·have hp : (t[k]).n = ((t[k]).parts : Int) := by
       by_cases h3 : (t[k]).k = 3
       ·have : (t[k]).parts = (t[k]).n.toNat := by simp [Cel.parts,h3]
        omega
       ·have : (t[k]).parts = 0 := by simp [Cel.parts,h3]
        omega
      simp -dsimp only [↓WPd,↓Zm,↓Zn,WPu,Za,Zb,Zc,Zd,Ze,Zf,Zg,Zh,Nat.reduceEqDiff,Nat.reduceLT,Zi,Zj,Zk,Zl,Nat.reduceBEq,WPm,ll,hl.iaddr hi,p2,r2']
      refine condP_dec (fun h2 => ?_) (fun h2 => ?_)
      ·rw [if_pos (by omega)] at he
       simp -dsimp only [↓WPd,↓Zm,↓Zn,WPu,Za,Zb,Zc,Zd,Ze,Zf,Zg,Zh,Nat.reduceEqDiff,Nat.reduceLT,Zi,Zj,Zk,Zl,Nat.reduceBEq]
       exact .inr ⟨_,by rw [← he]; rfl⟩
      ·rw [if_neg (by omega)] at he
       have w2 : IntKind.i64.wrap ((o : Int) + (t[k]).n) = ((o + (t[k]).parts : Nat) : Int) := by rw [wrap_i64 (by omega) (by omega)]; omega
       simp -dsimp only [↓WPd,↓Zm,↓Zn,WPu,Za,Zb,Zc,Zd,Ze,Zf,Zg,Zh,Nat.reduceEqDiff,Nat.reduceLT,Zi,Zj,Zk,Zl,Nat.reduceBEq,WPm,hl.iaddr hi,p2,r2',w2,w3]
       exact ⟨t.length + 1 - (k + 1),by omega,k + 1,o + (t[k]).parts,by omega,rfl,rfl,he,by omega,by omega⟩
     ·have hp : (t[k]).parts = 0 := Nat.eq_zero_of_not_pos h0
      rw [hp,if_neg (Nat.not_lt_zero _),Nat.add_zero] at he
      simp -dsimp only [↓WPd,↓Zm,↓Zn,WPu,Za,Zb,Zc,Zd,Ze,Zf,Zg,Zh,Nat.reduceEqDiff,Nat.reduceLT,Zi,Zj,Zk,Zl,Nat.reduceBEq,w3]
      exact ⟨t.length + 1 - (k + 1),by omega,k + 1,o,by omega,rfl,rfl,he,by omega,by omega⟩
   ·have : o = 0 := by omega
    subst this
    rw [endAt_zero] at he
    simp -dsimp only [↓WPd,↓Zm,↓Zn,WPu,Za,Zb,Zc,Zd,Ze,Zf,Zg,Zh,Nat.reduceEqDiff,Nat.reduceLT,Zi,Zj,Zk,Zl,Nat.reduceBEq]
    exact .inl ⟨_,by rw [← he]⟩
  ·rintro e σ' env ⟨rfl,⟨rfl,x,hv⟩ | ⟨rfl,x,hv⟩⟩
   ·simp only [List.map_cons,List.map_nil,List.cons.injEq,and_true] at hv
    simp -dsimp only [↓WPd,↓Zm,↓Zn,WPu,Za,Zb,Zc,Zd,Ze,Zf,Zg,Zh,Nat.reduceEqDiff,Nat.reduceLT,Zi,Zj,Zk,Zl,Nat.reduceBEq,hv]
   ·simp only [List.map_cons,List.map_nil,List.cons.injEq,and_true] at hv
    simp -dsimp only [↓WPd,↓Zm,↓Zn,WPu,Za,Zb,Zc,Zd,Ze,Zf,Zg,Zh,Nat.reduceEqDiff,Nat.reduceLT,Zi,Zj,Zk,Zl,Nat.reduceBEq,hv]
theorem rright_ok (l : AVal) (t : List Cel) (hx : t.length < 2 ^ 30) (hl : SlOf σ 5 l (t.map Cel.val)) : Called CU.cfg d 134 [l] σ fun v σ' => v = .bool (right t) ∧ Grows σ σ' := by
 refine called_of (fn := CU.a134) rfl (Nat.le_of_ble_eq_true rfl) ?_
 have ll := hl.len
 rw [List.length_map] at ll
 simp only [CU.a134, CU.o]
 simp -dsimp only [↓WPd,↓Zm,↓Zn,WPu,Za,Zb,Zc,Zd,Ze,Zf,Zg,Zh,Nat.reduceEqDiff,Nat.reduceLT,Zi,Zj,Zk,Zl,Nat.reduceBEq,WPm,ll]
 have key : (decide ((t.length : Int) < 1) || decide ((t.length : Int) > 256)) = !(decide (1 ≤ t.length) && decide (t.length ≤ 256)) := by
  generalize t.length = n
  rw [Bool.eq_iff_iff]; simp; omega
 rw [key]
 refine condP_intro (fun h => ?_) (fun h => ?_)
 ·have : right t = false := by
   simp only [Bool.not_eq_true'] at h
   simp only [right,h,Bool.false_and]
  simp -dsimp only [↓WPd,↓Zm,↓Zn,WPu,Za,Zb,Zc,Zd,Ze,Zf,Zg,Zh,Nat.reduceEqDiff,Nat.reduceLT,Zi,Zj,Zk,Zl,Nat.reduceBEq,this]
  exact Keeps.refl _ _
 ·simp only [Bool.not_eq_false'] at h
  have hne : t ≠ [] := by
   intro e; subst e; simp at h
  have hr : right t = (decide (endT t 0 = t.length) && t.all Cel.ok) := by
   rw [endT_zero hne]; simp only [right,h,Bool.true_and]
  simp -dsimp only [↓WPd,↓Zm,↓Zn,WPu,Za,Zb,Zc,Zd,Ze,Zf,Zg,Zh,Nat.reduceEqDiff,Nat.reduceLT,Zi,Zj,Zk,Zl,Nat.reduceBEq]
  refine loop_rule2 (fun m vs σ' => ∃ k,k ≤ t.length ∧ m = t.length - k ∧ vs = [l,.int .i64 k] ∧ Grows σ σ' ∧ ∀ (j : Nat) (hj : j < t.length),j < k → (t[j]).ok = true) [0,2]
   (fun e vs σ' => Grows σ σ' ∧ ((e = .exit 0 ∧ (∃ x,vs = [l,x]) ∧ t.all Cel.ok = true) ∨ (e = .ret ∧ (∃ x,vs = [x,.bool false]) ∧ t.all Cel.ok = false))) t.length ⟨0,Nat.zero_le _,rfl,?_,Keeps.refl _ _,fun j _ h => absurd h (Nat.not_lt_zero _)⟩ ?_ ?_
  ·simp -dsimp only [↓WPd,↓Zm,↓Zn,WPu,Za,Zb,Zc,Zd,Ze,Zf,Zg,Zh,Nat.reduceEqDiff,Nat.reduceLT,Zi,Zj,Zk,Zl,Nat.reduceBEq]; rfl
  ·rintro m vs σ' ⟨k,hk,rfl,rfl,g,hall⟩
   have ll' := (hl.grow g).len
   rw [List.length_map] at ll'
   simp -dsimp only [↓WPd,↓Zm,↓Zn,WPu,Za,Zb,Zc,Zd,Ze,Zf,Zg,Zh,Nat.reduceEqDiff,Nat.reduceLT,Zi,Zj,Zk,Zl,Nat.reduceBEq,ll']
   refine condP_dec (fun h => ?_) (fun h => ?_)
   ·have hk' : k < t.length := by omega
    have hi : k < (t.map Cel.val).length := by rw [List.length_map]; exact hk'
    have hl' := hl.grow g
    have ha5 : loadV σ' 5 true (addrOf 5 l k) = some (t[k]).val := hl'.loadA hi (cs := (t[k]).cs) (by rw [cel_get]; rfl)
    simp -dsimp only [↓WPd,↓Zm,↓Zn,WPu,Za,Zb,Zc,Zd,Ze,Zf,Zg,Zh,Nat.reduceEqDiff,Nat.reduceLT,Zi,Zj,Zk,Zl,Nat.reduceBEq,hl'.iaddr hi,ha5]
    refine calledW_of (cell_ok d σ' t[k]) ?_
    rintro v σ'' ⟨rfl,g2⟩
    simp -dsimp only [↓WPd,↓Zm,↓Zn,WPu,Za,Zb,Zc,Zd,Ze,Zf,Zg,Zh,Nat.reduceEqDiff,Nat.reduceLT,Zi,Zj,Zk,Zl,Nat.reduceBEq]
    refine condP_intro (fun h4 => ?_) (fun h4 => ?_)
    ·simp -dsimp only [↓WPd,↓Zm,↓Zn,WPu,Za,Zb,Zc,Zd,Ze,Zf,Zg,Zh,Nat.reduceEqDiff,Nat.reduceLT,Zi,Zj,Zk,Zl,Nat.reduceBEq]
     refine ⟨g.trans g2,.inr ⟨⟨_,rfl⟩,?_⟩⟩
     rw [List.all_eq_false]
     exact ⟨_,List.getElem_mem hk',by simpa using h4⟩
    ·simp -dsimp only [↓WPd,↓Zm,↓Zn,WPu,Za,Zb,Zc,Zd,Ze,Zf,Zg,Zh,Nat.reduceEqDiff,Nat.reduceLT,Zi,Zj,Zk,Zl,Nat.reduceBEq]
     refine ⟨t.length - (k + 1),by omega,k + 1,by omega,rfl,by rw [wrap_i64 (by omega) (by omega),Int.natCast_add,Int.natCast_one],g.trans g2,fun j hj hjk => ?_⟩
     by_cases e : j = k
     ·subst e; simpa using h4
     ·exact hall j hj (by omega)
   ·simp -dsimp only [↓WPd,↓Zm,↓Zn,WPu,Za,Zb,Zc,Zd,Ze,Zf,Zg,Zh,Nat.reduceEqDiff,Nat.reduceLT,Zi,Zj,Zk,Zl,Nat.reduceBEq]
    refine ⟨g,.inl ⟨⟨_,rfl⟩,?_⟩⟩
    rw [List.all_eq_true]
    intro x hx
    obtain ⟨j,hj,rfl⟩ := List.getElem_of_mem hx
    exact hall j hj (by omega)
  ·rintro e σ' env ⟨g,⟨rfl,⟨x,hv⟩,hyes⟩ | ⟨rfl,⟨x,hv⟩,hno⟩⟩
   ·simp only [List.map_cons,List.map_nil,List.cons.injEq,and_true] at hv
    have hl' := hl.grow g
    simp -dsimp only [↓WPd,↓Zm,↓Zn,WPu,Za,Zb,Zc,Zd,Ze,Zf,Zg,Zh,Nat.reduceEqDiff,Nat.reduceLT,Zi,Zj,Zk,Zl,Nat.reduceBEq,hv]
    refine calledW_of (rend_ok d σ' l t 0 hx hl') ?_
    rintro v σ'' ⟨rfl,rfl⟩
    have ll' := hl'.len
    rw [List.length_map] at ll'
    have k2 : (((endT t 0 : Nat) : Int) == (t.length : Int)) = decide (endT t 0 = t.length) := by by_cases h : endT t 0 = t.length <;> simp [h] <;> omega
    simp -dsimp only [↓WPd,↓Zm,↓Zn,WPu,Za,Zb,Zc,Zd,Ze,Zf,Zg,Zh,Nat.reduceEqDiff,Nat.reduceLT,Zi,Zj,Zk,Zl,Nat.reduceBEq,hv,ll',k2]
    rw [hr,hyes,Bool.and_true]
    exact ⟨rfl,g⟩
   ·simp only [List.map_cons,List.map_nil,List.cons.injEq,and_true] at hv
    simp -dsimp only [↓WPd,↓Zm,↓Zn,WPu,Za,Zb,Zc,Zd,Ze,Zf,Zg,Zh,Nat.reduceEqDiff,Nat.reduceLT,Zi,Zj,Zk,Zl,Nat.reduceBEq,hv]
    rw [hr,hno,Bool.and_false]
    exact ⟨rfl,g⟩
end
section
variable (d : Nat) (σ : Store)
theorem cequal_ok (a b : AVal) (x y : List Cel) (hx : x.length < 2 ^ 40) (ha : SlOf σ 5 a (x.map Cel.val)) (hb : SlOf σ 5 b (y.map Cel.val)) : Called CU.cfg d 50 [a,b] σ fun v σ' => v = .bool (decide (x = y)) ∧ σ' = σ := by
 refine called_of (fn := CU.a50) rfl (Nat.le_of_ble_eq_true rfl) ?_
 have la := ha.len
 have lb := hb.len
 rw [List.length_map] at la lb
 simp only [CU.a50, CU.o]
 simp -dsimp only [↓WPd,↓Zm,↓Zn,WPu,Za,Zb,Zc,Zd,Ze,Zf,Zg,Zh,Nat.reduceEqDiff,Nat.reduceLT,Zi,Zj,Zk,Zl,Nat.reduceBEq,la,lb]
 refine condP_intro (fun h => ?_) (fun h => ?_)
 ·have h' : x.length ≠ y.length := fun e => by rw [e] at h; simp at h
  simp -dsimp only [↓WPd,↓Zm,↓Zn,WPu,Za,Zb,Zc,Zd,Ze,Zf,Zg,Zh,Nat.reduceEqDiff,Nat.reduceLT,Zi,Zj,Zk,Zl,Nat.reduceBEq]
  have : x ≠ y := fun e => h' (by rw [e])
  simp [this]
 ·have h' : x.length = y.length := by simp at h; omega
  simp -dsimp only [↓WPd,↓Zm,↓Zn,WPu,Za,Zb,Zc,Zd,Ze,Zf,Zg,Zh,Nat.reduceEqDiff,Nat.reduceLT,Zi,Zj,Zk,Zl,Nat.reduceBEq]
  refine loop_rule (fun m vs σ' => ∃ k : Nat,k ≤ x.length ∧ m = x.length - k ∧ σ' = σ ∧ x.take k = y.take k ∧ vs = [a,b,.int .i64 k]) x.length ⟨0,Nat.zero_le _,rfl,rfl,rfl,?_⟩ ?_
  ·simp -dsimp only [↓WPd,↓Zm,↓Zn,WPu,Za,Zb,Zc,Zd,Ze,Zf,Zg,Zh,Nat.reduceEqDiff,Nat.reduceLT,Zi,Zj,Zk,Zl,Nat.reduceBEq]; rfl
  ·rintro m vs σ' ⟨k,hk,rfl,rfl,he,rfl⟩
   simp -dsimp only [↓WPd,↓Zm,↓Zn,WPu,Za,Zb,Zc,Zd,Ze,Zf,Zg,Zh,Nat.reduceEqDiff,Nat.reduceLT,Zi,Zj,Zk,Zl,Nat.reduceBEq,la]
   refine condP_dec (fun h => ?_) (fun h => ?_)
   ·have hkx : k < x.length := by omega
    have hky : k < y.length := by omega
    have hi : k < (x.map Cel.val).length := by rw [List.length_map]; exact hkx
    have hj : k < (y.map Cel.val).length := by rw [List.length_map]; exact hky
    have l1 : loadV σ' 5 true (addrOf 5 a k) = some (x[k]).val := ha.loadA hi (cs := (x[k]).cs) (by rw [cel_get]; rfl)
    have l2 : loadV σ' 5 true (addrOf 5 b k) = some (y[k]).val := hb.loadA hj (cs := (y[k]).cs) (by rw [cel_get]; rfl)
    have eN : (if true = true then !decide (x[k] = y[k]) else decide (x[k] = y[k])) = !decide (x[k] = y[k]) := rfl
    simp -dsimp only [↓WPd,↓Zm,↓Zn,WPu,Za,Zb,Zc,Zd,Ze,Zf,Zg,Zh,Nat.reduceEqDiff,Nat.reduceLT,Zi,Zj,Zk,Zl,Nat.reduceBEq,ha.iaddr hi,l1,hb.iaddr hj,l2,Cel.eqs]
    refine condP_intro (fun h => ?_) (fun h => ?_)
    ·simp -dsimp only [↓WPd,↓Zm,↓Zn,WPu,Za,Zb,Zc,Zd,Ze,Zf,Zg,Zh,Nat.reduceEqDiff,Nat.reduceLT,Zi,Zj,Zk,Zl,Nat.reduceBEq]
     have : x ≠ y := fun e => by subst e; simp at h
     simp [this]
    ·simp -dsimp only [↓WPd,↓Zm,↓Zn,WPu,Za,Zb,Zc,Zd,Ze,Zf,Zg,Zh,Nat.reduceEqDiff,Nat.reduceLT,Zi,Zj,Zk,Zl,Nat.reduceBEq]
     have e : x[k] = y[k] := by simpa using h
     refine ⟨x.length - (k + 1),by omega,k + 1,by omega,rfl,take_succ_eq hkx hky he e,?_⟩
     rw [wrap_i64 (by omega) (by omega),Int.natCast_add,Int.natCast_one]
   ·simp -dsimp only [↓WPd,↓Zm,↓Zn,WPu,Za,Zb,Zc,Zd,Ze,Zf,Zg,Zh,Nat.reduceEqDiff,Nat.reduceLT,Zi,Zj,Zk,Zl,Nat.reduceBEq]
    have hk' : k = x.length := by omega
    subst hk'
    have : x = y := by rw [List.take_length,h',List.take_length] at he; exact he
    simp [this]
theorem samecells_ok (a b : AVal) (x y : List Cel) (hx : x.length < 2 ^ 40) (ha : SlOf σ 5 a (x.map Cel.val)) (hb : SlOf σ 5 b (y.map Cel.val)) : Called CU.cfg d 92 [a,b] σ fun v σ' => v = .bool (decide (x = y)) ∧ σ' = σ := by
 refine called_of (fn := CU.a92) rfl (Nat.le_of_ble_eq_true rfl) ?_
 have la := ha.len
 have lb := hb.len
 rw [List.length_map] at la lb
 simp only [CU.a92, CU.o]
 simp -dsimp only [↓WPd,↓Zm,↓Zn,WPu,Za,Zb,Zc,Zd,Ze,Zf,Zg,Zh,Nat.reduceEqDiff,Nat.reduceLT,Zi,Zj,Zk,Zl,Nat.reduceBEq,la,lb]
 refine condP_intro (fun h => ?_) (fun h => ?_)
 ·have h' : x.length ≠ y.length := fun e => by rw [e] at h; simp at h
  simp -dsimp only [↓WPd,↓Zm,↓Zn,WPu,Za,Zb,Zc,Zd,Ze,Zf,Zg,Zh,Nat.reduceEqDiff,Nat.reduceLT,Zi,Zj,Zk,Zl,Nat.reduceBEq]
  have : x ≠ y := fun e => h' (by rw [e])
  simp [this]
 ·have h' : x.length = y.length := by simp at h; omega
  simp -dsimp only [↓WPd,↓Zm,↓Zn,WPu,Za,Zb,Zc,Zd,Ze,Zf,Zg,Zh,Nat.reduceEqDiff,Nat.reduceLT,Zi,Zj,Zk,Zl,Nat.reduceBEq]
  refine loop_rule (fun m vs σ' => ∃ k : Nat,k ≤ x.length ∧ m = x.length - k ∧ σ' = σ ∧ x.take k = y.take k ∧ vs = [a,b,.int .i64 k]) x.length ⟨0,Nat.zero_le _,rfl,rfl,rfl,?_⟩ ?_
  ·simp -dsimp only [↓WPd,↓Zm,↓Zn,WPu,Za,Zb,Zc,Zd,Ze,Zf,Zg,Zh,Nat.reduceEqDiff,Nat.reduceLT,Zi,Zj,Zk,Zl,Nat.reduceBEq]; rfl
  ·rintro m vs σ' ⟨k,hk,rfl,rfl,he,rfl⟩
   simp -dsimp only [↓WPd,↓Zm,↓Zn,WPu,Za,Zb,Zc,Zd,Ze,Zf,Zg,Zh,Nat.reduceEqDiff,Nat.reduceLT,Zi,Zj,Zk,Zl,Nat.reduceBEq,la]
   refine condP_dec (fun h => ?_) (fun h => ?_)
   ·have hkx : k < x.length := by omega
    have hky : k < y.length := by omega
    have hi : k < (x.map Cel.val).length := by rw [List.length_map]; exact hkx
    have hj : k < (y.map Cel.val).length := by rw [List.length_map]; exact hky
    have l1 : loadV σ' 5 true (addrOf 5 a k) = some (x[k]).val := ha.loadA hi (cs := (x[k]).cs) (by rw [cel_get]; rfl)
    have l2 : loadV σ' 5 true (addrOf 5 b k) = some (y[k]).val := hb.loadA hj (cs := (y[k]).cs) (by rw [cel_get]; rfl)
    have eN : (if true = true then !decide (x[k] = y[k]) else decide (x[k] = y[k])) = !decide (x[k] = y[k]) := rfl
    simp -dsimp only [↓WPd,↓Zm,↓Zn,WPu,Za,Zb,Zc,Zd,Ze,Zf,Zg,Zh,Nat.reduceEqDiff,Nat.reduceLT,Zi,Zj,Zk,Zl,Nat.reduceBEq,ha.iaddr hi,l1,hb.iaddr hj,l2,Cel.eqs]
    refine condP_intro (fun h => ?_) (fun h => ?_)
    ·simp -dsimp only [↓WPd,↓Zm,↓Zn,WPu,Za,Zb,Zc,Zd,Ze,Zf,Zg,Zh,Nat.reduceEqDiff,Nat.reduceLT,Zi,Zj,Zk,Zl,Nat.reduceBEq]
     have : x ≠ y := fun e => by subst e; simp at h
     simp [this]
    ·simp -dsimp only [↓WPd,↓Zm,↓Zn,WPu,Za,Zb,Zc,Zd,Ze,Zf,Zg,Zh,Nat.reduceEqDiff,Nat.reduceLT,Zi,Zj,Zk,Zl,Nat.reduceBEq]
     have e : x[k] = y[k] := by simpa using h
     refine ⟨x.length - (k + 1),by omega,k + 1,by omega,rfl,take_succ_eq hkx hky he e,?_⟩
     rw [wrap_i64 (by omega) (by omega),Int.natCast_add,Int.natCast_one]
   ·simp -dsimp only [↓WPd,↓Zm,↓Zn,WPu,Za,Zb,Zc,Zd,Ze,Zf,Zg,Zh,Nat.reduceEqDiff,Nat.reduceLT,Zi,Zj,Zk,Zl,Nat.reduceBEq]
    have hk' : k = x.length := by omega
    subst hk'
    have : x = y := by rw [List.take_length,h',List.take_length] at he; exact he
    simp [this]
theorem cclone_ok (b : AVal) (t : List Cel) (hs : t.length < 2 ^ 30) (hb : SlOf σ 5 b (t.map Cel.val)) : Called CU.cfg d 82 [b] σ fun v σ' => Grows σ σ' ∧ Own σ' 5 v (t.map Cel.val) ∧ Fresh σ.length v ∧ NoLit v := by
 refine called_of (fn := CU.a82) rfl (Nat.le_of_ble_eq_true rfl) ?_
 obtain ⟨x,hx,hx'⟩ := hb.isnil
 simp only [CU.a82, CU.o]
 simp -dsimp only [↓WPd,↓Zm,↓Zn,WPu,Za,Zb,Zc,Zd,Ze,Zf,Zg,Zh,Nat.reduceEqDiff,Nat.reduceLT,Zi,Zj,Zk,Zl,Nat.reduceBEq,hx,Bool.false_eq_true]
 refine condP_intro (fun h => ?_) (fun h => ?_)
 ·obtain ⟨rfl,he⟩ := hx' h
  simp -dsimp only [↓WPd,↓Zm,↓Zn,WPu,Za,Zb,Zc,Zd,Ze,Zf,Zg,Zh,Nat.reduceEqDiff,Nat.reduceLT,Zi,Zj,Zk,Zl,Nat.reduceBEq]
  exact ⟨Keeps.refl _ _,by rw [he]; exact Own.nil _ _,(fun id h => by cases h),trivial⟩
 ·simp -dsimp only [↓WPd,↓Zm,↓Zn,WPu,Za,Zb,Zc,Zd,Ze,Zf,Zg,Zh,Nat.reduceEqDiff,Nat.reduceLT,Zi,Zj,Zk,Zl,Nat.reduceBEq,hb.els]
  refine stepP_of [] rfl ?_
  have ho : Own σ 5 (.fslice (AVal.tagL []) true 5 []) [] := ⟨.inr (.inl ⟨_,rfl⟩)⟩
  obtain ⟨v',σ',h1,h2,h3,h4,h5⟩ := ho.append (t.map Cel.val) 48 (by rw [List.length_map]; simp; omega)
  simp -dsimp only [↓WPd,↓Zm,↓Zn,WPu,Za,Zb,Zc,Zd,Ze,Zf,Zg,Zh,Nat.reduceEqDiff,Nat.reduceLT,Zi,Zj,Zk,Zl,Nat.reduceBEq,hb.els,h1]
  refine ⟨h3.mono (fun i _ h => by cases h),by simpa using h2,fun id hid => ?_,h5 (.inl rfl)⟩
  rcases h4 id hid with h | h
  ·cases h
  ·omega
theorem copied_ok (b : AVal) (t : List Cel) (hs : t.length < 2 ^ 30) (hb : SlOf σ 5 b (t.map Cel.val)) : Called CU.cfg d 138 [b] σ fun v σ' => Grows σ σ' ∧ Own σ' 5 v (t.map Cel.val) ∧ Fresh σ.length v ∧ NoLit v := by
 refine called_of (fn := CU.a138) rfl (Nat.le_of_ble_eq_true rfl) ?_
 simp only [CU.a138, CU.o]
 obtain ⟨v',σ',h1,h2,h3,h4,h5⟩ := (Own.nil σ 5).append (t.map Cel.val) 48 (by rw [List.length_map]; simp; omega)
 simp -dsimp only [↓WPd,↓Zm,↓Zn,WPu,Za,Zb,Zc,Zd,Ze,Zf,Zg,Zh,Nat.reduceEqDiff,Nat.reduceLT,Zi,Zj,Zk,Zl,Nat.reduceBEq,hb.els,h1]
 refine ⟨h3.mono (fun i _ h => by cases h),by simpa using h2,fun id hid => ?_,h5 (.inl trivial)⟩
 rcases h4 id hid with h | h
 ·cases h
 ·omega
def isT (t : List Cel) (s : List UInt8) (n : Int) : Bool := match t with
 | [] => false
 | c :: _ => decide (c.s = s) && ((decide (c.k = 3) && decide (c.n = n)) || (decide (n = 0) && decide (c.k = 2)))
theorem is_ok (l : AVal) (t : List Cel) (s : List UInt8) (n : Int) (hl : SlOf σ 5 l (t.map Cel.val)) : Called CU.cfg d 141 [l,.str s,.int .i64 n] σ fun v σ' => v = .bool (isT t s n) ∧ σ' = σ := by
 refine called_of (fn := CU.a141) rfl (Nat.le_of_ble_eq_true rfl) ?_
 have ll := hl.len
 rw [List.length_map] at ll
 simp only [CU.a141, CU.o]
 cases t with
 | nil =>
  have e : (((([] : List Cel).length : Nat) : Int) == 0) = true := rfl
  simp -dsimp only [↓WPd,↓Zm,↓Zn,WPu,Za,Zb,Zc,Zd,Ze,Zf,Zg,Zh,Nat.reduceEqDiff,Nat.reduceLT,Zi,Zj,Zk,Zl,Nat.reduceBEq,WPm,ll,e,Bool.true_or]
  exact ⟨rfl,trivial⟩
 | cons c r =>
  have e : ((((c :: r).length : Nat) : Int) == 0) = false := by simp; omega
  have hi : 0 < ((c :: r).map Cel.val).length := by simp
  have hb := (hl.addr hi .i64).2
  rw [cel_get] at hb
  obtain ⟨q0,p0,r0⟩ := faddr_load hb 0
  obtain ⟨q1,p1,r1⟩ := faddr_load hb 1
  obtain ⟨q2,p2,r2⟩ := faddr_load hb 2
  have r0' : loadV σ 1 false q0 = some (.int .u8 c.k) := r0
  have r1' : loadV σ 1 false q1 = some (.str c.s) := r1
  have r2' : loadV σ 1 false q2 = some (.int .i64 c.n) := r2
  have ia : iaddrV 5 l (.int .i64 0) = some (addrOf 5 l 0) := hl.iaddr hi .i64
  have sn : sopV .neq (.str c.s) (.str s) = some (.bool (!decide (c.s = s))) := by
   by_cases h : c.s = s <;> simp [sopV,h]
  have k3 : ((c.k : Int) == 3) = decide (c.k = 3) := by by_cases h : c.k = 3 <;> simp [h] <;> omega
  have k2 : ((c.k : Int) == 2) = decide (c.k = 2) := by by_cases h : c.k = 2 <;> simp [h] <;> omega
  simp -dsimp only [↓WPd,↓Zm,↓Zn,WPu,Za,Zb,Zc,Zd,Ze,Zf,Zg,Zh,Nat.reduceEqDiff,Nat.reduceLT,Zi,Zj,Zk,Zl,Nat.reduceBEq,WPm,ll,e,ia,p0,p1,p2,r0',r1',r2',sn,Bool.false_or]
  refine condP_intro (fun h => ?_) (fun h => ?_)
  ·have : isT (c :: r) s n = false := by
    simp only [Bool.not_eq_true'] at h
    simp only [isT,h,Bool.false_and]
   simp -dsimp only [↓WPd,↓Zm,↓Zn,WPu,Za,Zb,Zc,Zd,Ze,Zf,Zg,Zh,Nat.reduceEqDiff,Nat.reduceLT,Zi,Zj,Zk,Zl,Nat.reduceBEq,this]
  ·simp only [Bool.not_eq_false'] at h
   simp -dsimp only [↓WPd,↓Zm,↓Zn,WPu,Za,Zb,Zc,Zd,Ze,Zf,Zg,Zh,Nat.reduceEqDiff,Nat.reduceLT,Zi,Zj,Zk,Zl,Nat.reduceBEq,WPm,ll,ia,p0,p1,p2,r0',r1',r2',k2,k3]
   simp only [isT,h,Bool.true_and,int_beq]
   exact ⟨trivial,trivial⟩
theorem ris_ok (l : AVal) (t : List Cel) (s : List UInt8) (n : Int) (hl : SlOf σ 5 l (t.map Cel.val)) : Called CU.cfg d 144 [l,.str s,.int .i64 n] σ fun v σ' => v = .bool (isT t s n) ∧ σ' = σ := by
 refine called_of (fn := CU.a144) rfl (Nat.le_of_ble_eq_true rfl) ?_
 have ll := hl.len
 rw [List.length_map] at ll
 simp only [CU.a144, CU.o]
 cases t with
 | nil =>
  have e : (((([] : List Cel).length : Nat) : Int) == 0) = true := rfl
  simp -dsimp only [↓WPd,↓Zm,↓Zn,WPu,Za,Zb,Zc,Zd,Ze,Zf,Zg,Zh,Nat.reduceEqDiff,Nat.reduceLT,Zi,Zj,Zk,Zl,Nat.reduceBEq,WPm,ll,e,Bool.true_or]
  exact ⟨rfl,trivial⟩
 | cons c r =>
  have e : ((((c :: r).length : Nat) : Int) == 0) = false := by simp; omega
  have hi : 0 < ((c :: r).map Cel.val).length := by simp
  have hb := (hl.addr hi .i64).2
  rw [cel_get] at hb
  obtain ⟨q0,p0,r0⟩ := faddr_load hb 0
  obtain ⟨q1,p1,r1⟩ := faddr_load hb 1
  obtain ⟨q2,p2,r2⟩ := faddr_load hb 2
  have r0' : loadV σ 1 false q0 = some (.int .u8 c.k) := r0
  have r1' : loadV σ 1 false q1 = some (.str c.s) := r1
  have r2' : loadV σ 1 false q2 = some (.int .i64 c.n) := r2
  have ia : iaddrV 5 l (.int .i64 0) = some (addrOf 5 l 0) := hl.iaddr hi .i64
  have sn : sopV .neq (.str c.s) (.str s) = some (.bool (!decide (c.s = s))) := by
   by_cases h : c.s = s <;> simp [sopV,h]
  have k3 : ((c.k : Int) == 3) = decide (c.k = 3) := by by_cases h : c.k = 3 <;> simp [h] <;> omega
  have k2 : ((c.k : Int) == 2) = decide (c.k = 2) := by by_cases h : c.k = 2 <;> simp [h] <;> omega
  simp -dsimp only [↓WPd,↓Zm,↓Zn,WPu,Za,Zb,Zc,Zd,Ze,Zf,Zg,Zh,Nat.reduceEqDiff,Nat.reduceLT,Zi,Zj,Zk,Zl,Nat.reduceBEq,WPm,ll,e,ia,p0,p1,p2,r0',r1',r2',sn,Bool.false_or]
  refine condP_intro (fun h => ?_) (fun h => ?_)
  ·have : isT (c :: r) s n = false := by
    simp only [Bool.not_eq_true'] at h
    simp only [isT,h,Bool.false_and]
   simp -dsimp only [↓WPd,↓Zm,↓Zn,WPu,Za,Zb,Zc,Zd,Ze,Zf,Zg,Zh,Nat.reduceEqDiff,Nat.reduceLT,Zi,Zj,Zk,Zl,Nat.reduceBEq,this]
  ·simp only [Bool.not_eq_false'] at h
   simp -dsimp only [↓WPd,↓Zm,↓Zn,WPu,Za,Zb,Zc,Zd,Ze,Zf,Zg,Zh,Nat.reduceEqDiff,Nat.reduceLT,Zi,Zj,Zk,Zl,Nat.reduceBEq,WPm,ll,ia,p0,p1,p2,r0',r1',r2',k2,k3]
   simp only [isT,h,Bool.true_and,int_beq]
   exact ⟨trivial,trivial⟩
end
theorem faddr_at {σ : Store} {p : AVal} {cs : List AVal} {off : Nat} (h : behind σ p = some (cs,off)) (o : Nat) : ∃ q,faddrV o p = some q ∧ behind σ q = some (cs,off + o) := by
 cases p with
 | ptr i k =>
  simp only [behind] at h
  split at h
  ·rename_i cs' ho
   injection h with h; injection h with h1 h2; subst h1; subst h2
   exact ⟨.ptr i (k + o),rfl,by simp only [behind,ho]⟩
  ·cases h
 | eptr i ep j k =>
  simp only [behind] at h
  split at h
  ·rename_i sz es epo fl ho
   split at h
   ·rename_i hf
    rw [Option.map_eq_some_iff] at h
    obtain ⟨e,he,h⟩ := h
    injection h with h1 h2; subst h1; subst h2
    exact ⟨.eptr i ep j (k + o),rfl,by simp only [behind,ho,if_pos hf,he,Option.map_some]⟩
   ·cases h
  ·cases h
 | fptr t cs' k =>
  simp only [behind,Option.some.injEq,Prod.mk.injEq] at h
  obtain ⟨rfl,rfl⟩ := h
  exact ⟨.fptr t cs' (k + o),rfl,by simp [behind]⟩
 | _ => simp [behind] at h
theorem load_at {σ : Store} {q : AVal} {cs : List AVal} {off : Nat} (h : behind σ q = some (cs,off)) : loadV σ 1 false q = cs[off]? := by simp only [loadV,h]; rfl
theorem loadN_at {σ : Store} {q : AVal} {cs : List AVal} {off : Nat} (h : behind σ q = some (cs,off)) {n : Nat} (hn : off + n ≤ cs.length) : loadV σ n true q = some (.agg ((cs.drop off).take n)) := by
 simp only [loadV,h,ld,if_true,hn]
def nmC (v : Nm) : List AVal := [.int .i64 v.1,.int .i64 v.2]
theorem nm_cells (v : Nm) : (nmV v).cells = nmC v := rfl
theorem nm_agg (v : Nm) : nmV v = .agg (nmC v) := rfl
theorem nm_one (v : Nm) : (nmC v).all AVal.one = true := rfl
theorem nm_g0 (v : Nm) : (nmC v)[0]? = some (.int .i64 v.1) := rfl
theorem nm_g1 (v : Nm) : (nmC v)[1]? = some (.int .i64 v.2) := rfl
theorem nm_eqs (a b : Nm) : eqsV [.i,.i] (nmV a) (nmV b) = some (decide (a = b)) := by
 obtain ⟨a1,a2⟩ := a; obtain ⟨b1,b2⟩ := b
 simp only [nmV,eqsV,cellsEq,cellEq,if_true,Bool.and_true]
 congr 1
 rw [Bool.eq_iff_iff]
 simp [Prod.ext_iff]
theorem nm_keyEq (a b : Nm) : keyEq true [.i,.i] (nmV a) (nmV b) = some (decide (a = b)) := nm_eqs a b
theorem load_nm {σ : Store} {i : Nat} {v : Nm} (h : σ[i]? = some (.cells (nmC v))) : loadV σ 2 true (.ptr i 0) = some (nmV v) := loadN_cells h rfl
theorem find_nm (v : Nm) : ∀ (H : Hp),∃ o : Option Nat,findK true [.i,.i] (nmV v) (H.map fun p => nmV p.1) = some o ∧ (match o with | some i => ∃ p,H[i]? = some p ∧ p.1 = v ∧ lk H v = some p.2 | none => lk H v = none)
 | [] => ⟨none,rfl,rfl⟩
 | p :: r => by
  obtain ⟨o,h1,h2⟩ := find_nm v r
  by_cases e : v = p.1
  ·refine ⟨some 0,?_,p,rfl,e.symm,?_⟩
   ·simp only [List.map_cons,findK,nm_keyEq,decide_eq_true e]
   ·simp [lk,e]
  ·have hk : lk (p :: r) v = lk r v := by simp only [lk]; rw [if_neg fun h => e h.symm]
   refine ⟨o.map (· + 1),?_,?_⟩
   ·simp only [List.map_cons,findK,nm_keyEq,decide_eq_false e,h1]
    cases o <;> rfl
   ·cases o with
    | none => simp only [Option.map_none]; rw [hk]; exact h2
    | some i =>
     obtain ⟨q,q1,q2,q3⟩ := h2
     simp only [Option.map_some]
     exact ⟨q,by simpa using q1,q2,by rw [hk]; exact q3⟩
abbrev Told (u : AVal) (t : List Cel) : Prop := ∀ σ' : Store,SlOf σ' 5 u (CC t)
theorem Told.nil : Told .nilslice [] := fun σ' => SlOf.nil σ' 5
structure HeapP (σ : Store) (id mid : Nat) (vs : List AVal) (H : Hp) : Prop where
 obj : σ[id]? = some (.cells [.map mid])
 map : σ[mid]? = some (.map (H.map fun p => nmV p.1) vs)
 vals : Two (fun u p => Told u p.2) vs H
 wf : WF H
theorem HeapP.keeps {σ σ' : Store} {id mid : Nat} {vs : List AVal} {H : Hp} (h : HeapP σ id mid vs H) {M : Nat → Prop} (hk : Keeps M σ σ') (h1 : ¬ M id) (h2 : ¬ M mid) : HeapP σ' id mid vs H :=
 ⟨hk.get h.obj h1,hk.get h.map h2,h.vals,h.wf⟩
theorem HeapP.grow {σ σ' : Store} {id mid : Nat} {vs : List AVal} {H : Hp} (h : HeapP σ id mid vs H) (hk : Grows σ σ') : HeapP σ' id mid vs H := h.keeps hk (fun h => h) (fun h => h)
theorem HeapP.look {σ : Store} {id mid : Nat} {vs : List AVal} {H : Hp} (h : HeapP σ id mid vs H) (v : Nm) :
  ∃ u,lookupV σ true [.i,.i] .nilslice (.map mid) (nmV v) true = some (.tuple [u,.bool (lk H v).isSome]) ∧ Told u ((lk H v).getD []) := by
 obtain ⟨o,h1,h2⟩ := find_nm v H
 have hk : keyEq true [.i,.i] (nmV v) (nmV v) = some true := by rw [nm_keyEq,decide_eq_true rfl]
 have hf : findKK true [.i,.i] (nmV v) (H.map fun p => nmV p.1) = some o := by simp only [findKK,hk,Option.isSome_some,if_true,h1]
 have hm : mapOf σ (.map mid) = some (H.map fun p => nmV p.1,vs) := by simp only [mapOf,h.map]
 cases o with
 | none =>
  refine ⟨.nilslice,?_,?_⟩
  ·simp only [lookupV,hm,hf,h2,Option.isSome_none,if_true]
  ·rw [h2]; exact Told.nil
 | some i =>
  obtain ⟨p,p1,p2,p3⟩ := h2
  obtain ⟨hi,hpe⟩ := List.getElem?_eq_some_iff.1 p1
  obtain ⟨u,u1,u2⟩ := h.vals.get hi
  refine ⟨u,?_,?_⟩
  ·simp only [lookupV,hm,hf,u1,Option.map_some,p3,Option.isSome_some,if_true]
  ·rw [p3]; rw [hpe] at u2; exact u2
theorem HeapP.set {σ : Store} {id mid : Nat} {vs : List AVal} {H : Hp} (h : HeapP σ id mid vs H) {v : Nm} {u : AVal} {t : List Cel} (hl : lk H v = none) (hu : Told u t) (hok : okB (v,t)) :
  ∃ σ',mapsetV σ true [.i,.i] (.map mid) (nmV v) u = some σ' ∧ HeapP σ' id mid (vs ++ [u]) (H ++ [(v,t)]) ∧ Keeps (fun i => i = mid) σ σ' := by
 obtain ⟨o,h1,h2⟩ := find_nm v H
 have hk : keyEq true [.i,.i] (nmV v) (nmV v) = some true := by rw [nm_keyEq,decide_eq_true rfl]
 have hf : findKK true [.i,.i] (nmV v) (H.map fun p => nmV p.1) = some o := by simp only [findKK,hk,Option.isSome_some,if_true,h1]
 have hmo := h.map
 have ho : o = none := by
  cases o with
  | none => rfl
  | some i => obtain ⟨p,_,_,p3⟩ := h2; rw [hl] at p3; cases p3
 subst ho
 have hne : id ≠ mid := fun e => by have h1 := h.obj; rw [e,h.map] at h1; cases h1
 refine ⟨σ.set mid (.map ((H.map fun p => nmV p.1) ++ [nmV v]) (vs ++ [u])),by simp only [mapsetV,hmo,hf],⟨?_,?_,h.vals.push hu,?_⟩,Keeps.set _ _ _⟩
 ·rw [List.getElem?_set_ne (fun e => hne e.symm)]; exact h.obj
 ·rw [get_set h.map]; simp
 ·have := h.wf.bind v t
  rwa [bindH,if_pos (bindE_of hok hl)] at this
def HeapV (σ : Store) (hv : AVal) (H : Hp) : Prop := (hv = .nilptr ∧ H = []) ∨ ∃ id mid vs,hv = .ptr id 0 ∧ HeapP σ id mid vs H
theorem HeapV.wf {σ : Store} {hv : AVal} {H : Hp} (h : HeapV σ hv H) : WF H := by
 rcases h with ⟨_,rfl⟩ | ⟨_,_,_,_,h⟩
 ·exact WF.nil
 ·exact h.wf
theorem HeapV.grow {σ σ' : Store} {hv : AVal} {H : Hp} (h : HeapV σ hv H) (g : Grows σ σ') : HeapV σ' hv H := by
 rcases h with h | ⟨id,mid,vs,e,h⟩
 ·exact .inl h
 ·exact .inr ⟨id,mid,vs,e,h.grow g⟩
theorem HeapP.v {σ : Store} {id mid : Nat} {vs : List AVal} {H : Hp} (h : HeapP σ id mid vs H) : HeapV σ (.ptr id 0) H := .inr ⟨id,mid,vs,rfl,h⟩
theorem frz_fs (σ : Store) (t n t' : Nat) (full : Bool) (sz : Nat) (es : List AVal) : frz σ t (n + 1) (.fslice t' full sz es) = match mapO (frz σ t n) es with
 | some es' => some (.fslice (max t' (AVal.tagL es')) full sz es')
 | none => none := rfl
theorem frz_sl (σ : Store) (t n sz id ep off len : Nat) (cap : Option Nat) : frz σ t (n + 1) (.slice sz id ep off len cap) = match σ[id]? with
 | some (.arr _ es _ fl) => if fl ≤ ep then
   match mapO (frz σ t n) ((es.drop off).take len) with
   | some es' => some (.fslice (max t (AVal.tagL es')) (cap == some len) sz es')
   | none => none
  else none
 | _ => none := rfl
theorem frz_cel (σ : Store) (t n : Nat) (c : Cel) : frz σ t (n + 2) c.val = some c.val := rfl
theorem mapO_cel (σ : Store) (t n : Nat) : ∀ l : List Cel,mapO (frz σ t (n + 2)) (CC l) = some (CC l)
 | [] => rfl
 | c :: l => by
  have ih := mapO_cel σ t n l
  simp only [List.map_cons,mapO,frz_cel] at ih ⊢
  rw [ih]
theorem tagL_cel : ∀ l : List Cel,AVal.tagL (CC l) = 0
 | [] => rfl
 | c :: l => by
  have ih := tagL_cel l
  simp only [List.map_cons,AVal.tagL] at ih ⊢
  rw [ih]; rfl
theorem frz_cells {σ : Store} {v : AVal} {t : List Cel} (h : SlOf σ 5 v (CC t)) (tg n : Nat) : ∃ v',frz σ tg (n + 3) v = some v' ∧ Told v' t := by
 rcases h.cases with ⟨rfl,he⟩ | ⟨t',full,rfl⟩ | ⟨id,ep,off,cap,sz',xs,epo,fl,rfl,ho,hf,he,_⟩
 ·have : t = [] := by simpa using he
  subst this
  exact ⟨.nilslice,rfl,Told.nil⟩
 ·refine ⟨.fslice (max t' 0) full 5 (CC t),?_,fun σ' => SlOf.fs _ _ _ _ _⟩
  rw [frz_fs,mapO_cel]
  simp only [tagL_cel]
 ·refine ⟨.fslice (max tg 0) (cap == some (CC t).length) 5 (CC t),?_,fun σ' => SlOf.fs _ _ _ _ _⟩
  rw [frz_sl,ho]
  simp only [hf,if_true,← he,mapO_cel,tagL_cel]
theorem frz_own {σ : Store} {v : AVal} {t : List Cel} (h : Own σ 5 v (CC t)) (hn : NoLit v) (ht : t ≠ []) (n : Nat) : ∃ v',frz σ 0 (n + 3) v = some v' ∧ Told v' t ∧ v'.tag = 0 := by
 rcases h.own with ⟨rfl,he⟩ | ⟨t',rfl⟩ | ⟨id,ep,off,cap,xs,epo,fl,rfl,ho,hf,he,_⟩
 ·exact absurd (by simpa using he) ht
 ·have : CC t = [] := hn
  exact absurd (by simpa using this) ht
 ·refine ⟨.fslice (max 0 0) (cap == some (CC t).length) 5 (CC t),?_,fun σ' => SlOf.fs _ _ _ _ _,rfl⟩
  rw [frz_sl,ho]
  simp only [hf,if_true,← he,mapO_cel,tagL_cel]
section
variable (d : Nat) (σ : Store)
theorem isoclone (b : AVal) (t : List Cel) (hs : t.length < 2 ^ 30) (ht : t ≠ []) (hb : SlOf σ 5 b (CC t)) {fr : List AVal} {K : List AVal → Store → AVal → Prop} {w : Wit K} (hk : ∀ u,Told u t → K fr σ u) : isoW CU.cfg d 82 [b] fr σ K w := by
 unfold isoW callP
 obtain ⟨b',e1,e2⟩ := frz_cells hb (d + 1) 13
 refine ⟨[b'],by simp only [frzFuel,mapO,e1],(cclone_ok (d + 1) [] b' t hs (e2 [])).mono ?_⟩
 rintro v σ1 ⟨_,ho,_,hn⟩
 obtain ⟨v',f1,f2,f3⟩ := frz_own ho hn ht 13
 exact ⟨v',f1,by omega,hk v' f2⟩
theorem less_ok (a b : Nm) : Called CU.cfg d 81 [nmV a,nmV b] σ fun v σ' => v = .bool (nless a b) ∧ Grows σ σ' := by
 refine called_of (fn := CU.a81) rfl (Nat.le_of_ble_eq_true rfl) ?_
 simp only [CU.a81, CU.o]
 simp -dsimp only [↓WPd,↓Zm,↓Zn,WPu,Za,Zb,Zc,Zd,Ze,Zf,Zg,Zh,Nat.reduceEqDiff,Nat.reduceLT,Zi,Zj,Zk,Zl,Nat.reduceBEq,nm_cells,nm_one]
 have g0 : Grows σ (σ ++ [AObj.cells (nmC a)] ++ [AObj.cells (nmC b)]) := Grows.trans (Grows.app _ _) (Grows.app _ _)
 have h1 : (σ ++ [AObj.cells (nmC a)] ++ [AObj.cells (nmC b)])[σ.length]? = some (.cells (nmC a)) := by simp
 have h2 : (σ ++ [AObj.cells (nmC a)] ++ [AObj.cells (nmC b)])[(σ ++ [AObj.cells (nmC a)]).length]? = some (.cells (nmC b)) := by simp
 generalize σ ++ [AObj.cells (nmC a)] ++ [AObj.cells (nmC b)] = σ1 at g0 h1 h2
 generalize (σ ++ [AObj.cells (nmC a)]).length = i2 at h2
 simp -dsimp only [↓WPd,↓Zm,↓Zn,WPu,Za,Zb,Zc,Zd,Ze,Zf,Zg,Zh,Nat.reduceEqDiff,Nat.reduceLT,Zi,Zj,Zk,Zl,Nat.reduceBEq,WPm,faddr_ptr,load_cells h1,load_cells h2,nm_g0,nm_g1]
 refine ⟨?_,g0⟩
 simp only [nless,int_beq]
theorem rless_ok (a b : Nm) : Called CU.cfg d 89 [nmV a,nmV b] σ fun v σ' => v = .bool (nless a b) ∧ Grows σ σ' := by
 refine called_of (fn := CU.a89) rfl (Nat.le_of_ble_eq_true rfl) ?_
 simp only [CU.a89, CU.o]
 simp -dsimp only [↓WPd,↓Zm,↓Zn,WPu,Za,Zb,Zc,Zd,Ze,Zf,Zg,Zh,Nat.reduceEqDiff,Nat.reduceLT,Zi,Zj,Zk,Zl,Nat.reduceBEq,nm_cells,nm_one]
 have g0 : Grows σ (σ ++ [AObj.cells (nmC a)] ++ [AObj.cells (nmC b)]) := Grows.trans (Grows.app _ _) (Grows.app _ _)
 have h1 : (σ ++ [AObj.cells (nmC a)] ++ [AObj.cells (nmC b)])[σ.length]? = some (.cells (nmC a)) := by simp
 have h2 : (σ ++ [AObj.cells (nmC a)] ++ [AObj.cells (nmC b)])[(σ ++ [AObj.cells (nmC a)]).length]? = some (.cells (nmC b)) := by simp
 generalize σ ++ [AObj.cells (nmC a)] ++ [AObj.cells (nmC b)] = σ1 at g0 h1 h2
 generalize (σ ++ [AObj.cells (nmC a)]).length = i2 at h2
 simp -dsimp only [↓WPd,↓Zm,↓Zn,WPu,Za,Zb,Zc,Zd,Ze,Zf,Zg,Zh,Nat.reduceEqDiff,Nat.reduceLT,Zi,Zj,Zk,Zl,Nat.reduceBEq,WPm,faddr_ptr,load_cells h1,load_cells h2,nm_g0,nm_g1]
 refine ⟨?_,g0⟩
 simp only [nless,int_beq]
end
def Small (t : List Cel) : Prop := t.length < 2 ^ 30 ∧ ∀ c ∈ t,c.k < 256 ∧ c.s.length < 2 ^ 40
theorem isName_len {s : List UInt8} (h : isName s = true) : s.length ≤ 16 := by
 cases s with
 | nil => simp [isName] at h
 | cons c r => simp only [isName,Bool.and_eq_true,decide_eq_true_eq] at h; simp; omega
theorem ok_small {c : Cel} (h : c.ok = true) : c.k < 256 ∧ c.s.length < 2 ^ 40 := by
 unfold Cel.ok at h
 split at h
 ·rename_i hk; simp only [Bool.and_eq_true,decide_eq_true_eq] at h; rw [h.1.1.1]; simp; omega
 ·split at h
  ·simp only [Bool.and_eq_true] at h; have := isName_len h.1.1; omega
  ·split at h
   ·rename_i hk
    simp only [Bool.and_eq_true,Bool.or_eq_true] at h
    rcases h.2 with h | h
    ·have := isName_len h.1.1; omega
    ·have hm : c.s ∈ signsL := by simpa using h.1
     have : ∀ s ∈ signsL,s.length ≤ 3 := by decide
     have := this _ hm; omega
   ·split at h
    ·rename_i hk; simp only [Bool.and_eq_true,decide_eq_true_eq] at h; rw [h.1.1.1.1]; simp; omega
    ·cases h
theorem right_small {t : List Cel} (h : right t = true) : Small t := ⟨by have := right_len h; omega,fun c hc => ok_small (right_ok_mem h hc)⟩
section
variable (d : Nat) (σ : Store)
theorem globc_ok (c : Cel) : Called CU.cfg d 127 [c.val] σ fun v σ' => v = .bool (decide (c.k = 4) && decide (c.v.1 = -1)) ∧ Grows σ σ' := by
 refine called_of (fn := CU.a127) rfl (Nat.le_of_ble_eq_true rfl) ?_
 simp only [CU.a127, CU.o]
 simp -dsimp only [↓WPd,↓Zm,↓Zn,WPu,Za,Zb,Zc,Zd,Ze,Zf,Zg,Zh,Nat.reduceEqDiff,Nat.reduceLT,Zi,Zj,Zk,Zl,Nat.reduceBEq,Cel.cells,Cel.one]
 have ho : (σ ++ [AObj.cells c.cs])[σ.length]? = some (.cells c.cs) := by simp
 have g0 : Grows σ (σ ++ [AObj.cells c.cs]) := Grows.app _ _
 generalize σ ++ [AObj.cells c.cs] = σ1 at ho g0
 have key : ((c.k : Int) == 4) = decide (c.k = 4) := by by_cases h : c.k = 4 <;> simp [h] <;> omega
 simp -dsimp only [↓WPd,↓Zm,↓Zn,WPu,Za,Zb,Zc,Zd,Ze,Zf,Zg,Zh,Nat.reduceEqDiff,Nat.reduceLT,Zi,Zj,Zk,Zl,Nat.reduceBEq,WPm,faddr_ptr,load_cells ho,Cel.g0,Cel.g3,key,int_beq,Nat.add_zero]
 exact g0
theorem global_ok (l : AVal) (t : List Cel) (hs : Small t) (hl : SlOf σ 5 l (CC t)) : Called CU.cfg d 79 [l] σ fun v σ' => v = .bool (glob t) ∧ Grows σ σ' := by
 refine called_of (fn := CU.a79) rfl (Nat.le_of_ble_eq_true rfl) ?_
 simp only [CU.a79, CU.o]
 simp -dsimp only [↓WPd,↓Zm,↓Zn,WPu,Za,Zb,Zc,Zd,Ze,Zf,Zg,Zh,Nat.reduceEqDiff,Nat.reduceLT,Zi,Zj,Zk,Zl,Nat.reduceBEq,WPm]
 refine calledW_of (right_ok d σ l t hs.1 hs.2 hl) ?_
 rintro v σ1 ⟨rfl,g1⟩
 have hl1 := hl.grow g1
 rw [glob_eq]
 cases hr : right t with
 | false =>
  simp -dsimp only [↓WPd,↓Zm,↓Zn,WPu,Za,Zb,Zc,Zd,Ze,Zf,Zg,Zh,Nat.reduceEqDiff,Nat.reduceLT,Zi,Zj,Zk,Zl,Nat.reduceBEq,WPm]
  exact ⟨by simp,g1⟩
 | true =>
  simp -dsimp only [↓WPd,↓Zm,↓Zn,WPu,Za,Zb,Zc,Zd,Ze,Zf,Zg,Zh,Nat.reduceEqDiff,Nat.reduceLT,Zi,Zj,Zk,Zl,Nat.reduceBEq,WPm]
  refine calledW_of (ccontains_ok d σ1 127 (fun c => decide (c.k = 4) && decide (c.v.1 = -1)) l t (by have := hs.1; omega) hl1 (fun c σ' _ => globc_ok d σ' c)) ?_
  rintro v σ2 ⟨rfl,g2⟩
  simp -dsimp only [↓WPd,↓Zm,↓Zn,WPu,Za,Zb,Zc,Zd,Ze,Zf,Zg,Zh,Nat.reduceEqDiff,Nat.reduceLT,Zi,Zj,Zk,Zl,Nat.reduceBEq,WPm]
  exact ⟨by simp,g1.trans g2⟩
theorem rglobal_ok (l : AVal) (t : List Cel) (hs : t.length < 2 ^ 30) (hl : SlOf σ 5 l (CC t)) : Called CU.cfg d 87 [l] σ fun v σ' => v = .bool (glob t) ∧ Grows σ σ' := by
 refine called_of (fn := CU.a87) rfl (Nat.le_of_ble_eq_true rfl) ?_
 simp only [CU.a87, CU.o]
 simp -dsimp only [↓WPd,↓Zm,↓Zn,WPu,Za,Zb,Zc,Zd,Ze,Zf,Zg,Zh,Nat.reduceEqDiff,Nat.reduceLT,Zi,Zj,Zk,Zl,Nat.reduceBEq,WPm]
 refine calledW_of (rright_ok d σ l t hs hl) ?_
 rintro v σ1 ⟨rfl,g1⟩
 have hl1 := hl.grow g1
 have ll := hl1.len
 rw [List.length_map] at ll
 unfold glob
 cases hr : right t with
 | false =>
  simp -dsimp only [↓WPd,↓Zm,↓Zn,WPu,Za,Zb,Zc,Zd,Ze,Zf,Zg,Zh,Nat.reduceEqDiff,Nat.reduceLT,Zi,Zj,Zk,Zl,Nat.reduceBEq,WPm]
  exact ⟨by simp,g1⟩
 | true =>
  simp -dsimp only [↓WPd,↓Zm,↓Zn,WPu,Za,Zb,Zc,Zd,Ze,Zf,Zg,Zh,Nat.reduceEqDiff,Nat.reduceLT,Zi,Zj,Zk,Zl,Nat.reduceBEq,WPm,Bool.true_and]
  refine loop_rule (fun m vs σ' => ∃ k : Nat,k ≤ t.length ∧ m = t.length - k ∧ vs = [l,.int .i64 k] ∧ σ' = σ1 ∧ ((t.take k).all fun c => !(decide (c.k = 4) && decide (c.v.1 < 0))) = true) t.length ⟨0,Nat.zero_le _,rfl,?_,rfl,rfl⟩ ?_
  ·simp -dsimp only [↓WPd,↓Zm,↓Zn,WPu,Za,Zb,Zc,Zd,Ze,Zf,Zg,Zh,Nat.reduceEqDiff,Nat.reduceLT,Zi,Zj,Zk,Zl,Nat.reduceBEq]; rfl
  ·rintro m vs σ' ⟨k,hk,rfl,rfl,rfl,ha⟩
   simp -dsimp only [↓WPd,↓Zm,↓Zn,WPu,Za,Zb,Zc,Zd,Ze,Zf,Zg,Zh,Nat.reduceEqDiff,Nat.reduceLT,Zi,Zj,Zk,Zl,Nat.reduceBEq,ll]
   refine condP_dec (fun h => ?_) (fun h => ?_)
   ·have hk' : k < t.length := by omega
    have hi : k < (CC t).length := by rw [List.length_map]; exact hk'
    have hb := (hl1.addr hi .i64).2
    rw [cel_get] at hb
    obtain ⟨q0,p0,r0⟩ := faddr_load hb 0
    obtain ⟨q3,p3,b3⟩ := faddr_at hb 3
    obtain ⟨q4,p4,b4⟩ := faddr_at b3 0
    have r4 := load_at b4
    have r0' : loadV σ' 1 false q0 = some (.int .u8 (t[k]).k) := r0
    have r4' : loadV σ' 1 false q4 = some (.int .i64 (t[k]).v.1) := r4
    have ia := hl1.iaddr hi .i64
    have key : (((t[k]).k : Int) == 4) = decide ((t[k]).k = 4) := by by_cases h : (t[k]).k = 4 <;> simp [h] <;> omega
    have ht : t.take (k + 1) = t.take k ++ [t[k]] := List.take_succ_eq_append_getElem hk'
    simp -dsimp only [↓WPd,↓Zm,↓Zn,WPu,Za,Zb,Zc,Zd,Ze,Zf,Zg,Zh,Nat.reduceEqDiff,Nat.reduceLT,Zi,Zj,Zk,Zl,Nat.reduceBEq,WPm,ia,p0,r0',p3,p4,r4',key]
    refine condP_intro (fun h => ?_) (fun h => ?_)
    ·simp -dsimp only [↓WPd,↓Zm,↓Zn,WPu,Za,Zb,Zc,Zd,Ze,Zf,Zg,Zh,Nat.reduceEqDiff,Nat.reduceLT,Zi,Zj,Zk,Zl,Nat.reduceBEq]
     have : (t.all fun c => !(decide (c.k = 4) && decide (c.v.1 < 0))) = false := by
      rw [List.all_eq_false]
      exact ⟨t[k],List.getElem_mem hk',by simp only [h,Bool.not_true]; simp⟩
     rw [this]
     exact ⟨rfl,g1⟩
    ·simp -dsimp only [↓WPd,↓Zm,↓Zn,WPu,Za,Zb,Zc,Zd,Ze,Zf,Zg,Zh,Nat.reduceEqDiff,Nat.reduceLT,Zi,Zj,Zk,Zl,Nat.reduceBEq]
     refine ⟨t.length - (k + 1),by omega,k + 1,by omega,rfl,?_,?_⟩
     ·rw [wrap_i64 (by omega) (by omega),Int.natCast_add,Int.natCast_one]
     ·rw [ht,List.all_append,ha]; simp only [List.all_cons,List.all_nil,h]; rfl
   ·simp -dsimp only [↓WPd,↓Zm,↓Zn,WPu,Za,Zb,Zc,Zd,Ze,Zf,Zg,Zh,Nat.reduceEqDiff,Nat.reduceLT,Zi,Zj,Zk,Zl,Nat.reduceBEq]
    have : k = t.length := by omega
    subst this
    rw [List.take_length] at ha
    rw [ha]
    exact ⟨rfl,g1⟩
end
def varT (v : Nm) : List Cel := if okVar v then [vCel v] else []
theorem vcel_build (v : Nm) : fillA [AVal.int IntKind.u8 0,AVal.str [],AVal.int IntKind.i64 0,AVal.int IntKind.i64 0,AVal.int IntKind.i64 0] [(0,1,AVal.int IntKind.u8 4),(3,2,nmV v)] = some (vCel v).cs := rfl
theorem cel_lit (c : Cel) : fillL 5 true (List.replicate 1 (zel [AVal.int IntKind.u8 0,AVal.str [],AVal.int IntKind.i64 0,AVal.int IntKind.i64 0,AVal.int IntKind.i64 0] true)) [(0,c.val)] = some [c.val] := rfl
theorem Told.lit (tg : Nat) (full : Bool) (t : List Cel) : Told (.fslice tg full 5 (CC t)) t := fun σ' => SlOf.fs _ _ _ _ _
section
variable (d : Nat) (σ : Store)
theorem single_ok (c : Cel) (hk : c.k < 256 ∧ c.s.length < 2 ^ 40) : Called CU.cfg d 155 [c.val] σ fun r σ' => Told r (if right [c] then [c] else []) ∧ Grows σ σ' := by
 refine called_of (fn := CU.a155) rfl (Nat.le_of_ble_eq_true rfl) ?_
 simp only [CU.a155, CU.o]
 simp -dsimp only [↓WPd,↓Zm,↓Zn,WPu,Za,Zb,Zc,Zd,Ze,Zf,Zg,Zh,Nat.reduceEqDiff,Nat.reduceLT,Zi,Zj,Zk,Zl,Nat.reduceBEq,Cel.cells,Cel.one]
 have ho : (σ ++ [AObj.cells c.cs])[σ.length]? = some (.cells c.cs) := by simp
 have g0 : Grows σ (σ ++ [AObj.cells c.cs]) := Grows.app _ _
 generalize σ ++ [AObj.cells c.cs] = σ1 at ho g0
 generalize σ.length = i1 at ho
 simp -dsimp only [↓WPd,↓Zm,↓Zn,WPu,Za,Zb,Zc,Zd,Ze,Zf,Zg,Zh,Nat.reduceEqDiff,Nat.reduceLT,Zi,Zj,Zk,Zl,Nat.reduceBEq,cell_load ho,cel_lit]
 refine calledW_of (right_ok d σ1 _ [c] (by simp) (fun x hx => by simp at hx; subst hx; exact hk) (SlOf.fs σ1 5 _ _ _)) ?_
 rintro v σ2 ⟨rfl,g2⟩
 cases hr : right [c] with
 | false =>
  simp -dsimp only [↓WPd,↓Zm,↓Zn,WPu,Za,Zb,Zc,Zd,Ze,Zf,Zg,Zh,Nat.reduceEqDiff,Nat.reduceLT,Zi,Zj,Zk,Zl,Nat.reduceBEq]
  exact ⟨Told.nil,g0.trans g2⟩
 | true =>
  simp -dsimp only [↓WPd,↓Zm,↓Zn,WPu,Za,Zb,Zc,Zd,Ze,Zf,Zg,Zh,Nat.reduceEqDiff,Nat.reduceLT,Zi,Zj,Zk,Zl,Nat.reduceBEq]
  exact ⟨Told.lit _ _ [c],g0.trans g2⟩
theorem ofvar_ok (v : Nm) : Called CU.cfg d 112 [nmV v] σ fun r σ' => Told r (varT v) ∧ Grows σ σ' := by
 refine called_of (fn := CU.a112) rfl (Nat.le_of_ble_eq_true rfl) ?_
 simp only [CU.a112, CU.o]
 simp -dsimp only [↓WPd,↓Zm,↓Zn,WPu,Za,Zb,Zc,Zd,Ze,Zf,Zg,Zh,Nat.reduceEqDiff,Nat.reduceLT,Zi,Zj,Zk,Zl,Nat.reduceBEq,nm_cells,nm_one]
 have ho : (σ ++ [AObj.cells (nmC v)])[σ.length]? = some (.cells (nmC v)) := by simp
 have g0 : Grows σ (σ ++ [AObj.cells (nmC v)]) := Grows.app _ _
 generalize σ ++ [AObj.cells (nmC v)] = σ1 at ho g0
 generalize σ.length = i1 at ho
 simp -dsimp only [↓WPd,↓Zm,↓Zn,WPu,Za,Zb,Zc,Zd,Ze,Zf,Zg,Zh,Nat.reduceEqDiff,Nat.reduceLT,Zi,Zj,Zk,Zl,Nat.reduceBEq,load_nm ho,vcel_build]
 refine calledW_of (single_ok d σ1 (vCel v) ⟨by simp [vCel],by simp [vCel]⟩) ?_
 rintro r σ2 ⟨h,g2⟩
 simp -dsimp only [↓WPd,↓Zm,↓Zn,WPu,Za,Zb,Zc,Zd,Ze,Zf,Zg,Zh,Nat.reduceEqDiff,Nat.reduceLT,Zi,Zj,Zk,Zl,Nat.reduceBEq]
 rw [right_var] at h
 exact ⟨h,g0.trans g2⟩
theorem rone_ok (c : Cel) : Called CU.cfg d 156 [c.val] σ fun r σ' => Told r (if c.ok then [c] else []) ∧ Grows σ σ' := by
 refine called_of (fn := CU.a156) rfl (Nat.le_of_ble_eq_true rfl) ?_
 simp only [CU.a156, CU.o]
 simp -dsimp only [↓WPd,↓Zm,↓Zn,WPu,Za,Zb,Zc,Zd,Ze,Zf,Zg,Zh,Nat.reduceEqDiff,Nat.reduceLT,Zi,Zj,Zk,Zl,Nat.reduceBEq,Cel.cells,Cel.one]
 have ho : (σ ++ [AObj.cells c.cs])[σ.length]? = some (.cells c.cs) := by simp
 have g0 : Grows σ (σ ++ [AObj.cells c.cs]) := Grows.app _ _
 generalize σ ++ [AObj.cells c.cs] = σ1 at ho g0
 generalize σ.length = i1 at ho
 simp -dsimp only [↓WPd,↓Zm,↓Zn,WPu,Za,Zb,Zc,Zd,Ze,Zf,Zg,Zh,Nat.reduceEqDiff,Nat.reduceLT,Zi,Zj,Zk,Zl,Nat.reduceBEq,cell_load ho]
 refine calledW_of (cell_ok d σ1 c) ?_
 rintro v σ2 ⟨rfl,g2⟩
 have ho2 := g2.get ho
 cases hr : c.ok with
 | false =>
  simp -dsimp only [↓WPd,↓Zm,↓Zn,WPu,Za,Zb,Zc,Zd,Ze,Zf,Zg,Zh,Nat.reduceEqDiff,Nat.reduceLT,Zi,Zj,Zk,Zl,Nat.reduceBEq]
  exact ⟨Told.nil,g0.trans g2⟩
 | true =>
  simp -dsimp only [↓WPd,↓Zm,↓Zn,WPu,Za,Zb,Zc,Zd,Ze,Zf,Zg,Zh,Nat.reduceEqDiff,Nat.reduceLT,Zi,Zj,Zk,Zl,Nat.reduceBEq,cell_load ho2,cel_lit]
  exact ⟨Told.lit _ _ [c],g0.trans g2⟩
theorem rofvar_ok (v : Nm) : Called CU.cfg d 113 [nmV v] σ fun r σ' => Told r (varT v) ∧ Grows σ σ' := by
 refine called_of (fn := CU.a113) rfl (Nat.le_of_ble_eq_true rfl) ?_
 simp only [CU.a113, CU.o]
 simp -dsimp only [↓WPd,↓Zm,↓Zn,WPu,Za,Zb,Zc,Zd,Ze,Zf,Zg,Zh,Nat.reduceEqDiff,Nat.reduceLT,Zi,Zj,Zk,Zl,Nat.reduceBEq,nm_cells,nm_one]
 have ho : (σ ++ [AObj.cells (nmC v)])[σ.length]? = some (.cells (nmC v)) := by simp
 have g0 : Grows σ (σ ++ [AObj.cells (nmC v)]) := Grows.app _ _
 generalize σ ++ [AObj.cells (nmC v)] = σ1 at ho g0
 generalize σ.length = i1 at ho
 simp -dsimp only [↓WPd,↓Zm,↓Zn,WPu,Za,Zb,Zc,Zd,Ze,Zf,Zg,Zh,Nat.reduceEqDiff,Nat.reduceLT,Zi,Zj,Zk,Zl,Nat.reduceBEq,load_nm ho,vcel_build]
 refine calledW_of (rone_ok d σ1 (vCel v)) ?_
 rintro r σ2 ⟨h,g2⟩
 simp -dsimp only [↓WPd,↓Zm,↓Zn,WPu,Za,Zb,Zc,Zd,Ze,Zf,Zg,Zh,Nat.reduceEqDiff,Nat.reduceLT,Zi,Zj,Zk,Zl,Nat.reduceBEq]
 exact ⟨h,g0.trans g2⟩
theorem hnew_ok : Called CU.cfg d 55 [] σ fun r σ' => ∃ id mid,r = .ptr id 0 ∧ HeapP σ' id mid [] [] ∧ Grows σ σ' ∧ id < σ'.length ∧ mid < σ'.length ∧ σ.length ≤ id ∧ σ.length ≤ mid := by
 refine called_of (fn := CU.a55) rfl (Nat.le_of_ble_eq_true rfl) ?_
 have e1 : fillA [AVal.nilmap] [(0,1,AVal.map σ.length)] = some [AVal.map σ.length] := rfl
 have e2 : [AVal.map σ.length].all AVal.one = true := rfl
 simp only [CU.a55, CU.o]
 simp -dsimp only [↓WPd,↓Zm,↓Zn,WPu,Za,Zb,Zc,Zd,Ze,Zf,Zg,Zh,Nat.reduceEqDiff,Nat.reduceLT,Zi,Zj,Zk,Zl,Nat.reduceBEq,e1,e2,cells_agg]
 refine ⟨_,σ.length,rfl,⟨by simp,?_,.nil,WF.nil⟩,Grows.trans (Grows.app _ _) (Grows.app _ _),by simp,by simp,by simp,Nat.le_refl _⟩
 simp
theorem value_ok (hv : AVal) (H : Hp) (v : Nm) (h : HeapV σ hv H) : Called CU.cfg d 159 [hv,nmV v] σ fun r σ' => ∃ u,r = .tuple [u,.bool (lk H v).isSome] ∧ Told u ((lk H v).getD []) ∧ Grows σ σ' := by
 refine called_of (fn := CU.a159) rfl (Nat.le_of_ble_eq_true rfl) ?_
 simp only [CU.a159, CU.o]
 simp -dsimp only [↓WPd,↓Zm,↓Zn,WPu,Za,Zb,Zc,Zd,Ze,Zf,Zg,Zh,Nat.reduceEqDiff,Nat.reduceLT,Zi,Zj,Zk,Zl,Nat.reduceBEq,nm_cells,nm_one]
 have ho : (σ ++ [AObj.cells (nmC v)])[σ.length]? = some (.cells (nmC v)) := by simp
 have g0 : Grows σ (σ ++ [AObj.cells (nmC v)]) := Grows.app _ _
 have h1 := h.grow g0
 generalize σ ++ [AObj.cells (nmC v)] = σ1 at ho g0 h1
 generalize σ.length = i1 at ho
 rcases h1 with ⟨rfl,rfl⟩ | ⟨id,mid,vs,rfl,hp⟩
 ·have e : isNil .p .nilptr = some true := rfl
  simp -dsimp only [↓WPd,↓Zm,↓Zn,WPu,Za,Zb,Zc,Zd,Ze,Zf,Zg,Zh,Nat.reduceEqDiff,Nat.reduceLT,Zi,Zj,Zk,Zl,Nat.reduceBEq,e]
  exact ⟨.nilslice,rfl,Told.nil,g0⟩
 ·obtain ⟨u,l1,l2⟩ := hp.look v
  have e0 : ([AVal.map mid] : List AVal)[0]? = some (.map mid) := rfl
  simp -dsimp only [↓WPd,↓Zm,↓Zn,WPu,Za,Zb,Zc,Zd,Ze,Zf,Zg,Zh,Nat.reduceEqDiff,Nat.reduceLT,Zi,Zj,Zk,Zl,Nat.reduceBEq,isnil_ptr,faddr_ptr,Nat.add_zero,load_cells hp.obj,e0,load_nm ho,l1,List.getElem?_cons_zero,List.getElem?_cons_succ]
  exact ⟨u,rfl,l2,g0⟩
theorem next_ok (hv tv : AVal) (H : Hp) (t : List Cel) (h : HeapV σ hv H) (ht : SlOf σ 5 tv (CC t)) : Called CU.cfg d 162 [hv,tv] σ fun r σ' => ∃ u,r = .tuple [u,.bool (hnext H t).isSome] ∧ Told u ((hnext H t).getD []) ∧ Grows σ σ' := by
 refine called_of (fn := CU.a162) rfl (Nat.le_of_ble_eq_true rfl) ?_
 have ll := ht.len
 rw [List.length_map] at ll
 simp only [CU.a162, CU.o]
 have k1 : ((t.length : Int) != 1) = !decide (t.length = 1) := by by_cases h : t.length = 1 <;> simp [h,bne] <;> omega
 by_cases h1 : t.length = 1
 ·obtain ⟨c,rfl⟩ := List.length_eq_one_iff.1 h1
  have hi0 : 0 < (CC [c]).length := by simp
  have hb := (ht.addr hi0 .i64).2
  rw [cel_get] at hb
  have hb' : behind σ (addrOf 5 tv 0) = some (c.cs,0) := hb
  obtain ⟨q0,p0,b0⟩ := faddr_at hb' 0
  obtain ⟨q3,p3,b3⟩ := faddr_at hb' 3
  have r0 : loadV σ 1 false q0 = some (.int .u8 c.k) := load_at b0
  have r3 : loadV σ 2 true q3 = some (nmV c.v) := loadN_at b3 (by simp [Cel.cs])
  have ia : iaddrV 5 tv (.int .i64 0) = some (addrOf 5 tv 0) := ht.iaddr hi0 .i64
  have k4 : ((c.k : Int) != 4) = !decide (c.k = 4) := by by_cases h : c.k = 4 <;> simp [h,bne] <;> omega
  simp -dsimp only [↓WPd,↓Zm,↓Zn,WPu,Za,Zb,Zc,Zd,Ze,Zf,Zg,Zh,Nat.reduceEqDiff,Nat.reduceLT,Zi,Zj,Zk,Zl,Nat.reduceBEq,WPm,ll,k1,decide_eq_true h1,ia,p0,r0,k4,Bool.false_or]
  refine condP_intro (fun hc => ?_) (fun hc => ?_)
  ·simp only [Bool.not_eq_true',decide_eq_false_iff_not] at hc
   have hn : hnext H [c] = none := by simp [hnext,hc]
   simp -dsimp only [↓WPd,↓Zm,↓Zn,WPu,Za,Zb,Zc,Zd,Ze,Zf,Zg,Zh,Nat.reduceEqDiff,Nat.reduceLT,Zi,Zj,Zk,Zl,Nat.reduceBEq,hn]
   exact ⟨.nilslice,rfl,Told.nil,Keeps.refl _ _⟩
  ·simp only [Bool.not_eq_false',decide_eq_true_eq] at hc
   have hn : hnext H [c] = lk H c.v := by simp [hnext,hc]
   simp -dsimp only [↓WPd,↓Zm,↓Zn,WPu,Za,Zb,Zc,Zd,Ze,Zf,Zg,Zh,Nat.reduceEqDiff,Nat.reduceLT,Zi,Zj,Zk,Zl,Nat.reduceBEq,ia,p3,r3]
   refine calledW_of (value_ok d σ hv H c.v h) ?_
   rintro r σ1 ⟨u,rfl,u1,g1⟩
   simp -dsimp only [↓WPd,↓Zm,↓Zn,WPu,Za,Zb,Zc,Zd,Ze,Zf,Zg,Zh,Nat.reduceEqDiff,Nat.reduceLT,Zi,Zj,Zk,Zl,Nat.reduceBEq,hn,List.getElem?_cons_zero,List.getElem?_cons_succ]
   exact ⟨u,rfl,u1,g1⟩
 ·have hn : hnext H t = none := by simp [hnext,h1]
  simp -dsimp only [↓WPd,↓Zm,↓Zn,WPu,Za,Zb,Zc,Zd,Ze,Zf,Zg,Zh,Nat.reduceEqDiff,Nat.reduceLT,Zi,Zj,Zk,Zl,Nat.reduceBEq,WPm,ll,k1,decide_eq_false h1,Bool.not_false,Bool.true_or,hn]
  exact ⟨.nilslice,rfl,Told.nil,Keeps.refl _ _⟩
theorem follow_ok (hv tv : AVal) (H : Hp) (t : List Cel) (h : HeapV σ hv H) (ht : SlOf σ 5 tv (CC t)) : Called CU.cfg d 128 [hv,tv] σ fun u σ' => SlOf σ' 5 u (CC (deref H t)) ∧ Grows σ σ' ∧ (u = tv ∨ Told u (deref H t)) := by
 refine called_of (fn := CU.a128) rfl (Nat.le_of_ble_eq_true rfl) ?_
 have hw := h.wf
 simp only [CU.a128, CU.o]
 simp -dsimp only [↓WPd,↓Zm,↓Zn,WPu,Za,Zb,Zc,Zd,Ze,Zf,Zg,Zh,Nat.reduceEqDiff,Nat.reduceLT,Zi,Zj,Zk,Zl,Nat.reduceBEq]
 refine calledW_of (next_ok d σ hv tv H t h ht) ?_
 rintro r σ1 ⟨u,rfl,u1,g1⟩
 simp -dsimp only [↓WPd,↓Zm,↓Zn,WPu,Za,Zb,Zc,Zd,Ze,Zf,Zg,Zh,Nat.reduceEqDiff,Nat.reduceLT,Zi,Zj,Zk,Zl,Nat.reduceBEq,List.getElem?_cons_zero,List.getElem?_cons_succ]
 refine loop_rule (fun m vs σ' => ∃ (x y : AVal) (s : List Cel),m = rank H s ∧ vs = [hv,x,y,.bool (hnext H s).isSome] ∧ Grows σ σ' ∧ SlOf σ' 5 x (CC s) ∧ (x = tv ∧ s = t ∨ Told x s) ∧ deref H s = deref H t ∧ Told y ((hnext H s).getD [])) (rank H t) ⟨tv,u,t,rfl,?_,g1,ht.grow g1,.inl ⟨rfl,rfl⟩,rfl,u1⟩ ?_
 ·simp -dsimp only [↓WPd,↓Zm,↓Zn,WPu,Za,Zb,Zc,Zd,Ze,Zf,Zg,Zh,Nat.reduceEqDiff,Nat.reduceLT,Zi,Zj,Zk,Zl,Nat.reduceBEq]
 ·rintro m vs σ' ⟨x,y,s,rfl,rfl,g,hx,hx2,hd,hy⟩
  cases hn : hnext H s with
  | none =>
   have ed := deref_none hn
   simp -dsimp only [↓WPd,↓Zm,↓Zn,WPu,Za,Zb,Zc,Zd,Ze,Zf,Zg,Zh,Nat.reduceEqDiff,Nat.reduceLT,Zi,Zj,Zk,Zl,Nat.reduceBEq,hn,Option.isSome_none]
   rw [ed] at hd
   refine ⟨by rw [← hd]; exact hx,g,?_⟩
   rcases hx2 with ⟨e,_⟩ | e
   ·exact .inl e
   ·exact .inr (by rw [← hd]; exact e)
  | some s' =>
   rw [hn] at hy
   simp only [Option.getD_some] at hy
   simp -dsimp only [↓WPd,↓Zm,↓Zn,WPu,Za,Zb,Zc,Zd,Ze,Zf,Zg,Zh,Nat.reduceEqDiff,Nat.reduceLT,Zi,Zj,Zk,Zl,Nat.reduceBEq,hn,Option.isSome_some]
   refine calledW_of (next_ok d σ' hv y H s' (h.grow g) (hy σ')) ?_
   rintro r σ2 ⟨z,rfl,z1,g2⟩
   simp -dsimp only [↓WPd,↓Zm,↓Zn,WPu,Za,Zb,Zc,Zd,Ze,Zf,Zg,Zh,Nat.reduceEqDiff,Nat.reduceLT,Zi,Zj,Zk,Zl,Nat.reduceBEq,List.getElem?_cons_zero,List.getElem?_cons_succ]
   exact ⟨rank H s',rank_lt hw hn,y,z,s',rfl,rfl,g.trans g2,hy σ2,.inr hy,by rw [← deref_step hw hn]; exact hd,z1⟩
theorem hderef_ok (hv tv : AVal) (H : Hp) (t : List Cel) (h : HeapV σ hv H) (ht : SlOf σ 5 tv (CC t)) (hs : (deref H t).length < 2 ^ 30) : Called CU.cfg d 80 [hv,tv] σ fun u σ' => Grows σ σ' ∧ Own σ' 5 u (CC (deref H t)) ∧ Fresh σ.length u ∧ NoLit u := by
 refine called_of (fn := CU.a80) rfl (Nat.le_of_ble_eq_true rfl) ?_
 simp only [CU.a80, CU.o]
 simp -dsimp only [↓WPd,↓Zm,↓Zn,WPu,Za,Zb,Zc,Zd,Ze,Zf,Zg,Zh,Nat.reduceEqDiff,Nat.reduceLT,Zi,Zj,Zk,Zl,Nat.reduceBEq]
 refine calledW_of (follow_ok d σ hv tv H t h ht) ?_
 rintro u σ1 ⟨hu,g1,_⟩
 simp -dsimp only [↓WPd,↓Zm,↓Zn,WPu,Za,Zb,Zc,Zd,Ze,Zf,Zg,Zh,Nat.reduceEqDiff,Nat.reduceLT,Zi,Zj,Zk,Zl,Nat.reduceBEq]
 refine calledW_of (cclone_ok d σ1 u _ hs hu) ?_
 rintro v σ2 ⟨g2,o2,f2,n2⟩
 simp -dsimp only [↓WPd,↓Zm,↓Zn,WPu,Za,Zb,Zc,Zd,Ze,Zf,Zg,Zh,Nat.reduceEqDiff,Nat.reduceLT,Zi,Zj,Zk,Zl,Nat.reduceBEq]
 exact ⟨g1.trans g2,o2,f2.le g1.1,n2⟩
theorem hbind_ok (id mid : Nat) (vs : List AVal) (H : Hp) (v : Nm) (tv : AVal) (t : List Cel) (h : HeapP σ id mid vs H) (hs : Small t) (ht : SlOf σ 5 tv (CC t)) :
  Called CU.cfg d 57 [.ptr id 0,nmV v,tv] σ fun r σ' => r = .int .i64 (bindE H v t) ∧ (∃ vs',HeapP σ' id mid vs' (bindH H v t)) ∧ Keeps (fun i => i = mid) σ σ' := by
 refine called_of (fn := CU.a57) rfl (Nat.le_of_ble_eq_true rfl) ?_
 simp only [CU.a57, CU.o]
 simp -dsimp only [↓WPd,↓Zm,↓Zn,WPu,Za,Zb,Zc,Zd,Ze,Zf,Zg,Zh,Nat.reduceEqDiff,Nat.reduceLT,Zi,Zj,Zk,Zl,Nat.reduceBEq,nm_cells,nm_one]
 have ho : (σ ++ [AObj.cells (nmC v)])[σ.length]? = some (.cells (nmC v)) := by simp
 have g0 : Grows σ (σ ++ [AObj.cells (nmC v)]) := Grows.app _ _
 have h1 := h.grow g0
 have ht1 := ht.grow g0
 have hlt : id < σ.length ∧ mid < σ.length := ⟨(List.getElem?_eq_some_iff.1 h.obj).1,(List.getElem?_eq_some_iff.1 h.map).1⟩
 generalize σ ++ [AObj.cells (nmC v)] = σ1 at ho g0 h1 ht1
 have hi1 : σ.length ≠ mid := by omega
 generalize hq : σ.length = i1 at ho hi1
 simp -dsimp only [↓WPd,↓Zm,↓Zn,WPu,Za,Zb,Zc,Zd,Ze,Zf,Zg,Zh,Nat.reduceEqDiff,Nat.reduceLT,Zi,Zj,Zk,Zl,Nat.reduceBEq,WPm,isnil_ptr,faddr_ptr,Nat.add_zero,load_cells ho,nm_g0,load_nm ho]
 have fin : ∀ {σ' : Store} {e : Int},Grows σ σ' → bindE H v t = e → e ≠ 0 → AVal.int .i64 e = .int .i64 (bindE H v t) ∧ (∃ vs',HeapP σ' id mid vs' (bindH H v t)) ∧ Keeps (fun i => i = mid) σ σ' := fun g e1 e2 => ⟨by rw [e1],⟨vs,by rw [bindH,if_neg (by rw [e1]; exact e2)]; exact h.grow g⟩,g.any⟩
 cases hn : decide (v.1 < 0) with
 | true =>
  simp -dsimp only [↓WPd,↓Zm,↓Zn,WPu,Za,Zb,Zc,Zd,Ze,Zf,Zg,Zh,Nat.reduceEqDiff,Nat.reduceLT,Zi,Zj,Zk,Zl,Nat.reduceBEq,WPm]
  exact fin (e := 6) g0 (by unfold bindE; rw [hn]; rfl) (by decide)
 | false =>
  simp -dsimp only [↓WPd,↓Zm,↓Zn,WPu,Za,Zb,Zc,Zd,Ze,Zf,Zg,Zh,Nat.reduceEqDiff,Nat.reduceLT,Zi,Zj,Zk,Zl,Nat.reduceBEq,WPm]
  refine calledW_of (ofvar_ok d σ1 v) ?_
  rintro r σ2 ⟨hr,g2⟩
  have lr : lenSV r = some (CC (varT v)).length := (hr σ2).len
  have h2 := h1.grow g2
  have ht2 := ht1.grow g2
  have ho2 := g2.get ho
  cases hov : okVar v with
  | false =>
   have lr' : lenSV r = some 0 := by rw [lr]; simp [varT,hov]
   have e0 : (((0 : Nat) : Int) == 0) = true := rfl
   simp -dsimp only [↓WPd,↓Zm,↓Zn,WPu,Za,Zb,Zc,Zd,Ze,Zf,Zg,Zh,Nat.reduceEqDiff,Nat.reduceLT,Zi,Zj,Zk,Zl,Nat.reduceBEq,WPm,lr',e0]
   exact fin (e := 6) (g0.trans g2) (by unfold bindE; rw [hn,hov]; rfl) (by decide)
  | true =>
   have lr' : lenSV r = some 1 := by rw [lr]; simp [varT,hov]
   have e0 : (((1 : Nat) : Int) == 0) = false := rfl
   simp -dsimp only [↓WPd,↓Zm,↓Zn,WPu,Za,Zb,Zc,Zd,Ze,Zf,Zg,Zh,Nat.reduceEqDiff,Nat.reduceLT,Zi,Zj,Zk,Zl,Nat.reduceBEq,WPm,lr',e0]
   refine calledW_of (global_ok d σ2 tv t hs ht2) ?_
   rintro r3 σ3 ⟨rfl,g3⟩
   have h3 := h2.grow g3
   have ht3 := ht2.grow g3
   have ho3 := g3.get ho2
   have g03 := (g0.trans g2).trans g3
   cases hg : glob t with
   | false =>
    simp -dsimp only [↓WPd,↓Zm,↓Zn,WPu,Za,Zb,Zc,Zd,Ze,Zf,Zg,Zh,Nat.reduceEqDiff,Nat.reduceLT,Zi,Zj,Zk,Zl,Nat.reduceBEq,WPm]
    exact fin (e := 6) g03 (by unfold bindE; rw [hn,hov,hg]; rfl) (by decide)
   | true =>
    obtain ⟨u,l1,l2⟩ := h3.look v
    have e1 : ([AVal.map mid] : List AVal)[0]? = some (.map mid) := rfl
    simp -dsimp only [↓WPd,↓Zm,↓Zn,WPu,Za,Zb,Zc,Zd,Ze,Zf,Zg,Zh,Nat.reduceEqDiff,Nat.reduceLT,Zi,Zj,Zk,Zl,Nat.reduceBEq,WPm,isnil_ptr,faddr_ptr,Nat.add_zero,load_cells h3.obj,e1,load_nm ho3,l1,List.getElem?_cons_zero,List.getElem?_cons_succ]
    cases hl : (lk H v).isSome with
    | true =>
     simp -dsimp only [↓WPd,↓Zm,↓Zn,WPu,Za,Zb,Zc,Zd,Ze,Zf,Zg,Zh,Nat.reduceEqDiff,Nat.reduceLT,Zi,Zj,Zk,Zl,Nat.reduceBEq]
     exact fin (e := 70) g03 (by unfold bindE; rw [hn,hov,hg,hl]; rfl) (by decide)
    | false =>
     have hl' : lk H v = none := by simpa using hl
     obtain ⟨c,s,rfl⟩ : ∃ c s,t = c :: s := List.exists_cons_of_ne_nil (right_ne (glob_right hg))
     have hi0 : 0 < (CC (c :: s)).length := by simp
     have hb := (ht3.addr hi0 .i64).2
     rw [cel_get] at hb
     have hb' : behind σ3 (addrOf 5 tv 0) = some (c.cs,0) := hb
     obtain ⟨q0,p0,b0⟩ := faddr_at hb' 0
     obtain ⟨q3,p3,b3⟩ := faddr_at hb' 3
     have r0 : loadV σ3 1 false q0 = some (.int .u8 c.k) := load_at b0
     have r3 : loadV σ3 2 true q3 = some (nmV c.v) := loadN_at b3 (by simp [Cel.cs])
     have ia : iaddrV 5 tv (.int .i64 0) = some (addrOf 5 tv 0) := ht3.iaddr hi0 .i64
     have k4 : ((c.k : Int) == 4) = decide (c.k = 4) := by by_cases h : c.k = 4 <;> simp [h] <;> omega
     have last : ∀ {σ4 : Store},Grows σ3 σ4 → okB (v,c :: s) → ∀ (K : List AVal → Store → AVal → Prop) (fr : List AVal) (w : Wit K),(∀ u σ5,mapsetV σ4 true [.i,.i] (.map mid) (nmV v) u = some σ5 → (∃ vs',HeapP σ5 id mid vs' (bindH H v (c :: s))) → Keeps (fun i => i = mid) σ4 σ5 → K fr σ4 u) → isoW CU.cfg d 82 [tv] fr σ4 K w := by
      intro σ4 g4 hok K fr w hk
      refine isoclone d σ4 tv (c :: s) hs.1 (by simp) (ht3.grow g4) (fun u hu => ?_)
      obtain ⟨σ5,m1,m2,m3⟩ := (h3.grow g4).set hl' hu hok
      exact hk u σ5 m1 ⟨vs ++ [u],by rw [bindH,if_pos (bindE_of hok hl')]; exact m2⟩ m3
     have okb : (c.k = 4 → nless c.v v = true) → okB (v,c :: s) := fun h => ⟨by simp only [decide_eq_false_iff_not] at hn; simp only; omega,hov,hg,h⟩
     have fin2 : ∀ {σ4 σ5 : Store},Grows σ3 σ4 → okB (v,c :: s) → (∃ vs',HeapP σ5 id mid vs' (bindH H v (c :: s))) → Keeps (fun i => i = mid) σ4 σ5 → AVal.int .i64 0 = .int .i64 (bindE H v (c :: s)) ∧ (∃ vs',HeapP σ5 id mid vs' (bindH H v (c :: s))) ∧ Keeps (fun i => i = mid) σ σ5 :=
      fun g4 hok hh k => ⟨by rw [bindE_of hok hl'],hh,Keeps.trans (g03.trans g4).any k fun _ _ h => h⟩
     simp -dsimp only [↓WPd,↓Zm,↓Zn,WPu,Za,Zb,Zc,Zd,Ze,Zf,Zg,Zh,Nat.reduceEqDiff,Nat.reduceLT,Zi,Zj,Zk,Zl,Nat.reduceBEq,WPm,ia,p0,r0,k4]
     cases hk4 : decide (c.k = 4) with
     | true =>
      simp -dsimp only [↓WPd,↓Zm,↓Zn,WPu,Za,Zb,Zc,Zd,Ze,Zf,Zg,Zh,Nat.reduceEqDiff,Nat.reduceLT,Zi,Zj,Zk,Zl,Nat.reduceBEq,WPm,ia,p3,r3,load_nm ho3]
      refine calledW_of (less_ok d σ3 c.v v) ?_
      rintro r4 σ4 ⟨rfl,g4⟩
      have h4 := h3.grow g4
      have ho4 := g4.get ho3
      cases hless : nless c.v v with
      | false =>
       simp -dsimp only [↓WPd,↓Zm,↓Zn,WPu,Za,Zb,Zc,Zd,Ze,Zf,Zg,Zh,Nat.reduceEqDiff,Nat.reduceLT,Zi,Zj,Zk,Zl,Nat.reduceBEq,WPm]
       exact fin (e := 71) (g03.trans g4) (by
        have e : (decide (((c :: s).headD default).k = 4) && !nless ((c :: s).headD default).v v) = true := by
         show (decide (c.k = 4) && !nless c.v v) = true
         rw [hless,hk4]; rfl
        unfold bindE; rw [hn,hov,hg,hl,e]; rfl) (by decide)
      | true =>
       have hok := okb fun _ => hless
       simp -dsimp only [↓WPd,↓Zm,↓Zn,WPu,Za,Zb,Zc,Zd,Ze,Zf,Zg,Zh,Nat.reduceEqDiff,Nat.reduceLT,Zi,Zj,Zk,Zl,Nat.reduceBEq,WPm,isnil_ptr,faddr_ptr,Nat.add_zero,load_cells h4.obj,e1,load_nm ho4]
       refine last g4 hok _ _ _ fun u σ5 m1 m2 m3 => ?_
       simp -dsimp only [↓WPd,↓Zm,↓Zn,WPu,Za,Zb,Zc,Zd,Ze,Zf,Zg,Zh,Nat.reduceEqDiff,Nat.reduceLT,Zi,Zj,Zk,Zl,Nat.reduceBEq,m1]
       exact fin2 g4 hok m2 m3
     | false =>
      have hok := okb fun h => absurd h (by simpa using hk4)
      simp -dsimp only [↓WPd,↓Zm,↓Zn,WPu,Za,Zb,Zc,Zd,Ze,Zf,Zg,Zh,Nat.reduceEqDiff,Nat.reduceLT,Zi,Zj,Zk,Zl,Nat.reduceBEq,WPm,isnil_ptr,faddr_ptr,Nat.add_zero,load_cells h3.obj,e1,load_nm ho3]
      refine last (Keeps.refl _ _) hok _ _ _ fun u σ5 m1 m2 m3 => ?_
      simp -dsimp only [↓WPd,↓Zm,↓Zn,WPu,Za,Zb,Zc,Zd,Ze,Zf,Zg,Zh,Nat.reduceEqDiff,Nat.reduceLT,Zi,Zj,Zk,Zl,Nat.reduceBEq,m1]
      exact fin2 (Keeps.refl _ _) hok m2 m3
end
def bdV (v : Nm) (u : AVal) : AVal := .agg [.int .i64 v.1,.int .i64 v.2,u]
def bdC (v : Nm) (u : AVal) : List AVal := [.int .i64 v.1,.int .i64 v.2,u]
def BdRel (σ : Store) (A : Nat → Prop) (e : AVal) (p : Nm × List Cel) : Prop := ∃ u,e = bdV p.1 u ∧ SlOf σ 5 u (CC p.2) ∧ ∀ i,u.sid = some i → A i
theorem BdRel.keeps {σ σ' : Store} {A B M : Nat → Prop} {e : AVal} {p : Nm × List Cel} (h : BdRel σ A e p) (hk : Keeps M σ σ') (ha : ∀ i,i < σ.length → A i → B i ∧ ¬ M i) : BdRel σ' B e p := by
 obtain ⟨u,h1,h2,h3⟩ := h
 exact ⟨u,h1,h2.keeps hk fun i hi => (ha i (h2.lt hi) (h3 i hi)).2,fun i hi => (ha i (h2.lt hi) (h3 i hi)).1⟩
def RefP (σ : Store) (A : Nat → Prop) (id : Nat) (R : Hp) : Prop := ∃ w es,σ[id]? = some (.cells [w]) ∧ SlOf σ 3 w es ∧ (∀ i,w.sid = some i → A i) ∧ Two (BdRel σ A) es R
theorem RefP.keeps {σ σ' : Store} {A B M : Nat → Prop} {id : Nat} {R : Hp} (h : RefP σ A id R) (hk : Keeps M σ σ') (hi : ¬ M id) (ha : ∀ i,i < σ.length → A i → B i ∧ ¬ M i) : RefP σ' B id R := by
 obtain ⟨w,es,h1,h2,h3,h4⟩ := h
 exact ⟨w,es,hk.get h1 hi,h2.keeps hk fun i hw => (ha i (h2.lt hw) (h3 i hw)).2,fun i hw => (ha i (h2.lt hw) (h3 i hw)).1,h4.mono fun e p he => he.keeps hk ha⟩
theorem RefP.grow {σ σ' : Store} {A : Nat → Prop} {id : Nat} {R : Hp} (h : RefP σ A id R) (g : Grows σ σ') : RefP σ' A id R := h.keeps g (fun h => h) fun i _ a => ⟨a,fun h => h⟩
def RefV (σ : Store) (rv : AVal) (R : Hp) : Prop := (rv = .nilptr ∧ R = []) ∨ ∃ id A,rv = .ptr id 0 ∧ RefP σ A id R
theorem RefV.grow {σ σ' : Store} {rv : AVal} {R : Hp} (h : RefV σ rv R) (g : Grows σ σ') : RefV σ' rv R := by
 rcases h with h | ⟨id,A,e,h⟩
 ·exact .inl h
 ·exact .inr ⟨id,A,e,h.grow g⟩
theorem RefP.v {σ : Store} {A : Nat → Prop} {id : Nat} {R : Hp} (h : RefP σ A id R) : RefV σ (.ptr id 0) R := .inr ⟨id,A,rfl,h⟩
section
variable (d : Nat) (σ : Store)
theorem rnew_ok : Called CU.cfg d 56 [] σ fun r σ' => ∃ id,r = .ptr id 0 ∧ RefP σ' (fun _ => False) id [] ∧ Grows σ σ' ∧ id < σ'.length ∧ σ.length ≤ id := by
 refine called_of (fn := CU.a56) rfl (Nat.le_of_ble_eq_true rfl) ?_
 have e1 : fillA [AVal.nilslice] [] = some [AVal.nilslice] := rfl
 have e2 : [AVal.nilslice].all AVal.one = true := rfl
 simp only [CU.a56, CU.o]
 simp -dsimp only [↓WPd,↓Zm,↓Zn,WPu,Za,Zb,Zc,Zd,Ze,Zf,Zg,Zh,Nat.reduceEqDiff,Nat.reduceLT,Zi,Zj,Zk,Zl,Nat.reduceBEq,e1,e2,cells_agg]
 exact ⟨_,rfl,⟨.nilslice,[],by simp,SlOf.nil _ _,(fun i h => by cases h),Two.nil⟩,Grows.app _ _,by simp,Nat.le_refl _⟩
theorem place_ok (rv : AVal) (R : Hp) (v : Nm) (h : RefV σ rv R) (hR : R.length < 2 ^ 40) : Called CU.cfg d 114 [rv,nmV v] σ fun r σ' => ∃ k : Int,r = .int .i64 k ∧ (match lk R v with | some t => ∃ j : Nat,k = j ∧ R[j]? = some (v,t) | none => k = -1) ∧ Grows σ σ' := by
 refine called_of (fn := CU.a114) rfl (Nat.le_of_ble_eq_true rfl) ?_
 simp only [CU.a114, CU.o]
 simp -dsimp only [↓WPd,↓Zm,↓Zn,WPu,Za,Zb,Zc,Zd,Ze,Zf,Zg,Zh,Nat.reduceEqDiff,Nat.reduceLT,Zi,Zj,Zk,Zl,Nat.reduceBEq,nm_cells,nm_one]
 have ho : (σ ++ [AObj.cells (nmC v)])[σ.length]? = some (.cells (nmC v)) := by simp
 have g0 : Grows σ (σ ++ [AObj.cells (nmC v)]) := Grows.app _ _
 have h1 := h.grow g0
 generalize σ ++ [AObj.cells (nmC v)] = σ1 at ho g0 h1
 generalize σ.length = i1 at ho
 refine loop_rule (fun m vs σ' => ∃ k : Nat,k ≤ R.length ∧ m = R.length - k ∧ vs = [rv,.ptr i1 0,.int .i64 k] ∧ σ' = σ1 ∧ ∀ p ∈ R.take k,p.1 ≠ v) R.length ⟨0,Nat.zero_le _,rfl,?_,rfl,fun p hp => by simp at hp⟩ ?_
 ·simp -dsimp only [↓WPd,↓Zm,↓Zn,WPu,Za,Zb,Zc,Zd,Ze,Zf,Zg,Zh,Nat.reduceEqDiff,Nat.reduceLT,Zi,Zj,Zk,Zl,Nat.reduceBEq]; rfl
 ·rintro m vs σ' ⟨k,hk,rfl,rfl,rfl,ha⟩
  have hnone : (∀ p ∈ R,p.1 ≠ v) → lk R v = none := fun h => lk_none.2 fun hm => by
   obtain ⟨p,hp,e⟩ := List.mem_map.1 hm
   exact h p hp e
  rcases h1 with ⟨rfl,rfl⟩ | ⟨id,A,rfl,w,es,o1,o2,-,o4⟩
  ·have e : isNil .p .nilptr = some true := rfl
   simp -dsimp only [↓WPd,↓Zm,↓Zn,WPu,Za,Zb,Zc,Zd,Ze,Zf,Zg,Zh,Nat.reduceEqDiff,Nat.reduceLT,Zi,Zj,Zk,Zl,Nat.reduceBEq,WPm,e]
   exact ⟨-1,rfl,rfl,g0⟩
  ·have hlen := o4.len
   have lw := o2.len
   rw [hlen] at lw
   have e0 : ([w] : List AVal)[0]? = some w := rfl
   simp -dsimp only [↓WPd,↓Zm,↓Zn,WPu,Za,Zb,Zc,Zd,Ze,Zf,Zg,Zh,Nat.reduceEqDiff,Nat.reduceLT,Zi,Zj,Zk,Zl,Nat.reduceBEq,WPm,isnil_ptr,faddr_ptr,Nat.add_zero,load_cells o1,e0,lw]
   refine condP_dec (fun hc => ?_) (fun hc => ?_)
   ·have hk' : k < R.length := by omega
    have hke : k < es.length := by omega
    obtain ⟨e,he1,u,he2,he3,-⟩ := o4.get hk'
    have hee : es[k] = e := by rw [List.getElem?_eq_getElem hke] at he1; exact Option.some.inj he1
    have hb := (o2.addr hke .i64).2
    rw [hee,he2] at hb
    have hb' : behind σ' (addrOf 3 w k) = some (bdC (R[k]).1 u,0) := hb
    obtain ⟨q0,p0,b0⟩ := faddr_at hb' 0
    have r0 : loadV σ' 2 true q0 = some (nmV (R[k]).1) := loadN_at b0 (by simp [bdC])
    have ia : iaddrV 3 w (.int .i64 k) = some (addrOf 3 w k) := o2.iaddr hke .i64
    simp -dsimp only [↓WPd,↓Zm,↓Zn,WPu,Za,Zb,Zc,Zd,Ze,Zf,Zg,Zh,Nat.reduceEqDiff,Nat.reduceLT,Zi,Zj,Zk,Zl,Nat.reduceBEq,WPm,isnil_ptr,faddr_ptr,Nat.add_zero,load_cells o1,e0,lw,ia,p0,r0,load_nm ho,nm_eqs]
    have ht : R.take (k + 1) = R.take k ++ [R[k]] := List.take_succ_eq_append_getElem hk'
    refine condP_dec (fun hv => ?_) (fun hv => ?_)
    ·simp -dsimp only [↓WPd,↓Zm,↓Zn,WPu,Za,Zb,Zc,Zd,Ze,Zf,Zg,Zh,Nat.reduceEqDiff,Nat.reduceLT,Zi,Zj,Zk,Zl,Nat.reduceBEq]
     have hl : lk R v = some (R[k]).2 := by
      have : ∀ (R : Hp) (k : Nat) (hk : k < R.length),(∀ p ∈ R.take k,p.1 ≠ v) → (R[k]).1 = v → lk R v = some (R[k]).2 := by
       intro R
       induction R with
       | nil => intro k hk; simp at hk
       | cons q r ih =>
        intro k hk h1 h2
        cases k with
        | zero => simp only [List.getElem_cons_zero] at h2 ⊢; simp [lk,h2]
        | succ k =>
         have : q.1 ≠ v := h1 q (by simp)
         simp only [List.getElem_cons_succ] at h2 ⊢
         rw [lk,if_neg this]
         exact ih k (by simpa using hk) (fun p hp => h1 p (by simp [hp])) h2
      exact this R k hk' ha hv
     rw [hl]
     exact ⟨_,rfl,⟨k,rfl,by rw [List.getElem?_eq_getElem hk',← hv]⟩,g0⟩
    ·simp -dsimp only [↓WPd,↓Zm,↓Zn,WPu,Za,Zb,Zc,Zd,Ze,Zf,Zg,Zh,Nat.reduceEqDiff,Nat.reduceLT,Zi,Zj,Zk,Zl,Nat.reduceBEq]
     refine ⟨R.length - (k + 1),by omega,k + 1,by omega,rfl,?_,fun p hp => ?_⟩
     ·rw [wrap_i64 (by omega) (by omega),Int.natCast_add,Int.natCast_one]
     ·rw [ht] at hp
      rcases List.mem_append.1 hp with hp | hp
      ·exact ha p hp
      ·simp at hp; rw [hp]; exact hv
   ·have hk2 : k = R.length := by omega
    subst hk2
    rw [List.take_length] at ha
    simp -dsimp only [↓WPd,↓Zm,↓Zn,WPu,Za,Zb,Zc,Zd,Ze,Zf,Zg,Zh,Nat.reduceEqDiff,Nat.reduceLT,Zi,Zj,Zk,Zl,Nat.reduceBEq]
    rw [hnone ha]
    exact ⟨-1,rfl,rfl,g0⟩
end
theorem bd_build (v : Nm) (u : AVal) (h : u.one = true) : fillA [AVal.int IntKind.i64 0,AVal.int IntKind.i64 0,AVal.nilslice] [(0,2,nmV v),(2,1,u)] = some (bdC v u) := by
 have hc : u.cells = [u] := by cases u <;> simp_all [AVal.one]
 have h1 : [u].all AVal.one = true := by simp only [List.all_cons,List.all_nil,h]; rfl
 simp only [fillA,nm_cells,hc,nmC,List.length_cons,List.length_nil,h1]
 rfl
def seqL : ACode → ACode
 | .seq a _ => a
 | c => c
def seqR : ACode → ACode
 | .seq _ b => b
 | c => c
theorem bd_lit (v : Nm) (u : AVal) (h : u.one = true) : fillL 3 true (List.replicate 1 (zel [AVal.int IntKind.i64 0,AVal.int IntKind.i64 0,AVal.nilslice] true)) [(0,.agg (bdC v u))] = some [bdV v u] := by
 have : (bdC v u).all AVal.one = true := by simp only [bdC,List.all_cons,List.all_nil,h]; rfl
 simp only [fillL,AVal.cells,this]
 rfl
section
variable (d : Nat) (σ : Store)
set_option maxHeartbeats 1000000 in
theorem rbind_ok (A : Nat → Prop) (id : Nat) (R : Hp) (v : Nm) (tv : AVal) (t : List Cel) (h : RefP σ A id R) (hR : R.length < 2 ^ 30) (hs : t.length < 2 ^ 30) (ht : SlOf σ 5 tv (CC t)) :
  Called CU.cfg d 58 [.ptr id 0,nmV v,tv] σ fun r σ' => r = .int .i64 (bindE R v t) ∧ RefP σ' (fun i => A i ∨ σ.length ≤ i) id (bindR R v t) ∧ Keeps (fun i => i = id) σ σ' := by
 refine called_of (fn := CU.a58) rfl (Nat.le_of_ble_eq_true rfl) ?_
 obtain ⟨T,hT⟩ : ∃ T,T = seqR (seqR CU.a58.body) := ⟨_,rfl⟩
 rw [show CU.a58.body = .seq (seqL CU.a58.body) (.seq (seqL (seqR CU.a58.body)) T) from by rw [hT]; rfl]
 simp only [CU.a58,seqL,seqR, CU.o]
 simp -dsimp only [↓WPd,↓Zm,↓Zn,WPu,Za,Zb,Zc,Zd,Ze,Zf,Zg,Zh,Nat.reduceEqDiff,Nat.reduceLT,Zi,Zj,Zk,Zl,Nat.reduceBEq,nm_cells,nm_one]
 have ho : (σ ++ [AObj.cells (nmC v)])[σ.length]? = some (.cells (nmC v)) := by simp
 have g0 : Grows σ (σ ++ [AObj.cells (nmC v)]) := Grows.app _ _
 have h1 := h.grow g0
 have ht1 := ht.grow g0
 generalize σ ++ [AObj.cells (nmC v)] = σ1 at ho g0 h1 ht1
 have hid : id < σ.length := by obtain ⟨w,es,o1,_⟩ := h; exact (List.getElem?_eq_some_iff.1 o1).1
 have hi1 : σ.length ≠ id := by omega
 generalize hq : σ.length = i1 at ho hi1
 simp -dsimp only [↓WPd,↓Zm,↓Zn,WPu,Za,Zb,Zc,Zd,Ze,Zf,Zg,Zh,Nat.reduceEqDiff,Nat.reduceLT,Zi,Zj,Zk,Zl,Nat.reduceBEq,WPm,isnil_ptr,load_nm ho]
 refine calledW_of (rofvar_ok d σ1 v) ?_
 rintro r σ2 ⟨hr,g2⟩
 have h2 := h1.grow g2
 have ht2 := ht1.grow g2
 have ho2 := g2.get ho
 have lr : lenSV r = some (CC (varT v)).length := (hr σ2).len
 have weak : ∀ {σ' : Store},Grows σ σ' → RefP σ' (fun i => A i ∨ i1 ≤ i) id R := fun g => h.keeps g (fun h => h) fun i _ a => ⟨.inl a,fun h => h⟩
 have fin : ∀ {σ' : Store} {e : Int},Grows σ σ' → bindE R v t = e → e ≠ 0 → AVal.int .i64 e = .int .i64 (bindE R v t) ∧ RefP σ' (fun i => A i ∨ i1 ≤ i) id (bindR R v t) ∧ Keeps (fun i => i = id) σ σ' := fun g e1 e2 =>
  ⟨by rw [e1],by rw [bindR,if_neg (by rw [e1]; exact e2)]; exact weak g,g.any⟩
 cases hov : okVar v with
 | false =>
  have lr' : lenSV r = some 0 := by rw [lr]; simp [varT,hov]
  have e0 : (((0 : Nat) : Int) == 0) = true := rfl
  simp -dsimp only [↓WPd,↓Zm,↓Zn,WPu,Za,Zb,Zc,Zd,Ze,Zf,Zg,Zh,Nat.reduceEqDiff,Nat.reduceLT,Zi,Zj,Zk,Zl,Nat.reduceBEq,WPm,lr',e0]
  exact fin (e := 6) (g0.trans g2) (by unfold bindE; rw [hov]; simp) (by decide)
 | true =>
  have lr' : lenSV r = some 1 := by rw [lr]; simp [varT,hov]
  have e0 : (((1 : Nat) : Int) == 0) = false := rfl
  simp -dsimp only [↓WPd,↓Zm,↓Zn,WPu,Za,Zb,Zc,Zd,Ze,Zf,Zg,Zh,Nat.reduceEqDiff,Nat.reduceLT,Zi,Zj,Zk,Zl,Nat.reduceBEq,WPm,lr',e0,faddr_ptr,Nat.add_zero,load_cells ho2,nm_g0]
  cases hn : decide (v.1 < 0) with
  | true =>
   simp -dsimp only [↓WPd,↓Zm,↓Zn,WPu,Za,Zb,Zc,Zd,Ze,Zf,Zg,Zh,Nat.reduceEqDiff,Nat.reduceLT,Zi,Zj,Zk,Zl,Nat.reduceBEq,WPm]
   exact fin (e := 6) (g0.trans g2) (by unfold bindE; rw [hn]; rfl) (by decide)
  | false =>
   simp -dsimp only [↓WPd,↓Zm,↓Zn,WPu,Za,Zb,Zc,Zd,Ze,Zf,Zg,Zh,Nat.reduceEqDiff,Nat.reduceLT,Zi,Zj,Zk,Zl,Nat.reduceBEq,WPm]
   refine calledW_of (rglobal_ok d σ2 tv t hs ht2) ?_
   rintro r3 σ3 ⟨rfl,g3⟩
   have h3 := h2.grow g3
   have ht3 := ht2.grow g3
   have ho3 := g3.get ho2
   have g03 := (g0.trans g2).trans g3
   cases hg : glob t with
   | false =>
    simp -dsimp only [↓WPd,↓Zm,↓Zn,WPu,Za,Zb,Zc,Zd,Ze,Zf,Zg,Zh,Nat.reduceEqDiff,Nat.reduceLT,Zi,Zj,Zk,Zl,Nat.reduceBEq,WPm]
    exact fin (e := 6) g03 (by unfold bindE; rw [hn,hov,hg]; rfl) (by decide)
   | true =>
    simp -dsimp only [↓WPd,↓Zm,↓Zn,WPu,Za,Zb,Zc,Zd,Ze,Zf,Zg,Zh,Nat.reduceEqDiff,Nat.reduceLT,Zi,Zj,Zk,Zl,Nat.reduceBEq,WPm,load_nm ho3]
    refine calledW_of (place_ok d σ3 (.ptr id 0) R v h3.v (by omega)) ?_
    rintro r4 σ4 ⟨k,rfl,hk,g4⟩
    have h4 := h3.grow g4
    have ht4 := ht3.grow g4
    have ho4 := g4.get ho3
    have g04 := g03.trans g4
    cases hl : lk R v with
    | some t0 =>
     rw [hl] at hk
     obtain ⟨j,rfl,_⟩ := hk
     have e1 : decide ((j : Int) ≥ 0) = true := by simp
     simp -dsimp only [↓WPd,↓Zm,↓Zn,WPu,Za,Zb,Zc,Zd,Ze,Zf,Zg,Zh,Nat.reduceEqDiff,Nat.reduceLT,Zi,Zj,Zk,Zl,Nat.reduceBEq,e1]
     exact fin (e := 70) g04 (by unfold bindE; rw [hn,hov,hg,hl]; rfl) (by decide)
    | none =>
     rw [hl] at hk
     simp only at hk
     subst hk
     obtain ⟨c,s,hcs⟩ : ∃ c s,t = c :: s := List.exists_cons_of_ne_nil (right_ne (glob_right hg))
     have hhd : t.headD default = c := by rw [hcs]; rfl
     have hi0 : 0 < (CC t).length := by rw [hcs]; simp
     have hb := (ht4.addr hi0 .i64).2
     rw [show (CC t)[0] = c.val by simp [hcs]] at hb
     have hb' : behind σ4 (addrOf 5 tv 0) = some (c.cs,0) := hb
     obtain ⟨q0,p0,b0⟩ := faddr_at hb' 0
     obtain ⟨q3,p3,b3⟩ := faddr_at hb' 3
     have r0 : loadV σ4 1 false q0 = some (.int .u8 c.k) := load_at b0
     have r3 : loadV σ4 2 true q3 = some (nmV c.v) := loadN_at b3 (by simp [Cel.cs])
     have ia : iaddrV 5 tv (.int .i64 0) = some (addrOf 5 tv 0) := ht4.iaddr hi0 .i64
     have k4 : ((c.k : Int) == 4) = decide (c.k = 4) := by by_cases h : c.k = 4 <;> simp [h] <;> omega
     have e1 : decide ((-1 : Int) ≥ 0) = false := rfl
     have okb : (c.k = 4 → nless c.v v = true) → okB (v,t) := fun h => ⟨by simp only [decide_eq_false_iff_not] at hn; simp only; omega,hov,hg,by rw [hhd]; exact h⟩
     have tail : ∀ (e : Nat → AVal) (σ5 : Store),Grows σ4 σ5 → e 0 = .ptr id 0 → e 2 = tv → e 4 = .ptr i1 0 → okB (v,t) → wpC CU.cfg d T (Fr' 103 e) σ5 (endQ [ARes.tmp 6] fun r σ' => r = .int .i64 (bindE R v t) ∧ RefP σ' (fun i => A i ∨ i1 ≤ i) id (bindR R v t) ∧ Keeps (fun i => i = id) σ σ') := by
      intro e σ5 g5 v0 v2 v4 hok
      have ht5 := ht4.grow g5
      have ho5 := g5.get ho4
      have h5 := h4.grow g5
      have g05 := g04.trans g5
      obtain ⟨u,σ6,a1,a2,a3,a4,a5⟩ := (Own.nil σ5 5).append (CC t) 48 (by rw [List.length_map]; simp only [List.length_nil]; omega)
      have g56 : Grows σ5 σ6 := a3.mono fun i _ h => by cases h
      have h6 := h5.grow g56
      have ho6 := g56.get ho5
      have g06 := g05.trans g56
      have le6 : i1 ≤ σ5.length := by rw [← hq]; exact g05.1
      have fu : ∀ i,u.sid = some i → i1 ≤ i := fun i hi => by
       rcases a4 i hi with e | e
       ·cases e
       ·omega
      obtain ⟨w,es,o1,o2,o3,o4⟩ := h6
      have hlen := o4.len
      have lw := o2.len
      rw [hlen] at lw
      have e0 : ([w] : List AVal)[0]? = some w := rfl
      have hbe : bindE R v t = 0 := bindE_of hok hl
      have newR : BdRel σ6 (fun i => A i ∨ i1 ≤ i) (bdV v u) (v,t) := ⟨u,rfl,by simpa using a2.sl,fun i hi => .inr (fu i hi)⟩
      have o4' : Two (BdRel σ6 fun i => A i ∨ i1 ≤ i) es R := o4.mono fun e p he => he.keeps (Keeps.refl (fun _ => False) σ6) fun i _ a => ⟨.inl a,fun h => h⟩
      have uone : u.one = true := a2.one
      have push : ∀ {σ' : Store} {nx : AVal} {ns : List AVal} {P : Hp} {x : AVal} {p : Nm × List Cel},Grows σ6 σ' → Own σ' 3 nx ns → (∀ i,nx.sid = some i → σ6.length ≤ i) → Two (BdRel σ6 fun i => A i ∨ i1 ≤ i) ns P → BdRel σ6 (fun i => A i ∨ i1 ≤ i) x p → P.length ≤ R.length + 1 →
        ∃ nx' σ2,appendV σ' 3 40 nx [x] = some (nx',σ2) ∧ Own σ2 3 nx' (ns ++ [x]) ∧ (∀ i,nx'.sid = some i → σ6.length ≤ i) ∧ Two (BdRel σ6 fun i => A i ∨ i1 ≤ i) (ns ++ [x]) (P ++ [p]) ∧ Grows σ6 σ2 := by
       intro σ' nx ns P x p g on fn tn hx hl
       have := tn.len
       obtain ⟨nx',σ2,b1,b2,b3,b4,_⟩ := on.append [x] 40 (by simp only [List.length_singleton]; omega)
       refine ⟨nx',σ2,b1,b2,fun i hi => ?_,tn.push hx,Keeps.trans g b3 fun i hi e => by have := fn i e; omega⟩
       rcases b4 i hi with e | e
       ·exact fn i e
       ·have := g.1; omega
      rw [hT]
      simp only [CU.a58,seqR, CU.o]
      simp -dsimp only [↓WPd,↓Zm,↓Zn,WPu,Za,Zb,Zc,Zd,Ze,Zf,Zg,Zh,Nat.reduceEqDiff,Nat.reduceLT,Zi,Zj,Zk,Zl,Nat.reduceBEq,WPm,v0,v2,v4,ht5.els,a1]
      have x1 : ∀ {a b : Hp},bindR R v t = a ++ b → a.length ≤ R.length + 1 := fun {a b} h => by
       have h1 := congrArg List.length h
       have h2 : (bindR R v t).length = R.length + 1 := by rw [bindR,if_pos hbe]; simpa using (insR_perm (v,t) R).length_eq
       simp only [List.length_append] at h1
       omega
      refine loop_rule2 (fun m vs σ' => ∃ (k : Nat) (nx : AVal) (ns : List AVal) (P : Hp) (b : Bool),k ≤ R.length ∧ m = R.length - k ∧ vs = [.ptr id 0,.ptr i1 0,nx,u,.bool b,.int .i64 k] ∧ Grows σ6 σ' ∧ Own σ' 3 nx ns ∧ (∀ i,nx.sid = some i → σ6.length ≤ i) ∧ Two (BdRel σ6 (fun i => A i ∨ i1 ≤ i)) ns P ∧ P ++ (if b then R.drop k else insR (v,t) (R.drop k)) = bindR R v t)
       [0,4,7,8,9] (fun e vs σ' => e = .exit 1 ∧ ∃ (nx : AVal) (ns : List AVal) (P : Hp) (b : Bool),vs = [.ptr id 0,.ptr i1 0,nx,u,.bool b] ∧ Grows σ6 σ' ∧ Own σ' 3 nx ns ∧ (∀ i,nx.sid = some i → σ6.length ≤ i) ∧ Two (BdRel σ6 (fun i => A i ∨ i1 ≤ i)) ns P ∧ P ++ (if b then [] else [(v,t)]) = bindR R v t)
       R.length ⟨0,.nilslice,[],[],false,Nat.zero_le _,rfl,?_,Keeps.refl _ _,Own.nil _ _,(fun i h => by cases h),Two.nil,by simp [bindR,hbe]⟩ ?_ ?_
      ·simp -dsimp only [↓WPd,↓Zm,↓Zn,WPu,Za,Zb,Zc,Zd,Ze,Zf,Zg,Zh,Nat.reduceEqDiff,Nat.reduceLT,Zi,Zj,Zk,Zl,Nat.reduceBEq,v0,v4]; rfl
      ·rintro m vs σ' ⟨k,nx,ns,P,b,hk,rfl,rfl,g,on,fn,tn,hP⟩
       have o1' := g.get o1
       have o2' := o2.grow g
       have ho' := g.get ho6
       simp -dsimp only [↓WPd,↓Zm,↓Zn,WPu,Za,Zb,Zc,Zd,Ze,Zf,Zg,Zh,Nat.reduceEqDiff,Nat.reduceLT,Zi,Zj,Zk,Zl,Nat.reduceBEq,WPm,isnil_ptr,faddr_ptr,Nat.add_zero,load_cells o1',e0,lw]
       refine condP_dec (fun hc => ?_) (fun hc => ?_)
       ·have hk' : k < R.length := by omega
        have hke : k < es.length := by omega
        obtain ⟨e,he1,he⟩ := o4'.get hk'
        have he' := he
        obtain ⟨y,he2,he3,-⟩ := he'
        have hee : es[k] = e := by rw [List.getElem?_eq_getElem hke] at he1; exact Option.some.inj he1
        have hb := (o2'.addr hke .i64).2
        rw [hee,he2] at hb
        have hb' : behind σ' (addrOf 3 w k) = some (bdC (R[k]).1 y,0) := hb
        obtain ⟨q0,p0,b0⟩ := faddr_at hb' 0
        have r0 : loadV σ' 2 true q0 = some (nmV (R[k]).1) := loadN_at b0 (by simp [bdC])
        have r3 : loadV σ' 3 true (addrOf 3 w k) = some (.agg (bdC (R[k]).1 y)) := loadN_at hb' (by simp [bdC])
        have ia : iaddrV 3 w (.int .i64 k) = some (addrOf 3 w k) := o2'.iaddr hke .i64
        have hd : R.drop k = R[k] :: R.drop (k + 1) := List.drop_eq_getElem_cons hk'
        have ly := bd_lit (R[k]).1 y he3.one
        have lit1 : ∀ (tg : Nat) (σ : Store) (x : AVal),elems 3 σ (.fslice tg true 3 [x]) = some [x] := fun tg σ x => elems_fs 3 tg true σ [x]
        have keep : ∀ {σ2 : Store} {nx' : AVal} {ns' : List AVal} {P' : Hp} {b' : Bool} {fr : List AVal} (h : fr = fr),Grows σ6 σ2 → Own σ2 3 nx' ns' → (∀ i,nx'.sid = some i → σ6.length ≤ i) → Two (BdRel σ6 fun i => A i ∨ i1 ≤ i) ns' P' → P' ++ (if b' then R.drop k else insR (v,t) (R.drop k)) = bindR R v t → (b' = true ∨ nless v (R[k]).1 = false) →
          ∃ nx2 σ3,appendV σ2 3 40 nx' [bdV (R[k]).1 y] = some (nx2,σ3) ∧ ∃ m',m' < R.length - k ∧ ∃ k2 nx3 ns3 P3 b3,k2 ≤ R.length ∧ m' = R.length - k2 ∧ [AVal.ptr id 0,.ptr i1 0,nx2,u,.bool b',.int .i64 (IntKind.i64.wrap ((k : Int) + 1))] = [.ptr id 0,.ptr i1 0,nx3,u,.bool b3,.int .i64 (k2 : Nat)] ∧ Grows σ6 σ3 ∧ Own σ3 3 nx3 ns3 ∧ (∀ i,nx3.sid = some i → σ6.length ≤ i) ∧ Two (BdRel σ6 fun i => A i ∨ i1 ≤ i) ns3 P3 ∧ P3 ++ (if b3 then R.drop k2 else insR (v,t) (R.drop k2)) = bindR R v t := by
         intro σ2 nx' ns' P' b' fr _ g2 on2 fn2 tn2 hP2 hb2
         obtain ⟨nx2,σ3,c1,c2,c3,c4,c5⟩ := push g2 on2 fn2 tn2 (by rw [he2] at he; exact he) (x1 hP2.symm)
         refine ⟨nx2,σ3,c1,R.length - (k + 1),by omega,k + 1,nx2,_,_,b',by omega,rfl,?_,c5,c2,c3,c4,?_⟩
         ·rw [wrap_i64 (by omega) (by omega),Int.natCast_add,Int.natCast_one]
         ·rw [← hP2,hd]
          rcases hb2 with rfl | hb2
          ·simp
          ·cases b' with
           | true => simp
           | false => simp [insR,hb2]
        cases b with
        | true =>
         obtain ⟨nx2,σ3,c1,c2⟩ := keep (fr := []) rfl g on fn tn hP (.inl rfl)
         simp -dsimp only [↓WPd,↓Zm,↓Zn,WPu,Za,Zb,Zc,Zd,Ze,Zf,Zg,Zh,Nat.reduceEqDiff,Nat.reduceLT,Zi,Zj,Zk,Zl,Nat.reduceBEq,WPm,isnil_ptr,faddr_ptr,Nat.add_zero,load_cells o1',e0,ia,r3,ly,lit1,c1]
         exact c2
        | false =>
         simp -dsimp only [↓WPd,↓Zm,↓Zn,WPu,Za,Zb,Zc,Zd,Ze,Zf,Zg,Zh,Nat.reduceEqDiff,Nat.reduceLT,Zi,Zj,Zk,Zl,Nat.reduceBEq,WPm,isnil_ptr,faddr_ptr,Nat.add_zero,load_cells o1',e0,ia,p0,r0,load_nm ho']
         refine calledW_of (rless_ok d σ' v (R[k]).1) ?_
         rintro r7 σ7 ⟨rfl,g7⟩
         have g' := Grows.trans g g7
         have on' := on.grow g7
         have o1'' := g7.get o1'
         have ho'' := g7.get ho'
         have r3' : loadV σ7 3 true (addrOf 3 w k) = some (.agg (bdC (R[k]).1 y)) := by
          have hb7 := ((o2'.grow g7).addr hke .i64).2
          rw [hee,he2] at hb7
          exact loadN_at (cs := bdC (R[k]).1 y) hb7 (by simp [bdC])
         cases hl2 : nless v (R[k]).1 with
         | false =>
          obtain ⟨nx2,σ3,c1,c2⟩ := keep (fr := []) rfl g' on' fn tn hP (.inr hl2)
          simp -dsimp only [↓WPd,↓Zm,↓Zn,WPu,Za,Zb,Zc,Zd,Ze,Zf,Zg,Zh,Nat.reduceEqDiff,Nat.reduceLT,Zi,Zj,Zk,Zl,Nat.reduceBEq,WPm,isnil_ptr,faddr_ptr,Nat.add_zero,load_cells o1'',e0,ia,r3',ly,lit1,c1]
          exact c2
         | true =>
          obtain ⟨nx5,σ5',c1,c2,c3,c4,c5⟩ := push g' on' fn tn newR (x1 hP.symm)
          have o1c := c5.get o1
          have r3c : loadV σ5' 3 true (addrOf 3 w k) = some (.agg (bdC (R[k]).1 y)) := by
           have hb7 := ((o2.grow c5).addr hke .i64).2
           rw [hee,he2] at hb7
           exact loadN_at (cs := bdC (R[k]).1 y) hb7 (by simp [bdC])
          obtain ⟨nx2,σ3,d1,d2⟩ := keep (fr := []) (b' := true) rfl c5 c2 c3 c4 (by rw [← hP,hd]; simp [insR,hl2]) (.inl rfl)
          simp -dsimp only [↓WPd,↓Zm,↓Zn,WPu,Za,Zb,Zc,Zd,Ze,Zf,Zg,Zh,Nat.reduceEqDiff,Nat.reduceLT,Zi,Zj,Zk,Zl,Nat.reduceBEq,WPm,isnil_ptr,faddr_ptr,Nat.add_zero,load_nm ho'',bd_build v u uone,bd_lit v u uone,lit1,c1,load_cells o1c,e0,ia,r3c,ly,d1]
          exact d2
       ·have hk2 : k = R.length := by omega
        subst hk2
        simp -dsimp only [↓WPd,↓Zm,↓Zn,WPu,Za,Zb,Zc,Zd,Ze,Zf,Zg,Zh,Nat.reduceEqDiff,Nat.reduceLT,Zi,Zj,Zk,Zl,Nat.reduceBEq]
        refine ⟨nx,ns,P,b,rfl,g,on,fn,tn,?_⟩
        rw [← hP,List.drop_length]; rfl
      ·rintro x σ' env ⟨rfl,nx,ns,P,b,hv,g,on,fn,tn,hP⟩
       simp only [List.map_cons,List.map_nil,List.cons.injEq,and_true] at hv
       obtain ⟨w0,w4,w7,w8,w9⟩ := hv
       have lit1 : ∀ (tg : Nat) (σ : Store) (x : AVal),elems 3 σ (.fslice tg true 3 [x]) = some [x] := fun tg σ x => elems_fs 3 tg true σ [x]
       have last : ∀ {σ2 : Store} {nx' : AVal} {ns' : List AVal} {P' : Hp},Grows σ6 σ2 → Own σ2 3 nx' ns' → (∀ i,nx'.sid = some i → σ6.length ≤ i) → Two (BdRel σ6 fun i => A i ∨ i1 ≤ i) ns' P' → P' = bindR R v t →
         storeV σ2 1 (.ptr id 0) nx' = some (σ2.set id (.cells [nx'])) ∧ AVal.int .i64 0 = .int .i64 (bindE R v t) ∧ RefP (σ2.set id (.cells [nx'])) (fun i => A i ∨ i1 ≤ i) id (bindR R v t) ∧ Keeps (fun i => i = id) σ (σ2.set id (.cells [nx'])) := by
        intro σ2 nx' ns' P' g2 on2 fn2 tn2 hP2
        have o12 := g2.get o1
        have st := store_cells o12 (off := 0) (by simp) (v := nx') on2.one
        have ks : Keeps (fun i => i = id) σ2 (σ2.set id (.cells [nx'])) := Keeps.set _ _ _
        refine ⟨st,by rw [hbe],⟨nx',ns',get_set o12,on2.sl.keeps ks fun i hi e => on2.noCell o12 (by rw [← e]; exact hi),fun i hi => .inr (Nat.le_trans (Nat.le_trans le6 g56.1) (fn2 i hi)),?_⟩,Keeps.trans (g06.trans g2).any ks fun _ _ h => h⟩
        rw [← hP2]
        refine tn2.mono fun e p he => ?_
        obtain ⟨y,y1,y2,y3⟩ := he
        exact ⟨y,y1,(y2.grow g2).keeps ks fun i hi e => (y2.grow g2).noCell o12 (by rw [← e]; exact hi),y3⟩
       have ho' := g.get ho6
       cases b with
       | true =>
        obtain ⟨s1,s2⟩ := last g on fn tn (by simpa using hP)
        simp -dsimp only [↓WPd,↓Zm,↓Zn,WPu,Za,Zb,Zc,Zd,Ze,Zf,Zg,Zh,Nat.reduceEqDiff,Nat.reduceLT,Zi,Zj,Zk,Zl,Nat.reduceBEq,WPm,w0,w4,w7,w8,w9,isnil_ptr,faddr_ptr,Nat.add_zero,s1]
        exact s2
       | false =>
        obtain ⟨nx5,σ5',c1,c2,c3,c4,c5⟩ := push g on fn tn newR (x1 hP.symm)
        obtain ⟨s1,s2⟩ := last c5 c2 c3 c4 (by simpa using hP)
        simp -dsimp only [↓WPd,↓Zm,↓Zn,WPu,Za,Zb,Zc,Zd,Ze,Zf,Zg,Zh,Nat.reduceEqDiff,Nat.reduceLT,Zi,Zj,Zk,Zl,Nat.reduceBEq,WPm,w0,w4,w7,w8,w9,isnil_ptr,faddr_ptr,Nat.add_zero,load_nm ho',bd_build v u uone,bd_lit v u uone,lit1,c1,s1]
        exact s2
     simp -dsimp only [↓WPd,↓Zm,↓Zn,WPu,Za,Zb,Zc,Zd,Ze,Zf,Zg,Zh,Nat.reduceEqDiff,Nat.reduceLT,Zi,Zj,Zk,Zl,Nat.reduceBEq,WPm,e1,ia,p0,r0,k4]
     cases hk4 : decide (c.k = 4) with
     | true =>
      simp -dsimp only [↓WPd,↓Zm,↓Zn,WPu,Za,Zb,Zc,Zd,Ze,Zf,Zg,Zh,Nat.reduceEqDiff,Nat.reduceLT,Zi,Zj,Zk,Zl,Nat.reduceBEq,WPm,ia,p3,r3,load_nm ho4]
      refine calledW_of (rless_ok d σ4 c.v v) ?_
      rintro r5 σ5 ⟨rfl,g5⟩
      cases hless : nless c.v v with
      | false =>
       simp -dsimp only [↓WPd,↓Zm,↓Zn,WPu,Za,Zb,Zc,Zd,Ze,Zf,Zg,Zh,Nat.reduceEqDiff,Nat.reduceLT,Zi,Zj,Zk,Zl,Nat.reduceBEq,WPm]
       refine fin (e := 71) (g04.trans g5) ?_ (by decide)
       have e : (decide ((t.headD default).k = 4) && !nless (t.headD default).v v) = true := by rw [hhd,hless,hk4]; rfl
       unfold bindE; rw [hn,hov,hg,hl,e]; rfl
      | true =>
       simp -dsimp only [↓WPd,↓Zm,↓Zn,WPu,Za,Zb,Zc,Zd,Ze,Zf,Zg,Zh,Nat.reduceEqDiff,Nat.reduceLT,Zi,Zj,Zk,Zl,Nat.reduceBEq,WPm]
       exact tail _ σ5 g5 rfl rfl rfl (okb fun _ => hless)
     | false =>
      simp -dsimp only [↓WPd,↓Zm,↓Zn,WPu,Za,Zb,Zc,Zd,Ze,Zf,Zg,Zh,Nat.reduceEqDiff,Nat.reduceLT,Zi,Zj,Zk,Zl,Nat.reduceBEq,WPm]
      exact tail _ σ4 (Keeps.refl _ _) rfl rfl rfl (okb fun h => absurd h (by simpa using hk4))
end
def Terms (σ : Store) (l : AVal) (ts : List (List Cel)) : Prop := ∃ es,SlOf σ 1 l es ∧ Two (fun e t => SlOf σ 5 e (CC t)) es ts
theorem Terms.grow {σ σ' : Store} {l : AVal} {ts : List (List Cel)} (h : Terms σ l ts) (g : Grows σ σ') : Terms σ' l ts := by
 obtain ⟨es,h1,h2⟩ := h
 exact ⟨es,h1.grow g,h2.mono fun e t he => he.grow g⟩
theorem Terms.len {σ : Store} {l : AVal} {ts : List (List Cel)} (h : Terms σ l ts) : lenSV l = some ts.length := by
 obtain ⟨es,h1,h2⟩ := h
 rw [← h2.len]; exact h1.len
theorem Terms.at {σ : Store} {l : AVal} {ts : List (List Cel)} (h : Terms σ l ts) {i : Nat} (hi : i < ts.length) : ∃ e,iaddrV 1 l (.int .i64 i) = some (addrOf 1 l i) ∧ loadV σ 1 false (addrOf 1 l i) = some e ∧ SlOf σ 5 e (CC ts[i]) := by
 obtain ⟨es,h1,h2⟩ := h
 have hl : i < es.length := by rw [h2.len]; exact hi
 obtain ⟨e,e1,e2⟩ := h2.get hi
 have he : es[i] = e := by rw [List.getElem?_eq_getElem hl] at e1; exact Option.some.inj e1
 have := h1.load1 hl (by rw [he]; exact e2.one) 1
 rw [he] at this
 exact ⟨e,h1.iaddr hl .i64,this,e2⟩
theorem Terms.nil (σ : Store) : Terms σ .nilslice [] := ⟨[],SlOf.nil _ _,.nil⟩
section
variable (d : Nat) (σ : Store)
theorem rvalue_ok (σ0 : Store) (rv : AVal) (R : Hp) (v : Nm) (h0 : RefV σ0 rv R) (g00 : Grows σ0 σ) (hR : R.length < 2 ^ 40) : Called CU.cfg d 119 [rv,nmV v] σ fun r σ' => ∃ u,r = .tuple [u,.bool (lk R v).isSome] ∧ SlOf σ0 5 u (CC ((lk R v).getD [])) ∧ Grows σ σ' := by
 refine called_of (fn := CU.a119) rfl (Nat.le_of_ble_eq_true rfl) ?_
 simp only [CU.a119, CU.o]
 simp -dsimp only [↓WPd,↓Zm,↓Zn,WPu,Za,Zb,Zc,Zd,Ze,Zf,Zg,Zh,Nat.reduceEqDiff,Nat.reduceLT,Zi,Zj,Zk,Zl,Nat.reduceBEq,nm_cells,nm_one]
 have ho : (σ ++ [AObj.cells (nmC v)])[σ.length]? = some (.cells (nmC v)) := by simp
 have g0 : Grows σ (σ ++ [AObj.cells (nmC v)]) := Grows.app _ _
 have h1 := h0.grow (g00.trans g0)
 generalize σ ++ [AObj.cells (nmC v)] = σ1 at ho g0 h1
 generalize σ.length = i1 at ho
 simp -dsimp only [↓WPd,↓Zm,↓Zn,WPu,Za,Zb,Zc,Zd,Ze,Zf,Zg,Zh,Nat.reduceEqDiff,Nat.reduceLT,Zi,Zj,Zk,Zl,Nat.reduceBEq,load_nm ho]
 refine calledW_of (place_ok d σ1 rv R v h1 hR) ?_
 rintro r σ2 ⟨k,rfl,hk,g2⟩
 cases hl : lk R v with
 | none =>
  rw [hl] at hk
  simp only at hk
  subst hk
  have e1 : decide ((-1 : Int) < 0) = true := rfl
  simp -dsimp only [↓WPd,↓Zm,↓Zn,WPu,Za,Zb,Zc,Zd,Ze,Zf,Zg,Zh,Nat.reduceEqDiff,Nat.reduceLT,Zi,Zj,Zk,Zl,Nat.reduceBEq,e1]
  exact ⟨.nilslice,rfl,SlOf.nil _ _,g0.trans g2⟩
 | some t =>
  rw [hl] at hk
  obtain ⟨j,rfl,hj⟩ := hk
  obtain ⟨hj',hje⟩ := List.getElem?_eq_some_iff.1 hj
  have e1 : decide ((j : Int) < 0) = false := by simp
  rcases h0 with ⟨rfl,rfl⟩ | ⟨id,A,rfl,w,es,o1,o2,o3,o4⟩
  ·simp at hj'
  ·have g02 := g00.trans (g0.trans g2)
   have hke : j < es.length := by rw [o4.len]; exact hj'
   obtain ⟨e,he1,y,he2,he3,-⟩ := o4.get hj'
   have hee : es[j] = e := by rw [List.getElem?_eq_getElem hke] at he1; exact Option.some.inj he1
   have hb := ((o2.grow g02).addr hke .i64).2
   rw [hee,he2] at hb
   have hb' : behind σ2 (addrOf 3 w j) = some (bdC (R[j]).1 y,0) := hb
   obtain ⟨q2,p2,b2⟩ := faddr_at hb' 2
   have r2 : loadV σ2 1 false q2 = some y := load_at b2
   have ia : iaddrV 3 w (.int .i64 j) = some (addrOf 3 w j) := o2.iaddr hke .i64
   have e0 : ([w] : List AVal)[0]? = some w := rfl
   simp -dsimp only [↓WPd,↓Zm,↓Zn,WPu,Za,Zb,Zc,Zd,Ze,Zf,Zg,Zh,Nat.reduceEqDiff,Nat.reduceLT,Zi,Zj,Zk,Zl,Nat.reduceBEq,e1,isnil_ptr,faddr_ptr,Nat.add_zero,load_cells (g02.get o1),e0,ia,p2,r2]
   refine ⟨y,rfl,?_,g0.trans g2⟩
   rw [hje] at he3
   exact he3
theorem rchain_ok (rv tv : AVal) (R : Hp) (t : List Cel) (h : RefV σ rv R) (hw : WF R) (hR : R.length < 2 ^ 30) (ht : SlOf σ 5 tv (CC t)) :
  Called CU.cfg d 136 [rv,tv] σ fun r σ' => Terms σ' r (chain R t) ∧ Grows σ σ' := by
 refine called_of (fn := CU.a136) rfl (Nat.le_of_ble_eq_true rfl) ?_
 have ll := ht.len
 rw [List.length_map] at ll
 simp only [CU.a136, CU.o]
 have k0 : ((t.length : Int) == 0) = decide (t = []) := by cases t <;> simp <;> omega
 simp -dsimp only [↓WPd,↓Zm,↓Zn,WPu,Za,Zb,Zc,Zd,Ze,Zf,Zg,Zh,Nat.reduceEqDiff,Nat.reduceLT,Zi,Zj,Zk,Zl,Nat.reduceBEq,ll,k0]
 refine condP_dec (fun h0 => ?_) (fun h0 => ?_)
 ·simp -dsimp only [↓WPd,↓Zm,↓Zn,WPu,Za,Zb,Zc,Zd,Ze,Zf,Zg,Zh,Nat.reduceEqDiff,Nat.reduceLT,Zi,Zj,Zk,Zl,Nat.reduceBEq]
  rw [chain,if_pos h0]
  exact ⟨Terms.nil _,Keeps.refl _ _⟩
 ·have tone : tv.one = true := ht.one
  have e1 : ∀ u : AVal,u.one = true → fillL 1 false (List.replicate 1 (zel [AVal.nilslice] false)) [(0,u)] = some [u] := fun u hu => by
   have hc : u.cells = [u] := by cases u <;> simp_all [AVal.one]
   have h1 : [u].all AVal.one = true := by simp only [List.all_cons,List.all_nil,hu]; rfl
   have h2 : isAggV u = false := by cases u <;> first | (cases hu; done) | rfl
   simp only [fillL,hc,h1,h2]
   rfl
  simp -dsimp only [↓WPd,↓Zm,↓Zn,WPu,Za,Zb,Zc,Zd,Ze,Zf,Zg,Zh,Nat.reduceEqDiff,Nat.reduceLT,Zi,Zj,Zk,Zl,Nat.reduceBEq,e1 tv tone]
  have hcr := chain_rank hw h0
  refine loop_rule2 (fun m vs σ' => ∃ (x o : AVal) (s : List Cel) (es : List AVal) (pre : List (List Cel)),m = rank R s ∧ vs = [rv,x,o] ∧ Grows σ σ' ∧ SlOf σ 5 x (CC s) ∧ Own σ' 1 o es ∧ Fresh σ.length o ∧ Two (fun e t => SlOf σ 5 e (CC t)) es (pre ++ [s]) ∧ pre ++ chainF (rank R s) R s = chain R t)
   [5] (fun e vs σ' => e = .exit 0 ∧ ∃ (o : AVal),vs = [o] ∧ Grows σ σ' ∧ Terms σ' o (chain R t)) (rank R t)
   ⟨tv,.fslice (AVal.tagL [tv]) true 1 [tv],t,[tv],[],rfl,?_,Keeps.refl _ _,ht,Own.lit _ _ _ _,(fun i h => by cases h),.cons ht .nil,by rw [hcr]; rfl⟩ ?_ ?_
  ·simp -dsimp only [↓WPd,↓Zm,↓Zn,WPu,Za,Zb,Zc,Zd,Ze,Zf,Zg,Zh,Nat.reduceEqDiff,Nat.reduceLT,Zi,Zj,Zk,Zl,Nat.reduceBEq]
  ·rintro m vs σ' ⟨x,o,s,es,pre,rfl,rfl,g,hx,oo,fo,hes,hch⟩
   have hx' := hx.grow g
   have lx := hx'.len
   rw [List.length_map] at lx
   have stop : hnext R s = none → ∃ o',[o] = [o'] ∧ Grows σ σ' ∧ Terms σ' o' (chain R t) := fun hn => by
    rw [chainF_none hn] at hch
    rw [← hch]
    exact ⟨o,rfl,g,es,oo.sl,hes.mono fun e t he => he.grow g⟩
   have k1 : ((s.length : Int) == 1) = decide (s.length = 1) := by by_cases h : s.length = 1 <;> simp [h] <;> omega
   by_cases h1 : s.length = 1
   ·obtain ⟨c,rfl⟩ := List.length_eq_one_iff.1 h1
    have hi0 : 0 < (CC [c]).length := by simp
    have hb := (hx'.addr hi0 .i64).2
    rw [cel_get] at hb
    have hb' : behind σ' (addrOf 5 x 0) = some (c.cs,0) := hb
    obtain ⟨q0,p0,b0⟩ := faddr_at hb' 0
    obtain ⟨q3,p3,b3⟩ := faddr_at hb' 3
    have r0 : loadV σ' 1 false q0 = some (.int .u8 c.k) := load_at b0
    have r3 : loadV σ' 2 true q3 = some (nmV c.v) := loadN_at b3 (by simp [Cel.cs])
    have ia : iaddrV 5 x (.int .i64 0) = some (addrOf 5 x 0) := hx'.iaddr hi0 .i64
    have k4 : ((c.k : Int) == 4) = decide (c.k = 4) := by by_cases h : c.k = 4 <;> simp [h] <;> omega
    simp -dsimp only [↓WPd,↓Zm,↓Zn,WPu,Za,Zb,Zc,Zd,Ze,Zf,Zg,Zh,Nat.reduceEqDiff,Nat.reduceLT,Zi,Zj,Zk,Zl,Nat.reduceBEq,WPm,lx,k1,decide_eq_true h1,ia,p0,r0,k4]
    refine condP_dec (fun hc => ?_) (fun hc => ?_)
    ·have hn : hnext R [c] = lk R c.v := by simp [hnext,hc]
     simp -dsimp only [↓WPd,↓Zm,↓Zn,WPu,Za,Zb,Zc,Zd,Ze,Zf,Zg,Zh,Nat.reduceEqDiff,Nat.reduceLT,Zi,Zj,Zk,Zl,Nat.reduceBEq,WPm,ia,p3,r3]
     refine calledW_of (rvalue_ok d σ' σ rv R c.v h g (by omega)) ?_
     rintro r2 σ2 ⟨u,rfl,hu0,g2⟩
     cases hl : lk R c.v with
     | none =>
      simp -dsimp only [↓WPd,↓Zm,↓Zn,WPu,Za,Zb,Zc,Zd,Ze,Zf,Zg,Zh,Nat.reduceEqDiff,Nat.reduceLT,Zi,Zj,Zk,Zl,Nat.reduceBEq,hl,Option.isSome_none,List.getElem?_cons_zero,List.getElem?_cons_succ]
      obtain ⟨o',e,g',ht'⟩ := stop (by rw [hn,hl])
      cases e
      exact ⟨o,rfl,g'.trans g2,ht'.grow g2⟩
     | some s' =>
      rw [hl] at hu0
      simp only [Option.getD_some] at hu0
      have hn' : hnext R [c] = some s' := by rw [hn,hl]
      obtain ⟨o',σ3,c1,c2,c3,c4,_⟩ := (oo.grow g2).append [u] 24 (by
       have e1 := hes.len
       have e2 := congrArg List.length hch
       have e3 : (chain R t).length ≤ R.length + 2 := by rw [chain,if_neg h0]; exact chainF_len _ _ _
       simp only [List.length_append,List.length_singleton] at e1 e2 ⊢
       omega)
      have lit1 : ∀ (tg : Nat) (σ : Store) (x : AVal),elems 1 σ (.fslice tg true 1 [x]) = some [x] := fun tg σ x => elems_fs 1 tg true σ [x]
      simp -dsimp only [↓WPd,↓Zm,↓Zn,WPu,Za,Zb,Zc,Zd,Ze,Zf,Zg,Zh,Nat.reduceEqDiff,Nat.reduceLT,Zi,Zj,Zk,Zl,Nat.reduceBEq,hl,Option.isSome_some,List.getElem?_cons_zero,List.getElem?_cons_succ,e1 u hu0.one,lit1,c1]
      refine ⟨rank R s',rank_lt hw hn',u,o',s',es ++ [u],pre ++ [[c]],rfl,rfl,?_,hu0,c2,fun i hi => ?_,hes.push hu0,?_⟩
      ·exact Keeps.trans (g.trans g2) c3 fun i hi e => by have := fo i e; omega
      ·rcases c4 i hi with e | e
       ·exact fo i e
       ·have := (g.trans g2).1; omega
      ·rw [List.append_assoc,← hch,chainF_step hw hn']; rfl
    ·have hn : hnext R [c] = none := by simp [hnext,hc]
     simp -dsimp only [↓WPd,↓Zm,↓Zn,WPu,Za,Zb,Zc,Zd,Ze,Zf,Zg,Zh,Nat.reduceEqDiff,Nat.reduceLT,Zi,Zj,Zk,Zl,Nat.reduceBEq]
     exact stop hn
   ·have hn : hnext R s = none := by simp [hnext,h1]
    simp -dsimp only [↓WPd,↓Zm,↓Zn,WPu,Za,Zb,Zc,Zd,Ze,Zf,Zg,Zh,Nat.reduceEqDiff,Nat.reduceLT,Zi,Zj,Zk,Zl,Nat.reduceBEq,WPm,lx,k1,decide_eq_false h1]
    exact stop hn
  ·rintro e σ' env ⟨rfl,o,hv,g,hto⟩
   simp only [List.map_cons,List.map_nil,List.cons.injEq,and_true] at hv
   simp -dsimp only [↓WPd,↓Zm,↓Zn,WPu,Za,Zb,Zc,Zd,Ze,Zf,Zg,Zh,Nat.reduceEqDiff,Nat.reduceLT,Zi,Zj,Zk,Zl,Nat.reduceBEq,hv]
   exact ⟨hto,g⟩
theorem rderef_ok (rv tv : AVal) (R : Hp) (t : List Cel) (h : RefV σ rv R) (hw : WF R) (hR : R.length < 2 ^ 30) (ht : SlOf σ 5 tv (CC t)) :
  Called CU.cfg d 88 [rv,tv] σ fun u σ' => SlOf σ' 5 u (CC (deref R t)) ∧ Grows σ σ' := by
 refine called_of (fn := CU.a88) rfl (Nat.le_of_ble_eq_true rfl) ?_
 simp only [CU.a88, CU.o]
 simp -dsimp only [↓WPd,↓Zm,↓Zn,WPu,Za,Zb,Zc,Zd,Ze,Zf,Zg,Zh,Nat.reduceEqDiff,Nat.reduceLT,Zi,Zj,Zk,Zl,Nat.reduceBEq]
 refine calledW_of (rchain_ok d σ rv tv R t h hw hR ht) ?_
 rintro r σ1 ⟨hc,g1⟩
 have lc := hc.len
 by_cases h0 : t = []
 ·subst h0
  have e0 : chain R [] = [] := by simp [chain]
  rw [e0] at lc
  have k0 : (((([] : List (List Cel)).length : Nat) : Int) == 0) = true := rfl
  simp -dsimp only [↓WPd,↓Zm,↓Zn,WPu,Za,Zb,Zc,Zd,Ze,Zf,Zg,Zh,Nat.reduceEqDiff,Nat.reduceLT,Zi,Zj,Zk,Zl,Nat.reduceBEq,lc,k0]
  rw [deref_nil]
  exact ⟨SlOf.nil _ _,g1⟩
 ·obtain ⟨l,hl⟩ := chain_last R h0
  have hlen : (chain R t).length = l.length + 1 := by rw [hl]; simp
  have hle : (chain R t).length ≤ R.length + 2 := by rw [chain,if_neg h0]; exact chainF_len _ _ _
  rw [hlen] at lc
  have k0 : (((l.length + 1 : Nat) : Int) == 0) = false := by simp; omega
  have w1 : IntKind.i64.wrap (((l.length + 1 : Nat) : Int) - 1) = ((l.length : Nat) : Int) := by rw [wrap_i64 (by omega) (by omega)]; omega
  obtain ⟨e,e1,e2,e3⟩ := hc.at (i := l.length) (by omega)
  have hg : (chain R t)[l.length]'(by omega) = deref R t := by simp [hl]
  rw [hg] at e3
  simp -dsimp only [↓WPd,↓Zm,↓Zn,WPu,Za,Zb,Zc,Zd,Ze,Zf,Zg,Zh,Nat.reduceEqDiff,Nat.reduceLT,Zi,Zj,Zk,Zl,Nat.reduceBEq,lc,k0,w1,e1,e2]
  exact ⟨e3,g1⟩
end
theorem arr_storeA {σ : Store} {id ep fl i n : Nat} {es : List AVal} {cs0 cs : List AVal} (h : σ[id]? = some (.arr n es ep fl)) (hi : i < es.length) (he : es[i] = .agg cs0) (h0 : cs0.length = n) (hc : cs.length = n) (h1 : cs.all AVal.one = true) :
  storeV σ n (.eptr id ep i 0) (.agg cs) = some (σ.set id (.arr n (es.set i (.agg cs)) ep ep)) := by
 have e : splice cs0 0 cs = cs := by
  simp only [splice,List.take_zero,List.nil_append,Nat.zero_add]
  rw [List.drop_eq_nil_of_le (by omega),List.append_nil]
 simp only [storeV,AVal.cells,hc,h1,h,List.getElem?_eq_getElem hi,he,h0,e,AVal.reform,Nat.zero_add,Nat.le_refl,and_self,if_true]
theorem arr_loadA {σ : Store} {id ep epo fl i n : Nat} {es : List AVal} {cs : List AVal} (h : σ[id]? = some (.arr n es epo fl)) (hf : fl ≤ ep) (hi : i < es.length) (he : es[i] = .agg cs) (hc : cs.length = n) : loadV σ n true (.eptr id ep i 0) = some (.agg cs) := by
 subst hc
 simp [loadV,behind,h,hf,List.getElem?_eq_getElem hi,he]
theorem CC_len (l : List Cel) : (CC l).length = l.length := by simp
def mkC (n : Int) : Cel := ⟨0,[],n,(0,0)⟩
def zeroC : Cel := mkC 0
def cmarks : List Cel := (List.range 9).map fun j : Nat => mkC (-700 - (j : Int))
theorem cmarks_len : cmarks.length = 9 := rfl
theorem cmarks_get (j : Nat) (h : j < cmarks.length) : cmarks[j] = mkC (-700 - (j : Int)) := by simp [cmarks]
structure HandedC (σ : Store) (v : AVal) (x : List Cel) (id : Nat) : Prop where
 val : v = .slice 5 id 0 0 x.length (some (x.length + 9))
 obj : σ[id]? = some (.arr 5 (CC (x ++ cmarks)) 0 0)
theorem HandedC.sl {σ : Store} {v : AVal} {x : List Cel} {id : Nat} (h : HandedC σ v x id) : SlOf σ 5 v (CC x) := by
 obtain ⟨rfl,ho⟩ := h
 refine ⟨?_,by simp [lenSV,CC_len],fun s id' ep off len c hc => ?_⟩
 ·simp [elems,ho]
 ·injection hc with _ _ _ _ e5 e6; injection e6 with e6; omega
theorem HandedC.keep {σ σ' : Store} {v : AVal} {x : List Cel} {id : Nat} (h : HandedC σ v x id) {M : Nat → Prop} (hk : Keeps M σ σ') (hm : ¬ M id) : HandedC σ' v x id := ⟨h.val,hk.get h.obj hm⟩
section
variable (d : Nat) (σ : Store)
theorem handc_ok (l : AVal) (x : List Cel) (hx : x.length < 2 ^ 30) (hl : SlOf σ 5 l (CC x)) : Called CU.cfg d 59 [l] σ fun v σ' => HandedC σ' v x σ.length ∧ Grows σ σ' := by
 refine called_of (fn := CU.a59) rfl (Nat.le_of_ble_eq_true rfl) ?_
 have ll := hl.len
 rw [CC_len] at ll
 have w : IntKind.i64.wrap ((x.length : Int) + 9) = ((x.length + 9 : Nat) : Int) := by rw [wrap_i64 (by omega) (by omega)]; omega
 have mk : mkslV σ 5 48 [.int .u8 0,.str [],.int .i64 0,.int .i64 0,.int .i64 0] true (.int .i64 ((x.length + 9 : Nat) : Int)) (.int .i64 ((x.length + 9 : Nat) : Int)) =
   some (.slice 5 σ.length 0 0 (x.length + 9) (some (x.length + 9)),σ ++ [.arr 5 (CC (List.replicate (x.length + 9) zeroC)) 0 0]) := by
  have e : (0 : Int) ≤ ((x.length + 9 : Nat) : Int) ∧ ((x.length + 9 : Nat) : Int) ≤ ((x.length + 9 : Nat) : Int) ∧ ((x.length + 9 : Nat) : Int) * ((48 : Nat) : Int) ≤ apLim := by
   refine ⟨by omega,Int.le_refl _,?_⟩
   have : (apLim : Int) = 70368744177664 := rfl
   omega
  simp only [mkslV]
  rw [if_pos e]
  simp [zel,zeroC,mkC,Cel.val,Cel.cs]
  omega
 simp only [CU.a59, CU.o]
 simp -dsimp only [↓WPd,↓Zm,↓Zn,WPu,Za,Zb,Zc,Zd,Ze,Zf,Zg,Zh,Nat.reduceEqDiff,Nat.reduceLT,Zi,Zj,Zk,Zl,Nat.reduceBEq,ll,w,mk]
 have ho : (σ ++ [AObj.arr 5 (CC (List.replicate (x.length + 9) zeroC)) 0 0])[σ.length]? = some (.arr 5 (CC (List.replicate (x.length + 9) zeroC)) 0 0) := by simp
 have hcur : ∀ (σ' : Store) (bs : List Cel),Grows σ σ' → σ'[σ.length]? = some (.arr 5 (CC bs) 0 0) → SlOf σ' 5 l (CC x) := fun σ' bs g _ => hl.grow g
 refine loop_rule2 (fun m vs σ' => ∃ (k : Nat) (bs : List Cel),k ≤ x.length ∧ m = x.length - k ∧ vs = [l,.slice 5 σ.length 0 0 (x.length + 9) (some (x.length + 9)),.int .i64 k] ∧ Grows σ σ' ∧ σ'[σ.length]? = some (.arr 5 (CC bs) 0 0) ∧ bs.length = x.length + 9 ∧ bs.take k = (x ++ cmarks).take k)
  [0,3] (fun e vs σ' => e = .exit 0 ∧ ∃ bs : List Cel,vs = [l,.slice 5 σ.length 0 0 (x.length + 9) (some (x.length + 9))] ∧ Grows σ σ' ∧ σ'[σ.length]? = some (.arr 5 (CC bs) 0 0) ∧ bs.length = x.length + 9 ∧ bs.take x.length = (x ++ cmarks).take x.length)
  x.length ⟨0,List.replicate (x.length + 9) zeroC,Nat.zero_le _,rfl,?_,Grows.app _ _,ho,by simp,rfl⟩ ?_ ?_
 ·simp -dsimp only [↓WPd,↓Zm,↓Zn,WPu,Za,Zb,Zc,Zd,Ze,Zf,Zg,Zh,Nat.reduceEqDiff,Nat.reduceLT,Zi,Zj,Zk,Zl,Nat.reduceBEq]; rfl
 ·rintro m vs σ' ⟨k,bs,hk,rfl,rfl,g,hob,hbl,ht⟩
  simp -dsimp only [↓WPd,↓Zm,↓Zn,WPu,Za,Zb,Zc,Zd,Ze,Zf,Zg,Zh,Nat.reduceEqDiff,Nat.reduceLT,Zi,Zj,Zk,Zl,Nat.reduceBEq,ll]
  refine condP_dec (fun h => ?_) (fun h => ?_)
  ·have hk' : k < x.length := by omega
   have hi : k < (CC x).length := by rw [CC_len]; exact hk'
   have hi2 : k < (CC bs).length := by rw [CC_len]; omega
   have hlx := hl.grow g
   have st : storeV σ' 5 (.eptr σ.length 0 k 0) (x[k]).val = some (σ'.set σ.length (.arr 5 ((CC bs).set k (x[k]).val) 0 0)) := arr_storeA hob hi2 (cs0 := (bs[k]'(by omega)).cs) (by rw [cel_get]; rfl) rfl rfl rfl
   have lx : loadV σ' 5 true (addrOf 5 l k) = some (x[k]).val := hlx.loadA hi (cs := (x[k]).cs) (by rw [cel_get]; rfl)
   simp -dsimp only [↓WPd,↓Zm,↓Zn,WPu,Za,Zb,Zc,Zd,Ze,Zf,Zg,Zh,Nat.reduceEqDiff,Nat.reduceLT,Zi,Zj,Zk,Zl,Nat.reduceBEq,hlx.iaddr hi,lx,arr_iaddr (show k < x.length + 9 by omega),st]
   have eb : (CC bs).set k (x[k]).val = CC (bs.set k x[k]) := by simp [List.map_set]
   refine ⟨x.length - (k + 1),by omega,k + 1,bs.set k x[k],by omega,rfl,?_,?_,?_,by simpa using hbl,?_⟩
   ·rw [wrap_i64 (by omega) (by omega),Int.natCast_add,Int.natCast_one]
   ·exact Keeps.trans g (Keeps.set _ _ _) fun i hi e => by omega
   ·rw [eb]; exact List.getElem?_set_self (List.getElem?_eq_some_iff.1 hob).1
   ·have := take_set_succ (l := bs) (y := x ++ cmarks) (k := k) (by omega) (by simp; omega) ht
    rwa [List.getElem_append_left hk'] at this
  ·simp -dsimp only [↓WPd,↓Zm,↓Zn,WPu,Za,Zb,Zc,Zd,Ze,Zf,Zg,Zh,Nat.reduceEqDiff,Nat.reduceLT,Zi,Zj,Zk,Zl,Nat.reduceBEq]
   have : k = x.length := by omega
   subst this
   exact ⟨bs,g,hob,hbl,ht⟩
 ·rintro e σ' env ⟨rfl,bs,hv,g,hob,hbl,ht⟩
  simp only [List.map_cons,List.map_nil,List.cons.injEq,and_true] at hv
  obtain ⟨v0,v3⟩ := hv
  simp -dsimp only [↓WPd,↓Zm,↓Zn,WPu,Za,Zb,Zc,Zd,Ze,Zf,Zg,Zh,Nat.reduceEqDiff,Nat.reduceLT,Zi,Zj,Zk,Zl,Nat.reduceBEq,v0,v3,ll]
  refine loop_rule2 (fun m vs σ' => ∃ (k : Nat) (bs : List Cel),x.length ≤ k ∧ k ≤ x.length + 9 ∧ m = x.length + 9 - k ∧ vs = [l,.slice 5 σ.length 0 0 (x.length + 9) (some (x.length + 9)),.int .i64 k] ∧ Grows σ σ' ∧ σ'[σ.length]? = some (.arr 5 (CC bs) 0 0) ∧ bs.length = x.length + 9 ∧ bs.take k = (x ++ cmarks).take k)
   [0,3] (fun e vs σ' => e = .exit 2 ∧ vs = [l,.slice 5 σ.length 0 0 (x.length + 9) (some (x.length + 9))] ∧ Grows σ σ' ∧ σ'[σ.length]? = some (.arr 5 (CC (x ++ cmarks)) 0 0))
   9 ⟨x.length,bs,Nat.le_refl _,by omega,by omega,?_,g,hob,hbl,ht⟩ ?_ ?_
  ·simp -dsimp only [↓WPd,↓Zm,↓Zn,WPu,Za,Zb,Zc,Zd,Ze,Zf,Zg,Zh,Nat.reduceEqDiff,Nat.reduceLT,Zi,Zj,Zk,Zl,Nat.reduceBEq,v0,v3]
  ·rintro m vs σ' ⟨k,bs,hk0,hk,rfl,rfl,g,hob,hbl,ht⟩
   have el : lenSV (.slice 5 σ.length 0 0 (x.length + 9) (some (x.length + 9))) = some (x.length + 9) := rfl
   simp -dsimp only [↓WPd,↓Zm,↓Zn,WPu,Za,Zb,Zc,Zd,Ze,Zf,Zg,Zh,Nat.reduceEqDiff,Nat.reduceLT,Zi,Zj,Zk,Zl,Nat.reduceBEq,el]
   refine condP_dec (fun h => ?_) (fun h => ?_)
   ·have hk' : k < x.length + 9 := by omega
    have hi2 : k < (CC bs).length := by rw [CC_len]; omega
    have w1 : IntKind.i64.wrap (-700 - (k : Int)) = -700 - (k : Int) := by rw [wrap_i64 (by omega) (by omega)]
    have w2 : IntKind.i64.wrap (-700 - (k : Int) + (x.length : Int)) = -700 - ((k - x.length : Nat) : Int) := by rw [wrap_i64 (by omega) (by omega)]; omega
    have bf : fillA [AVal.int IntKind.u8 0,AVal.str [],AVal.int IntKind.i64 0,AVal.int IntKind.i64 0,AVal.int IntKind.i64 0] [(2,1,AVal.int IntKind.i64 (-700 - ((k - x.length : Nat) : Int)))] = some (mkC (-700 - ((k - x.length : Nat) : Int))).cs := rfl
    have st : storeV σ' 5 (.eptr σ.length 0 k 0) (.agg (mkC (-700 - ((k - x.length : Nat) : Int))).cs) = some (σ'.set σ.length (.arr 5 ((CC bs).set k (mkC (-700 - ((k - x.length : Nat) : Int))).val) 0 0)) := arr_storeA hob hi2 (cs0 := (bs[k]'(by omega)).cs) (by rw [cel_get]; rfl) rfl rfl rfl
    simp -dsimp only [↓WPd,↓Zm,↓Zn,WPu,Za,Zb,Zc,Zd,Ze,Zf,Zg,Zh,Nat.reduceEqDiff,Nat.reduceLT,Zi,Zj,Zk,Zl,Nat.reduceBEq,ll,w1,w2,bf,arr_iaddr (show k < x.length + 9 by omega),st]
    have eb : (CC bs).set k (mkC (-700 - ((k - x.length : Nat) : Int))).val = CC (bs.set k (mkC (-700 - ((k - x.length : Nat) : Int)))) := by simp [List.map_set]
    refine ⟨x.length + 9 - (k + 1),by omega,k + 1,bs.set k (mkC (-700 - ((k - x.length : Nat) : Int))),by omega,by omega,rfl,?_,?_,?_,by simpa using hbl,?_⟩
    ·rw [wrap_i64 (by omega) (by omega),Int.natCast_add,Int.natCast_one]
    ·exact Keeps.trans g (Keeps.set _ _ _) fun i hi e => by omega
    ·rw [eb]; exact List.getElem?_set_self (List.getElem?_eq_some_iff.1 hob).1
    ·have := take_set_succ (l := bs) (y := x ++ cmarks) (k := k) (by omega) (by simp [cmarks_len]; omega) ht
     rwa [List.getElem_append_right hk0,cmarks_get] at this
   ·simp -dsimp only [↓WPd,↓Zm,↓Zn,WPu,Za,Zb,Zc,Zd,Ze,Zf,Zg,Zh,Nat.reduceEqDiff,Nat.reduceLT,Zi,Zj,Zk,Zl,Nat.reduceBEq]
    have : k = x.length + 9 := by omega
    subst this
    have e1 : bs = x ++ cmarks := by
     rw [List.take_of_length_le (by omega),List.take_of_length_le (by simp [cmarks_len])] at ht
     exact ht
    rw [← e1]
    exact ⟨g,hob⟩
  ·rintro e σ' env ⟨rfl,hv,g,hob⟩
   simp only [List.map_cons,List.map_nil,List.cons.injEq,and_true] at hv
   obtain ⟨v0,v3⟩ := hv
   have hsl : sliceV 5 (.slice 5 σ.length 0 0 (x.length + 9) (some (x.length + 9))) none (some (.int .i64 (x.length : Nat))) none = some (.slice 5 σ.length 0 0 x.length (some (x.length + 9))) := by
    simp only [sliceV,if_true,obnd_none,Option.getD_some]
    rw [obnd_some _ _ _ (show x.length ≤ x.length + 9 by omega)]
    simp
   simp -dsimp only [↓WPd,↓Zm,↓Zn,WPu,Za,Zb,Zc,Zd,Ze,Zf,Zg,Zh,Nat.reduceEqDiff,Nat.reduceLT,Zi,Zj,Zk,Zl,Nat.reduceBEq,v0,v3,ll,oev,hsl]
   exact ⟨⟨rfl,hob⟩,g⟩
theorem keptc_ok (v l : AVal) (x : List Cel) (id : Nat) (hx : x.length < 2 ^ 30) (hv : HandedC σ v x id) (hl : SlOf σ 5 l (CC x)) : Called CU.cfg d 72 [v,l] σ fun r σ' => r = .bool true ∧ σ' = σ := by
 refine called_of (fn := CU.a72) rfl (Nat.le_of_ble_eq_true rfl) ?_
 have ll := hl.len
 rw [CC_len] at ll
 simp only [CU.a72, CU.o]
 simp -dsimp only [↓WPd,↓Zm,↓Zn,WPu,Za,Zb,Zc,Zd,Ze,Zf,Zg,Zh,Nat.reduceEqDiff,Nat.reduceLT,Zi,Zj,Zk,Zl,Nat.reduceBEq]
 refine calledW_of (samecells_ok d σ v l x x (by omega) hv.sl hl) ?_
 rintro r σ1 ⟨rfl,rfl⟩
 have w : IntKind.i64.wrap ((x.length : Int) + 9) = ((x.length + 9 : Nat) : Int) := by rw [wrap_i64 (by omega) (by omega)]; omega
 have hsl : sliceV 5 v none (some (.int .i64 ((x.length + 9 : Nat) : Int))) none = some (.slice 5 id 0 0 (x.length + 9) (some (x.length + 9))) := by
  rw [hv.val]
  simp only [sliceV,if_true,obnd_none,Option.getD_some]
  rw [obnd_some _ _ _ (Nat.le_refl _)]
  simp
 simp -dsimp only [↓WPd,↓Zm,↓Zn,WPu,Za,Zb,Zc,Zd,Ze,Zf,Zg,Zh,Nat.reduceEqDiff,Nat.reduceLT,Zi,Zj,Zk,Zl,Nat.reduceBEq,decide_true,ll,w,oev,hsl]
 refine loop_rule (fun m vs σ' => ∃ k : Nat,x.length ≤ k ∧ k ≤ x.length + 9 ∧ m = x.length + 9 - k ∧ σ' = σ1 ∧ vs = [l,.slice 5 id 0 0 (x.length + 9) (some (x.length + 9)),.int .i64 k]) 9 ⟨x.length,Nat.le_refl _,by omega,by omega,rfl,?_⟩ ?_
 ·simp -dsimp only [↓WPd,↓Zm,↓Zn,WPu,Za,Zb,Zc,Zd,Ze,Zf,Zg,Zh,Nat.reduceEqDiff,Nat.reduceLT,Zi,Zj,Zk,Zl,Nat.reduceBEq]
 ·rintro m vs σ' ⟨k,hk0,hk,rfl,rfl,rfl⟩
  have el : lenSV (.slice 5 id 0 0 (x.length + 9) (some (x.length + 9))) = some (x.length + 9) := rfl
  simp -dsimp only [↓WPd,↓Zm,↓Zn,WPu,Za,Zb,Zc,Zd,Ze,Zf,Zg,Zh,Nat.reduceEqDiff,Nat.reduceLT,Zi,Zj,Zk,Zl,Nat.reduceBEq,el]
  refine condP_dec (fun h => ?_) (fun h => ?_)
  ·have hk' : k < x.length + 9 := by omega
   have hi2 : k < (CC (x ++ cmarks)).length := by rw [CC_len]; simp [cmarks_len]; omega
   have w1 : IntKind.i64.wrap (-700 - (k : Int)) = -700 - (k : Int) := by rw [wrap_i64 (by omega) (by omega)]
   have w2 : IntKind.i64.wrap (-700 - (k : Int) + (x.length : Int)) = -700 - ((k - x.length : Nat) : Int) := by rw [wrap_i64 (by omega) (by omega)]; omega
   have bf : fillA [AVal.int IntKind.u8 0,AVal.str [],AVal.int IntKind.i64 0,AVal.int IntKind.i64 0,AVal.int IntKind.i64 0] [(2,1,AVal.int IntKind.i64 (-700 - ((k - x.length : Nat) : Int)))] = some (mkC (-700 - ((k - x.length : Nat) : Int))).cs := rfl
   have ld : loadV σ' 5 true (.eptr id 0 k 0) = some (mkC (-700 - ((k - x.length : Nat) : Int))).val := arr_loadA hv.obj (Nat.le_refl 0) hi2 (by rw [cel_get,List.getElem_append_right hk0,cmarks_get]; rfl) rfl
   have en : eqsV [.i,.s,.i,.i,.i] (mkC (-700 - ((k - x.length : Nat) : Int))).val (.agg (mkC (-700 - ((k - x.length : Nat) : Int))).cs) = some true := by
    have := Cel.eqs (mkC (-700 - ((k - x.length : Nat) : Int))) (mkC (-700 - ((k - x.length : Nat) : Int)))
    rw [decide_eq_true rfl] at this; exact this
   simp -dsimp only [↓WPd,↓Zm,↓Zn,WPu,Za,Zb,Zc,Zd,Ze,Zf,Zg,Zh,Nat.reduceEqDiff,Nat.reduceLT,Zi,Zj,Zk,Zl,Nat.reduceBEq,ll,w1,w2,bf,arr_iaddr (show k < x.length + 9 by omega),ld,en]
   refine ⟨x.length + 9 - (k + 1),by omega,k + 1,by omega,by omega,rfl,?_⟩
   rw [wrap_i64 (by omega) (by omega),Int.natCast_add,Int.natCast_one]
  ·simp -dsimp only [↓WPd,↓Zm,↓Zn,WPu,Za,Zb,Zc,Zd,Ze,Zf,Zg,Zh,Nat.reduceEqDiff,Nat.reduceLT,Zi,Zj,Zk,Zl,Nat.reduceBEq]
end
def sCel (s : List UInt8) (n : Nat) : Cel := ⟨3,s,n,(0,0)⟩
def makeE (s : List UInt8) (ts : List (List Cel)) : Int := if !(sCel s ts.length).ok || ts.any (fun t => !right t) then 6 else if 256 < 1 + ts.flatten.length then 5 else 0
def makeT (s : List UInt8) (ts : List (List Cel)) : List Cel := if makeE s ts = 0 then sCel s ts.length :: ts.flatten else []
theorem flatten_le : ∀ {ts : List (List Cel)} {n : Nat},(∀ t ∈ ts,t.length ≤ n) → ts.flatten.length ≤ ts.length * n
 | [],n,_ => by simp
 | t :: ts,n,h => by
  have h1 := h t List.mem_cons_self
  have h2 := flatten_le (ts := ts) (n := n) fun t ht => h t (List.mem_cons_of_mem _ ht)
  simp only [List.flatten_cons,List.length_append,List.length_cons,Nat.succ_mul]
  omega
theorem elems1 (tg : Nat) (σ : Store) (x : AVal) : elems 1 σ (.fslice tg true 1 [x]) = some [x] := elems_fs 1 tg true σ [x]
section
variable (d : Nat) (σ : Store)
theorem tindex_ok (f : FuncId) (p : List Cel → Bool) (l : AVal) (ts : List (List Cel)) (hx : ts.length < 2 ^ 40) (hl : Terms σ l ts) (hf : ∀ (t : List Cel) (e : AVal) (σ' : Store),t ∈ ts → SlOf σ' 5 e (CC t) → Called CU.cfg d f [e] σ' fun v σ'' => v = .bool (p t) ∧ Grows σ' σ'') :
  Called CU.cfg d 172 [l,.func f [] []] σ fun v σ' => (∃ i : Int,v = .int .i64 i ∧ (decide (0 ≤ i)) = ts.any p) ∧ Grows σ σ' := by
 refine called_of (fn := CU.a172) rfl (Nat.le_of_ble_eq_true rfl) ?_
 have ll := hl.len
 simp only [CU.a172, CU.o]
 simp -dsimp only [↓WPd,↓Zm,↓Zn,WPu,Za,Zb,Zc,Zd,Ze,Zf,Zg,Zh,Nat.reduceEqDiff,Nat.reduceLT,Zi,Zj,Zk,Zl,Nat.reduceBEq,ll]
 refine loop_rule2 (fun m vs σ' => ∃ k,k ≤ ts.length ∧ m = ts.length - k ∧ vs = [l,.func f [] [],.int .i64 ts.length,.int .i64 k] ∧ Grows σ σ' ∧ ∀ (j : Nat) (hj : j < ts.length),j < k → p ts[j] = false) [4]
  (fun e vs σ' => Grows σ σ' ∧ ((e = .exit 0 ∧ ts.any p = false) ∨ (e = .ret ∧ ts.any p = true ∧ ∃ k : Nat,vs = [.int .i64 k]))) ts.length ⟨0,Nat.zero_le _,rfl,?_,Keeps.refl _ _,fun j _ h => by omega⟩ ?_ ?_
 ·simp -dsimp only [↓WPd,↓Zm,↓Zn,WPu,Za,Zb,Zc,Zd,Ze,Zf,Zg,Zh,Nat.reduceEqDiff,Nat.reduceLT,Zi,Zj,Zk,Zl,Nat.reduceBEq]; rfl
 ·rintro m vs σ' ⟨k,hk,rfl,rfl,g,hall⟩
  simp -dsimp only [↓WPd,↓Zm,↓Zn,WPu,Za,Zb,Zc,Zd,Ze,Zf,Zg,Zh,Nat.reduceEqDiff,Nat.reduceLT,Zi,Zj,Zk,Zl,Nat.reduceBEq]
  refine condP_dec (fun h => ?_) (fun h => ?_)
  ·have hk' : k < ts.length := by omega
   obtain ⟨e,e1,e2,e3⟩ := (hl.grow g).at hk'
   simp -dsimp only [↓WPd,↓Zm,↓Zn,WPu,Za,Zb,Zc,Zd,Ze,Zf,Zg,Zh,Nat.reduceEqDiff,Nat.reduceLT,Zi,Zj,Zk,Zl,Nat.reduceBEq,e1,e2]
   refine calledW_of (hf ts[k] e σ' (List.getElem_mem _) e3) ?_
   rintro v σ'' ⟨rfl,g2⟩
   simp -dsimp only [↓WPd,↓Zm,↓Zn,WPu,Za,Zb,Zc,Zd,Ze,Zf,Zg,Zh,Nat.reduceEqDiff,Nat.reduceLT,Zi,Zj,Zk,Zl,Nat.reduceBEq]
   refine condP_intro (fun h => ?_) (fun h => ?_)
   ·simp -dsimp only [↓WPd,↓Zm,↓Zn,WPu,Za,Zb,Zc,Zd,Ze,Zf,Zg,Zh,Nat.reduceEqDiff,Nat.reduceLT,Zi,Zj,Zk,Zl,Nat.reduceBEq]
    exact ⟨g.trans g2,.inr ⟨by rw [List.any_eq_true]; exact ⟨_,List.getElem_mem _,h⟩,k,rfl⟩⟩
   ·simp -dsimp only [↓WPd,↓Zm,↓Zn,WPu,Za,Zb,Zc,Zd,Ze,Zf,Zg,Zh,Nat.reduceEqDiff,Nat.reduceLT,Zi,Zj,Zk,Zl,Nat.reduceBEq]
    refine ⟨ts.length - (k + 1),by omega,k + 1,by omega,rfl,by rw [wrap_i64 (by omega) (by omega),Int.natCast_add,Int.natCast_one],g.trans g2,fun j hj hjk => ?_⟩
    by_cases e : j = k
    ·subst e; exact h
    ·exact hall j hj (by omega)
  ·simp -dsimp only [↓WPd,↓Zm,↓Zn,WPu,Za,Zb,Zc,Zd,Ze,Zf,Zg,Zh,Nat.reduceEqDiff,Nat.reduceLT,Zi,Zj,Zk,Zl,Nat.reduceBEq]
   refine ⟨g,.inl ?_⟩
   rw [List.any_eq_false]
   intro x hx
   obtain ⟨j,hj,rfl⟩ := List.getElem_of_mem hx
   rw [hall j hj (by omega)]; simp
 ·rintro e σ' env ⟨g,⟨rfl,hno⟩ | ⟨rfl,hyes,k,hv⟩⟩
  ·simp -dsimp only [↓WPd,↓Zm,↓Zn,WPu,Za,Zb,Zc,Zd,Ze,Zf,Zg,Zh,Nat.reduceEqDiff,Nat.reduceLT,Zi,Zj,Zk,Zl,Nat.reduceBEq]
   exact ⟨⟨_,rfl,by rw [hno]; rfl⟩,g⟩
  ·simp only [List.map_cons,List.map_nil,List.cons.injEq,and_true] at hv
   simp -dsimp only [↓WPd,↓Zm,↓Zn,WPu,Za,Zb,Zc,Zd,Ze,Zf,Zg,Zh,Nat.reduceEqDiff,Nat.reduceLT,Zi,Zj,Zk,Zl,Nat.reduceBEq,hv]
   exact ⟨⟨_,rfl,by rw [hyes]; simp⟩,g⟩
theorem tcontains_ok (f : FuncId) (p : List Cel → Bool) (l : AVal) (ts : List (List Cel)) (hx : ts.length < 2 ^ 40) (hl : Terms σ l ts) (hf : ∀ (t : List Cel) (e : AVal) (σ' : Store),t ∈ ts → SlOf σ' 5 e (CC t) → Called CU.cfg d f [e] σ' fun v σ'' => v = .bool (p t) ∧ Grows σ' σ'') :
  Called CU.cfg d 131 [l,.func f [] []] σ fun v σ' => v = .bool (ts.any p) ∧ Grows σ σ' := by
 refine called_of (fn := CU.a131) rfl (Nat.le_of_ble_eq_true rfl) ?_
 simp only [CU.a131, CU.o]
 simp -dsimp only [↓WPd,↓Zm,↓Zn,WPu,Za,Zb,Zc,Zd,Ze,Zf,Zg,Zh,Nat.reduceEqDiff,Nat.reduceLT,Zi,Zj,Zk,Zl,Nat.reduceBEq]
 refine calledW_of (tindex_ok d σ f p l ts hx hl hf) ?_
 rintro v σ1 ⟨⟨i,rfl,hi⟩,g⟩
 simp -dsimp only [↓WPd,↓Zm,↓Zn,WPu,Za,Zb,Zc,Zd,Ze,Zf,Zg,Zh,Nat.reduceEqDiff,Nat.reduceLT,Zi,Zj,Zk,Zl,Nat.reduceBEq]
 have : decide (i ≥ 0) = ts.any p := hi
 rw [this]
 exact ⟨rfl,g⟩
theorem notright_ok (e : AVal) (t : List Cel) (hs : Small t) (he : SlOf σ 5 e (CC t)) : Called CU.cfg d 132 [e] σ fun v σ' => v = .bool (!right t) ∧ Grows σ σ' := by
 refine called_of (fn := CU.a132) rfl (Nat.le_of_ble_eq_true rfl) ?_
 simp only [CU.a132, CU.o]
 simp -dsimp only [↓WPd,↓Zm,↓Zn,WPu,Za,Zb,Zc,Zd,Ze,Zf,Zg,Zh,Nat.reduceEqDiff,Nat.reduceLT,Zi,Zj,Zk,Zl,Nat.reduceBEq]
 refine calledW_of (right_ok d σ e t hs.1 hs.2 he) ?_
 rintro v σ1 ⟨rfl,g⟩
 simp -dsimp only [↓WPd,↓Zm,↓Zn,WPu,Za,Zb,Zc,Zd,Ze,Zf,Zg,Zh,Nat.reduceEqDiff,Nat.reduceLT,Zi,Zj,Zk,Zl,Nat.reduceBEq]
 exact g
theorem growc_ok (n : Nat) (hn : n < 2 ^ 30) : Called CU.cfg d 173 [.nilslice,.int .i64 n] σ fun v σ' => (n = 0 ∧ v = .nilslice ∧ σ' = σ) ∨ (0 < n ∧ v = .slice 5 σ.length 0 0 0 none ∧ σ' = σ ++ [.arr 5 (CC (List.replicate n zeroC)) 0 0]) := by
 refine called_of (fn := CU.a173) rfl (Nat.le_of_ble_eq_true rfl) ?_
 have e1 : decide ((n : Int) < 0) = false := by simp
 have e2 : capSV .nilslice = some 0 := rfl
 have e3 : lenSV .nilslice = some 0 := rfl
 have w1 : IntKind.i64.wrap (((0 : Nat) : Int) - ((0 : Nat) : Int)) = 0 := by decide
 have w2 : IntKind.i64.wrap ((n : Int) - 0) = (n : Int) := by rw [wrap_i64 (by omega) (by omega)]; omega
 simp only [CU.a173, CU.o]
 simp -dsimp only [↓WPd,↓Zm,↓Zn,WPu,Za,Zb,Zc,Zd,Ze,Zf,Zg,Zh,Nat.reduceEqDiff,Nat.reduceLT,Zi,Zj,Zk,Zl,Nat.reduceBEq,e1,e2,e3,w1,w2]
 refine condP_dec (fun h => ?_) (fun h => ?_)
 ·have hn0 : 0 < n := by omega
  have s1 : sliceV 5 .nilslice none (some (.int .i64 ((0 : Nat) : Int))) none = some .nilslice := rfl
  have a1 : appzV σ 5 48 [.int .u8 0,.str [],.int .i64 0,.int .i64 0,.int .i64 0] true .nilslice (.int .i64 (n : Int)) = some (.slice 5 σ.length 0 0 n none,σ ++ [.arr 5 (CC (List.replicate n zeroC)) 0 0]) := by
   have e : (0 : Int) ≤ (n : Int) ∧ (n : Int) * ((48 : Nat) : Int) ≤ apLim := by
    refine ⟨by omega,?_⟩
    have : (apLim : Int) = 70368744177664 := rfl
    omega
   simp only [appzV]
   rw [if_pos e,if_neg (by omega)]
   simp [zel,zeroC,mkC,Cel.val,Cel.cs]
  have s2 : sliceV 5 (.slice 5 σ.length 0 0 n none) none (some (.int .i64 ((0 : Nat) : Int))) none = some (.slice 5 σ.length 0 0 0 none) := by
   have e : obnd n n none = some n := rfl
   simp only [sliceV,if_true,obnd_none,Option.getD_none]
   rw [obnd_some _ _ _ (Nat.zero_le n)]
   simp
  simp -dsimp only [↓WPd,↓Zm,↓Zn,WPu,Za,Zb,Zc,Zd,Ze,Zf,Zg,Zh,Nat.reduceEqDiff,Nat.reduceLT,Zi,Zj,Zk,Zl,Nat.reduceBEq,oev,e2,e3,s1,a1,s2]
  exact .inr ⟨hn0,trivial⟩
 ·simp -dsimp only [↓WPd,↓Zm,↓Zn,WPu,Za,Zb,Zc,Zd,Ze,Zf,Zg,Zh,Nat.reduceEqDiff,Nat.reduceLT,Zi,Zj,Zk,Zl,Nat.reduceBEq]
  exact .inl ⟨by omega,trivial⟩
theorem concatc_ok (l : AVal) (ts : List (List Cel)) (hx : ts.length < 2 ^ 30) (hs : ts.flatten.length < 2 ^ 30) (hl : Terms σ l ts) : Called CU.cfg d 133 [l] σ fun v σ' => Grows σ σ' ∧ Own σ' 5 v (CC ts.flatten) ∧ Fresh σ.length v ∧ NoLit v := by
 refine called_of (fn := CU.a133) rfl (Nat.le_of_ble_eq_true rfl) ?_
 have ll := hl.len
 have pre : ∀ k,(ts.take k).flatten.length ≤ ts.flatten.length := fun k => by
  conv => rhs; rw [← List.take_append_drop k ts,List.flatten_append,List.length_append]
  omega
 have stp : ∀ {k : Nat} (h : k < ts.length),(ts.take (k + 1)).flatten = (ts.take k).flatten ++ ts[k] := fun h => by
  rw [List.take_succ_eq_append_getElem h,List.flatten_append]; simp
 simp only [CU.a133, CU.o]
 simp -dsimp only [↓WPd,↓Zm,↓Zn,WPu,Za,Zb,Zc,Zd,Ze,Zf,Zg,Zh,Nat.reduceEqDiff,Nat.reduceLT,Zi,Zj,Zk,Zl,Nat.reduceBEq,ll]
 refine loop_rule2 (fun m vs σ' => ∃ k,k ≤ ts.length ∧ m = ts.length - k ∧ vs = [l,.int .i64 ((ts.take k).flatten.length : Nat),l,.int .i64 ts.length,.int .i64 k] ∧ σ' = σ) [0,3]
  (fun e vs σ' => e = .exit 0 ∧ vs = [l,.int .i64 (ts.flatten.length : Nat)] ∧ σ' = σ) ts.length ⟨0,Nat.zero_le _,rfl,?_,rfl⟩ ?_ ?_
 ·simp -dsimp only [↓WPd,↓Zm,↓Zn,WPu,Za,Zb,Zc,Zd,Ze,Zf,Zg,Zh,Nat.reduceEqDiff,Nat.reduceLT,Zi,Zj,Zk,Zl,Nat.reduceBEq]; rfl
 ·rintro m vs σ' ⟨k,hk,rfl,rfl,rfl⟩
  simp -dsimp only [↓WPd,↓Zm,↓Zn,WPu,Za,Zb,Zc,Zd,Ze,Zf,Zg,Zh,Nat.reduceEqDiff,Nat.reduceLT,Zi,Zj,Zk,Zl,Nat.reduceBEq]
  refine condP_dec (fun h => ?_) (fun h => ?_)
  ·have hk' : k < ts.length := by omega
   obtain ⟨e,e1,e2,e3⟩ := hl.at hk'
   have le := e3.len
   rw [List.length_map] at le
   have p1 := pre (k + 1)
   have p2 := stp hk'
   have p3 := congrArg List.length p2
   simp only [List.length_append] at p3
   have w : IntKind.i64.wrap ((((ts.take k).flatten.length : Nat) : Int) + ((ts[k].length : Nat) : Int)) = (((ts.take (k + 1)).flatten.length : Nat) : Int) := by rw [wrap_i64 (by omega) (by omega)]; omega
   have n0 : decide ((((ts.take (k + 1)).flatten.length : Nat) : Int) < 0) = false := by simp
   simp -dsimp only [↓WPd,↓Zm,↓Zn,WPu,Za,Zb,Zc,Zd,Ze,Zf,Zg,Zh,Nat.reduceEqDiff,Nat.reduceLT,Zi,Zj,Zk,Zl,Nat.reduceBEq,e1,e2,le,w,n0]
   exact ⟨ts.length - (k + 1),by omega,k + 1,by omega,rfl,by rw [wrap_i64 (by omega) (by omega),Int.natCast_add,Int.natCast_one],trivial⟩
  ·simp -dsimp only [↓WPd,↓Zm,↓Zn,WPu,Za,Zb,Zc,Zd,Ze,Zf,Zg,Zh,Nat.reduceEqDiff,Nat.reduceLT,Zi,Zj,Zk,Zl,Nat.reduceBEq]
   have : k = ts.length := by omega
   subst this
   rw [List.take_length]
   exact ⟨rfl,trivial⟩
 ·rintro e σ' env ⟨rfl,hv,rfl⟩
  simp only [List.map_cons,List.map_nil,List.cons.injEq,and_true] at hv
  obtain ⟨v0,v3⟩ := hv
  simp -dsimp only [↓WPd,↓Zm,↓Zn,WPu,Za,Zb,Zc,Zd,Ze,Zf,Zg,Zh,Nat.reduceEqDiff,Nat.reduceLT,Zi,Zj,Zk,Zl,Nat.reduceBEq,v0,v3]
  refine calledW_of (growc_ok d σ' ts.flatten.length hs) ?_
  intro nx σ1 hnx
  have fr1 : Fresh σ'.length nx := by
   rcases hnx with ⟨_,rfl,_⟩ | ⟨_,rfl,_⟩
   ·exact Fresh.nil _
   ·intro i hi; simp [AVal.sid] at hi; omega
  have g1 : Grows σ' σ1 := by
   rcases hnx with ⟨_,_,rfl⟩ | ⟨_,_,rfl⟩
   ·exact Keeps.refl _ _
   ·exact Grows.app _ _
  simp -dsimp only [↓WPd,↓Zm,↓Zn,WPu,Za,Zb,Zc,Zd,Ze,Zf,Zg,Zh,Nat.reduceEqDiff,Nat.reduceLT,Zi,Zj,Zk,Zl,Nat.reduceBEq,v0,ll]
  refine loop_rule2 (fun m vs σ2 => ∃ (k : Nat) (x : AVal),k ≤ ts.length ∧ m = ts.length - k ∧ vs = [x,l,.int .i64 ts.length,.int .i64 k] ∧ Grows σ' σ2 ∧
    ((ts.flatten.length = 0 ∧ x = .nilslice) ∨ (0 < ts.flatten.length ∧ x = .slice 5 σ'.length 0 0 (ts.take k).flatten.length none ∧ ∃ zs : List Cel,σ2[σ'.length]? = some (.arr 5 (CC ((ts.take k).flatten ++ zs)) 0 0) ∧ (ts.take k).flatten.length + zs.length = ts.flatten.length)))
   [6] (fun e vs σ2 => e = .exit 2 ∧ ∃ x,vs = [x] ∧ Grows σ' σ2 ∧ Own σ2 5 x (CC ts.flatten) ∧ Fresh σ'.length x ∧ NoLit x) ts.length ⟨0,nx,Nat.zero_le _,rfl,?_,g1,?_⟩ ?_ ?_
  ·simp -dsimp only [↓WPd,↓Zm,↓Zn,WPu,Za,Zb,Zc,Zd,Ze,Zf,Zg,Zh,Nat.reduceEqDiff,Nat.reduceLT,Zi,Zj,Zk,Zl,Nat.reduceBEq,v0]; rfl
  ·rcases hnx with ⟨h0,rfl,rfl⟩ | ⟨h0,rfl,rfl⟩
   ·exact .inl ⟨h0,rfl⟩
   ·exact .inr ⟨h0,rfl,List.replicate ts.flatten.length zeroC,by simp,by simp⟩
  ·rintro m vs σ2 ⟨k,x,hk,rfl,rfl,g,hx2⟩
   simp -dsimp only [↓WPd,↓Zm,↓Zn,WPu,Za,Zb,Zc,Zd,Ze,Zf,Zg,Zh,Nat.reduceEqDiff,Nat.reduceLT,Zi,Zj,Zk,Zl,Nat.reduceBEq]
   refine condP_dec (fun h => ?_) (fun h => ?_)
   ·have hk' : k < ts.length := by omega
    obtain ⟨e,e1,e2,e3⟩ := (hl.grow g).at hk'
    have p1 := pre (k + 1)
    have p2 := stp hk'
    have p3 := congrArg List.length p2
    simp only [List.length_append] at p3
    have fin : ∀ {x' : AVal} {σ3 : Store},Grows σ' σ3 → ((ts.flatten.length = 0 ∧ x' = .nilslice) ∨ (0 < ts.flatten.length ∧ x' = .slice 5 σ'.length 0 0 (ts.take (k + 1)).flatten.length none ∧ ∃ zs : List Cel,σ3[σ'.length]? = some (.arr 5 (CC ((ts.take (k + 1)).flatten ++ zs)) 0 0) ∧ (ts.take (k + 1)).flatten.length + zs.length = ts.flatten.length)) →
      ∃ m',m' < ts.length - k ∧ ∃ k_1 x,k_1 ≤ ts.length ∧ m' = ts.length - k_1 ∧ [x',l,AVal.int .i64 ts.length,AVal.int .i64 (IntKind.i64.wrap ((k : Int) + 1))] = [x,l,.int .i64 ts.length,.int .i64 (k_1 : Nat)] ∧ Grows σ' σ3 ∧
       ((ts.flatten.length = 0 ∧ x = .nilslice) ∨ (0 < ts.flatten.length ∧ x = .slice 5 σ'.length 0 0 (ts.take k_1).flatten.length none ∧ ∃ zs : List Cel,σ3[σ'.length]? = some (.arr 5 (CC ((ts.take k_1).flatten ++ zs)) 0 0) ∧ (ts.take k_1).flatten.length + zs.length = ts.flatten.length)) := by
     intro x' σ3 g3 h3
     exact ⟨ts.length - (k + 1),by omega,k + 1,x',by omega,rfl,by rw [wrap_i64 (by omega) (by omega),Int.natCast_add,Int.natCast_one],g3,h3⟩
    rcases hx2 with ⟨h0,rfl⟩ | ⟨h0,rfl,zs,hz1,hz2⟩
    ·have hnil : ts[k] = [] := List.eq_nil_of_length_eq_zero (by omega)
     have hel : elems 5 σ2 e = some [] := by rw [e3.els,hnil]; rfl
     have ap : appendV σ2 5 48 .nilslice [] = some (.nilslice,σ2) := rfl
     simp -dsimp only [↓WPd,↓Zm,↓Zn,WPu,Za,Zb,Zc,Zd,Ze,Zf,Zg,Zh,Nat.reduceEqDiff,Nat.reduceLT,Zi,Zj,Zk,Zl,Nat.reduceBEq,e1,e2,hel,ap]
     exact fin g (.inl ⟨h0,rfl⟩)
    ·by_cases hn : ts[k] = []
     ·have hel : elems 5 σ2 e = some [] := by rw [e3.els,hn]; rfl
      have ap : appendV σ2 5 48 (.slice 5 σ'.length 0 0 (ts.take k).flatten.length none) [] = some (.slice 5 σ'.length 0 0 (ts.take k).flatten.length none,σ2) := rfl
      have p4 : (ts.take (k + 1)).flatten = (ts.take k).flatten := by rw [p2,hn,List.append_nil]
      simp -dsimp only [↓WPd,↓Zm,↓Zn,WPu,Za,Zb,Zc,Zd,Ze,Zf,Zg,Zh,Nat.reduceEqDiff,Nat.reduceLT,Zi,Zj,Zk,Zl,Nat.reduceBEq,e1,e2,hel,ap]
      exact fin g (.inr ⟨h0,by rw [p4],zs,by rw [p4]; exact hz1,by rw [p4]; exact hz2⟩)
     ·have ap : appendV σ2 5 48 (.slice 5 σ'.length 0 0 (ts.take k).flatten.length none) (CC ts[k]) = some (.slice 5 σ'.length 0 0 (ts.take (k + 1)).flatten.length none,σ2.set σ'.length (.arr 5 (CC ((ts.take (k + 1)).flatten ++ zs.drop ts[k].length)) 0 0)) := by
       have hne : (CC ts[k]).isEmpty = false := by cases h : ts[k] with
        | nil => exact absurd h hn
        | cons c r => rfl
       have c1 : (CC ((ts.take k).flatten ++ zs)).length = ts.flatten.length := by rw [List.length_map,List.length_append]; exact hz2
       have hb : ((ts.take k).flatten.length + (CC ts[k]).length) * 48 ≤ apLim := by
        rw [List.length_map]
        have : apLim = 70368744177664 := rfl
        omega
       simp only [appendV,hne,Bool.false_eq_true,if_false,growV,hz1,hb,Nat.le_refl,and_self,if_true]
       rw [if_neg (by simp only [Option.getD_none,c1,Nat.sub_zero,List.length_map]; omega)]
       simp only [Nat.zero_add,List.length_map,p3]
       congr 4
       rw [p2]
       simp only [List.map_append]
       rw [List.take_append_of_le_length (by rw [List.length_map]; exact Nat.le_refl _),List.take_of_length_le (by rw [List.length_map]; exact Nat.le_refl _)]
       rw [List.drop_append,List.drop_eq_nil_of_le (by rw [List.length_map]; omega),List.nil_append,List.length_map,List.map_drop]
       congr 2
       omega
      simp -dsimp only [↓WPd,↓Zm,↓Zn,WPu,Za,Zb,Zc,Zd,Ze,Zf,Zg,Zh,Nat.reduceEqDiff,Nat.reduceLT,Zi,Zj,Zk,Zl,Nat.reduceBEq,e1,e2,e3.els,ap]
      refine fin (Keeps.trans g (Keeps.set _ _ _) fun i hi e => by omega) (.inr ⟨h0,rfl,zs.drop ts[k].length,?_,?_⟩)
      ·exact List.getElem?_set_self (List.getElem?_eq_some_iff.1 hz1).1
      ·rw [List.length_drop]; omega
   ·have hk2 : k = ts.length := by omega
    subst hk2
    rw [List.take_length] at hx2
    simp -dsimp only [↓WPd,↓Zm,↓Zn,WPu,Za,Zb,Zc,Zd,Ze,Zf,Zg,Zh,Nat.reduceEqDiff,Nat.reduceLT,Zi,Zj,Zk,Zl,Nat.reduceBEq]
    refine ⟨x,rfl,g,?_⟩
    rcases hx2 with ⟨h0,rfl⟩ | ⟨h0,rfl,zs,hz1,hz2⟩
    ·have : ts.flatten = [] := List.eq_nil_of_length_eq_zero h0
     rw [this]
     exact ⟨Own.nil _ _,Fresh.nil _,trivial⟩
    ·have : zs = [] := List.eq_nil_of_length_eq_zero (by omega)
     rw [this,List.append_nil] at hz1
     have := Own.whole hz1 (Nat.le_refl 0)
     rw [List.length_map] at this
     exact ⟨this,fun i hi => by simp [AVal.sid] at hi; omega,trivial⟩
  ·rintro e σ2 env ⟨rfl,x,hv,h⟩
   simp only [List.map_cons,List.map_nil,List.cons.injEq,and_true] at hv
   simp -dsimp only [↓WPd,↓Zm,↓Zn,WPu,Za,Zb,Zc,Zd,Ze,Zf,Zg,Zh,Nat.reduceEqDiff,Nat.reduceLT,Zi,Zj,Zk,Zl,Nat.reduceBEq,hv]
   exact h
end
theorem sCel_parts (s : List UInt8) (n : Nat) : (sCel s n).parts = n := by simp [sCel,Cel.parts]
theorem scel_build (s : List UInt8) (n : Nat) : fillA [AVal.int IntKind.u8 0,AVal.str [],AVal.int IntKind.i64 0,AVal.int IntKind.i64 0,AVal.int IntKind.i64 0] [(0,1,AVal.int IntKind.u8 3),(1,1,AVal.str s),(2,1,AVal.int IntKind.i64 n)] = some (sCel s n).cs := rfl
theorem makeE_sum {s : List UInt8} {ts : List (List Cel)} (h : makeE s ts ≠ 6) : (sCel s ts.length).ok = true ∧ (∀ t ∈ ts,right t = true) ∧ 1 ≤ ts.length ∧ ts.length ≤ 8 ∧ ts.flatten.length ≤ 2048 ∧ ts.flatten ≠ [] := by
 unfold makeE at h
 split at h
 ·exact absurd rfl h
 ·rename_i hc
  simp only [Bool.or_eq_true,Bool.not_eq_true',not_or,Bool.not_eq_false,Bool.not_eq_true,List.any_eq_false] at hc
  obtain ⟨h1,h2⟩ := hc
  have h3 : ∀ t ∈ ts,right t = true := fun t ht => by have := h2 t ht; simpa using this
  have h4 : 1 ≤ ts.length ∧ ts.length ≤ 8 := by
   have hk : (sCel s ts.length).k = 3 := rfl
   have hn : (sCel s ts.length).n = (ts.length : Int) := rfl
   unfold Cel.ok at h1
   rw [if_neg (by rw [hk]; decide),if_neg (by rw [hk]; decide),if_pos hk] at h1
   simp only [Bool.and_eq_true,Bool.or_eq_true,decide_eq_true_eq,hn] at h1
   omega
  have h5 := flatten_le (ts := ts) (n := 256) fun t ht => (right_len (h3 t ht)).2
  refine ⟨h1,h3,h4.1,h4.2,by omega,?_⟩
  cases ts with
  | nil => simp at h4
  | cons t r =>
   have := (right_len (h3 t List.mem_cons_self)).1
   intro e
   have h := congrArg List.length e
   simp only [List.flatten_cons,List.length_append,List.length_nil] at h
   omega
section
variable (d : Nat) (σ : Store)
theorem make_ok (s : List UInt8) (l : AVal) (ts : List (List Cel)) (hx : ts.length < 2 ^ 30) (hs : s.length < 2 ^ 40) (hi : ∀ t ∈ ts,Small t) (hl : Terms σ l ts) :
  Called CU.cfg d 84 [.str s,l] σ fun v σ' => ∃ u,v = .tuple [u,.int .i64 (makeE s ts)] ∧ Grows σ σ' ∧ Own σ' 5 u (CC (makeT s ts)) ∧ Fresh σ.length u ∧ NoLit u := by
 refine called_of (fn := CU.a84) rfl (Nat.le_of_ble_eq_true rfl) ?_
 have ll := hl.len
 have st0 : ∀ (σ : Store),storeV (σ ++ [.cells [.int .u8 0,.str [],.int .i64 0,.int .i64 0,.int .i64 0]]) 5 (.ptr σ.length 0) (.agg (sCel s ts.length).cs) = some (σ ++ [.cells (sCel s ts.length).cs]) := fun σ => by
  have h : (σ ++ [AObj.cells [.int .u8 0,.str [],.int .i64 0,.int .i64 0,.int .i64 0]])[σ.length]? = some (.cells [.int .u8 0,.str [],.int .i64 0,.int .i64 0,.int .i64 0]) := by simp
  rw [storeN_cells (cs' := (sCel s ts.length).cs) (n := 5) h rfl rfl rfl,set_last]
 simp only [CU.a84, CU.o]
 simp -dsimp only [↓WPd,↓Zm,↓Zn,WPu,Za,Zb,Zc,Zd,Ze,Zf,Zg,Zh,Nat.reduceEqDiff,Nat.reduceLT,Zi,Zj,Zk,Zl,Nat.reduceBEq,ll,scel_build,st0]
 have ho : (σ ++ [AObj.cells (sCel s ts.length).cs])[σ.length]? = some (.cells (sCel s ts.length).cs) := by simp
 have g0 : Grows σ (σ ++ [AObj.cells (sCel s ts.length).cs]) := Grows.app _ _
 generalize σ ++ [AObj.cells (sCel s ts.length).cs] = σ1 at ho g0
 have nofit : ∀ {e : Int} {σ' : Store},makeE s ts = e → e ≠ 0 → Grows σ σ' → ∃ u,AVal.tuple [.nilslice,.int .i64 e] = .tuple [u,.int .i64 (makeE s ts)] ∧ Grows σ σ' ∧ Own σ' 5 u (CC (makeT s ts)) ∧ Fresh σ.length u ∧ NoLit u := fun h1 h2 g =>
  ⟨.nilslice,by rw [h1],g,by rw [makeT,if_neg (by rw [h1]; exact h2)]; exact Own.nil _ _,Fresh.nil _,trivial⟩
 generalize hq : σ.length = i1 at ho nofit
 refine drawnP_of rfl ?_
 have k0 : (sCel s ts.length).cs[0]? = some (.int .u8 3) := rfl
 simp -dsimp only [↓WPd,↓Zm,↓Zn,WPu,Za,Zb,Zc,Zd,Ze,Zf,Zg,Zh,Nat.reduceEqDiff,Nat.reduceLT,Zi,Zj,Zk,Zl,Nat.reduceBEq,↓WPed,WPeu,Nat.reduceAdd,and_self,faddr_ptr,Nat.add_zero,load_cells ho,k0]
 refine calledW_of (rule_ok d σ1 3 (by decide)) ?_
 rintro r σ2 ⟨rfl,g2⟩
 have ho2 := g2.get ho
 have f0 : fieldV 0 1 false (.agg [.func (ruleF 3) [] []]) = some (.func (ruleF 3) [] []) := rfl
 have hl2 := (hl.grow g0).grow g2
 simp -dsimp only [↓WPd,↓Zm,↓Zn,WPu,Za,Zb,Zc,Zd,Ze,Zf,Zg,Zh,Nat.reduceEqDiff,Nat.reduceLT,Zi,Zj,Zk,Zl,Nat.reduceBEq,↓WPed,WPeu,Nat.reduceAdd,and_self,f0,cell_load ho2,cell_load ho]
 refine calledW_of (law_ok d σ2 (sCel s ts.length) hs) ?_
 rintro r σ3 ⟨rfl,g3⟩
 have hl3 := hl2.grow g3
 have ho3 := g3.get ho2
 have g03 := (g0.trans g2).trans g3
 cases hok : (sCel s ts.length).ok with
 | false =>
  simp -dsimp only [↓WPd,↓Zm,↓Zn,WPu,Za,Zb,Zc,Zd,Ze,Zf,Zg,Zh,Nat.reduceEqDiff,Nat.reduceLT,Zi,Zj,Zk,Zl,Nat.reduceBEq,↓WPed,WPeu,Nat.reduceAdd,and_self]
  exact nofit (e := 6) (by unfold makeE; rw [hok]; rfl) (by decide) g03
 | true =>
  simp -dsimp only [↓WPd,↓Zm,↓Zn,WPu,Za,Zb,Zc,Zd,Ze,Zf,Zg,Zh,Nat.reduceEqDiff,Nat.reduceLT,Zi,Zj,Zk,Zl,Nat.reduceBEq,↓WPed,WPeu,Nat.reduceAdd,and_self]
  refine calledW_of (tcontains_ok d σ3 132 (fun t => !right t) l ts (by omega) hl3 (fun t e σ' ht he => notright_ok d σ' e t (hi t ht) he)) ?_
  rintro r σ4 ⟨rfl,g4⟩
  have hl4 := hl3.grow g4
  have ho4 := g4.get ho3
  have g04 := g03.trans g4
  cases han : ts.any (fun t => !right t) with
  | true =>
   simp -dsimp only [↓WPd,↓Zm,↓Zn,WPu,Za,Zb,Zc,Zd,Ze,Zf,Zg,Zh,Nat.reduceEqDiff,Nat.reduceLT,Zi,Zj,Zk,Zl,Nat.reduceBEq,↓WPed,WPeu,Nat.reduceAdd,and_self]
   exact nofit (e := 6) (by unfold makeE; rw [hok,han]; rfl) (by decide) g04
  | false =>
   have hme : makeE s ts = if 256 < 1 + ts.flatten.length then 5 else 0 := by unfold makeE; rw [hok,han]; rfl
   obtain ⟨-,-,m1,m2,m3,m4⟩ := makeE_sum (s := s) (ts := ts) (by rw [hme]; split <;> decide)
   simp -dsimp only [↓WPd,↓Zm,↓Zn,WPu,Za,Zb,Zc,Zd,Ze,Zf,Zg,Zh,Nat.reduceEqDiff,Nat.reduceLT,Zi,Zj,Zk,Zl,Nat.reduceBEq,↓WPed,WPeu,Nat.reduceAdd,and_self]
   refine drawnP_of rfl ?_
   have tg : AVal.tagL [(sCel s ts.length).val] = 0 := rfl
   simp -dsimp only [↓WPd,↓Zm,↓Zn,WPu,Za,Zb,Zc,Zd,Ze,Zf,Zg,Zh,Nat.reduceEqDiff,Nat.reduceLT,Zi,Zj,Zk,Zl,Nat.reduceBEq,↓WPed,WPeu,Nat.reduceAdd,and_self,cell_load ho4,cel_lit,tg]
   refine calledW_of (concatc_ok d σ4 l ts hx (by omega) hl4) ?_
   rintro r σ5 ⟨g5,o5,f5,-⟩
   have ho5 := g5.get ho4
   have olit : Own σ5 5 (.fslice 0 true 5 [(sCel s ts.length).val]) (CC [sCel s ts.length]) := Own.lit _ _ _ _
   obtain ⟨u,σ6,a1,a2,a3,a4,a5⟩ := olit.append (CC ts.flatten) 48 (by rw [List.length_map,List.length_map,List.length_singleton]; omega)
   have g6 : Grows σ5 σ6 := a3.mono fun i _ h => by cases h
   have g06 := (g04.trans g5).trans g6
   have ea : CC [sCel s ts.length] ++ CC ts.flatten = CC (sCel s ts.length :: ts.flatten) := rfl
   rw [ea] at a2
   have lu : lenSV u = some (1 + ts.flatten.length) := by have := a2.sl.len; rw [List.length_map,List.length_cons] at this; rw [this,Nat.add_comm]
   have fu : Fresh i1 u := fun i hi => by
    rcases a4 i hi with e | e
    ·cases e
    ·rw [← hq]; have := (g04.trans g5).1; omega
   simp -dsimp only [↓WPd,↓Zm,↓Zn,WPu,Za,Zb,Zc,Zd,Ze,Zf,Zg,Zh,Nat.reduceEqDiff,Nat.reduceLT,Zi,Zj,Zk,Zl,Nat.reduceBEq,↓WPed,WPeu,Nat.reduceAdd,and_self,cell_load ho4,cell_load ho5,cel_lit,tg,o5.sl.els,a1,lu]
   refine condP_dec (fun hc => ?_) (fun hc => ?_)
   ·simp -dsimp only [↓WPd,↓Zm,↓Zn,WPu,Za,Zb,Zc,Zd,Ze,Zf,Zg,Zh,Nat.reduceEqDiff,Nat.reduceLT,Zi,Zj,Zk,Zl,Nat.reduceBEq,↓WPed,WPeu,Nat.reduceAdd,and_self]
    exact nofit (e := 5) (by rw [hme,if_pos (by omega)]) (by decide) g06
   ·simp -dsimp only [↓WPd,↓Zm,↓Zn,WPu,Za,Zb,Zc,Zd,Ze,Zf,Zg,Zh,Nat.reduceEqDiff,Nat.reduceLT,Zi,Zj,Zk,Zl,Nat.reduceBEq,↓WPed,WPeu,Nat.reduceAdd,and_self]
    have hz : makeE s ts = 0 := by rw [hme,if_neg (by omega)]
    refine ⟨u,by rw [hz],g06,?_,fu,a5 (.inr (by simpa using m4))⟩
    rw [makeT,if_pos hz]
    exact a2
theorem rmake_ok (s : List UInt8) (l : AVal) (ts : List (List Cel)) (hx : ts.length < 2 ^ 30) (hi : ∀ t ∈ ts,t.length < 2 ^ 30) (hl : Terms σ l ts) :
  Called CU.cfg d 85 [.str s,l] σ fun v σ' => ∃ u,v = .tuple [u,.int .i64 (makeE s ts)] ∧ Grows σ σ' ∧ Own σ' 5 u (CC (makeT s ts)) ∧ Fresh σ.length u ∧ NoLit u := by
 refine called_of (fn := CU.a85) rfl (Nat.le_of_ble_eq_true rfl) ?_
 have ll := hl.len
 have st0 : ∀ (σ : Store),storeV (σ ++ [.cells [.int .u8 0,.str [],.int .i64 0,.int .i64 0,.int .i64 0]]) 5 (.ptr σ.length 0) (.agg (sCel s ts.length).cs) = some (σ ++ [.cells (sCel s ts.length).cs]) := fun σ => by
  have h : (σ ++ [AObj.cells [.int .u8 0,.str [],.int .i64 0,.int .i64 0,.int .i64 0]])[σ.length]? = some (.cells [.int .u8 0,.str [],.int .i64 0,.int .i64 0,.int .i64 0]) := by simp
  rw [storeN_cells (cs' := (sCel s ts.length).cs) (n := 5) h rfl rfl rfl,set_last]
 have tg : AVal.tagL [(sCel s ts.length).val] = 0 := rfl
 simp only [CU.a85, CU.o]
 simp -dsimp only [↓WPd,↓Zm,↓Zn,WPu,Za,Zb,Zc,Zd,Ze,Zf,Zg,Zh,Nat.reduceEqDiff,Nat.reduceLT,Zi,Zj,Zk,Zl,Nat.reduceBEq,ll,scel_build,st0]
 have ho : (σ ++ [AObj.cells (sCel s ts.length).cs])[σ.length]? = some (.cells (sCel s ts.length).cs) := by simp
 have g0 : Grows σ (σ ++ [AObj.cells (sCel s ts.length).cs]) := Grows.app _ _
 generalize σ ++ [AObj.cells (sCel s ts.length).cs] = σ1 at ho g0
 have nofit : ∀ {e : Int} {σ' : Store},makeE s ts = e → e ≠ 0 → Grows σ σ' → ∃ u,AVal.tuple [.nilslice,.int .i64 e] = .tuple [u,.int .i64 (makeE s ts)] ∧ Grows σ σ' ∧ Own σ' 5 u (CC (makeT s ts)) ∧ Fresh σ.length u ∧ NoLit u := fun h1 h2 g =>
  ⟨.nilslice,by rw [h1],g,by rw [makeT,if_neg (by rw [h1]; exact h2)]; exact Own.nil _ _,Fresh.nil _,trivial⟩
 generalize hq : σ.length = i1 at ho nofit
 simp -dsimp only [↓WPd,↓Zm,↓Zn,WPu,Za,Zb,Zc,Zd,Ze,Zf,Zg,Zh,Nat.reduceEqDiff,Nat.reduceLT,Zi,Zj,Zk,Zl,Nat.reduceBEq,cell_load ho,cel_lit,tg]
 refine loop_rule2 (fun m vs σ' => ∃ k,k ≤ ts.length ∧ m = ts.length - k ∧ vs = [l,.ptr i1 0,.fslice 0 true 5 [(sCel s ts.length).val],.int .i64 k] ∧ Grows σ1 σ' ∧ ∀ (j : Nat) (hj : j < ts.length),j < k → right ts[j] = true) [1,4,5,6,7]
  (fun e vs σ' => Grows σ1 σ' ∧ ((e = .exit 0 ∧ ts.any (fun t => !right t) = false ∧ ∃ a b,vs = [l,a,b,.ptr i1 0,.fslice 0 true 5 [(sCel s ts.length).val]]) ∨ (e = .ret ∧ ts.any (fun t => !right t) = true ∧ ∃ a b c,vs = [a,.nilslice,.int .i64 6,b,c]))) ts.length ⟨0,Nat.zero_le _,rfl,?_,Keeps.refl _ _,fun j _ h => by omega⟩ ?_ ?_
 ·simp -dsimp only [↓WPd,↓Zm,↓Zn,WPu,Za,Zb,Zc,Zd,Ze,Zf,Zg,Zh,Nat.reduceEqDiff,Nat.reduceLT,Zi,Zj,Zk,Zl,Nat.reduceBEq]; rfl
 ·rintro m vs σ' ⟨k,hk,rfl,rfl,g,hall⟩
  have hl' := (hl.grow g0).grow g
  simp -dsimp only [↓WPd,↓Zm,↓Zn,WPu,Za,Zb,Zc,Zd,Ze,Zf,Zg,Zh,Nat.reduceEqDiff,Nat.reduceLT,Zi,Zj,Zk,Zl,Nat.reduceBEq,ll]
  refine condP_dec (fun h => ?_) (fun h => ?_)
  ·have hk' : k < ts.length := by omega
   obtain ⟨e,e1,e2,e3⟩ := hl'.at hk'
   simp -dsimp only [↓WPd,↓Zm,↓Zn,WPu,Za,Zb,Zc,Zd,Ze,Zf,Zg,Zh,Nat.reduceEqDiff,Nat.reduceLT,Zi,Zj,Zk,Zl,Nat.reduceBEq,e1,e2]
   refine calledW_of (rright_ok d σ' e ts[k] (hi _ (List.getElem_mem _)) e3) ?_
   rintro v σ'' ⟨rfl,g2⟩
   cases hr : right ts[k] with
   | false =>
    simp -dsimp only [↓WPd,↓Zm,↓Zn,WPu,Za,Zb,Zc,Zd,Ze,Zf,Zg,Zh,Nat.reduceEqDiff,Nat.reduceLT,Zi,Zj,Zk,Zl,Nat.reduceBEq]
    exact ⟨g.trans g2,.inr ⟨by rw [List.any_eq_true]; exact ⟨_,List.getElem_mem hk',by rw [hr]; rfl⟩,_,_,_,rfl⟩⟩
   | true =>
    simp -dsimp only [↓WPd,↓Zm,↓Zn,WPu,Za,Zb,Zc,Zd,Ze,Zf,Zg,Zh,Nat.reduceEqDiff,Nat.reduceLT,Zi,Zj,Zk,Zl,Nat.reduceBEq]
    refine ⟨ts.length - (k + 1),by omega,k + 1,by omega,rfl,by rw [wrap_i64 (by omega) (by omega),Int.natCast_add,Int.natCast_one],g.trans g2,fun j hj hjk => ?_⟩
    by_cases e : j = k
    ·subst e; exact hr
    ·exact hall j hj (by omega)
  ·simp -dsimp only [↓WPd,↓Zm,↓Zn,WPu,Za,Zb,Zc,Zd,Ze,Zf,Zg,Zh,Nat.reduceEqDiff,Nat.reduceLT,Zi,Zj,Zk,Zl,Nat.reduceBEq]
   refine ⟨g,.inl ⟨?_,_,_,rfl⟩⟩
   rw [List.any_eq_false]
   intro x hx
   obtain ⟨j,hj,rfl⟩ := List.getElem_of_mem hx
   rw [hall j hj (by omega)]; simp
 ·rintro e σ3 env ⟨g,⟨rfl,han,a,b,hv⟩ | ⟨rfl,han,a,b,c,hv⟩⟩
  ·simp only [List.map_cons,List.map_nil,List.cons.injEq,and_true] at hv
   obtain ⟨v1,-,-,v6,v7⟩ := hv
   have ho3 := g.get ho
   have g03 := g0.trans g
   simp -dsimp only [↓WPd,↓Zm,↓Zn,WPu,Za,Zb,Zc,Zd,Ze,Zf,Zg,Zh,Nat.reduceEqDiff,Nat.reduceLT,Zi,Zj,Zk,Zl,Nat.reduceBEq,v1,v6,v7,cell_load ho3]
   refine calledW_of (cell_ok d σ3 (sCel s ts.length)) ?_
   rintro r σ4 ⟨rfl,g4⟩
   have g04 := g03.trans g4
   cases hok : (sCel s ts.length).ok with
   | false =>
    simp -dsimp only [↓WPd,↓Zm,↓Zn,WPu,Za,Zb,Zc,Zd,Ze,Zf,Zg,Zh,Nat.reduceEqDiff,Nat.reduceLT,Zi,Zj,Zk,Zl,Nat.reduceBEq]
    exact nofit (e := 6) (by unfold makeE; rw [hok]; rfl) (by decide) g04
   | true =>
    have hme : makeE s ts = if 256 < 1 + ts.flatten.length then 5 else 0 := by unfold makeE; rw [hok,han]; rfl
    obtain ⟨-,-,m1,m2,m3,m4⟩ := makeE_sum (s := s) (ts := ts) (by rw [hme]; split <;> decide)
    have pre : ∀ k,(ts.take k).flatten.length ≤ ts.flatten.length := fun k => by
     conv => rhs; rw [← List.take_append_drop k ts,List.flatten_append,List.length_append]
     omega
    simp -dsimp only [↓WPd,↓Zm,↓Zn,WPu,Za,Zb,Zc,Zd,Ze,Zf,Zg,Zh,Nat.reduceEqDiff,Nat.reduceLT,Zi,Zj,Zk,Zl,Nat.reduceBEq,v1,v6,v7]
    refine loop_rule2 (fun m vs σ' => ∃ k x,k ≤ ts.length ∧ m = ts.length - k ∧ vs = [l,x,.int .i64 k] ∧ Grows σ σ' ∧ Own σ' 5 x (CC (sCel s ts.length :: (ts.take k).flatten)) ∧ Fresh i1 x ∧ ((ts.take k).flatten ≠ [] → NoLit x)) [7]
     (fun e vs σ' => e = .exit 2 ∧ ∃ x,vs = [x] ∧ Grows σ σ' ∧ Own σ' 5 x (CC (sCel s ts.length :: ts.flatten)) ∧ Fresh i1 x ∧ NoLit x) ts.length
     ⟨0,_,Nat.zero_le _,rfl,?_,g04,Own.lit σ4 5 0 [(sCel s ts.length).val],(fun i h => by cases h),fun h => absurd rfl h⟩ ?_ ?_
    ·simp -dsimp only [↓WPd,↓Zm,↓Zn,WPu,Za,Zb,Zc,Zd,Ze,Zf,Zg,Zh,Nat.reduceEqDiff,Nat.reduceLT,Zi,Zj,Zk,Zl,Nat.reduceBEq,v1,v7]; rfl
    ·rintro m vs σ' ⟨k,x,hk,rfl,rfl,g',ox,fx,nx⟩
     simp -dsimp only [↓WPd,↓Zm,↓Zn,WPu,Za,Zb,Zc,Zd,Ze,Zf,Zg,Zh,Nat.reduceEqDiff,Nat.reduceLT,Zi,Zj,Zk,Zl,Nat.reduceBEq,ll]
     refine condP_dec (fun h => ?_) (fun h => ?_)
     ·have hk' : k < ts.length := by omega
      obtain ⟨e,e1,e2,e3⟩ := (hl.grow g').at hk'
      have p1 := pre (k + 1)
      have p2 : (ts.take (k + 1)).flatten = (ts.take k).flatten ++ ts[k] := by rw [List.take_succ_eq_append_getElem hk',List.flatten_append]; simp
      have p3 := congrArg List.length p2
      simp only [List.length_append] at p3
      obtain ⟨x',σ5,a1,a2,a3,a4,a5⟩ := ox.append (CC ts[k]) 48 (by rw [List.length_map,List.length_map,List.length_cons]; omega)
      simp -dsimp only [↓WPd,↓Zm,↓Zn,WPu,Za,Zb,Zc,Zd,Ze,Zf,Zg,Zh,Nat.reduceEqDiff,Nat.reduceLT,Zi,Zj,Zk,Zl,Nat.reduceBEq,e1,e2,e3.els,a1]
      refine ⟨ts.length - (k + 1),by omega,k + 1,x',by omega,rfl,by rw [wrap_i64 (by omega) (by omega),Int.natCast_add,Int.natCast_one],Keeps.trans g' a3 fun i hi e => by have := fx i e; omega,?_,fun i hi => ?_,fun hne => a5 ?_⟩
      ·rw [p2]
       have : CC (sCel s ts.length :: (ts.take k).flatten) ++ CC ts[k] = CC (sCel s ts.length :: ((ts.take k).flatten ++ ts[k])) := by simp
       rw [this] at a2
       exact a2
      ·rcases a4 i hi with e | e
       ·exact fx i e
       ·have := g'.1; omega
      ·by_cases e : ts[k] = []
       ·left; apply nx; rw [p2,e,List.append_nil] at hne; exact hne
       ·right; simpa using e
     ·simp -dsimp only [↓WPd,↓Zm,↓Zn,WPu,Za,Zb,Zc,Zd,Ze,Zf,Zg,Zh,Nat.reduceEqDiff,Nat.reduceLT,Zi,Zj,Zk,Zl,Nat.reduceBEq]
      have : k = ts.length := by omega
      subst this
      rw [List.take_length] at ox nx
      exact ⟨x,rfl,g',ox,fx,nx m4⟩
    ·rintro e σ6 env ⟨rfl,x,hv,g6,o6,f6,n6⟩
     simp only [List.map_cons,List.map_nil,List.cons.injEq,and_true] at hv
     have lu : lenSV x = some (1 + ts.flatten.length) := by have := o6.sl.len; rw [List.length_map,List.length_cons] at this; rw [this,Nat.add_comm]
     simp -dsimp only [↓WPd,↓Zm,↓Zn,WPu,Za,Zb,Zc,Zd,Ze,Zf,Zg,Zh,Nat.reduceEqDiff,Nat.reduceLT,Zi,Zj,Zk,Zl,Nat.reduceBEq,hv,lu]
     refine condP_dec (fun hc => ?_) (fun hc => ?_)
     ·simp -dsimp only [↓WPd,↓Zm,↓Zn,WPu,Za,Zb,Zc,Zd,Ze,Zf,Zg,Zh,Nat.reduceEqDiff,Nat.reduceLT,Zi,Zj,Zk,Zl,Nat.reduceBEq]
      exact nofit (e := 5) (by rw [hme,if_pos (by omega)]) (by decide) g6
     ·simp -dsimp only [↓WPd,↓Zm,↓Zn,WPu,Za,Zb,Zc,Zd,Ze,Zf,Zg,Zh,Nat.reduceEqDiff,Nat.reduceLT,Zi,Zj,Zk,Zl,Nat.reduceBEq,hv]
      have hz : makeE s ts = 0 := by rw [hme,if_neg (by omega)]
      refine ⟨x,by rw [hz],g6,?_,f6,n6⟩
      rw [makeT,if_pos hz]
      exact o6
  ·simp only [List.map_cons,List.map_nil,List.cons.injEq,and_true] at hv
   obtain ⟨-,v4,v5,-,-⟩ := hv
   simp -dsimp only [↓WPd,↓Zm,↓Zn,WPu,Za,Zb,Zc,Zd,Ze,Zf,Zg,Zh,Nat.reduceEqDiff,Nat.reduceLT,Zi,Zj,Zk,Zl,Nat.reduceBEq,v4,v5]
   exact nofit (e := 6) (by unfold makeE; rw [han,Bool.or_true]; rfl) (by decide) (g0.trans g)
end
section
variable (d : Nat) (σ : Store)
theorem args_ok (l : AVal) (t : List Cel) (hx : t.length < 2 ^ 30) (hi : ∀ c ∈ t,c.k < 256 ∧ c.s.length < 2 ^ 40) (hl : SlOf σ 5 l (t.map Cel.val)) :
  Called CU.cfg d 83 [l] σ fun v σ' => Grows σ σ' ∧ ∃ es,ORows σ' σ.length 5 v es ((args t).map CC) := by
 refine called_of (fn := CU.a83) rfl (Nat.le_of_ble_eq_true rfl) ?_
 have ll := hl.len
 rw [List.length_map] at ll
 simp only [CU.a83, CU.o]
 simp -dsimp only [↓WPd,↓Zm,↓Zn,WPu,Za,Zb,Zc,Zd,Ze,Zf,Zg,Zh,Nat.reduceEqDiff,Nat.reduceLT,Zi,Zj,Zk,Zl,Nat.reduceBEq,WPm]
 refine calledW_of (right_ok d σ l t hx hi hl) ?_
 rintro v σ1 ⟨rfl,g1⟩
 have hl1 := hl.grow g1
 have fin0 : args t = [] → (∃ es,ORows σ1 σ.length 5 .nilslice es ((args t).map CC)) := fun h => ⟨[],by rw [h]; exact ORows.nil _ _ _⟩
 cases hr : right t with
 | false =>
  simp -dsimp only [↓WPd,↓Zm,↓Zn,WPu,Za,Zb,Zc,Zd,Ze,Zf,Zg,Zh,Nat.reduceEqDiff,Nat.reduceLT,Zi,Zj,Zk,Zl,Nat.reduceBEq,WPm,Bool.true_or]
  exact ⟨g1,fin0 (by simp [args,hr])⟩
 | true =>
  cases t with
  | nil => simp [right] at hr
  | cons c r =>
   have hi0 : 0 < ((c :: r).map Cel.val).length := by simp
   have hb := (hl1.addr hi0 .i64).2
   rw [cel_get] at hb
   obtain ⟨q0,p0,r0⟩ := faddr_load hb 0
   have r0' : loadV σ1 1 false q0 = some (.int .u8 c.k) := r0
   have ia : iaddrV 5 l (.int .i64 0) = some (addrOf 5 l 0) := hl1.iaddr hi0 .i64
   have k3 : ((c.k : Int) != 3) = !decide (c.k = 3) := by by_cases h : c.k = 3 <;> simp [h,bne] <;> omega
   simp -dsimp only [↓WPd,↓Zm,↓Zn,WPu,Za,Zb,Zc,Zd,Ze,Zf,Zg,Zh,Nat.reduceEqDiff,Nat.reduceLT,Zi,Zj,Zk,Zl,Nat.reduceBEq,WPm,ia,p0,r0',k3,Bool.false_or]
   refine condP_intro (fun h => ?_) (fun h => ?_)
   ·simp only [Bool.not_eq_true',decide_eq_false_iff_not] at h
    simp -dsimp only [↓WPd,↓Zm,↓Zn,WPu,Za,Zb,Zc,Zd,Ze,Zf,Zg,Zh,Nat.reduceEqDiff,Nat.reduceLT,Zi,Zj,Zk,Zl,Nat.reduceBEq]
    exact ⟨g1,fin0 (by simp [args,h])⟩
   ·simp only [Bool.not_eq_false',decide_eq_true_eq] at h
    obtain ⟨z1,z2,z3⟩ := right_cons hr
    have ha : args (c :: r) = argsFrom (c :: r).length (c :: r).length r 1 := by simp [args,hr,h]
    simp -dsimp only [↓WPd,↓Zm,↓Zn,WPu,Za,Zb,Zc,Zd,Ze,Zf,Zg,Zh,Nat.reduceEqDiff,Nat.reduceLT,Zi,Zj,Zk,Zl,Nat.reduceBEq]
    generalize hT : c :: r = T at *
    have hdrop : r = T.drop 1 := by rw [← hT]; rfl
    have hlen : T.length = 1 + r.length := by rw [← hT]; simp; omega
    refine loop_rule2 (fun m vs σ' => ∃ (k f q : Nat) (lv : AVal) (es : List AVal) (ps : List (List Cel)),1 ≤ k ∧ k ≤ T.length ∧ m = T.length - k ∧ vs = [l,lv,.int .i64 k] ∧ Grows σ σ' ∧ ORows σ' σ.length 5 lv es (ps.map CC) ∧ ps ++ argsFrom T.length f (T.drop k) k = args T ∧ T.length - k ≤ f ∧ endAt T.length (T.drop k) q k = T.length ∧ ps.length ≤ k)
     [3] (fun e vs σ' => e = .exit 0 ∧ ∃ (lv : AVal) (es : List AVal),vs = [lv] ∧ Grows σ σ' ∧ ORows σ' σ.length 5 lv es ((args T).map CC)) (T.length - 1) ⟨1,T.length,c.parts,.nilslice,[],[],Nat.le_refl _,by omega,rfl,?_,g1,ORows.nil _ _ _,by rw [ha,hdrop]; rfl,by omega,by rw [← hdrop,z1,hlen],by simp⟩ ?_ ?_
    ·simp -dsimp only [↓WPd,↓Zm,↓Zn,WPu,Za,Zb,Zc,Zd,Ze,Zf,Zg,Zh,Nat.reduceEqDiff,Nat.reduceLT,Zi,Zj,Zk,Zl,Nat.reduceBEq]; rfl
    ·rintro m vs σ' ⟨k,f,q,lv,es,ps,hk1,hk,rfl,rfl,g,ho,hp,hf,he,hpl⟩
     have hl' := hl.grow g
     have ll' := hl'.len
     rw [List.length_map] at ll'
     simp -dsimp only [↓WPd,↓Zm,↓Zn,WPu,Za,Zb,Zc,Zd,Ze,Zf,Zg,Zh,Nat.reduceEqDiff,Nat.reduceLT,Zi,Zj,Zk,Zl,Nat.reduceBEq,ll']
     refine condP_dec (fun h => ?_) (fun h => ?_)
     ·have hk' : k < T.length := by omega
      obtain ⟨q,rfl⟩ : ∃ q',q = 1 + q' := ⟨q - 1,by
       cases q with
       | zero => rw [endAt_zero] at he; omega
       | succ q => omega⟩
      obtain ⟨y1,y2⟩ := endAt_add he (by omega) (by omega)
      obtain ⟨x1,x2,x3⟩ := endAt_le (rfl : endAt T.length (T.drop k) 1 k = _) y1
      have x4 := x3 (by omega)
      have hend : endT T k = endAt T.length (T.drop k) 1 k := by simp [endT,hk']
      rw [List.length_drop] at x2
      generalize hE : endAt T.length (T.drop k) 1 k = E at *
      rw [List.drop_drop,show k + (E - k) = E by omega] at y2
      simp -dsimp only [↓WPd,↓Zm,↓Zn,WPu,Za,Zb,Zc,Zd,Ze,Zf,Zg,Zh,Nat.reduceEqDiff,Nat.reduceLT,Zi,Zj,Zk,Zl,Nat.reduceBEq]
      refine calledW_of (end_ok d σ' l T k hx hl') ?_
      rintro v σ2 ⟨rfl,g2⟩
      rw [hend]
      have hl2 := hl'.grow g2
      obtain ⟨v',s1,s2,-⟩ := hl2.sub (lo := k) (hi := E) (by omega) (by rw [List.length_map]; omega) .i64 .i64
      have hseg : ((T.map Cel.val).take E).drop k = ((T.drop k).take (E - k)).map Cel.val := by
       rw [List.drop_take,List.map_take,List.map_drop]
      rw [hseg] at s2
      simp -dsimp only [↓WPd,↓Zm,↓Zn,WPu,Za,Zb,Zc,Zd,Ze,Zf,Zg,Zh,Nat.reduceEqDiff,Nat.reduceLT,Zi,Zj,Zk,Zl,Nat.reduceBEq,oev,s1]
      refine calledW_of (cclone_ok d σ2 v' ((T.drop k).take (E - k)) (by simp; omega) s2) ?_
      rintro e σ3 ⟨g3,oe,fe,le⟩
      have e1 : fillL 1 false (List.replicate 1 (zel [AVal.nilslice] false)) [(0,e)] = some [e] := by
       rcases oe.own with ⟨rfl,_⟩ | ⟨t,rfl⟩ | ⟨id,ep,off,cap,xs,epo,fl,rfl,_⟩ <;> simp
      have hel := ho.len
      rw [List.length_map] at hel
      obtain ⟨lv',σ5,a1,a2,a3⟩ := (ho.grow g2).push (Nat.le_trans g.1 g2.1) g3 oe fe le 24 (by omega)
      have lel : ∀ tg,elems 1 σ3 (.fslice tg true 1 [e]) = some [e] := fun tg => (SlOf.fs σ3 1 tg true [e]).els
      simp -dsimp only [↓WPd,↓Zm,↓Zn,WPu,Za,Zb,Zc,Zd,Ze,Zf,Zg,Zh,Nat.reduceEqDiff,Nat.reduceLT,Zi,Zj,Zk,Zl,Nat.reduceBEq,e1,lel,a1]
      refine ⟨T.length - E,by omega,E,f - 1,q,lv',es ++ [e],ps ++ [(T.drop k).take (E - k)],by omega,by omega,rfl,rfl,?_,by simpa using a2,?_,by omega,y2,by simp; omega⟩
      ·exact Keeps.trans ((g.trans g2).trans g3) a3 fun i hi h => by omega
      ·obtain ⟨f,rfl⟩ : ∃ f',f = f' + 1 := ⟨f - 1,by omega⟩
       have hne : T.drop k ≠ [] := by
        intro e; have := congrArg List.length e; simp at this; omega
       rw [← hp]
       simp only [argsFrom,if_neg hne,hE,List.append_assoc,List.singleton_append,Nat.add_sub_cancel,List.drop_drop]
       rw [show k + (E - k) = E by omega]
     ·simp -dsimp only [↓WPd,↓Zm,↓Zn,WPu,Za,Zb,Zc,Zd,Ze,Zf,Zg,Zh,Nat.reduceEqDiff,Nat.reduceLT,Zi,Zj,Zk,Zl,Nat.reduceBEq]
      have hkT : k = T.length := by omega
      have : argsFrom T.length f (T.drop k) k = [] := by
       rw [hkT,List.drop_length]
       cases f <;> simp [argsFrom]
      rw [this,List.append_nil] at hp
      rw [← hp]
      exact ⟨lv,es,rfl,g,ho⟩
    ·rintro e σ' env ⟨rfl,lv,es,hv,g,ho⟩
     simp only [List.map_cons,List.map_nil,List.cons.injEq,and_true] at hv
     simp -dsimp only [↓WPd,↓Zm,↓Zn,WPu,Za,Zb,Zc,Zd,Ze,Zf,Zg,Zh,Nat.reduceEqDiff,Nat.reduceLT,Zi,Zj,Zk,Zl,Nat.reduceBEq,hv]
     exact ⟨g,es,ho⟩
theorem rargs_ok (l : AVal) (t : List Cel) (hx : t.length < 2 ^ 30) (hl : SlOf σ 5 l (t.map Cel.val)) :
  Called CU.cfg d 90 [l] σ fun v σ' => Grows σ σ' ∧ ∃ es,ORows σ' σ.length 5 v es ((args t).map CC) := by
 refine called_of (fn := CU.a90) rfl (Nat.le_of_ble_eq_true rfl) ?_
 have ll := hl.len
 rw [List.length_map] at ll
 simp only [CU.a90, CU.o]
 simp -dsimp only [↓WPd,↓Zm,↓Zn,WPu,Za,Zb,Zc,Zd,Ze,Zf,Zg,Zh,Nat.reduceEqDiff,Nat.reduceLT,Zi,Zj,Zk,Zl,Nat.reduceBEq,WPm]
 refine calledW_of (rright_ok d σ l t hx hl) ?_
 rintro v σ1 ⟨rfl,g1⟩
 have hl1 := hl.grow g1
 have fin0 : args t = [] → (∃ es,ORows σ1 σ.length 5 .nilslice es ((args t).map CC)) := fun h => ⟨[],by rw [h]; exact ORows.nil _ _ _⟩
 cases hr : right t with
 | false =>
  simp -dsimp only [↓WPd,↓Zm,↓Zn,WPu,Za,Zb,Zc,Zd,Ze,Zf,Zg,Zh,Nat.reduceEqDiff,Nat.reduceLT,Zi,Zj,Zk,Zl,Nat.reduceBEq,WPm,Bool.true_or]
  exact ⟨g1,fin0 (by simp [args,hr])⟩
 | true =>
  cases t with
  | nil => simp [right] at hr
  | cons c r =>
   have hi0 : 0 < ((c :: r).map Cel.val).length := by simp
   have hb := (hl1.addr hi0 .i64).2
   rw [cel_get] at hb
   obtain ⟨q0,p0,r0⟩ := faddr_load hb 0
   have r0' : loadV σ1 1 false q0 = some (.int .u8 c.k) := r0
   have ia : iaddrV 5 l (.int .i64 0) = some (addrOf 5 l 0) := hl1.iaddr hi0 .i64
   have k3 : ((c.k : Int) != 3) = !decide (c.k = 3) := by by_cases h : c.k = 3 <;> simp [h,bne] <;> omega
   simp -dsimp only [↓WPd,↓Zm,↓Zn,WPu,Za,Zb,Zc,Zd,Ze,Zf,Zg,Zh,Nat.reduceEqDiff,Nat.reduceLT,Zi,Zj,Zk,Zl,Nat.reduceBEq,WPm,ia,p0,r0',k3,Bool.false_or]
   refine condP_intro (fun h => ?_) (fun h => ?_)
   ·simp only [Bool.not_eq_true',decide_eq_false_iff_not] at h
    simp -dsimp only [↓WPd,↓Zm,↓Zn,WPu,Za,Zb,Zc,Zd,Ze,Zf,Zg,Zh,Nat.reduceEqDiff,Nat.reduceLT,Zi,Zj,Zk,Zl,Nat.reduceBEq]
    exact ⟨g1,fin0 (by simp [args,h])⟩
   ·simp only [Bool.not_eq_false',decide_eq_true_eq] at h
    obtain ⟨z1,z2,z3⟩ := right_cons hr
    have ha : args (c :: r) = argsFrom (c :: r).length (c :: r).length r 1 := by simp [args,hr,h]
    simp -dsimp only [↓WPd,↓Zm,↓Zn,WPu,Za,Zb,Zc,Zd,Ze,Zf,Zg,Zh,Nat.reduceEqDiff,Nat.reduceLT,Zi,Zj,Zk,Zl,Nat.reduceBEq]
    generalize hT : c :: r = T at *
    have hdrop : r = T.drop 1 := by rw [← hT]; rfl
    have hlen : T.length = 1 + r.length := by rw [← hT]; simp; omega
    refine loop_rule2 (fun m vs σ' => ∃ (k f q : Nat) (lv : AVal) (es : List AVal) (ps : List (List Cel)),1 ≤ k ∧ k ≤ T.length ∧ m = T.length - k ∧ vs = [l,lv,.int .i64 k] ∧ Grows σ σ' ∧ ORows σ' σ.length 5 lv es (ps.map CC) ∧ ps ++ argsFrom T.length f (T.drop k) k = args T ∧ T.length - k ≤ f ∧ endAt T.length (T.drop k) q k = T.length ∧ ps.length ≤ k)
     [3] (fun e vs σ' => e = .exit 0 ∧ ∃ (lv : AVal) (es : List AVal),vs = [lv] ∧ Grows σ σ' ∧ ORows σ' σ.length 5 lv es ((args T).map CC)) (T.length - 1) ⟨1,T.length,c.parts,.nilslice,[],[],Nat.le_refl _,by omega,rfl,?_,g1,ORows.nil _ _ _,by rw [ha,hdrop]; rfl,by omega,by rw [← hdrop,z1,hlen],by simp⟩ ?_ ?_
    ·simp -dsimp only [↓WPd,↓Zm,↓Zn,WPu,Za,Zb,Zc,Zd,Ze,Zf,Zg,Zh,Nat.reduceEqDiff,Nat.reduceLT,Zi,Zj,Zk,Zl,Nat.reduceBEq]; rfl
    ·rintro m vs σ' ⟨k,f,q,lv,es,ps,hk1,hk,rfl,rfl,g,ho,hp,hf,he,hpl⟩
     have hl' := hl.grow g
     have ll' := hl'.len
     rw [List.length_map] at ll'
     simp -dsimp only [↓WPd,↓Zm,↓Zn,WPu,Za,Zb,Zc,Zd,Ze,Zf,Zg,Zh,Nat.reduceEqDiff,Nat.reduceLT,Zi,Zj,Zk,Zl,Nat.reduceBEq,ll']
     refine condP_dec (fun h => ?_) (fun h => ?_)
     ·have hk' : k < T.length := by omega
      obtain ⟨q,rfl⟩ : ∃ q',q = 1 + q' := ⟨q - 1,by
       cases q with
       | zero => rw [endAt_zero] at he; omega
       | succ q => omega⟩
      obtain ⟨y1,y2⟩ := endAt_add he (by omega) (by omega)
      obtain ⟨x1,x2,x3⟩ := endAt_le (rfl : endAt T.length (T.drop k) 1 k = _) y1
      have x4 := x3 (by omega)
      have hend : endT T k = endAt T.length (T.drop k) 1 k := by simp [endT,hk']
      rw [List.length_drop] at x2
      generalize hE : endAt T.length (T.drop k) 1 k = E at *
      rw [List.drop_drop,show k + (E - k) = E by omega] at y2
      simp -dsimp only [↓WPd,↓Zm,↓Zn,WPu,Za,Zb,Zc,Zd,Ze,Zf,Zg,Zh,Nat.reduceEqDiff,Nat.reduceLT,Zi,Zj,Zk,Zl,Nat.reduceBEq]
      refine calledW_of (rend_ok d σ' l T k hx hl') ?_
      rintro v σ2 ⟨rfl,hσ⟩
      have g2 : Grows σ' σ2 := by rw [hσ]; exact Keeps.refl _ _
      rw [hend]
      have hl2 := hl'.grow g2
      obtain ⟨v',s1,s2,-⟩ := hl2.sub (lo := k) (hi := E) (by omega) (by rw [List.length_map]; omega) .i64 .i64
      have hseg : ((T.map Cel.val).take E).drop k = ((T.drop k).take (E - k)).map Cel.val := by
       rw [List.drop_take,List.map_take,List.map_drop]
      rw [hseg] at s2
      simp -dsimp only [↓WPd,↓Zm,↓Zn,WPu,Za,Zb,Zc,Zd,Ze,Zf,Zg,Zh,Nat.reduceEqDiff,Nat.reduceLT,Zi,Zj,Zk,Zl,Nat.reduceBEq,oev,s1]
      refine calledW_of (copied_ok d σ2 v' ((T.drop k).take (E - k)) (by simp; omega) s2) ?_
      rintro e σ3 ⟨g3,oe,fe,le⟩
      have e1 : fillL 1 false (List.replicate 1 (zel [AVal.nilslice] false)) [(0,e)] = some [e] := by
       rcases oe.own with ⟨rfl,_⟩ | ⟨t,rfl⟩ | ⟨id,ep,off,cap,xs,epo,fl,rfl,_⟩ <;> simp
      have hel := ho.len
      rw [List.length_map] at hel
      obtain ⟨lv',σ5,a1,a2,a3⟩ := (ho.grow g2).push (Nat.le_trans g.1 g2.1) g3 oe fe le 24 (by omega)
      have lel : ∀ tg,elems 1 σ3 (.fslice tg true 1 [e]) = some [e] := fun tg => (SlOf.fs σ3 1 tg true [e]).els
      simp -dsimp only [↓WPd,↓Zm,↓Zn,WPu,Za,Zb,Zc,Zd,Ze,Zf,Zg,Zh,Nat.reduceEqDiff,Nat.reduceLT,Zi,Zj,Zk,Zl,Nat.reduceBEq,e1,lel,a1]
      refine ⟨T.length - E,by omega,E,f - 1,q,lv',es ++ [e],ps ++ [(T.drop k).take (E - k)],by omega,by omega,rfl,rfl,?_,by simpa using a2,?_,by omega,y2,by simp; omega⟩
      ·exact Keeps.trans ((g.trans g2).trans g3) a3 fun i hi h => by omega
      ·obtain ⟨f,rfl⟩ : ∃ f',f = f' + 1 := ⟨f - 1,by omega⟩
       have hne : T.drop k ≠ [] := by
        intro e; have := congrArg List.length e; simp at this; omega
       rw [← hp]
       simp only [argsFrom,if_neg hne,hE,List.append_assoc,List.singleton_append,Nat.add_sub_cancel,List.drop_drop]
       rw [show k + (E - k) = E by omega]
     ·simp -dsimp only [↓WPd,↓Zm,↓Zn,WPu,Za,Zb,Zc,Zd,Ze,Zf,Zg,Zh,Nat.reduceEqDiff,Nat.reduceLT,Zi,Zj,Zk,Zl,Nat.reduceBEq]
      have hkT : k = T.length := by omega
      have : argsFrom T.length f (T.drop k) k = [] := by
       rw [hkT,List.drop_length]
       cases f <;> simp [argsFrom]
      rw [this,List.append_nil] at hp
      rw [← hp]
      exact ⟨lv,es,rfl,g,ho⟩
    ·rintro e σ' env ⟨rfl,lv,es,hv,g,ho⟩
     simp only [List.map_cons,List.map_nil,List.cons.injEq,and_true] at hv
     simp -dsimp only [↓WPd,↓Zm,↓Zn,WPu,Za,Zb,Zc,Zd,Ze,Zf,Zg,Zh,Nat.reduceEqDiff,Nat.reduceLT,Zi,Zj,Zk,Zl,Nat.reduceBEq,hv]
     exact ⟨g,es,ho⟩
end
def isEqT (t : List Cel) : Bool := right t && isT t [61] 2
def EqR (σ σ' : Store) (t : List Cel) (a b : AVal) : Prop := Grows σ σ' ∧ match isEqT t with
 | true => ∃ x y,args t = [x,y] ∧ Own σ' 5 a (CC x) ∧ Own σ' 5 b (CC y) ∧ Fresh σ.length a ∧ Fresh σ.length b ∧ NoLit a ∧ NoLit b ∧ ∀ j,a.sid = some j → b.sid ≠ some j
 | false => a = .nilslice ∧ b = .nilslice
theorem eq_args {t : List Cel} (h : isEqT t = true) : ∃ x y,args t = [x,y] := by
 simp only [isEqT,Bool.and_eq_true] at h
 obtain ⟨h1,h2⟩ := h
 cases t with
 | nil => simp [isT] at h2
 | cons c r =>
  simp [isT] at h2
  have hl := args_len h1 (by simpa using h2.2.1)
  simp only [List.headD_cons,h2.2.2] at hl
  generalize args (c :: r) = q at hl
  match q,hl with
  | [x,y],_ => exact ⟨x,y,rfl⟩
section
variable (d : Nat) (σ : Store)
theorem equation_ok (l : AVal) (t : List Cel) (hx : t.length < 2 ^ 30) (hi : ∀ c ∈ t,c.k < 256 ∧ c.s.length < 2 ^ 40) (hl : SlOf σ 5 l (t.map Cel.val)) :
  Called CU.cfg d 96 [l] σ fun v σ' => ∃ a b,v = .tuple [a,b,.bool (isEqT t)] ∧ EqR σ σ' t a b := by
 refine called_of (fn := CU.a96) rfl (Nat.le_of_ble_eq_true rfl) ?_
 simp only [CU.a96, CU.o]
 simp -dsimp only [↓WPd,↓Zm,↓Zn,WPu,Za,Zb,Zc,Zd,Ze,Zf,Zg,Zh,Nat.reduceEqDiff,Nat.reduceLT,Zi,Zj,Zk,Zl,Nat.reduceBEq,WPm]
 refine calledW_of (right_ok d σ l t hx hi hl) ?_
 rintro v σ1 ⟨rfl,g1⟩
 have hl1 := hl.grow g1
 cases hr : right t with
 | false =>
  have he : isEqT t = false := by simp [isEqT,hr]
  simp -dsimp only [↓WPd,↓Zm,↓Zn,WPu,Za,Zb,Zc,Zd,Ze,Zf,Zg,Zh,Nat.reduceEqDiff,Nat.reduceLT,Zi,Zj,Zk,Zl,Nat.reduceBEq,WPm,Bool.true_or,he]
  exact ⟨_,_,rfl,g1,by rw [he]; exact ⟨rfl,rfl⟩⟩
 | true =>
  simp -dsimp only [↓WPd,↓Zm,↓Zn,WPu,Za,Zb,Zc,Zd,Ze,Zf,Zg,Zh,Nat.reduceEqDiff,Nat.reduceLT,Zi,Zj,Zk,Zl,Nat.reduceBEq,WPm]
  refine calledW_of (is_ok d σ1 l t [61] 2 hl1) ?_
  rintro v σ2 ⟨rfl,rfl⟩
  have hie : isEqT t = isT t [61] 2 := by simp [isEqT,hr]
  cases hq : isT t [61] 2 with
  | false =>
   have he : isEqT t = false := by rw [hie,hq]
   simp -dsimp only [↓WPd,↓Zm,↓Zn,WPu,Za,Zb,Zc,Zd,Ze,Zf,Zg,Zh,Nat.reduceEqDiff,Nat.reduceLT,Zi,Zj,Zk,Zl,Nat.reduceBEq,WPm,Bool.false_or,he]
   exact ⟨_,_,rfl,g1,by rw [he]; exact ⟨rfl,rfl⟩⟩
  | true =>
   have he : isEqT t = true := by rw [hie,hq]
   simp -dsimp only [↓WPd,↓Zm,↓Zn,WPu,Za,Zb,Zc,Zd,Ze,Zf,Zg,Zh,Nat.reduceEqDiff,Nat.reduceLT,Zi,Zj,Zk,Zl,Nat.reduceBEq,WPm,Bool.false_or,he]
   refine calledW_of (args_ok d σ2 l t hx hi hl1) ?_
   rintro v σ3 ⟨g3,es,ho⟩
   obtain ⟨x,y,hxy⟩ := eq_args he
   rw [hxy] at ho
   have hes : es.length = 2 := by rw [ho.len]; rfl
   match es,hes with
   | [a,b],_ =>
    have i0 : iaddrV 1 v (.int .i64 0) = some (addrOf 1 v 0) := ho.row.sl.iaddr (i := 0) (by simp) .i64
    have i1 : iaddrV 1 v (.int .i64 1) = some (addrOf 1 v 1) := ho.row.sl.iaddr (i := 1) (by simp) .i64
    have oa := ho.one 0 a (CC x) rfl rfl
    have ob := ho.one 1 b (CC y) rfl rfl
    have l0 : loadV σ3 1 false (addrOf 1 v 0) = some a := ho.row.sl.load1 (i := 0) (by simp) oa.one 1
    have l1 : loadV σ3 1 false (addrOf 1 v 1) = some b := ho.row.sl.load1 (i := 1) (by simp) ob.one 1
    simp -dsimp only [↓WPd,↓Zm,↓Zn,WPu,Za,Zb,Zc,Zd,Ze,Zf,Zg,Zh,Nat.reduceEqDiff,Nat.reduceLT,Zi,Zj,Zk,Zl,Nat.reduceBEq,i0,i1,l0,l1]
    refine ⟨a,b,by rw [he],g1.trans g3,?_⟩
    rw [he]
    exact ⟨x,y,hxy,oa,ob,(ho.frs 0 a rfl).le g1.1,(ho.frs 1 b rfl).le g1.1,ho.lit 0 a rfl,ho.lit 1 b rfl,fun j h1 h2 => by have := ho.apart 0 1 a b j rfl rfl h1 h2; omega⟩
theorem requation_ok (l : AVal) (t : List Cel) (hx : t.length < 2 ^ 30) (hl : SlOf σ 5 l (t.map Cel.val)) :
  Called CU.cfg d 100 [l] σ fun v σ' => ∃ a b,v = .tuple [a,b,.bool (isEqT t)] ∧ EqR σ σ' t a b := by
 refine called_of (fn := CU.a100) rfl (Nat.le_of_ble_eq_true rfl) ?_
 simp only [CU.a100, CU.o]
 simp -dsimp only [↓WPd,↓Zm,↓Zn,WPu,Za,Zb,Zc,Zd,Ze,Zf,Zg,Zh,Nat.reduceEqDiff,Nat.reduceLT,Zi,Zj,Zk,Zl,Nat.reduceBEq,WPm]
 refine calledW_of (rright_ok d σ l t hx hl) ?_
 rintro v σ1 ⟨rfl,g1⟩
 have hl1 := hl.grow g1
 cases hr : right t with
 | false =>
  have he : isEqT t = false := by simp [isEqT,hr]
  simp -dsimp only [↓WPd,↓Zm,↓Zn,WPu,Za,Zb,Zc,Zd,Ze,Zf,Zg,Zh,Nat.reduceEqDiff,Nat.reduceLT,Zi,Zj,Zk,Zl,Nat.reduceBEq,WPm,Bool.true_or,he]
  exact ⟨_,_,rfl,g1,by rw [he]; exact ⟨rfl,rfl⟩⟩
 | true =>
  simp -dsimp only [↓WPd,↓Zm,↓Zn,WPu,Za,Zb,Zc,Zd,Ze,Zf,Zg,Zh,Nat.reduceEqDiff,Nat.reduceLT,Zi,Zj,Zk,Zl,Nat.reduceBEq,WPm]
  refine calledW_of (ris_ok d σ1 l t [61] 2 hl1) ?_
  rintro v σ2 ⟨rfl,rfl⟩
  have hie : isEqT t = isT t [61] 2 := by simp [isEqT,hr]
  cases hq : isT t [61] 2 with
  | false =>
   have he : isEqT t = false := by rw [hie,hq]
   simp -dsimp only [↓WPd,↓Zm,↓Zn,WPu,Za,Zb,Zc,Zd,Ze,Zf,Zg,Zh,Nat.reduceEqDiff,Nat.reduceLT,Zi,Zj,Zk,Zl,Nat.reduceBEq,WPm,Bool.false_or,he]
   exact ⟨_,_,rfl,g1,by rw [he]; exact ⟨rfl,rfl⟩⟩
  | true =>
   have he : isEqT t = true := by rw [hie,hq]
   simp -dsimp only [↓WPd,↓Zm,↓Zn,WPu,Za,Zb,Zc,Zd,Ze,Zf,Zg,Zh,Nat.reduceEqDiff,Nat.reduceLT,Zi,Zj,Zk,Zl,Nat.reduceBEq,WPm,Bool.false_or,he]
   refine calledW_of (rargs_ok d σ2 l t hx hl1) ?_
   rintro v σ3 ⟨g3,es,ho⟩
   obtain ⟨x,y,hxy⟩ := eq_args he
   rw [hxy] at ho
   have hes : es.length = 2 := by rw [ho.len]; rfl
   match es,hes with
   | [a,b],_ =>
    have i0 : iaddrV 1 v (.int .i64 0) = some (addrOf 1 v 0) := ho.row.sl.iaddr (i := 0) (by simp) .i64
    have i1 : iaddrV 1 v (.int .i64 1) = some (addrOf 1 v 1) := ho.row.sl.iaddr (i := 1) (by simp) .i64
    have oa := ho.one 0 a (CC x) rfl rfl
    have ob := ho.one 1 b (CC y) rfl rfl
    have l0 : loadV σ3 1 false (addrOf 1 v 0) = some a := ho.row.sl.load1 (i := 0) (by simp) oa.one 1
    have l1 : loadV σ3 1 false (addrOf 1 v 1) = some b := ho.row.sl.load1 (i := 1) (by simp) ob.one 1
    simp -dsimp only [↓WPd,↓Zm,↓Zn,WPu,Za,Zb,Zc,Zd,Ze,Zf,Zg,Zh,Nat.reduceEqDiff,Nat.reduceLT,Zi,Zj,Zk,Zl,Nat.reduceBEq,i0,i1,l0,l1]
    refine ⟨a,b,by rw [he],g1.trans g3,?_⟩
    rw [he]
    exact ⟨x,y,hxy,oa,ob,(ho.frs 0 a rfl).le g1.1,(ho.frs 1 b rfl).le g1.1,ho.lit 0 a rfl,ho.lit 1 b rfl,fun j h1 h2 => by have := ho.apart 0 1 a b j rfl rfl h1 h2; omega⟩
end
theorem ORows.cell {σ σ' : Store} {lo sz : Nat} {l : AVal} {es : List AVal} {ps : List (List AVal)} {id : Nat} {cs : List AVal} (h : ORows σ lo sz l es ps) (ho : σ[id]? = some (.cells cs)) (hk : Keeps (fun i => i = id) σ σ') : ORows σ' lo sz l es ps :=
 ⟨h.row.keeps hk fun i hi e => h.row.noCell ho (by rw [← e]; exact hi),h.len,fun i e p h1 h2 => (h.one i e p h1 h2).keeps hk fun j hj e' => (h.one i e p h1 h2).noCell ho (by rw [← e']; exact hj),h.frs,h.frl,h.apart,h.off,h.lit,h.litl⟩
theorem ORows.push2 {σ : Store} {lo sz : Nat} {l : AVal} {es : List AVal} {ps : List (List AVal)} (h : ORows σ lo sz l es ps) {e : AVal} {p : List AVal} (he : Own σ sz e p) (fe : Fresh lo e) (le : NoLit e) (hlo : lo ≤ σ.length)
  (hl : ∀ id,e.sid = some id → l.sid ≠ some id) (hx : ∀ (i : Nat) (x : AVal) (id : Nat),es[i]? = some x → e.sid = some id → x.sid ≠ some id) (bytes : Nat) (hb : (es.length + 1) * bytes ≤ 70368744177664) :
  ∃ l' σ2,appendV σ 1 bytes l [e] = some (l',σ2) ∧ ORows σ2 lo sz l' (es ++ [e]) (ps ++ [p]) ∧ Keeps (fun i => l.sid = some i) σ σ2 ∧ ∀ id,l'.sid = some id → l.sid = some id ∨ id = σ.length := by
 obtain ⟨l',σ2,h1,h2,h3,h4,h5⟩ := h.row.append [e] bytes hb
 have old : ∀ (i : Nat) (x : AVal),(es ++ [e])[i]? = some x → (es[i]? = some x ∧ i < es.length) ∨ (i = es.length ∧ x = e) := by
  intro i x hx
  rw [List.getElem?_append] at hx
  split at hx
  ·rename_i hlt; exact .inl ⟨hx,hlt⟩
  ·rename_i hlt
   rw [List.getElem?_singleton] at hx
   split at hx
   ·injection hx with hx; exact .inr ⟨by omega,hx.symm⟩
   ·cases hx
 have hx1 : ∀ (i : Nat) (x : AVal) (id : Nat),(es ++ [e])[i]? = some x → x.sid = some id → id < σ.length ∧ l.sid ≠ some id := by
  intro i x id hx hid
  rcases old i x hx with ⟨hx',_⟩ | ⟨_,rfl⟩
  ·exact ⟨h.lt hx' hid,h.off i x id hx' hid⟩
  ·exact ⟨he.sl.lt hid,hl id hid⟩
 refine ⟨l',σ2,h1,⟨h2,by simp [h.len],?_,?_,?_,?_,?_,?_,h5 (.inr (by simp))⟩,h3,h4⟩
 ·intro i x q hxi hq
  refine Own.keeps (σ := σ) ?_ h3 fun id hid => (hx1 i x id hxi hid).2
  rcases old i x hxi with ⟨hx',hlt⟩ | ⟨rfl,rfl⟩
  ·rw [List.getElem?_append_left (by rw [← h.len]; exact hlt)] at hq
   exact h.one i x q hx' hq
  ·rw [h.len,List.getElem?_append_right (Nat.le_refl _),Nat.sub_self] at hq
   simp at hq; subst hq; exact he
 ·intro i x hxi
  rcases old i x hxi with ⟨hx',_⟩ | ⟨_,rfl⟩
  ·exact h.frs i x hx'
  ·exact fe
 ·intro id hid
  rcases h4 id hid with hh | hh
  ·exact h.frl id hh
  ·omega
 ·intro i j x y id hxi hyi hxs hys
  rcases old i x hxi with ⟨hx',hil⟩ | ⟨hi,hxe⟩ <;> rcases old j y hyi with ⟨hy',hjl⟩ | ⟨hj,hye⟩
  ·exact h.apart i j x y id hx' hy' hxs hys
  ·rw [hye] at hys; exact absurd hxs (hx i x id hx' hys)
  ·rw [hxe] at hxs; exact absurd hys (hx j y id hy' hxs)
  ·omega
 ·intro i x id hxi hid hl'
  obtain ⟨k1,k2⟩ := hx1 i x id hxi hid
  rcases h4 id hl' with hh | hh
  ·exact k2 hh
  ·omega
 ·intro i x hxi
  rcases old i x hxi with ⟨hx',_⟩ | ⟨_,rfl⟩
  ·exact h.lit i x hx'
  ·exact le
theorem ORows.setElem {σ σ' : Store} {lo sz : Nat} {w : AVal} {es : List AVal} {ps : List (List AVal)} (h : ORows σ lo sz w es ps) {i : Nat} {e : AVal} {p : List AVal} (hi : es[i]? = some e) (he : Own σ' sz e p) (hk : Keeps (fun j => e.sid = some j) σ σ') :
  ORows σ' lo sz w es (ps.set i p) := by
 refine ⟨h.row.keeps hk fun j hj hj' => h.off i e j hi hj' hj,by simp [h.len],fun k x q hx hq => ?_,h.frs,h.frl,h.apart,h.off,h.lit,h.litl⟩
 by_cases hki : k = i
 ·subst hki
  rw [hi] at hx; injection hx with hx; subst hx
  rw [List.getElem?_set_self (by rw [← h.len]; exact (List.getElem?_eq_some_iff.1 hi).1)] at hq
  injection hq with hq; subst hq; exact he
 ·rw [List.getElem?_set_ne (fun e => hki e.symm)] at hq
  exact (h.one k x q hx hq).keeps hk fun j hj hj' => hki (h.apart k i x e j hx hi hj hj')
structure BookC (c1 c2 c3 c4 : AVal) (lo : Nat) (σ : Store) (id : Nat) (w : AVal) (es : List AVal) (ps : List (List Cel)) : Prop where
 obj : σ[id]? = some (.cells [c1,c2,c3,w,c4])
 rows : ORows σ lo 5 w es (ps.map CC)
section
variable (d : Nat) (σ : Store)
theorem takecells_ok (c1 c2 c3 c4 : AVal) (lo : Nat) (id : Nat) (w e : AVal) (es : List AVal) (ps : List (List Cel)) (p : List Cel) (h : BookC c1 c2 c3 c4 lo σ id w es ps) (he : Own σ 5 e (CC p)) (fe : Fresh lo e) (hlo : lo ≤ σ.length) (le : NoLit e) (hn : ps.length < 2 ^ 30)
  (hl : ∀ j,e.sid = some j → w.sid ≠ some j) (hx : ∀ (i : Nat) (x : AVal) (j : Nat),es[i]? = some x → e.sid = some j → x.sid ≠ some j) :
  Called CU.cfg d 91 [.ptr id 0,e] σ fun _ σ' => Keeps (fun i => i = id ∨ w.sid = some i) σ σ' ∧ ∃ w',BookC c1 c2 c3 c4 lo σ' id w' (es ++ [e]) (ps ++ [p]) ∧ (∀ j,w'.sid = some j → w.sid = some j ∨ σ.length ≤ j) := by
 refine called_of (fn := CU.a91) rfl (Nat.le_of_ble_eq_true rfl) ?_
 have hlen := h.rows.len
 rw [List.length_map] at hlen
 obtain ⟨w',σ2,a1,a2,a3,a4⟩ := h.rows.push2 he fe le hlo hl hx 24 (by omega)
 have ho2 := a3.get h.obj (h.rows.row.noCell h.obj)
 have st := store_cells ho2 (off := 3) (by simp) (v := w') a2.row.sl.one
 simp only [List.set_cons_zero,List.set_cons_succ] at st
 have e1 : fillL 1 false (List.replicate 1 (zel [AVal.nilslice] false)) [(0,e)] = some [e] := by
  rcases he.own with ⟨rfl,_⟩ | ⟨t,rfl⟩ | ⟨id,ep,off,cap,xs,epo,fl,rfl,_⟩ <;> simp
 have lel : ∀ tg,elems 1 σ (.fslice tg true 1 [e]) = some [e] := fun tg => (SlOf.fs σ 1 tg true [e]).els
 simp only [CU.a91, CU.o]
 simp -dsimp only [↓WPd,↓Zm,↓Zn,WPu,Za,Zb,Zc,Zd,Ze,Zf,Zg,Zh,Nat.reduceEqDiff,Nat.reduceLT,Zi,Zj,Zk,Zl,Nat.reduceBEq,faddr_ptr,load_cells h.obj,List.getElem?_cons_zero,List.getElem?_cons_succ,e1,lel,a1,st,resultsA,mapO]
 have k1 : Keeps (fun i => i = id ∨ w.sid = some i) σ σ2 := a3.mono fun i hi e => .inr e
 refine ⟨Keeps.trans k1 (Keeps.set _ _ _) fun i hi e => .inl e,w',⟨get_set ho2,?_⟩,fun j hj => ?_⟩
 ·have := a2.cell ho2 (Keeps.set σ2 id (.cells [c1,c2,c3,w',c4]))
  simpa using this
 ·rcases a4 j hj with e | e
  ·exact .inl e
  ·exact .inr (by omega)
end
theorem CC_app (a b : List Cel) : CC a ++ CC b = CC (a ++ b) := by simp
def mkK (i : Nat) : Cel := mkC (-9000 - i)
theorem mk_opsK (i : Nat) (hi : i < 2 ^ 40) : IntKind.i64.wrap (-9000 - (i : Int)) = -9000 - (i : Int) ∧ fillA [AVal.int IntKind.u8 0,AVal.str [],AVal.int IntKind.i64 0,AVal.int IntKind.i64 0,AVal.int IntKind.i64 0] [(2,1,AVal.int IntKind.i64 (-9000 - (i : Int)))] = some (mkK i).cs ∧ (mkK i).cs.all AVal.one = true :=
 ⟨by rw [wrap_i64 (by omega) (by omega)],rfl,rfl⟩
theorem Own.lit1 {σ : Store} {sz : Nat} {e : AVal} {p : List AVal} (he : Own σ sz e p) : fillL 1 false (List.replicate 1 (zel [AVal.nilslice] false)) [(0,e)] = some [e] := by
 rcases he.own with ⟨rfl,_⟩ | ⟨t,rfl⟩ | ⟨id,ep,off,cap,xs,epo,fl,rfl,_⟩ <;> simp
section
variable (d : Nat) (σ : Store)
theorem alonetexts_ok (id : Nat) (c0 c1 c2 c3 c4 : AVal) (h : σ[id]? = some (.cells [c0,c1,c2,c3,c4])) (hc : c1 = .nilslice) : Called CU.cfg d 68 [.ptr id 0] σ fun r σ' => r = .bool true ∧ σ' = σ := by
 subst hc
 refine called_of (fn := CU.a68) rfl (Nat.le_of_ble_eq_true rfl) ?_
 have el : lenSV .nilslice = some 0 := rfl
 have d0 : decide ((0 : Int) < ((0 : Nat) : Int)) = false := rfl
 simp only [CU.a68, CU.o]
 simp -dsimp only [↓WPd,↓Zm,↓Zn,WPu,Za,Zb,Zc,Zd,Ze,Zf,Zg,Zh,Nat.reduceEqDiff,Nat.reduceLT,Zi,Zj,Zk,Zl,Nat.reduceBEq]
 refine loop_rule (fun m vs σ' => σ' = σ ∧ vs = [.ptr id 0,.int .i64 0]) 0 ⟨rfl,?_⟩ ?_
 ·simp -dsimp only [↓WPd,↓Zm,↓Zn,WPu,Za,Zb,Zc,Zd,Ze,Zf,Zg,Zh,Nat.reduceEqDiff,Nat.reduceLT,Zi,Zj,Zk,Zl,Nat.reduceBEq]
 rintro m vs σ' ⟨rfl,rfl⟩
 simp -dsimp only [↓WPd,↓Zm,↓Zn,WPu,Za,Zb,Zc,Zd,Ze,Zf,Zg,Zh,Nat.reduceEqDiff,Nat.reduceLT,Zi,Zj,Zk,Zl,Nat.reduceBEq,faddr_ptr,load_cells h,List.getElem?_cons_zero,List.getElem?_cons_succ,el,d0]
 refine loop_rule (fun m vs σ2 => σ2 = σ' ∧ vs = [.ptr id 0,.nilslice,.int .i64 0]) 0 ⟨rfl,?_⟩ ?_
 ·simp -dsimp only [↓WPd,↓Zm,↓Zn,WPu,Za,Zb,Zc,Zd,Ze,Zf,Zg,Zh,Nat.reduceEqDiff,Nat.reduceLT,Zi,Zj,Zk,Zl,Nat.reduceBEq]
 rintro m vs σ2 ⟨rfl,rfl⟩
 simp -dsimp only [↓WPd,↓Zm,↓Zn,WPu,Za,Zb,Zc,Zd,Ze,Zf,Zg,Zh,Nat.reduceEqDiff,Nat.reduceLT,Zi,Zj,Zk,Zl,Nat.reduceBEq,faddr_ptr,load_cells h,List.getElem?_cons_zero,List.getElem?_cons_succ,el,d0]
 refine loop_rule (fun m vs σ3 => σ3 = σ2 ∧ vs = [.ptr id 0,.nilslice,.int .i64 0]) 0 ⟨rfl,?_⟩ ?_
 ·simp -dsimp only [↓WPd,↓Zm,↓Zn,WPu,Za,Zb,Zc,Zd,Ze,Zf,Zg,Zh,Nat.reduceEqDiff,Nat.reduceLT,Zi,Zj,Zk,Zl,Nat.reduceBEq]
 rintro m vs σ3 ⟨rfl,rfl⟩
 simp -dsimp only [↓WPd,↓Zm,↓Zn,WPu,Za,Zb,Zc,Zd,Ze,Zf,Zg,Zh,Nat.reduceEqDiff,Nat.reduceLT,Zi,Zj,Zk,Zl,Nat.reduceBEq,faddr_ptr,load_cells h,List.getElem?_cons_zero,List.getElem?_cons_succ,el,d0]
theorem aloneints_ok (id : Nat) (c0 c1 c2 c3 c4 : AVal) (h : σ[id]? = some (.cells [c0,c1,c2,c3,c4])) (hc : c2 = .nilslice) : Called CU.cfg d 69 [.ptr id 0] σ fun r σ' => r = .bool true ∧ σ' = σ := by
 subst hc
 refine called_of (fn := CU.a69) rfl (Nat.le_of_ble_eq_true rfl) ?_
 have el : lenSV .nilslice = some 0 := rfl
 have d0 : decide ((0 : Int) < ((0 : Nat) : Int)) = false := rfl
 simp only [CU.a69, CU.o]
 simp -dsimp only [↓WPd,↓Zm,↓Zn,WPu,Za,Zb,Zc,Zd,Ze,Zf,Zg,Zh,Nat.reduceEqDiff,Nat.reduceLT,Zi,Zj,Zk,Zl,Nat.reduceBEq]
 refine loop_rule (fun m vs σ' => σ' = σ ∧ vs = [.ptr id 0,.int .i64 0]) 0 ⟨rfl,?_⟩ ?_
 ·simp -dsimp only [↓WPd,↓Zm,↓Zn,WPu,Za,Zb,Zc,Zd,Ze,Zf,Zg,Zh,Nat.reduceEqDiff,Nat.reduceLT,Zi,Zj,Zk,Zl,Nat.reduceBEq]
 rintro m vs σ' ⟨rfl,rfl⟩
 simp -dsimp only [↓WPd,↓Zm,↓Zn,WPu,Za,Zb,Zc,Zd,Ze,Zf,Zg,Zh,Nat.reduceEqDiff,Nat.reduceLT,Zi,Zj,Zk,Zl,Nat.reduceBEq,faddr_ptr,load_cells h,List.getElem?_cons_zero,List.getElem?_cons_succ,el,d0]
 refine loop_rule (fun m vs σ2 => σ2 = σ' ∧ vs = [.ptr id 0,.nilslice,.int .i64 0]) 0 ⟨rfl,?_⟩ ?_
 ·simp -dsimp only [↓WPd,↓Zm,↓Zn,WPu,Za,Zb,Zc,Zd,Ze,Zf,Zg,Zh,Nat.reduceEqDiff,Nat.reduceLT,Zi,Zj,Zk,Zl,Nat.reduceBEq]
 rintro m vs σ2 ⟨rfl,rfl⟩
 simp -dsimp only [↓WPd,↓Zm,↓Zn,WPu,Za,Zb,Zc,Zd,Ze,Zf,Zg,Zh,Nat.reduceEqDiff,Nat.reduceLT,Zi,Zj,Zk,Zl,Nat.reduceBEq,faddr_ptr,load_cells h,List.getElem?_cons_zero,List.getElem?_cons_succ,el,d0]
 refine loop_rule (fun m vs σ3 => σ3 = σ2 ∧ vs = [.ptr id 0,.nilslice,.int .i64 0]) 0 ⟨rfl,?_⟩ ?_
 ·simp -dsimp only [↓WPd,↓Zm,↓Zn,WPu,Za,Zb,Zc,Zd,Ze,Zf,Zg,Zh,Nat.reduceEqDiff,Nat.reduceLT,Zi,Zj,Zk,Zl,Nat.reduceBEq]
 rintro m vs σ3 ⟨rfl,rfl⟩
 simp -dsimp only [↓WPd,↓Zm,↓Zn,WPu,Za,Zb,Zc,Zd,Ze,Zf,Zg,Zh,Nat.reduceEqDiff,Nat.reduceLT,Zi,Zj,Zk,Zl,Nat.reduceBEq,faddr_ptr,load_cells h,List.getElem?_cons_zero,List.getElem?_cons_succ,el,d0]
theorem alonebytes_ok (id : Nat) (c0 c1 c2 c3 c4 : AVal) (h : σ[id]? = some (.cells [c0,c1,c2,c3,c4])) (hc : c0 = .nilslice) : Called CU.cfg d 67 [.ptr id 0] σ fun r σ' => r = .bool true ∧ σ' = σ := by
 subst hc
 refine called_of (fn := CU.a67) rfl (Nat.le_of_ble_eq_true rfl) ?_
 have el : lenSV .nilslice = some 0 := rfl
 have d0 : decide ((0 : Int) < ((0 : Nat) : Int)) = false := rfl
 simp only [CU.a67, CU.o]
 simp -dsimp only [↓WPd,↓Zm,↓Zn,WPu,Za,Zb,Zc,Zd,Ze,Zf,Zg,Zh,Nat.reduceEqDiff,Nat.reduceLT,Zi,Zj,Zk,Zl,Nat.reduceBEq]
 refine loop_rule (fun m vs σ' => σ' = σ ∧ vs = [.ptr id 0,.int .i64 0]) 0 ⟨rfl,?_⟩ ?_
 ·simp -dsimp only [↓WPd,↓Zm,↓Zn,WPu,Za,Zb,Zc,Zd,Ze,Zf,Zg,Zh,Nat.reduceEqDiff,Nat.reduceLT,Zi,Zj,Zk,Zl,Nat.reduceBEq]
 rintro m vs σ' ⟨rfl,rfl⟩
 simp -dsimp only [↓WPd,↓Zm,↓Zn,WPu,Za,Zb,Zc,Zd,Ze,Zf,Zg,Zh,Nat.reduceEqDiff,Nat.reduceLT,Zi,Zj,Zk,Zl,Nat.reduceBEq,faddr_ptr,load_cells h,List.getElem?_cons_zero,List.getElem?_cons_succ,el,d0]
 refine loop_rule (fun m vs σ2 => σ2 = σ' ∧ vs = [.ptr id 0,.nilslice,.int .i64 0]) 0 ⟨rfl,?_⟩ ?_
 ·simp -dsimp only [↓WPd,↓Zm,↓Zn,WPu,Za,Zb,Zc,Zd,Ze,Zf,Zg,Zh,Nat.reduceEqDiff,Nat.reduceLT,Zi,Zj,Zk,Zl,Nat.reduceBEq]
 rintro m vs σ2 ⟨rfl,rfl⟩
 simp -dsimp only [↓WPd,↓Zm,↓Zn,WPu,Za,Zb,Zc,Zd,Ze,Zf,Zg,Zh,Nat.reduceEqDiff,Nat.reduceLT,Zi,Zj,Zk,Zl,Nat.reduceBEq,faddr_ptr,load_cells h,List.getElem?_cons_zero,List.getElem?_cons_succ,el,d0]
 refine loop_rule (fun m vs σ3 => σ3 = σ2 ∧ vs = [.ptr id 0,.nilslice,.int .i64 0]) 0 ⟨rfl,?_⟩ ?_
 ·simp -dsimp only [↓WPd,↓Zm,↓Zn,WPu,Za,Zb,Zc,Zd,Ze,Zf,Zg,Zh,Nat.reduceEqDiff,Nat.reduceLT,Zi,Zj,Zk,Zl,Nat.reduceBEq]
 rintro m vs σ3 ⟨rfl,rfl⟩
 simp -dsimp only [↓WPd,↓Zm,↓Zn,WPu,Za,Zb,Zc,Zd,Ze,Zf,Zg,Zh,Nat.reduceEqDiff,Nat.reduceLT,Zi,Zj,Zk,Zl,Nat.reduceBEq,faddr_ptr,load_cells h,List.getElem?_cons_zero,List.getElem?_cons_succ,el,d0]
theorem alonenames_ok (id : Nat) (c0 c1 c2 c3 c4 : AVal) (h : σ[id]? = some (.cells [c0,c1,c2,c3,c4])) (hc : c4 = .nilslice) : Called CU.cfg d 71 [.ptr id 0] σ fun r σ' => r = .bool true ∧ σ' = σ := by
 subst hc
 refine called_of (fn := CU.a71) rfl (Nat.le_of_ble_eq_true rfl) ?_
 have el : lenSV .nilslice = some 0 := rfl
 have d0 : decide ((0 : Int) < ((0 : Nat) : Int)) = false := rfl
 simp only [CU.a71, CU.o]
 simp -dsimp only [↓WPd,↓Zm,↓Zn,WPu,Za,Zb,Zc,Zd,Ze,Zf,Zg,Zh,Nat.reduceEqDiff,Nat.reduceLT,Zi,Zj,Zk,Zl,Nat.reduceBEq]
 refine loop_rule (fun m vs σ' => σ' = σ ∧ vs = [.ptr id 0,.int .i64 0]) 0 ⟨rfl,?_⟩ ?_
 ·simp -dsimp only [↓WPd,↓Zm,↓Zn,WPu,Za,Zb,Zc,Zd,Ze,Zf,Zg,Zh,Nat.reduceEqDiff,Nat.reduceLT,Zi,Zj,Zk,Zl,Nat.reduceBEq]
 rintro m vs σ' ⟨rfl,rfl⟩
 simp -dsimp only [↓WPd,↓Zm,↓Zn,WPu,Za,Zb,Zc,Zd,Ze,Zf,Zg,Zh,Nat.reduceEqDiff,Nat.reduceLT,Zi,Zj,Zk,Zl,Nat.reduceBEq,faddr_ptr,load_cells h,List.getElem?_cons_zero,List.getElem?_cons_succ,el,d0]
 refine loop_rule (fun m vs σ2 => σ2 = σ' ∧ vs = [.ptr id 0,.nilslice,.int .i64 0]) 0 ⟨rfl,?_⟩ ?_
 ·simp -dsimp only [↓WPd,↓Zm,↓Zn,WPu,Za,Zb,Zc,Zd,Ze,Zf,Zg,Zh,Nat.reduceEqDiff,Nat.reduceLT,Zi,Zj,Zk,Zl,Nat.reduceBEq]
 rintro m vs σ2 ⟨rfl,rfl⟩
 simp -dsimp only [↓WPd,↓Zm,↓Zn,WPu,Za,Zb,Zc,Zd,Ze,Zf,Zg,Zh,Nat.reduceEqDiff,Nat.reduceLT,Zi,Zj,Zk,Zl,Nat.reduceBEq,faddr_ptr,load_cells h,List.getElem?_cons_zero,List.getElem?_cons_succ,el,d0]
 refine loop_rule (fun m vs σ3 => σ3 = σ2 ∧ vs = [.ptr id 0,.nilslice,.int .i64 0]) 0 ⟨rfl,?_⟩ ?_
 ·simp -dsimp only [↓WPd,↓Zm,↓Zn,WPu,Za,Zb,Zc,Zd,Ze,Zf,Zg,Zh,Nat.reduceEqDiff,Nat.reduceLT,Zi,Zj,Zk,Zl,Nat.reduceBEq]
 rintro m vs σ3 ⟨rfl,rfl⟩
 simp -dsimp only [↓WPd,↓Zm,↓Zn,WPu,Za,Zb,Zc,Zd,Ze,Zf,Zg,Zh,Nat.reduceEqDiff,Nat.reduceLT,Zi,Zj,Zk,Zl,Nat.reduceBEq,faddr_ptr,load_cells h,List.getElem?_cons_zero,List.getElem?_cons_succ,el,d0]
set_option maxHeartbeats 4000000 in
theorem alonecells_ok (c1 c2 c3 c4 : AVal) (lo : Nat) (id : Nat) (w : AVal) (es : List AVal) (qs : List (List Cel)) (h : BookC c1 c2 c3 c4 lo σ id w es qs) (hn : qs.length < 2 ^ 28) (hq : ∀ q ∈ qs,q.length < 2 ^ 28) :
  Called CU.cfg d 70 [.ptr id 0] σ fun r σ' => r = .bool true ∧ σ'[id]? = some (.cells [c1,c2,c3,w,c4]) ∧ Keeps (fun j => ∃ (i : Nat) (e : AVal),es[i]? = some e ∧ e.sid = some j) σ σ' := by
 refine called_of (fn := CU.a70) rfl (Nat.le_of_ble_eq_true rfl) ?_
 have hpl := h.rows.len
 rw [List.length_map] at hpl
 have lw := h.rows.row.sl.len
 rw [hpl] at lw
 have sub : ∀ {i : Nat} {e : AVal} {σ1 σ2 : Store},es[i]? = some e → Keeps (fun j => e.sid = some j) σ1 σ2 → Keeps (fun j => ∃ (i : Nat) (e : AVal),es[i]? = some e ∧ e.sid = some j) σ1 σ2 := fun hi hk => hk.mono fun j _ hj => ⟨_,_,hi,hj⟩
 simp only [CU.a70, CU.o]
 simp -dsimp only [↓WPd,↓Zm,↓Zn,WPu,Za,Zb,Zc,Zd,Ze,Zf,Zg,Zh,Nat.reduceEqDiff,Nat.reduceLT,Zi,Zj,Zk,Zl,Nat.reduceBEq]
 refine loop_rule2 (fun m vs σ' => ∃ (i : Nat) (xs : List (List Cel)),i ≤ qs.length ∧ m = qs.length - i ∧ vs = [.ptr id 0,.int .i64 i] ∧ BookC c1 c2 c3 c4 lo σ' id w es xs ∧ xs.length = qs.length ∧ (∀ (j : Nat) (x : List Cel),xs[j]? = some x → x.length < 2 ^ 28 ∧ (j < i → x = List.replicate x.length (mkK j))) ∧
   Keeps (fun j => ∃ (i : Nat) (e : AVal),es[i]? = some e ∧ e.sid = some j) σ σ')
  [0] (fun x vs σ' => x = .exit 0 ∧ ∃ (xs : List (List Cel)),vs = [.ptr id 0] ∧ BookC c1 c2 c3 c4 lo σ' id w es xs ∧ xs.length = qs.length ∧ (∀ (j : Nat) (x : List Cel),xs[j]? = some x → x.length < 2 ^ 28 ∧ x = List.replicate x.length (mkK j)) ∧
   Keeps (fun j => ∃ (i : Nat) (e : AVal),es[i]? = some e ∧ e.sid = some j) σ σ') qs.length
  ⟨0,qs,Nat.zero_le _,rfl,?_,h,rfl,fun j x hx => ⟨hq x (List.mem_of_getElem? hx),fun h => by omega⟩,Keeps.refl _ _⟩ ?_ ?_
 ·simp -dsimp only [↓WPd,↓Zm,↓Zn,WPu,Za,Zb,Zc,Zd,Ze,Zf,Zg,Zh,Nat.reduceEqDiff,Nat.reduceLT,Zi,Zj,Zk,Zl,Nat.reduceBEq]; rfl
 ·rintro m vs σ1 ⟨i,xs,hi,rfl,rfl,hb,hxl,hx,hk⟩
  simp -dsimp only [↓WPd,↓Zm,↓Zn,WPu,Za,Zb,Zc,Zd,Ze,Zf,Zg,Zh,Nat.reduceEqDiff,Nat.reduceLT,Zi,Zj,Zk,Zl,Nat.reduceBEq,faddr_ptr,load_cells hb.obj,List.getElem?_cons_zero,List.getElem?_cons_succ,lw]
  refine condP_dec (fun hc => ?_) (fun hc => ?_)
  ·have hi' : i < qs.length := by omega
   have hie : i < es.length := by omega
   have hei : es[i]? = some es[i] := List.getElem?_eq_getElem hie
   generalize es[i] = e at hei
   obtain ⟨m1,m2,m3⟩ := mk_opsK i (by omega)
   simp -dsimp only [↓WPd,↓Zm,↓Zn,WPu,Za,Zb,Zc,Zd,Ze,Zf,Zg,Zh,Nat.reduceEqDiff,Nat.reduceLT,Zi,Zj,Zk,Zl,Nat.reduceBEq]
   refine loop_rule2 (fun m vs σ' => ∃ (k : Nat) (ys : List (List Cel)) (y : List Cel),k ≤ y.length ∧ m = y.length - k ∧ vs = [.ptr id 0,.int .i64 i,.int .i64 k] ∧ BookC c1 c2 c3 c4 lo σ' id w es ys ∧ ys.length = qs.length ∧ ys[i]? = some y ∧ y.length < 2 ^ 28 ∧ y.take k = List.replicate k (mkK i) ∧
     (∀ (j : Nat) (x : List Cel),j ≠ i → ys[j]? = some x → x.length < 2 ^ 28 ∧ (j < i → x = List.replicate x.length (mkK j))) ∧ Keeps (fun j => ∃ (i : Nat) (e : AVal),es[i]? = some e ∧ e.sid = some j) σ σ')
    [0,3] (fun x vs σ' => x = .exit 2 ∧ vs = [.ptr id 0,.int .i64 i] ∧ ∃ ys : List (List Cel),BookC c1 c2 c3 c4 lo σ' id w es ys ∧ ys.length = qs.length ∧ (∀ (j : Nat) (x : List Cel),ys[j]? = some x → x.length < 2 ^ 28 ∧ (j < i + 1 → x = List.replicate x.length (mkK j))) ∧
     Keeps (fun j => ∃ (i : Nat) (e : AVal),es[i]? = some e ∧ e.sid = some j) σ σ') (xs[i]'(by omega)).length
    ⟨0,xs,xs[i]'(by omega),Nat.zero_le _,rfl,?_,hb,hxl,List.getElem?_eq_getElem _,(hx i _ (List.getElem?_eq_getElem (by omega))).1,by simp,fun j x _ hj => hx j x hj,hk⟩ ?_ ?_
   ·simp -dsimp only [↓WPd,↓Zm,↓Zn,WPu,Za,Zb,Zc,Zd,Ze,Zf,Zg,Zh,Nat.reduceEqDiff,Nat.reduceLT,Zi,Zj,Zk,Zl,Nat.reduceBEq]; rfl
   ·rintro m vs σ2 ⟨k,ys,y,hky,rfl,rfl,hb2,hyl,hyi,hy28,hyt,hyo,hk2⟩
    have oe := hb2.rows.one i e (CC y) hei (by rw [List.getElem?_map,hyi]; rfl)
    have le := oe.sl.len
    rw [CC_len] at le
    have e1 := hb2.rows.row.sl.iaddr hie .i64
    have e2 := hb2.rows.row.sl.load hie 1 false
    have hg : es[i] = e := by rw [List.getElem?_eq_getElem hie] at hei; exact Option.some.inj hei
    rw [hg,show ld e.cells 0 1 false = some e from by have := oe.sl.one; cases e <;> first | (cases this; done) | rfl] at e2
    simp -dsimp only [↓WPd,↓Zm,↓Zn,WPu,Za,Zb,Zc,Zd,Ze,Zf,Zg,Zh,Nat.reduceEqDiff,Nat.reduceLT,Zi,Zj,Zk,Zl,Nat.reduceBEq,faddr_ptr,load_cells hb2.obj,List.getElem?_cons_zero,List.getElem?_cons_succ,e1,e2,le]
    refine condP_dec (fun hc => ?_) (fun hc => ?_)
    ·have hk' : k < y.length := by omega
     have hkB : k < (CC y).length := by rw [CC_len]; exact hk'
     obtain ⟨σ3,st,o3,k3,-⟩ := oe.store (hb2.rows.lit i e hei) hkB (x := (mkK i).val) rfl rfl (by rw [cel_get]; rfl) (by rw [cel_get]; rfl)
     have eb : (CC y).set k (mkK i).val = CC (y.set k (mkK i)) := by simp [List.map_set]
     rw [eb] at o3
     have st' : storeV σ2 5 (addrOf 5 e k) (.agg (mkK i).cs) = some σ3 := st
     have r3 := hb2.rows.setElem hei o3 k3
     rw [← List.map_set] at r3
     have hb3 : BookC c1 c2 c3 c4 lo σ3 id w es (ys.set i (y.set k (mkK i))) := ⟨k3.get hb2.obj (oe.noCell hb2.obj),r3⟩
     simp -dsimp only [↓WPd,↓Zm,↓Zn,WPu,Za,Zb,Zc,Zd,Ze,Zf,Zg,Zh,Nat.reduceEqDiff,Nat.reduceLT,Zi,Zj,Zk,Zl,Nat.reduceBEq,faddr_ptr,load_cells hb2.obj,List.getElem?_cons_zero,List.getElem?_cons_succ,e1,e2,m1,m2,m3,oe.sl.iaddr hkB,st']
     refine ⟨y.length - (k + 1),by omega,k + 1,ys.set i (y.set k (mkK i)),y.set k (mkK i),by simp; omega,by simp,?_,hb3,by simpa using hyl,?_,by simpa using hy28,?_,fun j x hj hx' => ?_,?_⟩
     ·rw [wrap_i64 (by omega) (by omega),Int.natCast_add,Int.natCast_one]
     ·exact List.getElem?_set_self (by omega)
     ·have := take_set_succ (l := y) (y := List.replicate y.length (mkK i)) (k := k) hk' (by simpa using hk') (by rw [hyt,List.take_replicate,Nat.min_eq_left (by omega)])
      rw [List.getElem_replicate,List.take_replicate,Nat.min_eq_left (by omega)] at this
      exact this
     ·rw [List.getElem?_set_ne (fun e => hj e.symm)] at hx'
      exact hyo j x hj hx'
     ·exact Keeps.trans hk2 (sub hei k3) fun _ _ h => h
    ·simp -dsimp only [↓WPd,↓Zm,↓Zn,WPu,Za,Zb,Zc,Zd,Ze,Zf,Zg,Zh,Nat.reduceEqDiff,Nat.reduceLT,Zi,Zj,Zk,Zl,Nat.reduceBEq]
     have hk' : k = y.length := by omega
     subst hk'
     rw [List.take_length] at hyt
     refine ⟨ys,hb2,hyl,fun j x hj => ?_,hk2⟩
     by_cases hji : j = i
     ·subst hji
      rw [hyi] at hj; injection hj with hj; subst hj
      exact ⟨hy28,fun _ => hyt⟩
     ·obtain ⟨a1,a2⟩ := hyo j x hji hj
      exact ⟨a1,fun hlt => a2 (by omega)⟩
   ·rintro x σ2 env ⟨rfl,hv,ys,hb2,hyl,hyx,hk2⟩
    simp only [List.map_cons,List.map_nil,List.cons.injEq,and_true] at hv
    obtain ⟨v0,v3⟩ := hv
    simp -dsimp only [↓WPd,↓Zm,↓Zn,WPu,Za,Zb,Zc,Zd,Ze,Zf,Zg,Zh,Nat.reduceEqDiff,Nat.reduceLT,Zi,Zj,Zk,Zl,Nat.reduceBEq,v0,v3]
    refine ⟨qs.length - (i + 1),by omega,i + 1,ys,by omega,rfl,?_,hb2,hyl,hyx,hk2⟩
    rw [wrap_i64 (by omega) (by omega),Int.natCast_add,Int.natCast_one]
  ·simp -dsimp only [↓WPd,↓Zm,↓Zn,WPu,Za,Zb,Zc,Zd,Ze,Zf,Zg,Zh,Nat.reduceEqDiff,Nat.reduceLT,Zi,Zj,Zk,Zl,Nat.reduceBEq]
   exact ⟨xs,hb,hxl,fun j x hj => ⟨(hx j x hj).1,(hx j x hj).2 (by have := (List.getElem?_eq_some_iff.1 hj).1; omega)⟩,hk⟩
 ·rintro x σ1 env ⟨rfl,xs,hv,hb,hxl,hx,hk⟩
  simp only [List.map_cons,List.map_nil,List.cons.injEq,and_true] at hv
  simp -dsimp only [↓WPd,↓Zm,↓Zn,WPu,Za,Zb,Zc,Zd,Ze,Zf,Zg,Zh,Nat.reduceEqDiff,Nat.reduceLT,Zi,Zj,Zk,Zl,Nat.reduceBEq,hv]
  have hxe : ∀ {j : Nat} {e : AVal} {x : List Cel},es[j]? = some e → xs[j]? = some x → Own σ1 5 e (CC x) := fun {j e x} h1 h2 => hb.rows.one j e (CC x) h1 (by rw [List.getElem?_map,h2]; rfl)
  have hel : ∀ {j : Nat} {e : AVal} {s : Nat},es[j]? = some e → e.sid = some s → s < σ1.length := fun h1 h2 => hb.rows.lt h1 h2
  refine loop_rule2 (fun m vs σ' => ∃ (i : Nat) (a : AVal) (gs : List AVal),i ≤ qs.length ∧ m = qs.length - i ∧ vs = [.ptr id 0,a,.int .i64 i] ∧ σ'[id]? = some (.cells [c1,c2,c3,w,c4]) ∧ SlOf σ' 1 w es ∧
    (∀ (j : Nat) (e : AVal) (x : List Cel),es[j]? = some e → xs[j]? = some x → SlOf σ' 5 e (CC x) ∧ (i ≤ j → Own σ' 5 e (CC x))) ∧ Own σ' 1 a gs ∧ gs.length = i ∧ Fresh σ1.length a ∧
    (∀ (j : Nat) (g : AVal) (x : List Cel),gs[j]? = some g → xs[j]? = some x → SlOf σ' 5 g (CC (x ++ List.replicate 20 (mkK j)))) ∧ Keeps (fun j => ∃ (i : Nat) (e : AVal),es[i]? = some e ∧ e.sid = some j) σ σ' ∧ σ1.length ≤ σ'.length)
   [0,5] (fun x vs σ' => x = .exit 4 ∧ ∃ (a : AVal) (gs : List AVal),vs = [.ptr id 0,a] ∧ σ'[id]? = some (.cells [c1,c2,c3,w,c4]) ∧ SlOf σ' 1 w es ∧
    (∀ (j : Nat) (e : AVal) (x : List Cel),es[j]? = some e → xs[j]? = some x → SlOf σ' 5 e (CC x)) ∧ SlOf σ' 1 a gs ∧ gs.length = qs.length ∧
    (∀ (j : Nat) (g : AVal) (x : List Cel),gs[j]? = some g → xs[j]? = some x → SlOf σ' 5 g (CC (x ++ List.replicate 20 (mkK j)))) ∧ Keeps (fun j => ∃ (i : Nat) (e : AVal),es[i]? = some e ∧ e.sid = some j) σ σ') qs.length
   ⟨0,.nilslice,[],Nat.zero_le _,rfl,?_,hb.obj,hb.rows.row.sl,fun j e x h1 h2 => ⟨(hxe h1 h2).sl,fun _ => hxe h1 h2⟩,Own.nil _ _,rfl,Fresh.nil _,fun j g x h => by simp at h,hk,Nat.le_refl _⟩ ?_ ?_
  ·simp -dsimp only [↓WPd,↓Zm,↓Zn,WPu,Za,Zb,Zc,Zd,Ze,Zf,Zg,Zh,Nat.reduceEqDiff,Nat.reduceLT,Zi,Zj,Zk,Zl,Nat.reduceBEq,hv]; rfl
  ·rintro m vs σ2 ⟨i,a,gs,hi,rfl,rfl,p1,p2,p3,p4,p5,p6,p7,p8,p9⟩
   simp -dsimp only [↓WPd,↓Zm,↓Zn,WPu,Za,Zb,Zc,Zd,Ze,Zf,Zg,Zh,Nat.reduceEqDiff,Nat.reduceLT,Zi,Zj,Zk,Zl,Nat.reduceBEq,faddr_ptr,load_cells p1,List.getElem?_cons_zero,List.getElem?_cons_succ,lw]
   refine condP_dec (fun hc => ?_) (fun hc => ?_)
   ·have hi' : i < qs.length := by omega
    have hie : i < es.length := by omega
    have hei : es[i]? = some es[i] := List.getElem?_eq_getElem hie
    have hxi : xs[i]? = some (xs[i]'(by omega)) := List.getElem?_eq_getElem _
    generalize xs[i]'(by omega) = x at hxi
    obtain ⟨m1,m2,m3⟩ := mk_opsK i (by omega)
    have oe := (p3 i es[i] x hei hxi).2 (Nat.le_refl _)
    have hx28 := (hx i x hxi).1
    have e1 := p2.iaddr hie .i64
    have e2 := p2.load1 hie oe.sl.one 1
    simp -dsimp only [↓WPd,↓Zm,↓Zn,WPu,Za,Zb,Zc,Zd,Ze,Zf,Zg,Zh,Nat.reduceEqDiff,Nat.reduceLT,Zi,Zj,Zk,Zl,Nat.reduceBEq,faddr_ptr,load_cells p1,List.getElem?_cons_zero,List.getElem?_cons_succ,e1,e2]
    generalize es[i] = e at hei oe
    refine loop_rule2 (fun m vs σ' => ∃ (k : Nat) (g : AVal),k ≤ 20 ∧ m = 20 - k ∧ vs = [.ptr id 0,a,.int .i64 i,g,.int .i64 k] ∧ Own σ' 5 g (CC (x ++ List.replicate k (mkK i))) ∧ (∀ s,g.sid = some s → e.sid = some s ∨ σ2.length ≤ s) ∧ Keeps (fun s => e.sid = some s) σ2 σ' ∧
      ∀ (sz : Nat) (u : AVal) (us : List AVal),SlOf σ2 sz u us → SlOf σ' sz u us)
     [0,5,6,7] (fun y vs σ' => y = .exit 6 ∧ ∃ g : AVal,vs = [.ptr id 0,a,.int .i64 i,g] ∧ Own σ' 5 g (CC (x ++ List.replicate 20 (mkK i))) ∧ (∀ s,g.sid = some s → e.sid = some s ∨ σ2.length ≤ s) ∧ Keeps (fun s => e.sid = some s) σ2 σ' ∧
      ∀ (sz : Nat) (u : AVal) (us : List AVal),SlOf σ2 sz u us → SlOf σ' sz u us) 20
     ⟨0,e,Nat.zero_le _,rfl,?_,by simpa using oe,fun s hs => .inl hs,Keeps.refl _ _,fun _ _ _ h => h⟩ ?_ ?_
    ·simp -dsimp only [↓WPd,↓Zm,↓Zn,WPu,Za,Zb,Zc,Zd,Ze,Zf,Zg,Zh,Nat.reduceEqDiff,Nat.reduceLT,Zi,Zj,Zk,Zl,Nat.reduceBEq]; rfl
    ·rintro m vs σ3 ⟨k,g,hk20,rfl,rfl,og,gsid,gk,gv⟩
     simp -dsimp only [↓WPd,↓Zm,↓Zn,WPu,Za,Zb,Zc,Zd,Ze,Zf,Zg,Zh,Nat.reduceEqDiff,Nat.reduceLT,Zi,Zj,Zk,Zl,Nat.reduceBEq]
     refine condP_dec (fun hc => ?_) (fun hc => ?_)
     ·have hk' : k < 20 := by omega
      obtain ⟨g',σ4,b1,b2,b3,b4,_⟩ := og.append (CC [mkK i]) 48 (by rw [CC_len,CC_len]; simp; omega)
      rw [CC_app,List.append_assoc,← List.replicate_succ'] at b2
      have b1' : appendV σ3 5 48 g [.agg (mkK i).cs] = some (g',σ4) := b1
      have f1 : fillL 5 true (List.replicate 1 (zel [AVal.int IntKind.u8 0,AVal.str [],AVal.int IntKind.i64 0,AVal.int IntKind.i64 0,AVal.int IntKind.i64 0] true)) [(0,.agg (mkK i).cs)] = some [.agg (mkK i).cs] := rfl
      have f2 : ∀ t : Nat,elems 5 σ3 (.fslice t true 5 [.agg (mkK i).cs]) = some [.agg (mkK i).cs] := fun t => rfl
      simp -dsimp only [↓WPd,↓Zm,↓Zn,WPu,Za,Zb,Zc,Zd,Ze,Zf,Zg,Zh,Nat.reduceEqDiff,Nat.reduceLT,Zi,Zj,Zk,Zl,Nat.reduceBEq,m1,m2,m3,f1,f2,b1']
      refine ⟨20 - (k + 1),by omega,k + 1,g',by omega,rfl,?_,b2,fun s hs => ?_,?_,fun sz u us hu => og.append_view b1 (gv sz u us hu)⟩
      ·rw [wrap_i64 (by omega) (by omega),Int.natCast_add,Int.natCast_one]
      ·rcases b4 s hs with e | e
       ·exact gsid s e
       ·have := gk.1; exact .inr (by omega)
      ·refine Keeps.trans gk b3 fun s hs e => ?_
       rcases gsid s e with e' | e'
       ·exact e'
       ·omega
     ·simp -dsimp only [↓WPd,↓Zm,↓Zn,WPu,Za,Zb,Zc,Zd,Ze,Zf,Zg,Zh,Nat.reduceEqDiff,Nat.reduceLT,Zi,Zj,Zk,Zl,Nat.reduceBEq]
      have hk' : k = 20 := by omega
      subst hk'
      exact ⟨g,rfl,og,gsid,gk,gv⟩
    ·rintro y σ3 env ⟨rfl,g,hv,og,gsid,gk,gv⟩
     simp only [List.map_cons,List.map_nil,List.cons.injEq,and_true] at hv
     obtain ⟨v0,v5,v6,v7⟩ := hv
     have g4 : Grows σ3 σ3 := Keeps.refl _ _
     have lel : ∀ tg,elems 1 σ3 (.fslice tg true 1 [g]) = some [g] := fun tg => (SlOf.fs σ3 1 tg true [g]).els
     have oa3 : Own σ3 1 a gs := p4.keeps gk fun s hs he => by have := p6 s hs; have := hel hei he; omega
     have oa4 := oa3.grow g4
     obtain ⟨a',σ5,c1,c2,c3,c4,_⟩ := oa4.append [g] 24 (by rw [p5]; simp; omega)
     have V : ∀ {s : Nat} {u : AVal} {us : List AVal},SlOf σ2 s u us → SlOf σ5 s u us := fun {s u us} hu => oa4.append_view c1 ((gv s _ _ hu).grow g4)
     simp -dsimp only [↓WPd,↓Zm,↓Zn,WPu,Za,Zb,Zc,Zd,Ze,Zf,Zg,Zh,Nat.reduceEqDiff,Nat.reduceLT,Zi,Zj,Zk,Zl,Nat.reduceBEq,v0,v5,v6,v7,og.lit1,lel,c1]
     refine ⟨qs.length - (i + 1),by omega,i + 1,a',gs ++ [g],by omega,rfl,?_,?_,V p2,fun j e' x' h1 h2 => ⟨V (p3 j e' x' h1 h2).1,fun hj => ?_⟩,c2,by simp [p5],fun s hs => ?_,fun j g' x' h1 h2 => ?_,?_,?_⟩
     ·rw [wrap_i64 (by omega) (by omega),Int.natCast_add,Int.natCast_one]
     ·exact c3.get (g4.get (gk.get p1 (oe.noCell p1))) (oa4.noCell (g4.get (gk.get p1 (oe.noCell p1))))
     ·refine (((p3 j e' x' h1 h2).2 (by omega)).keeps gk fun s hs he => ?_).grow g4 |>.keeps c3 fun s hs ha => ?_
      ·have := hb.rows.apart j i e' e s h1 hei hs he; omega
      ·have := p6 s ha; have := hel h1 hs; omega
     ·rcases c4 s hs with e' | e'
      ·exact p6 s e'
      ·have := g4.1; have := gk.1; omega
     ·by_cases hj : j < gs.length
      ·rw [List.getElem?_append_left hj] at h1
       exact V (p7 j g' x' h1 h2)
      ·rw [List.getElem?_append_right (by omega),List.getElem?_singleton] at h1
       split at h1
       ·rename_i hj0
        injection h1 with h1
        subst h1
        have : j = i := by omega
        subst this
        rw [hxi] at h2; injection h2 with h2; subst h2
        exact oa4.append_view c1 (og.sl.grow g4)
       ·cases h1
     ·have k1 : Keeps (fun j => ∃ (i : Nat) (e : AVal),es[i]? = some e ∧ e.sid = some j) σ σ3 := Keeps.trans p8 (sub hei gk) fun _ _ h => h
      have k2 : Keeps (fun j => ∃ (i : Nat) (e : AVal),es[i]? = some e ∧ e.sid = some j) σ σ3 := Keeps.trans k1 (Grows.any (M := fun j => ∃ (i : Nat) (e : AVal),es[i]? = some e ∧ e.sid = some j) g4) fun _ _ h => h
      exact Keeps.trans k2 c3 fun s hs ha => by have := p6 s ha; have := hk.1; omega
     ·have := gk.1; have := g4.1; have := c3.1; omega
   ·simp -dsimp only [↓WPd,↓Zm,↓Zn,WPu,Za,Zb,Zc,Zd,Ze,Zf,Zg,Zh,Nat.reduceEqDiff,Nat.reduceLT,Zi,Zj,Zk,Zl,Nat.reduceBEq]
    have hi' : i = qs.length := by omega
    exact ⟨a,gs,rfl,p1,p2,fun j e x h1 h2 => (p3 j e x h1 h2).1,p4.sl,by omega,p7,p8⟩
  ·rintro y σ2 env ⟨rfl,a,gs,hv2,p1,p2,p3,p4,p5,p7,p8⟩
   simp only [List.map_cons,List.map_nil,List.cons.injEq,and_true] at hv2
   obtain ⟨v0,v5⟩ := hv2
   have la := p4.len
   rw [p5] at la
   simp -dsimp only [↓WPd,↓Zm,↓Zn,WPu,Za,Zb,Zc,Zd,Ze,Zf,Zg,Zh,Nat.reduceEqDiff,Nat.reduceLT,Zi,Zj,Zk,Zl,Nat.reduceBEq,v0,v5]
   refine loop_rule (fun m vs σ' => ∃ i : Nat,i ≤ qs.length ∧ m = qs.length - i ∧ vs = [.ptr id 0,a,.int .i64 i] ∧ σ' = σ2) qs.length ⟨0,Nat.zero_le _,rfl,?_,rfl⟩ ?_
   ·simp -dsimp only [↓WPd,↓Zm,↓Zn,WPu,Za,Zb,Zc,Zd,Ze,Zf,Zg,Zh,Nat.reduceEqDiff,Nat.reduceLT,Zi,Zj,Zk,Zl,Nat.reduceBEq,v0,v5]; rfl
   ·rintro m vs σ' ⟨i,hi,rfl,rfl,rfl⟩
    simp -dsimp only [↓WPd,↓Zm,↓Zn,WPu,Za,Zb,Zc,Zd,Ze,Zf,Zg,Zh,Nat.reduceEqDiff,Nat.reduceLT,Zi,Zj,Zk,Zl,Nat.reduceBEq,la]
    refine condP_dec (fun hc => ?_) (fun hc => ?_)
    ·have hi' : i < qs.length := by omega
     have hie : i < es.length := by omega
     have hig : i < gs.length := by omega
     have hei : es[i]? = some es[i] := List.getElem?_eq_getElem hie
     have hgi : gs[i]? = some gs[i] := List.getElem?_eq_getElem hig
     have hxi : xs[i]? = some (xs[i]'(by omega)) := List.getElem?_eq_getElem _
     generalize xs[i]'(by omega) = x at hxi
     obtain ⟨m1,m2,m3⟩ := mk_opsK i (by omega)
     have sg := p7 i gs[i] x hgi hxi
     have se := p3 i es[i] x hei hxi
     obtain ⟨hx28,hxr⟩ := hx i x hxi
     have a1 := p4.iaddr hig .i64
     have a2 := p4.load1 hig sg.one 1
     have e1 := p2.iaddr hie .i64
     have e2 := p2.load1 hie se.one 1
     generalize gs[i] = g at *
     generalize es[i] = e at *
     have lg := sg.len
     rw [CC_len] at lg
     have le := se.len
     rw [CC_len] at le
     have hz : ∀ (k : Nat) (h : k < (CC (x ++ List.replicate 20 (mkK i))).length),(CC (x ++ List.replicate 20 (mkK i)))[k] = (mkK i).val := fun k h => by
      have e : x ++ List.replicate 20 (mkK i) = List.replicate (x.length + 20) (mkK i) := by
       rw [← List.replicate_append_replicate,← hxr]
      rw [cel_get]; simp only [e,List.getElem_replicate]
     have hx' : ∀ (k : Nat) (h : k < (CC x).length),(CC x)[k] = (mkK i).val := fun k h => by
      rw [cel_get]
      have h' : k < x.length := by rw [CC_len] at h; exact h
      have : x[k]? = some (mkK i) := by rw [hxr,List.getElem?_replicate,if_pos h']
      rw [List.getElem?_eq_getElem h'] at this
      rw [Option.some.inj this]
     have en : eqsV [.i,.s,.i,.i,.i] (.agg (mkK i).cs) (.agg (mkK i).cs) = some true := by
      have := Cel.eqs (mkK i) (mkK i)
      rw [decide_eq_true rfl] at this; exact this
     simp -dsimp only [↓WPd,↓Zm,↓Zn,WPu,Za,Zb,Zc,Zd,Ze,Zf,Zg,Zh,Nat.reduceEqDiff,Nat.reduceLT,Zi,Zj,Zk,Zl,Nat.reduceBEq]
     refine loop_rule (fun m vs σ'' => ∃ k : Nat,k ≤ (x ++ List.replicate 20 (mkK i)).length ∧ m = (x ++ List.replicate 20 (mkK i)).length - k ∧ vs = [.ptr id 0,a,.int .i64 i,.int .i64 k] ∧ σ'' = σ') (x ++ List.replicate 20 (mkK i)).length ⟨0,Nat.zero_le _,rfl,?_,rfl⟩ ?_
     ·simp -dsimp only [↓WPd,↓Zm,↓Zn,WPu,Za,Zb,Zc,Zd,Ze,Zf,Zg,Zh,Nat.reduceEqDiff,Nat.reduceLT,Zi,Zj,Zk,Zl,Nat.reduceBEq]; rfl
     ·rintro m vs σ'' ⟨k,hk1,rfl,rfl,rfl⟩
      simp -dsimp only [↓WPd,↓Zm,↓Zn,WPu,Za,Zb,Zc,Zd,Ze,Zf,Zg,Zh,Nat.reduceEqDiff,Nat.reduceLT,Zi,Zj,Zk,Zl,Nat.reduceBEq,a1,a2,lg]
      have hzl : (x ++ List.replicate 20 (mkK i)).length < 2 ^ 40 := by simp; omega
      refine condP_dec (fun hc => ?_) (fun hc => ?_)
      ·have hkz : k < (CC (x ++ List.replicate 20 (mkK i))).length := by rw [CC_len]; omega
       have lz : loadV σ'' 5 true (addrOf 5 g k) = some (.agg (mkK i).cs) := sg.loadA hkz (cs := (mkK i).cs) (by rw [hz]; rfl)
       simp -dsimp only [↓WPd,↓Zm,↓Zn,WPu,Za,Zb,Zc,Zd,Ze,Zf,Zg,Zh,Nat.reduceEqDiff,Nat.reduceLT,Zi,Zj,Zk,Zl,Nat.reduceBEq,a1,a2,sg.iaddr hkz,lz,m1,m2,m3,en]
       refine ⟨(x ++ List.replicate 20 (mkK i)).length - (k + 1),by omega,k + 1,by omega,rfl,?_⟩
       exact ⟨by rw [wrap_i64 (by omega) (by omega),Int.natCast_add,Int.natCast_one],trivial⟩
      ·simp -dsimp only [↓WPd,↓Zm,↓Zn,WPu,Za,Zb,Zc,Zd,Ze,Zf,Zg,Zh,Nat.reduceEqDiff,Nat.reduceLT,Zi,Zj,Zk,Zl,Nat.reduceBEq]
       refine loop_rule (fun m vs σ3 => ∃ k : Nat,k ≤ x.length ∧ m = x.length - k ∧ vs = [.ptr id 0,a,.int .i64 i,.int .i64 k] ∧ σ3 = σ'') x.length ⟨0,Nat.zero_le _,rfl,?_,rfl⟩ ?_
       ·simp -dsimp only [↓WPd,↓Zm,↓Zn,WPu,Za,Zb,Zc,Zd,Ze,Zf,Zg,Zh,Nat.reduceEqDiff,Nat.reduceLT,Zi,Zj,Zk,Zl,Nat.reduceBEq]; rfl
       ·rintro m vs σ3 ⟨k2,hk2',rfl,rfl,rfl⟩
        simp -dsimp only [↓WPd,↓Zm,↓Zn,WPu,Za,Zb,Zc,Zd,Ze,Zf,Zg,Zh,Nat.reduceEqDiff,Nat.reduceLT,Zi,Zj,Zk,Zl,Nat.reduceBEq,faddr_ptr,load_cells p1,List.getElem?_cons_zero,List.getElem?_cons_succ,e1,e2,le]
        refine condP_dec (fun hc => ?_) (fun hc => ?_)
        ·have hkx : k2 < (CC x).length := by rw [CC_len]; omega
         have lx : loadV σ3 5 true (addrOf 5 e k2) = some (.agg (mkK i).cs) := se.loadA hkx (cs := (mkK i).cs) (by rw [hx']; rfl)
         simp -dsimp only [↓WPd,↓Zm,↓Zn,WPu,Za,Zb,Zc,Zd,Ze,Zf,Zg,Zh,Nat.reduceEqDiff,Nat.reduceLT,Zi,Zj,Zk,Zl,Nat.reduceBEq,faddr_ptr,load_cells p1,List.getElem?_cons_zero,List.getElem?_cons_succ,e1,e2,se.iaddr hkx,lx,m1,m2,m3,en]
         refine ⟨x.length - (k2 + 1),by omega,k2 + 1,by omega,rfl,?_⟩
         exact ⟨by rw [wrap_i64 (by omega) (by omega),Int.natCast_add,Int.natCast_one],trivial⟩
        ·simp -dsimp only [↓WPd,↓Zm,↓Zn,WPu,Za,Zb,Zc,Zd,Ze,Zf,Zg,Zh,Nat.reduceEqDiff,Nat.reduceLT,Zi,Zj,Zk,Zl,Nat.reduceBEq]
         refine ⟨qs.length - (i + 1),by omega,i + 1,by omega,rfl,?_⟩
         exact ⟨by rw [wrap_i64 (by omega) (by omega),Int.natCast_add,Int.natCast_one],trivial⟩
    ·simp -dsimp only [↓WPd,↓Zm,↓Zn,WPu,Za,Zb,Zc,Zd,Ze,Zf,Zg,Zh,Nat.reduceEqDiff,Nat.reduceLT,Zi,Zj,Zk,Zl,Nat.reduceBEq]
     exact ⟨p1,p8⟩
theorem store5 {σ : Store} {id : Nat} {cs : List AVal} (h : σ[id]? = some (.cells cs)) (hl : cs.length = 5) : storeV σ 5 (.ptr id 0) (.agg [.nilslice,.nilslice,.nilslice,.nilslice,.nilslice]) = some (σ.set id (.cells [.nilslice,.nilslice,.nilslice,.nilslice,.nilslice])) := by
 have e : splice cs 0 [.nilslice,.nilslice,.nilslice,.nilslice,.nilslice] = [.nilslice,.nilslice,.nilslice,.nilslice,.nilslice] := by
  simp only [splice,List.take_zero,List.nil_append,List.length_cons,List.length_nil]
  rw [List.drop_eq_nil_of_le (by omega),List.append_nil]
 have e1 : (AVal.agg [.nilslice,.nilslice,.nilslice,.nilslice,.nilslice]).cells = [.nilslice,.nilslice,.nilslice,.nilslice,.nilslice] := rfl
 simp only [storeV,e1,h,e]
 rw [if_pos ⟨rfl,rfl⟩,if_pos (by omega)]
end
end Go.Proofs.YtelpjaejmneplaaGreatDoor.Am
