/-
  The abstract machine and the functions of the law, 4: texts put together.
-/
import Derived.Test.YtelpjaejmneplaaGreatDoorReachPathsPkC
set_option linter.unusedVariables false
set_option linter.unusedSimpArgs false
set_option linter.unusedSectionVars false
set_option maxRecDepth 100000
namespace Go.Proofs.YtelpjaejmneplaaGreatDoor.Am
open Go
section
variable (d : Nat) (σ : Store)
theorem int_beq (a b : Int) : (a == b) = decide (a = b) := by by_cases h : a = b <;> simp [h]
theorem nil_text (s : List UInt8) : sopV .eql (.str s) (.str []) = some (.bool (decide (s = []))) := by cases s <;> simp [sopV]
set_option maxHeartbeats 1000000 in
theorem cell_ok (c : Cel) : Called CU.cfg d 135 [c.val] σ fun v σ' => v = .bool c.ok ∧ Grows σ σ' := by
 refine called_of (fn := CU.a135) rfl (Nat.le_of_ble_eq_true rfl) ?_
 simp only [CU.a135, CU.o]
 simp -dsimp only [↓WPd,↓Zm,↓Zn,WPu,Za,Zb,Zc,Zd,Ze,Zf,Zg,Zh,Nat.reduceEqDiff,Nat.reduceLT,Zi,Zj,Zk,Zl,Nat.reduceBEq,Cel.cells,Cel.one]
 have ho : (σ ++ [AObj.cells c.cs])[σ.length]? = some (.cells c.cs) := by simp
 have g0 : Grows σ (σ ++ [AObj.cells c.cs]) := Grows.app _ _
 generalize σ ++ [AObj.cells c.cs] = σ1 at ho g0
 have l2 : loadV σ1 2 true (.ptr σ.length 3) = some (.agg [.int .i64 c.v.1,.int .i64 c.v.2]) := by simp [loadV,behind,ho,Cel.cs]
 have hz : fillA [AVal.int IntKind.i64 0,AVal.int IntKind.i64 0] [] = some [.int .i64 0,.int .i64 0] := rfl
 have he : eqsV [.i,.i] (.agg [.int .i64 c.v.1,.int .i64 c.v.2]) (.agg [.int .i64 0,.int .i64 0]) = some (decide (c.v = (0,0))) := by
  simp [eqsV,cellsEq]
  rw [Bool.eq_iff_iff]
  simp
  constructor
  ·intro h; exact Prod.ext h.1 h.2
  ·intro h; rw [h]; exact ⟨rfl,rfl⟩
 have kq : ∀ j : Nat,((c.k : Int) == (j : Int)) = decide (c.k = j) := by
  intro j
  by_cases h : c.k = j <;> simp [h] <;> omega
 have k1 : ((c.k : Int) == 1) = decide (c.k = 1) := kq 1
 have k2 : ((c.k : Int) == 2) = decide (c.k = 2) := kq 2
 have k3 : ((c.k : Int) == 3) = decide (c.k = 3) := kq 3
 have k4 : ((c.k : Int) == 4) = decide (c.k = 4) := kq 4
 simp -dsimp only [↓WPd,↓Zm,↓Zn,WPu,Za,Zb,Zc,Zd,Ze,Zf,Zg,Zh,Nat.reduceEqDiff,Nat.reduceLT,Zi,Zj,Zk,Zl,Nat.reduceBEq,WPm,faddr_ptr,Nat.reduceAdd,Nat.add_zero,load_cells ho,Cel.g0,Cel.g1,Cel.g2,Cel.g3,Cel.g4,l2,hz,he,k1]
 refine condP_dec (fun h1 => ?_) (fun h1 => ?_)
 ·have hok : c.ok = (decide (c.s = []) && decide (c.v = (0,0)) && decide (c.n ≥ -2147483648) && decide (c.n ≤ 2147483648)) := by simp [Cel.ok,h1]
  simp -dsimp only [↓WPd,↓Zm,↓Zn,WPu,Za,Zb,Zc,Zd,Ze,Zf,Zg,Zh,Nat.reduceEqDiff,Nat.reduceLT,Zi,Zj,Zk,Zl,Nat.reduceBEq,WPm,faddr_ptr,Nat.reduceAdd,Nat.add_zero,load_cells ho,Cel.g0,Cel.g1,Cel.g2,Cel.g3,Cel.g4,nil_text]
  rw [hok]
  exact ⟨rfl,g0⟩
 simp -dsimp only [↓WPd,↓Zm,↓Zn,WPu,Za,Zb,Zc,Zd,Ze,Zf,Zg,Zh,Nat.reduceEqDiff,Nat.reduceLT,Zi,Zj,Zk,Zl,Nat.reduceBEq,k2]
 refine condP_dec (fun h2 => ?_) (fun h2 => ?_)
 ·have hok : c.ok = (isName c.s && decide (c.v = (0,0)) && (c.n == 0)) := by simp [Cel.ok,h2,int_beq]
  simp -dsimp only [↓WPd,↓Zm,↓Zn,WPu,Za,Zb,Zc,Zd,Ze,Zf,Zg,Zh,Nat.reduceEqDiff,Nat.reduceLT,Zi,Zj,Zk,Zl,Nat.reduceBEq,WPm,faddr_ptr,load_cells ho,Cel.g0,Cel.g1,Cel.g2,Cel.g3,Cel.g4,nil_text]
  refine calledW_of (risname_ok d σ1 c.s) ?_
  rintro v σ2 ⟨rfl,rfl⟩
  simp -dsimp only [↓WPd,↓Zm,↓Zn,WPu,Za,Zb,Zc,Zd,Ze,Zf,Zg,Zh,Nat.reduceEqDiff,Nat.reduceLT,Zi,Zj,Zk,Zl,Nat.reduceBEq,WPm,faddr_ptr,load_cells ho,Cel.g0,Cel.g1,Cel.g2,Cel.g3,Cel.g4,nil_text]
  rw [hok]
  exact ⟨rfl,g0⟩
 simp -dsimp only [↓WPd,↓Zm,↓Zn,WPu,Za,Zb,Zc,Zd,Ze,Zf,Zg,Zh,Nat.reduceEqDiff,Nat.reduceLT,Zi,Zj,Zk,Zl,Nat.reduceBEq,k3]
 refine condP_dec (fun h3 => ?_) (fun h3 => ?_)
 ·have hok : c.ok = (decide (c.v = (0,0)) && ((isName c.s && decide (c.n ≥ 1) && decide (c.n ≤ 8)) || (signsL.contains c.s && (c.n == 2)))) := by simp [Cel.ok,h3,int_beq]
  rw [hok]
  generalize hb : decide (c.v = (0,0)) = b at *
  cases b
  ·simp -dsimp only [↓WPd,↓Zm,↓Zn,WPu,Za,Zb,Zc,Zd,Ze,Zf,Zg,Zh,Nat.reduceEqDiff,Nat.reduceLT,Zi,Zj,Zk,Zl,Nat.reduceBEq,WPm,Bool.false_and]
   exact g0
  ·simp -dsimp only [↓WPd,↓Zm,↓Zn,WPu,Za,Zb,Zc,Zd,Ze,Zf,Zg,Zh,Nat.reduceEqDiff,Nat.reduceLT,Zi,Zj,Zk,Zl,Nat.reduceBEq,WPm,faddr_ptr,load_cells ho,Cel.g0,Cel.g1,Cel.g2,Cel.g3,Cel.g4,nil_text]
   refine calledW_of (risname_ok d σ1 c.s) ?_
   rintro v σ2 ⟨rfl,rfl⟩
   simp -dsimp only [↓WPd,↓Zm,↓Zn,WPu,Za,Zb,Zc,Zd,Ze,Zf,Zg,Zh,Nat.reduceEqDiff,Nat.reduceLT,Zi,Zj,Zk,Zl,Nat.reduceBEq,WPm,faddr_ptr,load_cells ho,Cel.g0,Cel.g1,Cel.g2,Cel.g3,Cel.g4,nil_text]
   generalize hq : (isName c.s && decide (c.n ≥ 1) && decide (c.n ≤ 8)) = q
   cases q
   ·simp -dsimp only [↓WPd,↓Zm,↓Zn,WPu,Za,Zb,Zc,Zd,Ze,Zf,Zg,Zh,Nat.reduceEqDiff,Nat.reduceLT,Zi,Zj,Zk,Zl,Nat.reduceBEq,WPm,faddr_ptr,load_cells ho,Cel.g0,Cel.g1,Cel.g2,Cel.g3,Cel.g4,nil_text]
    refine calledW_of (issign_ok d σ2 c.s) ?_
    rintro v σ3 ⟨rfl,g3⟩
    have ho3 := g3.get ho
    simp -dsimp only [↓WPd,↓Zm,↓Zn,WPu,Za,Zb,Zc,Zd,Ze,Zf,Zg,Zh,Nat.reduceEqDiff,Nat.reduceLT,Zi,Zj,Zk,Zl,Nat.reduceBEq,WPm,faddr_ptr,load_cells ho3,Cel.g0,Cel.g1,Cel.g2,Cel.g3,Cel.g4,nil_text,Bool.false_or,Bool.true_and]
    exact g0.trans g3
   ·simp -dsimp only [↓WPd,↓Zm,↓Zn,WPu,Za,Zb,Zc,Zd,Ze,Zf,Zg,Zh,Nat.reduceEqDiff,Nat.reduceLT,Zi,Zj,Zk,Zl,Nat.reduceBEq,WPm,Bool.true_or,Bool.true_and]
    exact g0
 simp -dsimp only [↓WPd,↓Zm,↓Zn,WPu,Za,Zb,Zc,Zd,Ze,Zf,Zg,Zh,Nat.reduceEqDiff,Nat.reduceLT,Zi,Zj,Zk,Zl,Nat.reduceBEq,k4]
 refine condP_dec (fun h4 => ?_) (fun h4 => ?_)
 ·have hok : c.ok = (decide (c.s = []) && (c.n == 0) && decide (c.v.1 ≥ -1) && decide (c.v.1 ≤ 3) && decide (c.v.2 ≥ 0)) := by simp [Cel.ok,h4,int_beq]
  simp -dsimp only [↓WPd,↓Zm,↓Zn,WPu,Za,Zb,Zc,Zd,Ze,Zf,Zg,Zh,Nat.reduceEqDiff,Nat.reduceLT,Zi,Zj,Zk,Zl,Nat.reduceBEq,WPm,faddr_ptr,Nat.reduceAdd,Nat.add_zero,load_cells ho,Cel.g0,Cel.g1,Cel.g2,Cel.g3,Cel.g4,nil_text]
  rw [hok]
  exact ⟨rfl,g0⟩
 ·have hok : c.ok = false := by simp [Cel.ok,h1,h2,h3,h4]
  simp -dsimp only [↓WPd,↓Zm,↓Zn,WPu,Za,Zb,Zc,Zd,Ze,Zf,Zg,Zh,Nat.reduceEqDiff,Nat.reduceLT,Zi,Zj,Zk,Zl,Nat.reduceBEq]
  rw [hok]
  exact ⟨rfl,g0⟩
theorem rend_ok (l : AVal) (t : List Cel) (a : Nat) (hx : t.length < 2 ^ 30) (hl : SlOf σ 5 l (t.map Cel.val)) : Called CU.cfg d 137 [l,.int .i64 a] σ fun v σ' => v = .int .i64 (endT t a : Int) ∧ σ' = σ := by
 refine called_of (fn := CU.a137) rfl (Nat.le_of_ble_eq_true rfl) ?_
 have ll := hl.len
 rw [List.length_map] at ll
 simp only [CU.a137, CU.o]
 simp -dsimp only [↓WPd,↓Zm,↓Zn,WPu,Za,Zb,Zc,Zd,Ze,Zf,Zg,Zh,Nat.reduceEqDiff,Nat.reduceLT,Zi,Zj,Zk,Zl,Nat.reduceBEq,WPm,ll]
 have key : (decide ((a : Int) < 0) || decide ((a : Int) ≥ (t.length : Int))) = !decide (a < t.length) := by
  rw [Bool.eq_iff_iff]; simp; omega
 rw [key]
 refine condP_intro (fun h => ?_) (fun h => ?_)
 ·have : endT t a = 0 := by simp only [Bool.not_eq_true',decide_eq_false_iff_not] at h; simp [endT,h]
  simp -dsimp only [↓WPd,↓Zm,↓Zn,WPu,Za,Zb,Zc,Zd,Ze,Zf,Zg,Zh,Nat.reduceEqDiff,Nat.reduceLT,Zi,Zj,Zk,Zl,Nat.reduceBEq,this]
  exact ⟨rfl,trivial⟩
 ·simp only [Bool.not_eq_false',decide_eq_true_eq] at h
  have hend : endT t a = endAt t.length (t.drop a) 1 a := by simp [endT,h]
  simp -dsimp only [↓WPd,↓Zm,↓Zn,WPu,Za,Zb,Zc,Zd,Ze,Zf,Zg,Zh,Nat.reduceEqDiff,Nat.reduceLT,Zi,Zj,Zk,Zl,Nat.reduceBEq]
  refine loop_rule2 (fun m vs σ' => ∃ k o : Nat,k ≤ t.length ∧ m = t.length + 1 - k ∧ vs = [l,.int .i64 k,.int .i64 o] ∧ σ' = σ ∧ endAt t.length (t.drop k) o k = endT t a ∧ o ≤ 1 + k * t.length ∧ 0 < k + o) [1,4]
   (fun e vs σ' => σ' = σ ∧ ((e = .exit 0 ∧ ∃ x,vs = [.int .i64 (endT t a : Int),x]) ∨ (e = .ret ∧ (∃ x,vs = [x,.int .i64 (endT t a : Int)])))) (t.length + 1 - a) ⟨a,1,by omega,rfl,?_,rfl,hend.symm,by omega,by omega⟩ ?_ ?_
  ·simp -dsimp only [↓WPd,↓Zm,↓Zn,WPu,Za,Zb,Zc,Zd,Ze,Zf,Zg,Zh,Nat.reduceEqDiff,Nat.reduceLT,Zi,Zj,Zk,Zl,Nat.reduceBEq]; rfl
  ·rintro m vs σ' ⟨k,o,hk,rfl,rfl,rfl,he,ho,hko⟩
   have hmul : k * t.length ≤ 2 ^ 60 := by
    calc k * t.length ≤ 2 ^ 30 * 2 ^ 30 := Nat.mul_le_mul (by omega) (by omega)
     _ = 2 ^ 60 := by decide
   simp -dsimp only [↓WPd,↓Zm,↓Zn,WPu,Za,Zb,Zc,Zd,Ze,Zf,Zg,Zh,Nat.reduceEqDiff,Nat.reduceLT,Zi,Zj,Zk,Zl,Nat.reduceBEq]
   refine condP_dec (fun h => ?_) (fun h => ?_)
   ·obtain ⟨o,rfl⟩ : ∃ o',o = o' + 1 := ⟨o - 1,by omega⟩
    simp -dsimp only [↓WPd,↓Zm,↓Zn,WPu,Za,Zb,Zc,Zd,Ze,Zf,Zg,Zh,Nat.reduceEqDiff,Nat.reduceLT,Zi,Zj,Zk,Zl,Nat.reduceBEq,ll]
    refine condP_dec (fun hkl => ?_) (fun hkl => ?_)
    ·have hz : endT t a = 0 := by rw [← he,endAt_out (by omega)]
     simp -dsimp only [↓WPd,↓Zm,↓Zn,WPu,Za,Zb,Zc,Zd,Ze,Zf,Zg,Zh,Nat.reduceEqDiff,Nat.reduceLT,Zi,Zj,Zk,Zl,Nat.reduceBEq,WPm]
     exact .inr ⟨_,by rw [hz]; rfl⟩
    ·have hk' : k < t.length := by omega
     have hi : k < (t.map Cel.val).length := by rw [List.length_map]; exact hk'
     have hb := (hl.addr hi .i64).2
     rw [cel_get] at hb
     obtain ⟨q0,p0,r0⟩ := faddr_load hb 0
     obtain ⟨q2,p2,r2⟩ := faddr_load hb 2
     have r0' : loadV σ' 1 false q0 = some (.int .u8 (t[k]).k) := r0
     have r2' : loadV σ' 1 false q2 = some (.int .i64 (t[k]).n) := r2
     rw [endAt_get hk'] at he
     have kq : (((t[k]).k : Int) == 3) = decide ((t[k]).k = 3) := by
      by_cases h : (t[k]).k = 3 <;> simp [h] <;> omega
     have w1 : IntKind.i64.wrap (((o + 1 : Nat) : Int) - 1) = (o : Int) := by rw [wrap_i64 (by omega) (by omega)]; omega
     have w3 : IntKind.i64.wrap ((k : Int) + 1) = ((k + 1 : Nat) : Int) := by rw [wrap_i64 (by omega) (by omega)]; omega
     have hm2 : (k + 1) * t.length = k * t.length + t.length := by rw [Nat.add_mul,Nat.one_mul]
     have e1 : ((o + 1 : Nat) : Int) = (o : Int) + 1 := by omega
     simp -dsimp only [↓WPd,↓Zm,↓Zn,WPu,Za,Zb,Zc,Zd,Ze,Zf,Zg,Zh,Nat.reduceEqDiff,Nat.reduceLT,Zi,Zj,Zk,Zl,Nat.reduceBEq,WPm,hl.iaddr hi,p0,p2,r0',r2',kq,w1]
     have key : (decide ((t[k]).k = 3) && decide ((t[k]).n > 0)) = decide (0 < (t[k]).parts) := by
      by_cases h : (t[k]).k = 3 <;> simp [Cel.parts,h]
     rw [key]
     refine condP_dec (fun h0 => ?_) (fun h0 => ?_)
     ·have hp : (t[k]).n = ((t[k]).parts : Int) := by
       by_cases h3 : (t[k]).k = 3
       ·have : (t[k]).parts = (t[k]).n.toNat := by simp [Cel.parts,h3]
        omega
       ·have : (t[k]).parts = 0 := by simp [Cel.parts,h3]
        omega
      simp -dsimp only [↓WPd,↓Zm,↓Zn,WPu,Za,Zb,Zc,Zd,Ze,Zf,Zg,Zh,Nat.reduceEqDiff,Nat.reduceLT,Zi,Zj,Zk,Zl,Nat.reduceBEq,WPm,ll,hl.iaddr hi,p2,r2']
      refine condP_dec (fun h2 => ?_) (fun h2 => ?_)
      ·rw [if_pos (by omega)] at he
       simp -dsimp only [↓WPd,↓Zm,↓Zn,WPu,Za,Zb,Zc,Zd,Ze,Zf,Zg,Zh,Nat.reduceEqDiff,Nat.reduceLT,Zi,Zj,Zk,Zl,Nat.reduceBEq]
       exact .inr ⟨_,by rw [← he]; rfl⟩
      ·rw [if_neg (by omega)] at he
       have w2 : IntKind.i64.wrap ((o : Int) + (t[k]).n) = ((o + (t[k]).parts : Nat) : Int) := by rw [wrap_i64 (by omega) (by omega)]; omega
       simp -dsimp only [↓WPd,↓Zm,↓Zn,WPu,Za,Zb,Zc,Zd,Ze,Zf,Zg,Zh,Nat.reduceEqDiff,Nat.reduceLT,Zi,Zj,Zk,Zl,Nat.reduceBEq,WPm,hl.iaddr hi,p2,r2',w2,w3]
       exact ⟨t.length + 1 - (k + 1),by omega,k + 1,o + (t[k]).parts,by omega,rfl,rfl,he,by omega,by omega⟩
     ·have hp : (t[k]).parts = 0 := Nat.eq_zero_of_not_pos h0
      rw [hp,if_neg (Nat.not_lt_zero _),Nat.add_zero] at he
      simp -dsimp only [↓WPd,↓Zm,↓Zn,WPu,Za,Zb,Zc,Zd,Ze,Zf,Zg,Zh,Nat.reduceEqDiff,Nat.reduceLT,Zi,Zj,Zk,Zl,Nat.reduceBEq,w3]
      exact ⟨t.length + 1 - (k + 1),by omega,k + 1,o,by omega,rfl,rfl,he,by omega,by omega⟩
   ·have : o = 0 := by omega
    subst this
    rw [endAt_zero] at he
    simp -dsimp only [↓WPd,↓Zm,↓Zn,WPu,Za,Zb,Zc,Zd,Ze,Zf,Zg,Zh,Nat.reduceEqDiff,Nat.reduceLT,Zi,Zj,Zk,Zl,Nat.reduceBEq]
    exact .inl ⟨_,by rw [← he]⟩
  ·rintro e σ' env ⟨rfl,⟨rfl,x,hv⟩ | ⟨rfl,x,hv⟩⟩
   ·simp only [List.map_cons,List.map_nil,List.cons.injEq,and_true] at hv
    simp -dsimp only [↓WPd,↓Zm,↓Zn,WPu,Za,Zb,Zc,Zd,Ze,Zf,Zg,Zh,Nat.reduceEqDiff,Nat.reduceLT,Zi,Zj,Zk,Zl,Nat.reduceBEq,hv]
   ·simp only [List.map_cons,List.map_nil,List.cons.injEq,and_true] at hv
    simp -dsimp only [↓WPd,↓Zm,↓Zn,WPu,Za,Zb,Zc,Zd,Ze,Zf,Zg,Zh,Nat.reduceEqDiff,Nat.reduceLT,Zi,Zj,Zk,Zl,Nat.reduceBEq,hv]
theorem rright_ok (l : AVal) (t : List Cel) (hx : t.length < 2 ^ 30) (hl : SlOf σ 5 l (t.map Cel.val)) : Called CU.cfg d 134 [l] σ fun v σ' => v = .bool (right t) ∧ Grows σ σ' := by
 refine called_of (fn := CU.a134) rfl (Nat.le_of_ble_eq_true rfl) ?_
 have ll := hl.len
 rw [List.length_map] at ll
 simp only [CU.a134, CU.o]
 simp -dsimp only [↓WPd,↓Zm,↓Zn,WPu,Za,Zb,Zc,Zd,Ze,Zf,Zg,Zh,Nat.reduceEqDiff,Nat.reduceLT,Zi,Zj,Zk,Zl,Nat.reduceBEq,WPm,ll]
 have key : (decide ((t.length : Int) < 1) || decide ((t.length : Int) > 256)) = !(decide (1 ≤ t.length) && decide (t.length ≤ 256)) := by
  generalize t.length = n
  rw [Bool.eq_iff_iff]; simp; omega
 rw [key]
 refine condP_intro (fun h => ?_) (fun h => ?_)
 ·have : right t = false := by
   simp only [Bool.not_eq_true'] at h
   simp only [right,h,Bool.false_and]
  simp -dsimp only [↓WPd,↓Zm,↓Zn,WPu,Za,Zb,Zc,Zd,Ze,Zf,Zg,Zh,Nat.reduceEqDiff,Nat.reduceLT,Zi,Zj,Zk,Zl,Nat.reduceBEq,this]
  exact Keeps.refl _ _
 ·simp only [Bool.not_eq_false'] at h
  have hne : t ≠ [] := by
   intro e; subst e; simp at h
  have hr : right t = (decide (endT t 0 = t.length) && t.all Cel.ok) := by
   rw [endT_zero hne]; simp only [right,h,Bool.true_and]
  simp -dsimp only [↓WPd,↓Zm,↓Zn,WPu,Za,Zb,Zc,Zd,Ze,Zf,Zg,Zh,Nat.reduceEqDiff,Nat.reduceLT,Zi,Zj,Zk,Zl,Nat.reduceBEq]
  refine loop_rule2 (fun m vs σ' => ∃ k,k ≤ t.length ∧ m = t.length - k ∧ vs = [l,.int .i64 k] ∧ Grows σ σ' ∧ ∀ (j : Nat) (hj : j < t.length),j < k → (t[j]).ok = true) [0,2]
   (fun e vs σ' => Grows σ σ' ∧ ((e = .exit 0 ∧ (∃ x,vs = [l,x]) ∧ t.all Cel.ok = true) ∨ (e = .ret ∧ (∃ x,vs = [x,.bool false]) ∧ t.all Cel.ok = false))) t.length ⟨0,Nat.zero_le _,rfl,?_,Keeps.refl _ _,fun j _ h => absurd h (Nat.not_lt_zero _)⟩ ?_ ?_
  ·simp -dsimp only [↓WPd,↓Zm,↓Zn,WPu,Za,Zb,Zc,Zd,Ze,Zf,Zg,Zh,Nat.reduceEqDiff,Nat.reduceLT,Zi,Zj,Zk,Zl,Nat.reduceBEq]; rfl
  ·rintro m vs σ' ⟨k,hk,rfl,rfl,g,hall⟩
   have ll' := (hl.grow g).len
   rw [List.length_map] at ll'
   simp -dsimp only [↓WPd,↓Zm,↓Zn,WPu,Za,Zb,Zc,Zd,Ze,Zf,Zg,Zh,Nat.reduceEqDiff,Nat.reduceLT,Zi,Zj,Zk,Zl,Nat.reduceBEq,ll']
   refine condP_dec (fun h => ?_) (fun h => ?_)
   ·have hk' : k < t.length := by omega
    have hi : k < (t.map Cel.val).length := by rw [List.length_map]; exact hk'
    have hl' := hl.grow g
    have ha5 : loadV σ' 5 true (addrOf 5 l k) = some (t[k]).val := hl'.loadA hi (cs := (t[k]).cs) (by rw [cel_get]; rfl)
    simp -dsimp only [↓WPd,↓Zm,↓Zn,WPu,Za,Zb,Zc,Zd,Ze,Zf,Zg,Zh,Nat.reduceEqDiff,Nat.reduceLT,Zi,Zj,Zk,Zl,Nat.reduceBEq,hl'.iaddr hi,ha5]
    refine calledW_of (cell_ok d σ' t[k]) ?_
    rintro v σ'' ⟨rfl,g2⟩
    simp -dsimp only [↓WPd,↓Zm,↓Zn,WPu,Za,Zb,Zc,Zd,Ze,Zf,Zg,Zh,Nat.reduceEqDiff,Nat.reduceLT,Zi,Zj,Zk,Zl,Nat.reduceBEq]
    refine condP_intro (fun h4 => ?_) (fun h4 => ?_)
    ·simp -dsimp only [↓WPd,↓Zm,↓Zn,WPu,Za,Zb,Zc,Zd,Ze,Zf,Zg,Zh,Nat.reduceEqDiff,Nat.reduceLT,Zi,Zj,Zk,Zl,Nat.reduceBEq]
     refine ⟨g.trans g2,.inr ⟨⟨_,rfl⟩,?_⟩⟩
     rw [List.all_eq_false]
     exact ⟨_,List.getElem_mem hk',by simpa using h4⟩
    ·simp -dsimp only [↓WPd,↓Zm,↓Zn,WPu,Za,Zb,Zc,Zd,Ze,Zf,Zg,Zh,Nat.reduceEqDiff,Nat.reduceLT,Zi,Zj,Zk,Zl,Nat.reduceBEq]
     refine ⟨t.length - (k + 1),by omega,k + 1,by omega,rfl,by rw [wrap_i64 (by omega) (by omega),Int.natCast_add,Int.natCast_one],g.trans g2,fun j hj hjk => ?_⟩
     by_cases e : j = k
     ·subst e; simpa using h4
     ·exact hall j hj (by omega)
   ·simp -dsimp only [↓WPd,↓Zm,↓Zn,WPu,Za,Zb,Zc,Zd,Ze,Zf,Zg,Zh,Nat.reduceEqDiff,Nat.reduceLT,Zi,Zj,Zk,Zl,Nat.reduceBEq]
    refine ⟨g,.inl ⟨⟨_,rfl⟩,?_⟩⟩
    rw [List.all_eq_true]
    intro x hx
    obtain ⟨j,hj,rfl⟩ := List.getElem_of_mem hx
    exact hall j hj (by omega)
  ·rintro e σ' env ⟨g,⟨rfl,⟨x,hv⟩,hyes⟩ | ⟨rfl,⟨x,hv⟩,hno⟩⟩
   ·simp only [List.map_cons,List.map_nil,List.cons.injEq,and_true] at hv
    have hl' := hl.grow g
    simp -dsimp only [↓WPd,↓Zm,↓Zn,WPu,Za,Zb,Zc,Zd,Ze,Zf,Zg,Zh,Nat.reduceEqDiff,Nat.reduceLT,Zi,Zj,Zk,Zl,Nat.reduceBEq,hv]
    refine calledW_of (rend_ok d σ' l t 0 hx hl') ?_
    rintro v σ'' ⟨rfl,rfl⟩
    have ll' := hl'.len
    rw [List.length_map] at ll'
    have k2 : (((endT t 0 : Nat) : Int) == (t.length : Int)) = decide (endT t 0 = t.length) := by by_cases h : endT t 0 = t.length <;> simp [h] <;> omega
    simp -dsimp only [↓WPd,↓Zm,↓Zn,WPu,Za,Zb,Zc,Zd,Ze,Zf,Zg,Zh,Nat.reduceEqDiff,Nat.reduceLT,Zi,Zj,Zk,Zl,Nat.reduceBEq,hv,ll',k2]
    rw [hr,hyes,Bool.and_true]
    exact ⟨rfl,g⟩
   ·simp only [List.map_cons,List.map_nil,List.cons.injEq,and_true] at hv
    simp -dsimp only [↓WPd,↓Zm,↓Zn,WPu,Za,Zb,Zc,Zd,Ze,Zf,Zg,Zh,Nat.reduceEqDiff,Nat.reduceLT,Zi,Zj,Zk,Zl,Nat.reduceBEq,hv]
    rw [hr,hno,Bool.and_false]
    exact ⟨rfl,g⟩
end
section
variable (d : Nat) (σ : Store)
theorem cclone_ok (b : AVal) (t : List Cel) (hs : t.length < 2 ^ 30) (hb : SlOf σ 5 b (t.map Cel.val)) : Called CU.cfg d 82 [b] σ fun v σ' => Grows σ σ' ∧ Own σ' 5 v (t.map Cel.val) ∧ Fresh σ.length v ∧ NoLit v := by
 refine called_of (fn := CU.a82) rfl (Nat.le_of_ble_eq_true rfl) ?_
 obtain ⟨x,hx,hx'⟩ := hb.isnil
 simp only [CU.a82, CU.o]
 simp -dsimp only [↓WPd,↓Zm,↓Zn,WPu,Za,Zb,Zc,Zd,Ze,Zf,Zg,Zh,Nat.reduceEqDiff,Nat.reduceLT,Zi,Zj,Zk,Zl,Nat.reduceBEq,hx,Bool.false_eq_true]
 refine condP_intro (fun h => ?_) (fun h => ?_)
 ·obtain ⟨rfl,he⟩ := hx' h
  simp -dsimp only [↓WPd,↓Zm,↓Zn,WPu,Za,Zb,Zc,Zd,Ze,Zf,Zg,Zh,Nat.reduceEqDiff,Nat.reduceLT,Zi,Zj,Zk,Zl,Nat.reduceBEq]
  exact ⟨Keeps.refl _ _,by rw [he]; exact Own.nil _ _,(fun id h => by cases h),trivial⟩
 ·simp -dsimp only [↓WPd,↓Zm,↓Zn,WPu,Za,Zb,Zc,Zd,Ze,Zf,Zg,Zh,Nat.reduceEqDiff,Nat.reduceLT,Zi,Zj,Zk,Zl,Nat.reduceBEq,hb.els]
  refine stepP_of [] rfl ?_
  have ho : Own σ 5 (.fslice (AVal.tagL []) true 5 []) [] := ⟨.inr (.inl ⟨_,rfl⟩)⟩
  obtain ⟨v',σ',h1,h2,h3,h4,h5⟩ := ho.append (t.map Cel.val) 48 (by rw [List.length_map]; simp; omega)
  simp -dsimp only [↓WPd,↓Zm,↓Zn,WPu,Za,Zb,Zc,Zd,Ze,Zf,Zg,Zh,Nat.reduceEqDiff,Nat.reduceLT,Zi,Zj,Zk,Zl,Nat.reduceBEq,hb.els,h1]
  refine ⟨h3.mono (fun i _ h => by cases h),by simpa using h2,fun id hid => ?_,h5 (.inl rfl)⟩
  rcases h4 id hid with h | h
  ·cases h
  ·omega
def isT (t : List Cel) (s : List UInt8) (n : Int) : Bool := match t with
 | [] => false
 | c :: _ => decide (c.s = s) && ((decide (c.k = 3) && decide (c.n = n)) || (decide (n = 0) && decide (c.k = 2)))
end
theorem faddr_at {σ : Store} {p : AVal} {cs : List AVal} {off : Nat} (h : behind σ p = some (cs,off)) (o : Nat) : ∃ q,faddrV o p = some q ∧ behind σ q = some (cs,off + o) := by
 cases p with
 | ptr i k =>
  simp only [behind] at h
  split at h
  ·rename_i cs' ho
   injection h with h; injection h with h1 h2; subst h1; subst h2
   exact ⟨.ptr i (k + o),rfl,by simp only [behind,ho]⟩
  ·cases h
 | eptr i ep j k =>
  simp only [behind] at h
  split at h
  ·rename_i sz es epo fl ho
   split at h
   ·rename_i hf
    rw [Option.map_eq_some_iff] at h
    obtain ⟨e,he,h⟩ := h
    injection h with h1 h2; subst h1; subst h2
    exact ⟨.eptr i ep j (k + o),rfl,by simp only [behind,ho,if_pos hf,he,Option.map_some]⟩
   ·cases h
  ·cases h
 | fptr t cs' k =>
  simp only [behind,Option.some.injEq,Prod.mk.injEq] at h
  obtain ⟨rfl,rfl⟩ := h
  exact ⟨.fptr t cs' (k + o),rfl,by simp [behind]⟩
 | _ => simp [behind] at h
theorem load_at {σ : Store} {q : AVal} {cs : List AVal} {off : Nat} (h : behind σ q = some (cs,off)) : loadV σ 1 false q = cs[off]? := by simp only [loadV,h]; rfl
theorem loadN_at {σ : Store} {q : AVal} {cs : List AVal} {off : Nat} (h : behind σ q = some (cs,off)) {n : Nat} (hn : off + n ≤ cs.length) : loadV σ n true q = some (.agg ((cs.drop off).take n)) := by
 simp only [loadV,h,ld,if_true,hn]
def nmC (v : Nm) : List AVal := [.int .i64 v.1,.int .i64 v.2]
theorem nm_cells (v : Nm) : (nmV v).cells = nmC v := rfl
theorem nm_agg (v : Nm) : nmV v = .agg (nmC v) := rfl
theorem nm_one (v : Nm) : (nmC v).all AVal.one = true := rfl
theorem nm_g0 (v : Nm) : (nmC v)[0]? = some (.int .i64 v.1) := rfl
theorem nm_g1 (v : Nm) : (nmC v)[1]? = some (.int .i64 v.2) := rfl
theorem nm_eqs (a b : Nm) : eqsV [.i,.i] (nmV a) (nmV b) = some (decide (a = b)) := by
 obtain ⟨a1,a2⟩ := a; obtain ⟨b1,b2⟩ := b
 simp only [nmV,eqsV,cellsEq,cellEq,if_true,Bool.and_true]
 congr 1
 rw [Bool.eq_iff_iff]
 simp [Prod.ext_iff]
theorem nm_keyEq (a b : Nm) : keyEq true [.i,.i] (nmV a) (nmV b) = some (decide (a = b)) := nm_eqs a b
theorem load_nm {σ : Store} {i : Nat} {v : Nm} (h : σ[i]? = some (.cells (nmC v))) : loadV σ 2 true (.ptr i 0) = some (nmV v) := loadN_cells h rfl
theorem find_nm (v : Nm) : ∀ (H : Hp),∃ o : Option Nat,findK true [.i,.i] (nmV v) (H.map fun p => nmV p.1) = some o ∧ (match o with | some i => ∃ p,H[i]? = some p ∧ p.1 = v ∧ lk H v = some p.2 | none => lk H v = none)
 | [] => ⟨none,rfl,rfl⟩
 | p :: r => by
  obtain ⟨o,h1,h2⟩ := find_nm v r
  by_cases e : v = p.1
  ·refine ⟨some 0,?_,p,rfl,e.symm,?_⟩
   ·simp only [List.map_cons,findK,nm_keyEq,decide_eq_true e]
   ·simp [lk,e]
  ·have hk : lk (p :: r) v = lk r v := by simp only [lk]; rw [if_neg fun h => e h.symm]
   refine ⟨o.map (· + 1),?_,?_⟩
   ·simp only [List.map_cons,findK,nm_keyEq,decide_eq_false e,h1]
    cases o <;> rfl
   ·cases o with
    | none => simp only [Option.map_none]; rw [hk]; exact h2
    | some i =>
     obtain ⟨q,q1,q2,q3⟩ := h2
     simp only [Option.map_some]
     exact ⟨q,by simpa using q1,q2,by rw [hk]; exact q3⟩
abbrev Told (u : AVal) (t : List Cel) : Prop := ∀ σ' : Store,SlOf σ' 5 u (CC t)
theorem Told.nil : Told .nilslice [] := fun σ' => SlOf.nil σ' 5
structure HeapP (σ : Store) (id mid : Nat) (vs : List AVal) (H : Hp) : Prop where
 obj : σ[id]? = some (.cells [.map mid])
 map : σ[mid]? = some (.map (H.map fun p => nmV p.1) vs)
 vals : Two (fun u p => Told u p.2) vs H
 wf : WF H
theorem HeapP.keeps {σ σ' : Store} {id mid : Nat} {vs : List AVal} {H : Hp} (h : HeapP σ id mid vs H) {M : Nat → Prop} (hk : Keeps M σ σ') (h1 : ¬ M id) (h2 : ¬ M mid) : HeapP σ' id mid vs H :=
 ⟨hk.get h.obj h1,hk.get h.map h2,h.vals,h.wf⟩
theorem HeapP.grow {σ σ' : Store} {id mid : Nat} {vs : List AVal} {H : Hp} (h : HeapP σ id mid vs H) (hk : Grows σ σ') : HeapP σ' id mid vs H := h.keeps hk (fun h => h) (fun h => h)
theorem HeapP.look {σ : Store} {id mid : Nat} {vs : List AVal} {H : Hp} (h : HeapP σ id mid vs H) (v : Nm) :
  ∃ u,lookupV σ true [.i,.i] .nilslice (.map mid) (nmV v) true = some (.tuple [u,.bool (lk H v).isSome]) ∧ Told u ((lk H v).getD []) := by
 obtain ⟨o,h1,h2⟩ := find_nm v H
 have hk : keyEq true [.i,.i] (nmV v) (nmV v) = some true := by rw [nm_keyEq,decide_eq_true rfl]
 have hf : findKK true [.i,.i] (nmV v) (H.map fun p => nmV p.1) = some o := by simp only [findKK,hk,Option.isSome_some,if_true,h1]
 have hm : mapOf σ (.map mid) = some (H.map fun p => nmV p.1,vs) := by simp only [mapOf,h.map]
 cases o with
 | none =>
  refine ⟨.nilslice,?_,?_⟩
  ·simp only [lookupV,hm,hf,h2,Option.isSome_none,if_true]
  ·rw [h2]; exact Told.nil
 | some i =>
  obtain ⟨p,p1,p2,p3⟩ := h2
  obtain ⟨hi,hpe⟩ := List.getElem?_eq_some_iff.1 p1
  obtain ⟨u,u1,u2⟩ := h.vals.get hi
  refine ⟨u,?_,?_⟩
  ·simp only [lookupV,hm,hf,u1,Option.map_some,p3,Option.isSome_some,if_true]
  ·rw [p3]; rw [hpe] at u2; exact u2
theorem HeapP.set {σ : Store} {id mid : Nat} {vs : List AVal} {H : Hp} (h : HeapP σ id mid vs H) {v : Nm} {u : AVal} {t : List Cel} (hl : lk H v = none) (hu : Told u t) (hok : okB (v,t)) :
  ∃ σ',mapsetV σ true [.i,.i] (.map mid) (nmV v) u = some σ' ∧ HeapP σ' id mid (vs ++ [u]) (H ++ [(v,t)]) ∧ Keeps (fun i => i = mid) σ σ' := by
 obtain ⟨o,h1,h2⟩ := find_nm v H
 have hk : keyEq true [.i,.i] (nmV v) (nmV v) = some true := by rw [nm_keyEq,decide_eq_true rfl]
 have hf : findKK true [.i,.i] (nmV v) (H.map fun p => nmV p.1) = some o := by simp only [findKK,hk,Option.isSome_some,if_true,h1]
 have hmo := h.map
 have ho : o = none := by
  cases o with
  | none => rfl
  | some i => obtain ⟨p,_,_,p3⟩ := h2; rw [hl] at p3; cases p3
 subst ho
 have hne : id ≠ mid := fun e => by have h1 := h.obj; rw [e,h.map] at h1; cases h1
 refine ⟨σ.set mid (.map ((H.map fun p => nmV p.1) ++ [nmV v]) (vs ++ [u])),by simp only [mapsetV,hmo,hf],⟨?_,?_,h.vals.push hu,?_⟩,Keeps.set _ _ _⟩
 ·rw [List.getElem?_set_ne (fun e => hne e.symm)]; exact h.obj
 ·rw [get_set h.map]; simp
 ·have := h.wf.bind v t
  rwa [bindH,if_pos (bindE_of hok hl)] at this
def HeapV (σ : Store) (hv : AVal) (H : Hp) : Prop := (hv = .nilptr ∧ H = []) ∨ ∃ id mid vs,hv = .ptr id 0 ∧ HeapP σ id mid vs H
theorem HeapV.wf {σ : Store} {hv : AVal} {H : Hp} (h : HeapV σ hv H) : WF H := by
 rcases h with ⟨_,rfl⟩ | ⟨_,_,_,_,h⟩
 ·exact WF.nil
 ·exact h.wf
theorem HeapV.grow {σ σ' : Store} {hv : AVal} {H : Hp} (h : HeapV σ hv H) (g : Grows σ σ') : HeapV σ' hv H := by
 rcases h with h | ⟨id,mid,vs,e,h⟩
 ·exact .inl h
 ·exact .inr ⟨id,mid,vs,e,h.grow g⟩
theorem HeapP.v {σ : Store} {id mid : Nat} {vs : List AVal} {H : Hp} (h : HeapP σ id mid vs H) : HeapV σ (.ptr id 0) H := .inr ⟨id,mid,vs,rfl,h⟩
theorem frz_fs (σ : Store) (t n t' : Nat) (full : Bool) (sz : Nat) (es : List AVal) : frz σ t (n + 1) (.fslice t' full sz es) = match mapO (frz σ t n) es with
 | some es' => some (.fslice (max t' (AVal.tagL es')) full sz es')
 | none => none := rfl
theorem frz_sl (σ : Store) (t n sz id ep off len : Nat) (cap : Option Nat) : frz σ t (n + 1) (.slice sz id ep off len cap) = match σ[id]? with
 | some (.arr _ es _ fl) => if fl ≤ ep then
   match mapO (frz σ t n) ((es.drop off).take len) with
   | some es' => some (.fslice (max t (AVal.tagL es')) (cap == some len) sz es')
   | none => none
  else none
 | _ => none := rfl
theorem frz_cel (σ : Store) (t n : Nat) (c : Cel) : frz σ t (n + 2) c.val = some c.val := rfl
theorem mapO_cel (σ : Store) (t n : Nat) : ∀ l : List Cel,mapO (frz σ t (n + 2)) (CC l) = some (CC l)
 | [] => rfl
 | c :: l => by
  have ih := mapO_cel σ t n l
  simp only [List.map_cons,mapO,frz_cel] at ih ⊢
  rw [ih]
theorem tagL_cel : ∀ l : List Cel,AVal.tagL (CC l) = 0
 | [] => rfl
 | c :: l => by
  have ih := tagL_cel l
  simp only [List.map_cons,AVal.tagL] at ih ⊢
  rw [ih]; rfl
theorem frz_cells {σ : Store} {v : AVal} {t : List Cel} (h : SlOf σ 5 v (CC t)) (tg n : Nat) : ∃ v',frz σ tg (n + 3) v = some v' ∧ Told v' t := by
 rcases h.cases with ⟨rfl,he⟩ | ⟨t',full,rfl⟩ | ⟨id,ep,off,cap,sz',xs,epo,fl,rfl,ho,hf,he,_⟩
 ·have : t = [] := by simpa using he
  subst this
  exact ⟨.nilslice,rfl,Told.nil⟩
 ·refine ⟨.fslice (max t' 0) full 5 (CC t),?_,fun σ' => SlOf.fs _ _ _ _ _⟩
  rw [frz_fs,mapO_cel]
  simp only [tagL_cel]
 ·refine ⟨.fslice (max tg 0) (cap == some (CC t).length) 5 (CC t),?_,fun σ' => SlOf.fs _ _ _ _ _⟩
  rw [frz_sl,ho]
  simp only [hf,if_true,← he,mapO_cel,tagL_cel]
theorem frz_own {σ : Store} {v : AVal} {t : List Cel} (h : Own σ 5 v (CC t)) (hn : NoLit v) (ht : t ≠ []) (n : Nat) : ∃ v',frz σ 0 (n + 3) v = some v' ∧ Told v' t ∧ v'.tag = 0 := by
 rcases h.own with ⟨rfl,he⟩ | ⟨t',rfl⟩ | ⟨id,ep,off,cap,xs,epo,fl,rfl,ho,hf,he,_⟩
 ·exact absurd (by simpa using he) ht
 ·have : CC t = [] := hn
  exact absurd (by simpa using this) ht
 ·refine ⟨.fslice (max 0 0) (cap == some (CC t).length) 5 (CC t),?_,fun σ' => SlOf.fs _ _ _ _ _,rfl⟩
  rw [frz_sl,ho]
  simp only [hf,if_true,← he,mapO_cel,tagL_cel]
section
variable (d : Nat) (σ : Store)
theorem isoclone (b : AVal) (t : List Cel) (hs : t.length < 2 ^ 30) (ht : t ≠ []) (hb : SlOf σ 5 b (CC t)) {fr : List AVal} {K : List AVal → Store → AVal → Prop} {w : Wit K} (hk : ∀ u,Told u t → K fr σ u) : isoW CU.cfg d 82 [b] fr σ K w := by
 unfold isoW callP
 obtain ⟨b',e1,e2⟩ := frz_cells hb (d + 1) 13
 refine ⟨[b'],by simp only [frzFuel,mapO,e1],(cclone_ok (d + 1) [] b' t hs (e2 [])).mono ?_⟩
 rintro v σ1 ⟨_,ho,_,hn⟩
 obtain ⟨v',f1,f2,f3⟩ := frz_own ho hn ht 13
 exact ⟨v',f1,by omega,hk v' f2⟩
theorem less_ok (a b : Nm) : Called CU.cfg d 81 [nmV a,nmV b] σ fun v σ' => v = .bool (nless a b) ∧ Grows σ σ' := by
 refine called_of (fn := CU.a81) rfl (Nat.le_of_ble_eq_true rfl) ?_
 simp only [CU.a81, CU.o]
 simp -dsimp only [↓WPd,↓Zm,↓Zn,WPu,Za,Zb,Zc,Zd,Ze,Zf,Zg,Zh,Nat.reduceEqDiff,Nat.reduceLT,Zi,Zj,Zk,Zl,Nat.reduceBEq,nm_cells,nm_one]
 have g0 : Grows σ (σ ++ [AObj.cells (nmC a)] ++ [AObj.cells (nmC b)]) := Grows.trans (Grows.app _ _) (Grows.app _ _)
 have h1 : (σ ++ [AObj.cells (nmC a)] ++ [AObj.cells (nmC b)])[σ.length]? = some (.cells (nmC a)) := by simp
 have h2 : (σ ++ [AObj.cells (nmC a)] ++ [AObj.cells (nmC b)])[(σ ++ [AObj.cells (nmC a)]).length]? = some (.cells (nmC b)) := by simp
 generalize σ ++ [AObj.cells (nmC a)] ++ [AObj.cells (nmC b)] = σ1 at g0 h1 h2
 generalize (σ ++ [AObj.cells (nmC a)]).length = i2 at h2
 simp -dsimp only [↓WPd,↓Zm,↓Zn,WPu,Za,Zb,Zc,Zd,Ze,Zf,Zg,Zh,Nat.reduceEqDiff,Nat.reduceLT,Zi,Zj,Zk,Zl,Nat.reduceBEq,WPm,faddr_ptr,load_cells h1,load_cells h2,nm_g0,nm_g1]
 refine ⟨?_,g0⟩
 simp only [nless,int_beq]
theorem rless_ok (a b : Nm) : Called CU.cfg d 89 [nmV a,nmV b] σ fun v σ' => v = .bool (nless a b) ∧ Grows σ σ' := by
 refine called_of (fn := CU.a89) rfl (Nat.le_of_ble_eq_true rfl) ?_
 simp only [CU.a89, CU.o]
 simp -dsimp only [↓WPd,↓Zm,↓Zn,WPu,Za,Zb,Zc,Zd,Ze,Zf,Zg,Zh,Nat.reduceEqDiff,Nat.reduceLT,Zi,Zj,Zk,Zl,Nat.reduceBEq,nm_cells,nm_one]
 have g0 : Grows σ (σ ++ [AObj.cells (nmC a)] ++ [AObj.cells (nmC b)]) := Grows.trans (Grows.app _ _) (Grows.app _ _)
 have h1 : (σ ++ [AObj.cells (nmC a)] ++ [AObj.cells (nmC b)])[σ.length]? = some (.cells (nmC a)) := by simp
 have h2 : (σ ++ [AObj.cells (nmC a)] ++ [AObj.cells (nmC b)])[(σ ++ [AObj.cells (nmC a)]).length]? = some (.cells (nmC b)) := by simp
 generalize σ ++ [AObj.cells (nmC a)] ++ [AObj.cells (nmC b)] = σ1 at g0 h1 h2
 generalize (σ ++ [AObj.cells (nmC a)]).length = i2 at h2
 simp -dsimp only [↓WPd,↓Zm,↓Zn,WPu,Za,Zb,Zc,Zd,Ze,Zf,Zg,Zh,Nat.reduceEqDiff,Nat.reduceLT,Zi,Zj,Zk,Zl,Nat.reduceBEq,WPm,faddr_ptr,load_cells h1,load_cells h2,nm_g0,nm_g1]
 refine ⟨?_,g0⟩
 simp only [nless,int_beq]
end
def Small (t : List Cel) : Prop := t.length < 2 ^ 30 ∧ ∀ c ∈ t,c.k < 256 ∧ c.s.length < 2 ^ 40
theorem isName_len {s : List UInt8} (h : isName s = true) : s.length ≤ 16 := by
 cases s with
 | nil => simp [isName] at h
 | cons c r => simp only [isName,Bool.and_eq_true,decide_eq_true_eq] at h; simp; omega
theorem ok_small {c : Cel} (h : c.ok = true) : c.k < 256 ∧ c.s.length < 2 ^ 40 := by
 unfold Cel.ok at h
 split at h
 ·rename_i hk; simp only [Bool.and_eq_true,decide_eq_true_eq] at h; rw [h.1.1.1]; simp; omega
 ·split at h
  ·simp only [Bool.and_eq_true] at h; have := isName_len h.1.1; omega
  ·split at h
   ·rename_i hk
    simp only [Bool.and_eq_true,Bool.or_eq_true] at h
    rcases h.2 with h | h
    ·have := isName_len h.1.1; omega
    ·have hm : c.s ∈ signsL := by simpa using h.1
     have : ∀ s ∈ signsL,s.length ≤ 3 := by decide
     have := this _ hm; omega
   ·split at h
    ·rename_i hk; simp only [Bool.and_eq_true,decide_eq_true_eq] at h; rw [h.1.1.1.1]; simp; omega
    ·cases h
theorem right_small {t : List Cel} (h : right t = true) : Small t := ⟨by have := right_len h; omega,fun c hc => ok_small (right_ok_mem h hc)⟩
section
variable (d : Nat) (σ : Store)
theorem globc_ok (c : Cel) : Called CU.cfg d 127 [c.val] σ fun v σ' => v = .bool (decide (c.k = 4) && decide (c.v.1 = -1)) ∧ Grows σ σ' := by
 refine called_of (fn := CU.a127) rfl (Nat.le_of_ble_eq_true rfl) ?_
 simp only [CU.a127, CU.o]
 simp -dsimp only [↓WPd,↓Zm,↓Zn,WPu,Za,Zb,Zc,Zd,Ze,Zf,Zg,Zh,Nat.reduceEqDiff,Nat.reduceLT,Zi,Zj,Zk,Zl,Nat.reduceBEq,Cel.cells,Cel.one]
 have ho : (σ ++ [AObj.cells c.cs])[σ.length]? = some (.cells c.cs) := by simp
 have g0 : Grows σ (σ ++ [AObj.cells c.cs]) := Grows.app _ _
 generalize σ ++ [AObj.cells c.cs] = σ1 at ho g0
 have key : ((c.k : Int) == 4) = decide (c.k = 4) := by by_cases h : c.k = 4 <;> simp [h] <;> omega
 simp -dsimp only [↓WPd,↓Zm,↓Zn,WPu,Za,Zb,Zc,Zd,Ze,Zf,Zg,Zh,Nat.reduceEqDiff,Nat.reduceLT,Zi,Zj,Zk,Zl,Nat.reduceBEq,WPm,faddr_ptr,load_cells ho,Cel.g0,Cel.g3,key,int_beq,Nat.add_zero]
 exact g0
theorem global_ok (l : AVal) (t : List Cel) (hs : Small t) (hl : SlOf σ 5 l (CC t)) : Called CU.cfg d 79 [l] σ fun v σ' => v = .bool (glob t) ∧ Grows σ σ' := by
 refine called_of (fn := CU.a79) rfl (Nat.le_of_ble_eq_true rfl) ?_
 simp only [CU.a79, CU.o]
 simp -dsimp only [↓WPd,↓Zm,↓Zn,WPu,Za,Zb,Zc,Zd,Ze,Zf,Zg,Zh,Nat.reduceEqDiff,Nat.reduceLT,Zi,Zj,Zk,Zl,Nat.reduceBEq,WPm]
 refine calledW_of (right_ok d σ l t hs.1 hs.2 hl) ?_
 rintro v σ1 ⟨rfl,g1⟩
 have hl1 := hl.grow g1
 rw [glob_eq]
 cases hr : right t with
 | false =>
  simp -dsimp only [↓WPd,↓Zm,↓Zn,WPu,Za,Zb,Zc,Zd,Ze,Zf,Zg,Zh,Nat.reduceEqDiff,Nat.reduceLT,Zi,Zj,Zk,Zl,Nat.reduceBEq,WPm]
  exact ⟨by simp,g1⟩
 | true =>
  simp -dsimp only [↓WPd,↓Zm,↓Zn,WPu,Za,Zb,Zc,Zd,Ze,Zf,Zg,Zh,Nat.reduceEqDiff,Nat.reduceLT,Zi,Zj,Zk,Zl,Nat.reduceBEq,WPm]
  refine calledW_of (ccontains_ok d σ1 127 (fun c => decide (c.k = 4) && decide (c.v.1 = -1)) l t (by have := hs.1; omega) hl1 (fun c σ' _ => globc_ok d σ' c)) ?_
  rintro v σ2 ⟨rfl,g2⟩
  simp -dsimp only [↓WPd,↓Zm,↓Zn,WPu,Za,Zb,Zc,Zd,Ze,Zf,Zg,Zh,Nat.reduceEqDiff,Nat.reduceLT,Zi,Zj,Zk,Zl,Nat.reduceBEq,WPm]
  exact ⟨by simp,g1.trans g2⟩
theorem rglobal_ok (l : AVal) (t : List Cel) (hs : t.length < 2 ^ 30) (hl : SlOf σ 5 l (CC t)) : Called CU.cfg d 87 [l] σ fun v σ' => v = .bool (glob t) ∧ Grows σ σ' := by
 refine called_of (fn := CU.a87) rfl (Nat.le_of_ble_eq_true rfl) ?_
 simp only [CU.a87, CU.o]
 simp -dsimp only [↓WPd,↓Zm,↓Zn,WPu,Za,Zb,Zc,Zd,Ze,Zf,Zg,Zh,Nat.reduceEqDiff,Nat.reduceLT,Zi,Zj,Zk,Zl,Nat.reduceBEq,WPm]
 refine calledW_of (rright_ok d σ l t hs hl) ?_
 rintro v σ1 ⟨rfl,g1⟩
 have hl1 := hl.grow g1
 have ll := hl1.len
 rw [List.length_map] at ll
 unfold glob
 cases hr : right t with
 | false =>
  simp -dsimp only [↓WPd,↓Zm,↓Zn,WPu,Za,Zb,Zc,Zd,Ze,Zf,Zg,Zh,Nat.reduceEqDiff,Nat.reduceLT,Zi,Zj,Zk,Zl,Nat.reduceBEq,WPm]
  exact ⟨by simp,g1⟩
 | true =>
  simp -dsimp only [↓WPd,↓Zm,↓Zn,WPu,Za,Zb,Zc,Zd,Ze,Zf,Zg,Zh,Nat.reduceEqDiff,Nat.reduceLT,Zi,Zj,Zk,Zl,Nat.reduceBEq,WPm,Bool.true_and]
  refine loop_rule (fun m vs σ' => ∃ k : Nat,k ≤ t.length ∧ m = t.length - k ∧ vs = [l,.int .i64 k] ∧ σ' = σ1 ∧ ((t.take k).all fun c => !(decide (c.k = 4) && decide (c.v.1 < 0))) = true) t.length ⟨0,Nat.zero_le _,rfl,?_,rfl,rfl⟩ ?_
  ·simp -dsimp only [↓WPd,↓Zm,↓Zn,WPu,Za,Zb,Zc,Zd,Ze,Zf,Zg,Zh,Nat.reduceEqDiff,Nat.reduceLT,Zi,Zj,Zk,Zl,Nat.reduceBEq]; rfl
  ·rintro m vs σ' ⟨k,hk,rfl,rfl,rfl,ha⟩
   simp -dsimp only [↓WPd,↓Zm,↓Zn,WPu,Za,Zb,Zc,Zd,Ze,Zf,Zg,Zh,Nat.reduceEqDiff,Nat.reduceLT,Zi,Zj,Zk,Zl,Nat.reduceBEq,ll]
   refine condP_dec (fun h => ?_) (fun h => ?_)
   ·have hk' : k < t.length := by omega
    have hi : k < (CC t).length := by rw [List.length_map]; exact hk'
    have hb := (hl1.addr hi .i64).2
    rw [cel_get] at hb
    obtain ⟨q0,p0,r0⟩ := faddr_load hb 0
    obtain ⟨q3,p3,b3⟩ := faddr_at hb 3
    obtain ⟨q4,p4,b4⟩ := faddr_at b3 0
    have r4 := load_at b4
    have r0' : loadV σ' 1 false q0 = some (.int .u8 (t[k]).k) := r0
    have r4' : loadV σ' 1 false q4 = some (.int .i64 (t[k]).v.1) := r4
    have ia := hl1.iaddr hi .i64
    have key : (((t[k]).k : Int) == 4) = decide ((t[k]).k = 4) := by by_cases h : (t[k]).k = 4 <;> simp [h] <;> omega
    have ht : t.take (k + 1) = t.take k ++ [t[k]] := List.take_succ_eq_append_getElem hk'
    simp -dsimp only [↓WPd,↓Zm,↓Zn,WPu,Za,Zb,Zc,Zd,Ze,Zf,Zg,Zh,Nat.reduceEqDiff,Nat.reduceLT,Zi,Zj,Zk,Zl,Nat.reduceBEq,WPm,ia,p0,r0',p3,p4,r4',key]
    refine condP_intro (fun h => ?_) (fun h => ?_)
    ·simp -dsimp only [↓WPd,↓Zm,↓Zn,WPu,Za,Zb,Zc,Zd,Ze,Zf,Zg,Zh,Nat.reduceEqDiff,Nat.reduceLT,Zi,Zj,Zk,Zl,Nat.reduceBEq]
     have : (t.all fun c => !(decide (c.k = 4) && decide (c.v.1 < 0))) = false := by
      rw [List.all_eq_false]
      exact ⟨t[k],List.getElem_mem hk',by simp only [h,Bool.not_true]; simp⟩
     rw [this]
     exact ⟨rfl,g1⟩
    ·simp -dsimp only [↓WPd,↓Zm,↓Zn,WPu,Za,Zb,Zc,Zd,Ze,Zf,Zg,Zh,Nat.reduceEqDiff,Nat.reduceLT,Zi,Zj,Zk,Zl,Nat.reduceBEq]
     refine ⟨t.length - (k + 1),by omega,k + 1,by omega,rfl,?_,?_⟩
     ·rw [wrap_i64 (by omega) (by omega),Int.natCast_add,Int.natCast_one]
     ·rw [ht,List.all_append,ha]; simp only [List.all_cons,List.all_nil,h]; rfl
   ·simp -dsimp only [↓WPd,↓Zm,↓Zn,WPu,Za,Zb,Zc,Zd,Ze,Zf,Zg,Zh,Nat.reduceEqDiff,Nat.reduceLT,Zi,Zj,Zk,Zl,Nat.reduceBEq]
    have : k = t.length := by omega
    subst this
    rw [List.take_length] at ha
    rw [ha]
    exact ⟨rfl,g1⟩
end
def varT (v : Nm) : List Cel := if okVar v then [vCel v] else []
theorem vcel_build (v : Nm) : fillA [AVal.int IntKind.u8 0,AVal.str [],AVal.int IntKind.i64 0,AVal.int IntKind.i64 0,AVal.int IntKind.i64 0] [(0,1,AVal.int IntKind.u8 4),(3,2,nmV v)] = some (vCel v).cs := rfl
theorem cel_lit (c : Cel) : fillL 5 true (List.replicate 1 (zel [AVal.int IntKind.u8 0,AVal.str [],AVal.int IntKind.i64 0,AVal.int IntKind.i64 0,AVal.int IntKind.i64 0] true)) [(0,c.val)] = some [c.val] := rfl
theorem Told.lit (tg : Nat) (full : Bool) (t : List Cel) : Told (.fslice tg full 5 (CC t)) t := fun σ' => SlOf.fs _ _ _ _ _
section
variable (d : Nat) (σ : Store)
theorem single_ok (c : Cel) (hk : c.k < 256 ∧ c.s.length < 2 ^ 40) : Called CU.cfg d 155 [c.val] σ fun r σ' => Told r (if right [c] then [c] else []) ∧ Grows σ σ' := by
 refine called_of (fn := CU.a155) rfl (Nat.le_of_ble_eq_true rfl) ?_
 simp only [CU.a155, CU.o]
 simp -dsimp only [↓WPd,↓Zm,↓Zn,WPu,Za,Zb,Zc,Zd,Ze,Zf,Zg,Zh,Nat.reduceEqDiff,Nat.reduceLT,Zi,Zj,Zk,Zl,Nat.reduceBEq,Cel.cells,Cel.one]
 have ho : (σ ++ [AObj.cells c.cs])[σ.length]? = some (.cells c.cs) := by simp
 have g0 : Grows σ (σ ++ [AObj.cells c.cs]) := Grows.app _ _
 generalize σ ++ [AObj.cells c.cs] = σ1 at ho g0
 generalize σ.length = i1 at ho
 simp -dsimp only [↓WPd,↓Zm,↓Zn,WPu,Za,Zb,Zc,Zd,Ze,Zf,Zg,Zh,Nat.reduceEqDiff,Nat.reduceLT,Zi,Zj,Zk,Zl,Nat.reduceBEq,cell_load ho,cel_lit]
 refine calledW_of (right_ok d σ1 _ [c] (by simp) (fun x hx => by simp at hx; subst hx; exact hk) (SlOf.fs σ1 5 _ _ _)) ?_
 rintro v σ2 ⟨rfl,g2⟩
 cases hr : right [c] with
 | false =>
  simp -dsimp only [↓WPd,↓Zm,↓Zn,WPu,Za,Zb,Zc,Zd,Ze,Zf,Zg,Zh,Nat.reduceEqDiff,Nat.reduceLT,Zi,Zj,Zk,Zl,Nat.reduceBEq]
  exact ⟨Told.nil,g0.trans g2⟩
 | true =>
  simp -dsimp only [↓WPd,↓Zm,↓Zn,WPu,Za,Zb,Zc,Zd,Ze,Zf,Zg,Zh,Nat.reduceEqDiff,Nat.reduceLT,Zi,Zj,Zk,Zl,Nat.reduceBEq]
  exact ⟨Told.lit _ _ [c],g0.trans g2⟩
theorem ofvar_ok (v : Nm) : Called CU.cfg d 112 [nmV v] σ fun r σ' => Told r (varT v) ∧ Grows σ σ' := by
 refine called_of (fn := CU.a112) rfl (Nat.le_of_ble_eq_true rfl) ?_
 simp only [CU.a112, CU.o]
 simp -dsimp only [↓WPd,↓Zm,↓Zn,WPu,Za,Zb,Zc,Zd,Ze,Zf,Zg,Zh,Nat.reduceEqDiff,Nat.reduceLT,Zi,Zj,Zk,Zl,Nat.reduceBEq,nm_cells,nm_one]
 have ho : (σ ++ [AObj.cells (nmC v)])[σ.length]? = some (.cells (nmC v)) := by simp
 have g0 : Grows σ (σ ++ [AObj.cells (nmC v)]) := Grows.app _ _
 generalize σ ++ [AObj.cells (nmC v)] = σ1 at ho g0
 generalize σ.length = i1 at ho
 simp -dsimp only [↓WPd,↓Zm,↓Zn,WPu,Za,Zb,Zc,Zd,Ze,Zf,Zg,Zh,Nat.reduceEqDiff,Nat.reduceLT,Zi,Zj,Zk,Zl,Nat.reduceBEq,load_nm ho,vcel_build]
 refine calledW_of (single_ok d σ1 (vCel v) ⟨by simp [vCel],by simp [vCel]⟩) ?_
 rintro r σ2 ⟨h,g2⟩
 simp -dsimp only [↓WPd,↓Zm,↓Zn,WPu,Za,Zb,Zc,Zd,Ze,Zf,Zg,Zh,Nat.reduceEqDiff,Nat.reduceLT,Zi,Zj,Zk,Zl,Nat.reduceBEq]
 rw [right_var] at h
 exact ⟨h,g0.trans g2⟩
theorem rone_ok (c : Cel) : Called CU.cfg d 156 [c.val] σ fun r σ' => Told r (if c.ok then [c] else []) ∧ Grows σ σ' := by
 refine called_of (fn := CU.a156) rfl (Nat.le_of_ble_eq_true rfl) ?_
 simp only [CU.a156, CU.o]
 simp -dsimp only [↓WPd,↓Zm,↓Zn,WPu,Za,Zb,Zc,Zd,Ze,Zf,Zg,Zh,Nat.reduceEqDiff,Nat.reduceLT,Zi,Zj,Zk,Zl,Nat.reduceBEq,Cel.cells,Cel.one]
 have ho : (σ ++ [AObj.cells c.cs])[σ.length]? = some (.cells c.cs) := by simp
 have g0 : Grows σ (σ ++ [AObj.cells c.cs]) := Grows.app _ _
 generalize σ ++ [AObj.cells c.cs] = σ1 at ho g0
 generalize σ.length = i1 at ho
 simp -dsimp only [↓WPd,↓Zm,↓Zn,WPu,Za,Zb,Zc,Zd,Ze,Zf,Zg,Zh,Nat.reduceEqDiff,Nat.reduceLT,Zi,Zj,Zk,Zl,Nat.reduceBEq,cell_load ho]
 refine calledW_of (cell_ok d σ1 c) ?_
 rintro v σ2 ⟨rfl,g2⟩
 have ho2 := g2.get ho
 cases hr : c.ok with
 | false =>
  simp -dsimp only [↓WPd,↓Zm,↓Zn,WPu,Za,Zb,Zc,Zd,Ze,Zf,Zg,Zh,Nat.reduceEqDiff,Nat.reduceLT,Zi,Zj,Zk,Zl,Nat.reduceBEq]
  exact ⟨Told.nil,g0.trans g2⟩
 | true =>
  simp -dsimp only [↓WPd,↓Zm,↓Zn,WPu,Za,Zb,Zc,Zd,Ze,Zf,Zg,Zh,Nat.reduceEqDiff,Nat.reduceLT,Zi,Zj,Zk,Zl,Nat.reduceBEq,cell_load ho2,cel_lit]
  exact ⟨Told.lit _ _ [c],g0.trans g2⟩
theorem rofvar_ok (v : Nm) : Called CU.cfg d 113 [nmV v] σ fun r σ' => Told r (varT v) ∧ Grows σ σ' := by
 refine called_of (fn := CU.a113) rfl (Nat.le_of_ble_eq_true rfl) ?_
 simp only [CU.a113, CU.o]
 simp -dsimp only [↓WPd,↓Zm,↓Zn,WPu,Za,Zb,Zc,Zd,Ze,Zf,Zg,Zh,Nat.reduceEqDiff,Nat.reduceLT,Zi,Zj,Zk,Zl,Nat.reduceBEq,nm_cells,nm_one]
 have ho : (σ ++ [AObj.cells (nmC v)])[σ.length]? = some (.cells (nmC v)) := by simp
 have g0 : Grows σ (σ ++ [AObj.cells (nmC v)]) := Grows.app _ _
 generalize σ ++ [AObj.cells (nmC v)] = σ1 at ho g0
 generalize σ.length = i1 at ho
 simp -dsimp only [↓WPd,↓Zm,↓Zn,WPu,Za,Zb,Zc,Zd,Ze,Zf,Zg,Zh,Nat.reduceEqDiff,Nat.reduceLT,Zi,Zj,Zk,Zl,Nat.reduceBEq,load_nm ho,vcel_build]
 refine calledW_of (rone_ok d σ1 (vCel v)) ?_
 rintro r σ2 ⟨h,g2⟩
 simp -dsimp only [↓WPd,↓Zm,↓Zn,WPu,Za,Zb,Zc,Zd,Ze,Zf,Zg,Zh,Nat.reduceEqDiff,Nat.reduceLT,Zi,Zj,Zk,Zl,Nat.reduceBEq]
 exact ⟨h,g0.trans g2⟩
theorem hnew_ok : Called CU.cfg d 55 [] σ fun r σ' => ∃ id mid,r = .ptr id 0 ∧ HeapP σ' id mid [] [] ∧ Grows σ σ' ∧ id < σ'.length ∧ mid < σ'.length ∧ σ.length ≤ id ∧ σ.length ≤ mid := by
 refine called_of (fn := CU.a55) rfl (Nat.le_of_ble_eq_true rfl) ?_
 have e1 : fillA [AVal.nilmap] [(0,1,AVal.map σ.length)] = some [AVal.map σ.length] := rfl
 have e2 : [AVal.map σ.length].all AVal.one = true := rfl
 simp only [CU.a55, CU.o]
 simp -dsimp only [↓WPd,↓Zm,↓Zn,WPu,Za,Zb,Zc,Zd,Ze,Zf,Zg,Zh,Nat.reduceEqDiff,Nat.reduceLT,Zi,Zj,Zk,Zl,Nat.reduceBEq,e1,e2,cells_agg]
 refine ⟨_,σ.length,rfl,⟨by simp,?_,.nil,WF.nil⟩,Grows.trans (Grows.app _ _) (Grows.app _ _),by simp,by simp,by simp,Nat.le_refl _⟩
 simp
theorem value_ok (hv : AVal) (H : Hp) (v : Nm) (h : HeapV σ hv H) : Called CU.cfg d 159 [hv,nmV v] σ fun r σ' => ∃ u,r = .tuple [u,.bool (lk H v).isSome] ∧ Told u ((lk H v).getD []) ∧ Grows σ σ' := by
 refine called_of (fn := CU.a159) rfl (Nat.le_of_ble_eq_true rfl) ?_
 simp only [CU.a159, CU.o]
 simp -dsimp only [↓WPd,↓Zm,↓Zn,WPu,Za,Zb,Zc,Zd,Ze,Zf,Zg,Zh,Nat.reduceEqDiff,Nat.reduceLT,Zi,Zj,Zk,Zl,Nat.reduceBEq,nm_cells,nm_one]
 have ho : (σ ++ [AObj.cells (nmC v)])[σ.length]? = some (.cells (nmC v)) := by simp
 have g0 : Grows σ (σ ++ [AObj.cells (nmC v)]) := Grows.app _ _
 have h1 := h.grow g0
 generalize σ ++ [AObj.cells (nmC v)] = σ1 at ho g0 h1
 generalize σ.length = i1 at ho
 rcases h1 with ⟨rfl,rfl⟩ | ⟨id,mid,vs,rfl,hp⟩
 ·have e : isNil .p .nilptr = some true := rfl
  simp -dsimp only [↓WPd,↓Zm,↓Zn,WPu,Za,Zb,Zc,Zd,Ze,Zf,Zg,Zh,Nat.reduceEqDiff,Nat.reduceLT,Zi,Zj,Zk,Zl,Nat.reduceBEq,e]
  exact ⟨.nilslice,rfl,Told.nil,g0⟩
 ·obtain ⟨u,l1,l2⟩ := hp.look v
  have e0 : ([AVal.map mid] : List AVal)[0]? = some (.map mid) := rfl
  simp -dsimp only [↓WPd,↓Zm,↓Zn,WPu,Za,Zb,Zc,Zd,Ze,Zf,Zg,Zh,Nat.reduceEqDiff,Nat.reduceLT,Zi,Zj,Zk,Zl,Nat.reduceBEq,isnil_ptr,faddr_ptr,Nat.add_zero,load_cells hp.obj,e0,load_nm ho,l1,List.getElem?_cons_zero,List.getElem?_cons_succ]
  exact ⟨u,rfl,l2,g0⟩
theorem hbind_ok (id mid : Nat) (vs : List AVal) (H : Hp) (v : Nm) (tv : AVal) (t : List Cel) (h : HeapP σ id mid vs H) (hs : Small t) (ht : SlOf σ 5 tv (CC t)) :
  Called CU.cfg d 57 [.ptr id 0,nmV v,tv] σ fun r σ' => r = .int .i64 (bindE H v t) ∧ (∃ vs',HeapP σ' id mid vs' (bindH H v t)) ∧ Keeps (fun i => i = mid) σ σ' := by
 refine called_of (fn := CU.a57) rfl (Nat.le_of_ble_eq_true rfl) ?_
 simp only [CU.a57, CU.o]
 simp -dsimp only [↓WPd,↓Zm,↓Zn,WPu,Za,Zb,Zc,Zd,Ze,Zf,Zg,Zh,Nat.reduceEqDiff,Nat.reduceLT,Zi,Zj,Zk,Zl,Nat.reduceBEq,nm_cells,nm_one]
 have ho : (σ ++ [AObj.cells (nmC v)])[σ.length]? = some (.cells (nmC v)) := by simp
 have g0 : Grows σ (σ ++ [AObj.cells (nmC v)]) := Grows.app _ _
 have h1 := h.grow g0
 have ht1 := ht.grow g0
 have hlt : id < σ.length ∧ mid < σ.length := ⟨(List.getElem?_eq_some_iff.1 h.obj).1,(List.getElem?_eq_some_iff.1 h.map).1⟩
 generalize σ ++ [AObj.cells (nmC v)] = σ1 at ho g0 h1 ht1
 have hi1 : σ.length ≠ mid := by omega
 generalize hq : σ.length = i1 at ho hi1
 simp -dsimp only [↓WPd,↓Zm,↓Zn,WPu,Za,Zb,Zc,Zd,Ze,Zf,Zg,Zh,Nat.reduceEqDiff,Nat.reduceLT,Zi,Zj,Zk,Zl,Nat.reduceBEq,WPm,isnil_ptr,faddr_ptr,Nat.add_zero,load_cells ho,nm_g0,load_nm ho]
 have fin : ∀ {σ' : Store} {e : Int},Grows σ σ' → bindE H v t = e → e ≠ 0 → AVal.int .i64 e = .int .i64 (bindE H v t) ∧ (∃ vs',HeapP σ' id mid vs' (bindH H v t)) ∧ Keeps (fun i => i = mid) σ σ' := fun g e1 e2 => ⟨by rw [e1],⟨vs,by rw [bindH,if_neg (by rw [e1]; exact e2)]; exact h.grow g⟩,g.any⟩
 cases hn : decide (v.1 < 0) with
 | true =>
  simp -dsimp only [↓WPd,↓Zm,↓Zn,WPu,Za,Zb,Zc,Zd,Ze,Zf,Zg,Zh,Nat.reduceEqDiff,Nat.reduceLT,Zi,Zj,Zk,Zl,Nat.reduceBEq,WPm]
  exact fin (e := 6) g0 (by unfold bindE; rw [hn]; rfl) (by decide)
 | false =>
  simp -dsimp only [↓WPd,↓Zm,↓Zn,WPu,Za,Zb,Zc,Zd,Ze,Zf,Zg,Zh,Nat.reduceEqDiff,Nat.reduceLT,Zi,Zj,Zk,Zl,Nat.reduceBEq,WPm]
  refine calledW_of (ofvar_ok d σ1 v) ?_
  rintro r σ2 ⟨hr,g2⟩
  have lr : lenSV r = some (CC (varT v)).length := (hr σ2).len
  have h2 := h1.grow g2
  have ht2 := ht1.grow g2
  have ho2 := g2.get ho
  cases hov : okVar v with
  | false =>
   have lr' : lenSV r = some 0 := by rw [lr]; simp [varT,hov]
   have e0 : (((0 : Nat) : Int) == 0) = true := rfl
   simp -dsimp only [↓WPd,↓Zm,↓Zn,WPu,Za,Zb,Zc,Zd,Ze,Zf,Zg,Zh,Nat.reduceEqDiff,Nat.reduceLT,Zi,Zj,Zk,Zl,Nat.reduceBEq,WPm,lr',e0]
   exact fin (e := 6) (g0.trans g2) (by unfold bindE; rw [hn,hov]; rfl) (by decide)
  | true =>
   have lr' : lenSV r = some 1 := by rw [lr]; simp [varT,hov]
   have e0 : (((1 : Nat) : Int) == 0) = false := rfl
   simp -dsimp only [↓WPd,↓Zm,↓Zn,WPu,Za,Zb,Zc,Zd,Ze,Zf,Zg,Zh,Nat.reduceEqDiff,Nat.reduceLT,Zi,Zj,Zk,Zl,Nat.reduceBEq,WPm,lr',e0]
   refine calledW_of (global_ok d σ2 tv t hs ht2) ?_
   rintro r3 σ3 ⟨rfl,g3⟩
   have h3 := h2.grow g3
   have ht3 := ht2.grow g3
   have ho3 := g3.get ho2
   have g03 := (g0.trans g2).trans g3
   cases hg : glob t with
   | false =>
    simp -dsimp only [↓WPd,↓Zm,↓Zn,WPu,Za,Zb,Zc,Zd,Ze,Zf,Zg,Zh,Nat.reduceEqDiff,Nat.reduceLT,Zi,Zj,Zk,Zl,Nat.reduceBEq,WPm]
    exact fin (e := 6) g03 (by unfold bindE; rw [hn,hov,hg]; rfl) (by decide)
   | true =>
    obtain ⟨u,l1,l2⟩ := h3.look v
    have e1 : ([AVal.map mid] : List AVal)[0]? = some (.map mid) := rfl
    simp -dsimp only [↓WPd,↓Zm,↓Zn,WPu,Za,Zb,Zc,Zd,Ze,Zf,Zg,Zh,Nat.reduceEqDiff,Nat.reduceLT,Zi,Zj,Zk,Zl,Nat.reduceBEq,WPm,isnil_ptr,faddr_ptr,Nat.add_zero,load_cells h3.obj,e1,load_nm ho3,l1,List.getElem?_cons_zero,List.getElem?_cons_succ]
    cases hl : (lk H v).isSome with
    | true =>
     simp -dsimp only [↓WPd,↓Zm,↓Zn,WPu,Za,Zb,Zc,Zd,Ze,Zf,Zg,Zh,Nat.reduceEqDiff,Nat.reduceLT,Zi,Zj,Zk,Zl,Nat.reduceBEq]
     exact fin (e := 70) g03 (by unfold bindE; rw [hn,hov,hg,hl]; rfl) (by decide)
    | false =>
     have hl' : lk H v = none := by simpa using hl
     obtain ⟨c,s,rfl⟩ : ∃ c s,t = c :: s := List.exists_cons_of_ne_nil (right_ne (glob_right hg))
     have hi0 : 0 < (CC (c :: s)).length := by simp
     have hb := (ht3.addr hi0 .i64).2
     rw [cel_get] at hb
     have hb' : behind σ3 (addrOf 5 tv 0) = some (c.cs,0) := hb
     obtain ⟨q0,p0,b0⟩ := faddr_at hb' 0
     obtain ⟨q3,p3,b3⟩ := faddr_at hb' 3
     have r0 : loadV σ3 1 false q0 = some (.int .u8 c.k) := load_at b0
     have r3 : loadV σ3 2 true q3 = some (nmV c.v) := loadN_at b3 (by simp [Cel.cs])
     have ia : iaddrV 5 tv (.int .i64 0) = some (addrOf 5 tv 0) := ht3.iaddr hi0 .i64
     have k4 : ((c.k : Int) == 4) = decide (c.k = 4) := by by_cases h : c.k = 4 <;> simp [h] <;> omega
     have last : ∀ {σ4 : Store},Grows σ3 σ4 → okB (v,c :: s) → ∀ (K : List AVal → Store → AVal → Prop) (fr : List AVal) (w : Wit K),(∀ u σ5,mapsetV σ4 true [.i,.i] (.map mid) (nmV v) u = some σ5 → (∃ vs',HeapP σ5 id mid vs' (bindH H v (c :: s))) → Keeps (fun i => i = mid) σ4 σ5 → K fr σ4 u) → isoW CU.cfg d 82 [tv] fr σ4 K w := by
      intro σ4 g4 hok K fr w hk
      refine isoclone d σ4 tv (c :: s) hs.1 (by simp) (ht3.grow g4) (fun u hu => ?_)
      obtain ⟨σ5,m1,m2,m3⟩ := (h3.grow g4).set hl' hu hok
      exact hk u σ5 m1 ⟨vs ++ [u],by rw [bindH,if_pos (bindE_of hok hl')]; exact m2⟩ m3
     have okb : (c.k = 4 → nless c.v v = true) → okB (v,c :: s) := fun h => ⟨by simp only [decide_eq_false_iff_not] at hn; simp only; omega,hov,hg,h⟩
     have fin2 : ∀ {σ4 σ5 : Store},Grows σ3 σ4 → okB (v,c :: s) → (∃ vs',HeapP σ5 id mid vs' (bindH H v (c :: s))) → Keeps (fun i => i = mid) σ4 σ5 → AVal.int .i64 0 = .int .i64 (bindE H v (c :: s)) ∧ (∃ vs',HeapP σ5 id mid vs' (bindH H v (c :: s))) ∧ Keeps (fun i => i = mid) σ σ5 :=
      fun g4 hok hh k => ⟨by rw [bindE_of hok hl'],hh,Keeps.trans (g03.trans g4).any k fun _ _ h => h⟩
     simp -dsimp only [↓WPd,↓Zm,↓Zn,WPu,Za,Zb,Zc,Zd,Ze,Zf,Zg,Zh,Nat.reduceEqDiff,Nat.reduceLT,Zi,Zj,Zk,Zl,Nat.reduceBEq,WPm,ia,p0,r0,k4]
     cases hk4 : decide (c.k = 4) with
     | true =>
      simp -dsimp only [↓WPd,↓Zm,↓Zn,WPu,Za,Zb,Zc,Zd,Ze,Zf,Zg,Zh,Nat.reduceEqDiff,Nat.reduceLT,Zi,Zj,Zk,Zl,Nat.reduceBEq,WPm,ia,p3,r3,load_nm ho3]
      refine calledW_of (less_ok d σ3 c.v v) ?_
      rintro r4 σ4 ⟨rfl,g4⟩
      have h4 := h3.grow g4
      have ho4 := g4.get ho3
      cases hless : nless c.v v with
      | false =>
       simp -dsimp only [↓WPd,↓Zm,↓Zn,WPu,Za,Zb,Zc,Zd,Ze,Zf,Zg,Zh,Nat.reduceEqDiff,Nat.reduceLT,Zi,Zj,Zk,Zl,Nat.reduceBEq,WPm]
       exact fin (e := 71) (g03.trans g4) (by
        have e : (decide (((c :: s).headD default).k = 4) && !nless ((c :: s).headD default).v v) = true := by
         show (decide (c.k = 4) && !nless c.v v) = true
         rw [hless,hk4]; rfl
        unfold bindE; rw [hn,hov,hg,hl,e]; rfl) (by decide)
      | true =>
       have hok := okb fun _ => hless
       simp -dsimp only [↓WPd,↓Zm,↓Zn,WPu,Za,Zb,Zc,Zd,Ze,Zf,Zg,Zh,Nat.reduceEqDiff,Nat.reduceLT,Zi,Zj,Zk,Zl,Nat.reduceBEq,WPm,isnil_ptr,faddr_ptr,Nat.add_zero,load_cells h4.obj,e1,load_nm ho4]
       refine last g4 hok _ _ _ fun u σ5 m1 m2 m3 => ?_
       simp -dsimp only [↓WPd,↓Zm,↓Zn,WPu,Za,Zb,Zc,Zd,Ze,Zf,Zg,Zh,Nat.reduceEqDiff,Nat.reduceLT,Zi,Zj,Zk,Zl,Nat.reduceBEq,m1]
       exact fin2 g4 hok m2 m3
     | false =>
      have hok := okb fun h => absurd h (by simpa using hk4)
      simp -dsimp only [↓WPd,↓Zm,↓Zn,WPu,Za,Zb,Zc,Zd,Ze,Zf,Zg,Zh,Nat.reduceEqDiff,Nat.reduceLT,Zi,Zj,Zk,Zl,Nat.reduceBEq,WPm,isnil_ptr,faddr_ptr,Nat.add_zero,load_cells h3.obj,e1,load_nm ho3]
      refine last (Keeps.refl _ _) hok _ _ _ fun u σ5 m1 m2 m3 => ?_
      simp -dsimp only [↓WPd,↓Zm,↓Zn,WPu,Za,Zb,Zc,Zd,Ze,Zf,Zg,Zh,Nat.reduceEqDiff,Nat.reduceLT,Zi,Zj,Zk,Zl,Nat.reduceBEq,m1]
      exact fin2 (Keeps.refl _ _) hok m2 m3
end
def bdV (v : Nm) (u : AVal) : AVal := .agg [.int .i64 v.1,.int .i64 v.2,u]
def bdC (v : Nm) (u : AVal) : List AVal := [.int .i64 v.1,.int .i64 v.2,u]
def BdRel (σ : Store) (A : Nat → Prop) (e : AVal) (p : Nm × List Cel) : Prop := ∃ u,e = bdV p.1 u ∧ SlOf σ 5 u (CC p.2) ∧ ∀ i,u.sid = some i → A i
theorem BdRel.keeps {σ σ' : Store} {A B M : Nat → Prop} {e : AVal} {p : Nm × List Cel} (h : BdRel σ A e p) (hk : Keeps M σ σ') (ha : ∀ i,i < σ.length → A i → B i ∧ ¬ M i) : BdRel σ' B e p := by
 obtain ⟨u,h1,h2,h3⟩ := h
 exact ⟨u,h1,h2.keeps hk fun i hi => (ha i (h2.lt hi) (h3 i hi)).2,fun i hi => (ha i (h2.lt hi) (h3 i hi)).1⟩
def RefP (σ : Store) (A : Nat → Prop) (id : Nat) (R : Hp) : Prop := ∃ w es,σ[id]? = some (.cells [w]) ∧ SlOf σ 3 w es ∧ (∀ i,w.sid = some i → A i) ∧ Two (BdRel σ A) es R
theorem RefP.keeps {σ σ' : Store} {A B M : Nat → Prop} {id : Nat} {R : Hp} (h : RefP σ A id R) (hk : Keeps M σ σ') (hi : ¬ M id) (ha : ∀ i,i < σ.length → A i → B i ∧ ¬ M i) : RefP σ' B id R := by
 obtain ⟨w,es,h1,h2,h3,h4⟩ := h
 exact ⟨w,es,hk.get h1 hi,h2.keeps hk fun i hw => (ha i (h2.lt hw) (h3 i hw)).2,fun i hw => (ha i (h2.lt hw) (h3 i hw)).1,h4.mono fun e p he => he.keeps hk ha⟩
theorem RefP.grow {σ σ' : Store} {A : Nat → Prop} {id : Nat} {R : Hp} (h : RefP σ A id R) (g : Grows σ σ') : RefP σ' A id R := h.keeps g (fun h => h) fun i _ a => ⟨a,fun h => h⟩
def RefV (σ : Store) (rv : AVal) (R : Hp) : Prop := (rv = .nilptr ∧ R = []) ∨ ∃ id A,rv = .ptr id 0 ∧ RefP σ A id R
theorem RefV.grow {σ σ' : Store} {rv : AVal} {R : Hp} (h : RefV σ rv R) (g : Grows σ σ') : RefV σ' rv R := by
 rcases h with h | ⟨id,A,e,h⟩
 ·exact .inl h
 ·exact .inr ⟨id,A,e,h.grow g⟩
theorem RefP.v {σ : Store} {A : Nat → Prop} {id : Nat} {R : Hp} (h : RefP σ A id R) : RefV σ (.ptr id 0) R := .inr ⟨id,A,rfl,h⟩
section
variable (d : Nat) (σ : Store)
theorem rnew_ok : Called CU.cfg d 56 [] σ fun r σ' => ∃ id,r = .ptr id 0 ∧ RefP σ' (fun _ => False) id [] ∧ Grows σ σ' ∧ id < σ'.length ∧ σ.length ≤ id := by
 refine called_of (fn := CU.a56) rfl (Nat.le_of_ble_eq_true rfl) ?_
 have e1 : fillA [AVal.nilslice] [] = some [AVal.nilslice] := rfl
 have e2 : [AVal.nilslice].all AVal.one = true := rfl
 simp only [CU.a56, CU.o]
 simp -dsimp only [↓WPd,↓Zm,↓Zn,WPu,Za,Zb,Zc,Zd,Ze,Zf,Zg,Zh,Nat.reduceEqDiff,Nat.reduceLT,Zi,Zj,Zk,Zl,Nat.reduceBEq,e1,e2,cells_agg]
 exact ⟨_,rfl,⟨.nilslice,[],by simp,SlOf.nil _ _,(fun i h => by cases h),Two.nil⟩,Grows.app _ _,by simp,Nat.le_refl _⟩
theorem place_ok (rv : AVal) (R : Hp) (v : Nm) (h : RefV σ rv R) (hR : R.length < 2 ^ 40) : Called CU.cfg d 114 [rv,nmV v] σ fun r σ' => ∃ k : Int,r = .int .i64 k ∧ (match lk R v with | some t => ∃ j : Nat,k = j ∧ R[j]? = some (v,t) | none => k = -1) ∧ Grows σ σ' := by
 refine called_of (fn := CU.a114) rfl (Nat.le_of_ble_eq_true rfl) ?_
 simp only [CU.a114, CU.o]
 simp -dsimp only [↓WPd,↓Zm,↓Zn,WPu,Za,Zb,Zc,Zd,Ze,Zf,Zg,Zh,Nat.reduceEqDiff,Nat.reduceLT,Zi,Zj,Zk,Zl,Nat.reduceBEq,nm_cells,nm_one]
 have ho : (σ ++ [AObj.cells (nmC v)])[σ.length]? = some (.cells (nmC v)) := by simp
 have g0 : Grows σ (σ ++ [AObj.cells (nmC v)]) := Grows.app _ _
 have h1 := h.grow g0
 generalize σ ++ [AObj.cells (nmC v)] = σ1 at ho g0 h1
 generalize σ.length = i1 at ho
 refine loop_rule (fun m vs σ' => ∃ k : Nat,k ≤ R.length ∧ m = R.length - k ∧ vs = [rv,.ptr i1 0,.int .i64 k] ∧ σ' = σ1 ∧ ∀ p ∈ R.take k,p.1 ≠ v) R.length ⟨0,Nat.zero_le _,rfl,?_,rfl,fun p hp => by simp at hp⟩ ?_
 ·simp -dsimp only [↓WPd,↓Zm,↓Zn,WPu,Za,Zb,Zc,Zd,Ze,Zf,Zg,Zh,Nat.reduceEqDiff,Nat.reduceLT,Zi,Zj,Zk,Zl,Nat.reduceBEq]; rfl
 ·rintro m vs σ' ⟨k,hk,rfl,rfl,rfl,ha⟩
  have hnone : (∀ p ∈ R,p.1 ≠ v) → lk R v = none := fun h => lk_none.2 fun hm => by
   obtain ⟨p,hp,e⟩ := List.mem_map.1 hm
   exact h p hp e
  rcases h1 with ⟨rfl,rfl⟩ | ⟨id,A,rfl,w,es,o1,o2,-,o4⟩
  ·have e : isNil .p .nilptr = some true := rfl
   simp -dsimp only [↓WPd,↓Zm,↓Zn,WPu,Za,Zb,Zc,Zd,Ze,Zf,Zg,Zh,Nat.reduceEqDiff,Nat.reduceLT,Zi,Zj,Zk,Zl,Nat.reduceBEq,WPm,e]
   exact ⟨-1,rfl,rfl,g0⟩
  ·have hlen := o4.len
   have lw := o2.len
   rw [hlen] at lw
   have e0 : ([w] : List AVal)[0]? = some w := rfl
   simp -dsimp only [↓WPd,↓Zm,↓Zn,WPu,Za,Zb,Zc,Zd,Ze,Zf,Zg,Zh,Nat.reduceEqDiff,Nat.reduceLT,Zi,Zj,Zk,Zl,Nat.reduceBEq,WPm,isnil_ptr,faddr_ptr,Nat.add_zero,load_cells o1,e0,lw]
   refine condP_dec (fun hc => ?_) (fun hc => ?_)
   ·have hk' : k < R.length := by omega
    have hke : k < es.length := by omega
    obtain ⟨e,he1,u,he2,he3,-⟩ := o4.get hk'
    have hee : es[k] = e := by rw [List.getElem?_eq_getElem hke] at he1; exact Option.some.inj he1
    have hb := (o2.addr hke .i64).2
    rw [hee,he2] at hb
    have hb' : behind σ' (addrOf 3 w k) = some (bdC (R[k]).1 u,0) := hb
    obtain ⟨q0,p0,b0⟩ := faddr_at hb' 0
    have r0 : loadV σ' 2 true q0 = some (nmV (R[k]).1) := loadN_at b0 (by simp [bdC])
    have ia : iaddrV 3 w (.int .i64 k) = some (addrOf 3 w k) := o2.iaddr hke .i64
    simp -dsimp only [↓WPd,↓Zm,↓Zn,WPu,Za,Zb,Zc,Zd,Ze,Zf,Zg,Zh,Nat.reduceEqDiff,Nat.reduceLT,Zi,Zj,Zk,Zl,Nat.reduceBEq,WPm,isnil_ptr,faddr_ptr,Nat.add_zero,load_cells o1,e0,lw,ia,p0,r0,load_nm ho,nm_eqs]
    have ht : R.take (k + 1) = R.take k ++ [R[k]] := List.take_succ_eq_append_getElem hk'
    refine condP_dec (fun hv => ?_) (fun hv => ?_)
    ·simp -dsimp only [↓WPd,↓Zm,↓Zn,WPu,Za,Zb,Zc,Zd,Ze,Zf,Zg,Zh,Nat.reduceEqDiff,Nat.reduceLT,Zi,Zj,Zk,Zl,Nat.reduceBEq]
     have hl : lk R v = some (R[k]).2 := by
      have : ∀ (R : Hp) (k : Nat) (hk : k < R.length),(∀ p ∈ R.take k,p.1 ≠ v) → (R[k]).1 = v → lk R v = some (R[k]).2 := by
       intro R
       induction R with
       | nil => intro k hk; simp at hk
       | cons q r ih =>
        intro k hk h1 h2
        cases k with
        | zero => simp only [List.getElem_cons_zero] at h2 ⊢; simp [lk,h2]
        | succ k =>
         have : q.1 ≠ v := h1 q (by simp)
         simp only [List.getElem_cons_succ] at h2 ⊢
         rw [lk,if_neg this]
         exact ih k (by simpa using hk) (fun p hp => h1 p (by simp [hp])) h2
      exact this R k hk' ha hv
     rw [hl]
     exact ⟨_,rfl,⟨k,rfl,by rw [List.getElem?_eq_getElem hk',← hv]⟩,g0⟩
    ·simp -dsimp only [↓WPd,↓Zm,↓Zn,WPu,Za,Zb,Zc,Zd,Ze,Zf,Zg,Zh,Nat.reduceEqDiff,Nat.reduceLT,Zi,Zj,Zk,Zl,Nat.reduceBEq]
     refine ⟨R.length - (k + 1),by omega,k + 1,by omega,rfl,?_,fun p hp => ?_⟩
     ·rw [wrap_i64 (by omega) (by omega),Int.natCast_add,Int.natCast_one]
     ·rw [ht] at hp
      rcases List.mem_append.1 hp with hp | hp
      ·exact ha p hp
      ·simp at hp; rw [hp]; exact hv
   ·have hk2 : k = R.length := by omega
    subst hk2
    rw [List.take_length] at ha
    simp -dsimp only [↓WPd,↓Zm,↓Zn,WPu,Za,Zb,Zc,Zd,Ze,Zf,Zg,Zh,Nat.reduceEqDiff,Nat.reduceLT,Zi,Zj,Zk,Zl,Nat.reduceBEq]
    rw [hnone ha]
    exact ⟨-1,rfl,rfl,g0⟩
end
theorem bd_build (v : Nm) (u : AVal) (h : u.one = true) : fillA [AVal.int IntKind.i64 0,AVal.int IntKind.i64 0,AVal.nilslice] [(0,2,nmV v),(2,1,u)] = some (bdC v u) := by
 have hc : u.cells = [u] := by cases u <;> simp_all [AVal.one]
 have h1 : [u].all AVal.one = true := by simp only [List.all_cons,List.all_nil,h]; rfl
 simp only [fillA,nm_cells,hc,nmC,List.length_cons,List.length_nil,h1]
 rfl
def seqL : ACode → ACode
 | .seq a _ => a
 | c => c
def seqR : ACode → ACode
 | .seq _ b => b
 | c => c
theorem bd_lit (v : Nm) (u : AVal) (h : u.one = true) : fillL 3 true (List.replicate 1 (zel [AVal.int IntKind.i64 0,AVal.int IntKind.i64 0,AVal.nilslice] true)) [(0,.agg (bdC v u))] = some [bdV v u] := by
 have : (bdC v u).all AVal.one = true := by simp only [bdC,List.all_cons,List.all_nil,h]; rfl
 simp only [fillL,AVal.cells,this]
 rfl
section
variable (d : Nat) (σ : Store)
set_option maxHeartbeats 1000000 in
theorem rbind_ok (A : Nat → Prop) (id : Nat) (R : Hp) (v : Nm) (tv : AVal) (t : List Cel) (h : RefP σ A id R) (hR : R.length < 2 ^ 30) (hs : t.length < 2 ^ 30) (ht : SlOf σ 5 tv (CC t)) :
  Called CU.cfg d 58 [.ptr id 0,nmV v,tv] σ fun r σ' => r = .int .i64 (bindE R v t) ∧ RefP σ' (fun i => A i ∨ σ.length ≤ i) id (bindR R v t) ∧ Keeps (fun i => i = id) σ σ' := by
 refine called_of (fn := CU.a58) rfl (Nat.le_of_ble_eq_true rfl) ?_
 obtain ⟨T,hT⟩ : ∃ T,T = seqR (seqR CU.a58.body) := ⟨_,rfl⟩
 rw [show CU.a58.body = .seq (seqL CU.a58.body) (.seq (seqL (seqR CU.a58.body)) T) from by rw [hT]; rfl]
 simp only [CU.a58,seqL,seqR, CU.o]
 simp -dsimp only [↓WPd,↓Zm,↓Zn,WPu,Za,Zb,Zc,Zd,Ze,Zf,Zg,Zh,Nat.reduceEqDiff,Nat.reduceLT,Zi,Zj,Zk,Zl,Nat.reduceBEq,nm_cells,nm_one]
 have ho : (σ ++ [AObj.cells (nmC v)])[σ.length]? = some (.cells (nmC v)) := by simp
 have g0 : Grows σ (σ ++ [AObj.cells (nmC v)]) := Grows.app _ _
 have h1 := h.grow g0
 have ht1 := ht.grow g0
 generalize σ ++ [AObj.cells (nmC v)] = σ1 at ho g0 h1 ht1
 have hid : id < σ.length := by obtain ⟨w,es,o1,_⟩ := h; exact (List.getElem?_eq_some_iff.1 o1).1
 have hi1 : σ.length ≠ id := by omega
 generalize hq : σ.length = i1 at ho hi1
 simp -dsimp only [↓WPd,↓Zm,↓Zn,WPu,Za,Zb,Zc,Zd,Ze,Zf,Zg,Zh,Nat.reduceEqDiff,Nat.reduceLT,Zi,Zj,Zk,Zl,Nat.reduceBEq,WPm,isnil_ptr,load_nm ho]
 refine calledW_of (rofvar_ok d σ1 v) ?_
 rintro r σ2 ⟨hr,g2⟩
 have h2 := h1.grow g2
 have ht2 := ht1.grow g2
 have ho2 := g2.get ho
 have lr : lenSV r = some (CC (varT v)).length := (hr σ2).len
 have weak : ∀ {σ' : Store},Grows σ σ' → RefP σ' (fun i => A i ∨ i1 ≤ i) id R := fun g => h.keeps g (fun h => h) fun i _ a => ⟨.inl a,fun h => h⟩
 have fin : ∀ {σ' : Store} {e : Int},Grows σ σ' → bindE R v t = e → e ≠ 0 → AVal.int .i64 e = .int .i64 (bindE R v t) ∧ RefP σ' (fun i => A i ∨ i1 ≤ i) id (bindR R v t) ∧ Keeps (fun i => i = id) σ σ' := fun g e1 e2 =>
  ⟨by rw [e1],by rw [bindR,if_neg (by rw [e1]; exact e2)]; exact weak g,g.any⟩
 cases hov : okVar v with
 | false =>
  have lr' : lenSV r = some 0 := by rw [lr]; simp [varT,hov]
  have e0 : (((0 : Nat) : Int) == 0) = true := rfl
  simp -dsimp only [↓WPd,↓Zm,↓Zn,WPu,Za,Zb,Zc,Zd,Ze,Zf,Zg,Zh,Nat.reduceEqDiff,Nat.reduceLT,Zi,Zj,Zk,Zl,Nat.reduceBEq,WPm,lr',e0]
  exact fin (e := 6) (g0.trans g2) (by unfold bindE; rw [hov]; simp) (by decide)
 | true =>
  have lr' : lenSV r = some 1 := by rw [lr]; simp [varT,hov]
  have e0 : (((1 : Nat) : Int) == 0) = false := rfl
  simp -dsimp only [↓WPd,↓Zm,↓Zn,WPu,Za,Zb,Zc,Zd,Ze,Zf,Zg,Zh,Nat.reduceEqDiff,Nat.reduceLT,Zi,Zj,Zk,Zl,Nat.reduceBEq,WPm,lr',e0,faddr_ptr,Nat.add_zero,load_cells ho2,nm_g0]
  cases hn : decide (v.1 < 0) with
  | true =>
   simp -dsimp only [↓WPd,↓Zm,↓Zn,WPu,Za,Zb,Zc,Zd,Ze,Zf,Zg,Zh,Nat.reduceEqDiff,Nat.reduceLT,Zi,Zj,Zk,Zl,Nat.reduceBEq,WPm]
   exact fin (e := 6) (g0.trans g2) (by unfold bindE; rw [hn]; rfl) (by decide)
  | false =>
   simp -dsimp only [↓WPd,↓Zm,↓Zn,WPu,Za,Zb,Zc,Zd,Ze,Zf,Zg,Zh,Nat.reduceEqDiff,Nat.reduceLT,Zi,Zj,Zk,Zl,Nat.reduceBEq,WPm]
   refine calledW_of (rglobal_ok d σ2 tv t hs ht2) ?_
   rintro r3 σ3 ⟨rfl,g3⟩
   have h3 := h2.grow g3
   have ht3 := ht2.grow g3
   have ho3 := g3.get ho2
   have g03 := (g0.trans g2).trans g3
   cases hg : glob t with
   | false =>
    simp -dsimp only [↓WPd,↓Zm,↓Zn,WPu,Za,Zb,Zc,Zd,Ze,Zf,Zg,Zh,Nat.reduceEqDiff,Nat.reduceLT,Zi,Zj,Zk,Zl,Nat.reduceBEq,WPm]
    exact fin (e := 6) g03 (by unfold bindE; rw [hn,hov,hg]; rfl) (by decide)
   | true =>
    simp -dsimp only [↓WPd,↓Zm,↓Zn,WPu,Za,Zb,Zc,Zd,Ze,Zf,Zg,Zh,Nat.reduceEqDiff,Nat.reduceLT,Zi,Zj,Zk,Zl,Nat.reduceBEq,WPm,load_nm ho3]
    refine calledW_of (place_ok d σ3 (.ptr id 0) R v h3.v (by omega)) ?_
    rintro r4 σ4 ⟨k,rfl,hk,g4⟩
    have h4 := h3.grow g4
    have ht4 := ht3.grow g4
    have ho4 := g4.get ho3
    have g04 := g03.trans g4
    cases hl : lk R v with
    | some t0 =>
     rw [hl] at hk
     obtain ⟨j,rfl,_⟩ := hk
     have e1 : decide ((j : Int) ≥ 0) = true := by simp
     simp -dsimp only [↓WPd,↓Zm,↓Zn,WPu,Za,Zb,Zc,Zd,Ze,Zf,Zg,Zh,Nat.reduceEqDiff,Nat.reduceLT,Zi,Zj,Zk,Zl,Nat.reduceBEq,e1]
     exact fin (e := 70) g04 (by unfold bindE; rw [hn,hov,hg,hl]; rfl) (by decide)
    | none =>
     rw [hl] at hk
     simp only at hk
     subst hk
     obtain ⟨c,s,hcs⟩ : ∃ c s,t = c :: s := List.exists_cons_of_ne_nil (right_ne (glob_right hg))
     have hhd : t.headD default = c := by rw [hcs]; rfl
     have hi0 : 0 < (CC t).length := by rw [hcs]; simp
     have hb := (ht4.addr hi0 .i64).2
     rw [show (CC t)[0] = c.val by simp [hcs]] at hb
     have hb' : behind σ4 (addrOf 5 tv 0) = some (c.cs,0) := hb
     obtain ⟨q0,p0,b0⟩ := faddr_at hb' 0
     obtain ⟨q3,p3,b3⟩ := faddr_at hb' 3
     have r0 : loadV σ4 1 false q0 = some (.int .u8 c.k) := load_at b0
     have r3 : loadV σ4 2 true q3 = some (nmV c.v) := loadN_at b3 (by simp [Cel.cs])
     have ia : iaddrV 5 tv (.int .i64 0) = some (addrOf 5 tv 0) := ht4.iaddr hi0 .i64
     have k4 : ((c.k : Int) == 4) = decide (c.k = 4) := by by_cases h : c.k = 4 <;> simp [h] <;> omega
     have e1 : decide ((-1 : Int) ≥ 0) = false := rfl
     have okb : (c.k = 4 → nless c.v v = true) → okB (v,t) := fun h => ⟨by simp only [decide_eq_false_iff_not] at hn; simp only; omega,hov,hg,by rw [hhd]; exact h⟩
     have tail : ∀ (e : Nat → AVal) (σ5 : Store),Grows σ4 σ5 → e 0 = .ptr id 0 → e 2 = tv → e 4 = .ptr i1 0 → okB (v,t) → wpC CU.cfg d T (Fr' 103 e) σ5 (endQ [ARes.tmp 6] fun r σ' => r = .int .i64 (bindE R v t) ∧ RefP σ' (fun i => A i ∨ i1 ≤ i) id (bindR R v t) ∧ Keeps (fun i => i = id) σ σ') := by
      intro e σ5 g5 v0 v2 v4 hok
      have ht5 := ht4.grow g5
      have ho5 := g5.get ho4
      have h5 := h4.grow g5
      have g05 := g04.trans g5
      obtain ⟨u,σ6,a1,a2,a3,a4,a5⟩ := (Own.nil σ5 5).append (CC t) 48 (by rw [List.length_map]; simp only [List.length_nil]; omega)
      have g56 : Grows σ5 σ6 := a3.mono fun i _ h => by cases h
      have h6 := h5.grow g56
      have ho6 := g56.get ho5
      have g06 := g05.trans g56
      have le6 : i1 ≤ σ5.length := by rw [← hq]; exact g05.1
      have fu : ∀ i,u.sid = some i → i1 ≤ i := fun i hi => by
       rcases a4 i hi with e | e
       ·cases e
       ·omega
      obtain ⟨w,es,o1,o2,o3,o4⟩ := h6
      have hlen := o4.len
      have lw := o2.len
      rw [hlen] at lw
      have e0 : ([w] : List AVal)[0]? = some w := rfl
      have hbe : bindE R v t = 0 := bindE_of hok hl
      have newR : BdRel σ6 (fun i => A i ∨ i1 ≤ i) (bdV v u) (v,t) := ⟨u,rfl,by simpa using a2.sl,fun i hi => .inr (fu i hi)⟩
      have o4' : Two (BdRel σ6 fun i => A i ∨ i1 ≤ i) es R := o4.mono fun e p he => he.keeps (Keeps.refl (fun _ => False) σ6) fun i _ a => ⟨.inl a,fun h => h⟩
      have uone : u.one = true := a2.one
      have push : ∀ {σ' : Store} {nx : AVal} {ns : List AVal} {P : Hp} {x : AVal} {p : Nm × List Cel},Grows σ6 σ' → Own σ' 3 nx ns → (∀ i,nx.sid = some i → σ6.length ≤ i) → Two (BdRel σ6 fun i => A i ∨ i1 ≤ i) ns P → BdRel σ6 (fun i => A i ∨ i1 ≤ i) x p → P.length ≤ R.length + 1 →
        ∃ nx' σ2,appendV σ' 3 40 nx [x] = some (nx',σ2) ∧ Own σ2 3 nx' (ns ++ [x]) ∧ (∀ i,nx'.sid = some i → σ6.length ≤ i) ∧ Two (BdRel σ6 fun i => A i ∨ i1 ≤ i) (ns ++ [x]) (P ++ [p]) ∧ Grows σ6 σ2 := by
       intro σ' nx ns P x p g on fn tn hx hl
       have := tn.len
       obtain ⟨nx',σ2,b1,b2,b3,b4,_⟩ := on.append [x] 40 (by simp only [List.length_singleton]; omega)
       refine ⟨nx',σ2,b1,b2,fun i hi => ?_,tn.push hx,Keeps.trans g b3 fun i hi e => by have := fn i e; omega⟩
       rcases b4 i hi with e | e
       ·exact fn i e
       ·have := g.1; omega
      rw [hT]
      simp only [CU.a58,seqR, CU.o]
      simp -dsimp only [↓WPd,↓Zm,↓Zn,WPu,Za,Zb,Zc,Zd,Ze,Zf,Zg,Zh,Nat.reduceEqDiff,Nat.reduceLT,Zi,Zj,Zk,Zl,Nat.reduceBEq,WPm,v0,v2,v4,ht5.els,a1]
      have x1 : ∀ {a b : Hp},bindR R v t = a ++ b → a.length ≤ R.length + 1 := fun {a b} h => by
       have h1 := congrArg List.length h
       have h2 : (bindR R v t).length = R.length + 1 := by rw [bindR,if_pos hbe]; simpa using (insR_perm (v,t) R).length_eq
       simp only [List.length_append] at h1
       omega
      refine loop_rule2 (fun m vs σ' => ∃ (k : Nat) (nx : AVal) (ns : List AVal) (P : Hp) (b : Bool),k ≤ R.length ∧ m = R.length - k ∧ vs = [.ptr id 0,.ptr i1 0,nx,u,.bool b,.int .i64 k] ∧ Grows σ6 σ' ∧ Own σ' 3 nx ns ∧ (∀ i,nx.sid = some i → σ6.length ≤ i) ∧ Two (BdRel σ6 (fun i => A i ∨ i1 ≤ i)) ns P ∧ P ++ (if b then R.drop k else insR (v,t) (R.drop k)) = bindR R v t)
       [0,4,7,8,9] (fun e vs σ' => e = .exit 1 ∧ ∃ (nx : AVal) (ns : List AVal) (P : Hp) (b : Bool),vs = [.ptr id 0,.ptr i1 0,nx,u,.bool b] ∧ Grows σ6 σ' ∧ Own σ' 3 nx ns ∧ (∀ i,nx.sid = some i → σ6.length ≤ i) ∧ Two (BdRel σ6 (fun i => A i ∨ i1 ≤ i)) ns P ∧ P ++ (if b then [] else [(v,t)]) = bindR R v t)
       R.length ⟨0,.nilslice,[],[],false,Nat.zero_le _,rfl,?_,Keeps.refl _ _,Own.nil _ _,(fun i h => by cases h),Two.nil,by simp [bindR,hbe]⟩ ?_ ?_
      ·simp -dsimp only [↓WPd,↓Zm,↓Zn,WPu,Za,Zb,Zc,Zd,Ze,Zf,Zg,Zh,Nat.reduceEqDiff,Nat.reduceLT,Zi,Zj,Zk,Zl,Nat.reduceBEq,v0,v4]; rfl
      ·rintro m vs σ' ⟨k,nx,ns,P,b,hk,rfl,rfl,g,on,fn,tn,hP⟩
       have o1' := g.get o1
       have o2' := o2.grow g
       have ho' := g.get ho6
       simp -dsimp only [↓WPd,↓Zm,↓Zn,WPu,Za,Zb,Zc,Zd,Ze,Zf,Zg,Zh,Nat.reduceEqDiff,Nat.reduceLT,Zi,Zj,Zk,Zl,Nat.reduceBEq,WPm,isnil_ptr,faddr_ptr,Nat.add_zero,load_cells o1',e0,lw]
       refine condP_dec (fun hc => ?_) (fun hc => ?_)
       ·have hk' : k < R.length := by omega
        have hke : k < es.length := by omega
        obtain ⟨e,he1,he⟩ := o4'.get hk'
        have he' := he
        obtain ⟨y,he2,he3,-⟩ := he'
        have hee : es[k] = e := by rw [List.getElem?_eq_getElem hke] at he1; exact Option.some.inj he1
        have hb := (o2'.addr hke .i64).2
        rw [hee,he2] at hb
        have hb' : behind σ' (addrOf 3 w k) = some (bdC (R[k]).1 y,0) := hb
        obtain ⟨q0,p0,b0⟩ := faddr_at hb' 0
        have r0 : loadV σ' 2 true q0 = some (nmV (R[k]).1) := loadN_at b0 (by simp [bdC])
        have r3 : loadV σ' 3 true (addrOf 3 w k) = some (.agg (bdC (R[k]).1 y)) := loadN_at hb' (by simp [bdC])
        have ia : iaddrV 3 w (.int .i64 k) = some (addrOf 3 w k) := o2'.iaddr hke .i64
        have hd : R.drop k = R[k] :: R.drop (k + 1) := List.drop_eq_getElem_cons hk'
        have ly := bd_lit (R[k]).1 y he3.one
        have lit1 : ∀ (tg : Nat) (σ : Store) (x : AVal),elems 3 σ (.fslice tg true 3 [x]) = some [x] := fun tg σ x => elems_fs 3 tg true σ [x]
        have keep : ∀ {σ2 : Store} {nx' : AVal} {ns' : List AVal} {P' : Hp} {b' : Bool} {fr : List AVal} (h : fr = fr),Grows σ6 σ2 → Own σ2 3 nx' ns' → (∀ i,nx'.sid = some i → σ6.length ≤ i) → Two (BdRel σ6 fun i => A i ∨ i1 ≤ i) ns' P' → P' ++ (if b' then R.drop k else insR (v,t) (R.drop k)) = bindR R v t → (b' = true ∨ nless v (R[k]).1 = false) →
          ∃ nx2 σ3,appendV σ2 3 40 nx' [bdV (R[k]).1 y] = some (nx2,σ3) ∧ ∃ m',m' < R.length - k ∧ ∃ k2 nx3 ns3 P3 b3,k2 ≤ R.length ∧ m' = R.length - k2 ∧ [AVal.ptr id 0,.ptr i1 0,nx2,u,.bool b',.int .i64 (IntKind.i64.wrap ((k : Int) + 1))] = [.ptr id 0,.ptr i1 0,nx3,u,.bool b3,.int .i64 (k2 : Nat)] ∧ Grows σ6 σ3 ∧ Own σ3 3 nx3 ns3 ∧ (∀ i,nx3.sid = some i → σ6.length ≤ i) ∧ Two (BdRel σ6 fun i => A i ∨ i1 ≤ i) ns3 P3 ∧ P3 ++ (if b3 then R.drop k2 else insR (v,t) (R.drop k2)) = bindR R v t := by
         intro σ2 nx' ns' P' b' fr _ g2 on2 fn2 tn2 hP2 hb2
         obtain ⟨nx2,σ3,c1,c2,c3,c4,c5⟩ := push g2 on2 fn2 tn2 (by rw [he2] at he; exact he) (x1 hP2.symm)
         refine ⟨nx2,σ3,c1,R.length - (k + 1),by omega,k + 1,nx2,_,_,b',by omega,rfl,?_,c5,c2,c3,c4,?_⟩
         ·rw [wrap_i64 (by omega) (by omega),Int.natCast_add,Int.natCast_one]
         ·rw [← hP2,hd]
          rcases hb2 with rfl | hb2
          ·simp
          ·cases b' with
           | true => simp
           | false => simp [insR,hb2]
        cases b with
        | true =>
         obtain ⟨nx2,σ3,c1,c2⟩ := keep (fr := []) rfl g on fn tn hP (.inl rfl)
         simp -dsimp only [↓WPd,↓Zm,↓Zn,WPu,Za,Zb,Zc,Zd,Ze,Zf,Zg,Zh,Nat.reduceEqDiff,Nat.reduceLT,Zi,Zj,Zk,Zl,Nat.reduceBEq,WPm,isnil_ptr,faddr_ptr,Nat.add_zero,load_cells o1',e0,ia,r3,ly,lit1,c1]
         exact c2
        | false =>
         simp -dsimp only [↓WPd,↓Zm,↓Zn,WPu,Za,Zb,Zc,Zd,Ze,Zf,Zg,Zh,Nat.reduceEqDiff,Nat.reduceLT,Zi,Zj,Zk,Zl,Nat.reduceBEq,WPm,isnil_ptr,faddr_ptr,Nat.add_zero,load_cells o1',e0,ia,p0,r0,load_nm ho']
         refine calledW_of (rless_ok d σ' v (R[k]).1) ?_
         rintro r7 σ7 ⟨rfl,g7⟩
         have g' := Grows.trans g g7
         have on' := on.grow g7
         have o1'' := g7.get o1'
         have ho'' := g7.get ho'
         have r3' : loadV σ7 3 true (addrOf 3 w k) = some (.agg (bdC (R[k]).1 y)) := by
          have hb7 := ((o2'.grow g7).addr hke .i64).2
          rw [hee,he2] at hb7
          exact loadN_at (cs := bdC (R[k]).1 y) hb7 (by simp [bdC])
         cases hl2 : nless v (R[k]).1 with
         | false =>
          obtain ⟨nx2,σ3,c1,c2⟩ := keep (fr := []) rfl g' on' fn tn hP (.inr hl2)
          simp -dsimp only [↓WPd,↓Zm,↓Zn,WPu,Za,Zb,Zc,Zd,Ze,Zf,Zg,Zh,Nat.reduceEqDiff,Nat.reduceLT,Zi,Zj,Zk,Zl,Nat.reduceBEq,WPm,isnil_ptr,faddr_ptr,Nat.add_zero,load_cells o1'',e0,ia,r3',ly,lit1,c1]
          exact c2
         | true =>
          obtain ⟨nx5,σ5',c1,c2,c3,c4,c5⟩ := push g' on' fn tn newR (x1 hP.symm)
          have o1c := c5.get o1
          have r3c : loadV σ5' 3 true (addrOf 3 w k) = some (.agg (bdC (R[k]).1 y)) := by
           have hb7 := ((o2.grow c5).addr hke .i64).2
           rw [hee,he2] at hb7
           exact loadN_at (cs := bdC (R[k]).1 y) hb7 (by simp [bdC])
          obtain ⟨nx2,σ3,d1,d2⟩ := keep (fr := []) (b' := true) rfl c5 c2 c3 c4 (by rw [← hP,hd]; simp [insR,hl2]) (.inl rfl)
          simp -dsimp only [↓WPd,↓Zm,↓Zn,WPu,Za,Zb,Zc,Zd,Ze,Zf,Zg,Zh,Nat.reduceEqDiff,Nat.reduceLT,Zi,Zj,Zk,Zl,Nat.reduceBEq,WPm,isnil_ptr,faddr_ptr,Nat.add_zero,load_nm ho'',bd_build v u uone,bd_lit v u uone,lit1,c1,load_cells o1c,e0,ia,r3c,ly,d1]
          exact d2
       ·have hk2 : k = R.length := by omega
        subst hk2
        simp -dsimp only [↓WPd,↓Zm,↓Zn,WPu,Za,Zb,Zc,Zd,Ze,Zf,Zg,Zh,Nat.reduceEqDiff,Nat.reduceLT,Zi,Zj,Zk,Zl,Nat.reduceBEq]
        refine ⟨nx,ns,P,b,rfl,g,on,fn,tn,?_⟩
        rw [← hP,List.drop_length]; rfl
      ·rintro x σ' env ⟨rfl,nx,ns,P,b,hv,g,on,fn,tn,hP⟩
       simp only [List.map_cons,List.map_nil,List.cons.injEq,and_true] at hv
       obtain ⟨w0,w4,w7,w8,w9⟩ := hv
       have lit1 : ∀ (tg : Nat) (σ : Store) (x : AVal),elems 3 σ (.fslice tg true 3 [x]) = some [x] := fun tg σ x => elems_fs 3 tg true σ [x]
       have last : ∀ {σ2 : Store} {nx' : AVal} {ns' : List AVal} {P' : Hp},Grows σ6 σ2 → Own σ2 3 nx' ns' → (∀ i,nx'.sid = some i → σ6.length ≤ i) → Two (BdRel σ6 fun i => A i ∨ i1 ≤ i) ns' P' → P' = bindR R v t →
         storeV σ2 1 (.ptr id 0) nx' = some (σ2.set id (.cells [nx'])) ∧ AVal.int .i64 0 = .int .i64 (bindE R v t) ∧ RefP (σ2.set id (.cells [nx'])) (fun i => A i ∨ i1 ≤ i) id (bindR R v t) ∧ Keeps (fun i => i = id) σ (σ2.set id (.cells [nx'])) := by
        intro σ2 nx' ns' P' g2 on2 fn2 tn2 hP2
        have o12 := g2.get o1
        have st := store_cells o12 (off := 0) (by simp) (v := nx') on2.one
        have ks : Keeps (fun i => i = id) σ2 (σ2.set id (.cells [nx'])) := Keeps.set _ _ _
        refine ⟨st,by rw [hbe],⟨nx',ns',get_set o12,on2.sl.keeps ks fun i hi e => on2.noCell o12 (by rw [← e]; exact hi),fun i hi => .inr (Nat.le_trans (Nat.le_trans le6 g56.1) (fn2 i hi)),?_⟩,Keeps.trans (g06.trans g2).any ks fun _ _ h => h⟩
        rw [← hP2]
        refine tn2.mono fun e p he => ?_
        obtain ⟨y,y1,y2,y3⟩ := he
        exact ⟨y,y1,(y2.grow g2).keeps ks fun i hi e => (y2.grow g2).noCell o12 (by rw [← e]; exact hi),y3⟩
       have ho' := g.get ho6
       cases b with
       | true =>
        obtain ⟨s1,s2⟩ := last g on fn tn (by simpa using hP)
        simp -dsimp only [↓WPd,↓Zm,↓Zn,WPu,Za,Zb,Zc,Zd,Ze,Zf,Zg,Zh,Nat.reduceEqDiff,Nat.reduceLT,Zi,Zj,Zk,Zl,Nat.reduceBEq,WPm,w0,w4,w7,w8,w9,isnil_ptr,faddr_ptr,Nat.add_zero,s1]
        exact s2
       | false =>
        obtain ⟨nx5,σ5',c1,c2,c3,c4,c5⟩ := push g on fn tn newR (x1 hP.symm)
        obtain ⟨s1,s2⟩ := last c5 c2 c3 c4 (by simpa using hP)
        simp -dsimp only [↓WPd,↓Zm,↓Zn,WPu,Za,Zb,Zc,Zd,Ze,Zf,Zg,Zh,Nat.reduceEqDiff,Nat.reduceLT,Zi,Zj,Zk,Zl,Nat.reduceBEq,WPm,w0,w4,w7,w8,w9,isnil_ptr,faddr_ptr,Nat.add_zero,load_nm ho',bd_build v u uone,bd_lit v u uone,lit1,c1,s1]
        exact s2
     simp -dsimp only [↓WPd,↓Zm,↓Zn,WPu,Za,Zb,Zc,Zd,Ze,Zf,Zg,Zh,Nat.reduceEqDiff,Nat.reduceLT,Zi,Zj,Zk,Zl,Nat.reduceBEq,WPm,e1,ia,p0,r0,k4]
     cases hk4 : decide (c.k = 4) with
     | true =>
      simp -dsimp only [↓WPd,↓Zm,↓Zn,WPu,Za,Zb,Zc,Zd,Ze,Zf,Zg,Zh,Nat.reduceEqDiff,Nat.reduceLT,Zi,Zj,Zk,Zl,Nat.reduceBEq,WPm,ia,p3,r3,load_nm ho4]
      refine calledW_of (rless_ok d σ4 c.v v) ?_
      rintro r5 σ5 ⟨rfl,g5⟩
      cases hless : nless c.v v with
      | false =>
       simp -dsimp only [↓WPd,↓Zm,↓Zn,WPu,Za,Zb,Zc,Zd,Ze,Zf,Zg,Zh,Nat.reduceEqDiff,Nat.reduceLT,Zi,Zj,Zk,Zl,Nat.reduceBEq,WPm]
       refine fin (e := 71) (g04.trans g5) ?_ (by decide)
       have e : (decide ((t.headD default).k = 4) && !nless (t.headD default).v v) = true := by rw [hhd,hless,hk4]; rfl
       unfold bindE; rw [hn,hov,hg,hl,e]; rfl
      | true =>
       simp -dsimp only [↓WPd,↓Zm,↓Zn,WPu,Za,Zb,Zc,Zd,Ze,Zf,Zg,Zh,Nat.reduceEqDiff,Nat.reduceLT,Zi,Zj,Zk,Zl,Nat.reduceBEq,WPm]
       exact tail _ σ5 g5 rfl rfl rfl (okb fun _ => hless)
     | false =>
      simp -dsimp only [↓WPd,↓Zm,↓Zn,WPu,Za,Zb,Zc,Zd,Ze,Zf,Zg,Zh,Nat.reduceEqDiff,Nat.reduceLT,Zi,Zj,Zk,Zl,Nat.reduceBEq,WPm]
      exact tail _ σ4 (Keeps.refl _ _) rfl rfl rfl (okb fun h => absurd h (by simpa using hk4))
end
def Terms (σ : Store) (l : AVal) (ts : List (List Cel)) : Prop := ∃ es,SlOf σ 1 l es ∧ Two (fun e t => SlOf σ 5 e (CC t)) es ts
theorem Terms.grow {σ σ' : Store} {l : AVal} {ts : List (List Cel)} (h : Terms σ l ts) (g : Grows σ σ') : Terms σ' l ts := by
 obtain ⟨es,h1,h2⟩ := h
 exact ⟨es,h1.grow g,h2.mono fun e t he => he.grow g⟩
theorem Terms.len {σ : Store} {l : AVal} {ts : List (List Cel)} (h : Terms σ l ts) : lenSV l = some ts.length := by
 obtain ⟨es,h1,h2⟩ := h
 rw [← h2.len]; exact h1.len
theorem Terms.at {σ : Store} {l : AVal} {ts : List (List Cel)} (h : Terms σ l ts) {i : Nat} (hi : i < ts.length) : ∃ e,iaddrV 1 l (.int .i64 i) = some (addrOf 1 l i) ∧ loadV σ 1 false (addrOf 1 l i) = some e ∧ SlOf σ 5 e (CC ts[i]) := by
 obtain ⟨es,h1,h2⟩ := h
 have hl : i < es.length := by rw [h2.len]; exact hi
 obtain ⟨e,e1,e2⟩ := h2.get hi
 have he : es[i] = e := by rw [List.getElem?_eq_getElem hl] at e1; exact Option.some.inj e1
 have := h1.load1 hl (by rw [he]; exact e2.one) 1
 rw [he] at this
 exact ⟨e,h1.iaddr hl .i64,this,e2⟩
theorem Terms.nil (σ : Store) : Terms σ .nilslice [] := ⟨[],SlOf.nil _ _,.nil⟩
section
variable (d : Nat) (σ : Store)
theorem rvalue_ok (σ0 : Store) (rv : AVal) (R : Hp) (v : Nm) (h0 : RefV σ0 rv R) (g00 : Grows σ0 σ) (hR : R.length < 2 ^ 40) : Called CU.cfg d 119 [rv,nmV v] σ fun r σ' => ∃ u,r = .tuple [u,.bool (lk R v).isSome] ∧ SlOf σ0 5 u (CC ((lk R v).getD [])) ∧ Grows σ σ' := by
 refine called_of (fn := CU.a119) rfl (Nat.le_of_ble_eq_true rfl) ?_
 simp only [CU.a119, CU.o]
 simp -dsimp only [↓WPd,↓Zm,↓Zn,WPu,Za,Zb,Zc,Zd,Ze,Zf,Zg,Zh,Nat.reduceEqDiff,Nat.reduceLT,Zi,Zj,Zk,Zl,Nat.reduceBEq,nm_cells,nm_one]
 have ho : (σ ++ [AObj.cells (nmC v)])[σ.length]? = some (.cells (nmC v)) := by simp
 have g0 : Grows σ (σ ++ [AObj.cells (nmC v)]) := Grows.app _ _
 have h1 := h0.grow (g00.trans g0)
 generalize σ ++ [AObj.cells (nmC v)] = σ1 at ho g0 h1
 generalize σ.length = i1 at ho
 simp -dsimp only [↓WPd,↓Zm,↓Zn,WPu,Za,Zb,Zc,Zd,Ze,Zf,Zg,Zh,Nat.reduceEqDiff,Nat.reduceLT,Zi,Zj,Zk,Zl,Nat.reduceBEq,load_nm ho]
 refine calledW_of (place_ok d σ1 rv R v h1 hR) ?_
 rintro r σ2 ⟨k,rfl,hk,g2⟩
 cases hl : lk R v with
 | none =>
  rw [hl] at hk
  simp only at hk
  subst hk
  have e1 : decide ((-1 : Int) < 0) = true := rfl
  simp -dsimp only [↓WPd,↓Zm,↓Zn,WPu,Za,Zb,Zc,Zd,Ze,Zf,Zg,Zh,Nat.reduceEqDiff,Nat.reduceLT,Zi,Zj,Zk,Zl,Nat.reduceBEq,e1]
  exact ⟨.nilslice,rfl,SlOf.nil _ _,g0.trans g2⟩
 | some t =>
  rw [hl] at hk
  obtain ⟨j,rfl,hj⟩ := hk
  obtain ⟨hj',hje⟩ := List.getElem?_eq_some_iff.1 hj
  have e1 : decide ((j : Int) < 0) = false := by simp
  rcases h0 with ⟨rfl,rfl⟩ | ⟨id,A,rfl,w,es,o1,o2,o3,o4⟩
  ·simp at hj'
  ·have g02 := g00.trans (g0.trans g2)
   have hke : j < es.length := by rw [o4.len]; exact hj'
   obtain ⟨e,he1,y,he2,he3,-⟩ := o4.get hj'
   have hee : es[j] = e := by rw [List.getElem?_eq_getElem hke] at he1; exact Option.some.inj he1
   have hb := ((o2.grow g02).addr hke .i64).2
   rw [hee,he2] at hb
   have hb' : behind σ2 (addrOf 3 w j) = some (bdC (R[j]).1 y,0) := hb
   obtain ⟨q2,p2,b2⟩ := faddr_at hb' 2
   have r2 : loadV σ2 1 false q2 = some y := load_at b2
   have ia : iaddrV 3 w (.int .i64 j) = some (addrOf 3 w j) := o2.iaddr hke .i64
   have e0 : ([w] : List AVal)[0]? = some w := rfl
   simp -dsimp only [↓WPd,↓Zm,↓Zn,WPu,Za,Zb,Zc,Zd,Ze,Zf,Zg,Zh,Nat.reduceEqDiff,Nat.reduceLT,Zi,Zj,Zk,Zl,Nat.reduceBEq,e1,isnil_ptr,faddr_ptr,Nat.add_zero,load_cells (g02.get o1),e0,ia,p2,r2]
   refine ⟨y,rfl,?_,g0.trans g2⟩
   rw [hje] at he3
   exact he3
end
theorem CC_len (l : List Cel) : (CC l).length = l.length := by simp
def mkC (n : Int) : Cel := ⟨0,[],n,(0,0)⟩
def cmarks : List Cel := (List.range 9).map fun j : Nat => mkC (-700 - (j : Int))
structure HandedC (σ : Store) (v : AVal) (x : List Cel) (id : Nat) : Prop where
 val : v = .slice 5 id 0 0 x.length (some (x.length + 9))
 obj : σ[id]? = some (.arr 5 (CC (x ++ cmarks)) 0 0)
theorem HandedC.sl {σ : Store} {v : AVal} {x : List Cel} {id : Nat} (h : HandedC σ v x id) : SlOf σ 5 v (CC x) := by
 obtain ⟨rfl,ho⟩ := h
 refine ⟨?_,by simp [lenSV,CC_len],fun s id' ep off len c hc => ?_⟩
 ·simp [elems,ho]
 ·injection hc with _ _ _ _ e5 e6; injection e6 with e6; omega
theorem HandedC.keep {σ σ' : Store} {v : AVal} {x : List Cel} {id : Nat} (h : HandedC σ v x id) {M : Nat → Prop} (hk : Keeps M σ σ') (hm : ¬ M id) : HandedC σ' v x id := ⟨h.val,hk.get h.obj hm⟩
section
variable (d : Nat) (σ : Store)
end
def sCel (s : List UInt8) (n : Nat) : Cel := ⟨3,s,n,(0,0)⟩
def makeE (s : List UInt8) (ts : List (List Cel)) : Int := if !(sCel s ts.length).ok || ts.any (fun t => !right t) then 6 else if 256 < 1 + ts.flatten.length then 5 else 0
def makeT (s : List UInt8) (ts : List (List Cel)) : List Cel := if makeE s ts = 0 then sCel s ts.length :: ts.flatten else []
theorem elems1 (tg : Nat) (σ : Store) (x : AVal) : elems 1 σ (.fslice tg true 1 [x]) = some [x] := elems_fs 1 tg true σ [x]
section
variable (d : Nat) (σ : Store)
end
section
variable (d : Nat) (σ : Store)
end
section
variable (d : Nat) (σ : Store)
end
def isEqT (t : List Cel) : Bool := right t && isT t [61] 2
def EqR (σ σ' : Store) (t : List Cel) (a b : AVal) : Prop := Grows σ σ' ∧ match isEqT t with
 | true => ∃ x y,args t = [x,y] ∧ Own σ' 5 a (CC x) ∧ Own σ' 5 b (CC y) ∧ Fresh σ.length a ∧ Fresh σ.length b ∧ NoLit a ∧ NoLit b ∧ ∀ j,a.sid = some j → b.sid ≠ some j
 | false => a = .nilslice ∧ b = .nilslice
section
variable (d : Nat) (σ : Store)
end
theorem ORows.cell {σ σ' : Store} {lo sz : Nat} {l : AVal} {es : List AVal} {ps : List (List AVal)} {id : Nat} {cs : List AVal} (h : ORows σ lo sz l es ps) (ho : σ[id]? = some (.cells cs)) (hk : Keeps (fun i => i = id) σ σ') : ORows σ' lo sz l es ps :=
 ⟨h.row.keeps hk fun i hi e => h.row.noCell ho (by rw [← e]; exact hi),h.len,fun i e p h1 h2 => (h.one i e p h1 h2).keeps hk fun j hj e' => (h.one i e p h1 h2).noCell ho (by rw [← e']; exact hj),h.frs,h.frl,h.apart,h.off,h.lit,h.litl⟩
theorem ORows.push2 {σ : Store} {lo sz : Nat} {l : AVal} {es : List AVal} {ps : List (List AVal)} (h : ORows σ lo sz l es ps) {e : AVal} {p : List AVal} (he : Own σ sz e p) (fe : Fresh lo e) (le : NoLit e) (hlo : lo ≤ σ.length)
  (hl : ∀ id,e.sid = some id → l.sid ≠ some id) (hx : ∀ (i : Nat) (x : AVal) (id : Nat),es[i]? = some x → e.sid = some id → x.sid ≠ some id) (bytes : Nat) (hb : (es.length + 1) * bytes ≤ 70368744177664) :
  ∃ l' σ2,appendV σ 1 bytes l [e] = some (l',σ2) ∧ ORows σ2 lo sz l' (es ++ [e]) (ps ++ [p]) ∧ Keeps (fun i => l.sid = some i) σ σ2 ∧ ∀ id,l'.sid = some id → l.sid = some id ∨ id = σ.length := by
 obtain ⟨l',σ2,h1,h2,h3,h4,h5⟩ := h.row.append [e] bytes hb
 have old : ∀ (i : Nat) (x : AVal),(es ++ [e])[i]? = some x → (es[i]? = some x ∧ i < es.length) ∨ (i = es.length ∧ x = e) := by
  intro i x hx
  rw [List.getElem?_append] at hx
  split at hx
  ·rename_i hlt; exact .inl ⟨hx,hlt⟩
  ·rename_i hlt
   rw [List.getElem?_singleton] at hx
   split at hx
   ·injection hx with hx; exact .inr ⟨by omega,hx.symm⟩
   ·cases hx
 have hx1 : ∀ (i : Nat) (x : AVal) (id : Nat),(es ++ [e])[i]? = some x → x.sid = some id → id < σ.length ∧ l.sid ≠ some id := by
  intro i x id hx hid
  rcases old i x hx with ⟨hx',_⟩ | ⟨_,rfl⟩
  ·exact ⟨h.lt hx' hid,h.off i x id hx' hid⟩
  ·exact ⟨he.sl.lt hid,hl id hid⟩
 refine ⟨l',σ2,h1,⟨h2,by simp [h.len],?_,?_,?_,?_,?_,?_,h5 (.inr (by simp))⟩,h3,h4⟩
 ·intro i x q hxi hq
  refine Own.keeps (σ := σ) ?_ h3 fun id hid => (hx1 i x id hxi hid).2
  rcases old i x hxi with ⟨hx',hlt⟩ | ⟨rfl,rfl⟩
  ·rw [List.getElem?_append_left (by rw [← h.len]; exact hlt)] at hq
   exact h.one i x q hx' hq
  ·rw [h.len,List.getElem?_append_right (Nat.le_refl _),Nat.sub_self] at hq
   simp at hq; subst hq; exact he
 ·intro i x hxi
  rcases old i x hxi with ⟨hx',_⟩ | ⟨_,rfl⟩
  ·exact h.frs i x hx'
  ·exact fe
 ·intro id hid
  rcases h4 id hid with hh | hh
  ·exact h.frl id hh
  ·omega
 ·intro i j x y id hxi hyi hxs hys
  rcases old i x hxi with ⟨hx',hil⟩ | ⟨hi,hxe⟩ <;> rcases old j y hyi with ⟨hy',hjl⟩ | ⟨hj,hye⟩
  ·exact h.apart i j x y id hx' hy' hxs hys
  ·rw [hye] at hys; exact absurd hxs (hx i x id hx' hys)
  ·rw [hxe] at hxs; exact absurd hys (hx j y id hy' hxs)
  ·omega
 ·intro i x id hxi hid hl'
  obtain ⟨k1,k2⟩ := hx1 i x id hxi hid
  rcases h4 id hl' with hh | hh
  ·exact k2 hh
  ·omega
 ·intro i x hxi
  rcases old i x hxi with ⟨hx',_⟩ | ⟨_,rfl⟩
  ·exact h.lit i x hx'
  ·exact le
theorem ORows.setElem {σ σ' : Store} {lo sz : Nat} {w : AVal} {es : List AVal} {ps : List (List AVal)} (h : ORows σ lo sz w es ps) {i : Nat} {e : AVal} {p : List AVal} (hi : es[i]? = some e) (he : Own σ' sz e p) (hk : Keeps (fun j => e.sid = some j) σ σ') :
  ORows σ' lo sz w es (ps.set i p) := by
 refine ⟨h.row.keeps hk fun j hj hj' => h.off i e j hi hj' hj,by simp [h.len],fun k x q hx hq => ?_,h.frs,h.frl,h.apart,h.off,h.lit,h.litl⟩
 by_cases hki : k = i
 ·subst hki
  rw [hi] at hx; injection hx with hx; subst hx
  rw [List.getElem?_set_self (by rw [← h.len]; exact (List.getElem?_eq_some_iff.1 hi).1)] at hq
  injection hq with hq; subst hq; exact he
 ·rw [List.getElem?_set_ne (fun e => hki e.symm)] at hq
  exact (h.one k x q hx hq).keeps hk fun j hj hj' => hki (h.apart k i x e j hx hi hj hj')
section
variable (d : Nat) (σ : Store)
end
theorem Own.lit1 {σ : Store} {sz : Nat} {e : AVal} {p : List AVal} (he : Own σ sz e p) : fillL 1 false (List.replicate 1 (zel [AVal.nilslice] false)) [(0,e)] = some [e] := by
 rcases he.own with ⟨rfl,_⟩ | ⟨t,rfl⟩ | ⟨id,ep,off,cap,xs,epo,fl,rfl,_⟩ <;> simp
section
variable (d : Nat) (σ : Store)
theorem alonetexts_ok (id : Nat) (c0 c1 c2 c3 c4 : AVal) (h : σ[id]? = some (.cells [c0,c1,c2,c3,c4])) (hc : c1 = .nilslice) : Called CU.cfg d 68 [.ptr id 0] σ fun r σ' => r = .bool true ∧ σ' = σ := by
 subst hc
 refine called_of (fn := CU.a68) rfl (Nat.le_of_ble_eq_true rfl) ?_
 have el : lenSV .nilslice = some 0 := rfl
 have d0 : decide ((0 : Int) < ((0 : Nat) : Int)) = false := rfl
 simp only [CU.a68, CU.o]
 simp -dsimp only [↓WPd,↓Zm,↓Zn,WPu,Za,Zb,Zc,Zd,Ze,Zf,Zg,Zh,Nat.reduceEqDiff,Nat.reduceLT,Zi,Zj,Zk,Zl,Nat.reduceBEq]
 refine loop_rule (fun m vs σ' => σ' = σ ∧ vs = [.ptr id 0,.int .i64 0]) 0 ⟨rfl,?_⟩ ?_
 ·simp -dsimp only [↓WPd,↓Zm,↓Zn,WPu,Za,Zb,Zc,Zd,Ze,Zf,Zg,Zh,Nat.reduceEqDiff,Nat.reduceLT,Zi,Zj,Zk,Zl,Nat.reduceBEq]
 rintro m vs σ' ⟨rfl,rfl⟩
 simp -dsimp only [↓WPd,↓Zm,↓Zn,WPu,Za,Zb,Zc,Zd,Ze,Zf,Zg,Zh,Nat.reduceEqDiff,Nat.reduceLT,Zi,Zj,Zk,Zl,Nat.reduceBEq,faddr_ptr,load_cells h,List.getElem?_cons_zero,List.getElem?_cons_succ,el,d0]
 refine loop_rule (fun m vs σ2 => σ2 = σ' ∧ vs = [.ptr id 0,.nilslice,.int .i64 0]) 0 ⟨rfl,?_⟩ ?_
 ·simp -dsimp only [↓WPd,↓Zm,↓Zn,WPu,Za,Zb,Zc,Zd,Ze,Zf,Zg,Zh,Nat.reduceEqDiff,Nat.reduceLT,Zi,Zj,Zk,Zl,Nat.reduceBEq]
 rintro m vs σ2 ⟨rfl,rfl⟩
 simp -dsimp only [↓WPd,↓Zm,↓Zn,WPu,Za,Zb,Zc,Zd,Ze,Zf,Zg,Zh,Nat.reduceEqDiff,Nat.reduceLT,Zi,Zj,Zk,Zl,Nat.reduceBEq,faddr_ptr,load_cells h,List.getElem?_cons_zero,List.getElem?_cons_succ,el,d0]
 refine loop_rule (fun m vs σ3 => σ3 = σ2 ∧ vs = [.ptr id 0,.nilslice,.int .i64 0]) 0 ⟨rfl,?_⟩ ?_
 ·simp -dsimp only [↓WPd,↓Zm,↓Zn,WPu,Za,Zb,Zc,Zd,Ze,Zf,Zg,Zh,Nat.reduceEqDiff,Nat.reduceLT,Zi,Zj,Zk,Zl,Nat.reduceBEq]
 rintro m vs σ3 ⟨rfl,rfl⟩
 simp -dsimp only [↓WPd,↓Zm,↓Zn,WPu,Za,Zb,Zc,Zd,Ze,Zf,Zg,Zh,Nat.reduceEqDiff,Nat.reduceLT,Zi,Zj,Zk,Zl,Nat.reduceBEq,faddr_ptr,load_cells h,List.getElem?_cons_zero,List.getElem?_cons_succ,el,d0]
theorem aloneints_ok (id : Nat) (c0 c1 c2 c3 c4 : AVal) (h : σ[id]? = some (.cells [c0,c1,c2,c3,c4])) (hc : c2 = .nilslice) : Called CU.cfg d 69 [.ptr id 0] σ fun r σ' => r = .bool true ∧ σ' = σ := by
 subst hc
 refine called_of (fn := CU.a69) rfl (Nat.le_of_ble_eq_true rfl) ?_
 have el : lenSV .nilslice = some 0 := rfl
 have d0 : decide ((0 : Int) < ((0 : Nat) : Int)) = false := rfl
 simp only [CU.a69, CU.o]
 simp -dsimp only [↓WPd,↓Zm,↓Zn,WPu,Za,Zb,Zc,Zd,Ze,Zf,Zg,Zh,Nat.reduceEqDiff,Nat.reduceLT,Zi,Zj,Zk,Zl,Nat.reduceBEq]
 refine loop_rule (fun m vs σ' => σ' = σ ∧ vs = [.ptr id 0,.int .i64 0]) 0 ⟨rfl,?_⟩ ?_
 ·simp -dsimp only [↓WPd,↓Zm,↓Zn,WPu,Za,Zb,Zc,Zd,Ze,Zf,Zg,Zh,Nat.reduceEqDiff,Nat.reduceLT,Zi,Zj,Zk,Zl,Nat.reduceBEq]
 rintro m vs σ' ⟨rfl,rfl⟩
 simp -dsimp only [↓WPd,↓Zm,↓Zn,WPu,Za,Zb,Zc,Zd,Ze,Zf,Zg,Zh,Nat.reduceEqDiff,Nat.reduceLT,Zi,Zj,Zk,Zl,Nat.reduceBEq,faddr_ptr,load_cells h,List.getElem?_cons_zero,List.getElem?_cons_succ,el,d0]
 refine loop_rule (fun m vs σ2 => σ2 = σ' ∧ vs = [.ptr id 0,.nilslice,.int .i64 0]) 0 ⟨rfl,?_⟩ ?_
 ·simp -dsimp only [↓WPd,↓Zm,↓Zn,WPu,Za,Zb,Zc,Zd,Ze,Zf,Zg,Zh,Nat.reduceEqDiff,Nat.reduceLT,Zi,Zj,Zk,Zl,Nat.reduceBEq]
 rintro m vs σ2 ⟨rfl,rfl⟩
 simp -dsimp only [↓WPd,↓Zm,↓Zn,WPu,Za,Zb,Zc,Zd,Ze,Zf,Zg,Zh,Nat.reduceEqDiff,Nat.reduceLT,Zi,Zj,Zk,Zl,Nat.reduceBEq,faddr_ptr,load_cells h,List.getElem?_cons_zero,List.getElem?_cons_succ,el,d0]
 refine loop_rule (fun m vs σ3 => σ3 = σ2 ∧ vs = [.ptr id 0,.nilslice,.int .i64 0]) 0 ⟨rfl,?_⟩ ?_
 ·simp -dsimp only [↓WPd,↓Zm,↓Zn,WPu,Za,Zb,Zc,Zd,Ze,Zf,Zg,Zh,Nat.reduceEqDiff,Nat.reduceLT,Zi,Zj,Zk,Zl,Nat.reduceBEq]
 rintro m vs σ3 ⟨rfl,rfl⟩
 simp -dsimp only [↓WPd,↓Zm,↓Zn,WPu,Za,Zb,Zc,Zd,Ze,Zf,Zg,Zh,Nat.reduceEqDiff,Nat.reduceLT,Zi,Zj,Zk,Zl,Nat.reduceBEq,faddr_ptr,load_cells h,List.getElem?_cons_zero,List.getElem?_cons_succ,el,d0]
theorem alonebytes_ok (id : Nat) (c0 c1 c2 c3 c4 : AVal) (h : σ[id]? = some (.cells [c0,c1,c2,c3,c4])) (hc : c0 = .nilslice) : Called CU.cfg d 67 [.ptr id 0] σ fun r σ' => r = .bool true ∧ σ' = σ := by
 subst hc
 refine called_of (fn := CU.a67) rfl (Nat.le_of_ble_eq_true rfl) ?_
 have el : lenSV .nilslice = some 0 := rfl
 have d0 : decide ((0 : Int) < ((0 : Nat) : Int)) = false := rfl
 simp only [CU.a67, CU.o]
 simp -dsimp only [↓WPd,↓Zm,↓Zn,WPu,Za,Zb,Zc,Zd,Ze,Zf,Zg,Zh,Nat.reduceEqDiff,Nat.reduceLT,Zi,Zj,Zk,Zl,Nat.reduceBEq]
 refine loop_rule (fun m vs σ' => σ' = σ ∧ vs = [.ptr id 0,.int .i64 0]) 0 ⟨rfl,?_⟩ ?_
 ·simp -dsimp only [↓WPd,↓Zm,↓Zn,WPu,Za,Zb,Zc,Zd,Ze,Zf,Zg,Zh,Nat.reduceEqDiff,Nat.reduceLT,Zi,Zj,Zk,Zl,Nat.reduceBEq]
 rintro m vs σ' ⟨rfl,rfl⟩
 simp -dsimp only [↓WPd,↓Zm,↓Zn,WPu,Za,Zb,Zc,Zd,Ze,Zf,Zg,Zh,Nat.reduceEqDiff,Nat.reduceLT,Zi,Zj,Zk,Zl,Nat.reduceBEq,faddr_ptr,load_cells h,List.getElem?_cons_zero,List.getElem?_cons_succ,el,d0]
 refine loop_rule (fun m vs σ2 => σ2 = σ' ∧ vs = [.ptr id 0,.nilslice,.int .i64 0]) 0 ⟨rfl,?_⟩ ?_
 ·simp -dsimp only [↓WPd,↓Zm,↓Zn,WPu,Za,Zb,Zc,Zd,Ze,Zf,Zg,Zh,Nat.reduceEqDiff,Nat.reduceLT,Zi,Zj,Zk,Zl,Nat.reduceBEq]
 rintro m vs σ2 ⟨rfl,rfl⟩
 simp -dsimp only [↓WPd,↓Zm,↓Zn,WPu,Za,Zb,Zc,Zd,Ze,Zf,Zg,Zh,Nat.reduceEqDiff,Nat.reduceLT,Zi,Zj,Zk,Zl,Nat.reduceBEq,faddr_ptr,load_cells h,List.getElem?_cons_zero,List.getElem?_cons_succ,el,d0]
 refine loop_rule (fun m vs σ3 => σ3 = σ2 ∧ vs = [.ptr id 0,.nilslice,.int .i64 0]) 0 ⟨rfl,?_⟩ ?_
 ·simp -dsimp only [↓WPd,↓Zm,↓Zn,WPu,Za,Zb,Zc,Zd,Ze,Zf,Zg,Zh,Nat.reduceEqDiff,Nat.reduceLT,Zi,Zj,Zk,Zl,Nat.reduceBEq]
 rintro m vs σ3 ⟨rfl,rfl⟩
 simp -dsimp only [↓WPd,↓Zm,↓Zn,WPu,Za,Zb,Zc,Zd,Ze,Zf,Zg,Zh,Nat.reduceEqDiff,Nat.reduceLT,Zi,Zj,Zk,Zl,Nat.reduceBEq,faddr_ptr,load_cells h,List.getElem?_cons_zero,List.getElem?_cons_succ,el,d0]
theorem store5 {σ : Store} {id : Nat} {cs : List AVal} (h : σ[id]? = some (.cells cs)) (hl : cs.length = 5) : storeV σ 5 (.ptr id 0) (.agg [.nilslice,.nilslice,.nilslice,.nilslice,.nilslice]) = some (σ.set id (.cells [.nilslice,.nilslice,.nilslice,.nilslice,.nilslice])) := by
 have e : splice cs 0 [.nilslice,.nilslice,.nilslice,.nilslice,.nilslice] = [.nilslice,.nilslice,.nilslice,.nilslice,.nilslice] := by
  simp only [splice,List.take_zero,List.nil_append,List.length_cons,List.length_nil]
  rw [List.drop_eq_nil_of_le (by omega),List.append_nil]
 have e1 : (AVal.agg [.nilslice,.nilslice,.nilslice,.nilslice,.nilslice]).cells = [.nilslice,.nilslice,.nilslice,.nilslice,.nilslice] := rfl
 simp only [storeV,e1,h,e]
 rw [if_pos ⟨rfl,rfl⟩,if_pos (by omega)]
end
end Go.Proofs.YtelpjaejmneplaaGreatDoor.Am
