/-
  The abstract machine and the functions of the law, 7: texts put together.
-/
import Derived.Test.YtelpjaejmneplaaGreatDoorUnifySolvesPkF
set_option linter.unusedVariables false
set_option linter.unusedSimpArgs false
set_option linter.unusedSectionVars false
set_option maxRecDepth 100000
namespace Go.Proofs.YtelpjaejmneplaaGreatDoor.Am
open Go
def stepI (r : StepR) (tv pv : AVal) : List AVal := [.int .i64 r.k,.int .i64 r.v.1,.int .i64 r.v.2,tv,pv]
theorem stepI_one {r : StepR} {tv pv : AVal} (h1 : tv.one = true) (h2 : pv.one = true) : (stepI r tv pv).all AVal.one = true := by
 simp only [stepI,List.all_cons,List.all_nil,h1,h2]; rfl
theorem hcell_at {σ : Store} {l : AVal} {c : Cel} {s : List Cel} (h : SlOf σ 5 l (CC (c :: s))) : iaddrV 5 l (.int .i64 0) = some (addrOf 5 l 0) ∧ loadV σ 5 true (addrOf 5 l 0) = some c.val ∧ ∃ q0 q3,faddrV 0 (addrOf 5 l 0) = some q0 ∧ loadV σ 1 false q0 = some (.int .u8 c.k) ∧ faddrV 3 (addrOf 5 l 0) = some q3 ∧ loadV σ 2 true q3 = some (nmV c.v) := by
 have hi : 0 < (CC (c :: s)).length := by simp
 have hb := (h.addr hi .i64).2
 have hb' : behind σ (addrOf 5 l 0) = some (c.cs,0) := hb
 obtain ⟨q0,p0,b0⟩ := faddr_at hb' 0
 obtain ⟨q3,p3,b3⟩ := faddr_at hb' 3
 exact ⟨h.iaddr hi .i64,h.loadA hi (cs := c.cs) rfl,q0,q3,p0,load_at b0,p3,loadN_at b3 (by simp [Cel.cs])⟩
theorem bindsI (v : Nm) (t : List Cel) (u : AVal) (hu : u.one = true) : fillA [AVal.int IntKind.i64 0,AVal.int IntKind.i64 0,AVal.int IntKind.i64 0,AVal.nilslice,AVal.nilslice] [(0,1,AVal.int IntKind.i64 2),(1,2,nmV v),(3,1,u)] = some (stepI (sBinds v t) u .nilslice) := by
 have hc : u.cells = [u] := by cases u <;> simp_all [AVal.one]
 have h1 : [u].all AVal.one = true := by simp only [List.all_cons,List.all_nil,hu]; rfl
 have h2 : [AVal.int .i64 v.1,.int .i64 v.2].all AVal.one = true := rfl
 simp only [fillA,nm_cells,nmC,hc,h1,h2]
 rfl
theorem partsI (ps : List (List Cel)) (u : AVal) (hu : u.one = true) : fillA [AVal.int IntKind.i64 0,AVal.int IntKind.i64 0,AVal.int IntKind.i64 0,AVal.nilslice,AVal.nilslice] [(0,1,AVal.int IntKind.i64 3),(4,1,u)] = some (stepI ⟨3,(0,0),[],ps⟩ .nilslice u) := by
 have hc : u.cells = [u] := by cases u <;> simp_all [AVal.one]
 have h1 : [u].all AVal.one = true := by simp only [List.all_cons,List.all_nil,hu]; rfl
 simp only [fillA,hc,h1]
 rfl
structure StepSee (σ σ' : Store) (r : StepR) (v : AVal) : Prop where
 grow : Grows σ σ'
 res : ∃ tv pv,v = .agg (stepI r tv pv) ∧ SlOf σ' 5 tv (CC r.t) ∧ Terms σ' pv r.ps
section
variable (d : Nat) (σ : Store)
set_option maxHeartbeats 4000000 in
theorem rstep_ok (rv av bv : AVal) (R : Hp) (a b : List Cel) (h : RefV σ rv R) (hw : WF R) (hR : R.length < 2 ^ 30) (hsa : a.length < 2 ^ 30) (hsb : b.length < 2 ^ 30) (ha : SlOf σ 5 av (CC a)) (hb : SlOf σ 5 bv (CC b)) :
  Called CU.cfg d 35 [rv,av,bv] σ fun v σ' => StepSee σ σ' (stepL R a b) v := by
 refine called_of (fn := CU.a35) rfl (Nat.le_of_ble_eq_true rfl) ?_
 have bld4 : fillA [AVal.int IntKind.i64 0,AVal.int IntKind.i64 0,AVal.int IntKind.i64 0,AVal.nilslice,AVal.nilslice] [(0,1,AVal.int IntKind.i64 4)] = some (stepI sClash .nilslice .nilslice) := rfl
 have bld1 : fillA [AVal.int IntKind.i64 0,AVal.int IntKind.i64 0,AVal.int IntKind.i64 0,AVal.nilslice,AVal.nilslice] [(0,1,AVal.int IntKind.i64 1)] = some (stepI sDone .nilslice .nilslice) := rfl
 simp only [CU.a35, CU.o]
 simp -dsimp only [↓WPd,↓Zm,↓Zn,WPu,Za,Zb,Zc,Zd,Ze,Zf,Zg,Zh,Nat.reduceEqDiff,Nat.reduceLT,Zi,Zj,Zk,Zl,Nat.reduceBEq,WPm]
 have ho : (σ ++ [AObj.cells [.int .i64 0,.int .i64 0,.int .i64 0,.nilslice,.nilslice]])[σ.length]? = some (.cells [.int .i64 0,.int .i64 0,.int .i64 0,.nilslice,.nilslice]) := by simp
 have g0 : Grows σ (σ ++ [AObj.cells [.int .i64 0,.int .i64 0,.int .i64 0,.nilslice,.nilslice]]) := Grows.app _ _
 generalize σ ++ [AObj.cells [.int .i64 0,.int .i64 0,.int .i64 0,.nilslice,.nilslice]] = σ1 at ho g0
 generalize hq : σ.length = i1 at ho
 have h1 := h.grow g0
 have ha1 := ha.grow g0
 have hb1 := hb.grow g0
 have told : ∀ {σ' : Store} (r : StepR) (tv pv : AVal),Grows σ σ' → σ'[i1]? = some (.cells [.int .i64 0,.int .i64 0,.int .i64 0,.nilslice,.nilslice]) → stepL R a b = r → SlOf σ' 5 tv (CC r.t) → Terms σ' pv r.ps →
   storeV σ' 5 (.ptr i1 0) (.agg (stepI r tv pv)) = some (σ'.set i1 (.cells (stepI r tv pv))) ∧ loadV (σ'.set i1 (.cells (stepI r tv pv))) 5 true (.ptr i1 0) = some (.agg (stepI r tv pv)) ∧ StepSee σ (σ'.set i1 (.cells (stepI r tv pv))) (stepL R a b) (.agg (stepI r tv pv)) := by
  intro σ' r tv pv g ho' he ht hp
  have k : Keeps (fun i => i = i1) σ' (σ'.set i1 (.cells (stepI r tv pv))) := Keeps.set _ _ _
  obtain ⟨es,p1,p2⟩ := hp
  refine ⟨storeN_cells ho' rfl rfl (stepI_one ht.one p1.one),loadN_cells (get_set ho') rfl,⟨Keeps.trans g k fun i hi e => by omega,tv,pv,by rw [he],?_,?_⟩⟩
  ·rw [he]; exact ht.keeps k fun j hj e => ht.noCell ho' (e ▸ hj)
  ·rw [he]; exact ⟨es,p1.keeps k fun j hj e => p1.noCell ho' (e ▸ hj),p2.mono fun e t he => he.keeps k fun j hj e' => he.noCell ho' (e' ▸ hj)⟩
 have plain : ∀ {σ' : Store} (r : StepR) (hr : r.t = [] ∧ r.ps = []),Grows σ σ' → σ'[i1]? = some (.cells [.int .i64 0,.int .i64 0,.int .i64 0,.nilslice,.nilslice]) → stepL R a b = r →
   storeV σ' 5 (.ptr i1 0) (.agg (stepI r .nilslice .nilslice)) = some (σ'.set i1 (.cells (stepI r .nilslice .nilslice))) ∧ loadV (σ'.set i1 (.cells (stepI r .nilslice .nilslice))) 5 true (.ptr i1 0) = some (.agg (stepI r .nilslice .nilslice)) ∧ StepSee σ (σ'.set i1 (.cells (stepI r .nilslice .nilslice))) (stepL R a b) (.agg (stepI r .nilslice .nilslice)) :=
  fun r hr g ho' he => told r .nilslice .nilslice g ho' he (by rw [hr.1]; exact SlOf.nil _ _) (by rw [hr.2]; exact Terms.nil _)
 refine calledW_of (rglobal_ok d σ1 av a hsa ha1) ?_
 rintro r σ2 ⟨rfl,g2⟩
 have g02 := g0.trans g2
 cases hga : glob a with
 | false =>
  obtain ⟨p1,p2,p3⟩ := plain sClash ⟨rfl,rfl⟩ g02 (g2.get ho) (by simp [stepL,hga])
  simp -dsimp only [↓WPd,↓Zm,↓Zn,WPu,Za,Zb,Zc,Zd,Ze,Zf,Zg,Zh,Nat.reduceEqDiff,Nat.reduceLT,Zi,Zj,Zk,Zl,Nat.reduceBEq,WPm,bld4,p1,p2]
  exact p3
 | true =>
  simp -dsimp only [↓WPd,↓Zm,↓Zn,WPu,Za,Zb,Zc,Zd,Ze,Zf,Zg,Zh,Nat.reduceEqDiff,Nat.reduceLT,Zi,Zj,Zk,Zl,Nat.reduceBEq,WPm]
  refine calledW_of (rglobal_ok d σ2 bv b hsb (hb1.grow g2)) ?_
  rintro r σ3 ⟨rfl,g3⟩
  have g03 := g02.trans g3
  have ho3 := g3.get (g2.get ho)
  cases hgb : glob b with
  | false =>
   obtain ⟨p1,p2,p3⟩ := plain sClash ⟨rfl,rfl⟩ g03 ho3 (by simp [stepL,hgb])
   simp -dsimp only [↓WPd,↓Zm,↓Zn,WPu,Za,Zb,Zc,Zd,Ze,Zf,Zg,Zh,Nat.reduceEqDiff,Nat.reduceLT,Zi,Zj,Zk,Zl,Nat.reduceBEq,WPm,bld4,p1,p2]
   exact p3
  | true =>
   have gx := deref_glob hw hga
   have gy := deref_glob hw hgb
   have hstep : stepL R a b = stepD (deref R a) (deref R b) := by rw [stepD_eq (glob_right gx) (glob_right gy)]; simp [stepL,hga,hgb]
   have sx := deref_small hw hga
   have sy := deref_small hw hgb
   simp -dsimp only [↓WPd,↓Zm,↓Zn,WPu,Za,Zb,Zc,Zd,Ze,Zf,Zg,Zh,Nat.reduceEqDiff,Nat.reduceLT,Zi,Zj,Zk,Zl,Nat.reduceBEq,WPm]
   refine calledW_of (rderef_ok d σ3 rv av R a (h.grow g03) hw hR (ha.grow g03)) ?_
   rintro xv σ4 ⟨ox,g4⟩
   have g04 := g03.trans g4
   simp -dsimp only [↓WPd,↓Zm,↓Zn,WPu,Za,Zb,Zc,Zd,Ze,Zf,Zg,Zh,Nat.reduceEqDiff,Nat.reduceLT,Zi,Zj,Zk,Zl,Nat.reduceBEq,WPm]
   refine calledW_of (rderef_ok d σ4 rv bv R b (h.grow g04) hw hR (hb.grow g04)) ?_
   rintro yv σ5 ⟨oy,g5⟩
   have g05 := g04.trans g5
   have ox5 := ox.grow g5
   have ho5 := g5.get (g4.get ho3)
   generalize deref R a = x at *
   generalize deref R b = y at *
   obtain ⟨c,s,hcx⟩ : ∃ c s,x = c :: s := List.exists_cons_of_ne_nil (right_ne (glob_right gx))
   obtain ⟨e,s',hey⟩ : ∃ c s,y = c :: s := List.exists_cons_of_ne_nil (right_ne (glob_right gy))
   have hx1 : x.headD default = c := by rw [hcx]; rfl
   have hy1 : y.headD default = e := by rw [hey]; rfl
   have kc4 : ((c.k : Int) == 4) = decide (c.k = 4) := by by_cases h : c.k = 4 <;> simp [h] <;> omega
   have ke4 : ((e.k : Int) == 4) = decide (e.k = 4) := by by_cases h : e.k = 4 <;> simp [h] <;> omega
   have kc3 : ((c.k : Int) != 3) = !decide (c.k = 3) := by by_cases h : c.k = 3 <;> simp [h,bne] <;> omega
   obtain ⟨x1,x2,q0,q3,x3,x4,x5,x6⟩ := hcell_at (hcx ▸ ox5)
   obtain ⟨y1,y2,u0,u3,y3,y4,y5,y6⟩ := hcell_at (hey ▸ oy)
   by_cases hck : c.k = 4
   ·have hdc : decide (c.k = 4) = true := decide_eq_true hck
    by_cases hek : e.k = 4
    ·have hde : decide (e.k = 4) = true := decide_eq_true hek
     have hs2 : stepL R a b = if c.v = e.v then sDone else if nless c.v e.v = true then sBinds e.v x else sBinds c.v y := by
      rw [hstep]; simp only [stepD,hx1,hy1]; rw [if_pos ⟨hck,hek⟩]
     simp -dsimp only [↓WPd,↓Zm,↓Zn,WPu,Za,Zb,Zc,Zd,Ze,Zf,Zg,Zh,Nat.reduceEqDiff,Nat.reduceLT,Zi,Zj,Zk,Zl,Nat.reduceBEq,WPm,x1,x2,x3,x4,x5,x6,y1,y2,y3,y4,y5,y6,kc4,ke4,hdc,hde,nm_eqs]
     refine condP_intro (fun hc => ?_) (fun hc => ?_)
     ·rw [decide_eq_true_eq] at hc
      obtain ⟨p1,p2,p3⟩ := plain sDone ⟨rfl,rfl⟩ g05 ho5 (by rw [hs2,if_pos hc])
      simp -dsimp only [↓WPd,↓Zm,↓Zn,WPu,Za,Zb,Zc,Zd,Ze,Zf,Zg,Zh,Nat.reduceEqDiff,Nat.reduceLT,Zi,Zj,Zk,Zl,Nat.reduceBEq,WPm,bld1,p1,p2]
      exact p3
     ·rw [decide_eq_false_iff_not] at hc
      simp -dsimp only [↓WPd,↓Zm,↓Zn,WPu,Za,Zb,Zc,Zd,Ze,Zf,Zg,Zh,Nat.reduceEqDiff,Nat.reduceLT,Zi,Zj,Zk,Zl,Nat.reduceBEq,WPm,x1,x2,x3,x4,x5,x6,y1,y2,y3,y4,y5,y6]
      refine calledW_of (rless_ok d σ5 c.v e.v) ?_
      rintro r σ6 ⟨rfl,g6⟩
      obtain ⟨x1,x2,q0,q3,x3,x4,x5,x6⟩ := hcell_at ((hcx ▸ ox5).grow g6)
      obtain ⟨y1,y2,u0,u3,y3,y4,y5,y6⟩ := hcell_at ((hey ▸ oy).grow g6)
      have ho6 := g6.get ho5
      cases hle : nless c.v e.v with
      | true =>
       obtain ⟨p1,p2,p3⟩ := told (sBinds e.v x) xv .nilslice (g05.trans g6) ho6 (by rw [hs2,if_neg hc,if_pos hle]) (ox5.grow g6) (Terms.nil _)
       simp -dsimp only [↓WPd,↓Zm,↓Zn,WPu,Za,Zb,Zc,Zd,Ze,Zf,Zg,Zh,Nat.reduceEqDiff,Nat.reduceLT,Zi,Zj,Zk,Zl,Nat.reduceBEq,WPm,x1,x2,x3,x4,x5,x6,y1,y2,y3,y4,y5,y6,bindsI e.v x xv ox5.one,p1,p2]
       exact p3
      | false =>
       obtain ⟨p1,p2,p3⟩ := told (sBinds c.v y) yv .nilslice (g05.trans g6) ho6 (by rw [hs2,if_neg hc,if_neg (by rw [hle]; simp)]) (oy.grow g6) (Terms.nil _)
       simp -dsimp only [↓WPd,↓Zm,↓Zn,WPu,Za,Zb,Zc,Zd,Ze,Zf,Zg,Zh,Nat.reduceEqDiff,Nat.reduceLT,Zi,Zj,Zk,Zl,Nat.reduceBEq,WPm,x1,x2,x3,x4,x5,x6,y1,y2,y3,y4,y5,y6,bindsI c.v y yv oy.one,p1,p2]
       exact p3
    ·have hde : decide (e.k = 4) = false := decide_eq_false hek
     obtain ⟨p1,p2,p3⟩ := told (sBinds c.v y) yv .nilslice g05 ho5 (by rw [hstep]; simp only [stepD,hx1,hy1]; rw [if_neg (fun h => hek h.2),if_pos hck]) oy (Terms.nil _)
     simp -dsimp only [↓WPd,↓Zm,↓Zn,WPu,Za,Zb,Zc,Zd,Ze,Zf,Zg,Zh,Nat.reduceEqDiff,Nat.reduceLT,Zi,Zj,Zk,Zl,Nat.reduceBEq,WPm,x1,x2,x3,x4,x5,x6,y1,y2,y3,y4,y5,y6,kc4,ke4,hdc,hde,bindsI c.v y yv oy.one,p1,p2]
     exact p3
   ·have hdc : decide (c.k = 4) = false := decide_eq_false hck
    by_cases hek : e.k = 4
    ·have hde : decide (e.k = 4) = true := decide_eq_true hek
     obtain ⟨p1,p2,p3⟩ := told (sBinds e.v x) xv .nilslice g05 ho5 (by rw [hstep]; simp only [stepD,hx1,hy1]; rw [if_neg (fun h => hck h.1),if_neg hck,if_pos hek]) ox5 (Terms.nil _)
     simp -dsimp only [↓WPd,↓Zm,↓Zn,WPu,Za,Zb,Zc,Zd,Ze,Zf,Zg,Zh,Nat.reduceEqDiff,Nat.reduceLT,Zi,Zj,Zk,Zl,Nat.reduceBEq,WPm,x1,x2,x3,x4,x5,x6,y1,y2,y3,y4,y5,y6,kc4,ke4,hdc,hde,bindsI e.v x xv ox5.one,p1,p2]
     exact p3
    ·have hde : decide (e.k = 4) = false := decide_eq_false hek
     have hs2 : stepL R a b = if c ≠ e then sClash else if c.k ≠ 3 then sDone else match pairs (args x) (args y) with | some ps => ⟨3,(0,0),[],ps⟩ | none => sClash := by
      rw [hstep]; simp only [stepD,hx1,hy1]; rw [if_neg (fun h => hck h.1),if_neg hck,if_neg hek] <;> rfl
     by_cases hce : c = e
     ·have hdce : decide (c = e) = true := decide_eq_true hce
      by_cases hc3 : c.k = 3
      ·have hd3 : decide (c.k = 3) = true := decide_eq_true hc3
       have hs3 : stepL R a b = match pairs (args x) (args y) with | some ps => ⟨3,(0,0),[],ps⟩ | none => sClash := by
        rw [hs2,if_neg (fun h => h hce),if_neg (fun h => h hc3)] <;> rfl
       have hlen : (args x).length = (args y).length := by
        rw [args_len (glob_right gx) (by rw [hx1]; exact hc3),args_len (glob_right gy) (by rw [hy1,← hce]; exact hc3),hx1,hy1,hce]
       have hl8 := args_len8 x
       simp -dsimp only [↓WPd,↓Zm,↓Zn,WPu,Za,Zb,Zc,Zd,Ze,Zf,Zg,Zh,Nat.reduceEqDiff,Nat.reduceLT,Zi,Zj,Zk,Zl,Nat.reduceBEq,WPm,x1,x2,x3,x4,x5,x6,y1,y2,y3,y4,y5,y6,kc4,ke4,hdc,hde,Cel.eqs,hdce,kc3,hd3]
       refine calledW_of (rargs_ok d σ5 xv x sx.1 ox5) ?_
       rintro pv σ6 ⟨g6,es,op⟩
       simp -dsimp only [↓WPd,↓Zm,↓Zn,WPu,Za,Zb,Zc,Zd,Ze,Zf,Zg,Zh,Nat.reduceEqDiff,Nat.reduceLT,Zi,Zj,Zk,Zl,Nat.reduceBEq,WPm]
       refine calledW_of (rargs_ok d σ6 yv y sy.1 (oy.grow g6)) ?_
       rintro qv σ7 ⟨g7,fs,oq⟩
       have tp := (ORows.terms op).grow g7
       have tq := ORows.terms oq
       have ho7 := g7.get (g6.get ho5)
       have g07 := (g05.trans g6).trans g7
       have lp := tp.len
       simp -dsimp only [↓WPd,↓Zm,↓Zn,WPu,Za,Zb,Zc,Zd,Ze,Zf,Zg,Zh,Nat.reduceEqDiff,Nat.reduceLT,Zi,Zj,Zk,Zl,Nat.reduceBEq,WPm]
       refine loop_rule2 (fun m vs σ' => ∃ (k : Nat) (o : AVal) (os : List AVal),k ≤ (args x).length ∧ m = (args x).length - k ∧ vs = [.ptr i1 0,pv,qv,o,.int .i64 (k : Nat)] ∧ Grows σ7 σ' ∧ ORows σ' σ7.length 5 o os (((List.zipWith (fun p q => makeT [61] [p,q]) (args x) (args y)).take k).map CC) ∧
         (∀ (i : Nat) (hp : i < (args x).length) (hq : i < (args y).length),i < k → makeE [61] [(args x)[i],(args y)[i]] = 0))
        [6,11] (fun e vs σ' => (e = .exit 1 ∧ ∃ o os,vs = [.ptr i1 0,o] ∧ Grows σ7 σ' ∧ ORows σ' σ7.length 5 o os ((List.zipWith (fun p q => makeT [61] [p,q]) (args x) (args y)).map CC) ∧ pairs (args x) (args y) = some (List.zipWith (fun p q => makeT [61] [p,q]) (args x) (args y))) ∨
         (e = .ret ∧ ∃ o,vs = [.ptr i1 0,o] ∧ loadV σ' 5 true (.ptr i1 0) = some (.agg (stepI sClash .nilslice .nilslice)) ∧ StepSee σ σ' (stepL R a b) (.agg (stepI sClash .nilslice .nilslice)))) (args x).length
        ⟨0,.nilslice,[],Nat.zero_le _,rfl,?_,Keeps.refl _ _,ORows.nil _ _ _,fun i _ _ h => by omega⟩ ?_ ?_
       ·simp -dsimp only [↓WPd,↓Zm,↓Zn,WPu,Za,Zb,Zc,Zd,Ze,Zf,Zg,Zh,Nat.reduceEqDiff,Nat.reduceLT,Zi,Zj,Zk,Zl,Nat.reduceBEq]; rfl
       ·rintro m vs σ' ⟨k,o,os,hk,rfl,rfl,g,oo,hall⟩
        have hos := oo.len
        rw [List.length_map,List.length_take,List.length_zipWith] at hos
        have lp' := (tp.grow g).len
        simp -dsimp only [↓WPd,↓Zm,↓Zn,WPu,Za,Zb,Zc,Zd,Ze,Zf,Zg,Zh,Nat.reduceEqDiff,Nat.reduceLT,Zi,Zj,Zk,Zl,Nat.reduceBEq,lp']
        refine condP_dec (fun h => ?_) (fun h => ?_)
        ·have hk' : k < (args x).length := by omega
         have hk2 : k < (args y).length := by omega
         obtain ⟨pe,pe1,pe2,pe3⟩ := (tp.grow g).at hk'
         obtain ⟨qe,qe1,qe2,qe3⟩ := (tq.grow g).at hk2
         have sp := args_right (List.getElem_mem hk')
         have sq := args_right (List.getElem_mem hk2)
         have tl : ∀ tg,Terms σ' (.fslice tg true 1 [pe,qe]) [(args x)[k],(args y)[k]] := fun tg => ⟨[pe,qe],SlOf.fs _ _ _ _ _,.cons pe3 (.cons qe3 .nil)⟩
         simp -dsimp only [↓WPd,↓Zm,↓Zn,WPu,Za,Zb,Zc,Zd,Ze,Zf,Zg,Zh,Nat.reduceEqDiff,Nat.reduceLT,Zi,Zj,Zk,Zl,Nat.reduceBEq,WPm,pe1,pe2,qe1,qe2,lit2_ok pe3.one qe3.one]
         refine calledW_of (rmake_ok d σ' [61] _ [(args x)[k],(args y)[k]] (by simp) (fun t ht => by
          simp only [List.mem_cons,List.not_mem_nil,or_false] at ht
          rcases ht with rfl | rfl
          ·have := sp.2.1; omega
          ·have := sq.2.1; omega) (tl _)) ?_
         rintro r σ'' ⟨u,rfl,g2',ou,fu,nu⟩
         have g12 := Grows.trans g g2'
         by_cases hme : makeE [61] [(args x)[k],(args y)[k]] = 0
         ·have ne : ((0 : Int) != 0) = false := rfl
          obtain ⟨o',σ3',c1,c2,c3⟩ := oo.push g.1 g2' ou fu nu 24 (by omega)
          simp -dsimp only [↓WPd,↓Zm,↓Zn,WPu,Za,Zb,Zc,Zd,Ze,Zf,Zg,Zh,Nat.reduceEqDiff,Nat.reduceLT,Zi,Zj,Zk,Zl,Nat.reduceBEq,WPm,List.getElem?_cons_zero,List.getElem?_cons_succ,hme,ne,lit1_ok ou.one,elems1,c1]
          refine ⟨(args x).length - (k + 1),by omega,k + 1,o',os ++ [u],by omega,rfl,by rw [wrap_i64 (by omega) (by omega),Int.natCast_add,Int.natCast_one],Keeps.trans g12 c3 fun i hi e => by omega,?_,fun i hp hq hik => ?_⟩
          ·have hz : k < (List.zipWith (fun p q => makeT [61] [p,q]) (args x) (args y)).length := by rw [List.length_zipWith]; omega
           rw [List.take_succ_eq_append_getElem hz,List.map_append]
           simp only [List.map_cons,List.map_nil,List.getElem_zipWith]
           exact c2
          ·by_cases e : i = k
           ·subst e; exact hme
           ·exact hall i hp hq (by omega)
         ·have ne : (makeE [61] [(args x)[k],(args y)[k]] != 0) = true := by simpa using hme
          obtain ⟨p1,p2,p3⟩ := plain sClash ⟨rfl,rfl⟩ (g07.trans g12) (g12.get ho7) (by rw [hs3,pairs_bad k hk' hk2 hme])
          simp -dsimp only [↓WPd,↓Zm,↓Zn,WPu,Za,Zb,Zc,Zd,Ze,Zf,Zg,Zh,Nat.reduceEqDiff,Nat.reduceLT,Zi,Zj,Zk,Zl,Nat.reduceBEq,WPm,List.getElem?_cons_zero,List.getElem?_cons_succ,ne,bld4,p1]
          exact .inr ⟨_,rfl,p2,p3⟩
        ·have hk3 : k = (args x).length := by omega
         subst hk3
         simp -dsimp only [↓WPd,↓Zm,↓Zn,WPu,Za,Zb,Zc,Zd,Ze,Zf,Zg,Zh,Nat.reduceEqDiff,Nat.reduceLT,Zi,Zj,Zk,Zl,Nat.reduceBEq]
         have hzl : (List.zipWith (fun p q => makeT [61] [p,q]) (args x) (args y)).length ≤ (args x).length := by rw [List.length_zipWith]; omega
         rw [List.take_of_length_le hzl] at oo
         exact .inl ⟨o,os,rfl,g,oo,pairs_len hlen fun i hp hq => hall i hp hq hp⟩
       ·rintro e' σ' env (⟨rfl,o,os,hv,g,oo,hp⟩ | ⟨rfl,o,hv,p2,p3⟩)
        ·simp only [List.map_cons,List.map_nil,List.cons.injEq,and_true] at hv
         obtain ⟨v6,v11⟩ := hv
         obtain ⟨p1,p2,p3⟩ := told ⟨3,(0,0),[],List.zipWith (fun p q => makeT [61] [p,q]) (args x) (args y)⟩ .nilslice o (g07.trans g) (g.get ho7) (by rw [hs3,hp]) (SlOf.nil _ _) (ORows.terms oo)
         simp -dsimp only [↓WPd,↓Zm,↓Zn,WPu,Za,Zb,Zc,Zd,Ze,Zf,Zg,Zh,Nat.reduceEqDiff,Nat.reduceLT,Zi,Zj,Zk,Zl,Nat.reduceBEq,WPm,v6,v11,partsI (List.zipWith (fun p q => makeT [61] [p,q]) (args x) (args y)) o oo.row.one,p1,p2]
         exact p3
        ·simp only [List.map_cons,List.map_nil,List.cons.injEq,and_true] at hv
         obtain ⟨v6,v11⟩ := hv
         simp -dsimp only [↓WPd,↓Zm,↓Zn,WPu,Za,Zb,Zc,Zd,Ze,Zf,Zg,Zh,Nat.reduceEqDiff,Nat.reduceLT,Zi,Zj,Zk,Zl,Nat.reduceBEq,WPm,v6,p2]
         exact p3
      ·have hd3 : decide (c.k = 3) = false := decide_eq_false hc3
       obtain ⟨p1,p2,p3⟩ := plain sDone ⟨rfl,rfl⟩ g05 ho5 (by rw [hs2,if_neg (fun h => h hce),if_pos hc3])
       simp -dsimp only [↓WPd,↓Zm,↓Zn,WPu,Za,Zb,Zc,Zd,Ze,Zf,Zg,Zh,Nat.reduceEqDiff,Nat.reduceLT,Zi,Zj,Zk,Zl,Nat.reduceBEq,WPm,x1,x2,x3,x4,x5,x6,y1,y2,y3,y4,y5,y6,kc4,ke4,hdc,hde,Cel.eqs,hdce,kc3,hd3,bld1,p1,p2]
       exact p3
     ·have hdce : decide (c = e) = false := decide_eq_false hce
      obtain ⟨p1,p2,p3⟩ := plain sClash ⟨rfl,rfl⟩ g05 ho5 (by rw [hs2,if_pos hce])
      simp -dsimp only [↓WPd,↓Zm,↓Zn,WPu,Za,Zb,Zc,Zd,Ze,Zf,Zg,Zh,Nat.reduceEqDiff,Nat.reduceLT,Zi,Zj,Zk,Zl,Nat.reduceBEq,WPm,x1,x2,x3,x4,x5,x6,y1,y2,y3,y4,y5,y6,kc4,ke4,hdc,hde,Cel.eqs,hdce,bld4,p1,p2]
      exact p3
end
structure HandedT (σ : Store) (v : AVal) (xs : List (List Cel)) (lo hi : Nat) : Prop where
 row : ∃ es,Own σ 1 v es ∧ Two (fun e x => ∃ id,lo ≤ id ∧ id < hi ∧ HandedC σ e x id) es xs
 frs : ∀ j,v.sid = some j → lo ≤ j ∧ j < hi
theorem HandedT.keep {σ σ' : Store} {v : AVal} {xs : List (List Cel)} {lo hi : Nat} (h : HandedT σ v xs lo hi) {M : Nat → Prop} (k : Keeps M σ σ') (hm : ∀ j,lo ≤ j → j < hi → ¬ M j) : HandedT σ' v xs lo hi := by
 obtain ⟨⟨es,h1,h2⟩,h3⟩ := h
 exact ⟨⟨es,h1.keeps k fun j hj => hm j (h3 j hj).1 (h3 j hj).2,h2.mono fun e x ⟨id,a,b,c⟩ => ⟨id,a,b,c.keep k (hm id a b)⟩⟩,h3⟩
theorem HandedT.terms {σ : Store} {v : AVal} {xs : List (List Cel)} {lo hi : Nat} (h : HandedT σ v xs lo hi) : Terms σ v xs := by
 obtain ⟨⟨es,h1,h2⟩,-⟩ := h
 exact ⟨es,h1.sl,h2.mono fun e x ⟨id,_,_,c⟩ => c.sl⟩
section
variable (d : Nat) (σ : Store)
theorem handterms_ok (l : AVal) (xs : List (List Cel)) (hn : xs.length < 2 ^ 30) (hx : ∀ x ∈ xs,x.length < 2 ^ 30) (hl : Terms σ l xs) : Called CU.cfg d 10 [l] σ fun v σ' => HandedT σ' v xs σ.length σ'.length ∧ Grows σ σ' := by
 refine called_of (fn := CU.a10) rfl (Nat.le_of_ble_eq_true rfl) ?_
 simp only [CU.a10, CU.o]
 have ll := hl.len
 simp -dsimp only [↓WPd,↓Zm,↓Zn,WPu,Za,Zb,Zc,Zd,Ze,Zf,Zg,Zh,Nat.reduceEqDiff,Nat.reduceLT,Zi,Zj,Zk,Zl,Nat.reduceBEq]
 refine loop_rule2 (fun m vs σ' => ∃ (k : Nat) (o : AVal) (es : List AVal),k ≤ xs.length ∧ m = xs.length - k ∧ vs = [l,o,.int .i64 (k : Nat)] ∧ Grows σ σ' ∧ Own σ' 1 o es ∧ Fresh σ.length o ∧ Two (fun e x => ∃ id,σ.length ≤ id ∧ id < σ'.length ∧ HandedC σ' e x id) es (xs.take k))
  [3] (fun e vs σ' => e = .exit 0 ∧ ∃ (o : AVal) (es : List AVal),vs = [o] ∧ Grows σ σ' ∧ Own σ' 1 o es ∧ Fresh σ.length o ∧ Two (fun e x => ∃ id,σ.length ≤ id ∧ id < σ'.length ∧ HandedC σ' e x id) es xs) xs.length
  ⟨0,.nilslice,[],Nat.zero_le _,rfl,?_,Keeps.refl _ _,Own.nil _ _,Fresh.nil _,.nil⟩ ?_ ?_
 ·simp -dsimp only [↓WPd,↓Zm,↓Zn,WPu,Za,Zb,Zc,Zd,Ze,Zf,Zg,Zh,Nat.reduceEqDiff,Nat.reduceLT,Zi,Zj,Zk,Zl,Nat.reduceBEq]; rfl
 ·rintro m vs σ' ⟨k,o,es,hk,rfl,rfl,g,oo,fo,tw⟩
  simp -dsimp only [↓WPd,↓Zm,↓Zn,WPu,Za,Zb,Zc,Zd,Ze,Zf,Zg,Zh,Nat.reduceEqDiff,Nat.reduceLT,Zi,Zj,Zk,Zl,Nat.reduceBEq,ll]
  refine condP_dec (fun hc => ?_) (fun hc => ?_)
  ·have hk' : k < xs.length := by omega
   obtain ⟨e,e1,e2,e3⟩ := (hl.grow g).at hk'
   simp -dsimp only [↓WPd,↓Zm,↓Zn,WPu,Za,Zb,Zc,Zd,Ze,Zf,Zg,Zh,Nat.reduceEqDiff,Nat.reduceLT,Zi,Zj,Zk,Zl,Nat.reduceBEq,e1,e2]
   refine calledW_of (handc_ok d σ' e xs[k] (hx _ (List.getElem_mem hk')) e3) ?_
   rintro u σ2 ⟨hu,g2⟩
   have ht : xs.take (k + 1) = xs.take k ++ [xs[k]] := List.take_succ_eq_append_getElem hk'
   have hel := tw.len
   rw [List.length_take,Nat.min_eq_left (by omega)] at hel
   obtain ⟨o',σ3,a1,a2,a3,a4,a5⟩ := (oo.grow g2).append [u] 24 (by simp; omega)
   have l1 := lit1_ok (a := u) hu.sl.one
   have el := fun tg => elems_fs 1 tg true σ2 [u]
   have kC : ∀ {e : AVal} {x : List Cel} {id : Nat},HandedC σ2 e x id → HandedC σ3 e x id := fun h => h.keep a3 fun hj => (oo.grow g2).noArr h.obj (by decide) hj
   have hlt := (List.getElem?_eq_some_iff.1 hu.obj).1
   simp -dsimp only [↓WPd,↓Zm,↓Zn,WPu,Za,Zb,Zc,Zd,Ze,Zf,Zg,Zh,Nat.reduceEqDiff,Nat.reduceLT,Zi,Zj,Zk,Zl,Nat.reduceBEq,l1,el,a1]
   refine ⟨xs.length - (k + 1),by omega,k + 1,o',es ++ [u],by omega,rfl,by rw [wrap_i64 (by omega) (by omega),Int.natCast_add,Int.natCast_one],Keeps.trans (g.trans g2) a3 fun i hi e => by have := fo i e; omega,a2,fun i hi => ?_,?_⟩
   ·rcases a4 i hi with e | e
    ·exact fo i e
    ·have := (g.trans g2).1; omega
   ·rw [ht]
    refine (tw.mono fun e x ⟨id,q1,q2,q3⟩ => ⟨id,q1,by have := g2.1; have := a3.1; omega,kC (q3.keep g2 fun h => h)⟩).push ⟨σ'.length,g.1,by have := a3.1; omega,kC hu⟩
  ·have : k = xs.length := by omega
   subst this
   rw [List.take_length] at tw
   simp -dsimp only [↓WPd,↓Zm,↓Zn,WPu,Za,Zb,Zc,Zd,Ze,Zf,Zg,Zh,Nat.reduceEqDiff,Nat.reduceLT,Zi,Zj,Zk,Zl,Nat.reduceBEq]
   exact ⟨o,es,rfl,g,oo,fo,tw⟩
 ·rintro e σ' env ⟨rfl,o,es,hv,g,oo,fo,tw⟩
  simp only [List.map_cons,List.map_nil,List.cons.injEq,and_true] at hv
  simp -dsimp only [↓WPd,↓Zm,↓Zn,WPu,Za,Zb,Zc,Zd,Ze,Zf,Zg,Zh,Nat.reduceEqDiff,Nat.reduceLT,Zi,Zj,Zk,Zl,Nat.reduceBEq,hv]
  exact ⟨⟨⟨es,oo,tw⟩,fun j hj => ⟨fo j hj,oo.sl.lt hj⟩⟩,g⟩
theorem keptterms_ok (v l : AVal) (xs : List (List Cel)) (lo hi : Nat) (hn : xs.length < 2 ^ 30) (hx : ∀ x ∈ xs,x.length < 2 ^ 30) (hv : HandedT σ v xs lo hi) (hl : Terms σ l xs) : Called CU.cfg d 22 [v,l] σ fun r σ' => r = .bool true ∧ σ' = σ := by
 refine called_of (fn := CU.a22) rfl (Nat.le_of_ble_eq_true rfl) ?_
 simp only [CU.a22, CU.o]
 have ll := hl.len
 have lv := hv.terms.len
 have n1 : ((xs.length : Int) != (xs.length : Int)) = false := by simp
 simp -dsimp only [↓WPd,↓Zm,↓Zn,WPu,Za,Zb,Zc,Zd,Ze,Zf,Zg,Zh,Nat.reduceEqDiff,Nat.reduceLT,Zi,Zj,Zk,Zl,Nat.reduceBEq,ll,lv,n1]
 refine loop_rule (fun m vs σ' => ∃ k : Nat,k ≤ xs.length ∧ m = xs.length - k ∧ σ' = σ ∧ vs = [v,l,.int .i64 (k : Nat)]) xs.length ⟨0,Nat.zero_le _,rfl,rfl,?_⟩ ?_
 ·simp -dsimp only [↓WPd,↓Zm,↓Zn,WPu,Za,Zb,Zc,Zd,Ze,Zf,Zg,Zh,Nat.reduceEqDiff,Nat.reduceLT,Zi,Zj,Zk,Zl,Nat.reduceBEq]; rfl
 ·rintro m vs σ' ⟨k,hk,rfl,rfl,rfl⟩
  simp -dsimp only [↓WPd,↓Zm,↓Zn,WPu,Za,Zb,Zc,Zd,Ze,Zf,Zg,Zh,Nat.reduceEqDiff,Nat.reduceLT,Zi,Zj,Zk,Zl,Nat.reduceBEq,ll]
  refine condP_dec (fun hc => ?_) (fun hc => ?_)
  ·have hk' : k < xs.length := by omega
   obtain ⟨e,e1,e2,e3⟩ := hl.at hk'
   obtain ⟨⟨es,h1,h2⟩,-⟩ := hv
   have hke : k < es.length := by rw [h2.len]; exact hk'
   obtain ⟨u,u1,id,u2,u3,u4⟩ := h2.get hk'
   have hu : es[k] = u := by rw [List.getElem?_eq_getElem hke] at u1; exact Option.some.inj u1
   have b1 := h1.sl.iaddr hke .i64
   have b2 := h1.sl.load1 hke (by rw [hu]; exact u4.sl.one) 1
   rw [hu] at b2
   simp -dsimp only [↓WPd,↓Zm,↓Zn,WPu,Za,Zb,Zc,Zd,Ze,Zf,Zg,Zh,Nat.reduceEqDiff,Nat.reduceLT,Zi,Zj,Zk,Zl,Nat.reduceBEq,e1,e2,b1,b2]
   refine calledW_of (keptc_ok d σ' u e xs[k] id (hx _ (List.getElem_mem hk')) u4 e3) ?_
   rintro r σ2 ⟨rfl,rfl⟩
   simp -dsimp only [↓WPd,↓Zm,↓Zn,WPu,Za,Zb,Zc,Zd,Ze,Zf,Zg,Zh,Nat.reduceEqDiff,Nat.reduceLT,Zi,Zj,Zk,Zl,Nat.reduceBEq]
   exact ⟨xs.length - (k + 1),by omega,k + 1,by omega,rfl,by rw [wrap_i64 (by omega) (by omega),Int.natCast_add,Int.natCast_one]⟩
  ·simp -dsimp only [↓WPd,↓Zm,↓Zn,WPu,Za,Zb,Zc,Zd,Ze,Zf,Zg,Zh,Nat.reduceEqDiff,Nat.reduceLT,Zi,Zj,Zk,Zl,Nat.reduceBEq]
theorem taketerms_ok (c1 c2 c3 c4 : AVal) (lo lo' id : Nat) (w l : AVal) (es es2 : List AVal) (ps ps2 : List (List Cel)) (h : BookC c1 c2 c3 c4 lo σ id w es ps) (r : ORows σ lo' 5 l es2 (ps2.map CC)) (hl : lo ≤ lo') (hlo : lo' ≤ σ.length) (hn : ps.length + ps2.length < 2 ^ 30)
  (ap1 : ∀ (i : Nat) (x : AVal) (j : Nat),es2[i]? = some x → x.sid = some j → w.sid ≠ some j) (ap2 : ∀ (i : Nat) (x : AVal) (k : Nat) (y : AVal) (j : Nat),es2[i]? = some x → es[k]? = some y → x.sid = some j → y.sid ≠ some j) (ap3 : ∀ j,l.sid = some j → w.sid ≠ some j) :
  Called CU.cfg d 37 [.ptr id 0,l] σ fun _ σ' => Keeps (fun i => i = id ∨ w.sid = some i) σ σ' ∧ ∃ w',BookC c1 c2 c3 c4 lo σ' id w' (es ++ es2) (ps ++ ps2) ∧ (∀ j,w'.sid = some j → w.sid = some j ∨ σ.length ≤ j) := by
 refine called_of (fn := CU.a37) rfl (Nat.le_of_ble_eq_true rfl) ?_
 simp only [CU.a37, CU.o]
 have hlen := r.len
 rw [List.length_map] at hlen
 have lel := h.rows.len
 rw [List.length_map] at lel
 have hr : ∀ s : FS,resultsA [] s = some (.tuple []) := fun _ => rfl
 simp -dsimp only [↓WPd,↓Zm,↓Zn,WPu,Za,Zb,Zc,Zd,Ze,Zf,Zg,Zh,Nat.reduceEqDiff,Nat.reduceLT,Zi,Zj,Zk,Zl,Nat.reduceBEq]
 refine loop_rule2 (fun m vs σ' => ∃ (k : Nat) (w' : AVal),k ≤ es2.length ∧ m = es2.length - k ∧ vs = [.ptr id 0,l,.int .i64 (k : Nat)] ∧ Keeps (fun i => i = id ∨ w.sid = some i) σ σ' ∧ BookC c1 c2 c3 c4 lo σ' id w' (es ++ es2.take k) (ps ++ ps2.take k) ∧ (∀ j,w'.sid = some j → w.sid = some j ∨ σ.length ≤ j))
  [] (fun e vs σ' => e = .exit 0 ∧ Keeps (fun i => i = id ∨ w.sid = some i) σ σ' ∧ ∃ w',BookC c1 c2 c3 c4 lo σ' id w' (es ++ es2) (ps ++ ps2) ∧ (∀ j,w'.sid = some j → w.sid = some j ∨ σ.length ≤ j)) es2.length
  ⟨0,w,Nat.zero_le _,rfl,?_,Keeps.refl _ _,by simpa using h,fun j hj => .inl hj⟩ ?_ ?_
 ·simp -dsimp only [↓WPd,↓Zm,↓Zn,WPu,Za,Zb,Zc,Zd,Ze,Zf,Zg,Zh,Nat.reduceEqDiff,Nat.reduceLT,Zi,Zj,Zk,Zl,Nat.reduceBEq]; rfl
 ·rintro m vs σ' ⟨k,w',hk,rfl,rfl,K,B,hw'⟩
  have sl : SlOf σ' 1 l es2 := r.row.sl.keeps K fun j hj m => m.elim (fun e => r.row.noCell h.obj (e ▸ hj)) (fun e => ap3 j hj e)
  have ll := sl.len
  simp -dsimp only [↓WPd,↓Zm,↓Zn,WPu,Za,Zb,Zc,Zd,Ze,Zf,Zg,Zh,Nat.reduceEqDiff,Nat.reduceLT,Zi,Zj,Zk,Zl,Nat.reduceBEq,ll]
  refine condP_dec (fun hc => ?_) (fun hc => ?_)
  ·have hk' : k < es2.length := by omega
   have hk2 : k < ps2.length := by omega
   have hek : es2[k]? = some es2[k] := List.getElem?_eq_getElem hk'
   have oe0 := r.one k es2[k] (CC ps2[k]) hek (by rw [List.getElem?_map,List.getElem?_eq_getElem hk2]; rfl)
   have oe : Own σ' 5 es2[k] (CC ps2[k]) := oe0.keeps K fun j hj m => m.elim (fun e => oe0.noCell h.obj (e ▸ hj)) (fun e => ap1 k _ j hek hj e)
   have e1 := sl.iaddr hk' .i64
   have e2 := sl.load1 hk' oe.one 1
   simp -dsimp only [↓WPd,↓Zm,↓Zn,WPu,Za,Zb,Zc,Zd,Ze,Zf,Zg,Zh,Nat.reduceEqDiff,Nat.reduceLT,Zi,Zj,Zk,Zl,Nat.reduceBEq,e1,e2]
   refine calledW_of (takecells_ok d σ' c1 c2 c3 c4 lo id w' es2[k] _ _ ps2[k] B oe ((r.frs k _ hek).le hl) (by have := K.1; omega) (r.lit k _ hek) (by simp; omega) (fun j hj e => ?_) (fun i x j hx hj e => ?_)) ?_
   ·rcases hw' j e with e' | e'
    ·exact ap1 k _ j hek hj e'
    ·have := oe0.sl.lt hj; omega
   ·by_cases hi : i < es.length
    ·rw [List.getElem?_append_left hi] at hx
     exact ap2 k _ i x j hek hx hj e
    ·rw [List.getElem?_append_right (by omega),List.getElem?_take] at hx
     split at hx
     ·rename_i hlt
      have := r.apart k (i - es.length) _ x j hek hx hj e
      omega
     ·cases hx
   rintro r' σ2 ⟨K2,w2,B2,hw2⟩
   simp -dsimp only [↓WPd,↓Zm,↓Zn,WPu,Za,Zb,Zc,Zd,Ze,Zf,Zg,Zh,Nat.reduceEqDiff,Nat.reduceLT,Zi,Zj,Zk,Zl,Nat.reduceBEq]
   have t1 : es2.take (k + 1) = es2.take k ++ [es2[k]] := List.take_succ_eq_append_getElem hk'
   have t2 : ps2.take (k + 1) = ps2.take k ++ [ps2[k]] := List.take_succ_eq_append_getElem hk2
   refine ⟨es2.length - (k + 1),by omega,k + 1,w2,by omega,rfl,by rw [wrap_i64 (by omega) (by omega),Int.natCast_add,Int.natCast_one],Keeps.trans K K2 fun i hi m => ?_,by rw [t1,t2,← List.append_assoc,← List.append_assoc]; exact B2,fun j hj => ?_⟩
   ·rcases m with m | m
    ·exact .inl m
    ·rcases hw' i m with e | e
     ·exact .inr e
     ·omega
   ·rcases hw2 j hj with e | e
    ·exact hw' j e
    ·have := K.1; exact .inr (by omega)
  ·have : k = es2.length := by omega
   subst this
   rw [List.take_length,List.take_of_length_le (by omega)] at B
   simp -dsimp only [↓WPd,↓Zm,↓Zn,WPu,Za,Zb,Zc,Zd,Ze,Zf,Zg,Zh,Nat.reduceEqDiff,Nat.reduceLT,Zi,Zj,Zk,Zl,Nat.reduceBEq]
   exact ⟨K,w',B,hw'⟩
 ·rintro e σ' env ⟨rfl,K,w',B,hw'⟩
  simp -dsimp only [↓WPd,↓Zm,↓Zn,WPu,Za,Zb,Zc,Zd,Ze,Zf,Zg,Zh,Nat.reduceEqDiff,Nat.reduceLT,Zi,Zj,Zk,Zl,Nat.reduceBEq,hr]
  exact ⟨K,w',B,hw'⟩
end
theorem BRows.atT {σ : Store} {lo : Nat} {l : AVal} {us : List AVal} {R : Hp} (h : BRows σ lo l us R) {k : Nat} (hk : k < R.length) : ∃ (q2 : AVal) (hu : k < us.length),iaddrV 3 l (.int .i64 k) = some (addrOf 3 l k) ∧ faddrV 2 (addrOf 3 l k) = some q2 ∧ loadV σ 1 false q2 = some us[k] ∧ Own σ 5 us[k] (CC R[k].2) := by
 have hl : us.length = R.length := by have := h.len; simpa using this
 have hlx := h.lex
 have hx : k < (bdVs R us).length := by omega
 have hu : k < us.length := by omega
 have hg := bdVs_get hl hk
 have he : (bdVs R us)[k] = bdV R[k].1 us[k] := by rw [List.getElem?_eq_getElem hx] at hg; exact Option.some.inj hg
 have hb := (h.row.sl.addr hx .i64).2
 rw [he] at hb
 have hb' : behind σ (addrOf 3 l k) = some (bdC R[k].1 us[k],0) := hb
 obtain ⟨q2,p2,b2⟩ := faddr_at hb' 2
 exact ⟨q2,hu,h.row.sl.iaddr hx .i64,p2,load_at b2,h.one k us[k] (CC R[k].2) (List.getElem?_eq_getElem hu) (by simp [hk])⟩
section
variable (d : Nat) (σ : Store)
theorem msamebd_ok (a b : AVal) (R : Hp) (ha : BdSl σ a R) (hb : BdSl σ b R) (hR : R.length < 2 ^ 40) (hs : ∀ p ∈ R,p.2.length < 2 ^ 40) : Called CU.cfg d 39 [a,b] σ fun v σ' => v = .bool true ∧ Grows σ σ' := by
 refine called_of (fn := CU.a39) rfl (Nat.le_of_ble_eq_true rfl) ?_
 simp only [CU.a39, CU.o]
 have la := ha.len
 have lb := hb.len
 have e0 : ((R.length : Int) != (R.length : Int)) = false := by simp
 simp -dsimp only [↓WPd,↓Zm,↓Zn,WPu,Za,Zb,Zc,Zd,Ze,Zf,Zg,Zh,Nat.reduceEqDiff,Nat.reduceLT,Zi,Zj,Zk,Zl,Nat.reduceBEq,la,lb,e0]
 refine loop_rule2 (fun m vs σ' => ∃ k,k ≤ R.length ∧ m = R.length - k ∧ vs = [a,b,.int .i64 (k : Nat)] ∧ Grows σ σ')
  [] (fun e vs σ' => e = .exit 0 ∧ Grows σ σ') R.length ⟨0,Nat.zero_le _,rfl,?_,Keeps.refl _ _⟩ ?_ ?_
 ·simp -dsimp only [↓WPd,↓Zm,↓Zn,WPu,Za,Zb,Zc,Zd,Ze,Zf,Zg,Zh,Nat.reduceEqDiff,Nat.reduceLT,Zi,Zj,Zk,Zl,Nat.reduceBEq]; rfl
 ·rintro m vs σ' ⟨k,hk,rfl,rfl,g⟩
  simp -dsimp only [↓WPd,↓Zm,↓Zn,WPu,Za,Zb,Zc,Zd,Ze,Zf,Zg,Zh,Nat.reduceEqDiff,Nat.reduceLT,Zi,Zj,Zk,Zl,Nat.reduceBEq,la]
  refine condP_dec (fun hc => ?_) (fun hc => ?_)
  ·have hk' : k < R.length := by omega
   obtain ⟨q0,q2,u,a1,a2,a3,a4,a5,a6⟩ := (ha.grow g).at hk'
   obtain ⟨q0',q2',u',b1,b2,b3,b4,b5,b6⟩ := (hb.grow g).at hk'
   have en := nm_eqs R[k].1 R[k].1
   rw [decide_eq_true rfl] at en
   simp -dsimp only [↓WPd,↓Zm,↓Zn,WPu,Za,Zb,Zc,Zd,Ze,Zf,Zg,Zh,Nat.reduceEqDiff,Nat.reduceLT,Zi,Zj,Zk,Zl,Nat.reduceBEq,WPm,a1,a2,a3,a4,a5,b1,b2,b3,b4,b5,en]
   refine calledW_of (samecells_ok d σ' u u' R[k].2 R[k].2 (hs _ (List.getElem_mem hk')) a6 b6) ?_
   rintro r σ2 ⟨rfl,rfl⟩
   simp -dsimp only [↓WPd,↓Zm,↓Zn,WPu,Za,Zb,Zc,Zd,Ze,Zf,Zg,Zh,Nat.reduceEqDiff,Nat.reduceLT,Zi,Zj,Zk,Zl,Nat.reduceBEq,decide_true]
   refine ⟨R.length - (k + 1),by omega,k + 1,by omega,rfl,by rw [wrap_i64 (by omega) (by omega),Int.natCast_add,Int.natCast_one],g⟩
  ·simp -dsimp only [↓WPd,↓Zm,↓Zn,WPu,Za,Zb,Zc,Zd,Ze,Zf,Zg,Zh,Nat.reduceEqDiff,Nat.reduceLT,Zi,Zj,Zk,Zl,Nat.reduceBEq]
   exact g
 ·rintro e σ' env ⟨rfl,g⟩
  simp -dsimp only [↓WPd,↓Zm,↓Zn,WPu,Za,Zb,Zc,Zd,Ze,Zf,Zg,Zh,Nat.reduceEqDiff,Nat.reduceLT,Zi,Zj,Zk,Zl,Nat.reduceBEq]
  exact g
theorem takebd_ok (c1 c2 c3 c4 : AVal) (lo lo' id : Nat) (w l : AVal) (es us : List AVal) (ps : List (List Cel)) (R : Hp) (h : BookC c1 c2 c3 c4 lo σ id w es ps) (r : BRows σ lo' l us R) (hl : lo ≤ lo') (hlo : lo' ≤ σ.length) (hn : ps.length + R.length < 2 ^ 30)
  (ap1 : ∀ (i : Nat) (x : AVal) (j : Nat),us[i]? = some x → x.sid = some j → w.sid ≠ some j) (ap2 : ∀ (i : Nat) (x : AVal) (k : Nat) (y : AVal) (j : Nat),us[i]? = some x → es[k]? = some y → x.sid = some j → y.sid ≠ some j) (ap3 : ∀ j,l.sid = some j → w.sid ≠ some j) :
  Called CU.cfg d 46 [.ptr id 0,l] σ fun _ σ' => Keeps (fun i => i = id ∨ w.sid = some i) σ σ' ∧ ∃ w',BookC c1 c2 c3 c4 lo σ' id w' (es ++ us) (ps ++ R.map (·.2)) ∧ (∀ j,w'.sid = some j → w.sid = some j ∨ σ.length ≤ j) := by
 refine called_of (fn := CU.a46) rfl (Nat.le_of_ble_eq_true rfl) ?_
 simp only [CU.a46, CU.o]
 have hul : us.length = R.length := by have := r.len; simpa using this
 have lel := h.rows.len
 rw [List.length_map] at lel
 have hr : ∀ s : FS,resultsA [] s = some (.tuple []) := fun _ => rfl
 simp -dsimp only [↓WPd,↓Zm,↓Zn,WPu,Za,Zb,Zc,Zd,Ze,Zf,Zg,Zh,Nat.reduceEqDiff,Nat.reduceLT,Zi,Zj,Zk,Zl,Nat.reduceBEq]
 refine loop_rule2 (fun m vs σ' => ∃ (k : Nat) (w' : AVal),k ≤ R.length ∧ m = R.length - k ∧ vs = [.ptr id 0,l,.int .i64 (k : Nat)] ∧ Keeps (fun i => i = id ∨ w.sid = some i) σ σ' ∧ BookC c1 c2 c3 c4 lo σ' id w' (es ++ us.take k) (ps ++ (R.map (·.2)).take k) ∧ (∀ j,w'.sid = some j → w.sid = some j ∨ σ.length ≤ j))
  [] (fun e vs σ' => e = .exit 0 ∧ Keeps (fun i => i = id ∨ w.sid = some i) σ σ' ∧ ∃ w',BookC c1 c2 c3 c4 lo σ' id w' (es ++ us) (ps ++ R.map (·.2)) ∧ (∀ j,w'.sid = some j → w.sid = some j ∨ σ.length ≤ j)) R.length
  ⟨0,w,Nat.zero_le _,rfl,?_,Keeps.refl _ _,by simpa using h,fun j hj => .inl hj⟩ ?_ ?_
 ·simp -dsimp only [↓WPd,↓Zm,↓Zn,WPu,Za,Zb,Zc,Zd,Ze,Zf,Zg,Zh,Nat.reduceEqDiff,Nat.reduceLT,Zi,Zj,Zk,Zl,Nat.reduceBEq]; rfl
 ·rintro m vs σ' ⟨k,w',hk,rfl,rfl,K,B,hw'⟩
  have r' : BRows σ' lo' l us R := by
   refine ⟨r.row.keeps K fun j hj m => m.elim (fun e => r.row.noCell h.obj (e ▸ hj)) (fun e => ap3 j hj e),r.lex,r.len,fun i e p h1 h2 => (r.one i e p h1 h2).keeps K fun j hj m => m.elim (fun e' => (r.one i e p h1 h2).noCell h.obj (e' ▸ hj)) (fun e' => ap1 i e j h1 hj e'),r.frs,r.frl,r.apart,r.off,r.lit⟩
  have ll := r'.bds.len
  simp -dsimp only [↓WPd,↓Zm,↓Zn,WPu,Za,Zb,Zc,Zd,Ze,Zf,Zg,Zh,Nat.reduceEqDiff,Nat.reduceLT,Zi,Zj,Zk,Zl,Nat.reduceBEq,ll]
  refine condP_dec (fun hc => ?_) (fun hc => ?_)
  ·have hk2 : k < R.length := by omega
   have hk' : k < us.length := by omega
   obtain ⟨q2,hu,e1,e2,e3,oe⟩ := r'.atT hk2
   have hek : us[k]? = some us[k] := List.getElem?_eq_getElem hk'
   have oe0 := r.one k us[k] (CC R[k].2) hek (by simp [hk2])
   simp -dsimp only [↓WPd,↓Zm,↓Zn,WPu,Za,Zb,Zc,Zd,Ze,Zf,Zg,Zh,Nat.reduceEqDiff,Nat.reduceLT,Zi,Zj,Zk,Zl,Nat.reduceBEq,e1,e2,e3]
   refine calledW_of (takecells_ok d σ' c1 c2 c3 c4 lo id w' us[k] _ _ R[k].2 B oe ((r.frs k _ hek).le hl) (by have := K.1; omega) (r.lit k _ hek) (by simp; omega) (fun j hj e => ?_) (fun i x j hx hj e => ?_)) ?_
   ·rcases hw' j e with e' | e'
    ·exact ap1 k _ j hek hj e'
    ·have := oe0.sl.lt hj; omega
   ·by_cases hi : i < es.length
    ·rw [List.getElem?_append_left hi] at hx
     exact ap2 k _ i x j hek hx hj e
    ·rw [List.getElem?_append_right (by omega),List.getElem?_take] at hx
     split at hx
     ·rename_i hlt
      have := r.apart k (i - es.length) _ x j hek hx hj e
      omega
     ·cases hx
   rintro r'' σ2 ⟨K2,w2,B2,hw2⟩
   simp -dsimp only [↓WPd,↓Zm,↓Zn,WPu,Za,Zb,Zc,Zd,Ze,Zf,Zg,Zh,Nat.reduceEqDiff,Nat.reduceLT,Zi,Zj,Zk,Zl,Nat.reduceBEq]
   have t1 : us.take (k + 1) = us.take k ++ [us[k]] := List.take_succ_eq_append_getElem hk'
   have t2 : (R.map (·.2)).take (k + 1) = (R.map (·.2)).take k ++ [R[k].2] := by
    rw [List.take_succ_eq_append_getElem (by simpa using hk2)]; simp
   refine ⟨R.length - (k + 1),by omega,k + 1,w2,by omega,rfl,by rw [wrap_i64 (by omega) (by omega),Int.natCast_add,Int.natCast_one],Keeps.trans K K2 fun i hi m => ?_,by rw [t1,t2,← List.append_assoc,← List.append_assoc]; exact B2,fun j hj => ?_⟩
   ·rcases m with m | m
    ·exact .inl m
    ·rcases hw' i m with e | e
     ·exact .inr e
     ·omega
   ·rcases hw2 j hj with e | e
    ·exact hw' j e
    ·have := K.1; exact .inr (by omega)
  ·have : k = R.length := by omega
   subst this
   rw [List.take_of_length_le (by omega),List.take_of_length_le (by simp)] at B
   simp -dsimp only [↓WPd,↓Zm,↓Zn,WPu,Za,Zb,Zc,Zd,Ze,Zf,Zg,Zh,Nat.reduceEqDiff,Nat.reduceLT,Zi,Zj,Zk,Zl,Nat.reduceBEq]
   exact ⟨K,w',B,hw'⟩
 ·rintro e σ' env ⟨rfl,K,w',B,hw'⟩
  simp -dsimp only [↓WPd,↓Zm,↓Zn,WPu,Za,Zb,Zc,Zd,Ze,Zf,Zg,Zh,Nat.reduceEqDiff,Nat.reduceLT,Zi,Zj,Zk,Zl,Nat.reduceBEq,hr]
  exact ⟨K,w',B,hw'⟩
end
structure SolvD (σ σ' : Store) (S : SolveR) (v : AVal) : Prop where
 grow : Grows σ σ'
 res : ∃ (bv lv : AVal),v = .agg [.int .u8 S.out,bv,lv,.int .i64 S.steps] ∧ BdSl σ' bv S.bd ∧ Terms σ' lv S.left
theorem BdSl.nil (σ : Store) : BdSl σ .nilslice [] := ⟨[],SlOf.nil _ _,.nil⟩
theorem SolvD.none {σ σ' : Store} (g : Grows σ σ') (k : Nat) : SolvD σ σ' ⟨2,[],[],k⟩ (.agg [.int .u8 2,.nilslice,.nilslice,.int .i64 k]) :=
 ⟨g,.nilslice,.nilslice,rfl,BdSl.nil _,Terms.nil _⟩
theorem fillS (o : Int) (bv lv : AVal) (k : Nat) (h1 : bv.one = true) (h2 : lv.one = true) : fillA [AVal.int IntKind.u8 0,AVal.nilslice,AVal.nilslice,AVal.int IntKind.i64 0] [(0,1,AVal.int IntKind.u8 o),(1,1,bv),(2,1,lv),(3,1,AVal.int IntKind.i64 k)] = some [AVal.int IntKind.u8 o,bv,lv,AVal.int IntKind.i64 k] := by
 have hc : bv.cells = [bv] := by cases bv <;> simp_all [AVal.one]
 have hc2 : lv.cells = [lv] := by cases lv <;> simp_all [AVal.one]
 have h3 : [bv].all AVal.one = true := by simp only [List.all_cons,List.all_nil,h1]; rfl
 have h4 : [lv].all AVal.one = true := by simp only [List.all_cons,List.all_nil,h2]; rfl
 simp only [fillA,hc,hc2,h3,h4]
 rfl
theorem fillS1 (o : Int) (bv : AVal) (k : Nat) (h1 : bv.one = true) : fillA [AVal.int IntKind.u8 0,AVal.nilslice,AVal.nilslice,AVal.int IntKind.i64 0] [(0,1,AVal.int IntKind.u8 o),(1,1,bv),(3,1,AVal.int IntKind.i64 k)] = some [AVal.int IntKind.u8 o,bv,.nilslice,AVal.int IntKind.i64 k] := by
 have hc : bv.cells = [bv] := by cases bv <;> simp_all [AVal.one]
 have h3 : [bv].all AVal.one = true := by simp only [List.all_cons,List.all_nil,h1]; rfl
 simp only [fillA,hc,h3]
 rfl
theorem solv_all (o : Int) (s : Nat) {bv lv : AVal} (h1 : bv.one = true) (h2 : lv.one = true) : [AVal.int .u8 o,bv,lv,.int .i64 (s : Nat)].all AVal.one = true := by
 simp only [List.all_cons,List.all_nil,h1,h2]; rfl
theorem sides_len2 {t : List Cel} (h : isEqT t = true) : (sides t).1.length ≤ t.length ∧ (sides t).2.length ≤ t.length := by
 have ha := sides_args h
 exact ⟨args_short (x := (sides t).1) (by rw [ha]; simp),args_short (x := (sides t).2) (by rw [ha]; simp)⟩
theorem lit0 : fillL 1 false (List.replicate 0 (zel [AVal.nilslice] false)) [] = some [] := rfl
structure SolveDt (σ0 σ' : Store) (i6 rid : Nat) (M : Hp) (rv bv : AVal) (row : List (List Cel)) (bd : Hp) : Prop where
 o6 : σ'[i6]? = some (.cells solvZ)
 rp : ∃ A RM,RefP σ' A rid RM ∧ Same M RM ∧ RM.length < 2 ^ 30
 row : Terms σ' rv row
 bds : ∃ es,Own σ' 3 bv es ∧ Two (fun e p => ∃ u,e = bdV p.1 u ∧ SlOf σ' 5 u (CC p.2)) es bd
 grow : Grows σ0 σ'
 frb : Fresh σ0.length bv
section
variable (d : Nat) (σ : Store)
def rsolveT : ACode := seqR (seqR (seqR (seqR CU.a45.body)))
set_option maxHeartbeats 4000000 in
theorem rsolve_tail (σ0 σ1 : Store) (e : Nat → AVal) (i6 rid : Nat) (A : Nat → Prop) (H R : Hp) (n : Int) (lv : AVal) (l : List (List Cel)) (K : AExit → List AVal → Store → Prop)
  (e1 : e 1 = .int .i64 n) (e2 : e 2 = lv) (e6 : e 6 = .ptr i6 0) (e11 : e 11 = .ptr rid 0) (g1 : Grows σ0 σ1) (h : RefP σ1 A rid R) (hs : Same H R) (hw : WF H) (hR : R.length < 2 ^ 26) (o6 : σ1[i6]? = some (.cells solvZ)) (q0 : σ0.length ≤ i6) (q1 : i6 < rid)
  (hl : Terms σ1 lv l) (heq : ∀ t ∈ l,EqG t) (hn : n < 2 ^ 20) (hlen : l.length < 2 ^ 27)
  (hK : ∀ (e' : Nat → AVal) (σ' : Store) (v : AVal),e' 6 = .ptr i6 0 → loadV σ' 4 true (.ptr i6 0) = some v → SolvD σ0 σ' (solveN n.toNat H l [] 0) v → K .ret (Fr' 113 e') σ') :
  wpC CU.cfg d rsolveT (Fr' 113 e) σ1 K := by
 simp only [rsolveT,seqR,CU.a45, CU.o]
 obtain ⟨res,hr1,hr2⟩ := hl
 have lres := hr2.len
 have own0 : ∀ σ : Store,Own σ 1 (.fslice (AVal.tagL []) true 1 []) [] := fun σ => ⟨.inr (.inl ⟨_,rfl⟩)⟩
 obtain ⟨rv,σ2,a1,a2,a3,a4,a5⟩ := (own0 σ1).append res 24 (by simp; omega)
 simp -dsimp only [↓WPd,↓Zm,↓Zn,WPu,Za,Zb,Zc,Zd,Ze,Zf,Zg,Zh,Nat.reduceEqDiff,Nat.reduceLT,Zi,Zj,Zk,Zl,Nat.reduceBEq,WPm,e1,e2,e6,e11,lit0,hr1.els,a1]
 have g2 : Grows σ1 σ2 := a3.mono fun i hi e => by cases e
 have z5 : ∀ (σ : Store) (cs : List AVal),cs.length = 5 → cs.all AVal.one = true → storeV (σ ++ [.cells [.int .i64 0,.int .i64 0,.int .i64 0,.nilslice,.nilslice]]) 5 (.ptr σ.length 0) (.agg cs) = some (σ ++ [.cells cs]) := fun σ cs h1 h2 => by
  have h : (σ ++ [AObj.cells [.int .i64 0,.int .i64 0,.int .i64 0,.nilslice,.nilslice]])[σ.length]? = some (.cells [.int .i64 0,.int .i64 0,.int .i64 0,.nilslice,.nilslice]) := by simp
  rw [storeN_cells (cs' := cs) (n := 5) h rfl h1 h2,set_last]
 have hHR := hs.len
 refine loop_rule2 (fun m xs σ' => ∃ (k : Nat) (M : Hp) (rv bv : AVal) (row : List (List Cel)) (bd : Hp),k ≤ n.toNat ∧ m = n.toNat - k ∧ xs = [.int .i64 n,.ptr i6 0,.ptr rid 0,rv,bv,.int .i64 (k : Nat)] ∧ SolveDt σ0 σ' i6 rid M rv bv row bd ∧ WF M ∧ M.length ≤ R.length + k ∧ solveN (n.toNat - k) M row bd k = solveN n.toNat H l [] 0 ∧ (∀ t ∈ row,EqG t) ∧ row.length ≤ l.length + 8 * k ∧ bd.length ≤ k)
  [6,13,14] (fun x xs σ' => (x = .exit 2 ∧ ∃ (k : Nat) (bv : AVal) (bd : Hp),xs = [.ptr i6 0,bv,.int .i64 k] ∧ σ'[i6]? = some (.cells solvZ) ∧ Grows σ0 σ' ∧ BdSl σ' bv bd ∧ solveN n.toNat H l [] 0 = ⟨1,bd,[],k⟩) ∨
   (x = .ret ∧ ∃ v r13 r14 : AVal,xs = [.ptr i6 0,r13,r14] ∧ loadV σ' 4 true (.ptr i6 0) = some v ∧ SolvD σ0 σ' (solveN n.toNat H l [] 0) v)) n.toNat
  ⟨0,H,rv,.nilslice,l,[],Nat.zero_le _,rfl,?_,⟨g2.get o6,⟨A,R,h.grow g2,hs,by omega⟩,⟨res,by simpa using a2.sl,hr2.mono fun e t he => SlOf.grow he g2⟩,⟨[],Own.nil _ _,.nil⟩,g1.trans g2,Fresh.nil _⟩,hw,by omega,rfl,heq,Nat.le_refl _,Nat.le_refl _⟩ ?_ ?_
 ·simp -dsimp only [↓WPd,↓Zm,↓Zn,WPu,Za,Zb,Zc,Zd,Ze,Zf,Zg,Zh,Nat.reduceEqDiff,Nat.reduceLT,Zi,Zj,Zk,Zl,Nat.reduceBEq,e1,e6,e11]
  rfl
 ·rintro m xs σ' ⟨k,M,rv,bv,row,bd,hk,rfl,rfl,st,hwM,hMl,hS,hrow,hrl,hbl⟩
  have lr := st.row.len
  obtain ⟨A',RM,hr,hsM,hRM⟩ := st.rp
  obtain ⟨bes,ob,bt⟩ := st.bds
  have hbs : BdSl σ' bv bd := ⟨bes,ob.sl,bt⟩
  cases row with
  | nil =>
   have z : decide (((([] : List (List Cel)).length : Nat) : Int) > 0) = false := rfl
   simp -dsimp only [↓WPd,↓Zm,↓Zn,WPu,Za,Zb,Zc,Zd,Ze,Zf,Zg,Zh,Nat.reduceEqDiff,Nat.reduceLT,Zi,Zj,Zk,Zl,Nat.reduceBEq,WPm,lr,z]
   exact .inl ⟨k,bv,bd,rfl,st.o6,st.grow,hbs,by rw [← hS,solveN_nil]⟩
  | cons t rest =>
   have z : decide ((((t :: rest).length : Nat) : Int) > 0) = true := by simp
   simp -dsimp only [↓WPd,↓Zm,↓Zn,WPu,Za,Zb,Zc,Zd,Ze,Zf,Zg,Zh,Nat.reduceEqDiff,Nat.reduceLT,Zi,Zj,Zk,Zl,Nat.reduceBEq,WPm,lr,z]
   refine condP_dec (fun hc => ?_) (fun hc => ?_)
   ·have hk0 : n.toNat - k = 0 := by omega
    have sv := storeN_cells st.o6 (n := 4) (cs' := [.int .u8 3,bv,rv,.int .i64 (k : Nat)]) rfl rfl (solv_all 3 k ob.one st.row.one)
    simp -dsimp only [↓WPd,↓Zm,↓Zn,WPu,Za,Zb,Zc,Zd,Ze,Zf,Zg,Zh,Nat.reduceEqDiff,Nat.reduceLT,Zi,Zj,Zk,Zl,Nat.reduceBEq,WPm,fillS 3 bv rv k ob.one st.row.one,sv]
    have kk : Keeps (fun i => i = i6) σ' (σ'.set i6 (.cells [.int .u8 3,bv,rv,.int .i64 (k : Nat)])) := Keeps.set _ _ _
    have w := Vw.cell st.o6 kk
    refine .inr ⟨_,bv,_,rfl,loadN_cells (get_set st.o6) rfl,?_⟩
    rw [← hS,hk0,solveN_zero]
    exact ⟨Keeps.trans st.grow kk fun i hi e => by omega,bv,rv,rfl,hbs.vw w,st.row.vw w⟩
   ·have hk1 : k + 1 ≤ n.toNat := by omega
    have hN : n.toNat - k = (n.toNat - (k + 1)) + 1 := by omega
    obtain ⟨⟨te,t1,t2,t3⟩,rv',r1,r2⟩ := st.row.uncons
    have ht := hrow t List.mem_cons_self
    have hrest : ∀ u ∈ rest,EqG u := fun u hu => hrow u (List.mem_cons_of_mem _ hu)
    have sm := ht.small
    have ss := ht.sides_small
    simp -dsimp only [↓WPd,↓Zm,↓Zn,WPu,Za,Zb,Zc,Zd,Ze,Zf,Zg,Zh,Nat.reduceEqDiff,Nat.reduceLT,Zi,Zj,Zk,Zl,Nat.reduceBEq,WPm,t1,t2]
    refine calledW_of (requation_ok d σ' te t sm.1 t3) ?_
    rintro w σ4 ⟨a,b,rfl,hE⟩
    obtain ⟨g4,oa,ob4,-⟩ := hE.own
    have wk : IntKind.i64.wrap ((k : Int) + 1) = ((k + 1 : Nat) : Int) := by rw [wrap_i64 (by omega) (by omega),Int.natCast_add,Int.natCast_one]
    simp -dsimp only [↓WPd,↓Zm,↓Zn,WPu,Za,Zb,Zc,Zd,Ze,Zf,Zg,Zh,Nat.reduceEqDiff,Nat.reduceLT,Zi,Zj,Zk,Zl,Nat.reduceBEq,WPm,List.getElem?_cons_zero,List.getElem?_cons_succ]
    refine calledW_of (rstep_ok d σ4 (.ptr rid 0) a b RM (sides t).1 (sides t).2 (hr.grow g4).v hsM.wfr (by omega) ss.1.1 ss.2.1 oa.sl ob4.sl) ?_
    rintro w σ6 SS
    rw [hsM.stepL] at SS
    obtain ⟨g6,tv,pv,rfl,otv,opv⟩ := SS
    have F := stepL_facts hwM ht.2.1 ht.2.2
    rw [hN,solveN_succ] at hS
    simp -dsimp only [↓WPd,↓Zm,↓Zn,WPu,Za,Zb,Zc,Zd,Ze,Zf,Zg,Zh,Nat.reduceEqDiff,Nat.reduceLT,Zi,Zj,Zk,Zl,Nat.reduceBEq,WPm,z5 σ6 (stepI (stepL M (sides t).1 (sides t).2) tv pv) rfl (stepI_one otv.one opv.one),wk,oev,r1]
    generalize stepL M (sides t).1 (sides t).2 = r at *
    have g7 : Grows σ6 (σ6 ++ [AObj.cells (stepI r tv pv)]) := Grows.app _ _
    have o18 : (σ6 ++ [AObj.cells (stepI r tv pv)])[σ6.length]? = some (.cells (stepI r tv pv)) := by simp
    generalize σ6 ++ [AObj.cells (stepI r tv pv)] = σ7 at g7 o18
    generalize hi18 : σ6.length = i18 at o18
    have g57 := (g4.trans g6).trans g7
    have c0 : (stepI r tv pv)[0]? = some (.int .i64 r.k) := rfl
    have cc3 : (stepI r tv pv)[3]? = some tv := rfl
    have cc4 : (stepI r tv pv)[4]? = some pv := rfl
    have row7 := r2.grow g57
    have ps7 := opv.grow g7
    have o67 := g57.get st.o6
    have rp7 := hr.grow g57
    have ob7 := ob.grow g57
    have bt7 := bt.mono fun e p ⟨u,hu,hs⟩ => (⟨u,hu,hs.grow g57⟩ : ∃ u,e = bdV p.1 u ∧ SlOf σ7 5 u (CC p.2))
    have g07 := st.grow.trans g57
    have hrid7 : ∃ w,σ7[rid]? = some (.cells [w]) := by obtain ⟨w,_,o1,_⟩ := rp7; exact ⟨w,o1⟩
    have fin : ∀ {σ9 : Store},Terms σ9 pv r.ps → Terms σ9 rv' rest → r.ps.length ≤ 8 → ∃ pes v1 σa res' v2 σb,elems 1 σ9 pv = some pes ∧ appendV σ9 1 24 (.fslice (AVal.tagL []) true 1 []) pes = some (v1,σa) ∧ elems 1 σa rv' = some res' ∧ appendV σa 1 24 v1 res' = some (v2,σb) ∧ Terms σb v2 (r.ps ++ rest) ∧ Grows σ9 σb := by
     intro σ9 tp tr h8
     obtain ⟨pes,p1,p2⟩ := tp
     obtain ⟨res',q1,q2⟩ := tr
     have lp := p2.len
     have lq := q2.len
     simp only [List.length_cons] at hrl
     obtain ⟨v1,σa,b1,b2,b3,b4,-⟩ := (own0 σ9).append pes 24 (by simp; omega)
     have ga : Grows σ9 σa := b3.mono fun i hi e => by cases e
     simp only [List.nil_append] at b2
     obtain ⟨v2,σb,d1,d2,d3,-,-⟩ := b2.append res' 24 (by omega)
     have gb : Grows σ9 σb := Keeps.trans ga d3 fun i hi e => by
      rcases b4 i e with e | e
      ·cases e
      ·omega
     exact ⟨pes,v1,σa,res',v2,σb,p1.els,b1,(q1.grow ga).els,d1,⟨pes ++ res',d2.sl,Two.append (p2.mono fun e t he => SlOf.grow he gb) (q2.mono fun e t he => SlOf.grow he gb)⟩,gb⟩
    simp -dsimp only [↓WPd,↓Zm,↓Zn,WPu,Za,Zb,Zc,Zd,Ze,Zf,Zg,Zh,Nat.reduceEqDiff,Nat.reduceLT,Zi,Zj,Zk,Zl,Nat.reduceBEq,WPm,faddr_ptr,Nat.zero_add,Nat.add_zero,load_cells o18,c0]
    rcases F with ⟨hk',hps⟩ | ⟨hk',hps,hsm⟩ | ⟨hk',hpe,hpl⟩ | hk'
    ·have d4 : ((r.k : Int) == 4) = false := by rw [hk']; rfl
     have d2 : ((r.k : Int) == 2) = false := by rw [hk']; rfl
     rw [if_neg (by omega),if_neg (by omega)] at hS
     obtain ⟨pes,v1,σa,res',v2,σb,x1,x2,x3,x4,x5,x6⟩ := fin ps7 row7 (by rw [hps]; simp)
     simp -dsimp only [↓WPd,↓Zm,↓Zn,WPu,Za,Zb,Zc,Zd,Ze,Zf,Zg,Zh,Nat.reduceEqDiff,Nat.reduceLT,Zi,Zj,Zk,Zl,Nat.reduceBEq,WPm,d4,d2,faddr_ptr,Nat.zero_add,Nat.add_zero,load_cells o18,cc4,lit0,x1,x2,x3,x4]
     refine ⟨n.toNat - (k + 1),by omega,k + 1,M,v2,bv,r.ps ++ rest,bd,hk1,rfl,rfl,⟨x6.get o67,⟨A',RM,rp7.grow x6,hsM,hRM⟩,x5,⟨bes,ob7.grow x6,bt7.mono fun e p ⟨u,hu,hs⟩ => ⟨u,hu,hs.grow x6⟩⟩,g07.trans x6,st.frb⟩,hwM,by omega,hS,?_,by simp only [List.length_cons] at hrl; rw [hps]; simp; omega,by omega⟩
     rw [hps]; exact hrest
    ·have d4 : ((r.k : Int) == 4) = false := by rw [hk']; rfl
     have d2 : ((r.k : Int) == 2) = true := by rw [hk']; rfl
     rw [if_neg (by omega),if_pos hk'] at hS
     have nm : ∀ {σ : Store},σ[i18]? = some (.cells (stepI r tv pv)) → loadV σ 2 true (.ptr i18 1) = some (nmV r.v) := fun {σ} ho => loadN_at (q := .ptr i18 1) (cs := stepI r tv pv) (off := 1) (by simp only [behind,ho]) (by simp [stepI])
     have otv7 := otv.grow g7
     simp -dsimp only [↓WPd,↓Zm,↓Zn,WPu,Za,Zb,Zc,Zd,Ze,Zf,Zg,Zh,Nat.reduceEqDiff,Nat.reduceLT,Zi,Zj,Zk,Zl,Nat.reduceBEq,WPm,d4,d2,faddr_ptr,Nat.zero_add,Nat.add_zero,nm o18,load_cells o18,cc3]
     refine calledW_of (rbind_ok d σ7 A' rid RM r.v tv r.t rp7 (by omega) hsm.1 otv7) ?_
     rintro w σ8 ⟨-,h8,k8⟩
     obtain ⟨wr,owr⟩ := hrid7
     have w8 : Vw σ7 σ8 := Vw.cell owr k8
     have hne18 : i18 ≠ rid := fun e => by rw [← e,o18] at owr; injection owr with owr; injection owr with owr; exact absurd (congrArg List.length owr) (by simp [stepI])
     have hrl6 : rid < σ6.length := by
      obtain ⟨w,_,o1,_⟩ := (hr.grow g4).grow g6
      exact (List.getElem?_eq_some_iff.1 o1).1
     have o188 := k8.get o18 hne18
     have ob8 := ob7.keeps k8 fun i hi e => ob7.noCell owr (e ▸ hi)
     have lb := bt.len
     obtain ⟨bv',σ9,y1,y2,y3,y4,y5⟩ := ob8.append [bdV r.v tv] 40 (by simp; omega)
     have w9 : Vw σ8 σ9 := Vw.app ob8 y1
     have fl := elems_fs 3 (AVal.tagL [bdV r.v tv]) true σ8 [bdV r.v tv]
     have nb : ∀ {cs : List AVal} {j : Nat},σ8[j]? = some (.cells cs) → σ9[j]? = some (.cells cs) := fun ho => y3.get ho fun e => ob8.noCell ho e
     have o189 := nb o188
     have o69 := nb (k8.get o67 (by omega))
     obtain ⟨pes,v1,σa,res',v2,σb,x1,x2,x3,x4,x5,x6⟩ := fin ((ps7.vw w8).vw w9) ((row7.vw w8).vw w9) (by rw [hps]; simp)
     simp -dsimp only [↓WPd,↓Zm,↓Zn,WPu,Za,Zb,Zc,Zd,Ze,Zf,Zg,Zh,Nat.reduceEqDiff,Nat.reduceLT,Zi,Zj,Zk,Zl,Nat.reduceBEq,WPm,faddr_ptr,Nat.zero_add,Nat.add_zero,nm o188,load_cells o188,cc3,bd_build r.v tv otv.one,bd_lit r.v tv otv.one,fl,y1,load_cells o189,cc4,lit0,x1,x2,x3,x4]
     have w79 := (w8.trans w9).trans (Vw.grow x6)
     have rp9 := (h8.vw w9 fun cs ho => nb ho).grow x6
     have hlb := bindR_len RM r.v r.t
     have hsn := hsM.bind r.v r.t
     have hsl := hsn.len
     have hlM := hsM.len
     have hwn := hwM.bind r.v r.t
     refine ⟨n.toNat - (k + 1),by omega,k + 1,bindH M r.v r.t,v2,bv',r.ps ++ rest,bd ++ [(r.v,r.t)],hk1,rfl,rfl,⟨x6.get o69,⟨_,bindR RM r.v r.t,rp9,hsn,by omega⟩,x5,⟨_,y2.grow x6,Two.append (bt7.mono fun e p ⟨u,hu,hs⟩ => ⟨u,hu,w79 _ _ _ hs⟩) (Two.one ⟨tv,rfl,w79 _ _ _ otv7⟩)⟩,?_,fun j hj => ?_⟩,hwn,by omega,?_,?_,by simp only [List.length_cons] at hrl; rw [hps]; simp; omega,by simp; omega⟩
     ·refine Keeps.trans (Keeps.trans (Keeps.trans g07 k8 fun i hi e => ?_) y3 fun i hi e => ?_) x6 fun i hi e => e
      ·have := st.grow.1; omega
      ·have := st.frb _ e; omega
     ·rcases y4 j hj with e | e
      ·exact st.frb _ e
      ·have := st.grow.1; have := g57.1; have := k8.1; omega
     ·rw [hps]; exact hS
     ·rw [hps]; exact hrest
    ·have d4 : ((r.k : Int) == 4) = false := by rw [hk']; rfl
     have d2 : ((r.k : Int) == 2) = false := by rw [hk']; rfl
     rw [if_neg (by omega),if_neg (by omega)] at hS
     obtain ⟨pes,v1,σa,res',v2,σb,x1,x2,x3,x4,x5,x6⟩ := fin ps7 row7 hpl
     simp -dsimp only [↓WPd,↓Zm,↓Zn,WPu,Za,Zb,Zc,Zd,Ze,Zf,Zg,Zh,Nat.reduceEqDiff,Nat.reduceLT,Zi,Zj,Zk,Zl,Nat.reduceBEq,WPm,d4,d2,faddr_ptr,Nat.zero_add,Nat.add_zero,load_cells o18,cc4,lit0,x1,x2,x3,x4]
     refine ⟨n.toNat - (k + 1),by omega,k + 1,M,v2,bv,r.ps ++ rest,bd,hk1,rfl,rfl,⟨x6.get o67,⟨A',RM,rp7.grow x6,hsM,hRM⟩,x5,⟨bes,ob7.grow x6,bt7.mono fun e p ⟨u,hu,hs⟩ => ⟨u,hu,hs.grow x6⟩⟩,g07.trans x6,st.frb⟩,hwM,by omega,hS,fun u hu => ?_,by simp only [List.length_cons] at hrl; simp; omega,by omega⟩
     rcases List.mem_append.1 hu with hu | hu
     ·exact hpe u hu
     ·exact hrest u hu
    ·have d4 : ((r.k : Int) == 4) = true := by rw [hk']; rfl
     rw [if_pos hk'] at hS
     simp -dsimp only [↓WPd,↓Zm,↓Zn,WPu,Za,Zb,Zc,Zd,Ze,Zf,Zg,Zh,Nat.reduceEqDiff,Nat.reduceLT,Zi,Zj,Zk,Zl,Nat.reduceBEq,WPm,d4,clashS,storeN_cells o67 (n := 4) (cs' := [.int .u8 2,.nilslice,.nilslice,.int .i64 ((k + 1 : Nat) : Int)]) rfl rfl rfl]
     refine .inr ⟨_,bv,_,rfl,loadN_cells (get_set o67) rfl,?_⟩
     rw [← hS]
     exact SolvD.none (Keeps.trans g07 (Keeps.set _ _ _) fun i hi e => by omega) (k + 1)
 ·rintro x σ' env hx
  rcases hx with ⟨rfl,k,bv,bd,hv,o6',g,hbs,hS⟩ | ⟨rfl,v,r13,r14,hv,ld,D⟩
  ·simp only [List.map_cons,List.map_nil,List.cons.injEq,and_true] at hv
   obtain ⟨v6,v13,v14⟩ := hv
   have hone : bv.one = true := by obtain ⟨es,h1,-⟩ := hbs; exact h1.one
   have sv := storeN_cells o6' (n := 4) (cs' := [.int .u8 1,bv,.nilslice,.int .i64 (k : Nat)]) rfl rfl (solv_all 1 k hone rfl)
   simp -dsimp only [↓WPd,↓Zm,↓Zn,WPu,Za,Zb,Zc,Zd,Ze,Zf,Zg,Zh,Nat.reduceEqDiff,Nat.reduceLT,Zi,Zj,Zk,Zl,Nat.reduceBEq,WPm,v6,v13,v14,fillS1 1 bv k hone,sv]
   have kk : Keeps (fun i => i = i6) σ' (σ'.set i6 (.cells [.int .u8 1,bv,.nilslice,.int .i64 (k : Nat)])) := Keeps.set _ _ _
   refine hK _ _ _ (by simp -dsimp only [↓WPd,↓Zm,↓Zn,WPu,Za,Zb,Zc,Zd,Ze,Zf,Zg,Zh,Nat.reduceEqDiff,Nat.reduceLT,Zi,Zj,Zk,Zl,Nat.reduceBEq,v6]) (loadN_cells (get_set o6') rfl) ?_
   rw [hS]
   exact ⟨Keeps.trans g kk fun i hi e => by omega,bv,.nilslice,rfl,hbs.vw (Vw.cell o6' kk),Terms.nil _⟩
  ·simp only [List.map_cons,List.map_nil,List.cons.injEq,and_true] at hv
   obtain ⟨v6,-,-⟩ := hv
   simp -dsimp only [↓WPd,↓Zm,↓Zn,WPu,Za,Zb,Zc,Zd,Ze,Zf,Zg,Zh,Nat.reduceEqDiff,Nat.reduceLT,Zi,Zj,Zk,Zl,Nat.reduceBEq,WPm]
   exact hK env σ' v v6 ld D
set_option maxHeartbeats 2000000 in
theorem rsolve_ok (rv lv : AVal) (H R : Hp) (n : Int) (l : List (List Cel)) (h : RefV σ rv R) (hs : Same H R) (hw : WF H) (hR : R.length < 2 ^ 26) (hl : Terms σ lv l) (hsm : ∀ t ∈ l,t.length < 2 ^ 30) (hn : n < 2 ^ 20) (hlen : l.length < 2 ^ 27) :
  Called CU.cfg d 45 [rv,.int .i64 n,lv] σ fun v σ' => SolvD σ σ' (solveL H n.toNat l) v := by
 refine called_of (fn := CU.a45) rfl (Nat.le_of_ble_eq_true rfl) ?_
 rw [show CU.a45.body = .seq (seqL CU.a45.body) (.seq (seqL (seqR CU.a45.body)) (.seq (seqL (seqR (seqR CU.a45.body))) (.seq (seqL (seqR (seqR (seqR CU.a45.body)))) rsolveT))) from rfl]
 simp only [CU.a45,seqL,seqR, CU.o]
 have lv1 := hl.len
 simp -dsimp only [↓WPd,↓Zm,↓Zn,WPu,Za,Zb,Zc,Zd,Ze,Zf,Zg,Zh,Nat.reduceEqDiff,Nat.reduceLT,Zi,Zj,Zk,Zl,Nat.reduceBEq,WPm]
 have g1 : Grows σ (σ ++ [AObj.cells [.int .u8 0,.nilslice,.nilslice,.int .i64 0]]) := Grows.app _ _
 have o1 : (σ ++ [AObj.cells [.int .u8 0,.nilslice,.nilslice,.int .i64 0]])[σ.length]? = some (.cells solvZ) := by simp
 have l1 : σ.length < (σ ++ [AObj.cells [.int .u8 0,.nilslice,.nilslice,.int .i64 0]]).length := by simp
 generalize σ ++ [AObj.cells [.int .u8 0,.nilslice,.nilslice,.int .i64 0]] = σ1 at g1 o1 l1
 generalize hi6 : σ.length = i6 at o1 l1
 refine loop_rule2 (fun m xs σ' => ∃ k : Nat,k ≤ l.length ∧ m = l.length - k ∧ xs = [rv,.int .i64 n,lv,.ptr i6 0,.int .i64 (k : Nat)] ∧ Grows σ1 σ' ∧ ∀ (j : Nat) (hj : j < l.length),j < k → (isEqT l[j] && glob l[j]) = true)
  [0,1,2,6] (fun x xs σ' => (x = .exit 0 ∧ xs = [rv,.int .i64 n,lv,.ptr i6 0] ∧ Grows σ1 σ' ∧ eqsOk l = true) ∨ (x = .ret ∧ xs = [rv,.int .i64 n,lv,.ptr i6 0] ∧ Grows σ σ' ∧ loadV σ' 4 true (.ptr i6 0) = some (.agg [.int .u8 2,.nilslice,.nilslice,.int .i64 0]) ∧ eqsOk l = false)) l.length
  ⟨0,Nat.zero_le _,rfl,?_,Keeps.refl _ _,fun j _ h => by omega⟩ ?_ ?_
 ·simp -dsimp only [↓WPd,↓Zm,↓Zn,WPu,Za,Zb,Zc,Zd,Ze,Zf,Zg,Zh,Nat.reduceEqDiff,Nat.reduceLT,Zi,Zj,Zk,Zl,Nat.reduceBEq]; rfl
 ·rintro m xs σ' ⟨k,hk,rfl,rfl,g,hall⟩
  simp -dsimp only [↓WPd,↓Zm,↓Zn,WPu,Za,Zb,Zc,Zd,Ze,Zf,Zg,Zh,Nat.reduceEqDiff,Nat.reduceLT,Zi,Zj,Zk,Zl,Nat.reduceBEq,WPm,lv1]
  refine condP_dec (fun hc => ?_) (fun hc => ?_)
  ·have hk' : k < l.length := by omega
   obtain ⟨e,e1,e2,e3⟩ := ((hl.grow g1).grow g).at hk'
   have sm := hsm _ (List.getElem_mem hk')
   have bad : ∀ {σ'' : Store},Grows σ1 σ'' → (isEqT l[k] && glob l[k]) = false → storeV σ'' 4 (.ptr i6 0) (.agg [.int .u8 2,.nilslice,.nilslice,.int .i64 0]) = some (σ''.set i6 (.cells [.int .u8 2,.nilslice,.nilslice,.int .i64 0])) ∧ (Grows σ (σ''.set i6 (.cells [.int .u8 2,.nilslice,.nilslice,.int .i64 0])) ∧ loadV (σ''.set i6 (.cells [.int .u8 2,.nilslice,.nilslice,.int .i64 0])) 4 true (.ptr i6 0) = some (.agg [.int .u8 2,.nilslice,.nilslice,.int .i64 0]) ∧ eqsOk l = false) :=
    fun g' hb => ⟨storeN_cells (g'.get o1) rfl rfl rfl,Keeps.trans (g1.trans g') (Keeps.set _ _ _) fun i hi e => by omega,loadN_cells (get_set (g'.get o1)) rfl,eqsOk_bad hk' hb⟩
   simp -dsimp only [↓WPd,↓Zm,↓Zn,WPu,Za,Zb,Zc,Zd,Ze,Zf,Zg,Zh,Nat.reduceEqDiff,Nat.reduceLT,Zi,Zj,Zk,Zl,Nat.reduceBEq,WPm,e1,e2]
   refine calledW_of (requation_ok d σ' e l[k] sm e3) ?_
   rintro w σ2 ⟨a,b,rfl,hE⟩
   obtain ⟨g2,oa,ob,-⟩ := hE.own
   cases hq : isEqT l[k] with
   | false =>
    obtain ⟨b1,b2⟩ := bad (g.trans g2) (by rw [hq]; rfl)
    simp -dsimp only [↓WPd,↓Zm,↓Zn,WPu,Za,Zb,Zc,Zd,Ze,Zf,Zg,Zh,Nat.reduceEqDiff,Nat.reduceLT,Zi,Zj,Zk,Zl,Nat.reduceBEq,WPm,List.getElem?_cons_zero,List.getElem?_cons_succ,clash0,b1]
    exact .inr b2
   | true =>
    have hgs := glob_sides hq
    have hsl := sides_len2 hq
    simp -dsimp only [↓WPd,↓Zm,↓Zn,WPu,Za,Zb,Zc,Zd,Ze,Zf,Zg,Zh,Nat.reduceEqDiff,Nat.reduceLT,Zi,Zj,Zk,Zl,Nat.reduceBEq,WPm,List.getElem?_cons_zero,List.getElem?_cons_succ]
    refine calledW_of (rglobal_ok d σ2 a (sides l[k]).1 (by omega) oa.sl) ?_
    rintro w σ3 ⟨rfl,g3⟩
    cases hg : glob (sides l[k]).1 with
    | false =>
     obtain ⟨b1,b2⟩ := bad ((g.trans g2).trans g3) (by rw [hgs,hq,hg]; rfl)
     simp -dsimp only [↓WPd,↓Zm,↓Zn,WPu,Za,Zb,Zc,Zd,Ze,Zf,Zg,Zh,Nat.reduceEqDiff,Nat.reduceLT,Zi,Zj,Zk,Zl,Nat.reduceBEq,WPm,List.getElem?_cons_zero,List.getElem?_cons_succ,clash0,b1]
     exact .inr b2
    | true =>
     simp -dsimp only [↓WPd,↓Zm,↓Zn,WPu,Za,Zb,Zc,Zd,Ze,Zf,Zg,Zh,Nat.reduceEqDiff,Nat.reduceLT,Zi,Zj,Zk,Zl,Nat.reduceBEq,WPm]
     refine calledW_of (rglobal_ok d σ3 b (sides l[k]).2 (by omega) (ob.grow g3).sl) ?_
     rintro w σ4 ⟨rfl,g4⟩
     cases hg' : glob (sides l[k]).2 with
     | false =>
      obtain ⟨b1,b2⟩ := bad (((g.trans g2).trans g3).trans g4) (by rw [hgs,hq,hg,hg']; rfl)
      simp -dsimp only [↓WPd,↓Zm,↓Zn,WPu,Za,Zb,Zc,Zd,Ze,Zf,Zg,Zh,Nat.reduceEqDiff,Nat.reduceLT,Zi,Zj,Zk,Zl,Nat.reduceBEq,WPm,List.getElem?_cons_zero,List.getElem?_cons_succ,clash0,b1]
      exact .inr b2
     | true =>
      simp -dsimp only [↓WPd,↓Zm,↓Zn,WPu,Za,Zb,Zc,Zd,Ze,Zf,Zg,Zh,Nat.reduceEqDiff,Nat.reduceLT,Zi,Zj,Zk,Zl,Nat.reduceBEq,WPm]
      refine ⟨l.length - (k + 1),by omega,k + 1,by omega,rfl,by rw [wrap_i64 (by omega) (by omega),Int.natCast_add,Int.natCast_one],((g.trans g2).trans g3).trans g4,fun j hj hjk => ?_⟩
      by_cases e : j = k
      ·subst e; rw [hgs,hq,hg,hg']; rfl
      ·exact hall j hj (by omega)
  ·simp -dsimp only [↓WPd,↓Zm,↓Zn,WPu,Za,Zb,Zc,Zd,Ze,Zf,Zg,Zh,Nat.reduceEqDiff,Nat.reduceLT,Zi,Zj,Zk,Zl,Nat.reduceBEq]
   refine .inl ⟨g,?_⟩
   rw [eqsOk,List.all_eq_true]
   intro t ht
   obtain ⟨j,hj,rfl⟩ := List.getElem_of_mem ht
   exact hall j hj (by omega)
 ·rintro x σ' env hx
  rcases hx with ⟨rfl,hv',g,hok⟩ | ⟨rfl,hv',g,ld,hok⟩
  ·simp only [List.map_cons,List.map_nil,List.cons.injEq,and_true] at hv'
   obtain ⟨v0,v1,v2,v6⟩ := hv'
   have hS : solveL H n.toNat l = solveN n.toNat H l [] 0 := by rw [solveL,if_pos hok]
   rw [hS]
   have heq := eqsOk_mem hok
   have h' := (h.grow g1).grow g
   have hl' := (hl.grow g1).grow g
   have lg := g.1
   simp -dsimp only [↓WPd,↓Zm,↓Zn,WPu,Za,Zb,Zc,Zd,Ze,Zf,Zg,Zh,Nat.reduceEqDiff,Nat.reduceLT,Zi,Zj,Zk,Zl,Nat.reduceBEq,WPm]
   refine calledW_of (rnew_ok d σ') ?_
   rintro w σ2 ⟨rid0,rfl,rp0,g2,-,m0⟩
   have h2 := h'.grow g2
   have lg2 := g2.1
   rcases h2 with ⟨rfl,rfl⟩ | ⟨rid,A,rfl,hp⟩
   ·have e : isNil .p .nilptr = some true := rfl
    have hH : H = [] := List.eq_nil_of_length_eq_zero (by have := hs.len; simp only [List.length_nil] at this; omega)
    simp -dsimp only [↓WPd,↓Zm,↓Zn,WPu,Za,Zb,Zc,Zd,Ze,Zf,Zg,Zh,Nat.reduceEqDiff,Nat.reduceLT,Zi,Zj,Zk,Zl,Nat.reduceBEq,WPm,v0,e]
    refine rsolve_tail d σ σ2 _ i6 rid0 _ H [] n lv l _ (by simp -dsimp only [↓WPd,↓Zm,↓Zn,WPu,Za,Zb,Zc,Zd,Ze,Zf,Zg,Zh,Nat.reduceEqDiff,Nat.reduceLT,Zi,Zj,Zk,Zl,Nat.reduceBEq,v1]) (by simp -dsimp only [↓WPd,↓Zm,↓Zn,WPu,Za,Zb,Zc,Zd,Ze,Zf,Zg,Zh,Nat.reduceEqDiff,Nat.reduceLT,Zi,Zj,Zk,Zl,Nat.reduceBEq,v2]) (by simp -dsimp only [↓WPd,↓Zm,↓Zn,WPu,Za,Zb,Zc,Zd,Ze,Zf,Zg,Zh,Nat.reduceEqDiff,Nat.reduceLT,Zi,Zj,Zk,Zl,Nat.reduceBEq,v6]) (by simp -dsimp only [↓WPd,↓Zm,↓Zn,WPu,Za,Zb,Zc,Zd,Ze,Zf,Zg,Zh,Nat.reduceEqDiff,Nat.reduceLT,Zi,Zj,Zk,Zl,Nat.reduceBEq]) ((g1.trans g).trans g2) rp0 hs hw (by simp) (g2.get (g.get o1)) (by omega) (by omega) (hl'.grow g2) heq hn hlen ?_
    intro e' σ4 v w6 ld S
    simp -dsimp only [↓WPd,↓Zm,↓Zn,WPu,Za,Zb,Zc,Zd,Ze,Zf,Zg,Zh,Nat.reduceEqDiff,Nat.reduceLT,Zi,Zj,Zk,Zl,Nat.reduceBEq,WPm,w6,ld]
    exact S
   ·simp -dsimp only [↓WPd,↓Zm,↓Zn,WPu,Za,Zb,Zc,Zd,Ze,Zf,Zg,Zh,Nat.reduceEqDiff,Nat.reduceLT,Zi,Zj,Zk,Zl,Nat.reduceBEq,WPm,v0,isnil_ptr]
    refine calledW_of (rfork_ok d σ2 A rid R hp (by omega)) ?_
    rintro w σ3 ⟨rid',rfl,hp',g3,m1⟩
    simp -dsimp only [↓WPd,↓Zm,↓Zn,WPu,Za,Zb,Zc,Zd,Ze,Zf,Zg,Zh,Nat.reduceEqDiff,Nat.reduceLT,Zi,Zj,Zk,Zl,Nat.reduceBEq,WPm]
    refine rsolve_tail d σ σ3 _ i6 rid' _ H R n lv l _ (by simp -dsimp only [↓WPd,↓Zm,↓Zn,WPu,Za,Zb,Zc,Zd,Ze,Zf,Zg,Zh,Nat.reduceEqDiff,Nat.reduceLT,Zi,Zj,Zk,Zl,Nat.reduceBEq,v1]) (by simp -dsimp only [↓WPd,↓Zm,↓Zn,WPu,Za,Zb,Zc,Zd,Ze,Zf,Zg,Zh,Nat.reduceEqDiff,Nat.reduceLT,Zi,Zj,Zk,Zl,Nat.reduceBEq,v2]) (by simp -dsimp only [↓WPd,↓Zm,↓Zn,WPu,Za,Zb,Zc,Zd,Ze,Zf,Zg,Zh,Nat.reduceEqDiff,Nat.reduceLT,Zi,Zj,Zk,Zl,Nat.reduceBEq,v6]) (by simp -dsimp only [↓WPd,↓Zm,↓Zn,WPu,Za,Zb,Zc,Zd,Ze,Zf,Zg,Zh,Nat.reduceEqDiff,Nat.reduceLT,Zi,Zj,Zk,Zl,Nat.reduceBEq]) (((g1.trans g).trans g2).trans g3) hp' hs hw hR (g3.get (g2.get (g.get o1))) (by omega) (by omega) ((hl'.grow g2).grow g3) heq hn hlen ?_
    intro e' σ4 v w6 ld S
    simp -dsimp only [↓WPd,↓Zm,↓Zn,WPu,Za,Zb,Zc,Zd,Ze,Zf,Zg,Zh,Nat.reduceEqDiff,Nat.reduceLT,Zi,Zj,Zk,Zl,Nat.reduceBEq,WPm,w6,ld]
    exact S
  ·simp only [List.map_cons,List.map_nil,List.cons.injEq,and_true] at hv'
   obtain ⟨v0,v1,v2,v6⟩ := hv'
   have hS : solveL H n.toNat l = ⟨2,[],[],0⟩ := by rw [solveL,if_neg (by rw [hok]; simp)]
   rw [hS]
   simp -dsimp only [↓WPd,↓Zm,↓Zn,WPu,Za,Zb,Zc,Zd,Ze,Zf,Zg,Zh,Nat.reduceEqDiff,Nat.reduceLT,Zi,Zj,Zk,Zl,Nat.reduceBEq,WPm,v6,ld]
   exact SolvD.none g 0
end
end Go.Proofs.YtelpjaejmneplaaGreatDoor.Am
