/-
  The abstract machine and the functions of the law, 9: texts put together.
-/
import Derived.Test.YtelpjaejmneplaaGreatDoorUnifySolvesPkF
import Derived.Test.YtelpjaejmneplaaGreatDoorUnifySolvesPkH
import Derived.Test.YtelpjaejmneplaaGreatDoorUnifySolvesPkG
import Derived.Test.YtelpjaejmneplaaGreatDoorUnifySolvesPkE
set_option linter.unusedVariables false
set_option linter.unusedSimpArgs false
set_option linter.unusedSectionVars false
set_option maxRecDepth 100000
namespace Go.Proofs.YtelpjaejmneplaaGreatDoor.Am
open Go
theorem BRows.keeps {σ σ' : Store} {M : Nat → Prop} {lo : Nat} {l : AVal} {us : List AVal} {R : Hp} (h : BRows σ lo l us R) (g : Keeps M σ σ') (hm : ∀ i,i < σ.length → lo ≤ i → ¬ M i) : BRows σ' lo l us R := XRows.keeps h g hm
theorem Told.at {u : AVal} {t : List Cel} (h : Told u t) (σ : Store) : SlOf σ 5 u (CC t) := h σ
theorem XRows.at {σ : Store} {lo sz : Nat} {l : AVal} {es : List AVal} {ps : List (List AVal)} (h : XRows σ lo 1 sz l es es ps) {i : Nat} (hi : i < ps.length) :
  ∃ e,es[i]? = some e ∧ iaddrV 1 l (.int .i64 i) = some (addrOf 1 l i) ∧ loadV σ 1 false (addrOf 1 l i) = some e ∧ Own σ sz e ps[i] ∧ NoLit e := by
 have hi' : i < es.length := by rw [h.len]; exact hi
 have o := h.one i es[i] ps[i] (List.getElem?_eq_getElem hi') (List.getElem?_eq_getElem hi)
 exact ⟨es[i],List.getElem?_eq_getElem hi',h.row.sl.iaddr hi' .i64,h.row.sl.load1 hi' o.one 1,o,h.lit i _ (List.getElem?_eq_getElem hi')⟩
theorem Own.noMap {σ : Store} {sz : Nat} {v : AVal} {es ks vs : List AVal} {id : Nat} (h : Own σ sz v es) (ho : σ[id]? = some (.map ks vs)) : v.sid ≠ some id := by
 intro hs
 rcases h.own with ⟨rfl,_⟩ | ⟨t,rfl⟩ | ⟨id',ep,off,cap,xs,epo,fl,rfl,h1,_⟩
 ·cases hs
 ·cases hs
 ·injection hs with hs; subst hs; rw [ho] at h1; cases h1
theorem solveN_bd_len : ∀ (n : Nat) (M : Hp) (row : List (List Cel)) (bd : Hp) (k : Nat),(solveN n M row bd k).bd.length ≤ bd.length + n
 | n,M,[],bd,k => by rw [solveN_nil]; simp
 | 0,M,t :: rest,bd,k => by rw [solveN_zero]; simp
 | n + 1,M,t :: rest,bd,k => by
  rw [solveN_succ]
  split
  ·simp
  ·split
   ·have := solveN_bd_len n (bindH M (stepL M (sides t).1 (sides t).2).v (stepL M (sides t).1 (sides t).2).t) rest (bd ++ [((stepL M (sides t).1 (sides t).2).v,(stepL M (sides t).1 (sides t).2).t)]) (k + 1)
    simp only [List.length_append,List.length_cons,List.length_nil] at this
    omega
   ·have := solveN_bd_len n M ((stepL M (sides t).1 (sides t).2).ps ++ rest) bd (k + 1)
    omega
structure RanL (H : Hp) (n : Nat) (l : List (List Cel)) (S : SolveR) : Prop where
 chn : Chn H S.bd
 len : S.bd.length ≤ n
 fails : S.out = 2 → S.bd = []
 waits : S.out = 3 → S.left ≠ [] ∧ S.steps = n
 out : S.out = 1 ∨ S.out = 2 ∨ S.out = 3
 ev : S.out = 1 → eqsOk l = true ∧ ∀ t ∈ l,Ev (bindsH H S.bd) (sides t).1 (sides t).2
theorem solveL_ran {H : Hp} (hw : WF H) (n : Nat) (l : List (List Cel)) : RanL H n l (solveL H n l) := by
 unfold solveL
 by_cases hok : eqsOk l = true
 ·rw [if_pos hok]
  have R := solveN_ran hw n H l [] 0 rfl trivial (eqsOk_mem hok)
  have hl := solveN_bd_len n H l [] 0
  exact ⟨R.chn,by simpa using hl,R.fails,fun h => ⟨(R.waits h).1,by rw [(R.waits h).2]; omega⟩,R.out,fun h => ⟨hok,(R.ev h).2⟩⟩
 ·rw [if_neg hok]
  exact ⟨trivial,Nat.zero_le _,fun _ => rfl,(fun h => by cases h),.inr (.inl rfl),fun h => by cases h⟩
section
variable (d : Nat) (σ : Store)
end
theorem solveN_left : ∀ (n : Nat) (M : Hp) (row : List (List Cel)) (bd : Hp) (k : Nat),WF M → (∀ t ∈ row,EqG t) → (solveN n M row bd k).left.length ≤ row.length + 8 * n ∧ ∀ t ∈ (solveN n M row bd k).left,EqG t
 | n,M,[],bd,k,_,_ => by rw [solveN_nil]; exact ⟨Nat.zero_le _,fun t h => by cases h⟩
 | 0,M,t :: rest,bd,k,_,h => by rw [solveN_zero]; exact ⟨Nat.le_refl _,h⟩
 | n + 1,M,t :: rest,bd,k,hw,h => by
  have ht := h t List.mem_cons_self
  have hrest : ∀ u ∈ rest,EqG u := fun u hu => h u (List.mem_cons_of_mem _ hu)
  have F := stepL_facts hw ht.2.1 ht.2.2
  rw [solveN_succ]
  generalize stepL M (sides t).1 (sides t).2 = r at F
  rcases F with ⟨hk,hps⟩ | ⟨hk,hps,hsm⟩ | ⟨hk,hpe,hpl⟩ | hk
  ·rw [if_neg (by omega),if_neg (by omega),hps,List.nil_append]
   obtain ⟨a,b⟩ := solveN_left n M rest bd (k + 1) hw hrest
   exact ⟨by simp only [List.length_cons]; omega,b⟩
  ·rw [if_neg (by omega),if_pos hk]
   obtain ⟨a,b⟩ := solveN_left n (bindH M r.v r.t) rest (bd ++ [(r.v,r.t)]) (k + 1) (hw.bind r.v r.t) hrest
   exact ⟨by simp only [List.length_cons]; omega,b⟩
  ·rw [if_neg (by omega),if_neg (by omega)]
   obtain ⟨a,b⟩ := solveN_left n M (r.ps ++ rest) bd (k + 1) hw (fun u hu => by
    rcases List.mem_append.1 hu with hu | hu
    ·exact hpe u hu
    ·exact hrest u hu)
   simp only [List.length_append] at a
   exact ⟨by simp only [List.length_cons]; omega,b⟩
  ·rw [if_pos hk]
   exact ⟨Nat.zero_le _,fun t h => by cases h⟩
structure LenL (n : Nat) (l : List (List Cel)) (S : SolveR) : Prop where
 bd : S.bd.length ≤ n
 left : S.left.length ≤ l.length + 8 * n
 bdt : ∀ p ∈ S.bd,p.2.length ≤ 256
 lt : ∀ t ∈ S.left,t.length ≤ 256
theorem solveL_len {H : Hp} (hw : WF H) (n : Nat) (l : List (List Cel)) : LenL n l (solveL H n l) := by
 have R := solveL_ran hw n l
 have h1 : (solveL H n l).left.length ≤ l.length + 8 * n ∧ ∀ t ∈ (solveL H n l).left,EqG t := by
  unfold solveL
  by_cases hok : eqsOk l = true
  ·rw [if_pos hok]; exact solveN_left n H l [] 0 hw (eqsOk_mem hok)
  ·rw [if_neg hok]; exact ⟨Nat.zero_le _,fun t h => by cases h⟩
 refine ⟨R.len,h1.1,fun p hp => ?_,fun t ht => (right_len (eq_head (h1.2 t ht).1).1).2⟩
 obtain ⟨i,hi,rfl⟩ := List.getElem_of_mem hp
 obtain ⟨-,-,b3,-⟩ := bindE_okB (R.chn.get i hi)
 exact (right_len (glob_right b3)).2
def stepsN (n : Int) : Int := if n > 3000 then 3000 else n
theorem stepsN_le (n : Int) : stepsN n ≤ 3000 := by unfold stepsN; split <;> omega
section
variable (d : Nat) (σ : Store)
theorem steps8_ok (n : Int) : Called CU.cfg d 42 [.int .i64 n] σ fun v σ' => v = .int .i64 (stepsN n) ∧ σ' = σ := by
 refine called_of (fn := CU.a42) rfl (Nat.le_of_ble_eq_true rfl) ?_
 simp only [CU.a42, CU.o]
 simp -dsimp only [↓WPd,↓Zm,↓Zn,WPu,Za,Zb,Zc,Zd,Ze,Zf,Zg,Zh,Nat.reduceEqDiff,Nat.reduceLT,Zi,Zj,Zk,Zl,Nat.reduceBEq,WPm]
 refine condP_dec (fun h => ?_) (fun h => ?_)
 ·simp -dsimp only [↓WPd,↓Zm,↓Zn,WPu,Za,Zb,Zc,Zd,Ze,Zf,Zg,Zh,Nat.reduceEqDiff,Nat.reduceLT,Zi,Zj,Zk,Zl,Nat.reduceBEq,WPm]
  rw [stepsN,if_pos h]
  exact ⟨rfl,trivial⟩
 ·simp -dsimp only [↓WPd,↓Zm,↓Zn,WPu,Za,Zb,Zc,Zd,Ze,Zf,Zg,Zh,Nat.reduceEqDiff,Nat.reduceLT,Zi,Zj,Zk,Zl,Nat.reduceBEq,WPm]
  rw [stepsN,if_neg h]
  exact ⟨rfl,trivial⟩
theorem fillS4 (o : Int) (bv lv : AVal) (k : Int) (h1 : bv.one = true) (h2 : lv.one = true) : fillA [AVal.int IntKind.u8 0,AVal.nilslice,AVal.nilslice,AVal.int IntKind.i64 0] [(0,1,AVal.int IntKind.u8 o),(1,1,bv),(2,1,lv),(3,1,AVal.int IntKind.i64 k)] = some [AVal.int IntKind.u8 o,bv,lv,AVal.int IntKind.i64 k] := by
 have hc : bv.cells = [bv] := by cases bv <;> simp_all [AVal.one]
 have hc2 : lv.cells = [lv] := by cases lv <;> simp_all [AVal.one]
 have h3 : [bv].all AVal.one = true := by simp only [List.all_cons,List.all_nil,h1]; rfl
 have h4 : [lv].all AVal.one = true := by simp only [List.all_cons,List.all_nil,h2]; rfl
 simp only [fillA,hc,hc2,h3,h4]
 rfl
theorem solved8_ok (o s : Nat) (bv lv : AVal) (h1 : bv.one = true) (h2 : lv.one = true) : Called CU.cfg d 44 [.agg [.int .u8 o,bv,lv,.int .i64 s]] σ fun v σ' => v = .agg [.int .u8 o,bv,lv,.int .i64 s] ∧ Grows σ σ' := by
 refine called_of (fn := CU.a44) rfl (Nat.le_of_ble_eq_true rfl) ?_
 simp only [CU.a44, CU.o]
 have x1 := solv_all (o : Int) s h1 h2
 simp -dsimp only [↓WPd,↓Zm,↓Zn,WPu,Za,Zb,Zc,Zd,Ze,Zf,Zg,Zh,Nat.reduceEqDiff,Nat.reduceLT,Zi,Zj,Zk,Zl,Nat.reduceBEq,WPm,cells_agg,x1]
 have oC : (σ ++ [AObj.cells [.int .u8 o,bv,lv,.int .i64 s]] ++ [AObj.cells [.int .u8 0,.nilslice,.nilslice,.int .i64 0]])[σ.length]? = some (.cells [.int .u8 o,bv,lv,.int .i64 s]) := by simp
 have oI : (σ ++ [AObj.cells [.int .u8 o,bv,lv,.int .i64 s]] ++ [AObj.cells [.int .u8 0,.nilslice,.nilslice,.int .i64 0]])[(σ ++ [AObj.cells [.int .u8 o,bv,lv,.int .i64 s]]).length]? = some (.cells [.int .u8 0,.nilslice,.nilslice,.int .i64 0]) := by simp
 have g : Grows σ (σ ++ [AObj.cells [.int .u8 o,bv,lv,.int .i64 s]] ++ [AObj.cells [.int .u8 0,.nilslice,.nilslice,.int .i64 0]]) := (Grows.app _ _).trans (Grows.app _ _)
 have hi : σ.length < (σ ++ [AObj.cells [.int .u8 o,bv,lv,.int .i64 s]]).length := by simp
 generalize (σ ++ [AObj.cells [.int .u8 o,bv,lv,.int .i64 s]]).length = iI at oI hi
 generalize σ ++ [AObj.cells [.int .u8 o,bv,lv,.int .i64 s]] ++ [AObj.cells [.int .u8 0,.nilslice,.nilslice,.int .i64 0]] = σ1 at oC oI g
 have st := storeN_cells oI (n := 4) (cs' := [.int .u8 o,bv,lv,.int .i64 s]) rfl rfl x1
 have ld := loadN_cells (get_set oI (o' := .cells [.int .u8 o,bv,lv,.int .i64 s])) (n := 4) rfl
 simp -dsimp only [↓WPd,↓Zm,↓Zn,WPu,Za,Zb,Zc,Zd,Ze,Zf,Zg,Zh,Nat.reduceEqDiff,Nat.reduceLT,Zi,Zj,Zk,Zl,Nat.reduceBEq,WPm,faddr_ptr,Nat.zero_add,Nat.add_zero,load_cells oC,List.getElem?_cons_zero,List.getElem?_cons_succ,fillS4 o bv lv s h1 h2,st,ld]
 exact Keeps.trans g (Keeps.set σ1 iI _) fun i hi' (e : i = iI) => by omega
theorem samesolved_ok (S : SolveR) (bv lv bv' lv' : AVal) (h1 : BdSl σ bv S.bd) (h2 : Terms σ lv S.left) (h3 : BdSl σ bv' S.bd) (h4 : Terms σ lv' S.left) (o1 : bv.one = true) (o2 : bv'.one = true) (hb : S.bd.length < 2 ^ 30) (hbt : ∀ p ∈ S.bd,p.2.length ≤ 256) (hl : S.left.length < 2 ^ 30) (hlt : ∀ t ∈ S.left,t.length ≤ 256) :
  Called CU.cfg d 43 [.agg [.int .u8 S.out,bv,lv,.int .i64 S.steps],.agg [.int .u8 S.out,bv',lv',.int .i64 S.steps]] σ fun v σ' => v = .bool true ∧ Grows σ σ' := by
 refine called_of (fn := CU.a43) rfl (Nat.le_of_ble_eq_true rfl) ?_
 simp only [CU.a43, CU.o]
 have x1 := solv_all (S.out : Int) S.steps o1 h2.one
 have x2 := solv_all (S.out : Int) S.steps o2 h4.one
 simp -dsimp only [↓WPd,↓Zm,↓Zn,WPu,Za,Zb,Zc,Zd,Ze,Zf,Zg,Zh,Nat.reduceEqDiff,Nat.reduceLT,Zi,Zj,Zk,Zl,Nat.reduceBEq,WPm,cells_agg,x1,x2]
 have oC : (σ ++ [AObj.cells [.int .u8 S.out,bv,lv,.int .i64 S.steps]] ++ [AObj.cells [.int .u8 S.out,bv',lv',.int .i64 S.steps]])[σ.length]? = some (.cells [.int .u8 S.out,bv,lv,.int .i64 S.steps]) := by simp
 have oI : (σ ++ [AObj.cells [.int .u8 S.out,bv,lv,.int .i64 S.steps]] ++ [AObj.cells [.int .u8 S.out,bv',lv',.int .i64 S.steps]])[(σ ++ [AObj.cells [.int .u8 S.out,bv,lv,.int .i64 S.steps]]).length]? = some (.cells [.int .u8 S.out,bv',lv',.int .i64 S.steps]) := by simp
 have g : Grows σ (σ ++ [AObj.cells [.int .u8 S.out,bv,lv,.int .i64 S.steps]] ++ [AObj.cells [.int .u8 S.out,bv',lv',.int .i64 S.steps]]) := (Grows.app _ _).trans (Grows.app _ _)
 generalize (σ ++ [AObj.cells [.int .u8 S.out,bv,lv,.int .i64 S.steps]]).length = iI at oI
 generalize σ ++ [AObj.cells [.int .u8 S.out,bv,lv,.int .i64 S.steps]] ++ [AObj.cells [.int .u8 S.out,bv',lv',.int .i64 S.steps]] = σ1 at oC oI g
 generalize σ.length = iC at oC
 have kk : ((S.out : Int) == (S.out : Int)) = true := by simp
 have ks : ((S.steps : Int) == (S.steps : Int)) = true := by simp
 simp -dsimp only [↓WPd,↓Zm,↓Zn,WPu,Za,Zb,Zc,Zd,Ze,Zf,Zg,Zh,Nat.reduceEqDiff,Nat.reduceLT,Zi,Zj,Zk,Zl,Nat.reduceBEq,WPm,faddr_ptr,Nat.zero_add,Nat.add_zero,load_cells oC,load_cells oI,List.getElem?_cons_zero,List.getElem?_cons_succ,kk]
 refine calledW_of (samebd_ok d σ1 bv bv' S.bd (h1.grow g) (h3.grow g) (by omega) (fun p hp => by have := hbt p hp; omega)) ?_
 rintro w σ2 ⟨rfl,g2⟩
 simp -dsimp only [↓WPd,↓Zm,↓Zn,WPu,Za,Zb,Zc,Zd,Ze,Zf,Zg,Zh,Nat.reduceEqDiff,Nat.reduceLT,Zi,Zj,Zk,Zl,Nat.reduceBEq,WPm,faddr_ptr,Nat.zero_add,Nat.add_zero,load_cells (g2.get oC),load_cells (g2.get oI),List.getElem?_cons_zero,List.getElem?_cons_succ]
 refine calledW_of (sameterms_ok d σ2 lv lv' S.left (by omega) (fun t h => by have := hlt t h; omega) ((h2.grow g).grow g2) ((h4.grow g).grow g2)) ?_
 rintro w σ3 ⟨rfl,rfl⟩
 simp -dsimp only [↓WPd,↓Zm,↓Zn,WPu,Za,Zb,Zc,Zd,Ze,Zf,Zg,Zh,Nat.reduceEqDiff,Nat.reduceLT,Zi,Zj,Zk,Zl,Nat.reduceBEq,WPm,faddr_ptr,Nat.zero_add,Nat.add_zero,load_cells (g2.get oC),load_cells (g2.get oI),List.getElem?_cons_zero,List.getElem?_cons_succ,ks]
 exact g.trans g2
end
set_option maxHeartbeats 4000000 in
theorem solves_run (bv lv : AVal) (bs : Hp) (n : Int) (l : List (List Cel)) (hb : BdArg bv bs) (hl : TA lv l) (hsm : ∀ t ∈ l,Small t ∧ t.length < 2 ^ 28) (hlen : l.length < 2 ^ 26) :
  Called CU.cfg 0 6 [bv,.int .i64 n,lv] [] fun v _ => v = .bool true := by
 refine called_of (fn := CU.a6) rfl (Nat.le_of_ble_eq_true rfl) ?_
 simp only [CU.a6, CU.o]
 simp -dsimp only [↓WPd,↓Zm,↓Zn,WPu,Za,Zb,Zc,Zd,Ze,Zf,Zg,Zh,Nat.reduceEqDiff,Nat.reduceLT,Zi,Zj,Zk,Zl,Nat.reduceBEq,WPm]
 refine calledW_of (maps_ok 0 [] bv bs hb) ?_
 rintro r σ1 ⟨id,mid,vs,rid,A,rfl,h1,hr1,g1,-,hne1,hne2,-⟩
 have hw := h1.wf
 have hs : Same (bindsH [] bs) (bindsR [] bs) := Same.nil.binds bs
 have hlen0 := bindsR_len bs []
 have hlb := hb.len
 simp only [List.length_nil] at hlen0
 generalize bindsH [] bs = H at *
 generalize bindsR [] bs = R at *
 have hHR := hs.len
 have hsh : ∀ p ∈ R,p.2.length ≤ 256 := fun p hp => hs.wfr.short hp
 simp -dsimp only [↓WPd,↓Zm,↓Zn,WPu,Za,Zb,Zc,Zd,Ze,Zf,Zg,Zh,Nat.reduceEqDiff,Nat.reduceLT,Zi,Zj,Zk,Zl,Nat.reduceBEq,WPm,List.getElem?_cons_zero,List.getElem?_cons_succ]
 refine calledW_of (handterms_ok 0 σ1 lv l (by omega) (fun x hx => by have := (hsm x hx).2; omega) (hl.terms σ1)) ?_
 rintro q σ3 ⟨hq,g3⟩
 have h3 := h1.grow g3
 have hr3 := hr1.grow g3
 simp -dsimp only [↓WPd,↓Zm,↓Zn,WPu,Za,Zb,Zc,Zd,Ze,Zf,Zg,Zh,Nat.reduceEqDiff,Nat.reduceLT,Zi,Zj,Zk,Zl,Nat.reduceBEq,WPm]
 refine calledW_of (steps8_ok 0 σ3 n) ?_
 rintro w σ3' ⟨rfl,rfl⟩
 have hn' := stepsN_le n
 generalize hst : stepsN n = n' at *
 have hN : n'.toNat ≤ 3000 := by omega
 simp -dsimp only [↓WPd,↓Zm,↓Zn,WPu,Za,Zb,Zc,Zd,Ze,Zf,Zg,Zh,Nat.reduceEqDiff,Nat.reduceLT,Zi,Zj,Zk,Zl,Nat.reduceBEq,WPm]
 refine calledW_of (solve_ok 0 σ3' (.ptr id 0) q H n' l h3.v hq.terms (fun t ht => (hsm t ht).1) (by omega) (by omega)) ?_
 rintro w σ4 ⟨g4,b1,l1,us,es,c,rfl,B,O,c1,c2,c3,c4⟩
 have LS := solveL_len hw n'.toNat l
 have LS0 := solveL_len WF.nil n'.toNat l
 generalize hS : solveL H n'.toNat l = S at *
 generalize hS0 : solveL [] n'.toNat l = S0 at *
 have z4 : ∀ (σ : Store) (cs : List AVal),cs.length = 4 → cs.all AVal.one = true → storeV (σ ++ [.cells [.int .u8 0,.nilslice,.nilslice,.int .i64 0]]) 4 (.ptr σ.length 0) (.agg cs) = some (σ ++ [.cells cs]) := fun σ cs h1 h2 => by
  have h : (σ ++ [AObj.cells [.int .u8 0,.nilslice,.nilslice,.int .i64 0]])[σ.length]? = some (.cells [.int .u8 0,.nilslice,.nilslice,.int .i64 0]) := by simp
  rw [storeN_cells (cs' := cs) (n := 4) h rfl h1 h2,set_last]
 simp -dsimp only [↓WPd,↓Zm,↓Zn,WPu,Za,Zb,Zc,Zd,Ze,Zf,Zg,Zh,Nat.reduceEqDiff,Nat.reduceLT,Zi,Zj,Zk,Zl,Nat.reduceBEq,WPm,z4 σ4 [.int .u8 S.out,b1,l1,.int .i64 S.steps] rfl (solv_all _ S.steps B.row.one O.row.one)]
 have o5 : (σ4 ++ [AObj.cells [.int .u8 S.out,b1,l1,.int .i64 S.steps]])[σ4.length]? = some (.cells [.int .u8 S.out,b1,l1,.int .i64 S.steps]) := by simp
 have g5 : Grows σ4 (σ4 ++ [AObj.cells [.int .u8 S.out,b1,l1,.int .i64 S.steps]]) := Grows.app _ _
 generalize σ4 ++ [AObj.cells [.int .u8 S.out,b1,l1,.int .i64 S.steps]] = σ5 at o5 g5
 generalize hi10 : σ4.length = i10 at o5
 have g35 := g4.trans g5
 have bd1 := BRows.bds B
 have tl1 := ORows.terms O
 refine drawnP_of rfl ?_
 simp -dsimp only [↓WPd,↓Zm,↓Zn,WPu,Za,Zb,Zc,Zd,Ze,Zf,Zg,Zh,Nat.reduceEqDiff,Nat.reduceLT,Zi,Zj,Zk,Zl,Nat.reduceBEq,↓WPed,WPeu,Nat.reduceAdd,and_self]
 refine isoW_bool live08_ran ?_
 simp -dsimp only [↓WPd,↓Zm,↓Zn,WPu,Za,Zb,Zc,Zd,Ze,Zf,Zg,Zh,Nat.reduceEqDiff,Nat.reduceLT,Zi,Zj,Zk,Zl,Nat.reduceBEq,↓WPed,WPeu,Nat.reduceAdd,and_self,loadN_cells o5 (n := 4) rfl]
 refine calledW_of (solved8_ok 0 σ5 S.out S.steps b1 l1 B.row.one O.row.one) ?_
 rintro w σ6 ⟨rfl,g6⟩
 simp -dsimp only [↓WPd,↓Zm,↓Zn,WPu,Za,Zb,Zc,Zd,Ze,Zf,Zg,Zh,Nat.reduceEqDiff,Nat.reduceLT,Zi,Zj,Zk,Zl,Nat.reduceBEq,↓WPed,WPeu,Nat.reduceAdd,and_self]
 refine calledW_of (steps8_ok 0 σ6 n) ?_
 rintro w σ7 ⟨rfl,rfl⟩
 rw [hst]
 simp -dsimp only [↓WPd,↓Zm,↓Zn,WPu,Za,Zb,Zc,Zd,Ze,Zf,Zg,Zh,Nat.reduceEqDiff,Nat.reduceLT,Zi,Zj,Zk,Zl,Nat.reduceBEq,↓WPed,WPeu,Nat.reduceAdd,and_self]
 refine calledW_of (rsolve_ok 0 σ7 (.ptr rid 0) lv H R n' l ((hr3.grow g35).grow g6).v hs hw (by omega) (hl.terms σ7) (fun t ht => by have := (hsm t ht).2; omega) (by omega) (by omega)) ?_
 rintro w σ8 D
 rw [hS] at D
 obtain ⟨g8,b2,l2,rfl,bd2,tl2⟩ := D
 have g58 := g6.trans g8
 have g48 := g5.trans g58
 simp -dsimp only [↓WPd,↓Zm,↓Zn,WPu,Za,Zb,Zc,Zd,Ze,Zf,Zg,Zh,Nat.reduceEqDiff,Nat.reduceLT,Zi,Zj,Zk,Zl,Nat.reduceBEq,↓WPed,WPeu,Nat.reduceAdd,and_self]
 refine calledW_of (samesolved_ok 0 σ8 S b1 l1 b2 l2 (bd1.grow g48) (tl1.grow g48) bd2 tl2 B.row.one (by obtain ⟨es,h1,-⟩ := bd2; exact h1.one) (by have := LS.bd; omega) LS.bdt (by have := LS.left; omega) LS.lt) ?_
 rintro w σ9 ⟨rfl,g9⟩
 have g39 := (g35.trans g58).trans g9
 simp -dsimp only [↓WPd,↓Zm,↓Zn,WPu,Za,Zb,Zc,Zd,Ze,Zf,Zg,Zh,Nat.reduceEqDiff,Nat.reduceLT,Zi,Zj,Zk,Zl,Nat.reduceBEq,↓WPed,WPeu,Nat.reduceAdd,and_self]
 refine calledW_of (bindings_ok 0 σ9 id mid vs H R (h3.grow g39) hs (by omega) (fun p hp => by have := hsh p hp; omega)) ?_
 rintro u σ10 ⟨g10,us0,br⟩
 obtain ⟨w,ow9,bw9⟩ := (hr3.grow g39).bds
 have e0 : ([w] : List AVal)[0]? = some w := rfl
 simp -dsimp only [↓WPd,↓Zm,↓Zn,WPu,Za,Zb,Zc,Zd,Ze,Zf,Zg,Zh,Nat.reduceEqDiff,Nat.reduceLT,Zi,Zj,Zk,Zl,Nat.reduceBEq,↓WPed,WPeu,Nat.reduceAdd,and_self,isnil_ptr,faddr_ptr,Nat.zero_add,Nat.add_zero,load_cells ow9,load_cells (g10.get ow9),e0]
 refine calledW_of (msamebd_ok 0 σ10 u w R br.bds (bw9.grow g10) (by omega) (fun p hp => by have := hsh p hp; omega)) ?_
 rintro v σ11 ⟨rfl,g11⟩
 have g311 := (g39.trans g10).trans g11
 simp -dsimp only [↓WPd,↓Zm,↓Zn,WPu,Za,Zb,Zc,Zd,Ze,Zf,Zg,Zh,Nat.reduceEqDiff,Nat.reduceLT,Zi,Zj,Zk,Zl,Nat.reduceBEq,↓WPed,WPeu,Nat.reduceAdd,and_self]
 refine calledW_of (steps8_ok 0 σ11 n) ?_
 rintro w σ12 ⟨rfl,rfl⟩
 rw [hst]
 simp -dsimp only [↓WPd,↓Zm,↓Zn,WPu,Za,Zb,Zc,Zd,Ze,Zf,Zg,Zh,Nat.reduceEqDiff,Nat.reduceLT,Zi,Zj,Zk,Zl,Nat.reduceBEq,↓WPed,WPeu,Nat.reduceAdd,and_self]
 refine calledW_of (solve_ok 0 σ12 .nilptr q [] n' l (.inl ⟨rfl,rfl⟩) (hq.terms.grow g311) (fun t ht => (hsm t ht).1) (by omega) (by omega)) ?_
 rintro w σ13 ⟨g13,b3,l3,us3,es3,c',rfl,B3,O3,-,-,-,-⟩
 rw [hS0] at B3 O3 ⊢
 simp -dsimp only [↓WPd,↓Zm,↓Zn,WPu,Za,Zb,Zc,Zd,Ze,Zf,Zg,Zh,Nat.reduceEqDiff,Nat.reduceLT,Zi,Zj,Zk,Zl,Nat.reduceBEq,↓WPed,WPeu,Nat.reduceAdd,and_self]
 refine calledW_of (solved8_ok 0 σ13 S0.out S0.steps b3 l3 B3.row.one O3.row.one) ?_
 rintro w σ14 ⟨rfl,g14⟩
 simp -dsimp only [↓WPd,↓Zm,↓Zn,WPu,Za,Zb,Zc,Zd,Ze,Zf,Zg,Zh,Nat.reduceEqDiff,Nat.reduceLT,Zi,Zj,Zk,Zl,Nat.reduceBEq,↓WPed,WPeu,Nat.reduceAdd,and_self]
 refine calledW_of (steps8_ok 0 σ14 n) ?_
 rintro w σ15 ⟨rfl,rfl⟩
 rw [hst]
 simp -dsimp only [↓WPd,↓Zm,↓Zn,WPu,Za,Zb,Zc,Zd,Ze,Zf,Zg,Zh,Nat.reduceEqDiff,Nat.reduceLT,Zi,Zj,Zk,Zl,Nat.reduceBEq,↓WPed,WPeu,Nat.reduceAdd,and_self]
 refine calledW_of (rsolve_ok 0 σ15 .nilptr lv [] [] n' l (.inl ⟨rfl,rfl⟩) Same.nil WF.nil (by simp) (hl.terms σ15) (fun t ht => by have := (hsm t ht).2; omega) (by omega) (by omega)) ?_
 rintro w σ16 D
 rw [hS0] at D
 obtain ⟨g16,b4,l4,rfl,bd4,tl4⟩ := D
 simp -dsimp only [↓WPd,↓Zm,↓Zn,WPu,Za,Zb,Zc,Zd,Ze,Zf,Zg,Zh,Nat.reduceEqDiff,Nat.reduceLT,Zi,Zj,Zk,Zl,Nat.reduceBEq,↓WPed,WPeu,Nat.reduceAdd,and_self]
 refine calledW_of (samesolved_ok 0 σ16 S0 b3 l3 b4 l4 ((BRows.bds B3).grow (g14.trans g16)) ((ORows.terms O3).grow (g14.trans g16)) bd4 tl4 B3.row.one (by obtain ⟨es,h1,-⟩ := bd4; exact h1.one) (by have := LS0.bd; omega) LS0.bdt (by have := LS0.left; omega) LS0.lt) ?_
 rintro w σ17 ⟨rfl,g17⟩
 have g317 := (((g311.trans g13).trans g14).trans g16).trans g17
 have g517 : Grows σ5 σ17 := ((((((g58.trans g9).trans g10).trans g11).trans g13).trans g14).trans g16).trans g17
 simp -dsimp only [↓WPd,↓Zm,↓Zn,WPu,Za,Zb,Zc,Zd,Ze,Zf,Zg,Zh,Nat.reduceEqDiff,Nat.reduceLT,Zi,Zj,Zk,Zl,Nat.reduceBEq,↓WPed,WPeu,Nat.reduceAdd,and_self]
 have e5 : fillA [AVal.nilslice,.nilslice,.nilslice,.nilslice,.nilslice] [] = some [AVal.nilslice,.nilslice,.nilslice,.nilslice,.nilslice] := rfl
 have e6 : [AVal.nilslice,.nilslice,.nilslice,.nilslice,.nilslice].all AVal.one = true := rfl
 simp -dsimp only [↓WPd,↓Zm,↓Zn,WPu,Za,Zb,Zc,Zd,Ze,Zf,Zg,Zh,Nat.reduceEqDiff,Nat.reduceLT,Zi,Zj,Zk,Zl,Nat.reduceBEq,WPm,e5,e6,cells_agg]
 have gb : Grows σ17 (σ17 ++ [AObj.cells [.nilslice,.nilslice,.nilslice,.nilslice,.nilslice]]) := Grows.app _ _
 have bk0 : BookC .nilslice .nilslice .nilslice .nilslice 0 (σ17 ++ [AObj.cells [.nilslice,.nilslice,.nilslice,.nilslice,.nilslice]]) σ17.length .nilslice [] [] := ⟨by simp,ORows.nil _ _ _⟩
 have lb : σ17.length < (σ17 ++ [AObj.cells [.nilslice,.nilslice,.nilslice,.nilslice,.nilslice]]).length := by simp
 generalize σ17 ++ [AObj.cells [.nilslice,.nilslice,.nilslice,.nilslice,.nilslice]] = σb at gb bk0 lb
 generalize hib : σ17.length = ib at bk0 lb
 have g5b := g517.trans gb
 have g4b := g5.trans g5b
 have g3b := g4.trans g4b
 have l45 := g5.1
 have l34 := g4.1
 have l5i : σ5.length ≤ ib := by rw [← hib]; exact g517.1
 have l10 : i10 < σ5.length := (List.getElem?_eq_some_iff.1 o5).1
 have o5b := g5b.get o5
 have Bb := XRows.grow B g4b
 have Ob := O.grow g4b
 have bdl := LS.bd
 have lel := LS.left
 simp -dsimp only [↓WPd,↓Zm,↓Zn,WPu,Za,Zb,Zc,Zd,Ze,Zf,Zg,Zh,Nat.reduceEqDiff,Nat.reduceLT,Zi,Zj,Zk,Zl,Nat.reduceBEq,WPm,faddr_ptr,Nat.zero_add,Nat.add_zero,load_cells o5b,List.getElem?_cons_zero,List.getElem?_cons_succ]
 refine calledW_of (takebd_ok 0 σb _ _ _ _ 0 σ3'.length ib .nilslice b1 [] us [] S.bd bk0 Bb (Nat.zero_le _) (by omega) (by simp; omega) (fun i x j _ _ h => by cases h) (fun i x k y j _ h => by simp at h) (fun j _ h => by cases h)) ?_
 rintro w σ18 ⟨k18,w18,bk18,s18⟩
 have q18 := k18.1
 have w18' : ∀ j,w18.sid = some j → ib < j := fun j hj => by
  rcases s18 j hj with e | e
  ·cases e
  ·omega
 have out18 : ∀ j,j < ib → ¬ (j = ib ∨ AVal.nilslice.sid = some j) := fun j hj e => by
  rcases e with e | e
  ·omega
  ·cases e
 have o518 := k18.get o5b (out18 _ (by omega))
 have O18 : ORows σ18 c 5 l1 es (S.left.map CC) := ⟨Ob.row.keeps k18 fun j hj => out18 j (by have := O.row.sl.lt hj; omega),O.len,fun i e p h1 h2 => (Ob.one i e p h1 h2).keeps k18 fun j hj => out18 j (by have := O.lt h1 hj; omega),O.frs,O.frl,O.apart,O.off,O.lit,O.litl⟩
 simp -dsimp only [↓WPd,↓Zm,↓Zn,WPu,Za,Zb,Zc,Zd,Ze,Zf,Zg,Zh,Nat.reduceEqDiff,Nat.reduceLT,Zi,Zj,Zk,Zl,Nat.reduceBEq,WPm,faddr_ptr,Nat.zero_add,Nat.add_zero,load_cells o518,List.getElem?_cons_zero,List.getElem?_cons_succ]
 refine calledW_of (taketerms_ok 0 σ18 _ _ _ _ 0 c ib w18 l1 _ es _ S.left bk18 O18 (Nat.zero_le _) (by omega) (by simp; omega) (fun i x j hi hj e => by have := O.lt hi hj; have := w18' j e; omega) (fun i x k y j hi hk hj e => by
  have h1 := O.frs i x hi j hj
  have h2 := c4 k y j (by simpa using hk) e
  omega) (fun j hj e => by have := O.row.sl.lt hj; have := w18' j e; omega)) ?_
 rintro w σ19 ⟨k19,w19,bk19,s19⟩
 have q19 := k19.1
 have w19' : ∀ j,w19.sid = some j → ib < j := fun j hj => by
  rcases s19 j hj with e | e
  ·exact w18' j e
  ·omega
 have k3b : Keeps (fun j => ib ≤ j) σb σ19 := Keeps.trans (k18.mono fun j hj e => by
   rcases e with e | e
   ·omega
   ·cases e) k19 fun j hj e => by
   rcases e with e | e
   ·omega
   ·have := w18' j e; omega
 have hid : id < σ3'.length := (List.getElem?_eq_some_iff.1 h3.obj).1
 have hmd : mid < σ3'.length := (List.getElem?_eq_some_iff.1 h3.map).1
 have h19 := (h3.grow g3b).keeps k3b (by omega) (by omega)
 have hqb := hq.keep g3b fun _ _ _ h => h
 have hq19 := hqb.keep k3b fun j h1 h2 e => by omega
 simp -dsimp only [↓WPd,↓Zm,↓Zn,WPu,Za,Zb,Zc,Zd,Ze,Zf,Zg,Zh,Nat.reduceEqDiff,Nat.reduceLT,Zi,Zj,Zk,Zl,Nat.reduceBEq,WPm]
 refine calledW_of (steps8_ok 0 σ19 n) ?_
 rintro w σ20 ⟨rfl,rfl⟩
 rw [hst]
 simp -dsimp only [↓WPd,↓Zm,↓Zn,WPu,Za,Zb,Zc,Zd,Ze,Zf,Zg,Zh,Nat.reduceEqDiff,Nat.reduceLT,Zi,Zj,Zk,Zl,Nat.reduceBEq,WPm]
 refine calledW_of (solve_ok 0 σ20 (.ptr id 0) q H n' l h19.v hq19.terms (fun t ht => (hsm t ht).1) (by omega) (by omega)) ?_
 rintro w σ21 SS
 rw [hS] at SS
 obtain ⟨g21,b5,l5,us5,es5,cc,rfl,B5,O5,cc1,cc2,cc3,cc4⟩ := SS
 simp -dsimp only [↓WPd,↓Zm,↓Zn,WPu,Za,Zb,Zc,Zd,Ze,Zf,Zg,Zh,Nat.reduceEqDiff,Nat.reduceLT,Zi,Zj,Zk,Zl,Nat.reduceBEq,WPm,z4 σ21 [.int .u8 S.out,b5,l5,.int .i64 S.steps] rfl (solv_all _ S.steps B5.row.one O5.row.one)]
 have o22 : (σ21 ++ [AObj.cells [.int .u8 S.out,b5,l5,.int .i64 S.steps]])[σ21.length]? = some (.cells [.int .u8 S.out,b5,l5,.int .i64 S.steps]) := by simp
 have g22 : Grows σ21 (σ21 ++ [AObj.cells [.int .u8 S.out,b5,l5,.int .i64 S.steps]]) := Grows.app _ _
 generalize σ21 ++ [AObj.cells [.int .u8 S.out,b5,l5,.int .i64 S.steps]] = σ22 at o22 g22
 generalize hi12 : σ21.length = i12 at o22
 have g2022 := g21.trans g22
 have bk22 : BookC .nilslice .nilslice .nilslice .nilslice 0 σ22 ib w19 ([] ++ us ++ es) ([] ++ S.bd.map (·.2) ++ S.left) := ⟨g2022.get bk19.obj,bk19.rows.grow g2022⟩
 have lw19 : ∀ j,w19.sid = some j → j < σ20.length := fun j hj => bk19.rows.row.sl.lt hj
 have lib : ib < σ20.length := (List.getElem?_eq_some_iff.1 bk19.obj).1
 have q21 := g21.1
 have q22 := g22.1
 have B22 := XRows.grow B5 g22
 have O22 := O5.grow g22
 simp -dsimp only [↓WPd,↓Zm,↓Zn,WPu,Za,Zb,Zc,Zd,Ze,Zf,Zg,Zh,Nat.reduceEqDiff,Nat.reduceLT,Zi,Zj,Zk,Zl,Nat.reduceBEq,WPm,faddr_ptr,Nat.zero_add,Nat.add_zero,load_cells o22,List.getElem?_cons_zero,List.getElem?_cons_succ]
 refine calledW_of (takebd_ok 0 σ22 _ _ _ _ 0 σ20.length ib w19 b5 _ us5 _ S.bd bk22 B22 (Nat.zero_le _) (by omega) (by simp; omega) (fun i x j hi hj e => by have := B5.frs i x hi j hj; have := lw19 j e; omega) (fun i x k y j hi hk hj e => by have := B5.frs i x hi j hj; have := bk19.rows.lt hk e; omega) (fun j hj e => by have := B5.frl j hj; have := lw19 j e; omega)) ?_
 rintro w σ23 ⟨k23,w23,bk23,s23⟩
 have q23 := k23.1
 have w23' : ∀ j,w23.sid = some j → ib < j ∧ (j < σ20.length ∨ σ22.length ≤ j) := fun j hj => by
  rcases s23 j hj with e | e
  ·exact ⟨w19' j e,.inl (lw19 j e)⟩
  ·exact ⟨by omega,.inr e⟩
 have out23 : ∀ j,σ20.length ≤ j → ¬ (j = ib ∨ w19.sid = some j) := fun j hj e => by
  rcases e with e | e
  ·omega
  ·have := lw19 _ e; omega
 have o23 := k23.get o22 (out23 _ (by omega))
 have O23 : ORows σ23 cc 5 l5 es5 (S.left.map CC) := ⟨O22.row.keeps k23 fun j hj => out23 j (by have := O5.frl j hj; omega),O5.len,fun i e p h1 h2 => (O22.one i e p h1 h2).keeps k23 fun j hj => out23 j (by have := O5.frs i e h1 j hj; omega),O5.frs,O5.frl,O5.apart,O5.off,O5.lit,O5.litl⟩
 simp -dsimp only [↓WPd,↓Zm,↓Zn,WPu,Za,Zb,Zc,Zd,Ze,Zf,Zg,Zh,Nat.reduceEqDiff,Nat.reduceLT,Zi,Zj,Zk,Zl,Nat.reduceBEq,WPm,faddr_ptr,Nat.zero_add,Nat.add_zero,load_cells o23,List.getElem?_cons_zero,List.getElem?_cons_succ]
 refine calledW_of (taketerms_ok 0 σ23 _ _ _ _ 0 cc ib w23 l5 _ es5 _ S.left bk23 O23 (Nat.zero_le _) (by omega) (by simp; omega) (fun i x j hi hj e => by have := O5.frs i x hi j hj; have := O5.lt hi hj; have := w23' j e; omega) (fun i x k y j hi hk hj e => ?_) (fun j hj e => by have := O5.frl j hj; have := O5.row.sl.lt hj; have := w23' j e; omega)) ?_
 ·have hfr := O5.frs i x hi j hj
  by_cases hkl : k < ([] ++ us ++ es).length
  ·rw [List.getElem?_append_left hkl] at hk
   have := bk19.rows.lt hk e
   omega
  ·rw [List.getElem?_append_right (by omega)] at hk
   have := cc4 _ y j hk e
   omega
 rintro w σ24 ⟨k24,w24,bk24,s24⟩
 have q24 := k24.1
 simp -dsimp only [↓WPd,↓Zm,↓Zn,WPu,Za,Zb,Zc,Zd,Ze,Zf,Zg,Zh,Nat.reduceEqDiff,Nat.reduceLT,Zi,Zj,Zk,Zl,Nat.reduceBEq,WPm]
 refine drawnP_of rfl ?_
 simp -dsimp only [↓WPd,↓Zm,↓Zn,WPu,Za,Zb,Zc,Zd,Ze,Zf,Zg,Zh,Nat.reduceEqDiff,Nat.reduceLT,Zi,Zj,Zk,Zl,Nat.reduceBEq,↓WPed,WPeu,Nat.reduceAdd,and_self]
 refine calledW_of (alonec_ok 0 σ24 0 ib w24 _ _ bk24 (by simp; omega) (fun u hu => ?_)) ?_
 ·simp only [List.mem_append,List.not_mem_nil,false_or,List.mem_map] at hu
  rcases hu with ((⟨p,hp,rfl⟩ | hu) | ⟨p,hp,rfl⟩) | hu
  ·have := LS.bdt p hp; omega
  ·have := LS.lt u hu; omega
  ·have := LS.bdt p hp; omega
  ·have := LS.lt u hu; omega
 rintro w σ25 ⟨rfl,k25⟩
 have hM : ∀ j,(j = ib ∨ ∃ (i : Nat) (e : AVal),([] ++ us ++ es ++ us5 ++ es5)[i]? = some e ∧ e.sid = some j) → σ3'.length ≤ j := fun j h => by
  rcases h with rfl | ⟨i,e,hi,he⟩
  ·omega
  ·have hm := List.mem_of_getElem? hi
   simp only [List.mem_append,List.not_mem_nil,false_or] at hm
   rcases hm with ((hm | hm) | hm) | hm
   ·obtain ⟨i',hi'⟩ := List.getElem?_of_mem hm
    exact B.frs i' e hi' j he
   ·obtain ⟨i',hi'⟩ := List.getElem?_of_mem hm
    have := O.frs i' e hi' j he; omega
   ·obtain ⟨i',hi'⟩ := List.getElem?_of_mem hm
    have := B5.frs i' e hi' j he; omega
   ·obtain ⟨i',hi'⟩ := List.getElem?_of_mem hm
    have := O5.frs i' e hi' j he; omega
 have q3b := g3b.1
 have K3 : Keeps (fun j => σ3'.length ≤ j) σ3' σ25 := by
  refine Keeps.trans (Keeps.trans (Keeps.trans (Keeps.trans (Keeps.trans g3b.any k3b fun j hj e => ?_) g2022 fun j hj e => e.elim) k23 fun j hj e => ?_) k24 fun j hj e => ?_) k25 fun j hj e => hM j e
  ·omega
  ·rcases e with e | e
   ·omega
   ·have := w19' j e; omega
  ·rcases e with e | e
   ·omega
   ·have := (w23' j e).1; omega
 have hq25 := hq.keep K3 fun j h1 h2 e => by omega
 have h25 := h3.keeps K3 (by omega) (by omega)
 have hrid : rid < σ3'.length := by obtain ⟨w,es,o1,_⟩ := hr3; exact (List.getElem?_eq_some_iff.1 o1).1
 have hr25 : RefP σ25 A rid R := hr3.keeps K3 (by omega) fun i hi a => ⟨a,by omega⟩
 simp -dsimp only [↓WPd,↓Zm,↓Zn,WPu,Za,Zb,Zc,Zd,Ze,Zf,Zg,Zh,Nat.reduceEqDiff,Nat.reduceLT,Zi,Zj,Zk,Zl,Nat.reduceBEq,↓WPed,WPeu,Nat.reduceAdd,and_self]
 refine calledW_of (keptterms_ok 0 σ25 q lv l _ _ (by omega) (fun x hx => by have := (hsm x hx).2; omega) hq25 (hl.terms σ25)) ?_
 rintro w σ26 ⟨rfl,rfl⟩
 simp -dsimp only [↓WPd,↓Zm,↓Zn,WPu,Za,Zb,Zc,Zd,Ze,Zf,Zg,Zh,Nat.reduceEqDiff,Nat.reduceLT,Zi,Zj,Zk,Zl,Nat.reduceBEq,↓WPed,WPeu,Nat.reduceAdd,and_self]
 refine calledW_of (bindings_ok 0 σ26 id mid vs H R h25 hs (by omega) (fun p hp => by have := hsh p hp; omega)) ?_
 rintro u' σ27 ⟨g27,us9,br'⟩
 obtain ⟨w',ow26,bw26⟩ := hr25.bds
 have e0' : ([w'] : List AVal)[0]? = some w' := rfl
 simp -dsimp only [↓WPd,↓Zm,↓Zn,WPu,Za,Zb,Zc,Zd,Ze,Zf,Zg,Zh,Nat.reduceEqDiff,Nat.reduceLT,Zi,Zj,Zk,Zl,Nat.reduceBEq,↓WPed,WPeu,Nat.reduceAdd,and_self,isnil_ptr,faddr_ptr,Nat.zero_add,Nat.add_zero,load_cells ow26,load_cells (g27.get ow26),e0']
 refine calledW_of (msamebd_ok 0 σ27 u' w' R br'.bds (bw26.grow g27) (by omega) (fun p hp => by have := hsh p hp; omega)) ?_
 rintro v σ28 ⟨rfl,-⟩
 simp -dsimp only [↓WPd,↓Zm,↓Zn,WPu,Za,Zb,Zc,Zd,Ze,Zf,Zg,Zh,Nat.reduceEqDiff,Nat.reduceLT,Zi,Zj,Zk,Zl,Nat.reduceBEq,↓WPed,WPeu,Nat.reduceAdd,and_self]
def AR (σ : Store) (aid : Nat) (ls : List (List Cel)) : Prop := ∃ es,σ[aid]? = some (.arr 1 es 0 0) ∧ Two Told es ls
theorem AR.grow {σ σ' : Store} {aid : Nat} {ls : List (List Cel)} (h : AR σ aid ls) (g : Grows σ σ') : AR σ' aid ls := by
 obtain ⟨es,h1,h2⟩ := h; exact ⟨es,g.get h1,h2⟩
theorem AR.terms {σ : Store} {aid : Nat} {ls : List (List Cel)} (h : AR σ aid ls) {N : Nat} (hN : ls.length = N) : Terms σ (.slice 1 aid 0 0 N (some N)) ls := by
 obtain ⟨es,h1,h2⟩ := h
 subst hN
 have ho : Own σ 1 (.slice 1 aid 0 0 ls.length (some ls.length)) es := ⟨.inr (.inr ⟨aid,0,0,some ls.length,es,0,0,by rw [h2.len],h1,Nat.le_refl _,by simp,fun _ => by simp,.inr (by rw [h2.len])⟩)⟩
 exact ⟨es,ho.sl,h2.mono fun e t h => h σ⟩
theorem AR.set {σ : Store} {aid : Nat} {ls : List (List Cel)} (h : AR σ aid ls) {j : Nat} (hj : j < ls.length) {u : AVal} {t : List Cel} (hu : Told u t) : ∃ σ',storeV σ 1 (.eptr aid 0 j 0) u = some σ' ∧ AR σ' aid (ls.set j t) ∧ Keeps (fun i => i = aid) σ σ' := by
 obtain ⟨es,h1,h2⟩ := h
 have hj' : j < es.length := by rw [h2.len]; exact hj
 obtain ⟨e,e1,e2⟩ := h2.get hj
 have hee : es[j] = e := by rw [List.getElem?_eq_getElem hj'] at e1; exact Option.some.inj e1
 have st := arr_store1 h1 hj' (hu σ).one (by rw [hee]; exact (e2 σ).one)
 exact ⟨_,st,⟨_,get_set h1,Two.set h2 j hu⟩,Keeps.set _ _ _⟩
section
variable (d : Nat) (σ : Store)
end
end Go.Proofs.YtelpjaejmneplaaGreatDoor.Am
namespace Go.Proofs.YtelpjaejmneplaaGreatDoor.Am
open Go Go.RowKit Go.ChangeShapes Go.WideShapes Go.ChangeAt Go.Proofs.YtelpjaejmneplaaGreatDoor.Rows
section
variable {H : Type}
end
theorem flat_sum (f : List Cel → Nat) (hf : ∀ x,x.length ≤ f x) : ∀ xs : List (List Cel),xs.flatten.length ≤ (xs.map f).sum
 | [] => by simp
 | x :: xs => by
  have ih := flat_sum f hf xs
  have := hf x
  simp only [List.flatten_cons,List.length_append,List.map_cons,List.sum_cons]
  omega
section
variable {H : Type}
theorem terms_rd2 {n : Nat} {d : DataW H} (h : Typed Tryz.prog (n + 5) 24 d) (hb : uptoBulk d ≤ 1048576) : ∃ ls : List (List Cel),TA (argV Tryz.prog (n + 5) 24 d) ls ∧ (∀ t ∈ ls,Small t ∧ t.length < 2 ^ 28) ∧ ls.length ≤ uptoBulk d ∧ ls.flatten.length ≤ uptoBulk d := by
 rcases slice_of Tryz.underlying24 h with rfl | ⟨ds,rest,rfl,hd,ha,hb2⟩
 ·exact ⟨[],⟨[],fun σ => by rw [argV_nil Tryz.underlying24]; exact SlOf.nil σ 1,.nil⟩,(fun t ht => by cases ht),Nat.zero_le _,Nat.zero_le _⟩
 ·obtain ⟨xs,h1,h2,h3,h4⟩ := list_of (R := fun a (cs : List Cel) => Told a cs ∧ ∀ c ∈ cs,c.In) (size := fun cs : List Cel => max cs.length (cs.map fun c => c.s.length).sum) (fun d h => by
   obtain ⟨cs,a1,a2,a3,a4⟩ := term_at (n := n) h
   exact ⟨cs,⟨a1,a2⟩,by omega⟩) ds hd
  have hget : ∀ (i : Nat) (cs : List Cel),xs[i]? = some cs → Told ((ds.map fun x => argV Tryz.prog (n + 4) 60 x)[i]?.getD .undef) cs ∧ ∀ c ∈ cs,c.In := fun i cs hi => by
   have hlt := (List.getElem?_eq_some_iff.1 hi).1
   have e1 : (ds.map fun x => argV Tryz.prog (n + 4) 60 x)[i]? = some (argV Tryz.prog (n + 4) 60 (ds[i]'(by omega))) := by simp [List.getElem?_eq_getElem (show i < ds.length by omega)]
   rw [e1]; exact h2 i _ _ e1 hi
  refine ⟨xs,⟨_,fun σ => by rw [ha]; exact SlOf.fs _ _ _ _ _,Two.of_get (by rw [List.length_map]; exact h1.symm) fun i a b h5 h6 => ?_⟩,fun t ht => ?_,by omega,?_⟩
  ·have := (hget i b h6).1; rw [h5] at this; exact this
  ·obtain ⟨i,hi⟩ := List.getElem?_of_mem ht
   have h7 := mem_sum (fun cs : List Cel => max cs.length (cs.map fun c => c.s.length).sum) ht
   have h8 := (hget i t hi).2
   exact ⟨⟨by omega,cells_in (b := 1048576) h8 (by omega) (by omega)⟩,by omega⟩
  ·have := flat_sum (fun cs : List Cel => max cs.length (cs.map fun c => c.s.length).sum) (fun x => Nat.le_max_left _ _) xs
   omega
end
end Go.Proofs.YtelpjaejmneplaaGreatDoor.Am
