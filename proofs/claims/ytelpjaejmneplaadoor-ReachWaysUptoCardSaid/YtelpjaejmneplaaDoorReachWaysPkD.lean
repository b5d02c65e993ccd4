/-
  The abstract machine and the functions of the law, 4: texts put together.
-/
import Derived.Test.YtelpjaejmneplaaDoorReachWaysPkC
set_option linter.unusedVariables false
set_option linter.unusedSimpArgs false
set_option linter.unusedSectionVars false
set_option maxRecDepth 100000
namespace Go.Proofs.YtelpjaejmneplaaDoor.Am
open Go
theorem bd_build (v : Nm) (u : AVal) (h : u.one = true) : fillA [AVal.int IntKind.i64 0,AVal.int IntKind.i64 0,AVal.nilslice] [(0,2,nmV v),(2,1,u)] = some (bdC v u) := by
 have hc : u.cells = [u] := by cases u <;> simp_all [AVal.one]
 have h1 : [u].all AVal.one = true := by simp only [List.all_cons,List.all_nil,h]; rfl
 simp only [fillA,nm_cells,hc,nmC,List.length_cons,List.length_nil,h1]
 rfl
def seqL : ACode → ACode
 | .seq a _ => a
 | c => c
def seqR : ACode → ACode
 | .seq _ b => b
 | c => c
theorem bd_lit (v : Nm) (u : AVal) (h : u.one = true) : fillL 3 true (List.replicate 1 (zel [AVal.int IntKind.i64 0,AVal.int IntKind.i64 0,AVal.nilslice] true)) [(0,.agg (bdC v u))] = some [bdV v u] := by
 have : (bdC v u).all AVal.one = true := by simp only [bdC,List.all_cons,List.all_nil,h]; rfl
 simp only [fillL,AVal.cells,this]
 rfl
section
variable (d : Nat) (σ : Store)
set_option maxHeartbeats 1000000 in
theorem rbind_ok (A : Nat → Prop) (id : Nat) (R : Hp) (v : Nm) (tv : AVal) (t : List Cel) (h : RefP σ A id R) (hR : R.length < 2 ^ 30) (hs : t.length < 2 ^ 30) (ht : SlOf σ 5 tv (CC t)) :
  Called CU.cfg d 29 [.ptr id 0,nmV v,tv] σ fun r σ' => r = .int .i64 (bindE R v t) ∧ RefP σ' (fun i => A i ∨ σ.length ≤ i) id (bindR R v t) ∧ Keeps (fun i => i = id) σ σ' := by
 refine called_of (fn := CU.a29) rfl (Nat.le_of_ble_eq_true rfl) ?_
 obtain ⟨T,hT⟩ : ∃ T,T = seqR (seqR CU.a29.body) := ⟨_,rfl⟩
 rw [show CU.a29.body = .seq (seqL CU.a29.body) (.seq (seqL (seqR CU.a29.body)) T) from by rw [hT]; rfl]
 simp only [CU.a29,seqL,seqR, CU.o]
 simp -dsimp only [↓WPd,↓Zm,↓Zn,WPu,Za,Zb,Zc,Zd,Ze,Zf,Zg,Zh,Nat.reduceEqDiff,Nat.reduceLT,Zi,Zj,Zk,Zl,Nat.reduceBEq,nm_cells,nm_one]
 have ho : (σ ++ [AObj.cells (nmC v)])[σ.length]? = some (.cells (nmC v)) := by simp
 have g0 : Grows σ (σ ++ [AObj.cells (nmC v)]) := Grows.app _ _
 have h1 := h.grow g0
 have ht1 := ht.grow g0
 generalize σ ++ [AObj.cells (nmC v)] = σ1 at ho g0 h1 ht1
 have hid : id < σ.length := by obtain ⟨w,es,o1,_⟩ := h; exact (List.getElem?_eq_some_iff.1 o1).1
 have hi1 : σ.length ≠ id := by omega
 generalize hq : σ.length = i1 at ho hi1
 simp -dsimp only [↓WPd,↓Zm,↓Zn,WPu,Za,Zb,Zc,Zd,Ze,Zf,Zg,Zh,Nat.reduceEqDiff,Nat.reduceLT,Zi,Zj,Zk,Zl,Nat.reduceBEq,WPm,isnil_ptr,load_nm ho]
 refine calledW_of (rofvar_ok d σ1 v) ?_
 rintro r σ2 ⟨hr,g2⟩
 have h2 := h1.grow g2
 have ht2 := ht1.grow g2
 have ho2 := g2.get ho
 have lr : lenSV r = some (CC (varT v)).length := (hr σ2).len
 have weak : ∀ {σ' : Store},Grows σ σ' → RefP σ' (fun i => A i ∨ i1 ≤ i) id R := fun g => h.keeps g (fun h => h) fun i _ a => ⟨.inl a,fun h => h⟩
 have fin : ∀ {σ' : Store} {e : Int},Grows σ σ' → bindE R v t = e → e ≠ 0 → AVal.int .i64 e = .int .i64 (bindE R v t) ∧ RefP σ' (fun i => A i ∨ i1 ≤ i) id (bindR R v t) ∧ Keeps (fun i => i = id) σ σ' := fun g e1 e2 =>
  ⟨by rw [e1],by rw [bindR,if_neg (by rw [e1]; exact e2)]; exact weak g,g.any⟩
 cases hov : okVar v with
 | false =>
  have lr' : lenSV r = some 0 := by rw [lr]; simp [varT,hov]
  have e0 : (((0 : Nat) : Int) == 0) = true := rfl
  simp -dsimp only [↓WPd,↓Zm,↓Zn,WPu,Za,Zb,Zc,Zd,Ze,Zf,Zg,Zh,Nat.reduceEqDiff,Nat.reduceLT,Zi,Zj,Zk,Zl,Nat.reduceBEq,WPm,lr',e0]
  exact fin (e := 6) (g0.trans g2) (by unfold bindE; rw [hov]; simp) (by decide)
 | true =>
  have lr' : lenSV r = some 1 := by rw [lr]; simp [varT,hov]
  have e0 : (((1 : Nat) : Int) == 0) = false := rfl
  simp -dsimp only [↓WPd,↓Zm,↓Zn,WPu,Za,Zb,Zc,Zd,Ze,Zf,Zg,Zh,Nat.reduceEqDiff,Nat.reduceLT,Zi,Zj,Zk,Zl,Nat.reduceBEq,WPm,lr',e0,faddr_ptr,Nat.add_zero,load_cells ho2,nm_g0]
  cases hn : decide (v.1 < 0) with
  | true =>
   simp -dsimp only [↓WPd,↓Zm,↓Zn,WPu,Za,Zb,Zc,Zd,Ze,Zf,Zg,Zh,Nat.reduceEqDiff,Nat.reduceLT,Zi,Zj,Zk,Zl,Nat.reduceBEq,WPm]
   exact fin (e := 6) (g0.trans g2) (by unfold bindE; rw [hn]; rfl) (by decide)
  | false =>
   simp -dsimp only [↓WPd,↓Zm,↓Zn,WPu,Za,Zb,Zc,Zd,Ze,Zf,Zg,Zh,Nat.reduceEqDiff,Nat.reduceLT,Zi,Zj,Zk,Zl,Nat.reduceBEq,WPm]
   refine calledW_of (rglobal_ok d σ2 tv t hs ht2) ?_
   rintro r3 σ3 ⟨rfl,g3⟩
   have h3 := h2.grow g3
   have ht3 := ht2.grow g3
   have ho3 := g3.get ho2
   have g03 := (g0.trans g2).trans g3
   cases hg : glob t with
   | false =>
    simp -dsimp only [↓WPd,↓Zm,↓Zn,WPu,Za,Zb,Zc,Zd,Ze,Zf,Zg,Zh,Nat.reduceEqDiff,Nat.reduceLT,Zi,Zj,Zk,Zl,Nat.reduceBEq,WPm]
    exact fin (e := 6) g03 (by unfold bindE; rw [hn,hov,hg]; rfl) (by decide)
   | true =>
    simp -dsimp only [↓WPd,↓Zm,↓Zn,WPu,Za,Zb,Zc,Zd,Ze,Zf,Zg,Zh,Nat.reduceEqDiff,Nat.reduceLT,Zi,Zj,Zk,Zl,Nat.reduceBEq,WPm,load_nm ho3]
    refine calledW_of (place_ok d σ3 (.ptr id 0) R v h3.v (by omega)) ?_
    rintro r4 σ4 ⟨k,rfl,hk,g4⟩
    have h4 := h3.grow g4
    have ht4 := ht3.grow g4
    have ho4 := g4.get ho3
    have g04 := g03.trans g4
    cases hl : lk R v with
    | some t0 =>
     rw [hl] at hk
     obtain ⟨j,rfl,_⟩ := hk
     have e1 : decide ((j : Int) ≥ 0) = true := by simp
     simp -dsimp only [↓WPd,↓Zm,↓Zn,WPu,Za,Zb,Zc,Zd,Ze,Zf,Zg,Zh,Nat.reduceEqDiff,Nat.reduceLT,Zi,Zj,Zk,Zl,Nat.reduceBEq,e1]
     exact fin (e := 70) g04 (by unfold bindE; rw [hn,hov,hg,hl]; rfl) (by decide)
    | none =>
     rw [hl] at hk
     simp only at hk
     subst hk
     obtain ⟨c,s,hcs⟩ : ∃ c s,t = c :: s := List.exists_cons_of_ne_nil (right_ne (glob_right hg))
     have hhd : t.headD default = c := by rw [hcs]; rfl
     have hi0 : 0 < (CC t).length := by rw [hcs]; simp
     have hb := (ht4.addr hi0 .i64).2
     rw [show (CC t)[0] = c.val by simp [hcs]] at hb
     have hb' : behind σ4 (addrOf 5 tv 0) = some (c.cs,0) := hb
     obtain ⟨q0,p0,b0⟩ := faddr_at hb' 0
     obtain ⟨q3,p3,b3⟩ := faddr_at hb' 3
     have r0 : loadV σ4 1 false q0 = some (.int .u8 c.k) := load_at b0
     have r3 : loadV σ4 2 true q3 = some (nmV c.v) := loadN_at b3 (by simp [Cel.cs])
     have ia : iaddrV 5 tv (.int .i64 0) = some (addrOf 5 tv 0) := ht4.iaddr hi0 .i64
     have k4 : ((c.k : Int) == 4) = decide (c.k = 4) := by by_cases h : c.k = 4 <;> simp [h] <;> omega
     have e1 : decide ((-1 : Int) ≥ 0) = false := rfl
     have okb : (c.k = 4 → nless c.v v = true) → okB (v,t) := fun h => ⟨by simp only [decide_eq_false_iff_not] at hn; simp only; omega,hov,hg,by rw [hhd]; exact h⟩
     have tail : ∀ (e : Nat → AVal) (σ5 : Store),Grows σ4 σ5 → e 0 = .ptr id 0 → e 2 = tv → e 4 = .ptr i1 0 → okB (v,t) → wpC CU.cfg d T (Fr' 103 e) σ5 (endQ [ARes.tmp 6] fun r σ' => r = .int .i64 (bindE R v t) ∧ RefP σ' (fun i => A i ∨ i1 ≤ i) id (bindR R v t) ∧ Keeps (fun i => i = id) σ σ') := by
      intro e σ5 g5 v0 v2 v4 hok
      have ht5 := ht4.grow g5
      have ho5 := g5.get ho4
      have h5 := h4.grow g5
      have g05 := g04.trans g5
      obtain ⟨u,σ6,a1,a2,a3,a4,a5⟩ := (Own.nil σ5 5).append (CC t) 48 (by rw [List.length_map]; simp only [List.length_nil]; omega)
      have g56 : Grows σ5 σ6 := a3.mono fun i _ h => by cases h
      have h6 := h5.grow g56
      have ho6 := g56.get ho5
      have g06 := g05.trans g56
      have le6 : i1 ≤ σ5.length := by rw [← hq]; exact g05.1
      have fu : ∀ i,u.sid = some i → i1 ≤ i := fun i hi => by
       rcases a4 i hi with e | e
       ·cases e
       ·omega
      obtain ⟨w,es,o1,o2,o3,o4⟩ := h6
      have hlen := o4.len
      have lw := o2.len
      rw [hlen] at lw
      have e0 : ([w] : List AVal)[0]? = some w := rfl
      have hbe : bindE R v t = 0 := bindE_of hok hl
      have newR : BdRel σ6 (fun i => A i ∨ i1 ≤ i) (bdV v u) (v,t) := ⟨u,rfl,by simpa using a2.sl,fun i hi => .inr (fu i hi)⟩
      have o4' : Two (BdRel σ6 fun i => A i ∨ i1 ≤ i) es R := o4.mono fun e p he => he.keeps (Keeps.refl (fun _ => False) σ6) fun i _ a => ⟨.inl a,fun h => h⟩
      have uone : u.one = true := a2.one
      have push : ∀ {σ' : Store} {nx : AVal} {ns : List AVal} {P : Hp} {x : AVal} {p : Nm × List Cel},Grows σ6 σ' → Own σ' 3 nx ns → (∀ i,nx.sid = some i → σ6.length ≤ i) → Two (BdRel σ6 fun i => A i ∨ i1 ≤ i) ns P → BdRel σ6 (fun i => A i ∨ i1 ≤ i) x p → P.length ≤ R.length + 1 →
        ∃ nx' σ2,appendV σ' 3 40 nx [x] = some (nx',σ2) ∧ Own σ2 3 nx' (ns ++ [x]) ∧ (∀ i,nx'.sid = some i → σ6.length ≤ i) ∧ Two (BdRel σ6 fun i => A i ∨ i1 ≤ i) (ns ++ [x]) (P ++ [p]) ∧ Grows σ6 σ2 := by
       intro σ' nx ns P x p g on fn tn hx hl
       have := tn.len
       obtain ⟨nx',σ2,b1,b2,b3,b4,_⟩ := on.append [x] 40 (by simp only [List.length_singleton]; omega)
       refine ⟨nx',σ2,b1,b2,fun i hi => ?_,tn.push hx,Keeps.trans g b3 fun i hi e => by have := fn i e; omega⟩
       rcases b4 i hi with e | e
       ·exact fn i e
       ·have := g.1; omega
      rw [hT]
      simp only [CU.a29,seqR, CU.o]
      simp -dsimp only [↓WPd,↓Zm,↓Zn,WPu,Za,Zb,Zc,Zd,Ze,Zf,Zg,Zh,Nat.reduceEqDiff,Nat.reduceLT,Zi,Zj,Zk,Zl,Nat.reduceBEq,WPm,v0,v2,v4,ht5.els,a1]
      have x1 : ∀ {a b : Hp},bindR R v t = a ++ b → a.length ≤ R.length + 1 := fun {a b} h => by
       have h1 := congrArg List.length h
       have h2 : (bindR R v t).length = R.length + 1 := by rw [bindR,if_pos hbe]; simpa using (insR_perm (v,t) R).length_eq
       simp only [List.length_append] at h1
       omega
      refine loop_rule2 (fun m vs σ' => ∃ (k : Nat) (nx : AVal) (ns : List AVal) (P : Hp) (b : Bool),k ≤ R.length ∧ m = R.length - k ∧ vs = [.ptr id 0,.ptr i1 0,nx,u,.bool b,.int .i64 k] ∧ Grows σ6 σ' ∧ Own σ' 3 nx ns ∧ (∀ i,nx.sid = some i → σ6.length ≤ i) ∧ Two (BdRel σ6 (fun i => A i ∨ i1 ≤ i)) ns P ∧ P ++ (if b then R.drop k else insR (v,t) (R.drop k)) = bindR R v t)
       [0,4,7,8,9] (fun e vs σ' => e = .exit 1 ∧ ∃ (nx : AVal) (ns : List AVal) (P : Hp) (b : Bool),vs = [.ptr id 0,.ptr i1 0,nx,u,.bool b] ∧ Grows σ6 σ' ∧ Own σ' 3 nx ns ∧ (∀ i,nx.sid = some i → σ6.length ≤ i) ∧ Two (BdRel σ6 (fun i => A i ∨ i1 ≤ i)) ns P ∧ P ++ (if b then [] else [(v,t)]) = bindR R v t)
       R.length ⟨0,.nilslice,[],[],false,Nat.zero_le _,rfl,?_,Keeps.refl _ _,Own.nil _ _,(fun i h => by cases h),Two.nil,by simp [bindR,hbe]⟩ ?_ ?_
      ·simp -dsimp only [↓WPd,↓Zm,↓Zn,WPu,Za,Zb,Zc,Zd,Ze,Zf,Zg,Zh,Nat.reduceEqDiff,Nat.reduceLT,Zi,Zj,Zk,Zl,Nat.reduceBEq,v0,v4]; rfl
      ·rintro m vs σ' ⟨k,nx,ns,P,b,hk,rfl,rfl,g,on,fn,tn,hP⟩
       have o1' := g.get o1
       have o2' := o2.grow g
       have ho' := g.get ho6
       simp -dsimp only [↓WPd,↓Zm,↓Zn,WPu,Za,Zb,Zc,Zd,Ze,Zf,Zg,Zh,Nat.reduceEqDiff,Nat.reduceLT,Zi,Zj,Zk,Zl,Nat.reduceBEq,WPm,isnil_ptr,faddr_ptr,Nat.add_zero,load_cells o1',e0,lw]
       refine condP_dec (fun hc => ?_) (fun hc => ?_)
       ·have hk' : k < R.length := by omega
        have hke : k < es.length := by omega
        obtain ⟨e,he1,he⟩ := o4'.get hk'
        have he' := he
        obtain ⟨y,he2,he3,-⟩ := he'
        have hee : es[k] = e := by rw [List.getElem?_eq_getElem hke] at he1; exact Option.some.inj he1
        have hb := (o2'.addr hke .i64).2
        rw [hee,he2] at hb
        have hb' : behind σ' (addrOf 3 w k) = some (bdC (R[k]).1 y,0) := hb
        obtain ⟨q0,p0,b0⟩ := faddr_at hb' 0
        have r0 : loadV σ' 2 true q0 = some (nmV (R[k]).1) := loadN_at b0 (by simp [bdC])
        have r3 : loadV σ' 3 true (addrOf 3 w k) = some (.agg (bdC (R[k]).1 y)) := loadN_at hb' (by simp [bdC])
        have ia : iaddrV 3 w (.int .i64 k) = some (addrOf 3 w k) := o2'.iaddr hke .i64
        have hd : R.drop k = R[k] :: R.drop (k + 1) := List.drop_eq_getElem_cons hk'
        have ly := bd_lit (R[k]).1 y he3.one
        have lit1 : ∀ (tg : Nat) (σ : Store) (x : AVal),elems 3 σ (.fslice tg true 3 [x]) = some [x] := fun tg σ x => elems_fs 3 tg true σ [x]
        have keep : ∀ {σ2 : Store} {nx' : AVal} {ns' : List AVal} {P' : Hp} {b' : Bool} {fr : List AVal} (h : fr = fr),Grows σ6 σ2 → Own σ2 3 nx' ns' → (∀ i,nx'.sid = some i → σ6.length ≤ i) → Two (BdRel σ6 fun i => A i ∨ i1 ≤ i) ns' P' → P' ++ (if b' then R.drop k else insR (v,t) (R.drop k)) = bindR R v t → (b' = true ∨ nless v (R[k]).1 = false) →
          ∃ nx2 σ3,appendV σ2 3 40 nx' [bdV (R[k]).1 y] = some (nx2,σ3) ∧ ∃ m',m' < R.length - k ∧ ∃ k2 nx3 ns3 P3 b3,k2 ≤ R.length ∧ m' = R.length - k2 ∧ [AVal.ptr id 0,.ptr i1 0,nx2,u,.bool b',.int .i64 (IntKind.i64.wrap ((k : Int) + 1))] = [.ptr id 0,.ptr i1 0,nx3,u,.bool b3,.int .i64 (k2 : Nat)] ∧ Grows σ6 σ3 ∧ Own σ3 3 nx3 ns3 ∧ (∀ i,nx3.sid = some i → σ6.length ≤ i) ∧ Two (BdRel σ6 fun i => A i ∨ i1 ≤ i) ns3 P3 ∧ P3 ++ (if b3 then R.drop k2 else insR (v,t) (R.drop k2)) = bindR R v t := by
         intro σ2 nx' ns' P' b' fr _ g2 on2 fn2 tn2 hP2 hb2
         obtain ⟨nx2,σ3,c1,c2,c3,c4,c5⟩ := push g2 on2 fn2 tn2 (by rw [he2] at he; exact he) (x1 hP2.symm)
         refine ⟨nx2,σ3,c1,R.length - (k + 1),by omega,k + 1,nx2,_,_,b',by omega,rfl,?_,c5,c2,c3,c4,?_⟩
         ·rw [wrap_i64 (by omega) (by omega),Int.natCast_add,Int.natCast_one]
         ·rw [← hP2,hd]
          rcases hb2 with rfl | hb2
          ·simp
          ·cases b' with
           | true => simp
           | false => simp [insR,hb2]
        cases b with
        | true =>
         obtain ⟨nx2,σ3,c1,c2⟩ := keep (fr := []) rfl g on fn tn hP (.inl rfl)
         simp -dsimp only [↓WPd,↓Zm,↓Zn,WPu,Za,Zb,Zc,Zd,Ze,Zf,Zg,Zh,Nat.reduceEqDiff,Nat.reduceLT,Zi,Zj,Zk,Zl,Nat.reduceBEq,WPm,isnil_ptr,faddr_ptr,Nat.add_zero,load_cells o1',e0,ia,r3,ly,lit1,c1]
         exact c2
        | false =>
         simp -dsimp only [↓WPd,↓Zm,↓Zn,WPu,Za,Zb,Zc,Zd,Ze,Zf,Zg,Zh,Nat.reduceEqDiff,Nat.reduceLT,Zi,Zj,Zk,Zl,Nat.reduceBEq,WPm,isnil_ptr,faddr_ptr,Nat.add_zero,load_cells o1',e0,ia,p0,r0,load_nm ho']
         refine calledW_of (rless_ok d σ' v (R[k]).1) ?_
         rintro r7 σ7 ⟨rfl,g7⟩
         have g' := Grows.trans g g7
         have on' := on.grow g7
         have o1'' := g7.get o1'
         have ho'' := g7.get ho'
         have r3' : loadV σ7 3 true (addrOf 3 w k) = some (.agg (bdC (R[k]).1 y)) := by
          have hb7 := ((o2'.grow g7).addr hke .i64).2
          rw [hee,he2] at hb7
          exact loadN_at (cs := bdC (R[k]).1 y) hb7 (by simp [bdC])
         cases hl2 : nless v (R[k]).1 with
         | false =>
          obtain ⟨nx2,σ3,c1,c2⟩ := keep (fr := []) rfl g' on' fn tn hP (.inr hl2)
          simp -dsimp only [↓WPd,↓Zm,↓Zn,WPu,Za,Zb,Zc,Zd,Ze,Zf,Zg,Zh,Nat.reduceEqDiff,Nat.reduceLT,Zi,Zj,Zk,Zl,Nat.reduceBEq,WPm,isnil_ptr,faddr_ptr,Nat.add_zero,load_cells o1'',e0,ia,r3',ly,lit1,c1]
          exact c2
         | true =>
          obtain ⟨nx5,σ5',c1,c2,c3,c4,c5⟩ := push g' on' fn tn newR (x1 hP.symm)
          have o1c := c5.get o1
          have r3c : loadV σ5' 3 true (addrOf 3 w k) = some (.agg (bdC (R[k]).1 y)) := by
           have hb7 := ((o2.grow c5).addr hke .i64).2
           rw [hee,he2] at hb7
           exact loadN_at (cs := bdC (R[k]).1 y) hb7 (by simp [bdC])
          obtain ⟨nx2,σ3,d1,d2⟩ := keep (fr := []) (b' := true) rfl c5 c2 c3 c4 (by rw [← hP,hd]; simp [insR,hl2]) (.inl rfl)
          simp -dsimp only [↓WPd,↓Zm,↓Zn,WPu,Za,Zb,Zc,Zd,Ze,Zf,Zg,Zh,Nat.reduceEqDiff,Nat.reduceLT,Zi,Zj,Zk,Zl,Nat.reduceBEq,WPm,isnil_ptr,faddr_ptr,Nat.add_zero,load_nm ho'',bd_build v u uone,bd_lit v u uone,lit1,c1,load_cells o1c,e0,ia,r3c,ly,d1]
          exact d2
       ·have hk2 : k = R.length := by omega
        subst hk2
        simp -dsimp only [↓WPd,↓Zm,↓Zn,WPu,Za,Zb,Zc,Zd,Ze,Zf,Zg,Zh,Nat.reduceEqDiff,Nat.reduceLT,Zi,Zj,Zk,Zl,Nat.reduceBEq]
        refine ⟨nx,ns,P,b,rfl,g,on,fn,tn,?_⟩
        rw [← hP,List.drop_length]; rfl
      ·rintro x σ' env ⟨rfl,nx,ns,P,b,hv,g,on,fn,tn,hP⟩
       simp only [List.map_cons,List.map_nil,List.cons.injEq,and_true] at hv
       obtain ⟨w0,w4,w7,w8,w9⟩ := hv
       have lit1 : ∀ (tg : Nat) (σ : Store) (x : AVal),elems 3 σ (.fslice tg true 3 [x]) = some [x] := fun tg σ x => elems_fs 3 tg true σ [x]
       have last : ∀ {σ2 : Store} {nx' : AVal} {ns' : List AVal} {P' : Hp},Grows σ6 σ2 → Own σ2 3 nx' ns' → (∀ i,nx'.sid = some i → σ6.length ≤ i) → Two (BdRel σ6 fun i => A i ∨ i1 ≤ i) ns' P' → P' = bindR R v t →
         storeV σ2 1 (.ptr id 0) nx' = some (σ2.set id (.cells [nx'])) ∧ AVal.int .i64 0 = .int .i64 (bindE R v t) ∧ RefP (σ2.set id (.cells [nx'])) (fun i => A i ∨ i1 ≤ i) id (bindR R v t) ∧ Keeps (fun i => i = id) σ (σ2.set id (.cells [nx'])) := by
        intro σ2 nx' ns' P' g2 on2 fn2 tn2 hP2
        have o12 := g2.get o1
        have st := store_cells o12 (off := 0) (by simp) (v := nx') on2.one
        have ks : Keeps (fun i => i = id) σ2 (σ2.set id (.cells [nx'])) := Keeps.set _ _ _
        refine ⟨st,by rw [hbe],⟨nx',ns',get_set o12,on2.sl.keeps ks fun i hi e => on2.noCell o12 (by rw [← e]; exact hi),fun i hi => .inr (Nat.le_trans (Nat.le_trans le6 g56.1) (fn2 i hi)),?_⟩,Keeps.trans (g06.trans g2).any ks fun _ _ h => h⟩
        rw [← hP2]
        refine tn2.mono fun e p he => ?_
        obtain ⟨y,y1,y2,y3⟩ := he
        exact ⟨y,y1,(y2.grow g2).keeps ks fun i hi e => (y2.grow g2).noCell o12 (by rw [← e]; exact hi),y3⟩
       have ho' := g.get ho6
       cases b with
       | true =>
        obtain ⟨s1,s2⟩ := last g on fn tn (by simpa using hP)
        simp -dsimp only [↓WPd,↓Zm,↓Zn,WPu,Za,Zb,Zc,Zd,Ze,Zf,Zg,Zh,Nat.reduceEqDiff,Nat.reduceLT,Zi,Zj,Zk,Zl,Nat.reduceBEq,WPm,w0,w4,w7,w8,w9,isnil_ptr,faddr_ptr,Nat.add_zero,s1]
        exact s2
       | false =>
        obtain ⟨nx5,σ5',c1,c2,c3,c4,c5⟩ := push g on fn tn newR (x1 hP.symm)
        obtain ⟨s1,s2⟩ := last c5 c2 c3 c4 (by simpa using hP)
        simp -dsimp only [↓WPd,↓Zm,↓Zn,WPu,Za,Zb,Zc,Zd,Ze,Zf,Zg,Zh,Nat.reduceEqDiff,Nat.reduceLT,Zi,Zj,Zk,Zl,Nat.reduceBEq,WPm,w0,w4,w7,w8,w9,isnil_ptr,faddr_ptr,Nat.add_zero,load_nm ho',bd_build v u uone,bd_lit v u uone,lit1,c1,s1]
        exact s2
     simp -dsimp only [↓WPd,↓Zm,↓Zn,WPu,Za,Zb,Zc,Zd,Ze,Zf,Zg,Zh,Nat.reduceEqDiff,Nat.reduceLT,Zi,Zj,Zk,Zl,Nat.reduceBEq,WPm,e1,ia,p0,r0,k4]
     cases hk4 : decide (c.k = 4) with
     | true =>
      simp -dsimp only [↓WPd,↓Zm,↓Zn,WPu,Za,Zb,Zc,Zd,Ze,Zf,Zg,Zh,Nat.reduceEqDiff,Nat.reduceLT,Zi,Zj,Zk,Zl,Nat.reduceBEq,WPm,ia,p3,r3,load_nm ho4]
      refine calledW_of (rless_ok d σ4 c.v v) ?_
      rintro r5 σ5 ⟨rfl,g5⟩
      cases hless : nless c.v v with
      | false =>
       simp -dsimp only [↓WPd,↓Zm,↓Zn,WPu,Za,Zb,Zc,Zd,Ze,Zf,Zg,Zh,Nat.reduceEqDiff,Nat.reduceLT,Zi,Zj,Zk,Zl,Nat.reduceBEq,WPm]
       refine fin (e := 71) (g04.trans g5) ?_ (by decide)
       have e : (decide ((t.headD default).k = 4) && !nless (t.headD default).v v) = true := by rw [hhd,hless,hk4]; rfl
       unfold bindE; rw [hn,hov,hg,hl,e]; rfl
      | true =>
       simp -dsimp only [↓WPd,↓Zm,↓Zn,WPu,Za,Zb,Zc,Zd,Ze,Zf,Zg,Zh,Nat.reduceEqDiff,Nat.reduceLT,Zi,Zj,Zk,Zl,Nat.reduceBEq,WPm]
       exact tail _ σ5 g5 rfl rfl rfl (okb fun _ => hless)
     | false =>
      simp -dsimp only [↓WPd,↓Zm,↓Zn,WPu,Za,Zb,Zc,Zd,Ze,Zf,Zg,Zh,Nat.reduceEqDiff,Nat.reduceLT,Zi,Zj,Zk,Zl,Nat.reduceBEq,WPm]
      exact tail _ σ4 (Keeps.refl _ _) rfl rfl rfl (okb fun h => absurd h (by simpa using hk4))
end
def Terms (σ : Store) (l : AVal) (ts : List (List Cel)) : Prop := ∃ es,SlOf σ 1 l es ∧ Two (fun e t => SlOf σ 5 e (CC t)) es ts
theorem Terms.grow {σ σ' : Store} {l : AVal} {ts : List (List Cel)} (h : Terms σ l ts) (g : Grows σ σ') : Terms σ' l ts := by
 obtain ⟨es,h1,h2⟩ := h
 exact ⟨es,h1.grow g,h2.mono fun e t he => he.grow g⟩
theorem Terms.len {σ : Store} {l : AVal} {ts : List (List Cel)} (h : Terms σ l ts) : lenSV l = some ts.length := by
 obtain ⟨es,h1,h2⟩ := h
 rw [← h2.len]; exact h1.len
theorem Terms.at {σ : Store} {l : AVal} {ts : List (List Cel)} (h : Terms σ l ts) {i : Nat} (hi : i < ts.length) : ∃ e,iaddrV 1 l (.int .i64 i) = some (addrOf 1 l i) ∧ loadV σ 1 false (addrOf 1 l i) = some e ∧ SlOf σ 5 e (CC ts[i]) := by
 obtain ⟨es,h1,h2⟩ := h
 have hl : i < es.length := by rw [h2.len]; exact hi
 obtain ⟨e,e1,e2⟩ := h2.get hi
 have he : es[i] = e := by rw [List.getElem?_eq_getElem hl] at e1; exact Option.some.inj e1
 have := h1.load1 hl (by rw [he]; exact e2.one) 1
 rw [he] at this
 exact ⟨e,h1.iaddr hl .i64,this,e2⟩
theorem Terms.nil (σ : Store) : Terms σ .nilslice [] := ⟨[],SlOf.nil _ _,.nil⟩
section
variable (d : Nat) (σ : Store)
end
theorem CC_len (l : List Cel) : (CC l).length = l.length := by simp
def mkC (n : Int) : Cel := ⟨0,[],n,(0,0)⟩
def cmarks : List Cel := (List.range 9).map fun j : Nat => mkC (-700 - (j : Int))
structure HandedC (σ : Store) (v : AVal) (x : List Cel) (id : Nat) : Prop where
 val : v = .slice 5 id 0 0 x.length (some (x.length + 9))
 obj : σ[id]? = some (.arr 5 (CC (x ++ cmarks)) 0 0)
theorem HandedC.sl {σ : Store} {v : AVal} {x : List Cel} {id : Nat} (h : HandedC σ v x id) : SlOf σ 5 v (CC x) := by
 obtain ⟨rfl,ho⟩ := h
 refine ⟨?_,by simp [lenSV,CC_len],fun s id' ep off len c hc => ?_⟩
 ·simp [elems,ho]
 ·injection hc with _ _ _ _ e5 e6; injection e6 with e6; omega
theorem HandedC.keep {σ σ' : Store} {v : AVal} {x : List Cel} {id : Nat} (h : HandedC σ v x id) {M : Nat → Prop} (hk : Keeps M σ σ') (hm : ¬ M id) : HandedC σ' v x id := ⟨h.val,hk.get h.obj hm⟩
section
variable (d : Nat) (σ : Store)
end
def sCel (s : List UInt8) (n : Nat) : Cel := ⟨3,s,n,(0,0)⟩
def makeE (s : List UInt8) (ts : List (List Cel)) : Int := if !(sCel s ts.length).ok || ts.any (fun t => !right t) then 6 else if 256 < 1 + ts.flatten.length then 5 else 0
def makeT (s : List UInt8) (ts : List (List Cel)) : List Cel := if makeE s ts = 0 then sCel s ts.length :: ts.flatten else []
section
variable (d : Nat) (σ : Store)
end
section
variable (d : Nat) (σ : Store)
end
section
variable (d : Nat) (σ : Store)
end
def isEqT (t : List Cel) : Bool := right t && isT t [61] 2
def EqR (σ σ' : Store) (t : List Cel) (a b : AVal) : Prop := Grows σ σ' ∧ match isEqT t with
 | true => ∃ x y,args t = [x,y] ∧ Own σ' 5 a (CC x) ∧ Own σ' 5 b (CC y) ∧ Fresh σ.length a ∧ Fresh σ.length b ∧ NoLit a ∧ NoLit b ∧ ∀ j,a.sid = some j → b.sid ≠ some j
 | false => a = .nilslice ∧ b = .nilslice
section
variable (d : Nat) (σ : Store)
end
theorem ORows.cell {σ σ' : Store} {lo sz : Nat} {l : AVal} {es : List AVal} {ps : List (List AVal)} {id : Nat} {cs : List AVal} (h : ORows σ lo sz l es ps) (ho : σ[id]? = some (.cells cs)) (hk : Keeps (fun i => i = id) σ σ') : ORows σ' lo sz l es ps :=
 ⟨h.row.keeps hk fun i hi e => h.row.noCell ho (by rw [← e]; exact hi),h.len,fun i e p h1 h2 => (h.one i e p h1 h2).keeps hk fun j hj e' => (h.one i e p h1 h2).noCell ho (by rw [← e']; exact hj),h.frs,h.frl,h.apart,h.off,h.lit,h.litl⟩
section
variable (d : Nat) (σ : Store)
end
theorem Own.lit1 {σ : Store} {sz : Nat} {e : AVal} {p : List AVal} (he : Own σ sz e p) : fillL 1 false (List.replicate 1 (zel [AVal.nilslice] false)) [(0,e)] = some [e] := by
 rcases he.own with ⟨rfl,_⟩ | ⟨t,rfl⟩ | ⟨id,ep,off,cap,xs,epo,fl,rfl,_⟩ <;> simp
section
variable (d : Nat) (σ : Store)
end
end Go.Proofs.YtelpjaejmneplaaDoor.Am
