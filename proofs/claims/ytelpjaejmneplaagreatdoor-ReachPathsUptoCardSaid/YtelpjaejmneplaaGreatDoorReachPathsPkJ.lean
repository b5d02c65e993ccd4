/-
  The abstract machine and the functions of the law, 10: texts put together.
-/
import Derived.Test.YtelpjaejmneplaaGreatDoorReachPathsPkH
import Derived.Test.YtelpjaejmneplaaGreatDoorReachPathsPkF
import Derived.Test.YtelpjaejmneplaaGreatDoorReachPathsPkI
set_option linter.unusedVariables false
set_option linter.unusedSimpArgs false
set_option linter.unusedSectionVars false
set_option maxRecDepth 100000
namespace Go.Proofs.YtelpjaejmneplaaGreatDoor.Am
open Go
def BdIn (σ : Store) (v : AVal) (bs : Hp) : Prop := ∃ es,SlOf σ 3 v es ∧ Two (fun e p => ∃ u,e = bdV p.1 u ∧ Told u p.2) es bs
theorem BdArg.in {v : AVal} {bs : Hp} (h : BdArg v bs) (σ : Store) : BdIn σ v bs := by
 obtain ⟨es,h1,h2⟩ := h.row
 exact ⟨es,h1 σ,h2⟩
theorem BdIn.len {σ : Store} {v : AVal} {bs : Hp} (h : BdIn σ v bs) : lenSV v = some bs.length := by
 obtain ⟨es,h1,h2⟩ := h
 rw [← h2.len]; exact h1.len
theorem BdIn.grow {σ σ' : Store} {v : AVal} {bs : Hp} (h : BdIn σ v bs) (g : Grows σ σ') : BdIn σ' v bs := by
 obtain ⟨es,h1,h2⟩ := h
 exact ⟨es,h1.grow g,h2⟩
theorem BdIn.keepM {σ σ' : Store} {v : AVal} {bs : Hp} {j : Nat} {ks vs : List AVal} (h : BdIn σ v bs) (hm : σ[j]? = some (.map ks vs)) (k : Keeps (fun i => i = j) σ σ') : BdIn σ' v bs := by
 obtain ⟨es,h1,h2⟩ := h
 exact ⟨es,h1.keeps k fun i hi e => h1.noMap hm (e ▸ hi),h2⟩
theorem BdIn.keepC {σ σ' : Store} {v : AVal} {bs : Hp} {j : Nat} {cs : List AVal} (h : BdIn σ v bs) (hm : σ[j]? = some (.cells cs)) (k : Keeps (fun i => i = j) σ σ') : BdIn σ' v bs := by
 obtain ⟨es,h1,h2⟩ := h
 exact ⟨es,h1.keeps k fun i hi e => h1.noCell hm (e ▸ hi),h2⟩
theorem BdIn.at {σ : Store} {v : AVal} {bs : Hp} (h : BdIn σ v bs) {k : Nat} (hk : k < bs.length) : ∃ q0 q2 u,iaddrV 3 v (.int .i64 k) = some (addrOf 3 v k) ∧ faddrV 0 (addrOf 3 v k) = some q0 ∧ loadV σ 2 true q0 = some (nmV bs[k].1) ∧ faddrV 2 (addrOf 3 v k) = some q2 ∧ loadV σ 1 false q2 = some u ∧ Told u bs[k].2 := by
 obtain ⟨es,h1,h2⟩ := h
 have hke : k < es.length := by rw [h2.len]; exact hk
 obtain ⟨e,he1,u,he2,he3⟩ := h2.get hk
 have hee : es[k] = e := by rw [List.getElem?_eq_getElem hke] at he1; exact Option.some.inj he1
 have hb := (h1.addr hke .i64).2
 rw [hee,he2] at hb
 have hb' : behind σ (addrOf 3 v k) = some (bdC (bs[k]).1 u,0) := hb
 obtain ⟨q0,p0,b0⟩ := faddr_at hb' 0
 obtain ⟨q2,p2,b2⟩ := faddr_at hb' 2
 exact ⟨q0,q2,u,h1.iaddr hke .i64,p0,loadN_at b0 (by simp [bdC]),p2,load_at b2,he3⟩
section
variable (d : Nat) (σ : Store)
set_option maxHeartbeats 1000000 in
theorem maps18_ok (bv : AVal) (bs : Hp) (h : BdIn σ bv bs) (hsm : ∀ p ∈ bs,Small p.2) (hlt : bs.length < 2 ^ 27) : Called CU.cfg d 8 [bv] σ fun v σ' => ∃ id mid vs rid A,v = .tuple [.ptr id 0,.ptr rid 0] ∧ HeapP σ' id mid vs (bindsH [] bs) ∧ RefP σ' A rid (bindsR [] bs) ∧ Grows σ σ' ∧ (σ.length ≤ id ∧ σ.length ≤ mid ∧ σ.length ≤ rid ∧ ∀ i,A i → σ.length ≤ i) ∧ id ≠ rid ∧ mid ≠ rid ∧ id ≠ mid := by
 refine called_of (fn := CU.a8) rfl (Nat.le_of_ble_eq_true rfl) ?_
 simp only [CU.a8, CU.o]
 have lb := h.len
 simp -dsimp only [↓WPd,↓Zm,↓Zn,WPu,Za,Zb,Zc,Zd,Ze,Zf,Zg,Zh,Nat.reduceEqDiff,Nat.reduceLT,Zi,Zj,Zk,Zl,Nat.reduceBEq]
 refine calledW_of (hnew_ok d σ) ?_
 rintro r σ1 ⟨id,mid,rfl,h1,g1,l1,l2,m1,m2⟩
 simp -dsimp only [↓WPd,↓Zm,↓Zn,WPu,Za,Zb,Zc,Zd,Ze,Zf,Zg,Zh,Nat.reduceEqDiff,Nat.reduceLT,Zi,Zj,Zk,Zl,Nat.reduceBEq]
 refine calledW_of (rnew_ok d σ1) ?_
 rintro r σ2 ⟨rid,rfl,r2,g2,l3,m3⟩
 have hm : id ≠ mid := fun e => by have a := h1.obj; rw [e,h1.map] at a; cases a
 simp -dsimp only [↓WPd,↓Zm,↓Zn,WPu,Za,Zb,Zc,Zd,Ze,Zf,Zg,Zh,Nat.reduceEqDiff,Nat.reduceLT,Zi,Zj,Zk,Zl,Nat.reduceBEq]
 refine loop_rule2 (fun m vs σ' => ∃ k ws A,k ≤ bs.length ∧ m = bs.length - k ∧ vs = [bv,.ptr id 0,.ptr rid 0,.int .i64 (k : Nat)] ∧ HeapP σ' id mid ws (bindsH [] (bs.take k)) ∧ RefP σ' A rid (bindsR [] (bs.take k)) ∧ (∀ i,A i → σ2.length ≤ i) ∧ Grows σ σ' ∧ σ2.length ≤ σ'.length ∧ BdIn σ' bv bs)
  [4,5] (fun e vs σ' => e = .exit 0 ∧ ∃ ws A,vs = [.ptr id 0,.ptr rid 0] ∧ HeapP σ' id mid ws (bindsH [] bs) ∧ RefP σ' A rid (bindsR [] bs) ∧ (∀ i,A i → σ2.length ≤ i) ∧ Grows σ σ') bs.length
  ⟨0,[],_,Nat.zero_le _,rfl,?_,h1.grow g2,r2,(fun i h => h.elim),g1.trans g2,Nat.le_refl _,h.grow (g1.trans g2)⟩ ?_ ?_
 ·simp -dsimp only [↓WPd,↓Zm,↓Zn,WPu,Za,Zb,Zc,Zd,Ze,Zf,Zg,Zh,Nat.reduceEqDiff,Nat.reduceLT,Zi,Zj,Zk,Zl,Nat.reduceBEq]; rfl
 ·rintro m vs σ' ⟨k,ws,A,hk,rfl,rfl,hh,hr,hA,g,hl,hb⟩
  simp -dsimp only [↓WPd,↓Zm,↓Zn,WPu,Za,Zb,Zc,Zd,Ze,Zf,Zg,Zh,Nat.reduceEqDiff,Nat.reduceLT,Zi,Zj,Zk,Zl,Nat.reduceBEq,lb]
  refine condP_dec (fun hc => ?_) (fun hc => ?_)
  ·have hk' : k < bs.length := by omega
   obtain ⟨q0,q2,u,a1,a2,a3,a4,a5,a6⟩ := hb.at hk'
   have hsm := hsm _ (List.getElem_mem hk')
   simp -dsimp only [↓WPd,↓Zm,↓Zn,WPu,Za,Zb,Zc,Zd,Ze,Zf,Zg,Zh,Nat.reduceEqDiff,Nat.reduceLT,Zi,Zj,Zk,Zl,Nat.reduceBEq,a1,a2,a3,a4,a5]
   refine calledW_of (hbind_ok d σ' id mid ws _ bs[k].1 u bs[k].2 hh hsm (a6 σ')) ?_
   rintro r3 σ3 ⟨-,⟨ws3,h3⟩,k3⟩
   have hb3 := hb.keepM hh.map k3
   obtain ⟨q0',q2',u',b1,b2,b3,b4,b5,b6⟩ := hb3.at hk'
   have hr3 : RefP σ3 A rid (bindsR [] (bs.take k)) := by
    refine hr.keeps k3 (by omega) fun i hi ha => ⟨ha,fun e => ?_⟩
    have := hA i ha
    have := g2.1
    omega
   have hRl := bindsR_len (bs.take k) []
   have htk : (bs.take k).length ≤ bs.length := by simp; omega
   simp -dsimp only [↓WPd,↓Zm,↓Zn,WPu,Za,Zb,Zc,Zd,Ze,Zf,Zg,Zh,Nat.reduceEqDiff,Nat.reduceLT,Zi,Zj,Zk,Zl,Nat.reduceBEq,b1,b2,b3,b4,b5]
   refine calledW_of (rbind_ok d σ3 A rid _ bs[k].1 u' bs[k].2 hr3 (by simp only [List.length_nil] at hRl; omega) hsm.1 (b6 σ3)) ?_
   rintro r4 σ4 ⟨-,r4',k4⟩
   have hb4 : BdIn σ4 bv bs := by
    obtain ⟨w,w1,-⟩ := hr3.bds
    exact hb3.keepC w1 k4
   have ht : bs.take (k + 1) = bs.take k ++ [bs[k]] := List.take_succ_eq_append_getElem hk'
   simp -dsimp only [↓WPd,↓Zm,↓Zn,WPu,Za,Zb,Zc,Zd,Ze,Zf,Zg,Zh,Nat.reduceEqDiff,Nat.reduceLT,Zi,Zj,Zk,Zl,Nat.reduceBEq]
   refine ⟨bs.length - (k + 1),by omega,k + 1,ws3,(fun i => A i ∨ σ3.length ≤ i),by omega,rfl,by rw [wrap_i64 (by omega) (by omega),Int.natCast_add,Int.natCast_one],?_,?_,?_,?_,by have := k3.1; have := k4.1; omega,hb4⟩
   ·rw [ht,bindsH_snoc]; exact h3.keeps k4 (by omega) (by omega)
   ·rw [ht,bindsR_snoc]; exact r4'
   ·rintro i (ha | ha)
    ·exact hA i ha
    ·have := k3.1; omega
   ·exact Keeps.trans (Keeps.trans g k3 fun i hi e => by omega) k4 fun i hi e => by have := g1.1; omega
  ·have : k = bs.length := by omega
   subst this
   rw [List.take_length] at hh hr
   simp -dsimp only [↓WPd,↓Zm,↓Zn,WPu,Za,Zb,Zc,Zd,Ze,Zf,Zg,Zh,Nat.reduceEqDiff,Nat.reduceLT,Zi,Zj,Zk,Zl,Nat.reduceBEq]
   exact ⟨ws,A,hh,hr,hA,g⟩
 ·rintro e σ' env ⟨rfl,ws,A,hv,hh,hr,hA,g⟩
  simp only [List.map_cons,List.map_nil,List.cons.injEq,and_true] at hv
  obtain ⟨v4,v5⟩ := hv
  simp -dsimp only [↓WPd,↓Zm,↓Zn,WPu,Za,Zb,Zc,Zd,Ze,Zf,Zg,Zh,Nat.reduceEqDiff,Nat.reduceLT,Zi,Zj,Zk,Zl,Nat.reduceBEq,v4,v5]
  have := g1.1
  exact ⟨id,mid,ws,rid,A,rfl,hh,hr,g,⟨m1,m2,by omega,fun i ha => by have := hA i ha; have := g2.1; omega⟩,by omega,by omega,hm⟩
theorem msamenames_ok (a b : AVal) (ws : List Nm) (hx : ws.length < 2 ^ 41) (ha : SlOf σ 2 a (NN ws)) (hb : SlOf σ 2 b (NN ws)) : Called CU.cfg d 15 [a,b] σ fun v σ' => v = .bool true ∧ σ' = σ := by
 refine called_of (fn := CU.a15) rfl (Nat.le_of_ble_eq_true rfl) ?_
 simp only [CU.a15, CU.o]
 have la := names_len ha
 have lb := names_len hb
 have e0 : ((ws.length : Int) != (ws.length : Int)) = false := by simp
 simp -dsimp only [↓WPd,↓Zm,↓Zn,WPu,Za,Zb,Zc,Zd,Ze,Zf,Zg,Zh,Nat.reduceEqDiff,Nat.reduceLT,Zi,Zj,Zk,Zl,Nat.reduceBEq,la,lb,e0]
 refine loop_rule2 (fun m vs σ' => ∃ k,k ≤ ws.length ∧ m = ws.length - k ∧ vs = [a,b,.int .i64 (k : Nat)] ∧ σ' = σ) [] (fun e vs σ' => e = .exit 0 ∧ σ' = σ) ws.length ⟨0,Nat.zero_le _,rfl,?_,rfl⟩ ?_ ?_
 ·simp -dsimp only [↓WPd,↓Zm,↓Zn,WPu,Za,Zb,Zc,Zd,Ze,Zf,Zg,Zh,Nat.reduceEqDiff,Nat.reduceLT,Zi,Zj,Zk,Zl,Nat.reduceBEq]; rfl
 ·rintro m vs σ' ⟨k,hk,rfl,rfl,rfl⟩
  simp -dsimp only [↓WPd,↓Zm,↓Zn,WPu,Za,Zb,Zc,Zd,Ze,Zf,Zg,Zh,Nat.reduceEqDiff,Nat.reduceLT,Zi,Zj,Zk,Zl,Nat.reduceBEq,la]
  refine condP_dec (fun h => ?_) (fun h => ?_)
  ·have hk' : k < ws.length := by omega
   obtain ⟨a1,a2⟩ := names_at ha hk'
   obtain ⟨b1,b2⟩ := names_at hb hk'
   simp -dsimp only [↓WPd,↓Zm,↓Zn,WPu,Za,Zb,Zc,Zd,Ze,Zf,Zg,Zh,Nat.reduceEqDiff,Nat.reduceLT,Zi,Zj,Zk,Zl,Nat.reduceBEq,a1,a2,b1,b2,nm_eqs,decide_true]
   exact ⟨ws.length - (k + 1),by omega,k + 1,by omega,rfl,by rw [wrap_i64 (by omega) (by omega),Int.natCast_add,Int.natCast_one],trivial⟩
  ·simp -dsimp only [↓WPd,↓Zm,↓Zn,WPu,Za,Zb,Zc,Zd,Ze,Zf,Zg,Zh,Nat.reduceEqDiff,Nat.reduceLT,Zi,Zj,Zk,Zl,Nat.reduceBEq]
 ·rintro e σ' env ⟨rfl,rfl⟩
  simp -dsimp only [↓WPd,↓Zm,↓Zn,WPu,Za,Zb,Zc,Zd,Ze,Zf,Zg,Zh,Nat.reduceEqDiff,Nat.reduceLT,Zi,Zj,Zk,Zl,Nat.reduceBEq]
end
theorem nm_get (t : List Nm) (i : Nat) (h : i < (t.map nmV).length) : (t.map nmV)[i] = nmV (t[i]'(by simpa using h)) := by simp
theorem NN_len (l : List Nm) : (NN l).length = l.length := by simp
def mkN (n : Int) : Nm := (n,0)
def nmarks : List Nm := (List.range 9).map fun j : Nat => mkN (-700 - (j : Int))
structure HandedN (σ : Store) (v : AVal) (x : List Nm) (id : Nat) : Prop where
 val : v = .slice 2 id 0 0 x.length (some (x.length + 9))
 obj : σ[id]? = some (.arr 2 (NN (x ++ nmarks)) 0 0)
theorem HandedN.sl {σ : Store} {v : AVal} {x : List Nm} {id : Nat} (h : HandedN σ v x id) : SlOf σ 2 v (NN x) := by
 obtain ⟨rfl,ho⟩ := h
 refine ⟨?_,by simp [lenSV,NN_len],fun s id' ep off len c hc => ?_⟩
 ·simp [elems,ho]
 ·injection hc with _ _ _ _ e5 e6; injection e6 with e6; omega
theorem HandedN.keep {σ σ' : Store} {v : AVal} {x : List Nm} {id : Nat} (h : HandedN σ v x id) {M : Nat → Prop} (hk : Keeps M σ σ') (hm : ¬ M id) : HandedN σ' v x id := ⟨h.val,hk.get h.obj hm⟩
section
variable (d : Nat) (σ : Store)
end
section
variable (d : Nat) (σ : Store)
end
def mkNK (i : Nat) : Nm := mkN (-9000 - i)
theorem mk_opsN (i : Nat) (hi : i < 2 ^ 40) : IntKind.i64.wrap (-9000 - (i : Int)) = -9000 - (i : Int) ∧ fillA [AVal.int IntKind.i64 0,AVal.int IntKind.i64 0] [(0,1,AVal.int IntKind.i64 (-9000 - (i : Int)))] = some (nmC (mkNK i)) ∧ (nmC (mkNK i)).all AVal.one = true :=
 ⟨by rw [wrap_i64 (by omega) (by omega)],rfl,rfl⟩
section
variable (d : Nat) (σ : Store)
end
section
variable (d : Nat) (σ : Store)
theorem alonecells0_ok (id : Nat) (c0 c1 c2 c3 c4 : AVal) (h : σ[id]? = some (.cells [c0,c1,c2,c3,c4])) (hc : c3 = .nilslice) : Called CU.cfg d 70 [.ptr id 0] σ fun r σ' => r = .bool true ∧ σ' = σ := by
 subst hc
 refine called_of (fn := CU.a70) rfl (Nat.le_of_ble_eq_true rfl) ?_
 have el : lenSV .nilslice = some 0 := rfl
 have d0 : decide ((0 : Int) < ((0 : Nat) : Int)) = false := rfl
 simp only [CU.a70, CU.o]
 simp -dsimp only [↓WPd,↓Zm,↓Zn,WPu,Za,Zb,Zc,Zd,Ze,Zf,Zg,Zh,Nat.reduceEqDiff,Nat.reduceLT,Zi,Zj,Zk,Zl,Nat.reduceBEq]
 refine loop_rule (fun m vs σ' => σ' = σ ∧ vs = [.ptr id 0,.int .i64 0]) 0 ⟨rfl,?_⟩ ?_
 ·simp -dsimp only [↓WPd,↓Zm,↓Zn,WPu,Za,Zb,Zc,Zd,Ze,Zf,Zg,Zh,Nat.reduceEqDiff,Nat.reduceLT,Zi,Zj,Zk,Zl,Nat.reduceBEq]
 rintro m vs σ' ⟨rfl,rfl⟩
 simp -dsimp only [↓WPd,↓Zm,↓Zn,WPu,Za,Zb,Zc,Zd,Ze,Zf,Zg,Zh,Nat.reduceEqDiff,Nat.reduceLT,Zi,Zj,Zk,Zl,Nat.reduceBEq,faddr_ptr,load_cells h,List.getElem?_cons_zero,List.getElem?_cons_succ,el,d0]
 refine loop_rule (fun m vs σ2 => σ2 = σ' ∧ vs = [.ptr id 0,.nilslice,.int .i64 0]) 0 ⟨rfl,?_⟩ ?_
 ·simp -dsimp only [↓WPd,↓Zm,↓Zn,WPu,Za,Zb,Zc,Zd,Ze,Zf,Zg,Zh,Nat.reduceEqDiff,Nat.reduceLT,Zi,Zj,Zk,Zl,Nat.reduceBEq]
 rintro m vs σ2 ⟨rfl,rfl⟩
 simp -dsimp only [↓WPd,↓Zm,↓Zn,WPu,Za,Zb,Zc,Zd,Ze,Zf,Zg,Zh,Nat.reduceEqDiff,Nat.reduceLT,Zi,Zj,Zk,Zl,Nat.reduceBEq,faddr_ptr,load_cells h,List.getElem?_cons_zero,List.getElem?_cons_succ,el,d0]
 refine loop_rule (fun m vs σ3 => σ3 = σ2 ∧ vs = [.ptr id 0,.nilslice,.int .i64 0]) 0 ⟨rfl,?_⟩ ?_
 ·simp -dsimp only [↓WPd,↓Zm,↓Zn,WPu,Za,Zb,Zc,Zd,Ze,Zf,Zg,Zh,Nat.reduceEqDiff,Nat.reduceLT,Zi,Zj,Zk,Zl,Nat.reduceBEq]
 rintro m vs σ3 ⟨rfl,rfl⟩
 simp -dsimp only [↓WPd,↓Zm,↓Zn,WPu,Za,Zb,Zc,Zd,Ze,Zf,Zg,Zh,Nat.reduceEqDiff,Nat.reduceLT,Zi,Zj,Zk,Zl,Nat.reduceBEq,faddr_ptr,load_cells h,List.getElem?_cons_zero,List.getElem?_cons_succ,el,d0]
end
theorem PO.noCell {σ : Store} {sz : Nat} {v : AVal} {es cs : List AVal} {id : Nat} (h : PO σ sz v es) (ho : σ[id]? = some (.cells cs)) : v.sid ≠ some id := h.sl.noCell ho
structure QRows (σ : Store) (lo sz : Nat) (l : AVal) (es : List AVal) (ps : List (List AVal)) : Prop where
 row : Own σ 1 l es
 len : es.length = ps.length
 one : ∀ (i : Nat) (e : AVal) (p : List AVal),es[i]? = some e → ps[i]? = some p → PO σ sz e p
 frs : ∀ (i : Nat) (e : AVal),es[i]? = some e → Fresh lo e
 frl : Fresh lo l
 apart : ∀ (i j : Nat) (e e' : AVal) (id : Nat),es[i]? = some e → es[j]? = some e' → e.sid = some id → e'.sid = some id → i = j
 off : ∀ (i : Nat) (e : AVal) (id : Nat),es[i]? = some e → e.sid = some id → l.sid ≠ some id
 litl : NoLit l
theorem QRows.nil (σ : Store) (lo sz : Nat) : QRows σ lo sz .nilslice [] [] :=
 ⟨Own.nil _ _,rfl,fun i e p h => by simp at h,fun i e h => by simp at h,Fresh.nil _,fun i j e e' id h => by simp at h,fun i e id h => by simp at h,trivial⟩
theorem QRows.lt {σ : Store} {lo sz : Nat} {l : AVal} {es : List AVal} {ps : List (List AVal)} (h : QRows σ lo sz l es ps) {i : Nat} {e : AVal} (hi : es[i]? = some e) {id : Nat} (hid : e.sid = some id) : id < σ.length := by
 have hlt := (List.getElem?_eq_some_iff.1 hi).1
 have := h.one i e (ps[i]'(by rw [← h.len]; exact hlt)) hi (List.getElem?_eq_getElem _)
 exact this.sl.lt hid
theorem QRows.cell {σ σ' : Store} {lo sz : Nat} {l : AVal} {es : List AVal} {ps : List (List AVal)} {id : Nat} {cs : List AVal} (h : QRows σ lo sz l es ps) (ho : σ[id]? = some (.cells cs)) (hk : Keeps (fun i => i = id) σ σ') : QRows σ' lo sz l es ps :=
 ⟨h.row.keeps hk fun i hi e => h.row.noCell ho (by rw [← e]; exact hi),h.len,fun i e p h1 h2 => (h.one i e p h1 h2).keeps hk fun j hj e' => (h.one i e p h1 h2).noCell ho (by rw [← e']; exact hj),h.frs,h.frl,h.apart,h.off,h.litl⟩
theorem QRows.push2 {σ : Store} {lo sz : Nat} {l : AVal} {es : List AVal} {ps : List (List AVal)} (h : QRows σ lo sz l es ps) {e : AVal} {p : List AVal} (he : PO σ sz e p) (fe : Fresh lo e) (hlo : lo ≤ σ.length)
  (hl : ∀ id,e.sid = some id → l.sid ≠ some id) (hx : ∀ (i : Nat) (x : AVal) (id : Nat),es[i]? = some x → e.sid = some id → x.sid ≠ some id) (bytes : Nat) (hb : (es.length + 1) * bytes ≤ 70368744177664) :
  ∃ l' σ2,appendV σ 1 bytes l [e] = some (l',σ2) ∧ QRows σ2 lo sz l' (es ++ [e]) (ps ++ [p]) ∧ Keeps (fun i => l.sid = some i) σ σ2 ∧ ∀ id,l'.sid = some id → l.sid = some id ∨ id = σ.length := by
 obtain ⟨l',σ2,h1,h2,h3,h4,h5⟩ := h.row.append [e] bytes hb
 have old : ∀ (i : Nat) (x : AVal),(es ++ [e])[i]? = some x → (es[i]? = some x ∧ i < es.length) ∨ (i = es.length ∧ x = e) := by
  intro i x hx
  rw [List.getElem?_append] at hx
  split at hx
  ·rename_i hlt; exact .inl ⟨hx,hlt⟩
  ·rename_i hlt
   rw [List.getElem?_singleton] at hx
   split at hx
   ·injection hx with hx; exact .inr ⟨by omega,hx.symm⟩
   ·cases hx
 have hx1 : ∀ (i : Nat) (x : AVal) (id : Nat),(es ++ [e])[i]? = some x → x.sid = some id → id < σ.length ∧ l.sid ≠ some id := by
  intro i x id hx hid
  rcases old i x hx with ⟨hx',_⟩ | ⟨_,rfl⟩
  ·exact ⟨h.lt hx' hid,h.off i x id hx' hid⟩
  ·exact ⟨he.sl.lt hid,hl id hid⟩
 refine ⟨l',σ2,h1,⟨h2,by simp [h.len],?_,?_,?_,?_,?_,h5 (.inr (by simp))⟩,h3,h4⟩
 ·intro i x q hxi hq
  refine PO.keeps (σ := σ) ?_ h3 fun id hid => (hx1 i x id hxi hid).2
  rcases old i x hxi with ⟨hx',hlt⟩ | ⟨rfl,rfl⟩
  ·rw [List.getElem?_append_left (by rw [← h.len]; exact hlt)] at hq
   exact h.one i x q hx' hq
  ·rw [h.len,List.getElem?_append_right (Nat.le_refl _),Nat.sub_self] at hq
   simp at hq; subst hq; exact he
 ·intro i x hxi
  rcases old i x hxi with ⟨hx',_⟩ | ⟨_,rfl⟩
  ·exact h.frs i x hx'
  ·exact fe
 ·intro id hid
  rcases h4 id hid with hh | hh
  ·exact h.frl id hh
  ·omega
 ·intro i j x y id hxi hyi hxs hys
  rcases old i x hxi with ⟨hx',hil⟩ | ⟨hi,hxe⟩ <;> rcases old j y hyi with ⟨hy',hjl⟩ | ⟨hj,hye⟩
  ·exact h.apart i j x y id hx' hy' hxs hys
  ·rw [hye] at hys; exact absurd hxs (hx i x id hx' hys)
  ·rw [hxe] at hxs; exact absurd hys (hx j y id hy' hxs)
  ·omega
 ·intro i x id hxi hid hl'
  obtain ⟨k1,k2⟩ := hx1 i x id hxi hid
  rcases h4 id hl' with hh | hh
  ·exact k2 hh
  ·omega
theorem QRows.setElem {σ σ' : Store} {lo sz : Nat} {w : AVal} {es : List AVal} {ps : List (List AVal)} (h : QRows σ lo sz w es ps) {i : Nat} {e : AVal} {p : List AVal} (hi : es[i]? = some e) (he : PO σ' sz e p) (hk : Keeps (fun j => e.sid = some j) σ σ') :
  QRows σ' lo sz w es (ps.set i p) := by
 refine ⟨h.row.keeps hk fun j hj hj' => h.off i e j hi hj' hj,by simp [h.len],fun k x q hx hq => ?_,h.frs,h.frl,h.apart,h.off,h.litl⟩
 by_cases hki : k = i
 ·subst hki
  rw [hi] at hx; injection hx with hx; subst hx
  rw [List.getElem?_set_self (by rw [← h.len]; exact (List.getElem?_eq_some_iff.1 hi).1)] at hq
  injection hq with hq; subst hq; exact he
 ·rw [List.getElem?_set_ne (fun e => hki e.symm)] at hq
  exact (h.one k x q hx hq).keeps hk fun j hj hj' => hki (h.apart k i x e j hx hi hj hj')
structure BookQ (c1 c2 c3 c4 : AVal) (lo : Nat) (σ : Store) (id : Nat) (w : AVal) (es : List AVal) (ps : List (List Nm)) : Prop where
 obj : σ[id]? = some (.cells [c1,c2,c3,c4,w])
 rows : QRows σ lo 2 w es (ps.map fun l => l.map nmV)
section
variable (d : Nat) (σ : Store)
theorem takeq_ok (c1 c2 c3 c4 : AVal) (lo : Nat) (id : Nat) (w e : AVal) (es : List AVal) (ps : List (List Nm)) (p : List Nm) (h : BookQ c1 c2 c3 c4 lo σ id w es ps) (he : PO σ 2 e (NN p)) (fe : Fresh lo e) (hlo : lo ≤ σ.length) (hn : ps.length < 2 ^ 30)
  (hl : ∀ j,e.sid = some j → w.sid ≠ some j) (hx : ∀ (i : Nat) (x : AVal) (j : Nat),es[i]? = some x → e.sid = some j → x.sid ≠ some j) :
  Called CU.cfg d 19 [.ptr id 0,e] σ fun _ σ' => Keeps (fun i => i = id ∨ w.sid = some i) σ σ' ∧ ∃ w',BookQ c1 c2 c3 c4 lo σ' id w' (es ++ [e]) (ps ++ [p]) ∧ (∀ j,w'.sid = some j → w.sid = some j ∨ σ.length ≤ j) := by
 refine called_of (fn := CU.a19) rfl (Nat.le_of_ble_eq_true rfl) ?_
 have hlen := h.rows.len
 rw [List.length_map] at hlen
 obtain ⟨w',σ2,a1,a2,a3,a4⟩ := h.rows.push2 he fe hlo hl hx 24 (by omega)
 have ho2 := a3.get h.obj (h.rows.row.noCell h.obj)
 have st := store_cells ho2 (off := 4) (by simp) (v := w') a2.row.sl.one
 simp only [List.set_cons_zero,List.set_cons_succ] at st
 have e1 := lit1_one he.sl.one
 have lel : ∀ tg,elems 1 σ (.fslice tg true 1 [e]) = some [e] := fun tg => (SlOf.fs σ 1 tg true [e]).els
 simp only [CU.a19, CU.o]
 simp -dsimp only [↓WPd,↓Zm,↓Zn,WPu,Za,Zb,Zc,Zd,Ze,Zf,Zg,Zh,Nat.reduceEqDiff,Nat.reduceLT,Zi,Zj,Zk,Zl,Nat.reduceBEq,faddr_ptr,load_cells h.obj,List.getElem?_cons_zero,List.getElem?_cons_succ,e1,lel,a1,st,resultsA,mapO]
 have k1 : Keeps (fun i => i = id ∨ w.sid = some i) σ σ2 := a3.mono fun i hi e => .inr e
 refine ⟨Keeps.trans k1 (Keeps.set _ _ _) fun i hi e => .inl e,w',⟨get_set ho2,?_⟩,fun j hj => ?_⟩
 ·have := a2.cell ho2 (Keeps.set σ2 id (.cells [c1,c2,c3,c4,w']))
  simpa using this
 ·rcases a4 j hj with e | e
  ·exact .inl e
  ·exact .inr (by omega)
set_option maxHeartbeats 4000000 in
theorem aloneq_ok (c1 c2 c3 c4 : AVal) (lo : Nat) (id : Nat) (w : AVal) (es : List AVal) (qs : List (List Nm)) (h : BookQ c1 c2 c3 c4 lo σ id w es qs) (hn : qs.length < 2 ^ 38) (hq : ∀ q ∈ qs,q.length < 2 ^ 38) :
  Called CU.cfg d 71 [.ptr id 0] σ fun r σ' => r = .bool true ∧ σ'[id]? = some (.cells [c1,c2,c3,c4,w]) ∧ Keeps (fun j => ∃ (i : Nat) (e : AVal),es[i]? = some e ∧ e.sid = some j) σ σ' := by
 refine called_of (fn := CU.a71) rfl (Nat.le_of_ble_eq_true rfl) ?_
 have hpl := h.rows.len
 rw [List.length_map] at hpl
 have lw := h.rows.row.sl.len
 rw [hpl] at lw
 have sub : ∀ {i : Nat} {e : AVal} {σ1 σ2 : Store},es[i]? = some e → Keeps (fun j => e.sid = some j) σ1 σ2 → Keeps (fun j => ∃ (i : Nat) (e : AVal),es[i]? = some e ∧ e.sid = some j) σ1 σ2 := fun hi hk => hk.mono fun j _ hj => ⟨_,_,hi,hj⟩
 simp only [CU.a71, CU.o]
 simp -dsimp only [↓WPd,↓Zm,↓Zn,WPu,Za,Zb,Zc,Zd,Ze,Zf,Zg,Zh,Nat.reduceEqDiff,Nat.reduceLT,Zi,Zj,Zk,Zl,Nat.reduceBEq]
 refine loop_rule2 (fun m vs σ' => ∃ (i : Nat) (xs : List (List Nm)),i ≤ qs.length ∧ m = qs.length - i ∧ vs = [.ptr id 0,.int .i64 i] ∧ BookQ c1 c2 c3 c4 lo σ' id w es xs ∧ xs.length = qs.length ∧ (∀ (j : Nat) (x : List Nm),xs[j]? = some x → x.length < 2 ^ 38 ∧ (j < i → x = List.replicate x.length (mkNK j))) ∧
   Keeps (fun j => ∃ (i : Nat) (e : AVal),es[i]? = some e ∧ e.sid = some j) σ σ')
  [0] (fun x vs σ' => x = .exit 0 ∧ ∃ (xs : List (List Nm)),vs = [.ptr id 0] ∧ BookQ c1 c2 c3 c4 lo σ' id w es xs ∧ xs.length = qs.length ∧ (∀ (j : Nat) (x : List Nm),xs[j]? = some x → x.length < 2 ^ 38 ∧ x = List.replicate x.length (mkNK j)) ∧
   Keeps (fun j => ∃ (i : Nat) (e : AVal),es[i]? = some e ∧ e.sid = some j) σ σ') qs.length
  ⟨0,qs,Nat.zero_le _,rfl,?_,h,rfl,fun j x hx => ⟨hq x (List.mem_of_getElem? hx),fun h => by omega⟩,Keeps.refl _ _⟩ ?_ ?_
 ·simp -dsimp only [↓WPd,↓Zm,↓Zn,WPu,Za,Zb,Zc,Zd,Ze,Zf,Zg,Zh,Nat.reduceEqDiff,Nat.reduceLT,Zi,Zj,Zk,Zl,Nat.reduceBEq]; rfl
 ·rintro m vs σ1 ⟨i,xs,hi,rfl,rfl,hb,hxl,hx,hk⟩
  simp -dsimp only [↓WPd,↓Zm,↓Zn,WPu,Za,Zb,Zc,Zd,Ze,Zf,Zg,Zh,Nat.reduceEqDiff,Nat.reduceLT,Zi,Zj,Zk,Zl,Nat.reduceBEq,faddr_ptr,load_cells hb.obj,List.getElem?_cons_zero,List.getElem?_cons_succ,lw]
  refine condP_dec (fun hc => ?_) (fun hc => ?_)
  ·have hi' : i < qs.length := by omega
   have hie : i < es.length := by omega
   have hei : es[i]? = some es[i] := List.getElem?_eq_getElem hie
   generalize es[i] = e at hei
   obtain ⟨m1,m2,m3⟩ := mk_opsN i (by omega)
   simp -dsimp only [↓WPd,↓Zm,↓Zn,WPu,Za,Zb,Zc,Zd,Ze,Zf,Zg,Zh,Nat.reduceEqDiff,Nat.reduceLT,Zi,Zj,Zk,Zl,Nat.reduceBEq]
   refine loop_rule2 (fun m vs σ' => ∃ (k : Nat) (ys : List (List Nm)) (y : List Nm),k ≤ y.length ∧ m = y.length - k ∧ vs = [.ptr id 0,.int .i64 i,.int .i64 k] ∧ BookQ c1 c2 c3 c4 lo σ' id w es ys ∧ ys.length = qs.length ∧ ys[i]? = some y ∧ y.length < 2 ^ 38 ∧ y.take k = List.replicate k (mkNK i) ∧
     (∀ (j : Nat) (x : List Nm),j ≠ i → ys[j]? = some x → x.length < 2 ^ 38 ∧ (j < i → x = List.replicate x.length (mkNK j))) ∧ Keeps (fun j => ∃ (i : Nat) (e : AVal),es[i]? = some e ∧ e.sid = some j) σ σ')
    [0,3] (fun x vs σ' => x = .exit 2 ∧ vs = [.ptr id 0,.int .i64 i] ∧ ∃ ys : List (List Nm),BookQ c1 c2 c3 c4 lo σ' id w es ys ∧ ys.length = qs.length ∧ (∀ (j : Nat) (x : List Nm),ys[j]? = some x → x.length < 2 ^ 38 ∧ (j < i + 1 → x = List.replicate x.length (mkNK j))) ∧
     Keeps (fun j => ∃ (i : Nat) (e : AVal),es[i]? = some e ∧ e.sid = some j) σ σ') (xs[i]'(by omega)).length
    ⟨0,xs,xs[i]'(by omega),Nat.zero_le _,rfl,?_,hb,hxl,List.getElem?_eq_getElem _,(hx i _ (List.getElem?_eq_getElem (by omega))).1,by simp,fun j x _ hj => hx j x hj,hk⟩ ?_ ?_
   ·simp -dsimp only [↓WPd,↓Zm,↓Zn,WPu,Za,Zb,Zc,Zd,Ze,Zf,Zg,Zh,Nat.reduceEqDiff,Nat.reduceLT,Zi,Zj,Zk,Zl,Nat.reduceBEq]; rfl
   ·rintro m vs σ2 ⟨k,ys,y,hky,rfl,rfl,hb2,hyl,hyi,hy28,hyt,hyo,hk2⟩
    have oe := hb2.rows.one i e (NN y) hei (by rw [List.getElem?_map,hyi]; rfl)
    have le := oe.sl.len
    rw [NN_len] at le
    have e1 := hb2.rows.row.sl.iaddr hie .i64
    have e2 := hb2.rows.row.sl.load hie 1 false
    have hg : es[i] = e := by rw [List.getElem?_eq_getElem hie] at hei; exact Option.some.inj hei
    rw [hg,show ld e.cells 0 1 false = some e from by have := oe.sl.one; cases e <;> first | (cases this; done) | rfl] at e2
    simp -dsimp only [↓WPd,↓Zm,↓Zn,WPu,Za,Zb,Zc,Zd,Ze,Zf,Zg,Zh,Nat.reduceEqDiff,Nat.reduceLT,Zi,Zj,Zk,Zl,Nat.reduceBEq,faddr_ptr,load_cells hb2.obj,List.getElem?_cons_zero,List.getElem?_cons_succ,e1,e2,le]
    refine condP_dec (fun hc => ?_) (fun hc => ?_)
    ·have hk' : k < y.length := by omega
     have hkB : k < (NN y).length := by rw [NN_len]; exact hk'
     obtain ⟨σ3,st,o3,k3,-⟩ := oe.store hkB (x := (nmV (mkNK i))) rfl rfl (by rw [nm_get]; rfl) (by rw [nm_get]; rfl)
     have eb : (NN y).set k (nmV (mkNK i)) = NN (y.set k (mkNK i)) := by simp [List.map_set]
     rw [eb] at o3
     have st' : storeV σ2 2 (addrOf 2 e k) (.agg (nmC (mkNK i))) = some σ3 := st
     have r3 := hb2.rows.setElem hei o3 k3
     rw [← List.map_set] at r3
     have hb3 : BookQ c1 c2 c3 c4 lo σ3 id w es (ys.set i (y.set k (mkNK i))) := ⟨k3.get hb2.obj (oe.noCell hb2.obj),r3⟩
     simp -dsimp only [↓WPd,↓Zm,↓Zn,WPu,Za,Zb,Zc,Zd,Ze,Zf,Zg,Zh,Nat.reduceEqDiff,Nat.reduceLT,Zi,Zj,Zk,Zl,Nat.reduceBEq,faddr_ptr,load_cells hb2.obj,List.getElem?_cons_zero,List.getElem?_cons_succ,e1,e2,m1,m2,m3,oe.sl.iaddr hkB,st']
     refine ⟨y.length - (k + 1),by omega,k + 1,ys.set i (y.set k (mkNK i)),y.set k (mkNK i),by simp; omega,by simp,?_,hb3,by simpa using hyl,?_,by simpa using hy28,?_,fun j x hj hx' => ?_,?_⟩
     ·rw [wrap_i64 (by omega) (by omega),Int.natCast_add,Int.natCast_one]
     ·exact List.getElem?_set_self (by omega)
     ·have := take_set_succ (l := y) (y := List.replicate y.length (mkNK i)) (k := k) hk' (by simpa using hk') (by rw [hyt,List.take_replicate,Nat.min_eq_left (by omega)])
      rw [List.getElem_replicate,List.take_replicate,Nat.min_eq_left (by omega)] at this
      exact this
     ·rw [List.getElem?_set_ne (fun e => hj e.symm)] at hx'
      exact hyo j x hj hx'
     ·exact Keeps.trans hk2 (sub hei k3) fun _ _ h => h
    ·simp -dsimp only [↓WPd,↓Zm,↓Zn,WPu,Za,Zb,Zc,Zd,Ze,Zf,Zg,Zh,Nat.reduceEqDiff,Nat.reduceLT,Zi,Zj,Zk,Zl,Nat.reduceBEq]
     have hk' : k = y.length := by omega
     subst hk'
     rw [List.take_length] at hyt
     refine ⟨ys,hb2,hyl,fun j x hj => ?_,hk2⟩
     by_cases hji : j = i
     ·subst hji
      rw [hyi] at hj; injection hj with hj; subst hj
      exact ⟨hy28,fun _ => hyt⟩
     ·obtain ⟨a1,a2⟩ := hyo j x hji hj
      exact ⟨a1,fun hlt => a2 (by omega)⟩
   ·rintro x σ2 env ⟨rfl,hv,ys,hb2,hyl,hyx,hk2⟩
    simp only [List.map_cons,List.map_nil,List.cons.injEq,and_true] at hv
    obtain ⟨v0,v3⟩ := hv
    simp -dsimp only [↓WPd,↓Zm,↓Zn,WPu,Za,Zb,Zc,Zd,Ze,Zf,Zg,Zh,Nat.reduceEqDiff,Nat.reduceLT,Zi,Zj,Zk,Zl,Nat.reduceBEq,v0,v3]
    refine ⟨qs.length - (i + 1),by omega,i + 1,ys,by omega,rfl,?_,hb2,hyl,hyx,hk2⟩
    rw [wrap_i64 (by omega) (by omega),Int.natCast_add,Int.natCast_one]
  ·simp -dsimp only [↓WPd,↓Zm,↓Zn,WPu,Za,Zb,Zc,Zd,Ze,Zf,Zg,Zh,Nat.reduceEqDiff,Nat.reduceLT,Zi,Zj,Zk,Zl,Nat.reduceBEq]
   exact ⟨xs,hb,hxl,fun j x hj => ⟨(hx j x hj).1,(hx j x hj).2 (by have := (List.getElem?_eq_some_iff.1 hj).1; omega)⟩,hk⟩
 ·rintro x σ1 env ⟨rfl,xs,hv,hb,hxl,hx,hk⟩
  simp only [List.map_cons,List.map_nil,List.cons.injEq,and_true] at hv
  simp -dsimp only [↓WPd,↓Zm,↓Zn,WPu,Za,Zb,Zc,Zd,Ze,Zf,Zg,Zh,Nat.reduceEqDiff,Nat.reduceLT,Zi,Zj,Zk,Zl,Nat.reduceBEq,hv]
  have hxe : ∀ {j : Nat} {e : AVal} {x : List Nm},es[j]? = some e → xs[j]? = some x → PO σ1 2 e (NN x) := fun {j e x} h1 h2 => hb.rows.one j e (NN x) h1 (by rw [List.getElem?_map,h2]; rfl)
  have hel : ∀ {j : Nat} {e : AVal} {s : Nat},es[j]? = some e → e.sid = some s → s < σ1.length := fun h1 h2 => hb.rows.lt h1 h2
  refine loop_rule2 (fun m vs σ' => ∃ (i : Nat) (a : AVal) (gs : List AVal),i ≤ qs.length ∧ m = qs.length - i ∧ vs = [.ptr id 0,a,.int .i64 i] ∧ σ'[id]? = some (.cells [c1,c2,c3,c4,w]) ∧ SlOf σ' 1 w es ∧
    (∀ (j : Nat) (e : AVal) (x : List Nm),es[j]? = some e → xs[j]? = some x → SlOf σ' 2 e (NN x) ∧ (i ≤ j → PO σ' 2 e (NN x))) ∧ Own σ' 1 a gs ∧ gs.length = i ∧ Fresh σ1.length a ∧
    (∀ (j : Nat) (g : AVal) (x : List Nm),gs[j]? = some g → xs[j]? = some x → SlOf σ' 2 g (NN (x ++ List.replicate 20 (mkNK j)))) ∧ Keeps (fun j => ∃ (i : Nat) (e : AVal),es[i]? = some e ∧ e.sid = some j) σ σ' ∧ σ1.length ≤ σ'.length ∧ (∀ (j : Nat) (g : AVal) (s : Nat),gs[j]? = some g → g.sid = some s → (∃ e,es[j]? = some e ∧ e.sid = some s) ∨ σ1.length ≤ s))
   [0,5] (fun x vs σ' => x = .exit 4 ∧ ∃ (a : AVal) (gs : List AVal),vs = [.ptr id 0,a] ∧ σ'[id]? = some (.cells [c1,c2,c3,c4,w]) ∧ SlOf σ' 1 w es ∧
    (∀ (j : Nat) (e : AVal) (x : List Nm),es[j]? = some e → xs[j]? = some x → SlOf σ' 2 e (NN x)) ∧ SlOf σ' 1 a gs ∧ gs.length = qs.length ∧
    (∀ (j : Nat) (g : AVal) (x : List Nm),gs[j]? = some g → xs[j]? = some x → SlOf σ' 2 g (NN (x ++ List.replicate 20 (mkNK j)))) ∧ Keeps (fun j => ∃ (i : Nat) (e : AVal),es[i]? = some e ∧ e.sid = some j) σ σ') qs.length
   ⟨0,.nilslice,[],Nat.zero_le _,rfl,?_,hb.obj,hb.rows.row.sl,fun j e x h1 h2 => ⟨(hxe h1 h2).sl,fun _ => hxe h1 h2⟩,Own.nil _ _,rfl,Fresh.nil _,fun j g x h => by simp at h,hk,Nat.le_refl _,fun j g s h => by simp at h⟩ ?_ ?_
  ·simp -dsimp only [↓WPd,↓Zm,↓Zn,WPu,Za,Zb,Zc,Zd,Ze,Zf,Zg,Zh,Nat.reduceEqDiff,Nat.reduceLT,Zi,Zj,Zk,Zl,Nat.reduceBEq,hv]; rfl
  ·rintro m vs σ2 ⟨i,a,gs,hi,rfl,rfl,p1,p2,p3,p4,p5,p6,p7,p8,p9,p10⟩
   simp -dsimp only [↓WPd,↓Zm,↓Zn,WPu,Za,Zb,Zc,Zd,Ze,Zf,Zg,Zh,Nat.reduceEqDiff,Nat.reduceLT,Zi,Zj,Zk,Zl,Nat.reduceBEq,faddr_ptr,load_cells p1,List.getElem?_cons_zero,List.getElem?_cons_succ,lw]
   refine condP_dec (fun hc => ?_) (fun hc => ?_)
   ·have hi' : i < qs.length := by omega
    have hie : i < es.length := by omega
    have hei : es[i]? = some es[i] := List.getElem?_eq_getElem hie
    have hxi : xs[i]? = some (xs[i]'(by omega)) := List.getElem?_eq_getElem _
    generalize xs[i]'(by omega) = x at hxi
    obtain ⟨m1,m2,m3⟩ := mk_opsN i (by omega)
    have oe := (p3 i es[i] x hei hxi).2 (Nat.le_refl _)
    have hx28 := (hx i x hxi).1
    have e1 := p2.iaddr hie .i64
    have e2 := p2.load1 hie oe.sl.one 1
    simp -dsimp only [↓WPd,↓Zm,↓Zn,WPu,Za,Zb,Zc,Zd,Ze,Zf,Zg,Zh,Nat.reduceEqDiff,Nat.reduceLT,Zi,Zj,Zk,Zl,Nat.reduceBEq,faddr_ptr,load_cells p1,List.getElem?_cons_zero,List.getElem?_cons_succ,e1,e2]
    generalize es[i] = e at hei oe
    refine loop_rule2 (fun m vs σ' => ∃ (k : Nat) (g : AVal),k ≤ 20 ∧ m = 20 - k ∧ vs = [.ptr id 0,a,.int .i64 i,g,.int .i64 k] ∧ Gro σ' 2 e (NN x) g (NN (x ++ List.replicate k (mkNK i))) ∧ (∀ s,g.sid = some s → e.sid = some s ∨ σ2.length ≤ s) ∧ Keeps (fun s => e.sid = some s) σ2 σ')
     [0,5,6,7] (fun y vs σ' => y = .exit 6 ∧ ∃ g : AVal,vs = [.ptr id 0,a,.int .i64 i,g] ∧ Gro σ' 2 e (NN x) g (NN (x ++ List.replicate 20 (mkNK i))) ∧ (∀ s,g.sid = some s → e.sid = some s ∨ σ2.length ≤ s) ∧ Keeps (fun s => e.sid = some s) σ2 σ') 20
     ⟨0,e,Nat.zero_le _,rfl,?_,by simpa using Gro.start oe,fun s hs => .inl hs,Keeps.refl _ _⟩ ?_ ?_
    ·simp -dsimp only [↓WPd,↓Zm,↓Zn,WPu,Za,Zb,Zc,Zd,Ze,Zf,Zg,Zh,Nat.reduceEqDiff,Nat.reduceLT,Zi,Zj,Zk,Zl,Nat.reduceBEq]; rfl
    ·rintro m vs σ3 ⟨k,g,hk20,rfl,rfl,og,gsid,gk⟩
     simp -dsimp only [↓WPd,↓Zm,↓Zn,WPu,Za,Zb,Zc,Zd,Ze,Zf,Zg,Zh,Nat.reduceEqDiff,Nat.reduceLT,Zi,Zj,Zk,Zl,Nat.reduceBEq]
     refine condP_dec (fun hc => ?_) (fun hc => ?_)
     ·have hk' : k < 20 := by omega
      obtain ⟨g',σ4,b1,b2,b3,b4⟩ := og.append (nmV (mkNK i)) 16 (by rw [NN_len]; simp; omega)
      have eb2 : NN (x ++ List.replicate k (mkNK i)) ++ [nmV (mkNK i)] = NN (x ++ List.replicate (k + 1) (mkNK i)) := by rw [List.replicate_succ',← List.append_assoc]; simp
      rw [eb2] at b2
      have b1' : appendV σ3 2 16 g [.agg (nmC (mkNK i))] = some (g',σ4) := b1
      have f1 : fillL 2 true (List.replicate 1 (zel [AVal.int IntKind.i64 0,AVal.int IntKind.i64 0] true)) [(0,.agg (nmC (mkNK i)))] = some [.agg (nmC (mkNK i))] := rfl
      have f2 : ∀ t : Nat,elems 2 σ3 (.fslice t true 2 [.agg (nmC (mkNK i))]) = some [.agg (nmC (mkNK i))] := fun t => rfl
      simp -dsimp only [↓WPd,↓Zm,↓Zn,WPu,Za,Zb,Zc,Zd,Ze,Zf,Zg,Zh,Nat.reduceEqDiff,Nat.reduceLT,Zi,Zj,Zk,Zl,Nat.reduceBEq,m1,m2,m3,f1,f2,b1']
      refine ⟨20 - (k + 1),by omega,k + 1,g',by omega,rfl,?_,b2,fun s hs => ?_,?_⟩
      ·rw [wrap_i64 (by omega) (by omega),Int.natCast_add,Int.natCast_one]
      ·rcases b4 s hs with e | e
       ·exact gsid s e
       ·have := gk.1; exact .inr (by omega)
      ·refine Keeps.trans gk b3 fun s hs e => ?_
       rcases gsid s e with e' | e'
       ·exact e'
       ·omega
     ·simp -dsimp only [↓WPd,↓Zm,↓Zn,WPu,Za,Zb,Zc,Zd,Ze,Zf,Zg,Zh,Nat.reduceEqDiff,Nat.reduceLT,Zi,Zj,Zk,Zl,Nat.reduceBEq]
      have hk' : k = 20 := by omega
      subst hk'
      exact ⟨g,rfl,og,gsid,gk⟩
    ·rintro y σ3 env ⟨rfl,g,hv,og,gsid,gk⟩
     simp only [List.map_cons,List.map_nil,List.cons.injEq,and_true] at hv
     obtain ⟨v0,v5,v6,v7⟩ := hv
     have g4 : Grows σ3 σ3 := Keeps.refl _ _
     have lel : ∀ tg,elems 1 σ3 (.fslice tg true 1 [g]) = some [g] := fun tg => (SlOf.fs σ3 1 tg true [g]).els
     have oa3 : Own σ3 1 a gs := p4.keeps gk fun s hs he => by have := p6 s hs; have := hel hei he; omega
     have oa4 := oa3.grow g4
     obtain ⟨a',σ5,c1,c2,c3,c4,_⟩ := oa4.append [g] 24 (by rw [p5]; simp; omega)
     have V : ∀ {s : Nat} {u : AVal} {us : List AVal},SlOf σ2 s u us → (∀ q,u.sid = some q → e.sid ≠ some q) → SlOf σ5 s u us := fun {s u us} hu hq => oa4.append_view c1 (hu.keeps gk hq)
     have og1 := lit1_one og.one
     simp -dsimp only [↓WPd,↓Zm,↓Zn,WPu,Za,Zb,Zc,Zd,Ze,Zf,Zg,Zh,Nat.reduceEqDiff,Nat.reduceLT,Zi,Zj,Zk,Zl,Nat.reduceBEq,v0,v5,v6,v7,og1,lel,c1]
     refine ⟨qs.length - (i + 1),by omega,i + 1,a',gs ++ [g],by omega,rfl,?_,?_,V p2 (fun q h1 h2 => hb.rows.off i e q hei h2 h1),fun j e' x' h1 h2 => ⟨?_,fun hj => ?_⟩,c2,by simp [p5],fun s hs => ?_,fun j g' x' h1 h2 => ?_,?_,?_,fun j g' s h1 hs => ?_⟩
     ·rw [wrap_i64 (by omega) (by omega),Int.natCast_add,Int.natCast_one]
     ·exact c3.get (g4.get (gk.get p1 (oe.noCell p1))) (oa4.noCell (g4.get (gk.get p1 (oe.noCell p1))))
     ·by_cases hji : j = i
      ·subst hji
       rw [hei] at h1; rw [hxi] at h2
       injection h1 with h1; injection h2 with h2
       subst h1; subst h2
       exact oa4.append_view c1 og.1
      ·exact V (p3 j e' x' h1 h2).1 fun q hq he => hji (hb.rows.apart j i e' e q h1 hei hq he)
     ·refine (((p3 j e' x' h1 h2).2 (by omega)).keeps gk fun s hs he => ?_).grow g4 |>.keeps c3 fun s hs ha => ?_
      ·have := hb.rows.apart j i e' e s h1 hei hs he; omega
      ·have := p6 s ha; have := hel h1 hs; omega
     ·rcases c4 s hs with e' | e'
      ·exact p6 s e'
      ·have := g4.1; have := gk.1; omega
     ·by_cases hj : j < gs.length
      ·rw [List.getElem?_append_left hj] at h1
       refine V (p7 j g' x' h1 h2) fun q hq he => ?_
       rcases p10 j g' q h1 hq with ⟨e'',h3,h4⟩ | h3
       ·have := hb.rows.apart j i e'' e q h3 hei h4 he; omega
       ·have := hel hei he; omega
      ·rw [List.getElem?_append_right (by omega),List.getElem?_singleton] at h1
       split at h1
       ·rename_i hj0
        injection h1 with h1
        subst h1
        have : j = i := by omega
        subst this
        rw [hxi] at h2; injection h2 with h2; subst h2
        exact oa4.append_view c1 (og.sl.grow g4)
       ·cases h1
     ·have k1 : Keeps (fun j => ∃ (i : Nat) (e : AVal),es[i]? = some e ∧ e.sid = some j) σ σ3 := Keeps.trans p8 (sub hei gk) fun _ _ h => h
      have k2 : Keeps (fun j => ∃ (i : Nat) (e : AVal),es[i]? = some e ∧ e.sid = some j) σ σ3 := Keeps.trans k1 (Grows.any (M := fun j => ∃ (i : Nat) (e : AVal),es[i]? = some e ∧ e.sid = some j) g4) fun _ _ h => h
      exact Keeps.trans k2 c3 fun s hs ha => by have := p6 s ha; have := hk.1; omega
     ·have := gk.1; have := g4.1; have := c3.1; omega
     ·by_cases hj : j < gs.length
      ·rw [List.getElem?_append_left hj] at h1
       exact p10 j g' s h1 hs
      ·rw [List.getElem?_append_right (by omega),List.getElem?_singleton] at h1
       split at h1
       ·rename_i hj0
        injection h1 with h1
        subst h1
        have : j = i := by omega
        subst this
        rcases gsid s hs with e0 | e0
        ·exact .inl ⟨e,hei,e0⟩
        ·exact .inr (by omega)
       ·cases h1
   ·simp -dsimp only [↓WPd,↓Zm,↓Zn,WPu,Za,Zb,Zc,Zd,Ze,Zf,Zg,Zh,Nat.reduceEqDiff,Nat.reduceLT,Zi,Zj,Zk,Zl,Nat.reduceBEq]
    have hi' : i = qs.length := by omega
    exact ⟨a,gs,rfl,p1,p2,fun j e x h1 h2 => (p3 j e x h1 h2).1,p4.sl,by omega,p7,p8⟩
  ·rintro y σ2 env ⟨rfl,a,gs,hv2,p1,p2,p3,p4,p5,p7,p8⟩
   simp only [List.map_cons,List.map_nil,List.cons.injEq,and_true] at hv2
   obtain ⟨v0,v5⟩ := hv2
   have la := p4.len
   rw [p5] at la
   simp -dsimp only [↓WPd,↓Zm,↓Zn,WPu,Za,Zb,Zc,Zd,Ze,Zf,Zg,Zh,Nat.reduceEqDiff,Nat.reduceLT,Zi,Zj,Zk,Zl,Nat.reduceBEq,v0,v5]
   refine loop_rule (fun m vs σ' => ∃ i : Nat,i ≤ qs.length ∧ m = qs.length - i ∧ vs = [.ptr id 0,a,.int .i64 i] ∧ σ' = σ2) qs.length ⟨0,Nat.zero_le _,rfl,?_,rfl⟩ ?_
   ·simp -dsimp only [↓WPd,↓Zm,↓Zn,WPu,Za,Zb,Zc,Zd,Ze,Zf,Zg,Zh,Nat.reduceEqDiff,Nat.reduceLT,Zi,Zj,Zk,Zl,Nat.reduceBEq,v0,v5]; rfl
   ·rintro m vs σ' ⟨i,hi,rfl,rfl,rfl⟩
    simp -dsimp only [↓WPd,↓Zm,↓Zn,WPu,Za,Zb,Zc,Zd,Ze,Zf,Zg,Zh,Nat.reduceEqDiff,Nat.reduceLT,Zi,Zj,Zk,Zl,Nat.reduceBEq,la]
    refine condP_dec (fun hc => ?_) (fun hc => ?_)
    ·have hi' : i < qs.length := by omega
     have hie : i < es.length := by omega
     have hig : i < gs.length := by omega
     have hei : es[i]? = some es[i] := List.getElem?_eq_getElem hie
     have hgi : gs[i]? = some gs[i] := List.getElem?_eq_getElem hig
     have hxi : xs[i]? = some (xs[i]'(by omega)) := List.getElem?_eq_getElem _
     generalize xs[i]'(by omega) = x at hxi
     obtain ⟨m1,m2,m3⟩ := mk_opsN i (by omega)
     have sg := p7 i gs[i] x hgi hxi
     have se := p3 i es[i] x hei hxi
     obtain ⟨hx28,hxr⟩ := hx i x hxi
     have a1 := p4.iaddr hig .i64
     have a2 := p4.load1 hig sg.one 1
     have e1 := p2.iaddr hie .i64
     have e2 := p2.load1 hie se.one 1
     generalize gs[i] = g at *
     generalize es[i] = e at *
     have lg := sg.len
     rw [NN_len] at lg
     have le := se.len
     rw [NN_len] at le
     have hz : ∀ (k : Nat) (h : k < (NN (x ++ List.replicate 20 (mkNK i))).length),(NN (x ++ List.replicate 20 (mkNK i)))[k] = (nmV (mkNK i)) := fun k h => by
      have e : x ++ List.replicate 20 (mkNK i) = List.replicate (x.length + 20) (mkNK i) := by
       rw [← List.replicate_append_replicate,← hxr]
      rw [nm_get]; simp only [e,List.getElem_replicate]
     have hx' : ∀ (k : Nat) (h : k < (NN x).length),(NN x)[k] = (nmV (mkNK i)) := fun k h => by
      rw [nm_get]
      have h' : k < x.length := by rw [NN_len] at h; exact h
      have : x[k]? = some (mkNK i) := by rw [hxr,List.getElem?_replicate,if_pos h']
      rw [List.getElem?_eq_getElem h'] at this
      rw [Option.some.inj this]
     have en : eqsV [.i,.i] (.agg (nmC (mkNK i))) (.agg (nmC (mkNK i))) = some true := by
      have := nm_eqs (mkNK i) (mkNK i)
      rw [decide_eq_true rfl] at this; exact this
     simp -dsimp only [↓WPd,↓Zm,↓Zn,WPu,Za,Zb,Zc,Zd,Ze,Zf,Zg,Zh,Nat.reduceEqDiff,Nat.reduceLT,Zi,Zj,Zk,Zl,Nat.reduceBEq]
     refine loop_rule (fun m vs σ'' => ∃ k : Nat,k ≤ (x ++ List.replicate 20 (mkNK i)).length ∧ m = (x ++ List.replicate 20 (mkNK i)).length - k ∧ vs = [.ptr id 0,a,.int .i64 i,.int .i64 k] ∧ σ'' = σ') (x ++ List.replicate 20 (mkNK i)).length ⟨0,Nat.zero_le _,rfl,?_,rfl⟩ ?_
     ·simp -dsimp only [↓WPd,↓Zm,↓Zn,WPu,Za,Zb,Zc,Zd,Ze,Zf,Zg,Zh,Nat.reduceEqDiff,Nat.reduceLT,Zi,Zj,Zk,Zl,Nat.reduceBEq]; rfl
     ·rintro m vs σ'' ⟨k,hk1,rfl,rfl,rfl⟩
      simp -dsimp only [↓WPd,↓Zm,↓Zn,WPu,Za,Zb,Zc,Zd,Ze,Zf,Zg,Zh,Nat.reduceEqDiff,Nat.reduceLT,Zi,Zj,Zk,Zl,Nat.reduceBEq,a1,a2,lg]
      have hzl : (x ++ List.replicate 20 (mkNK i)).length < 2 ^ 40 := by simp; omega
      refine condP_dec (fun hc => ?_) (fun hc => ?_)
      ·have hkz : k < (NN (x ++ List.replicate 20 (mkNK i))).length := by rw [NN_len]; omega
       have lz : loadV σ'' 2 true (addrOf 2 g k) = some (.agg (nmC (mkNK i))) := sg.loadA hkz (cs := (nmC (mkNK i))) (by rw [hz]; rfl)
       simp -dsimp only [↓WPd,↓Zm,↓Zn,WPu,Za,Zb,Zc,Zd,Ze,Zf,Zg,Zh,Nat.reduceEqDiff,Nat.reduceLT,Zi,Zj,Zk,Zl,Nat.reduceBEq,a1,a2,sg.iaddr hkz,lz,m1,m2,m3,en]
       refine ⟨(x ++ List.replicate 20 (mkNK i)).length - (k + 1),by omega,k + 1,by omega,rfl,?_⟩
       exact ⟨by rw [wrap_i64 (by omega) (by omega),Int.natCast_add,Int.natCast_one],trivial⟩
      ·simp -dsimp only [↓WPd,↓Zm,↓Zn,WPu,Za,Zb,Zc,Zd,Ze,Zf,Zg,Zh,Nat.reduceEqDiff,Nat.reduceLT,Zi,Zj,Zk,Zl,Nat.reduceBEq]
       refine loop_rule (fun m vs σ3 => ∃ k : Nat,k ≤ x.length ∧ m = x.length - k ∧ vs = [.ptr id 0,a,.int .i64 i,.int .i64 k] ∧ σ3 = σ'') x.length ⟨0,Nat.zero_le _,rfl,?_,rfl⟩ ?_
       ·simp -dsimp only [↓WPd,↓Zm,↓Zn,WPu,Za,Zb,Zc,Zd,Ze,Zf,Zg,Zh,Nat.reduceEqDiff,Nat.reduceLT,Zi,Zj,Zk,Zl,Nat.reduceBEq]; rfl
       ·rintro m vs σ3 ⟨k2,hk2',rfl,rfl,rfl⟩
        simp -dsimp only [↓WPd,↓Zm,↓Zn,WPu,Za,Zb,Zc,Zd,Ze,Zf,Zg,Zh,Nat.reduceEqDiff,Nat.reduceLT,Zi,Zj,Zk,Zl,Nat.reduceBEq,faddr_ptr,load_cells p1,List.getElem?_cons_zero,List.getElem?_cons_succ,e1,e2,le]
        refine condP_dec (fun hc => ?_) (fun hc => ?_)
        ·have hkx : k2 < (NN x).length := by rw [NN_len]; omega
         have lx : loadV σ3 2 true (addrOf 2 e k2) = some (.agg (nmC (mkNK i))) := se.loadA hkx (cs := (nmC (mkNK i))) (by rw [hx']; rfl)
         simp -dsimp only [↓WPd,↓Zm,↓Zn,WPu,Za,Zb,Zc,Zd,Ze,Zf,Zg,Zh,Nat.reduceEqDiff,Nat.reduceLT,Zi,Zj,Zk,Zl,Nat.reduceBEq,faddr_ptr,load_cells p1,List.getElem?_cons_zero,List.getElem?_cons_succ,e1,e2,se.iaddr hkx,lx,m1,m2,m3,en]
         refine ⟨x.length - (k2 + 1),by omega,k2 + 1,by omega,rfl,?_⟩
         exact ⟨by rw [wrap_i64 (by omega) (by omega),Int.natCast_add,Int.natCast_one],trivial⟩
        ·simp -dsimp only [↓WPd,↓Zm,↓Zn,WPu,Za,Zb,Zc,Zd,Ze,Zf,Zg,Zh,Nat.reduceEqDiff,Nat.reduceLT,Zi,Zj,Zk,Zl,Nat.reduceBEq]
         refine ⟨qs.length - (i + 1),by omega,i + 1,by omega,rfl,?_⟩
         exact ⟨by rw [wrap_i64 (by omega) (by omega),Int.natCast_add,Int.natCast_one],trivial⟩
    ·simp -dsimp only [↓WPd,↓Zm,↓Zn,WPu,Za,Zb,Zc,Zd,Ze,Zf,Zg,Zh,Nat.reduceEqDiff,Nat.reduceLT,Zi,Zj,Zk,Zl,Nat.reduceBEq]
     exact ⟨p1,p8⟩
theorem aloneqm_ok (lo id : Nat) (w : AVal) (es : List AVal) (qs : List (List Nm)) (h : BookQ .nilslice .nilslice .nilslice .nilslice lo σ id w es qs) (hn : qs.length < 2 ^ 38) (hq : ∀ q ∈ qs,q.length < 2 ^ 38) :
  Called CU.cfg d 20 [.ptr id 0] σ fun r σ' => r = .bool true ∧ Keeps (fun j => j = id ∨ ∃ (i : Nat) (e : AVal),es[i]? = some e ∧ e.sid = some j) σ σ' := by
 refine called_of (fn := CU.a20) rfl (Nat.le_of_ble_eq_true rfl) ?_
 have e1 : fillA [AVal.nilslice,.nilslice,.nilslice,.nilslice,.nilslice] [] = some [AVal.nilslice,.nilslice,.nilslice,.nilslice,.nilslice] := rfl
 simp only [CU.a20, CU.o]
 simp -dsimp only [↓WPd,↓Zm,↓Zn,WPu,Za,Zb,Zc,Zd,Ze,Zf,Zg,Zh,Nat.reduceEqDiff,Nat.reduceLT,Zi,Zj,Zk,Zl,Nat.reduceBEq]
 refine calledW_of (alonebytes_ok d σ id _ _ _ _ _ h.obj rfl) ?_
 rintro r σ1 ⟨rfl,rfl⟩
 simp -dsimp only [↓WPd,↓Zm,↓Zn,WPu,Za,Zb,Zc,Zd,Ze,Zf,Zg,Zh,Nat.reduceEqDiff,Nat.reduceLT,Zi,Zj,Zk,Zl,Nat.reduceBEq]
 refine calledW_of (alonetexts_ok d σ1 id _ _ _ _ _ h.obj rfl) ?_
 rintro r σ2 ⟨rfl,rfl⟩
 simp -dsimp only [↓WPd,↓Zm,↓Zn,WPu,Za,Zb,Zc,Zd,Ze,Zf,Zg,Zh,Nat.reduceEqDiff,Nat.reduceLT,Zi,Zj,Zk,Zl,Nat.reduceBEq]
 refine calledW_of (aloneints_ok d σ2 id _ _ _ _ _ h.obj rfl) ?_
 rintro r σ3 ⟨rfl,rfl⟩
 simp -dsimp only [↓WPd,↓Zm,↓Zn,WPu,Za,Zb,Zc,Zd,Ze,Zf,Zg,Zh,Nat.reduceEqDiff,Nat.reduceLT,Zi,Zj,Zk,Zl,Nat.reduceBEq]
 refine calledW_of (alonecells0_ok d σ3 id _ _ _ _ _ h.obj rfl) ?_
 rintro r σ4 ⟨rfl,rfl⟩
 simp -dsimp only [↓WPd,↓Zm,↓Zn,WPu,Za,Zb,Zc,Zd,Ze,Zf,Zg,Zh,Nat.reduceEqDiff,Nat.reduceLT,Zi,Zj,Zk,Zl,Nat.reduceBEq]
 refine calledW_of (aloneq_ok d σ4 _ _ _ _ lo id w es qs h hn hq) ?_
 rintro r σ5 ⟨rfl,o1,k1⟩
 simp -dsimp only [↓WPd,↓Zm,↓Zn,WPu,Za,Zb,Zc,Zd,Ze,Zf,Zg,Zh,Nat.reduceEqDiff,Nat.reduceLT,Zi,Zj,Zk,Zl,Nat.reduceBEq,e1,store5 o1 rfl]
 exact Keeps.trans (k1.mono fun i _ h => .inr h) (Keeps.set _ _ _) fun i hi e => .inl e
end
abbrev twoC (a b : Nm) : List AVal := [.int .i64 a.1,.int .i64 a.2,.int .i64 b.1,.int .i64 b.2]
theorem two0 {σ : Store} {i : Nat} {a b : Nm} (h : σ[i]? = some (.cells (twoC a b))) : loadV σ 2 true (.ptr i 0) = some (nmV a) := by
 simp [loadV,behind,h,ld]; rfl
theorem two2 {σ : Store} {i : Nat} {a b : Nm} (h : σ[i]? = some (.cells (twoC a b))) : loadV σ 2 true (.ptr i 2) = some (nmV b) := by
 simp [loadV,behind,h,ld]; rfl
theorem two1 {σ : Store} {i : Nat} {a b : Nm} (h : σ[i]? = some (.cells (twoC a b))) : loadV σ 1 false (.ptr i 0) = some (.int .i64 a.1) := by
 simp [loadV,behind,h,ld]
set_option maxHeartbeats 4000000 in
theorem paths_run (bv lv : AVal) (bs : Hp) (a b : Nm) (l : List Nm) (hb : BdArg bv bs) (hl : ∀ σ : Store,SlOf σ 2 lv (NN l)) (l0 : l.length < 2 ^ 30) :
  Called CU.cfg 0 4 [bv,.agg (twoC a b),lv] [] fun v _ => v = .bool true := by
 refine called_of (fn := CU.a4) rfl (Nat.le_of_ble_eq_true rfl) ?_
 simp only [CU.a4, CU.o]
 have hlb := hb.len
 have x1 : (twoC a b).all AVal.one = true := rfl
 have x2 : (AVal.agg (twoC a b)).cells = twoC a b := rfl
 simp -dsimp only [↓WPd,↓Zm,↓Zn,WPu,Za,Zb,Zc,Zd,Ze,Zf,Zg,Zh,Nat.reduceEqDiff,Nat.reduceLT,Zi,Zj,Zk,Zl,Nat.reduceBEq,WPm,x1,x2]
 have oq : (([] : Store) ++ [AObj.cells (twoC a b)])[([] : Store).length]? = some (.cells (twoC a b)) := by simp
 generalize ([] : Store).length = iq at oq
 generalize ([] : Store) ++ [AObj.cells (twoC a b)] = σ0 at oq
 refine calledW_of (maps18_ok 0 σ0 bv bs (hb.in σ0) hb.small (by omega)) ?_
 rintro r σ1 ⟨id,mid,vs,rid,A,rfl,hh,hrf,g1,-,-,-,-⟩
 have hw := hh.wf
 have hs : Same (bindsH [] bs) (bindsR [] bs) := Same.nil.binds bs
 have hlen := bindsR_len bs []
 simp only [List.length_nil] at hlen
 have hHl := hs.len
 have hwr := hs.wfr
 generalize bindsH [] bs = H at *
 generalize bindsR [] bs = R at *
 have oq1 := g1.get oq
 have p0 : aaddrV 2 2 (.ptr iq 0) (.int .i64 0) = some (.ptr iq 0) := rfl
 have p1 : aaddrV 2 2 (.ptr iq 0) (.int .i64 1) = some (.ptr iq 2) := rfl
 have pf : faddrV 0 (.ptr iq 0) = some (.ptr iq 0) := rfl
 simp -dsimp only [↓WPd,↓Zm,↓Zn,WPu,Za,Zb,Zc,Zd,Ze,Zf,Zg,Zh,Nat.reduceEqDiff,Nat.reduceLT,Zi,Zj,Zk,Zl,Nat.reduceBEq,WPm,List.getElem?_cons_zero,List.getElem?_cons_succ,p0,p1,two0 oq1,two2 oq1]
 refine calledW_of (path_ok 0 σ1 (.ptr id 0) H hw (by omega) a b hh.v) ?_
 rintro r2 σ2 ⟨g2,u,ok,rfl,hok,hno,hyes⟩
 have oq2 := g2.get oq1
 simp -dsimp only [↓WPd,↓Zm,↓Zn,WPu,Za,Zb,Zc,Zd,Ze,Zf,Zg,Zh,Nat.reduceEqDiff,Nat.reduceLT,Zi,Zj,Zk,Zl,Nat.reduceBEq,WPm,List.getElem?_cons_zero,List.getElem?_cons_succ,p0,p1,two0 oq2,two2 oq2]
 have r2 := hrf.grow g2
 refine calledW_of (rpath_ok 0 σ2 (.ptr rid 0) R hwr (by omega) a b r2.v) ?_
 rintro r3 σ3 ⟨g3,q,yes,rfl,hyok,hqno,hqyes⟩
 have oq3 := g3.get oq2
 have eoy : ok = yes := by rw [Bool.eq_iff_iff,hok,hyok,hs.rea]
 subst eoy
 obtain ⟨pl,po,fu,sq,hpl⟩ : ∃ pl : List Nm,PO σ2 2 u (NN pl) ∧ Fresh σ1.length u ∧ SlOf σ3 2 q (NN pl) ∧ pl.length < 2 ^ 38 := by
  cases ok with
  | false =>
   rw [hno rfl,hqno rfl]
   exact ⟨[],.inl ⟨Own.nil _ _,trivial⟩,Fresh.nil _,SlOf.nil _ _,by simp⟩
  | true =>
   obtain ⟨p,po,fu,pa,hp⟩ := hyes rfl
   obtain ⟨p',sq,L',n',j',hj',e1',nd',t1',ln'⟩ := hqyes rfl
   obtain ⟨L,n,j,hj,e1,nd,t1,ln⟩ := pa.lin
   have e2' : L' = itL H [a] n' := by rw [e1',hs.itL]
   have : p = p' := Lin.same e1 e2' nd nd' ln (hs.lin ln') hj hj' t1 t1'
   subst this
   exact ⟨p,po,fu,sq,hp⟩
 simp -dsimp only [↓WPd,↓Zm,↓Zn,WPu,Za,Zb,Zc,Zd,Ze,Zf,Zg,Zh,Nat.reduceEqDiff,Nat.reduceLT,Zi,Zj,Zk,Zl,Nat.reduceBEq,WPm,List.getElem?_cons_zero,List.getElem?_cons_succ,p0,p1,pf,two1 oq3]
 refine calledW_of (foreign_ok 0 σ3 a.1 lv l (hl σ3) (by omega)) ?_
 rintro f σ4 ⟨g4,pof,ff⟩
 have oq4 := g4.get oq3
 simp -dsimp only [↓WPd,↓Zm,↓Zn,WPu,Za,Zb,Zc,Zd,Ze,Zf,Zg,Zh,Nat.reduceEqDiff,Nat.reduceLT,Zi,Zj,Zk,Zl,Nat.reduceBEq,WPm]
 refine drawnP_of rfl ?_
 simp -dsimp only [↓WPd,↓Zm,↓Zn,WPu,Za,Zb,Zc,Zd,Ze,Zf,Zg,Zh,Nat.reduceEqDiff,Nat.reduceLT,Zi,Zj,Zk,Zl,Nat.reduceBEq,↓WPed,WPeu,Nat.reduceAdd,and_self]
 refine isoW_bool live18_ran ?_
 simp -dsimp only [↓WPd,↓Zm,↓Zn,WPu,Za,Zb,Zc,Zd,Ze,Zf,Zg,Zh,Nat.reduceEqDiff,Nat.reduceLT,Zi,Zj,Zk,Zl,Nat.reduceBEq,↓WPed,WPeu,Nat.reduceAdd,and_self,Bool.not_true]
 refine calledW_of (msamenames_ok 0 σ4 u q pl (by omega) (po.sl.grow (g3.trans g4)) (sq.grow g4)) ?_
 rintro r5 σ5 ⟨rfl,rfl⟩
 have g24 := g3.trans g4
 have bb : ∀ c : Bool,(!c == c) = false := fun c => by cases c <;> rfl
 simp -dsimp only [↓WPd,↓Zm,↓Zn,WPu,Za,Zb,Zc,Zd,Ze,Zf,Zg,Zh,Nat.reduceEqDiff,Nat.reduceLT,Zi,Zj,Zk,Zl,Nat.reduceBEq,↓WPed,WPeu,Nat.reduceAdd,and_self,Bool.not_true,bb,p0,two0 oq4]
 refine calledW_of (cyclic_ok 0 σ5 (.ptr id 0) H hw (by omega) a (hh.grow (g2.trans g24)).v) ?_
 rintro r6 σ6 ⟨g6,c1,rfl,hc1⟩
 have oq6 := g6.get oq4
 simp -dsimp only [↓WPd,↓Zm,↓Zn,WPu,Za,Zb,Zc,Zd,Ze,Zf,Zg,Zh,Nat.reduceEqDiff,Nat.reduceLT,Zi,Zj,Zk,Zl,Nat.reduceBEq,↓WPed,WPeu,Nat.reduceAdd,and_self,p0,two0 oq4,two0 oq6]
 refine calledW_of (rcyclic_ok 0 σ6 (.ptr rid 0) R hwr (by omega) a ((r2.grow g24).grow g6).v) ?_
 rintro r7 σ7 ⟨g7,c2,rfl,hc2⟩
 have ecc : c1 = c2 := cyc_one hc1 (hs.cyc hc2)
 subst ecc
 have oq7 := g7.get oq6
 simp -dsimp only [↓WPd,↓Zm,↓Zn,WPu,Za,Zb,Zc,Zd,Ze,Zf,Zg,Zh,Nat.reduceEqDiff,Nat.reduceLT,Zi,Zj,Zk,Zl,Nat.reduceBEq,↓WPed,WPeu,Nat.reduceAdd,and_self,bb,p0,pf,two1 oq7]
 refine calledW_of (rforeign_ok 0 σ7 a.1 lv l (hl σ7) (by omega)) ?_
 rintro f8 σ8 ⟨g8,s8⟩
 have g48 := (g6.trans g7).trans g8
 have hfl : (forN a.1 l).length ≤ l.length := List.length_filter_le _ _
 have hrl := risD_len (forN a.1 l) []
 simp only [List.length_nil,Nat.zero_add] at hrl
 simp -dsimp only [↓WPd,↓Zm,↓Zn,WPu,Za,Zb,Zc,Zd,Ze,Zf,Zg,Zh,Nat.reduceEqDiff,Nat.reduceLT,Zi,Zj,Zk,Zl,Nat.reduceBEq,↓WPed,WPeu,Nat.reduceAdd,and_self]
 refine calledW_of (msamenames_ok 0 σ8 f f8 (risD [] (forN a.1 l)) (by omega) (pof.sl.grow g48) s8) ?_
 rintro r9 σ9 ⟨rfl,rfl⟩
 have e5 : fillA [AVal.nilslice,.nilslice,.nilslice,.nilslice,.nilslice] [] = some [AVal.nilslice,.nilslice,.nilslice,.nilslice,.nilslice] := rfl
 have e6 : [AVal.nilslice,.nilslice,.nilslice,.nilslice,.nilslice].all AVal.one = true := rfl
 simp -dsimp only [↓WPd,↓Zm,↓Zn,WPu,Za,Zb,Zc,Zd,Ze,Zf,Zg,Zh,Nat.reduceEqDiff,Nat.reduceLT,Zi,Zj,Zk,Zl,Nat.reduceBEq,↓WPed,WPeu,Nat.reduceAdd,and_self,Bool.not_true,e5,e6,cells_agg]
 have gb : Grows σ9 (σ9 ++ [AObj.cells [.nilslice,.nilslice,.nilslice,.nilslice,.nilslice]]) := Grows.app _ _
 have bk0 : BookQ .nilslice .nilslice .nilslice .nilslice 0 (σ9 ++ [AObj.cells [.nilslice,.nilslice,.nilslice,.nilslice,.nilslice]]) σ9.length .nilslice [] [] := ⟨by simp,QRows.nil _ _ _⟩
 have lb : σ9.length < (σ9 ++ [AObj.cells [.nilslice,.nilslice,.nilslice,.nilslice,.nilslice]]).length := by simp
 generalize σ9 ++ [AObj.cells [.nilslice,.nilslice,.nilslice,.nilslice,.nilslice]] = σb at gb bk0 lb
 generalize hib : σ9.length = ib at bk0 lb
 have g4b := g48.trans gb
 have pu := po.grow (g24.trans g4b)
 have pfb := pof.grow g4b
 have tu : ∀ j,u.sid = some j → j < σ2.length := fun j hj => po.sl.lt hj
 have tf : ∀ j,f.sid = some j → σ3.length ≤ j ∧ j < σ5.length := fun j hj => ⟨ff j hj,pof.sl.lt hj⟩
 have q23 := g3.1
 have q4i : σ5.length ≤ ib := by rw [← hib]; exact g48.1
 refine calledW_of (takeq_ok 0 σb _ _ _ _ 0 ib .nilslice u [] [] pl bk0 pu (fun j _ => Nat.zero_le _) (Nat.zero_le _) (by simp) (fun j _ h => by cases h) (fun i x j h => by simp at h)) ?_
 rintro r17 σ17 ⟨k17,w17,bk17,s17⟩
 have out17 : ∀ j,j < ib → ¬ (j = ib ∨ AVal.nilslice.sid = some j) := fun j hj e => by
  rcases e with e | e
  ·omega
  ·cases e
 have w17' : ∀ j,w17.sid = some j → ib < j := fun j hj => by
  rcases s17 j hj with e | e
  ·cases e
  ·omega
 simp -dsimp only [↓WPd,↓Zm,↓Zn,WPu,Za,Zb,Zc,Zd,Ze,Zf,Zg,Zh,Nat.reduceEqDiff,Nat.reduceLT,Zi,Zj,Zk,Zl,Nat.reduceBEq,WPm]
 have pf17 := pfb.keeps k17 fun j hj => out17 j (by have := tf j hj; omega)
 refine calledW_of (takeq_ok 0 σ17 _ _ _ _ 0 ib w17 f ([] ++ [u]) ([] ++ [pl]) (risD [] (forN a.1 l)) bk17 pf17 (fun j _ => Nat.zero_le _) (Nat.zero_le _) (by simp) (fun j hj e => by have := tf j hj; have := w17' j e; omega) (fun i x j hx hj e => by
  have : x = u := by
   cases i with
   | zero => simpa using hx.symm
   | succ i => simp at hx
  subst this
  have := tu j e; have := tf j hj; omega)) ?_
 rintro r18 σ18 ⟨k18,w18,bk18,s18⟩
 simp -dsimp only [↓WPd,↓Zm,↓Zn,WPu,Za,Zb,Zc,Zd,Ze,Zf,Zg,Zh,Nat.reduceEqDiff,Nat.reduceLT,Zi,Zj,Zk,Zl,Nat.reduceBEq,WPm]
 refine calledW_of (aloneqm_ok 0 σ18 0 ib w18 _ _ bk18 (by simp) (fun x hx => ?_)) ?_
 ·simp only [List.nil_append,List.cons_append,List.mem_cons,List.not_mem_nil,or_false] at hx
  rcases hx with rfl | rfl
  ·exact hpl
  ·omega
 rintro r19 σ19 ⟨rfl,-⟩
 simp -dsimp only [↓WPd,↓Zm,↓Zn,WPu,Za,Zb,Zc,Zd,Ze,Zf,Zg,Zh,Nat.reduceEqDiff,Nat.reduceLT,Zi,Zj,Zk,Zl,Nat.reduceBEq,WPm]
def lkL (ls : List (List Cel)) (i : Nat) : List Cel := ls[i]?.getD []
def isLoc (c : Cel) : Bool := decide (c.k = 4) && decide (c.v.1 = -1)
def badT (l : List Cel) : Bool := decide (l ≠ []) && !right l
def putB (t : List Cel) (ls : List (List Cel)) : Bool := t.any fun c => isLoc c && decide (lkL ls c.v.2.toNat = [])
def putC (ls : List (List Cel)) (c : Cel) : List Cel := if isLoc c then lkL ls c.v.2.toNat else [c]
def putO (t : List Cel) (ls : List (List Cel)) : List Cel := (t.map (putC ls)).flatten
def putE (t : List Cel) (ls : List (List Cel)) : Int := if !right t || ls.any badT then 6 else if putB t ls then 4 else if 256 < (putO t ls).length then 5 else 0
def putT (t : List Cel) (ls : List (List Cel)) : List Cel := if putE t ls = 0 then putO t ls else []
section
variable (d : Nat) (σ : Store)
def PutOk (σ σ' : Store) (r : AVal) (t : List Cel) (ls : List (List Cel)) : Prop := ∃ u,r = .tuple [u,.int .i64 (putE t ls)] ∧ Grows σ σ' ∧ Own σ' 5 u (CC (putT t ls)) ∧ Fresh σ.length u ∧ NoLit u
theorem PutOk.fail {σ σ' : Store} {t : List Cel} {ls : List (List Cel)} {e : Int} (h : putE t ls = e) (he : e ≠ 0) (g : Grows σ σ') : PutOk σ σ' (.tuple [.nilslice,.int .i64 e]) t ls :=
 ⟨.nilslice,by rw [h],g,by rw [putT,if_neg (by rw [h]; exact he)]; exact Own.nil _ _,Fresh.nil _,trivial⟩
end
section
variable (d : Nat) (σ : Store)
end
section
variable (d : Nat) (σ : Store)
end
def TT (σ : Store) (v : AVal) (ls : List (List Cel)) : Prop := ∃ es,Own σ 1 v es ∧ NoLit v ∧ Two Told es ls
theorem TT.terms {σ : Store} {v : AVal} {ls : List (List Cel)} (h : TT σ v ls) : Terms σ v ls := by
 obtain ⟨es,h1,-,h3⟩ := h
 exact ⟨es,h1.sl,h3.mono fun e t h => h σ⟩
theorem TT.grow {σ σ' : Store} {v : AVal} {ls : List (List Cel)} (h : TT σ v ls) (g : Grows σ σ') : TT σ' v ls := by
 obtain ⟨es,h1,h2,h3⟩ := h
 exact ⟨es,h1.grow g,h2,h3⟩
theorem TT.len {σ : Store} {v : AVal} {ls : List (List Cel)} (h : TT σ v ls) : lenSV v = some ls.length := h.terms.len
def TA (v : AVal) (ls : List (List Cel)) : Prop := ∃ es,(∀ σ : Store,SlOf σ 1 v es) ∧ Two Told es ls
theorem TA.terms {v : AVal} {ls : List (List Cel)} (h : TA v ls) (σ : Store) : Terms σ v ls := by
 obtain ⟨es,h1,h3⟩ := h
 exact ⟨es,h1 σ,h3.mono fun e t h => h σ⟩
theorem TT.set {σ : Store} {v : AVal} {ls : List (List Cel)} {lo j : Nat} {u : AVal} {t : List Cel} (h : TT σ v ls) (hf : Fresh lo v) (hj : j < ls.length) (hu : Told u t) : ∃ σ',storeV σ 1 (addrOf 1 v j) u = some σ' ∧ TT σ' v (ls.set j t) ∧ Keeps (fun i => lo ≤ i) σ σ' := by
 obtain ⟨es,h1,h2,h3⟩ := h
 have hj' : j < es.length := by rw [h3.len]; exact hj
 obtain ⟨e,e1,e2⟩ := h3.get hj
 have hee : es[j] = e := by rw [List.getElem?_eq_getElem hj'] at e1; exact Option.some.inj e1
 have o1 := (e2 σ).one
 have o2 := (hu σ).one
 have hc : u.cells = [u] := by cases u <;> simp_all [AVal.one]
 have hc2 : e.cells = [e] := by cases e <;> simp_all [AVal.one]
 have hr : e.reform [u] = u := by cases e <;> simp_all [AVal.one,AVal.reform]
 obtain ⟨σ',p1,p2,p3,-⟩ := h1.store h2 hj' (x := u) (by rw [hc]; simp only [List.all_cons,List.all_nil,o2]; rfl) (by rw [hc]; rfl) (by rw [hee,hc2]; rfl) (by rw [hee,hc]; exact hr)
 exact ⟨σ',p1,⟨_,p2,h2,Two.set h3 j hu⟩,p3.mono fun i _ e => hf i e⟩
section
variable (d : Nat) (σ : Store)
end
def AR (σ : Store) (aid : Nat) (ls : List (List Cel)) : Prop := ∃ es,σ[aid]? = some (.arr 1 es 0 0) ∧ Two Told es ls
theorem AR.grow {σ σ' : Store} {aid : Nat} {ls : List (List Cel)} (h : AR σ aid ls) (g : Grows σ σ') : AR σ' aid ls := by
 obtain ⟨es,h1,h2⟩ := h; exact ⟨es,g.get h1,h2⟩
theorem AR.terms {σ : Store} {aid : Nat} {ls : List (List Cel)} (h : AR σ aid ls) {N : Nat} (hN : ls.length = N) : Terms σ (.slice 1 aid 0 0 N (some N)) ls := by
 obtain ⟨es,h1,h2⟩ := h
 subst hN
 have ho : Own σ 1 (.slice 1 aid 0 0 ls.length (some ls.length)) es := ⟨.inr (.inr ⟨aid,0,0,some ls.length,es,0,0,by rw [h2.len],h1,Nat.le_refl _,by simp,fun _ => by simp,.inr (by rw [h2.len])⟩)⟩
 exact ⟨es,ho.sl,h2.mono fun e t h => h σ⟩
theorem AR.set {σ : Store} {aid : Nat} {ls : List (List Cel)} (h : AR σ aid ls) {j : Nat} (hj : j < ls.length) {u : AVal} {t : List Cel} (hu : Told u t) : ∃ σ',storeV σ 1 (.eptr aid 0 j 0) u = some σ' ∧ AR σ' aid (ls.set j t) ∧ Keeps (fun i => i = aid) σ σ' := by
 obtain ⟨es,h1,h2⟩ := h
 have hj' : j < es.length := by rw [h2.len]; exact hj
 obtain ⟨e,e1,e2⟩ := h2.get hj
 have hee : es[j] = e := by rw [List.getElem?_eq_getElem hj'] at e1; exact Option.some.inj e1
 have st := arr_store1 h1 hj' (hu σ).one (by rw [hee]; exact (e2 σ).one)
 exact ⟨_,st,⟨_,get_set h1,Two.set h2 j hu⟩,Keeps.set _ _ _⟩
section
variable (d : Nat) (σ : Store)
end
end Go.Proofs.YtelpjaejmneplaaGreatDoor.Am
namespace Go.Proofs.YtelpjaejmneplaaGreatDoor.Am
open Go Go.RowKit Go.ChangeShapes Go.WideShapes Go.ChangeAt Go.Proofs.YtelpjaejmneplaaGreatDoor.Rows
section
variable {H : Type}
theorem names_rd {n : Nat} {d : DataW H} (h : Typed Tryz.prog (n + 3) 23 d) (hb : uptoBulk d ≤ 1048576) : ∃ fr : List Nm,(∀ σ : Store,SlOf σ 2 (argV Tryz.prog (n + 3) 23 d) (NN fr)) ∧ fr.length ≤ uptoBulk d := by
 rcases slice_of Tryz.underlying23 h with rfl | ⟨ds,rest,rfl,hd,ha,hb2⟩
 ·exact ⟨[],fun σ => by rw [argV_nil Tryz.underlying23]; exact SlOf.nil σ 2,Nat.zero_le _⟩
 ·obtain ⟨xs,h1,h2,h3,h4⟩ := list_of (R := fun a (v : Nm) => a = nmV v) (size := fun _ => 0) (fun d h => by
   obtain ⟨v,a1,a2⟩ := name_at (n := n) h
   exact ⟨v,by rw [struct_argV Tryz.underlying49,a1]; rfl,Nat.zero_le _⟩) ds hd
  have e : (ds.map fun x => argV Tryz.prog (n + 2) 49 x) = NN xs := by
   refine List.ext_getElem? fun i => ?_
   by_cases hi : i < ds.length
   ·have e1 : (ds.map fun x => argV Tryz.prog (n + 2) 49 x)[i]? = some (argV Tryz.prog (n + 2) 49 ds[i]) := by simp [List.getElem?_eq_getElem hi]
    have e2 : xs[i]? = some (xs[i]'(by omega)) := List.getElem?_eq_getElem (by omega)
    rw [e1,h2 i _ _ e1 e2,List.getElem?_map,e2]; rfl
   ·rw [List.getElem?_eq_none (by simp; omega),List.getElem?_eq_none (by simp; omega)]
  refine ⟨xs,fun σ => ?_,by omega⟩
  rw [ha,e]; exact SlOf.fs _ _ _ _ _
end
section
variable {H : Type}
theorem array_of {P : Program} {n m : Nat} {t e : TypeId} (ht : P.underlying t = some (.array m e)) {d : DataW H} (h : Typed P (n + 1) t d) :
  ∃ ds,d = .agg ds ∧ ds.length = m ∧ (∀ x ∈ ds,Typed P n e x) ∧ argV P (n + 1) t d = .agg (ds.map fun x => dec P n e x).flatten ∧ uptoBulkAll ds + 1 ≤ uptoBulk d := by
 have ha : aggB P t = true := by simp [aggB,ht]
 unfold Typed at h
 rw [ht] at h
 obtain ⟨ds,rfl,h1,h2⟩ := h
 refine ⟨ds,rfl,h1,h2,?_,by simp only [uptoBulk]; omega⟩
 unfold argV elv
 rw [ha,if_pos rfl]
 conv => lhs; unfold dec
 rw [ht]
end
theorem names2_rd {H : Type} {n : Nat} {d : DataW H} (h : Typed Tryz.prog (n + 3) 50 d) : ∃ a b : Nm,argV Tryz.prog (n + 3) 50 d = .agg [.int .i64 a.1,.int .i64 a.2,.int .i64 b.1,.int .i64 b.2] := by
 obtain ⟨ds,rfl,hl,hty,ha,hsum⟩ := array_of Tryz.underlying50 h
 match ds,hl with
 | [x,y],_ =>
  obtain ⟨a,a1,-⟩ := name_at (n := n) (hty x (by simp))
  obtain ⟨b,b1,-⟩ := name_at (n := n) (hty y (by simp))
  refine ⟨a,b,?_⟩
  rw [ha]
  simp only [List.map_cons,List.map_nil,List.flatten_cons,List.flatten_nil,a1,b1]
  rfl
end Go.Proofs.YtelpjaejmneplaaGreatDoor.Am
