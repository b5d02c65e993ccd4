/-
  The abstract machine and the functions of the law, 10: texts put together.
-/
import Derived.Test.YtelpjaejmneplaaDoorReachWaysPkH
import Derived.Test.YtelpjaejmneplaaDoorReachWaysPkF
import Derived.Test.YtelpjaejmneplaaDoorReachWaysPkI
set_option linter.unusedVariables false
set_option linter.unusedSimpArgs false
set_option linter.unusedSectionVars false
set_option maxRecDepth 100000
namespace Go.Proofs.YtelpjaejmneplaaDoor.Am
open Go
def BdIn (σ : Store) (v : AVal) (bs : Hp) : Prop := ∃ es,SlOf σ 3 v es ∧ Two (fun e p => ∃ u,e = bdV p.1 u ∧ Told u p.2) es bs
theorem BdArg.in {v : AVal} {bs : Hp} (h : BdArg v bs) (σ : Store) : BdIn σ v bs := by
 obtain ⟨es,h1,h2⟩ := h.row
 exact ⟨es,h1 σ,h2⟩
theorem BdIn.len {σ : Store} {v : AVal} {bs : Hp} (h : BdIn σ v bs) : lenSV v = some bs.length := by
 obtain ⟨es,h1,h2⟩ := h
 rw [← h2.len]; exact h1.len
theorem BdIn.grow {σ σ' : Store} {v : AVal} {bs : Hp} (h : BdIn σ v bs) (g : Grows σ σ') : BdIn σ' v bs := by
 obtain ⟨es,h1,h2⟩ := h
 exact ⟨es,h1.grow g,h2⟩
theorem BdIn.keepM {σ σ' : Store} {v : AVal} {bs : Hp} {j : Nat} {ks vs : List AVal} (h : BdIn σ v bs) (hm : σ[j]? = some (.map ks vs)) (k : Keeps (fun i => i = j) σ σ') : BdIn σ' v bs := by
 obtain ⟨es,h1,h2⟩ := h
 exact ⟨es,h1.keeps k fun i hi e => h1.noMap hm (e ▸ hi),h2⟩
theorem BdIn.keepC {σ σ' : Store} {v : AVal} {bs : Hp} {j : Nat} {cs : List AVal} (h : BdIn σ v bs) (hm : σ[j]? = some (.cells cs)) (k : Keeps (fun i => i = j) σ σ') : BdIn σ' v bs := by
 obtain ⟨es,h1,h2⟩ := h
 exact ⟨es,h1.keeps k fun i hi e => h1.noCell hm (e ▸ hi),h2⟩
theorem BdIn.at {σ : Store} {v : AVal} {bs : Hp} (h : BdIn σ v bs) {k : Nat} (hk : k < bs.length) : ∃ q0 q2 u,iaddrV 3 v (.int .i64 k) = some (addrOf 3 v k) ∧ faddrV 0 (addrOf 3 v k) = some q0 ∧ loadV σ 2 true q0 = some (nmV bs[k].1) ∧ faddrV 2 (addrOf 3 v k) = some q2 ∧ loadV σ 1 false q2 = some u ∧ Told u bs[k].2 := by
 obtain ⟨es,h1,h2⟩ := h
 have hke : k < es.length := by rw [h2.len]; exact hk
 obtain ⟨e,he1,u,he2,he3⟩ := h2.get hk
 have hee : es[k] = e := by rw [List.getElem?_eq_getElem hke] at he1; exact Option.some.inj he1
 have hb := (h1.addr hke .i64).2
 rw [hee,he2] at hb
 have hb' : behind σ (addrOf 3 v k) = some (bdC (bs[k]).1 u,0) := hb
 obtain ⟨q0,p0,b0⟩ := faddr_at hb' 0
 obtain ⟨q2,p2,b2⟩ := faddr_at hb' 2
 exact ⟨q0,q2,u,h1.iaddr hke .i64,p0,loadN_at b0 (by simp [bdC]),p2,load_at b2,he3⟩
section
variable (d : Nat) (σ : Store)
set_option maxHeartbeats 1000000 in
theorem maps18_ok (bv : AVal) (bs : Hp) (h : BdIn σ bv bs) (hsm : ∀ p ∈ bs,Small p.2) (hlt : bs.length < 2 ^ 27) : Called CU.cfg d 7 [bv] σ fun v σ' => ∃ id mid vs rid A,v = .tuple [.ptr id 0,.ptr rid 0] ∧ HeapP σ' id mid vs (bindsH [] bs) ∧ RefP σ' A rid (bindsR [] bs) ∧ Grows σ σ' ∧ (σ.length ≤ id ∧ σ.length ≤ mid ∧ σ.length ≤ rid ∧ ∀ i,A i → σ.length ≤ i) ∧ id ≠ rid ∧ mid ≠ rid ∧ id ≠ mid := by
 refine called_of (fn := CU.a7) rfl (Nat.le_of_ble_eq_true rfl) ?_
 simp only [CU.a7, CU.o]
 have lb := h.len
 simp -dsimp only [↓WPd,↓Zm,↓Zn,WPu,Za,Zb,Zc,Zd,Ze,Zf,Zg,Zh,Nat.reduceEqDiff,Nat.reduceLT,Zi,Zj,Zk,Zl,Nat.reduceBEq]
 refine calledW_of (hnew_ok d σ) ?_
 rintro r σ1 ⟨id,mid,rfl,h1,g1,l1,l2,m1,m2⟩
 simp -dsimp only [↓WPd,↓Zm,↓Zn,WPu,Za,Zb,Zc,Zd,Ze,Zf,Zg,Zh,Nat.reduceEqDiff,Nat.reduceLT,Zi,Zj,Zk,Zl,Nat.reduceBEq]
 refine calledW_of (rnew_ok d σ1) ?_
 rintro r σ2 ⟨rid,rfl,r2,g2,l3,m3⟩
 have hm : id ≠ mid := fun e => by have a := h1.obj; rw [e,h1.map] at a; cases a
 simp -dsimp only [↓WPd,↓Zm,↓Zn,WPu,Za,Zb,Zc,Zd,Ze,Zf,Zg,Zh,Nat.reduceEqDiff,Nat.reduceLT,Zi,Zj,Zk,Zl,Nat.reduceBEq]
 refine loop_rule2 (fun m vs σ' => ∃ k ws A,k ≤ bs.length ∧ m = bs.length - k ∧ vs = [bv,.ptr id 0,.ptr rid 0,.int .i64 (k : Nat)] ∧ HeapP σ' id mid ws (bindsH [] (bs.take k)) ∧ RefP σ' A rid (bindsR [] (bs.take k)) ∧ (∀ i,A i → σ2.length ≤ i) ∧ Grows σ σ' ∧ σ2.length ≤ σ'.length ∧ BdIn σ' bv bs)
  [4,5] (fun e vs σ' => e = .exit 0 ∧ ∃ ws A,vs = [.ptr id 0,.ptr rid 0] ∧ HeapP σ' id mid ws (bindsH [] bs) ∧ RefP σ' A rid (bindsR [] bs) ∧ (∀ i,A i → σ2.length ≤ i) ∧ Grows σ σ') bs.length
  ⟨0,[],_,Nat.zero_le _,rfl,?_,h1.grow g2,r2,(fun i h => h.elim),g1.trans g2,Nat.le_refl _,h.grow (g1.trans g2)⟩ ?_ ?_
 ·simp -dsimp only [↓WPd,↓Zm,↓Zn,WPu,Za,Zb,Zc,Zd,Ze,Zf,Zg,Zh,Nat.reduceEqDiff,Nat.reduceLT,Zi,Zj,Zk,Zl,Nat.reduceBEq]; rfl
 ·rintro m vs σ' ⟨k,ws,A,hk,rfl,rfl,hh,hr,hA,g,hl,hb⟩
  simp -dsimp only [↓WPd,↓Zm,↓Zn,WPu,Za,Zb,Zc,Zd,Ze,Zf,Zg,Zh,Nat.reduceEqDiff,Nat.reduceLT,Zi,Zj,Zk,Zl,Nat.reduceBEq,lb]
  refine condP_dec (fun hc => ?_) (fun hc => ?_)
  ·have hk' : k < bs.length := by omega
   obtain ⟨q0,q2,u,a1,a2,a3,a4,a5,a6⟩ := hb.at hk'
   have hsm := hsm _ (List.getElem_mem hk')
   simp -dsimp only [↓WPd,↓Zm,↓Zn,WPu,Za,Zb,Zc,Zd,Ze,Zf,Zg,Zh,Nat.reduceEqDiff,Nat.reduceLT,Zi,Zj,Zk,Zl,Nat.reduceBEq,a1,a2,a3,a4,a5]
   refine calledW_of (hbind_ok d σ' id mid ws _ bs[k].1 u bs[k].2 hh hsm (a6 σ')) ?_
   rintro r3 σ3 ⟨-,⟨ws3,h3⟩,k3⟩
   have hb3 := hb.keepM hh.map k3
   obtain ⟨q0',q2',u',b1,b2,b3,b4,b5,b6⟩ := hb3.at hk'
   have hr3 : RefP σ3 A rid (bindsR [] (bs.take k)) := by
    refine hr.keeps k3 (by omega) fun i hi ha => ⟨ha,fun e => ?_⟩
    have := hA i ha
    have := g2.1
    omega
   have hRl := bindsR_len (bs.take k) []
   have htk : (bs.take k).length ≤ bs.length := by simp; omega
   simp -dsimp only [↓WPd,↓Zm,↓Zn,WPu,Za,Zb,Zc,Zd,Ze,Zf,Zg,Zh,Nat.reduceEqDiff,Nat.reduceLT,Zi,Zj,Zk,Zl,Nat.reduceBEq,b1,b2,b3,b4,b5]
   refine calledW_of (rbind_ok d σ3 A rid _ bs[k].1 u' bs[k].2 hr3 (by simp only [List.length_nil] at hRl; omega) hsm.1 (b6 σ3)) ?_
   rintro r4 σ4 ⟨-,r4',k4⟩
   have hb4 : BdIn σ4 bv bs := by
    obtain ⟨w,w1,-⟩ := hr3.bds
    exact hb3.keepC w1 k4
   have ht : bs.take (k + 1) = bs.take k ++ [bs[k]] := List.take_succ_eq_append_getElem hk'
   simp -dsimp only [↓WPd,↓Zm,↓Zn,WPu,Za,Zb,Zc,Zd,Ze,Zf,Zg,Zh,Nat.reduceEqDiff,Nat.reduceLT,Zi,Zj,Zk,Zl,Nat.reduceBEq]
   refine ⟨bs.length - (k + 1),by omega,k + 1,ws3,(fun i => A i ∨ σ3.length ≤ i),by omega,rfl,by rw [wrap_i64 (by omega) (by omega),Int.natCast_add,Int.natCast_one],?_,?_,?_,?_,by have := k3.1; have := k4.1; omega,hb4⟩
   ·rw [ht,bindsH_snoc]; exact h3.keeps k4 (by omega) (by omega)
   ·rw [ht,bindsR_snoc]; exact r4'
   ·rintro i (ha | ha)
    ·exact hA i ha
    ·have := k3.1; omega
   ·exact Keeps.trans (Keeps.trans g k3 fun i hi e => by omega) k4 fun i hi e => by have := g1.1; omega
  ·have : k = bs.length := by omega
   subst this
   rw [List.take_length] at hh hr
   simp -dsimp only [↓WPd,↓Zm,↓Zn,WPu,Za,Zb,Zc,Zd,Ze,Zf,Zg,Zh,Nat.reduceEqDiff,Nat.reduceLT,Zi,Zj,Zk,Zl,Nat.reduceBEq]
   exact ⟨ws,A,hh,hr,hA,g⟩
 ·rintro e σ' env ⟨rfl,ws,A,hv,hh,hr,hA,g⟩
  simp only [List.map_cons,List.map_nil,List.cons.injEq,and_true] at hv
  obtain ⟨v4,v5⟩ := hv
  simp -dsimp only [↓WPd,↓Zm,↓Zn,WPu,Za,Zb,Zc,Zd,Ze,Zf,Zg,Zh,Nat.reduceEqDiff,Nat.reduceLT,Zi,Zj,Zk,Zl,Nat.reduceBEq,v4,v5]
  have := g1.1
  exact ⟨id,mid,ws,rid,A,rfl,hh,hr,g,⟨m1,m2,by omega,fun i ha => by have := hA i ha; have := g2.1; omega⟩,by omega,by omega,hm⟩
end
set_option maxHeartbeats 4000000 in
theorem ways_run (bv rv : AVal) (v : Nm) (bs : Hp) (rs : List Nm) (hb : BdArg bv bs) (hr : ∀ σ : Store,SlOf σ 2 rv (NN rs)) (l0 : rs.length < 2 ^ 30) :
  Called CU.cfg 0 3 [bv,rv,nmV v] [] fun v _ => v = .bool true := by
 refine called_of (fn := CU.a3) rfl (Nat.le_of_ble_eq_true rfl) ?_
 simp only [CU.a3, CU.o]
 have hlb := hb.len
 simp -dsimp only [↓WPd,↓Zm,↓Zn,WPu,Za,Zb,Zc,Zd,Ze,Zf,Zg,Zh,Nat.reduceEqDiff,Nat.reduceLT,Zi,Zj,Zk,Zl,Nat.reduceBEq,WPm,nm_cells,nm_one]
 have ov : (([] : Store) ++ [AObj.cells (nmC v)])[([] : Store).length]? = some (.cells (nmC v)) := by simp
 generalize ([] : Store).length = iv at ov
 generalize ([] : Store) ++ [AObj.cells (nmC v)] = σ0 at ov
 refine isoW_bool live18_ran ?_
 simp -dsimp only [↓WPd,↓Zm,↓Zn,WPu,Za,Zb,Zc,Zd,Ze,Zf,Zg,Zh,Nat.reduceEqDiff,Nat.reduceLT,Zi,Zj,Zk,Zl,Nat.reduceBEq,WPm]
 refine calledW_of (maps18_ok 0 σ0 bv bs (hb.in σ0) hb.small (by omega)) ?_
 rintro r σ1 ⟨id,mid,vs,rid,A,rfl,hh,-,g1,-,-,-,-⟩
 have hw := hh.wf
 have hlen := bindsR_len bs []
 have hs : Same (bindsH [] bs) (bindsR [] bs) := Same.nil.binds bs
 simp only [List.length_nil] at hlen
 have hHl := hs.len
 have ov1 := g1.get ov
 generalize bindsH [] bs = H at *
 simp -dsimp only [↓WPd,↓Zm,↓Zn,WPu,Za,Zb,Zc,Zd,Ze,Zf,Zg,Zh,Nat.reduceEqDiff,Nat.reduceLT,Zi,Zj,Zk,Zl,Nat.reduceBEq,WPm,List.getElem?_cons_zero,List.getElem?_cons_succ,isnil_ptr]
 refine loop_rule2 (fun m xs σ' => ∃ (k : Nat) (some_ : Bool),k ≤ rs.length ∧ m = rs.length - k ∧ xs = [rv,.ptr iv 0,.ptr id 0,.bool some_,.int .i64 (k : Nat)] ∧ Grows σ1 σ' ∧ (some_ = true ↔ ∃ r ∈ rs.take k,Rea H [r] v))
  [1,5,7,9] (fun e xs σ' => e = .exit 0 ∧ ∃ some_ : Bool,xs = [rv,.ptr iv 0,.ptr id 0,.bool some_] ∧ Grows σ1 σ' ∧ (some_ = true ↔ ∃ r ∈ rs,Rea H [r] v)) rs.length
  ⟨0,false,Nat.zero_le _,rfl,?_,Keeps.refl _ _,by simp⟩ ?_ ?_
 ·simp -dsimp only [↓WPd,↓Zm,↓Zn,WPu,Za,Zb,Zc,Zd,Ze,Zf,Zg,Zh,Nat.reduceEqDiff,Nat.reduceLT,Zi,Zj,Zk,Zl,Nat.reduceBEq]; rfl
 ·rintro m xs σ' ⟨k,sm,hk,rfl,rfl,g,hsm⟩
  have lr := (hr σ').len
  rw [List.length_map] at lr
  simp -dsimp only [↓WPd,↓Zm,↓Zn,WPu,Za,Zb,Zc,Zd,Ze,Zf,Zg,Zh,Nat.reduceEqDiff,Nat.reduceLT,Zi,Zj,Zk,Zl,Nat.reduceBEq,lr]
  refine condP_dec (fun hc => ?_) (fun hc => ?_)
  ·have hk' : k < rs.length := by omega
   obtain ⟨n1,n2⟩ := names_at (hr σ') hk'
   have hex : (∃ r ∈ rs.take (k + 1),Rea H [r] v) ↔ (∃ r ∈ rs.take k,Rea H [r] v) ∨ Rea H [rs[k]] v := by
    rw [List.take_succ_eq_append_getElem hk']
    constructor
    ·rintro ⟨r,hr,h⟩
     rcases List.mem_append.1 hr with hr | hr
     ·exact .inl ⟨r,hr,h⟩
     ·simp at hr; subst hr; exact .inr h
    ·rintro (⟨r,hr,h⟩ | h)
     ·exact ⟨r,List.mem_append.2 (.inl hr),h⟩
     ·exact ⟨_,List.mem_append.2 (.inr (by simp)),h⟩
   simp -dsimp only [↓WPd,↓Zm,↓Zn,WPu,Za,Zb,Zc,Zd,Ze,Zf,Zg,Zh,Nat.reduceEqDiff,Nat.reduceLT,Zi,Zj,Zk,Zl,Nat.reduceBEq,WPm,n1,n2,load_nm (g.get ov1)]
   refine calledW_of (path_ok 0 σ' (.ptr id 0) H hw (by omega) rs[k] v (hh.grow g).v) ?_
   rintro r σ2 ⟨g2,u,ok,rfl,h1,h2,h3⟩
   cases ok with
   | false =>
    have hn : ¬ Rea H [rs[k]] v := fun h => by have := h1.2 h; cases this
    rw [h2 rfl]
    have ln : lenSV .nilslice = some 0 := rfl
    have z0 : (((0 : Nat) : Int) != 0) = false := rfl
    simp -dsimp only [↓WPd,↓Zm,↓Zn,WPu,Za,Zb,Zc,Zd,Ze,Zf,Zg,Zh,Nat.reduceEqDiff,Nat.reduceLT,Zi,Zj,Zk,Zl,Nat.reduceBEq,WPm,List.getElem?_cons_zero,List.getElem?_cons_succ,ln,z0]
    refine ⟨rs.length - (k + 1),by omega,k + 1,sm,by omega,rfl,by rw [wrap_i64 (by omega) (by omega),Int.natCast_add,Int.natCast_one],g.trans g2,?_⟩
    rw [hex,hsm]
    exact ⟨.inl,fun h => h.resolve_right hn⟩
   | true =>
    obtain ⟨p,op,fp,hp,hpl⟩ := h3 rfl
    have hpos : 0 < p.length := by
     cases p with
     | nil => have := hp.head; simp at this
     | cons a r => simp
    have lp := op.sl.len
    rw [List.length_map] at lp
    have hp0 : p[0] = rs[k] := by
     have := hp.head
     rw [List.head?_eq_getElem?,List.getElem?_eq_getElem hpos] at this
     exact Option.some.inj this
    have hpn : p[p.length - 1]'(by omega) = v := by
     have := hp.last
     rw [List.getLast?_eq_getElem?,List.getElem?_eq_getElem (by omega)] at this
     exact Option.some.inj this
    obtain ⟨a1,a2⟩ := names_at op.sl hpos
    obtain ⟨b1,b2⟩ := names_at op.sl (show p.length - 1 < p.length by omega)
    rw [hp0] at a2
    rw [hpn] at b2
    have c1 : (((p.length : Nat) : Int) == 0) = false := by rw [beq_eq_false_iff_ne]; omega
    have a0 : iaddrV 2 u (.int .i64 0) = some (addrOf 2 u 0) := a1
    have n2' := (names_at (hr σ2) hk').2
    have w0 := load_nm (g2.get (g.get ov1))
    have c2 : IntKind.i64.wrap ((p.length : Int) - 1) = ((p.length - 1 : Nat) : Int) := by rw [wrap_i64 (by omega) (by omega)]; omega
    have en : ∀ x : Nm,eqsV [.i,.i] (nmV x) (nmV x) = some true := fun x => by rw [nm_eqs,decide_eq_true rfl]
    simp -dsimp only [↓WPd,↓Zm,↓Zn,WPu,Za,Zb,Zc,Zd,Ze,Zf,Zg,Zh,Nat.reduceEqDiff,Nat.reduceLT,Zi,Zj,Zk,Zl,Nat.reduceBEq,WPm,List.getElem?_cons_zero,List.getElem?_cons_succ,lp,c1,c2,n1,n2',a0,a2,b1,b2,en,w0]
    refine loop_rule2 (fun m xs σ' => ∃ j : Nat,1 ≤ j ∧ j ≤ p.length ∧ m = p.length - j ∧ xs = [rv,.ptr iv 0,.ptr id 0,.bool true,.int .i64 (k : Nat),u,.int .i64 (j : Nat)] ∧ Grows σ2 σ')
     [1,5,7,9,10] (fun e xs σ' => e = .exit 2 ∧ xs = [rv,.ptr iv 0,.ptr id 0,.bool true,.int .i64 (k : Nat)] ∧ Grows σ2 σ') (p.length - 1) ⟨1,Nat.le_refl _,hpos,rfl,?_,Keeps.refl _ _⟩ ?_ ?_
    ·simp -dsimp only [↓WPd,↓Zm,↓Zn,WPu,Za,Zb,Zc,Zd,Ze,Zf,Zg,Zh,Nat.reduceEqDiff,Nat.reduceLT,Zi,Zj,Zk,Zl,Nat.reduceBEq]; rfl
    ·rintro m xs σ3 ⟨j,hj1,hj,rfl,rfl,g3⟩
     have lp3 := (op.grow g3).sl.len
     rw [List.length_map] at lp3
     simp -dsimp only [↓WPd,↓Zm,↓Zn,WPu,Za,Zb,Zc,Zd,Ze,Zf,Zg,Zh,Nat.reduceEqDiff,Nat.reduceLT,Zi,Zj,Zk,Zl,Nat.reduceBEq,lp3]
     refine condP_dec (fun hc => ?_) (fun hc => ?_)
     ·have hj' : j < p.length := by omega
      have ej : IntKind.i64.wrap ((j : Int) - 1) = ((j - 1 : Nat) : Int) := by rw [wrap_i64 (by omega) (by omega)]; omega
      obtain ⟨q1,q2⟩ := names_at (op.grow g3).sl (show j - 1 < p.length by omega)
      have hst := hp.step (j - 1) (by omega)
      have ej1 : j - 1 + 1 = j := by omega
      simp only [ej1] at hst
      obtain ⟨w0,hw0⟩ : ∃ w0,w0 = p[j - 1]'(by omega) := ⟨_,rfl⟩
      rw [← hw0] at q2 hst
      obtain ⟨t,hlt⟩ : ∃ t,lk H w0 = some t := by
       cases hl : lk H w0 with
       | some t => exact ⟨t,rfl⟩
       | none => unfold stepN at hst; rw [hl] at hst; simp [varsL] at hst
      have hst' : p[j] ∈ varsL [] t := by unfold stepN at hst; rw [hlt] at hst; exact hst
      have hsm' : Small t := right_small (glob_right (hw.ok _ (lk_mem hlt)).2.2.1)
      have hyes : (varsL [] t).contains p[j] = true := by simpa using hst'
      have hvl := varsL_len [] t
      have htl := hsm'.1
      simp only [List.length_nil] at hvl
      simp -dsimp only [↓WPd,↓Zm,↓Zn,WPu,Za,Zb,Zc,Zd,Ze,Zf,Zg,Zh,Nat.reduceEqDiff,Nat.reduceLT,Zi,Zj,Zk,Zl,Nat.reduceBEq,WPm,ej,q1,q2]
      refine calledW_of (hvalue_ok 0 σ3 (.ptr id 0) H w0 (((hh.grow g).grow g2).grow g3).v (by have := hw.lk_short w0; omega)) ?_
      rintro r σ4 ⟨tv,rfl,ot,-,-,g4⟩
      rw [hlt] at ot
      simp -dsimp only [↓WPd,↓Zm,↓Zn,WPu,Za,Zb,Zc,Zd,Ze,Zf,Zg,Zh,Nat.reduceEqDiff,Nat.reduceLT,Zi,Zj,Zk,Zl,Nat.reduceBEq,WPm,List.getElem?_cons_zero,List.getElem?_cons_succ,hlt,Option.isSome_some]
      refine drawnP_of rfl ?_
      obtain ⟨y1,y2⟩ := names_at (op.grow (g3.trans g4)).sl hj'
      simp -dsimp only [↓WPd,↓Zm,↓Zn,WPu,Za,Zb,Zc,Zd,Ze,Zf,Zg,Zh,Nat.reduceEqDiff,Nat.reduceLT,Zi,Zj,Zk,Zl,Nat.reduceBEq,↓WPed,WPeu,Nat.reduceAdd,and_self,WPm]
      refine calledW_of (rvarsof_ok 0 σ4 tv t hsm' ot.sl) ?_
      rintro r σ5 ⟨g5,oy⟩
      obtain ⟨z1,z2⟩ := names_at (op.grow ((g3.trans g4).trans g5)).sl hj'
      simp -dsimp only [↓WPd,↓Zm,↓Zn,WPu,Za,Zb,Zc,Zd,Ze,Zf,Zg,Zh,Nat.reduceEqDiff,Nat.reduceLT,Zi,Zj,Zk,Zl,Nat.reduceBEq,↓WPed,WPeu,Nat.reduceAdd,and_self,WPm,y1,y2,z1,z2]
      refine calledW_of (hasname_ok 0 σ5 r (varsL [] t) p[j] (by omega) oy.sl) ?_
      rintro r6 σ6 ⟨rfl,g6⟩
      obtain ⟨x1,x2⟩ := names_at (op.grow (((g3.trans g4).trans g5).trans g6)).sl hj'
      simp -dsimp only [↓WPd,↓Zm,↓Zn,WPu,Za,Zb,Zc,Zd,Ze,Zf,Zg,Zh,Nat.reduceEqDiff,Nat.reduceLT,Zi,Zj,Zk,Zl,Nat.reduceBEq,↓WPed,WPeu,Nat.reduceAdd,and_self,WPm,y1,y2,z1,z2,x1,x2,hyes]
      exact ⟨p.length - (j + 1),by omega,j + 1,by omega,by omega,rfl,by rw [wrap_i64 (by omega) (by omega),Int.natCast_add,Int.natCast_one],((g3.trans g4).trans g5).trans g6⟩
     ·simp -dsimp only [↓WPd,↓Zm,↓Zn,WPu,Za,Zb,Zc,Zd,Ze,Zf,Zg,Zh,Nat.reduceEqDiff,Nat.reduceLT,Zi,Zj,Zk,Zl,Nat.reduceBEq]
      exact g3
    ·rintro e σ3 env ⟨rfl,hv,g3⟩
     simp only [List.map_cons,List.map_nil,List.cons.injEq,and_true] at hv
     obtain ⟨v1,v5,v7,v9,v10⟩ := hv
     simp -dsimp only [↓WPd,↓Zm,↓Zn,WPu,Za,Zb,Zc,Zd,Ze,Zf,Zg,Zh,Nat.reduceEqDiff,Nat.reduceLT,Zi,Zj,Zk,Zl,Nat.reduceBEq,WPm,v1,v5,v7,v9,v10]
     refine ⟨rs.length - (k + 1),by omega,k + 1,true,by omega,rfl,by rw [wrap_i64 (by omega) (by omega),Int.natCast_add,Int.natCast_one],(g.trans g2).trans g3,?_⟩
     rw [hex]
     exact ⟨fun _ => .inr (h1.1 rfl),fun _ => rfl⟩
  ·have : k = rs.length := by omega
   subst this
   rw [List.take_length] at hsm
   simp -dsimp only [↓WPd,↓Zm,↓Zn,WPu,Za,Zb,Zc,Zd,Ze,Zf,Zg,Zh,Nat.reduceEqDiff,Nat.reduceLT,Zi,Zj,Zk,Zl,Nat.reduceBEq]
   exact ⟨sm,rfl,g,hsm⟩
 ·rintro e σ4 env ⟨rfl,sm,hv,g4,hsm⟩
  simp only [List.map_cons,List.map_nil,List.cons.injEq,and_true] at hv
  obtain ⟨v1,v5,v7,v9⟩ := hv
  simp -dsimp only [↓WPd,↓Zm,↓Zn,WPu,Za,Zb,Zc,Zd,Ze,Zf,Zg,Zh,Nat.reduceEqDiff,Nat.reduceLT,Zi,Zj,Zk,Zl,Nat.reduceBEq,WPm,v1,v5,v7,v9]
  refine drawnP_of rfl ?_
  simp -dsimp only [↓WPd,↓Zm,↓Zn,WPu,Za,Zb,Zc,Zd,Ze,Zf,Zg,Zh,Nat.reduceEqDiff,Nat.reduceLT,Zi,Zj,Zk,Zl,Nat.reduceBEq,↓WPed,WPeu,Nat.reduceAdd,and_self,v1,v5,v7,v9]
  refine calledW_of (needed_ok 0 σ4 (.ptr id 0) H hw (by omega) rv rs (hh.grow g4).v (hr σ4) (by omega)) ?_
  rintro x σ5 ⟨g5,l,ox,-,hd,hm,hll⟩
  have ov4 := load_nm (g4.get ov1)
  have ov5 := load_nm (g5.get (g4.get ov1))
  simp -dsimp only [↓WPd,↓Zm,↓Zn,WPu,Za,Zb,Zc,Zd,Ze,Zf,Zg,Zh,Nat.reduceEqDiff,Nat.reduceLT,Zi,Zj,Zk,Zl,Nat.reduceBEq,↓WPed,WPeu,Nat.reduceAdd,and_self,v1,v5,v7,v9,ov4,ov5]
  refine calledW_of (hasname_ok 0 σ5 x (sortN l) v (by rw [sortN_len]; omega) ox.sl) ?_
  rintro r6 σ6 ⟨rfl,g6⟩
  have ov6 := load_nm (g6.get (g5.get (g4.get ov1)))
  have hb : sm = (sortN l).contains v := by
   rw [Bool.eq_iff_iff,hsm]
   have : (sortN l).contains v = true ↔ v ∈ l := by simp [(sortN_perm l).mem_iff]
   rw [this,hm v,rea_roots]
  have hbb : bopV false (.bool sm) (.bool ((sortN l).contains v)) = some (.bool true) := by rw [← hb]; cases sm <;> rfl
  simp -dsimp only [↓WPd,↓Zm,↓Zn,WPu,Za,Zb,Zc,Zd,Ze,Zf,Zg,Zh,Nat.reduceEqDiff,Nat.reduceLT,Zi,Zj,Zk,Zl,Nat.reduceBEq,↓WPed,WPeu,Nat.reduceAdd,and_self,v1,v5,v7,v9,ov4,ov5,ov6,hbb]
def lkL (ls : List (List Cel)) (i : Nat) : List Cel := ls[i]?.getD []
def isLoc (c : Cel) : Bool := decide (c.k = 4) && decide (c.v.1 = -1)
def badT (l : List Cel) : Bool := decide (l ≠ []) && !right l
def putB (t : List Cel) (ls : List (List Cel)) : Bool := t.any fun c => isLoc c && decide (lkL ls c.v.2.toNat = [])
def putC (ls : List (List Cel)) (c : Cel) : List Cel := if isLoc c then lkL ls c.v.2.toNat else [c]
def putO (t : List Cel) (ls : List (List Cel)) : List Cel := (t.map (putC ls)).flatten
def putE (t : List Cel) (ls : List (List Cel)) : Int := if !right t || ls.any badT then 6 else if putB t ls then 4 else if 256 < (putO t ls).length then 5 else 0
def putT (t : List Cel) (ls : List (List Cel)) : List Cel := if putE t ls = 0 then putO t ls else []
section
variable (d : Nat) (σ : Store)
def PutOk (σ σ' : Store) (r : AVal) (t : List Cel) (ls : List (List Cel)) : Prop := ∃ u,r = .tuple [u,.int .i64 (putE t ls)] ∧ Grows σ σ' ∧ Own σ' 5 u (CC (putT t ls)) ∧ Fresh σ.length u ∧ NoLit u
theorem PutOk.fail {σ σ' : Store} {t : List Cel} {ls : List (List Cel)} {e : Int} (h : putE t ls = e) (he : e ≠ 0) (g : Grows σ σ') : PutOk σ σ' (.tuple [.nilslice,.int .i64 e]) t ls :=
 ⟨.nilslice,by rw [h],g,by rw [putT,if_neg (by rw [h]; exact he)]; exact Own.nil _ _,Fresh.nil _,trivial⟩
end
section
variable (d : Nat) (σ : Store)
end
section
variable (d : Nat) (σ : Store)
end
def TT (σ : Store) (v : AVal) (ls : List (List Cel)) : Prop := ∃ es,Own σ 1 v es ∧ NoLit v ∧ Two Told es ls
theorem TT.terms {σ : Store} {v : AVal} {ls : List (List Cel)} (h : TT σ v ls) : Terms σ v ls := by
 obtain ⟨es,h1,-,h3⟩ := h
 exact ⟨es,h1.sl,h3.mono fun e t h => h σ⟩
theorem TT.grow {σ σ' : Store} {v : AVal} {ls : List (List Cel)} (h : TT σ v ls) (g : Grows σ σ') : TT σ' v ls := by
 obtain ⟨es,h1,h2,h3⟩ := h
 exact ⟨es,h1.grow g,h2,h3⟩
theorem TT.len {σ : Store} {v : AVal} {ls : List (List Cel)} (h : TT σ v ls) : lenSV v = some ls.length := h.terms.len
def TA (v : AVal) (ls : List (List Cel)) : Prop := ∃ es,(∀ σ : Store,SlOf σ 1 v es) ∧ Two Told es ls
theorem TA.terms {v : AVal} {ls : List (List Cel)} (h : TA v ls) (σ : Store) : Terms σ v ls := by
 obtain ⟨es,h1,h3⟩ := h
 exact ⟨es,h1 σ,h3.mono fun e t h => h σ⟩
theorem TT.set {σ : Store} {v : AVal} {ls : List (List Cel)} {lo j : Nat} {u : AVal} {t : List Cel} (h : TT σ v ls) (hf : Fresh lo v) (hj : j < ls.length) (hu : Told u t) : ∃ σ',storeV σ 1 (addrOf 1 v j) u = some σ' ∧ TT σ' v (ls.set j t) ∧ Keeps (fun i => lo ≤ i) σ σ' := by
 obtain ⟨es,h1,h2,h3⟩ := h
 have hj' : j < es.length := by rw [h3.len]; exact hj
 obtain ⟨e,e1,e2⟩ := h3.get hj
 have hee : es[j] = e := by rw [List.getElem?_eq_getElem hj'] at e1; exact Option.some.inj e1
 have o1 := (e2 σ).one
 have o2 := (hu σ).one
 have hc : u.cells = [u] := by cases u <;> simp_all [AVal.one]
 have hc2 : e.cells = [e] := by cases e <;> simp_all [AVal.one]
 have hr : e.reform [u] = u := by cases e <;> simp_all [AVal.one,AVal.reform]
 obtain ⟨σ',p1,p2,p3,-⟩ := h1.store h2 hj' (x := u) (by rw [hc]; simp only [List.all_cons,List.all_nil,o2]; rfl) (by rw [hc]; rfl) (by rw [hee,hc2]; rfl) (by rw [hee,hc]; exact hr)
 exact ⟨σ',p1,⟨_,p2,h2,Two.set h3 j hu⟩,p3.mono fun i _ e => hf i e⟩
section
variable (d : Nat) (σ : Store)
end
def AR (σ : Store) (aid : Nat) (ls : List (List Cel)) : Prop := ∃ es,σ[aid]? = some (.arr 1 es 0 0) ∧ Two Told es ls
theorem AR.grow {σ σ' : Store} {aid : Nat} {ls : List (List Cel)} (h : AR σ aid ls) (g : Grows σ σ') : AR σ' aid ls := by
 obtain ⟨es,h1,h2⟩ := h; exact ⟨es,g.get h1,h2⟩
theorem AR.terms {σ : Store} {aid : Nat} {ls : List (List Cel)} (h : AR σ aid ls) {N : Nat} (hN : ls.length = N) : Terms σ (.slice 1 aid 0 0 N (some N)) ls := by
 obtain ⟨es,h1,h2⟩ := h
 subst hN
 have ho : Own σ 1 (.slice 1 aid 0 0 ls.length (some ls.length)) es := ⟨.inr (.inr ⟨aid,0,0,some ls.length,es,0,0,by rw [h2.len],h1,Nat.le_refl _,by simp,fun _ => by simp,.inr (by rw [h2.len])⟩)⟩
 exact ⟨es,ho.sl,h2.mono fun e t h => h σ⟩
theorem AR.set {σ : Store} {aid : Nat} {ls : List (List Cel)} (h : AR σ aid ls) {j : Nat} (hj : j < ls.length) {u : AVal} {t : List Cel} (hu : Told u t) : ∃ σ',storeV σ 1 (.eptr aid 0 j 0) u = some σ' ∧ AR σ' aid (ls.set j t) ∧ Keeps (fun i => i = aid) σ σ' := by
 obtain ⟨es,h1,h2⟩ := h
 have hj' : j < es.length := by rw [h2.len]; exact hj
 obtain ⟨e,e1,e2⟩ := h2.get hj
 have hee : es[j] = e := by rw [List.getElem?_eq_getElem hj'] at e1; exact Option.some.inj e1
 have st := arr_store1 h1 hj' (hu σ).one (by rw [hee]; exact (e2 σ).one)
 exact ⟨_,st,⟨_,get_set h1,Two.set h2 j hu⟩,Keeps.set _ _ _⟩
section
variable (d : Nat) (σ : Store)
end
end Go.Proofs.YtelpjaejmneplaaDoor.Am
namespace Go.Proofs.YtelpjaejmneplaaDoor.Am
open Go Go.RowKit Go.ChangeShapes Go.WideShapes Go.ChangeAt Go.Proofs.YtelpjaejmneplaaDoor.Rows
section
variable {H : Type}
theorem names_rd {n : Nat} {d : DataW H} (h : Typed Tryd.prog (n + 3) 23 d) (hb : uptoBulk d ≤ 1048576) : ∃ fr : List Nm,(∀ σ : Store,SlOf σ 2 (argV Tryd.prog (n + 3) 23 d) (NN fr)) ∧ fr.length ≤ uptoBulk d := by
 rcases slice_of Tryd.underlying23 h with rfl | ⟨ds,rest,rfl,hd,ha,hb2⟩
 ·exact ⟨[],fun σ => by rw [argV_nil Tryd.underlying23]; exact SlOf.nil σ 2,Nat.zero_le _⟩
 ·obtain ⟨xs,h1,h2,h3,h4⟩ := list_of (R := fun a (v : Nm) => a = nmV v) (size := fun _ => 0) (fun d h => by
   obtain ⟨v,a1,a2⟩ := name_at (n := n) h
   exact ⟨v,by rw [struct_argV Tryd.underlying25,a1]; rfl,Nat.zero_le _⟩) ds hd
  have e : (ds.map fun x => argV Tryd.prog (n + 2) 25 x) = NN xs := by
   refine List.ext_getElem? fun i => ?_
   by_cases hi : i < ds.length
   ·have e1 : (ds.map fun x => argV Tryd.prog (n + 2) 25 x)[i]? = some (argV Tryd.prog (n + 2) 25 ds[i]) := by simp [List.getElem?_eq_getElem hi]
    have e2 : xs[i]? = some (xs[i]'(by omega)) := List.getElem?_eq_getElem (by omega)
    rw [e1,h2 i _ _ e1 e2,List.getElem?_map,e2]; rfl
   ·rw [List.getElem?_eq_none (by simp; omega),List.getElem?_eq_none (by simp; omega)]
  refine ⟨xs,fun σ => ?_,by omega⟩
  rw [ha,e]; exact SlOf.fs _ _ _ _ _
end
end Go.Proofs.YtelpjaejmneplaaDoor.Am
