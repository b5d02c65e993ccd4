/-
  The abstract machine and the functions of the law, 6: texts put together.
-/
import Derived.Test.YtelpjaejmneplaaGreatDoorReachPathsPkD
import Derived.Test.YtelpjaejmneplaaGreatDoorReachPathsPkE
import Derived.Test.YtelpjaejmneplaaGreatDoorProg
import Derived.Test.YtelpjaejmneplaaGreatDoorReachPathsPkC
import Derived.Test.YtelpjaejmneplaaGreatDoorReachPathsPkB
import Derived.ChangeArms
import Derived.OpenShut
import Derived.LaidMore
import Derived.Sort.MapsRangeIn
import Derived.Maps.RangeRun
import Derived.Test.YtelpjaejmneplaaGreatDoorReachPathsPkA
import Derived.Shelf.SlIter.Collect
import Derived.RangeFuncBox
import Derived.Shelf.SlSortCmp.WholeK
import Derived.Shelf.SlMaps.Clone
import Derived.Shelf.SlSortCmp.NoneTotal
import Derived.RangeFuncBound
set_option linter.unusedVariables false
set_option linter.unusedSimpArgs false
set_option linter.unusedSectionVars false
set_option maxRecDepth 100000
namespace Go.Proofs.YtelpjaejmneplaaGreatDoor.Am
open Go
def sides (t : List Cel) : List Cel × List Cel := if isEqT t then ((args t).getD 0 [],(args t).getD 1 []) else ([],[])
theorem EqR.own {σ σ' : Store} {t : List Cel} {a b : AVal} (h : EqR σ σ' t a b) : Grows σ σ' ∧ Own σ' 5 a (CC (sides t).1) ∧ Own σ' 5 b (CC (sides t).2) ∧ Fresh σ.length a ∧ Fresh σ.length b ∧ NoLit a ∧ NoLit b ∧ ∀ j,a.sid = some j → b.sid ≠ some j := by
 obtain ⟨g,h⟩ := h
 refine ⟨g,?_⟩
 unfold sides
 cases he : isEqT t with
 | false =>
  rw [he] at h
  obtain ⟨rfl,rfl⟩ := h
  exact ⟨Own.nil _ _,Own.nil _ _,Fresh.nil _,Fresh.nil _,trivial,trivial,fun j h => by cases h⟩
 | true =>
  rw [he] at h
  obtain ⟨x,y,h1,h2,h3,h4⟩ := h
  rw [h1]
  exact ⟨h2,h3,h4⟩
section
variable (d : Nat) (σ : Store)
end
theorem endAt_app {L L' : Nat} (hL : L ≤ L') {s : List Cel} {m : Nat} : ∀ {r : List Cel} {o a b : Nat},endAt L r o a = a + r.length → 0 < a + r.length → endAt L' (r ++ s) (o + m) b = endAt L' s m (b + r.length)
 | [],0,a,b,_,_ => by simp
 | [],o + 1,a,b,h,h0 => by rw [endAt_nil] at h; omega
 | c :: r,0,a,b,h,h0 => by rw [endAt_zero] at h; simp at h
 | c :: r,o + 1,a,b,h,h0 => by
  rw [endAt_cons] at h
  simp only [List.length_cons] at h h0 ⊢
  split at h
  ·omega
  ·rename_i hp
   have ih := endAt_app hL (s := s) (m := m) (r := r) (o := o + c.parts) (a := a + 1) (b := b + 1) (by omega) (by omega)
   rw [List.cons_append,show o + 1 + m = o + m + 1 by omega,endAt_cons,if_neg (by omega),show o + m + c.parts = o + c.parts + m by omega,ih]
   congr 1
   omega
theorem right_end {t : List Cel} (h : right t = true) : endAt t.length t 1 0 = 0 + t.length := by
 simp only [right,Bool.and_eq_true,decide_eq_true_eq] at h
 rw [h.1.2]; omega
theorem endAt_right {L : Nat} {t s : List Cel} (h : right t = true) (hL : t.length ≤ L) (m b : Nat) : endAt L (t ++ s) (1 + m) b = endAt L s m (b + t.length) :=
 endAt_app hL (right_end h) (by have := (right_len h).1; omega)
def pairs : List (List Cel) → List (List Cel) → Option (List (List Cel))
 | p :: ps,q :: qs => if makeE [61] [p,q] = 0 then (pairs ps qs).map (makeT [61] [p,q] :: ·) else none
 | _,_ => some []
structure StepR where
 k : Nat
 v : Nm
 t : List Cel
 ps : List (List Cel)
theorem ORows.terms {σ : Store} {lo : Nat} {l : AVal} {es : List AVal} {ts : List (List Cel)} (h : ORows σ lo 5 l es (ts.map CC)) : Terms σ l ts :=
 ⟨es,h.row.sl,Two.of_get (by rw [h.len,List.length_map]) fun i a b ha hb => (h.one i a (CC b) ha (by rw [List.getElem?_map,hb]; rfl)).sl⟩
theorem ORows.lo {σ : Store} {lo lo' sz : Nat} {l : AVal} {es : List AVal} {ps : List (List AVal)} (h : ORows σ lo sz l es ps) (hl : lo' ≤ lo) : ORows σ lo' sz l es ps :=
 ⟨h.row,h.len,h.one,fun i e he => (h.frs i e he).le hl,h.frl.le hl,h.apart,h.off,h.lit,h.litl⟩
theorem lit1_ok {a : AVal} (ha : a.one = true) : fillL 1 false (List.replicate 1 (zel [AVal.nilslice] false)) [(0,a)] = some [a] := by
 have hc : a.cells = [a] := by cases a <;> simp_all [AVal.one]
 have h1 : [a].all AVal.one = true := by simp only [List.all_cons,List.all_nil,ha]; rfl
 have h2 : isAggV a = false := by cases a <;> first | (cases ha; done) | rfl
 simp only [fillL,hc,h1,h2]
 rfl
theorem celvar_load {c : Cel} {σ : Store} {i : Nat} (h : σ[i]? = some (.cells c.cs)) : loadV σ 2 true (.ptr i 3) = some (nmV c.v) := by
 have : behind σ (.ptr i 3) = some (c.cs,3) := by simp only [behind,h]
 exact loadN_at this (by simp [Cel.cs])
section
variable (d : Nat) (σ : Store)
end
structure BdArg (v : AVal) (bs : Hp) : Prop where
 row : ∃ es,(∀ σ : Store,SlOf σ 3 v es) ∧ Two (fun e p => ∃ u,e = bdV p.1 u ∧ Told u p.2) es bs
 small : ∀ p ∈ bs,Small p.2
 len : bs.length < 2 ^ 26
def bindsH (H : Hp) (bs : Hp) : Hp := bs.foldl (fun H p => bindH H p.1 p.2) H
def bindsR (R : Hp) (bs : Hp) : Hp := bs.foldl (fun R p => bindR R p.1 p.2) R
theorem bindR_len (R : Hp) (v : Nm) (t : List Cel) : (bindR R v t).length ≤ R.length + 1 := by
 unfold bindR; split
 ·have := (insR_perm (v,t) R).length_eq; simp at this; omega
 ·omega
theorem bindsR_len : ∀ (bs R : Hp),(bindsR R bs).length ≤ R.length + bs.length
 | [],R => Nat.le_refl _
 | p :: bs,R => by
  have h1 := bindsR_len bs (bindR R p.1 p.2)
  have h2 := bindR_len R p.1 p.2
  simp only [bindsR,List.foldl_cons,List.length_cons] at h1 ⊢
  omega
theorem Same.binds : ∀ (bs : Hp) {H R : Hp},Same H R → Same (bindsH H bs) (bindsR R bs)
 | [],_,_,h => h
 | p :: bs,_,_,h => Same.binds bs (h.bind p.1 p.2)
theorem bindsH_snoc (H : Hp) (bs : Hp) (p : Nm × List Cel) : bindsH H (bs ++ [p]) = bindH (bindsH H bs) p.1 p.2 := by simp [bindsH]
theorem bindsR_snoc (H : Hp) (bs : Hp) (p : Nm × List Cel) : bindsR H (bs ++ [p]) = bindR (bindsR H bs) p.1 p.2 := by simp [bindsR]
theorem BdArg.at {v : AVal} {bs : Hp} (h : BdArg v bs) {k : Nat} (hk : k < bs.length) (σ : Store) : ∃ q0 q2 u,iaddrV 3 v (.int .i64 k) = some (addrOf 3 v k) ∧ faddrV 0 (addrOf 3 v k) = some q0 ∧ loadV σ 2 true q0 = some (nmV bs[k].1) ∧ faddrV 2 (addrOf 3 v k) = some q2 ∧ loadV σ 1 false q2 = some u ∧ Told u bs[k].2 := by
 obtain ⟨es,h1,h2⟩ := h.row
 have hke : k < es.length := by rw [h2.len]; exact hk
 obtain ⟨e,he1,u,he2,he3⟩ := h2.get hk
 have hee : es[k] = e := by rw [List.getElem?_eq_getElem hke] at he1; exact Option.some.inj he1
 have hb := ((h1 σ).addr hke .i64).2
 rw [hee,he2] at hb
 have hb' : behind σ (addrOf 3 v k) = some (bdC (bs[k]).1 u,0) := hb
 obtain ⟨q0,p0,b0⟩ := faddr_at hb' 0
 obtain ⟨q2,p2,b2⟩ := faddr_at hb' 2
 exact ⟨q0,q2,u,(h1 σ).iaddr hke .i64,p0,loadN_at b0 (by simp [bdC]),p2,load_at b2,he3⟩
section
variable (d : Nat) (σ : Store)
end
structure Turned (r s : StepR) : Prop where
 k : r.k = s.k
 v : r.v = s.v
 t : r.t = s.t
 len : r.ps.length = s.ps.length
 parts : ∀ (i : Nat) (h : i < r.ps.length) (h' : i < s.ps.length),∃ p q,r.ps[i] = makeT [61] [p,q] ∧ s.ps[i] = makeT [61] [q,p] ∧ makeE [61] [p,q] = 0 ∧ makeE [61] [q,p] = 0
theorem Turned.plain {r : StepR} (h : r.ps = []) : Turned r r := ⟨rfl,rfl,rfl,rfl,fun i hi => by rw [h] at hi; simp at hi⟩
end Go.Proofs.YtelpjaejmneplaaGreatDoor.Am
namespace Go.Proofs.YtelpjaejmneplaaGreatDoor.Am
open Go Go.RowKit Go.ChangeShapes Go.WideShapes Go.ChangeAt Go.Proofs.YtelpjaejmneplaaGreatDoor.Rows
section
variable {H : Type}
theorem name_at {n : Nat} {d : DataW H} (h : Typed Tryz.prog (n + 2) 49 d) : ∃ v : Nm,dec Tryz.prog (n + 2) 49 d = [.int .i64 v.1,.int .i64 v.2] ∧ Nm.In v :=
 name_dec (n := n) Tryz.underlying49 Tryz.underlying3 Tryz.underlying3 h
theorem cel_at {n : Nat} {d : DataW H} (h : Typed Tryz.prog (n + 3) 97 d) : ∃ c : Cel,argV Tryz.prog (n + 3) 97 d = c.val ∧ c.In ∧ c.s.length ≤ uptoBulk d :=
 cel_dec (n := n) Tryz.underlying97 Tryz.underlying95 Tryz.underlying9 Tryz.underlying3 Tryz.underlying49 Tryz.underlying3 Tryz.underlying3 h
theorem term_at {n : Nat} {d : DataW H} (h : Typed Tryz.prog (n + 4) 60 d) :
  ∃ cs : List Cel,(∀ σ,SlOf σ 5 (argV Tryz.prog (n + 4) 60 d) (CC cs)) ∧ (∀ c ∈ cs,c.In) ∧ cs.length ≤ uptoBulk d ∧ (cs.map fun c => c.s.length).sum ≤ uptoBulk d :=
 term_of (n := n + 3) Tryz.underlying60 (by kernel_rfl) (fun d hd => cel_at hd) h
theorem cells_in {cs : List Cel} {b : Nat} (h1 : ∀ c ∈ cs,c.In) (h2 : (cs.map fun c => c.s.length).sum ≤ b) (hb : b < 2 ^ 40) : ∀ c ∈ cs,c.k < 256 ∧ c.s.length < 2 ^ 40 := fun c hc =>
 ⟨(h1 c hc).1,by have := mem_sum (fun c : Cel => c.s.length) hc; omega⟩
theorem term_told {n : Nat} {d : DataW H} (h : Typed Tryz.prog (n + 4) 60 d) (hb : uptoBulk d ≤ 1048576) : ∃ t : List Cel,Told (argV Tryz.prog (n + 4) 60 d) t ∧ Small t ∧ (∀ c ∈ t,c.In) ∧ t.length ≤ uptoBulk d := by
 obtain ⟨cs,h1,h2,h3,h4⟩ := term_at h
 exact ⟨cs,h1,⟨by omega,cells_in h2 h4 (by omega)⟩,h2,h3⟩
theorem bd_at {n : Nat} {d : DataW H} (h : Typed Tryz.prog (n + 5) 108 d) (hb : uptoBulk d ≤ 1048576) : ∃ p : Nm × List Cel,(∃ u,argV Tryz.prog (n + 5) 108 d = bdV p.1 u ∧ Told u p.2) ∧ Small p.2 ∧ Nm.In p.1 ∧ (∀ c ∈ p.2,c.In) ∧ p.2.length ≤ uptoBulk d := by
 obtain ⟨ds,rfl,hl,hty,_,hsum⟩ := struct_of Tryz.underlying108 h
 match ds,hl with
 | [x,y],_ =>
  obtain ⟨v,v1,v2⟩ := name_at (n := n + 2) (hty 0 _ x rfl rfl)
  have hy := hty 1 _ y rfl rfl
  simp only [uptoBulkAll] at hsum
  obtain ⟨t,t1,t2,t3,t4⟩ := term_told (n := n) hy (by omega)
  have dy : dec Tryz.prog (n + 4) 60 y = [argV Tryz.prog (n + 4) 60 y] := dec_one hy (by kernel_rfl)
  refine ⟨(v,t),⟨_,?_,t1⟩,t2,v2,t3,by simp only; omega⟩
  rw [struct_argV Tryz.underlying108,struct_dec Tryz.underlying108]
  simp only [List.zipWith_cons_cons,List.zipWith_nil_left,List.flatten_cons,List.flatten_nil,v1,dy]
  rfl
theorem binds_at {n : Nat} {d : DataW H} (h : Typed Tryz.prog (n + 6) 22 d) (hb : uptoBulk d ≤ 1048576) : ∃ bs : Hp,BdArg (argV Tryz.prog (n + 6) 22 d) bs ∧ (∀ p ∈ bs,Nm.In p.1 ∧ ∀ c ∈ p.2,c.In) ∧ bs.length ≤ uptoBulk d ∧ ∀ p ∈ bs,p.2.length ≤ uptoBulk d := by
 rcases slice_of Tryz.underlying22 h with rfl | ⟨ds,rest,rfl,hd,ha,hb2⟩
 ·exact ⟨[],⟨⟨[],fun σ => by rw [argV_nil Tryz.underlying22]; exact SlOf.nil σ 3,.nil⟩,(fun p hp => by cases hp),by simp⟩,(fun p hp => by cases hp),Nat.zero_le _,fun p hp => by cases hp⟩
 ·have hds : ∀ x ∈ ds,uptoBulk x ≤ uptoBulkAll ds := by
   intro x hx
   clear hd ha hb hb2 h
   induction ds with
   | nil => cases hx
   | cons y ys ih =>
    simp only [uptoBulkAll]
    rcases List.mem_cons.1 hx with rfl | hx
    ·omega
    ·have := ih hx; omega
  have hall : ∀ x ∈ ds,∃ p : Nm × List Cel,(∃ u,argV Tryz.prog (n + 5) 108 x = bdV p.1 u ∧ Told u p.2) ∧ Small p.2 ∧ Nm.In p.1 ∧ (∀ c ∈ p.2,c.In) ∧ p.2.length ≤ uptoBulkAll ds := fun x hx => by
   obtain ⟨p,h1,h2,h3,h4,h5⟩ := bd_at (n := n) (hd x hx) (by have := hds x hx; omega)
   exact ⟨p,h1,h2,h3,h4,by have := hds x hx; omega⟩
  have hln : ds.length ≤ uptoBulkAll ds := by
   clear hd ha hb hb2 h hds hall
   induction ds with
   | nil => simp
   | cons y ys ih =>
    have h3 : 1 ≤ uptoBulk y := by cases y <;> first | (simp only [uptoBulk]; omega) | (rename_i l; cases l <;> simp only [uptoBulk] <;> omega)
    simp only [uptoBulkAll,List.length_cons]; omega
  have key : ∀ (l : List (DataW H)) (B : Nat),(∀ x ∈ l,∃ p : Nm × List Cel,(∃ u,argV Tryz.prog (n + 5) 108 x = bdV p.1 u ∧ Told u p.2) ∧ Small p.2 ∧ Nm.In p.1 ∧ (∀ c ∈ p.2,c.In) ∧ p.2.length ≤ B) →
    ∃ bs : Hp,Two (fun e p => ∃ u,e = bdV p.1 u ∧ Told u p.2) (l.map fun x => argV Tryz.prog (n + 5) 108 x) bs ∧ (∀ p ∈ bs,Small p.2 ∧ Nm.In p.1 ∧ (∀ c ∈ p.2,c.In) ∧ p.2.length ≤ B) := by
   intro l B
   induction l with
   | nil => intro _; exact ⟨[],.nil,fun p hp => by cases hp⟩
   | cons x xs ih =>
    intro hx
    obtain ⟨p,p1,p2⟩ := hx x List.mem_cons_self
    obtain ⟨bs,b1,b2⟩ := ih fun y hy => hx y (List.mem_cons_of_mem _ hy)
    refine ⟨p :: bs,.cons p1 b1,fun q hq => ?_⟩
    rcases List.mem_cons.1 hq with rfl | hq
    ·exact p2
    ·exact b2 q hq
  obtain ⟨bs,b1,b2⟩ := key ds _ hall
  have hlen := b1.len
  rw [List.length_map] at hlen
  refine ⟨bs,⟨⟨_,fun σ => by rw [ha]; exact SlOf.fs _ _ _ _ _,b1⟩,fun p hp => (b2 p hp).1,by omega⟩,fun p hp => ⟨(b2 p hp).2.1,(b2 p hp).2.2.1⟩,by omega,fun p hp => by have := (b2 p hp).2.2.2; omega⟩
end
end Go.Proofs.YtelpjaejmneplaaGreatDoor.Am
namespace Go.Proofs.YtelpjaejmneplaaGreatDoor.Am
open Go Go.RowKit
section
variable {P : Program} {cfg : Cfg} {H : Type} {enc : TypeId × Value → H} {W : World}
theorem texts_read {m base : Nat} {sp : Nat → Bool} {held : Bool} {e : TypeId} (he : P.underlying e = some .string) : ∀ (xs : List (DataW H × List MemPlace)) (cs : List Value),cs.length = xs.length →
  (∀ i,i < xs.length → DataW.trod enc P W base sp held m e ((cs.drop i).take 1) = xs[i]?) → ∃ bs : List ByteArray,cs = bs.map Value.string ∧ xs.map (·.1) = bs.map fun b => .lit (.string b.data.toList)
 | [],cs,hl,_ => ⟨[],by simpa using List.eq_nil_of_length_eq_zero hl,rfl⟩
 | x :: xs,[],hl,_ => by simp at hl
 | x :: xs,c :: cs,hl,h => by
  have h0 := h 0 (by simp)
  simp only [List.drop_zero,List.take_succ_cons,List.take_zero,List.getElem?_cons_zero] at h0
  obtain ⟨s,e1,e2,_⟩ := DataW.trod_string he h0
  obtain ⟨bs,r1,r2⟩ := texts_read he xs cs (by simpa using hl) (fun i hi => by simpa using h (i + 1) (by simpa using hi))
  injection e1 with e1
  exact ⟨s :: bs,by rw [e1,r1]; rfl,by rw [e2,List.map_cons,r2]; rfl⟩
theorem texts_inj : ∀ {ss : List (List UInt8)} {bs : List ByteArray},(ss.map fun s => (DataW.lit (.string s) : DataW H)) = (bs.map fun b => .lit (.string b.data.toList)) → ss = bs.map fun b => b.data.toList
 | [],[],_ => rfl
 | [],_ :: _,h => by simp at h
 | _ :: _,[],h => by simp at h
 | s :: ss,b :: bs,h => by
  simp only [List.map_cons,List.cons.injEq] at h ⊢
  obtain ⟨h1,h2⟩ := h
  injection h1 with h1
  injection h1 with h1
  exact ⟨h1,texts_inj h2⟩
theorem gl_of_laid {name : String} {g : Nat} {t e : TypeId} {n : Nat} {ss : List (List UInt8)} (hg : P.globalNamed name = some g) (ht : (P.globals[g]?).map (·.type) = some t) (hu : P.underlying t = some (.array n e)) (he : P.underlying e = some .string)
  (hce : P.cellsOf e = 1) (hct : P.cellsOf t = n) (hglob : ∀ i cs,cfg.glob i = some cs → i = g ∧ cs = ss.map AVal.str) (h : laidMet P [(name,.agg (ss.map fun s => .lit (.string s)))] W) : Gl cfg startE (startK W) := by
 intro i cs hi
 obtain ⟨rfl,rfl⟩ := hglob i cs hi
 obtain ⟨ps,⟨g',t',cs',fuel,p,q,e1,e2,e3,e4,_,_⟩,_,_⟩ := h
 obtain rfl := Option.some.inj (hg.symm.trans e1)
 obtain rfl := Option.some.inj (ht.symm.trans e2)
 have hb : ∃ ty f,W.heap[i]? = some (.cells cs' ty f) := by
  simp only [World.var?,hg,Option.bind_some] at e3
  split at e3
  ·rename_i c ty f hc
   injection e3 with e3; subst e3
   exact ⟨ty,f,hc⟩
  ·cases e3
 obtain ⟨ty,f,hb⟩ := hb
 obtain ⟨xs,m,rfl,hx,hl,hxl,hel⟩ := DataW.trod_array hu e4
 obtain ⟨bs,r1,r2⟩ := texts_read he xs cs'.toList (by rw [hl,hct,hxl]) (fun i hi => by
  have := hel i (by omega)
  rw [hce,Nat.mul_one] at this
  exact this)
 injection hx with hx _
 injection hx with hx
 have hss := texts_inj (hx.trans r2)
 have hrel : ∀ bs : List ByteArray,VRelL cfg.conc W.heap ((startK W).safe startE) noIds ((bs.map fun b => b.data.toList).map AVal.str) (bs.map Value.string) := by
  intro bs
  induction bs with
  | nil => exact .nil _
  | cons b bs ih => exact .cons _ _ _ _ _ (.str _ b) ih
 have := VRel.fptr (cf := cfg.conc) (h := W.heap) (S := (startK W).safe startE) noIds 0 (ss.map AVal.str) 0 i 0 cs'.toList ⟨(Array.getElem?_eq_some_iff.1 hb).1,start_own W i,fun k _ hk => by simp [startE] at hk⟩
  (by rw [hss,r1]; exact hrel bs) (fun c hc => by obtain ⟨s,_,rfl⟩ := List.mem_map.1 hc; rfl) (fun c hc => by obtain ⟨s,_,rfl⟩ := List.mem_map.1 hc; exact Nat.le_refl _)
  (fun j v hj => by simp only [cellAt,hb,Nat.zero_add]; simpa using hj)
 exact this
end
end Go.Proofs.YtelpjaejmneplaaGreatDoor.Am
namespace Go.Proofs.YtelpjaejmneplaaGreatDoor.Am
open Go Go.ChangeMaps
section
variable {F : Fence} {n : Nat} {P : Program} (w : World) {ops : Array Oper} {rest : List Oper} {o : Oper} {a : Act} {Q : Exit → Act → World → Prop}
theorem range_raw (hg : o.guard = none) (m : Operand) (t : TypeId) (hop : o.op = Op.range t m) (k e : TypeId) (ht : P.underlying t = some (.map k e)) (b : Nat) (es : Array MapEntry) (clock : Nat) (hm : a.eval m = .map (some b)) (hb : w.heap[b]? = some (.map es clock))
  (hK : wpListIn F n P ops Q rest (a.put o.dst (.pointer (some ⟨w.heap.size,0,none⟩))) (w.alloc (.mapIter (some b) clock #[] clock))) :
  wpListIn F n P ops Q (o :: rest) a w := by
 refine wpListIn_plain hg fun K' hK' => ?_
 have hrun := run_range_map (P := P) w t k e b es clock ht hb
 unfold Oper.wpIn
 refine ⟨by simp [Oper.about,hop],?_⟩
 rw [Oper.semAt_plain F _ _ (by rw [hop]; intro c hc'; cases hc')]
 simp [execOp,hop,hm,hrun,Result.andThen]
 exact hK' _ _ hK
theorem next_raw (hg : o.guard = none) (it : Operand) (hop : o.op = Op.next it false) (b r since c0 : Nat) (seen : Array Nat) (es : Array MapEntry) (clock : Nat)
  (hit : a.eval it = .pointer (some ⟨r,0,none⟩)) (hr : w.heap[r]? = some (.mapIter (some b) since seen c0)) (hb : w.heap[b]? = some (.map es clock)) (hold : ∀ x ∈ es.toList,x.born < since) (hsc : since ≤ c0)
  (hDone : (leftOf es seen).size = 0 → wpListIn F n P ops Q rest (a.put o.dst (.tuple #[.bool false])) w)
  (hMore : ∀ (x : MapEntry) (w1 : World),x ∈ (leftOf es seen).toList → (w1 = w ∨ w1 = w.drew) → wpListIn F n P ops Q rest (a.put o.dst (.tuple #[.bool true,x.key,x.val])) (setBlock w1 r (.mapIter (some b) since (seen.push x.born) clock))) :
  wpListIn F n P ops Q (o :: rest) a w := by
 refine wpListIn_plain hg fun K' hK' => ?_
 unfold Oper.wpIn
 refine ⟨by simp [Oper.about,hop],?_⟩
 rw [Oper.semAt_plain F _ _ (by rw [hop]; intro c hc'; cases hc')]
 rcases run_next_at (P := P) w o.type r b since c0 seen es clock hr hb hold hsc with ⟨h0,hrun⟩ | ⟨x,hx,w1,hw1,hrun⟩
 ·simp [execOp,hop,hit,hrun,Result.andThen]
  exact hK' _ _ (hDone h0)
 ·simp [execOp,hop,hit,hrun,Result.andThen]
  exact hK' _ _ (hMore x w1 hx hw1)
end
theorem left_step {es : Array MapEntry} (hB : (es.toList.map (·.born)).Nodup) {seen : Array Nat} {x : MapEntry} (hx : x ∈ (leftOf es seen).toList) : (leftOf es seen).toList.Perm (x :: (leftOf es (seen.push x.born)).toList) := by
 have hn : ((leftOf es seen).toList.map (·.born)).Nodup := by
  have : (leftOf es seen).toList.Sublist es.toList := by simp only [leftOf,Array.toList_filter]; exact List.filter_sublist
  exact (this.map _).nodup hB
 have e : (leftOf es (seen.push x.born)).toList = (leftOf es seen).toList.filter fun y => !(y.born == x.born) := by
  simp only [leftOf,Array.toList_filter,List.filter_filter]
  refine List.filter_congr fun y _ => ?_
  by_cases h : y.born = x.born <;> simp [h]
 rw [e]
 generalize (leftOf es seen).toList = L at hx hn
 clear e
 induction L with
 | nil => cases hx
 | cons y L ih =>
  rw [List.map_cons,List.nodup_cons] at hn
  rcases List.mem_cons.1 hx with rfl | hx
  ·have : L.filter (fun y => !(y.born == x.born)) = L := by
    rw [List.filter_eq_self]
    intro z hz
    have : z.born ≠ x.born := fun e => hn.1 (by rw [← e]; exact List.mem_map.2 ⟨z,hz,rfl⟩)
    simpa using this
   simp [this]
  ·have hne : y.born ≠ x.born := fun e => hn.1 (by rw [e]; exact List.mem_map.2 ⟨x,hx,rfl⟩)
   have := ih hx hn.2
   have hb : (!(y.born == x.born)) = true := by simpa using hne
   rw [List.filter_cons_of_pos (by simpa using hne)]
   exact (this.cons y).trans (List.Perm.swap x y _)
end Go.Proofs.YtelpjaejmneplaaGreatDoor.Am
namespace Go.Proofs.YtelpjaejmneplaaGreatDoor.Am
open Go Go.Proofs Go.RowKit Go.Maps Go.Sort Go.Shelf Go.ChangeMaps
abbrev encNm (v : Int × Int) : Value := .agg #[.int .i64 v.1,.int .i64 v.2]
set_option maxHeartbeats 1000000 in
theorem keys_walk (F : Fence) (n : Nat) (h : F.fn 140) (hro : F.round = none) (hn : 1 ≤ n) (l Bm b : Nat) (es : Array MapEntry) (clock : Nat) (J : List (Int × Int) → World → Prop)
 (hY : ∀ pre x W,J pre W → pre.length < es.size → YieldAt F (n - 1) Tryz.prog l #[encNm x] W fun e W' => e = .returned (.bool true) ∧ J (pre ++ [x]) W' ∧ KeepsWalks W W')
 (W : World) (hJ : AbidesFrom W.heap.size J) (hm : W.cell? ⟨Bm,0,none⟩ = some (.map (some b))) (hb : W.heap[b]? = some (.map es clock)) (hB : (∀ e ∈ es.toList,e.born < clock) ∧ (es.toList.map (·.born)).Nodup) (h0 : J [] W) (hk : ∀ e ∈ es.toList,∃ v : Int × Int,e.key = encNm v) :
 CallsIn F n Tryz.prog 140 #[.func (.yield l) #[] #[],.pointer (some ⟨Bm,0,none⟩)] W fun e W' => (∃ v,e = .returned v) ∧ ∃ ks : List (Int × Int),(ks.map encNm).Perm (es.toList.map (·.key)) ∧ J ks W' := by
 have u126 := run_underlying (P := Tryz.prog) Tryz.underlying134
 have u46 := run_underlying (P := Tryz.prog) Tryz.underlying49
 refine callsIn_of_wp Tryz.func140 rfl h ?_ hro
 simp only [Tryz.f140,List.size_toArray,List.length_cons,List.length_nil,Nat.reduceAdd,Nat.reduceSub,Array.replicate_succ,Array.replicate_zero,List.push_toArray,List.append_toArray,List.nil_append,List.cons_append]
 gi_wp2_with (first
  | (gi_at_range; refine range_raw _ rfl _ 134 rfl _ _ Tryz.underlying134 b es clock rfl hb ?_)
  | gi_in)
 go_frame
 gi_loopw [3] (fun _ wr => ∃ (seen : Array Nat) (c0 : Nat) (ks : List (Int × Int)),wr.heap[W.heap.size]? = some (.mapIter (some b) clock seen c0) ∧ clock ≤ c0 ∧ wr.heap[b]? = some (.map es clock) ∧ (ks.map encNm ++ (leftOf es seen).toList.map (·.key)).Perm (es.toList.map (·.key)) ∧ ks.length + (leftOf es seen).size = es.size ∧ J ks wr)
  (fun _ wr => match wr.heap[W.heap.size]? with | some (.mapIter _ _ seen _) => (leftOf es seen).size | _ => 0)
 case atStart =>
  refine ⟨#[],clock,[],World.alloc_heap_new W _,Nat.le_refl _,(Below.heap_alloc W _ b (Array.getElem?_eq_some_iff.1 hb).1).trans hb,?_,?_,hJ [] W _ none h0 (World.grownBy_alloc W _ none) (fun r e => by cases e)⟩
  ·have : (leftOf es #[]).toList = es.toList := by simp only [leftOf,Array.toList_filter]; exact List.filter_eq_self.2 fun a _ => by simp
   rw [this]; exact List.Perm.refl _
  ·simp [leftOf]
 case round =>
  obtain ⟨seen,c0,ks,hr,hc0,hb1,hperm,hlen,hJs⟩ := hrel
  gi_wp2_with (first
   | (gi_at_next; refine next_raw _ rfl _ rfl b W.heap.size clock c0 seen es clock rfl hr hb1 hB.1 hc0 ?_ ?_)
   | gi_in)
  ·intro h0'
   gi_wp2
   go_end0
   refine ⟨⟨_,rfl⟩,ks,?_,hJs⟩
   have : (leftOf es seen).toList = [] := List.eq_nil_of_length_eq_zero (by simpa using h0')
   rw [this] at hperm; simpa using hperm
  ·intro x w1 hx hw1
   obtain ⟨w2,hw2⟩ : ∃ w2,setBlock w1 W.heap.size (.mapIter (some b) clock (seen.push x.born) clock) = w2 := ⟨_,rfl⟩
   rw [hw2]
   have hxe : x ∈ es.toList := by
    have : (leftOf es seen).toList.Sublist es.toList := by simp only [leftOf,Array.toList_filter]; exact List.filter_sublist
    exact this.subset (by simpa using hx)
   have hwh : w1.heap = wr.heap := by rcases hw1 with rfl | rfl <;> rfl
   have hne : b ≠ W.heap.size := by have := (Array.getElem?_eq_some_iff.1 hb).1; omega
   have hr1 : w1.heap[W.heap.size]? = some (.mapIter (some b) clock seen c0) := by rw [hwh]; exact hr
   have hlt1 := (Array.getElem?_eq_some_iff.1 hr1).1
   have hr2 : w2.heap[W.heap.size]? = some (.mapIter (some b) clock (seen.push x.born) clock) := by rw [← hw2]; simp [setBlock,hlt1]
   have hb2 : w2.heap[b]? = some (.map es clock) := by rw [← hw2]; simp only [setBlock]; rw [Array.getElem?_setIfInBounds_ne (by omega),hwh]; exact hb1
   have hg2 : wr.grownBy w2 (some W.heap.size) := by
    have h1 : wr.grownBy w1 (some W.heap.size) := by rcases hw1 with rfl | rfl <;> exact ⟨rfl,rfl,rfl,Nat.le_refl _,fun _ _ _ => rfl⟩
    refine h1.trans ?_
    rw [← hw2]
    exact ⟨rfl,rfl,rfl,by simp [setBlock],fun i _ hi => by simp only [setBlock]; exact Array.getElem?_setIfInBounds_ne (fun e1 => hi (by rw [e1]))⟩
   have hen := run_entry_at (P := Tryz.prog) w2 W.heap.size b clock seen es clock x hr2 hb2 hxe hB.2
   obtain ⟨v,hv⟩ := hk x hxe
   rw [hv,show encNm v = .agg #[.int .i64 v.1,.int .i64 v.2] from rfl] at hen
   obtain ⟨w3,hw3⟩ : ∃ w3,w2.alloc (.cells #[.int .i64 v.1,.int .i64 v.2] 49) = w3 := ⟨_,rfl⟩
   have hg3 : wr.grownBy w3 (some W.heap.size) := by rw [← hw3]; exact hg2.trans (World.grownBy_alloc _ _ _)
   have hJ3 : J ks w3 := hJ ks wr w3 (some W.heap.size) hJs hg3 (fun r e => by cases e; exact ⟨Nat.le_refl _,_,hr,rfl⟩)
   have hleft := left_step hB.2 (seen := seen) (x := x) (by simpa using hx)
   have hll := hleft.length_eq
   simp only [List.length_cons,Array.length_toList] at hll
   have hperm2 : ((ks ++ [v]).map encNm ++ (leftOf es (seen.push x.born)).toList.map (·.key)).Perm (es.toList.map (·.key)) := by
    refine List.Perm.trans ?_ hperm
    rw [List.map_append,List.append_assoc]
    refine List.Perm.append_left _ ?_
    have := (hleft.map (·.key)).symm
    rw [List.map_cons,hv] at this
    exact this
   obtain ⟨fn,tmps,assign,body,hy,hR⟩ := hY ks v w3 hJ3 (by omega)
   have hr3 : w3.heap[W.heap.size]? = some (.mapIter (some b) clock (seen.push x.born) clock) := by rw [← hw3]; exact (Below.heap_alloc _ _ _ (Array.getElem?_eq_some_iff.1 hr2).1).trans hr2
   have hb3 : w3.heap[b]? = some (.map es clock) := by rw [← hw3]; exact (Below.heap_alloc _ _ _ (Array.getElem?_eq_some_iff.1 hb2).1).trans hb2
   subst hw3
   gi_wp2
   refine hR.mono ?_
   rintro e W3 ⟨rfl,hJ4,hk3⟩
   gi_wp2
   go_roundw
   case rel => exact ⟨_,clock,ks ++ [v],hk3.same _ _ hr3 rfl,Nat.le_refl _,hk3.same _ _ hb3 rfl,hperm2,by simp; omega,hJ4⟩
   case measure =>
    rw [hk3.same _ _ hr3 rfl,hr]
    simp only
    omega
noncomputable def apParts : Code × Code := match (Tryz.f176).body with
 | some (.seq _ (.seq (.seq _ (.block _ (.rangeFunc _ _ a b))) _)) => (a,b)
 | _ => (.skip,.skip)
noncomputable def apRec (fn : FuncId) (sv : Value) (Bs D : Nat) (st : LoopState) (pend : Option Code) : Loop :=
 { state := st,pending := pend,fn,tmps := #[.slice none 0 0,sv,.pointer (some ⟨Bs,0,none⟩),undef,.slice none 0 0,undef,sv,undef,undef,undef,undef,undef,undef],params := #[7],assign := apParts.1,body := apParts.2,defers := D }
structure ApAt (w0 : World) (fn : FuncId) (sv : Value) (Bs l D : Nat) (ss : List (Int × Int)) (W : World) : Prop where
 box : ∃ v,Boxed W Bs 23 v ∧ W.ownsRow w0.heap.size 49 2 v ss.length (ss.flatMap fun p => [.int .i64 p.1,.int .i64 p.2]) ∧ (v = .slice none 0 0 ↔ ss = [])
 L : W.heap[l]? = some (.loop (apRec fn sv Bs D .ready none))
 K : W.heap[D]? = some (.deferred (some []))
 below : Below w0.heap.size w0 W
theorem ap_abides (w0 : World) (fn : FuncId) (sv : Value) (Bs l D B : Nat) (hB : w0.heap.size ≤ B) : AbidesFrom B (ApAt w0 fn sv Bs l D) := fun s W W' row h hg hrow => by
 have hrow' : ∀ r,row = some r → ∃ o : Obj,W.heap[r]? = some o ∧ o.isWalk = true := fun r e => (hrow r e).2
 obtain ⟨v,hv,hr,hn⟩ := h.box
 exact ⟨⟨v,(grownBy_keeps hg hrow' hv rfl).trans hv,ownsRow_abides_a hr hg hrow',hn⟩,(grownBy_keeps hg hrow' h.L rfl).trans h.L,(grownBy_keeps hg hrow' h.K rfl).trans h.K,
  h.below.grown hg h.below.size (fun k e => Nat.le_trans hB (hrow k e).1)⟩
abbrev nmCells (p : Int × Int) : List Value := [.int .i64 p.1,.int .i64 p.2]
theorem new_cells (W : World) (x : Int × Int) : ∀ (j : Nat) (u : Value),([.int .i64 x.1,.int .i64 x.2] : List Value)[j]? = some u → (W.alloc (.cells #[.int .i64 x.1,.int .i64 x.2] 49)).cell? ((⟨W.heap.size,0,none⟩ : Addr).add j) = some u := by
 have h := World.alloc_heap_new W (.cells #[.int .i64 x.1,.int .i64 x.2] 49)
 intro j u hj
 match j,hj with
 | 0,hj => simp at hj; subst hj; rw [show (⟨W.heap.size,0,none⟩ : Addr).add 0 = ⟨W.heap.size,0,none⟩ from rfl]; simp only [World.cell?,h]; rfl
 | 1,hj => simp at hj; subst hj; rw [show (⟨W.heap.size,0,none⟩ : Addr).add 1 = ⟨W.heap.size,1,none⟩ from rfl]; simp only [World.cell?,h]; rfl
 | j + 2,hj => simp at hj
set_option maxHeartbeats 2000000 in
theorem apYield (F : Fence) (m : Nat) (w0 : World) (fn : FuncId) (hfn : F.fn fn) (sv : Value) (Bs l D : Nat) (hBl : Bs ≠ l) (hDl : D ≠ l) (hDB : D ≠ Bs) (h0B : w0.heap.size ≤ Bs) (h0l : w0.heap.size ≤ l)
    (N : Nat) (hN : N ≤ maxLen) (hNb : N * 16 ≤ 140737488355328) (ss : List (Int × Int)) (x : Int × Int) (W : World) (h : ApAt w0 fn sv Bs l D ss W) (hlen : ss.length < N) :
    YieldAt F m Tryz.prog l #[encNm x] W fun e W' => e = .returned (.bool true) ∧ ApAt w0 fn sv Bs l D (ss ++ [x]) W' ∧ KeepsWalks W W' := by
  have u46 := run_underlying (P := Tryz.prog) Tryz.underlying49
  have u54 := run_underlying (P := Tryz.prog) Tryz.underlying23
  obtain ⟨v, hv, hrow, _⟩ := h.box
  refine ⟨fn, #[.slice none 0 0, sv, .pointer (some ⟨Bs, 0, none⟩), undef, .slice none 0 0, undef, sv, encNm x, undef, undef, undef, undef, undef], apParts.1, apParts.2, by simpa [apRec] using run_yield (P := Tryz.prog) (args := #[encNm x]) h.L rfl, roundIn_of_wpIn hfn ?_⟩
  have hl : l < W.heap.size := (Array.getElem?_eq_some_iff.1 h.L).1
  have hBs : Bs < W.heap.size := (Array.getElem?_eq_some_iff.1 hv).1
  have hDs : D < W.heap.size := (Array.getElem?_eq_some_iff.1 h.K).1
  obtain ⟨W1, hW1⟩ : ∃ W1, W.alloc (.cells #[.int .i64 x.1, .int .i64 x.2] 49) = W1 := ⟨_, rfl⟩
  have hL1 : W1.heap[l]? = some (.loop (apRec fn sv Bs D .ready none)) := by rw [← hW1]; exact (Below.heap_alloc _ _ _ hl).trans h.L
  have hbr := run_beginRound (P := Tryz.prog) hL1 rfl
  unfold apParts
  simp only [Tryz.f176]
  gi_wp2_with gi_round_op_a
  obtain ⟨W2, hW2⟩ : ∃ W2, W1.putObj l (.loop { apRec fn sv Bs D .ready none with state := .busy }) = W2 := ⟨_, rfl⟩
  rw [hW2] at hbr
  refine ⟨W2, hbr, ?_⟩
  have hg1 : W.grownBy W1 none := by rw [← hW1]; exact World.grownBy_alloc W _ none
  have hg2 : W1.grownBy W2 (some l) := by rw [← hW2]; exact grownBy_putObj_a _ _ _
  have hl1 : l < W1.heap.size := (Array.getElem?_eq_some_iff.1 hL1).1
  have hv1 : Boxed W1 Bs 23 v := hv.kept hg1 (by simp)
  have hv2 : Boxed W2 Bs 23 v := hv1.kept hg2 (by simpa using hBl)
  have hx1 : W1.heap[W.heap.size]? = some (.cells #[.int .i64 x.1, .int .i64 x.2] 49 (0, 0)) := by rw [← hW1]; exact World.alloc_heap_new W _
  have hx2 : W2.heap[W.heap.size]? = some (.cells #[.int .i64 x.1, .int .i64 x.2] 49 (0, 0)) := (hg2.block _ (Array.getElem?_eq_some_iff.1 hx1).1 (by intro e; injection e with e; omega)).trans hx1
  have hrow1 := hrow.alloc (.cells #[.int .i64 x.1, .int .i64 x.2] 49)
  rw [hW1] at hrow1
  have hrow2 := hrow1.kept hg2 (ownsRow_ne_a hrow1 hL1 (fun cur e => by cases e))
  obtain ⟨hc2, hf2⟩ := cell_of_box_a (show W2.heap[Bs]? = some (.cells #[v] 23 (0, 0)) from hv2)
  have ha2 : W2.cell? ⟨W.heap.size, 0, none⟩ = some (.int .i64 x.1) := by simp [World.cell?, hx2]
  have hb2 : W2.cell? ⟨W.heap.size, 1, none⟩ = some (.int .i64 x.2) := by simp [World.cell?, hx2]
  have hne : (23 : TypeId) ≠ 49 := by decide
  have i46 : (Tryz.prog.info? 49).map (fun i => (i.zero, i.size, i.bytes)) = some (some (.agg #[.int .i64 0, .int .i64 0]), 2, 16) := by kernel_rfl
  obtain ⟨i0, hi, hz0, hz1, hz2⟩ := info_parts i46
  have hb1' : Below w0.heap.size w0 W1 := by rw [← hW1]; exact h.below.alloc h.below.size _
  have hb2' : Below w0.heap.size w0 W2 := hb1'.grown hg2 hb1'.size (fun k e => by cases e; exact h0l)
  gi_wp2_with (first
    | (gi_at_builtin; refine wpListIn_append_own _ rfl _ _ 23 rfl w0.heap.size 49 i0 (.agg #[.int .i64 0, .int .i64 0]) 2 16 Tryz.underlying23 hi hz0 hz1 hz2 rfl (by decide) _ _ _ rfl (hrow2.alloc _) ⟨W2.heap.size, 0, none⟩ 1 1 [.int .i64 x.1, .int .i64 x.2] rfl rfl (new_cells W2 x) (by simp [Value.oneCell']) (by omega) (by omega) (by have := hb2'.size; simp; omega) ?_; intro v' w3 hown' hg3 hnil3
       have hv3 : Boxed w3 Bs 23 v := (hv2.alloc _).kept hg3 (show some Bs ≠ v.ownBlock from hv2.not_row hne hrow2)
       obtain ⟨hc3, hf3⟩ := cell_of_box_a (show w3.heap[Bs]? = some (.cells #[v] 23 (0, 0)) from hv3)
       obtain ⟨g', cap', rfl⟩ := ownsRow_succ hown'
       go_frame)
    | gi_round_op_a)
  have hne' : ∀ {j : Nat} {o : Obj}, W2.heap[j]? = some o → (∀ cur, o ≠ .cells cur 49 (0, 0)) → some j ≠ v.ownBlock := fun hj hno => by
    rcases ownsRow_ne_a hrow2 hj hno with e | e
    · rw [e]; simp
    · exact fun e' => e e'.symm
  have hL2 : W2.heap[l]? = some (.loop { apRec fn sv Bs D .ready none with state := .busy }) := by rw [← hW2]; exact World.putObj_heap_same hl1
  have hK1 : W1.heap[D]? = some (.deferred (some [])) := by rw [← hW1]; exact (Below.heap_alloc _ _ _ hDs).trans h.K
  have hK2 : W2.heap[D]? = some (.deferred (some [])) := by rw [← hW2]; exact (World.putObj_heap_other hDl).trans hK1
  have hg3' : (W2.alloc (.cells #[.int .i64 x.1, .int .i64 x.2] 49)).grownBy w3 v.ownBlock := hg3
  have hl2 : l < W2.heap.size := (Array.getElem?_eq_some_iff.1 hL2).1
  have hDlt : D < W2.heap.size := (Array.getElem?_eq_some_iff.1 hK2).1
  have hL3 : w3.heap[l]? = some (.loop { apRec fn sv Bs D .ready none with state := .busy }) := (hg3'.block l (by simp; omega) (hne' hL2 (fun cur e => by cases e))).trans ((Below.heap_alloc _ _ l hl2).trans hL2)
  have hK3 : w3.heap[D]? = some (.deferred (some [])) := (hg3'.block D (by simp; omega) (hne' hK2 (fun cur e => by cases e))).trans ((Below.heap_alloc _ _ D hDlt).trans hK2)
  have hk2 : KeepsWalks W W2 := by rw [← hW2]; rw [← hW1]; exact (KeepsWalks.alloc _ _).trans (KeepsWalks.putObj _ (by rw [hW1]; exact hL1) rfl)
  obtain ⟨w4, hw4⟩ : ∃ w4, w3.setCell ⟨Bs, 0, none⟩ (.slice (some ⟨g', 0, none⟩) (ss.length + 1) cap') = w4 := ⟨_, rfl⟩
  rw [hw4]
  have hg4 : w3.grownBy w4 (some Bs) := by rw [← hw4]; exact grownBy_setCell0_a _ _ _
  have hv4 : Boxed w4 Bs 23 (.slice (some ⟨g', 0, none⟩) (ss.length + 1) cap') := by rw [← hw4]; exact hv3.set _
  have hL4 : w4.heap[l]? = some (.loop { apRec fn sv Bs D .ready none with state := .busy }) := (hg4.block l (Array.getElem?_eq_some_iff.1 hL3).1 (fun e => hBl (by cases e; rfl))).trans hL3
  have hK4 : w4.heap[D]? = some (.deferred (some [])) := (hg4.block D (Array.getElem?_eq_some_iff.1 hK3).1 (fun e => hDB (by cases e; rfl))).trans hK3
  have hrow4 := hown'.kept hg4 (ownsRow_ne_a hown' (show w3.heap[Bs]? = some (.cells #[v] 23 (0, 0)) from hv3) (fun cur e => hne (Obj.cells.inj e).2.1))
  have hl4 : l < w4.heap.size := (Array.getElem?_eq_some_iff.1 hL4).1
  have hb3 : Below w0.heap.size w0 w3 := (hb2'.alloc hb2'.size _).grown hg3' (by have := hb2'.size; simp; omega) (fun k e => (hrow2.lt k e).1)
  have hb4 : Below w0.heap.size w0 w4 := hb3.grown hg4 hb3.size (fun k e => by cases e; exact h0B)
  have hk4 : KeepsWalks W w4 := ((hk2.trans (KeepsWalks.alloc _ _)).trans (KeepsWalks.of_grownBy hg3' (ownsRow_not_walk_a (hrow2.alloc _)))).trans (by rw [← hw4]; exact KeepsWalks.setCell _ _ _)
  clear hw4
  refine ⟨_, _, run_endRound none hL4, rfl, ⟨⟨_, hv4.kept (grownBy_putObj_a w4 l _) (by simpa using hBl), ?_, by simp⟩, World.putObj_heap_same hl4, (World.putObj_heap_other hDl).trans hK4, hb4.grown (grownBy_putObj_a _ _ _) hb4.size (fun k e => by cases e; exact h0l)⟩, hk4.trans (KeepsWalks.putObj _ hL4 rfl)⟩
  have := hrow4.kept (grownBy_putObj_a w4 l (.loop { { apRec fn sv Bs D .ready none with state := .busy } with state := if (none : Option Code).isNone then .ready else .done, pending := none })) (ownsRow_ne_a hrow4 hL4 (fun cur e => by cases e))
  simpa [List.flatMap_append] using this
set_option maxHeartbeats 2000000 in
theorem appendSeq_nm (F : Fence) (n : Nat) (h11 : F.fn 176) (hro : F.round = none) (hn : 2 ≤ n) (g : Nat) (lb : Array Value) (hFg : F.fn g) (eg : ∀ args w, (callFunc g args).run Tryz.prog w = .ok (.enter g args) w)
    (S : List (Int × Int) → Prop) (N : Nat) (hN : N ≤ maxLen) (hNb : N * 16 ≤ 140737488355328) (w : World) (hseq : SeqGives F (n - 1) Tryz.prog g lb encNm S N w) :
    CallsIn F n Tryz.prog 176 #[.slice none 0 0, .func (.func g) #[] lb] w fun e w' => ∃ (v : Value) (ss : List (Int × Int)), e = .returned v ∧ S ss ∧ w'.ownsRow w.heap.size 49 2 v ss.length (ss.flatMap nmCells) ∧ (v = .slice none 0 0 ↔ ss = []) ∧ Below w.heap.size w w' := by
  have h1 : 1 ≤ n := by omega
  have hne : (23 : TypeId) ≠ 49 := by decide
  have u46 := run_underlying (P := Tryz.prog) Tryz.underlying49
  have u54 := run_underlying (P := Tryz.prog) Tryz.underlying23
  refine callsIn_of_wp_marks Tryz.func176 rfl h11 ?_ hro
  obtain ⟨ap, hap⟩ : ∃ ap, apParts = ap := ⟨_, rfl⟩
  simp only [Tryz.f176, List.size_toArray, List.length_cons, List.length_nil, Nat.reduceAdd, Nat.reduceSub, Array.replicate_succ, Array.replicate_zero, List.push_toArray, List.append_toArray, List.nil_append, List.cons_append]
  gi_wp2
  refine wpIn_rangeFunc ?_
  intro fn hfn
  rw [hro]
  obtain ⟨W0, hW0⟩ : ∃ W0, w.alloc (.cells #[.slice none 0 0] 23) = W0 := ⟨_, rfl⟩
  have hs0 : W0.heap.size = w.heap.size + 1 := by rw [← hW0]; simp
  have hv0 : W0.heap[w.heap.size]? = some (.cells #[.slice none 0 0] 23 (0, 0)) := by rw [← hW0]; exact World.alloc_heap_new w _
  have hb0 : Below w.heap.size w W0 := by rw [← hW0]; exact (Below.refl _ w).alloc (Nat.le_refl _) _
  rw [hW0]
  obtain ⟨W1, hW1⟩ : ∃ W1, (W0.alloc (.deferred (some []))).alloc (.loop (apRec fn (.func (.func g) #[] lb) w.heap.size W0.heap.size .ready none)) = W1 := ⟨_, rfl⟩
  have hold : ∀ k, k < W0.heap.size → W1.heap[k]? = W0.heap[k]? := fun k hk => by
    rw [← hW1]; exact (Below.heap_alloc _ _ k (by simp; omega)).trans (Below.heap_alloc _ _ k hk)
  have hb1 : Below w.heap.size w W1 := by rw [← hW1]; exact (hb0.alloc hb0.size _).alloc (by have := hb0.size; simp; omega) _
  have hs1 : W1.heap.size = W0.heap.size + 2 := by rw [← hW1]; simp
  have hM : ApAt w fn (.func (.func g) #[] lb) w.heap.size (W0.heap.size + 1) W0.heap.size [] W1 :=
    ⟨⟨_, (hold w.heap.size (by omega)).trans hv0, ⟨rfl, .inl ⟨rfl, rfl⟩⟩, by simp⟩,
     by rw [← hW1]; have := World.alloc_heap_new (W0.alloc (.deferred (some []))) (.loop (apRec fn (.func (.func g) #[] lb) w.heap.size W0.heap.size .ready none)); rwa [World.size_alloc] at this,
     by rw [← hW1]; exact (Below.heap_alloc _ _ _ (by simp)).trans (World.alloc_heap_new W0 _), hb1⟩
  refine ⟨W0.heap.size + 1, [{ target := .collected W0.heap.size, args := #[] }], W1, { target := .fn (.func g) lb, args := #[.func (.yield (W0.heap.size + 1)) #[] #[]] }, W1, g,
    #[.func (.yield (W0.heap.size + 1)) #[] #[]] ++ lb, W1, ?_, ?_, ?_, ?_, fun _ => h1, ?_⟩
  · rw [← hW1]; exact run_enterLoop_outer _ _ _ _ _
  · simp [resolve, go_sem]
  · intro f' hf'; simp [Target.leads] at hf'; subst hf'; exact hFg
  · simp [invoke, go_sem, eg]
  · refine (hseq (W0.heap.size + 1) (ApAt w fn (.func (.func g) #[] lb) w.heap.size (W0.heap.size + 1) W0.heap.size) W1 hb1 (ap_abides _ _ _ _ _ _ _ hb1.size)
      (fun pre x W hJ hl => apYield F (n - 1 - 1) w fn hfn _ w.heap.size (W0.heap.size + 1) W0.heap.size (by omega) (by omega) (by omega) (Nat.le_refl _) (by omega) N hN hNb pre x W hJ hl) hM).mono ?_
    rintro e W2 ⟨⟨v0, rfl⟩, ss, hS, h2⟩
    obtain ⟨v, hv, hrow, hnil⟩ := h2.box
    have hend := run_endLoop (P := Tryz.prog) h2.L (by simp [apRec])
    obtain ⟨W3, hW3⟩ : ∃ W3, W2.putObj (W0.heap.size + 1) (.loop { apRec fn (.func (.func g) #[] lb) w.heap.size W0.heap.size .ready none with state := .exhausted }) = W3 := ⟨_, rfl⟩
    rw [hW3] at hend
    have hg3 : W2.grownBy W3 (some (W0.heap.size + 1)) := by rw [← hW3]; exact grownBy_putObj_a _ _ _
    have hv3 : W3.heap[w.heap.size]? = some (.cells #[v] 23 (0, 0)) := by rw [← hW3]; exact (World.putObj_heap_other (by omega)).trans hv
    have hK3 : W3.heap[W0.heap.size]? = some (.deferred (some [])) := by rw [← hW3]; exact (World.putObj_heap_other (by omega)).trans h2.K
    have hrow3 := hrow.kept hg3 (ownsRow_ne_a hrow h2.L (fun cur e => by cases e))
    have hb3 : Below w.heap.size w W3 := h2.below.grown hg3 h2.below.size (fun k e => by cases e; omega)
    obtain ⟨hc3, hf3⟩ := cell_of_box_a hv3
    clear hW3
    refine ⟨none, W3, hend, ?_⟩
    gi_wp2
    rw [← hs0]
    refine ⟨by simp, .inl ⟨_, _, rfl, run_takeDeferred hK3, ?_⟩⟩
    exact ⟨_, results_tmp rfl _ _ _, v, ss, rfl, hS, hrow3.kept (grownBy_putObj_a _ _ _) (ownsRow_ne_a hrow3 hK3 (fun cur e => by cases e)), hnil, hb3.grown (grownBy_putObj_a _ _ _) hb3.size (fun k e => by cases e; omega)⟩
set_option maxHeartbeats 1000000 in
theorem collect_nm (F : Fence) (n : Nat) (h8 : F.fn 139) (h11 : F.fn 176) (hro : F.round = none) (hn : 3 ≤ n) (g : Nat) (lb : Array Value) (hFg : F.fn g) (eg : ∀ args w,(callFunc g args).run Tryz.prog w = .ok (.enter g args) w)
  (S : List (Int × Int) → Prop) (N : Nat) (hN : N ≤ maxLen) (hNb : N * 16 ≤ 140737488355328) (w : World) (hseq : SeqGives F (n - 1 - 1) Tryz.prog g lb encNm S N w) :
  CallsIn F n Tryz.prog 139 #[.func (.func g) #[] lb] w fun e w' => ∃ (v : Value) (ss : List (Int × Int)),e = .returned v ∧ S ss ∧ w'.ownsRow w.heap.size 49 2 v ss.length (ss.flatMap nmCells) ∧ (v = .slice none 0 0 ↔ ss = []) ∧ Below w.heap.size w w' := by
 have h1 : 1 ≤ n := by omega
 have e11 : ∀ args w,(callFunc 176 args).run Tryz.prog w = .ok (.enter 176 args) w := enters_of Tryz.func176 (by kernel_rfl) rfl
 have u46 := run_underlying (P := Tryz.prog) Tryz.underlying49
 have u54 := run_underlying (P := Tryz.prog) Tryz.underlying23
 refine callsIn_of_wp Tryz.func139 rfl h8 ?_ hro
 simp only [Tryz.f139,List.size_toArray,List.length_cons,List.length_nil,Nat.reduceAdd,Nat.reduceSub,Array.replicate_succ,Array.replicate_zero,List.push_toArray,List.append_toArray,List.nil_append,List.cons_append]
 gi_wp2_with (gi_at_fn 176; refine (appendSeq_nm F (n - 1) h11 hro (by omega) g lb hFg eg S N hN hNb _ hseq).mono ?_; rintro e w' ⟨v,ss,rfl,hS,hrow,hnil,hb⟩)
 go_ret
 exact ⟨v,ss,rfl,hS,hrow,hnil,hb⟩
end Go.Proofs.YtelpjaejmneplaaGreatDoor.Am
namespace Go.Proofs.YtelpjaejmneplaaGreatDoor.Am
open Go Go.Proofs Go.Shelf
def sortNm_ren : Go.Shelf.Ren := ⟨fun | 6 => 116 | 15 => 158 | 14 => 157 | 28 => 195 | 29 => 196 | 20 => 187 | 21 => 188 | 22 => 189 | 23 => 190 | 24 => 191 | 25 => 192 | 26 => 193 | 27 => 194 | 46 => 206 | 47 => 207 | 48 => 208 | 49 => 209 | 50 => 210 | 57 => 216 | n => n,fun | 22 => 23 | 24 => 49 | 25 => 137 | 3 => 3 | 39 => 194 | 0 => 0 | 53 => 230 | 55 => 232 | 4 => 4 | 46 => 223 | 45 => 222 | 50 => 227 | 5 => 5 | 9 => 9 | 66 => 241 | 70 => 245 | 76 => 251 | 77 => 252 | n => n,fun | n => n⟩
theorem sortNm : Go.Proofs.SlLaysF0.n6 Tryz.prog sortNm_ren := {
 mixed := by kernel_rfl
 f6 := ⟨Tryz.f116.name,by decide,Tryz.func116.trans (congrArg some (by kernel_rfl))⟩
 f14 := ⟨Tryz.f157.name,by decide,Tryz.func157.trans (congrArg some (by kernel_rfl))⟩
 f15 := Tryz.func158.trans (congrArg some (by kernel_rfl))
 f20 := ⟨Tryz.f187.name,by decide,Tryz.func187.trans (congrArg some (by kernel_rfl))⟩
 f21 := ⟨Tryz.f188.name,by decide,Tryz.func188.trans (congrArg some (by kernel_rfl))⟩
 f22 := ⟨Tryz.f189.name,by decide,Tryz.func189.trans (congrArg some (by kernel_rfl))⟩
 f23 := ⟨Tryz.f190.name,by decide,Tryz.func190.trans (congrArg some (by kernel_rfl))⟩
 f24 := ⟨Tryz.f191.name,by decide,Tryz.func191.trans (congrArg some (by kernel_rfl))⟩
 f25 := ⟨Tryz.f192.name,by decide,Tryz.func192.trans (congrArg some (by kernel_rfl))⟩
 f26 := ⟨Tryz.f193.name,by decide,Tryz.func193.trans (congrArg some (by kernel_rfl))⟩
 f27 := ⟨Tryz.f194.name,by decide,Tryz.func194.trans (congrArg some (by kernel_rfl))⟩
 f28 := Tryz.func195.trans (congrArg some (by kernel_rfl))
 f29 := Tryz.func196.trans (congrArg some (by kernel_rfl))
 f46 := ⟨Tryz.f206.name,by decide,Tryz.func206.trans (congrArg some (by kernel_rfl))⟩
 f47 := Tryz.func207.trans (congrArg some (by kernel_rfl))
 f48 := Tryz.func208.trans (congrArg some (by kernel_rfl))
 f49 := ⟨Tryz.f209.name,by decide,Tryz.func209.trans (congrArg some (by kernel_rfl))⟩
 f50 := ⟨Tryz.f210.name,by decide,Tryz.func210.trans (congrArg some (by kernel_rfl))⟩
 f57 := ⟨Tryz.f216.name,by decide,Tryz.func216.trans (congrArg some (by kernel_rfl))⟩
 t0 := Tryz.underlying0
 a0 := Tryz.isAgg0
 z0 := Tryz.sizeOf0
 v0 := Tryz.zeroValue0
 t3 := Tryz.underlying3
 a3 := Tryz.isAgg3
 z3 := Tryz.sizeOf3
 v3 := Tryz.zeroValue3
 t4 := Tryz.underlying4
 a4 := Tryz.isAgg4
 z4 := Tryz.sizeOf4
 v4 := Tryz.zeroValue4
 t5 := Tryz.underlying5
 a5 := Tryz.isAgg5
 z5 := Tryz.sizeOf5
 v5 := Tryz.zeroValue5
 t9 := Tryz.underlying9
 a9 := Tryz.isAgg9
 z9 := Tryz.sizeOf9
 v9 := Tryz.zeroValue9
 t22 := Tryz.underlying23
 a22 := Tryz.isAgg23
 z22 := Tryz.sizeOf23
 v22 := Tryz.zeroValue23
 t25 := Tryz.underlying137
 a25 := Tryz.isAgg137
 z25 := Tryz.sizeOf137
 v25 := Tryz.zeroValue137
 t39 := Tryz.underlying194
 a39 := Tryz.isAgg194
 z39 := Tryz.sizeOf194
 v39 := Tryz.zeroValue194
 t45 := Tryz.underlying222
 a45 := Tryz.isAgg222
 z45 := Tryz.sizeOf222
 v45 := Tryz.zeroValue222
 t46 := Tryz.underlying223
 a46 := Tryz.isAgg223
 z46 := Tryz.sizeOf223
 v46 := Tryz.zeroValue223
 t50 := Tryz.underlying227
 a50 := Tryz.isAgg227
 z50 := Tryz.sizeOf227
 v50 := Tryz.zeroValue227
 t53 := Tryz.underlying230
 a53 := Tryz.isAgg230
 z53 := Tryz.sizeOf230
 v53 := Tryz.zeroValue230
 t55 := Tryz.underlying232
 a55 := Tryz.isAgg232
 z55 := Tryz.sizeOf232
 v55 := Tryz.zeroValue232
 t66 := Tryz.underlying241
 a66 := Tryz.isAgg241
 z66 := Tryz.sizeOf241
 v66 := Tryz.zeroValue241
 t70 := Tryz.underlying245
 a70 := Tryz.isAgg245
 z70 := Tryz.sizeOf245
 v70 := Tryz.zeroValue245
 t76 := Tryz.underlying251
 a76 := Tryz.isAgg251
 z76 := Tryz.sizeOf251
 v76 := Tryz.zeroValue251
 t77 := Tryz.underlying252
 a77 := Tryz.isAgg252
 z77 := Tryz.sizeOf252
 v77 := Tryz.zeroValue252 }
def cloneNm_ren : Go.Shelf.Ren := ⟨fun | 5 => 142 | 7 => 177 | n => n,fun | 23 => 134 | 25 => 49 | 3 => 60 | 4 => 4 | 20 => 20 | n => n,fun | n => n⟩
theorem cloneNm : Go.Proofs.SlLaysW.n5 Tryz.prog cloneNm_ren := {
 mixed := by kernel_rfl
 f5 := ⟨Tryz.f142.name,by decide,Tryz.func142.trans (congrArg some (by kernel_rfl))⟩
 f7 := Tryz.func177.trans (congrArg some (by kernel_rfl))
 t4 := Tryz.underlying4
 a4 := Tryz.isAgg4
 z4 := Tryz.sizeOf4
 v4 := Tryz.zeroValue4
 t20 := Tryz.underlying20
 a20 := Tryz.isAgg20
 z20 := Tryz.sizeOf20
 v20 := Tryz.zeroValue20
 t23 := Tryz.underlying134
 a23 := Tryz.isAgg134
 z23 := Tryz.sizeOf134
 v23 := Tryz.zeroValue134 }
end Go.Proofs.YtelpjaejmneplaaGreatDoor.Am
namespace Go.Proofs.YtelpjaejmneplaaGreatDoor.Am
open Go Go.Proofs Go.RowKit Go.Maps Go.Sort Go.Shelf Go.ChangeMaps
theorem ordF_ltOf : ltOf ordF = nless := by
 funext x y
 exact ordF_lt x y
theorem ordF_swo : SWO (ltOf ordF) := by
 rw [ordF_ltOf]
 exact ⟨nless_irrefl,fun _ _ _ h h' => nless_trans h h',fun x y z h h' => by
  simp only [nless,Bool.or_eq_false_iff,Bool.and_eq_false_iff,decide_eq_false_iff_not] at *; omega⟩
theorem flatK_nm (d : Array Nm) : (flatK nmCells 2 d).toList = d.toList.flatMap nmCells := by
 have key : ∀ (l : List Nm) (t : Nat),(l.flatMap nmCells)[t]? = if t < l.length * 2 then some ((nmCells (l[t / 2]?.getD default))[t % 2]!) else none := by
  intro l
  induction l with
  | nil => intro t; simp
  | cons x r ih =>
   intro t
   match t with
   | 0 => simp [nmCells]
   | 1 => simp [nmCells]; omega
   | t + 2 =>
    have h1 : ((x :: r).flatMap nmCells)[t + 2]? = (r.flatMap nmCells)[t]? := by simp [nmCells]
    have h2 : (t + 2) / 2 = t / 2 + 1 := by omega
    have h3 : (t + 2) % 2 = t % 2 := by omega
    rw [h1,ih t,h2,h3]
    simp only [List.length_cons,List.getElem?_cons_succ]
    by_cases h : t < r.length * 2
    ·rw [if_pos h,if_pos (by omega)]
    ·rw [if_neg h,if_neg (by omega)]
 apply List.ext_getElem?
 intro t
 rw [key]
 unfold flatK
 simp only [Array.toList_map,List.getElem?_map,Array.toList_range,List.getElem?_range]
 by_cases h : t < d.size * 2
 ·rw [List.getElem?_range h,if_pos (by simpa using h)]
  simp only [Option.map_some]
  have : d[t / 2]! = d.toList[t / 2]?.getD default := by
   have h' : t / 2 < d.size := by omega
   simp [h']
  rw [this]
 ·rw [List.getElem?_eq_none (by simp; omega),if_neg (by simpa using h)]; rfl
theorem holds_nm {w : World} {g : Nat} {cur : Array Value} {e : TypeId} {ss : List Nm} (hb : w.heap[g]? = some (.cells cur e (0,0))) (ht : cur.toList.take (ss.length * 2) = ss.flatMap nmCells) : HoldsK nmCells 2 w g 0 ss.toArray := by
 intro j hj
 rw [size_flatK] at hj
 have hj' : j < ss.length * 2 := by simpa using hj
 refine ⟨?_,by simp [World.frozen?,hb]⟩
 have h1 : (cur.toList.take (ss.length * 2))[j]? = (ss.flatMap nmCells)[j]? := by rw [ht]
 rw [List.getElem?_take_of_lt hj'] at h1
 have h2 : (ss.flatMap nmCells)[j]? = (flatK nmCells 2 ss.toArray)[j]? := by rw [← Array.getElem?_toList,flatK_nm]
 simp only [World.cell?,hb,Nat.zero_add]
 simp only [Option.isSome_none,Bool.false_eq_true,if_false]
 rw [← Array.getElem?_toList,h1,h2]
 have h3 : j < (flatK nmCells 2 ss.toArray).size := by rw [size_flatK]; simpa using hj'
 rw [Array.getElem?_eq_getElem h3,getElem!_pos _ j h3]; rfl
theorem heap_sortedV {w : World} {g n : Nat} {os : Array Obj} {cur : Array Value} {e : TypeId} {fr : Nat × Nat} (d : Array Value) (hb : w.heap[g]? = some (.cells cur e fr)) :
  (grow (putRow id (Sort.ahead w n) g 0 d) os).heap[g]? = some (.cells (putCells id 0 d cur) e fr) := by
 have hg : g < w.heap.size := (Array.getElem?_eq_some_iff.1 hb).1
 rw [heap_grow_old _ _ (by simpa using hg)]
 simp [putRow,mapBlock,Sort.ahead,Array.getElem?_modify,hb,onCells]
theorem grownBy_sortedV {w : World} {g n : Nat} {os : Array Obj} (d : Array Value) : w.grownBy (grow (putRow id (Sort.ahead w n) g 0 d) os) (some g) := by
 refine ⟨rfl,rfl,rfl,by simp,fun k hk hne => ?_⟩
 rw [heap_grow_old _ _ (by simpa using hk)]
 have : g ≠ k := fun e => hne (by rw [e])
 simp [putRow,mapBlock,Sort.ahead,Array.getElem?_modify,this]
theorem take_putCellsV (cur : Array Value) (ts : Array Value) (h : ts.size ≤ cur.size) : (putCells id 0 ts cur).toList.take ts.size = ts.toList := by
 apply List.ext_getElem?
 intro j
 by_cases hj : j < ts.size
 ·rw [List.getElem?_take_of_lt hj,Array.getElem?_toList]
  simp [putCells,hj,show j < cur.size by omega]
 ·rw [List.getElem?_take_eq_none (by omega),List.getElem?_eq_none (by simp; omega)]
theorem ownsRow_sortedV {w : World} {base g cap n : Nat} {e : TypeId} {os : Array Obj} {cur : Array Value} {d : Array Nm} {m : Nat} (hl : d.size = m) (hbase : base ≤ g) (hb : w.heap[g]? = some (.cells cur e (0,0)))
  (h1 : m ≤ cap) (h2 : cap ≤ maxLen) (h3 : cur.size = cap * 2) :
  (sortWorldK nmCells 2 w g 0 n d os).ownsRow base e 2 (.slice (some ⟨g,0,none⟩) m cap) m (d.toList.flatMap nmCells) := by
 subst hl
 refine ⟨by rw [← flatK_nm]; simp,.inr ⟨g,cap,_,rfl,hbase,heap_sortedV _ hb,h1,h2,by simp [putCells,h3],?_⟩⟩
 have := take_putCellsV cur (flatK nmCells 2 d) (by rw [size_flatK,h3]; omega)
 rw [size_flatK,flatK_nm] at this
 exact this
theorem sorted_is {d d' : Array Nm} (hp : PermIn 0 d.size d d') (hs : SortedIn (ltOf ordF) 0 d.size d') : d'.toList = sortN d.toList := by
 obtain ⟨h1,_,h2⟩ := hp
 have hp : d'.toList.Perm d.toList := by
  have e1 : d'.extract 0 d.size = d' := by rw [← h1]; exact Array.extract_size
  have e2 : d.extract 0 d.size = d := Array.extract_size
  rw [e1,e2] at h2; exact h2
 refine (sortN_of ?_ hp.symm).symm
 refine List.pairwise_iff_getElem.2 fun i j hi hj hij => ?_
 have hi' : i < d'.size := by simpa using hi
 have hj' : j < d'.size := by simpa using hj
 have := hs i j (Nat.zero_le _) hij (by omega)
 rw [ordF_ltOf,getElem!_pos d' i hi',getElem!_pos d' j hj'] at this
 simpa using this
theorem less_nm (x y : Nm) (W : World) : Calls Tryz.prog 81 #[encNm x,encNm y] W fun e w' => e = .returned (.bool (nless x y)) ∧ ∃ q os',w' = grow (W.drewN q) os' := by
 go_enter Tryz.func81,Tryz.ntmps81
 go_wp2
 all_goals go_ret
 all_goals refine ⟨?_,0,_,by rw [alloc_eq_grow,alloc_eq_grow,grow_grow]; rfl⟩
 all_goals show Ending.returned (Value.bool _) = Ending.returned (Value.bool _)
 all_goals congr 2
 all_goals simp_all [nless]
theorem cell_grow {w : World} {os : Array Obj} {a : Addr} {v : Value} (h : w.cell? a = some v) (hb : a.block < w.heap.size) : (grow w os).cell? a = some v := by
 have e : (grow w os).heap[a.block]? = w.heap[a.block]? := heap_grow_old _ _ hb
 rw [← h]
 simp only [World.cell?,e]
theorem order_nm (x y : Nm) (W : World) : Calls Tryz.prog 95 #[encNm x,encNm y] W fun e w' => e = .returned (.int .i64 (ordF x y)) ∧ ∃ q os',w' = grow (W.drewN q) os' := by
 have h := less_nm x y
 go_enter Tryz.func95,Tryz.ntmps95
 obtain ⟨W1,hW1⟩ : ∃ W1,(W.alloc (.cells #[.int .i64 x.1,.int .i64 x.2] 49)).alloc (.cells #[.int .i64 y.1,.int .i64 y.2] 49) = W1 := ⟨_,rfl⟩
 have b0 : W.heap.size < W1.heap.size := by rw [← hW1]; simp; omega
 have b1 : W.heap.size + 1 < W1.heap.size := by rw [← hW1]; simp
 have c0 : W1.cell? ⟨W.heap.size,0,none⟩ = some (.int .i64 x.1) := by rw [← hW1]; simp [go_sem]
 have c1 : W1.cell? ⟨W.heap.size,1,none⟩ = some (.int .i64 x.2) := by rw [← hW1]; simp [go_sem]
 have c2 : W1.cell? ⟨W.heap.size + 1,0,none⟩ = some (.int .i64 y.1) := by rw [← hW1]; simp [go_sem]
 have c3 : W1.cell? ⟨W.heap.size + 1,1,none⟩ = some (.int .i64 y.2) := by rw [← hW1]; simp [go_sem]
 go_wp2_with (go_at_call 81; rw [hW1])
 refine (h _).mono ?_
 rintro e w' ⟨rfl,hE⟩
 have d0 : w'.cell? ⟨W.heap.size,0,none⟩ = some (.int .i64 x.1) := by obtain ⟨q,os',rfl⟩ := hE; exact cell_grow (w := W1.drewN q) c0 b0
 have d1 : w'.cell? ⟨W.heap.size,1,none⟩ = some (.int .i64 x.2) := by obtain ⟨q,os',rfl⟩ := hE; exact cell_grow (w := W1.drewN q) c1 b0
 have d2 : w'.cell? ⟨W.heap.size + 1,0,none⟩ = some (.int .i64 y.1) := by obtain ⟨q,os',rfl⟩ := hE; exact cell_grow (w := W1.drewN q) c2 b1
 have d3 : w'.cell? ⟨W.heap.size + 1,1,none⟩ = some (.int .i64 y.2) := by obtain ⟨q,os',rfl⟩ := hE; exact cell_grow (w := W1.drewN q) c3 b1
 have hF : ∃ q os',w' = grow (W.drewN q) os' := by
  obtain ⟨q,os',rfl⟩ := hE
  rw [← hW1,alloc_eq_grow,alloc_eq_grow,grow_grow]
  exact ⟨q,_,(grow_grow (W.drewN q) _ os')⟩
 clear hE hW1
 go_wp2
 all_goals go_ret
 all_goals refine ⟨?_,hF⟩
 all_goals show Ending.returned (Value.int .i64 _) = Ending.returned (Value.int .i64 _)
 all_goals congr 2
 all_goals (unfold ordF; simp [*,Prod.ext_iff])
theorem order_lays (blk off size : Nat) (w : World) : CmpLays Tryz.prog 95 #[] nmCells 2 ordF blk off size w :=
 fun _ _ _ _ x y => order_nm x y _
theorem keys_gives_nm (F : Fence) (n : Nat) (h : F.fn 140) (hro : F.round = none) (hn : 1 ≤ n) (Bm b : Nat) (es : Array MapEntry) (clock : Nat) (w : World) (hBm : Bm < w.heap.size)
  (hm : w.cell? ⟨Bm,0,none⟩ = some (.map (some b))) (hb : w.heap[b]? = some (.map es clock)) (hB : Born es clock) (hk : ∀ e ∈ es.toList,∃ v : Int × Int,e.key = encNm v) :
  SeqGives F n Tryz.prog 140 #[.pointer (some ⟨Bm,0,none⟩)] encNm (fun ks => (ks.map encNm).Perm (es.toList.map (·.key))) es.size w := fun l J W hW hJ hY h0 =>
 keys_walk F n h hro hn l Bm b es clock J hY W hJ ((hW.cell (p := ⟨Bm,0,none⟩) hBm).trans hm) ((hW.block b (Array.getElem?_eq_some_iff.1 hb).1).trans hb) hB h0 hk
set_option maxHeartbeats 1000000 in
theorem sorted_nm (Bm b : Nat) (es : Array MapEntry) (clock : Nat) (w : World) (hBm : Bm < w.heap.size)
  (hm : w.cell? ⟨Bm,0,none⟩ = some (.map (some b))) (hb : w.heap[b]? = some (.map es clock)) (hB : Born es clock) (hk : ∀ e ∈ es.toList,∃ v : Int × Int,e.key = encNm v) (hN : es.size ≤ 8796093022208) :
  Calls Tryz.prog 93 #[.func (.func 140) #[] #[.pointer (some ⟨Bm,0,none⟩)],.func (.func 95) #[] #[]] w fun e w' =>
   ∃ (v : Value) (ns : List Nm),e = .returned v ∧ (ns.map encNm).Perm (es.toList.map (·.key)) ∧ w'.ownsRow w.heap.size 49 2 v ns.length ((sortN ns).flatMap nmCells) ∧ (v = .slice none 0 0 ↔ ns = []) ∧ Below w.heap.size w w' := by
 have ek : ∀ args w,(callFunc 140 args).run Tryz.prog w = .ok (.enter 140 args) w := enters_of Tryz.func140 (by kernel_rfl) rfl
 have eo : ∀ args w,(callFunc 95 args).run Tryz.prog w = .ok (.enter 95 args) w := enters_of Tryz.func95 (by kernel_rfl) rfl
 have hseq := SeqGives.bounded (keys_gives_nm Fence.wide 4 trivial rfl (by omega) Bm b es clock w hBm hm hb hB hk)
 have cC := callsIn_wide.1 (collect_nm Fence.wide 6 trivial trivial rfl (by omega) 140 _ trivial ek _ es.size (by unfold maxLen; omega) (by omega) w hseq)
 have u46 := run_underlying (P := Tryz.prog) Tryz.underlying49
 have u54 := run_underlying (P := Tryz.prog) Tryz.underlying23
 go_enter Tryz.func93,Tryz.ntmps93
 go_wp2_with (go_at_call 139; refine cC.mono ?_; rintro e W ⟨v,ss,rfl,⟨hS,hlen⟩,hrow,hnil,hb⟩)
 rcases hrow.2 with ⟨rfl,hz⟩ | ⟨gb,cap,cur,rfl,hbase,hgb,r1,r2,r3,r4⟩
 ·have hss : ss = [] := List.eq_nil_of_length_eq_zero hz
  subst hss
  refine Calls.mono (show Calls Tryz.prog 116 #[.slice none 0 0,.func (.func 95) #[] #[]] W fun e w' => e = .returned (.tuple #[]) ∧ w' = W from AnyF.slices_SortFunc_none sortNm none 0 _ W) ?_
  rintro e w' ⟨rfl,rfl⟩
  go_wp2
  go_ret
  exact ⟨.slice none 0 0,[],rfl,hS,hrow,by simp,hb⟩
 ·have hH : HoldsK nmCells 2 W gb 0 ss.toArray := holds_nm hgb r4
  have hgl : gb < W.heap.size := (Array.getElem?_eq_some_iff.1 hgb).1
  have hsz : ss.toArray.size < 4611686018427387904 := by simp; omega
  have cS := AnyQ.slices_SortFunc sortNm 2 Tryz.isAgg49 Tryz.sizeOf49 nmCells (fun _ => rfl) (fun x v hv => by simp [nmCells] at hv; rcases hv with rfl | rfl <;> rfl) ordF ordF_swo 95 #[] gb 0 cap ss.toArray W eo (order_lays gb 0 _ W) hH hgl hsz
  change Calls Tryz.prog 116 _ _ _ at cS
  rw [List.size_toArray] at cS
  refine cS.mono ?_
  rintro e w' ⟨rfl,d',n,os,hp,hs,rfl⟩
  have hd := sorted_is (d := ss.toArray) (by simpa using hp) (by simpa using hs)
  have hds : d'.size = ss.length := by have := hp.1; simpa using this
  have ho := ownsRow_sortedV (n := n) (os := os) hds hbase hgb r1 r2 r3
  rw [hd] at ho
  have hbel : Below w.heap.size w (sortWorldK nmCells 2 W gb 0 n d' os) := hb.grown (grownBy_sortedV _) hb.size (fun j hj => by cases hj; exact hbase)
  generalize sortWorldK nmCells 2 W gb 0 n d' os = W' at ho hbel
  go_wp2
  go_ret
  exact ⟨_,ss,rfl,hS,ho,hnil,hbel⟩
end Go.Proofs.YtelpjaejmneplaaGreatDoor.Am
namespace Go.Proofs.YtelpjaejmneplaaGreatDoor.Am
open Go Go.Proofs Go.RowKit Go.Maps Go.Sort Go.Shelf
def decNm : Value → Nm
 | .agg a => match a.toList with
  | [Value.int _ x,Value.int _ y] => (x,y)
  | _ => (0,0)
 | _ => (0,0)
theorem natSF_ok {cfg : Cfg} (hc : ∀ f,cfg.conc f = f) : NatOk Tryz.prog cfg 93 (natSF 140 95) := by
 intro args σ v σ' h
 rw [hc]
 refine ⟨⟨_,Tryz.func93,by decide,rfl⟩,?_⟩
 obtain ⟨id,m,ks,ns,rfl,h1,h2,h3,hlen,h4⟩ := natSF_cases h
 intro E κ cargs hσ hR ha r w hw
 subst hσ
 cases ha with
 | cons _ _ _ _ _ a1 a2 =>
 cases a2 with
 | cons _ _ _ _ _ a2 a3 =>
 cases a3
 cases a2 with
 | func _ _ _ _ us us' b1 b2 =>
 cases b1; cases b2
 cases a1 with
 | func _ _ _ _ us us' b1 b2 =>
 cases b1
 cases b2 with
 | cons _ _ _ _ _ b1 b2 =>
 cases b2
 cases b1 with
 | ptr _ _ _ b hp =>
 obtain ⟨⟨_,hpd⟩,rfl⟩ := hp
 obtain ⟨hc1,vs,e,hb1,hvl⟩ := hR.obj id _ h1 hpd
 obtain ⟨cm,rfl,hm⟩ : ∃ cm,vs = #[cm] ∧ κ.V E cfg.conc m cm := by
  obtain ⟨l⟩ := vs
  cases hvl with
  | cons _ _ _ _ _ hv hl => cases hl; exact ⟨_,rfl,hv⟩
 obtain ⟨mb,es,clock,rfl,hmb,hkeys,hB⟩ := keysOf_ok hR hm h2
 have hks := nmsOf_eq h3
 subst hks
 have hke := nms_V hkeys
 have hel : es.size = ns.length := by
  have := congrArg List.length hke
  simpa using this
 obtain ⟨hwh,hwo,hwu⟩ := hw
 have hloc : κ.loc id < w.heap.size := by rw [hwh]; exact hR.hi id (K.live_of h1 hpd)
 have hcell : w.cell? ⟨κ.loc id,0,none⟩ = some (.map (some mb)) := by rw [cellAt_eq,hwh]; simp [cellAt,hb1]
 have con := sorted_nm (κ.loc id) mb es clock w hloc hcell (by rw [hwh]; exact hmb) hB (fun e he => by
  have : e.key ∈ es.toList.map (·.key) := List.mem_map.2 ⟨e,he,rfl⟩
  rw [hke] at this
  obtain ⟨n,_,hn⟩ := List.mem_map.1 this
  exact ⟨n,hn.symm⟩) (by rw [hel]; exact hlen)
 rw [hc,hc]
 refine Calls.mono con ?_
 rintro e w' ⟨v0,ns',rfl,hperm,hrow,hnil,hbel⟩
 simp only
 have hs : κ.h.size ≤ w'.heap.size := by rw [← hwh]; exact hbel.size
 have hh : ∀ b,b < κ.h.size → w'.heap[b]? = κ.h[b]? := fun b hb => by rw [← hwh]; exact hbel.block b (by rw [hwh]; exact hb)
 have hns : ns'.Perm ns := by
  rw [hke] at hperm
  have h := hperm.map decNm
  have e : ∀ l : List Nm,(l.map encNm).map decNm = l := fun l => by
   rw [List.map_map,show decNm ∘ encNm = _root_.id from funext fun a => rfl,List.map_id]
  have e' : (ns.map fun n => (Value.agg #[.int .i64 n.1,.int .i64 n.2])).map decNm = ns := e ns
  rw [e,e'] at h
  exact h
 rcases h4 with ⟨rfl,rfl,rfl⟩ | ⟨hne,rfl,rfl⟩
 ·have e0 : ns' = [] := List.perm_nil.1 hns
  rw [hnil.2 e0]
  exact ⟨κ.more w'.heap,⟨rfl,hbel.os.trans hwo,hbel.output.trans hwu⟩,rfl,K.more_le hR hs hh,K.more_R hR hs hh,.nilslice _⟩
 ·have hso : sortN ns' = sortN ns := up_one (sortN_up _) (sortN_up _) ((sortN_perm _).trans (hns.trans (sortN_perm _).symm))
  have hl' := hns.length_eq
  rcases hrow.2 with ⟨e1,_⟩ | ⟨g,cap,cur,rfl,hg,hgb,c1,c2,c3,c4⟩
  ·have := hnil.1 e1
   subst this
   exact (hne (List.nil_perm.1 hns)).elim
  ·have htake : cur.toList = (sortN ns).flatMap nmCells ++ cur.toList.drop (ns'.length * 2) := by
    rw [← hso,← c4,List.take_append_drop]
   obtain ⟨k1,k2⟩ := farArr_ok (es := (sortN ns).map nmV) hR hs hh (by rw [← hwh]; exact hg) hgb htake (by decide) (nms_elems _) (nms_VL _) (by simp [sortN_len]; omega) c3
   refine ⟨_,⟨rfl,hbel.os.trans hwo,hbel.output.trans hwu⟩,rfl,K.far_le hR hs hh g (by rw [← hwh]; exact hg) _,k1,?_⟩
   rw [hl']
   simpa [sortN_len] using k2
theorem natMC_ok {cfg : Cfg} (hc : ∀ f,cfg.conc f = f) : NatOk Tryz.prog cfg 142 natMC := by
 intro args σ v σ' h
 rw [hc]
 refine ⟨⟨_,Tryz.func142,by decide,rfl⟩,?_⟩
 obtain ⟨m,ks,vs,rfl,h1,rfl,rfl⟩ := natMC_cases h
 intro E κ cargs hσ hR ha r w hw
 subst hσ
 cases ha with
 | cons _ _ _ _ _ a1 a2 =>
 cases a2
 obtain ⟨b,es,clock,rfl,hb,hk,hv,hB⟩ := kvOf_ok hR a1 h1
 obtain ⟨hwh,hwo,hwu⟩ := hw
 refine Calls.mono (AnyW.maps_Clone cloneNm b es clock w (by rw [hwh]; exact hb)) ?_
 rintro e w' ⟨rfl,rfl⟩
 simp only
 refine ⟨κ.new (.map es clock) (.map ks vs),⟨by simp [World.alloc,K.new,hwh],hwo,hwu⟩,by simp [K.new],K.new_le hR _ _,
  K.new_R hR _ _ ⟨es,clock,by simp [K.new],K.VL.le hR.lb (K.new_le hR _ _) hk,K.VL.le hR.lb (K.new_le hR _ _) hv,hB⟩,?_⟩
 rw [hwh]
 exact .map _ _ _ ⟨⟨⟨ks,vs,by simp [K.new]⟩,hR.fresh⟩,by simp [K.new]⟩
theorem rorder_nm (x y : Nm) (W : World) : Calls Tryz.prog 117 #[encNm x,encNm y] W fun e w' => e = .returned (.int .i64 (ordF x y)) ∧ ∃ q os',w' = grow (W.drewN q) os' := by
 have h := less_nm x y
 go_enter Tryz.func117,Tryz.ntmps117
 obtain ⟨W1,hW1⟩ : ∃ W1,(W.alloc (.cells #[.int .i64 x.1,.int .i64 x.2] 49)).alloc (.cells #[.int .i64 y.1,.int .i64 y.2] 49) = W1 := ⟨_,rfl⟩
 have b0 : W.heap.size < W1.heap.size := by rw [← hW1]; simp; omega
 have b1 : W.heap.size + 1 < W1.heap.size := by rw [← hW1]; simp
 have c0 : W1.cell? ⟨W.heap.size,0,none⟩ = some (.int .i64 x.1) := by rw [← hW1]; simp [go_sem]
 have c1 : W1.cell? ⟨W.heap.size,1,none⟩ = some (.int .i64 x.2) := by rw [← hW1]; simp [go_sem]
 have c2 : W1.cell? ⟨W.heap.size + 1,0,none⟩ = some (.int .i64 y.1) := by rw [← hW1]; simp [go_sem]
 have c3 : W1.cell? ⟨W.heap.size + 1,1,none⟩ = some (.int .i64 y.2) := by rw [← hW1]; simp [go_sem]
 go_wp2_with (go_at_call 81; rw [hW1])
 refine (h _).mono ?_
 rintro e w' ⟨rfl,hE⟩
 have d0 : w'.cell? ⟨W.heap.size,0,none⟩ = some (.int .i64 x.1) := by obtain ⟨q,os',rfl⟩ := hE; exact cell_grow (w := W1.drewN q) c0 b0
 have d1 : w'.cell? ⟨W.heap.size,1,none⟩ = some (.int .i64 x.2) := by obtain ⟨q,os',rfl⟩ := hE; exact cell_grow (w := W1.drewN q) c1 b0
 have d2 : w'.cell? ⟨W.heap.size + 1,0,none⟩ = some (.int .i64 y.1) := by obtain ⟨q,os',rfl⟩ := hE; exact cell_grow (w := W1.drewN q) c2 b1
 have d3 : w'.cell? ⟨W.heap.size + 1,1,none⟩ = some (.int .i64 y.2) := by obtain ⟨q,os',rfl⟩ := hE; exact cell_grow (w := W1.drewN q) c3 b1
 have hF : ∃ q os',w' = grow (W.drewN q) os' := by
  obtain ⟨q,os',rfl⟩ := hE
  rw [← hW1,alloc_eq_grow,alloc_eq_grow,grow_grow]
  exact ⟨q,_,(grow_grow (W.drewN q) _ os')⟩
 clear hE hW1
 go_wp2
 all_goals go_ret
 all_goals refine ⟨?_,hF⟩
 all_goals show Ending.returned (Value.int .i64 _) = Ending.returned (Value.int .i64 _)
 all_goals congr 2
 all_goals (unfold ordF; simp [*,Prod.ext_iff])
theorem nms_us {cf : FuncId → FuncId} {h : Array Obj} {S : Nat → Nat → Prop} {I : Ids} : ∀ {ns : List Nm} {us : List Value},VRelL cf h S I ((ns.map nmV).flatMap AVal.cells) us → us = ns.flatMap nmCells
 | [],_,h => by cases h; rfl
 | n :: r,us,h => by
  rw [List.map_cons,List.flatMap_cons] at h
  have e : (nmV n).cells = [.int .i64 n.1,.int .i64 n.2] := rfl
  rw [e] at h
  simp only [List.cons_append,List.nil_append] at h
  cases h with
  | cons _ _ _ _ _ a h =>
  cases a
  cases h with
  | cons _ _ _ _ _ b h =>
  cases b
  rw [nms_us h]; rfl
theorem natSO_ok {cfg : Cfg} (hc : ∀ f,cfg.conc f = f) : NatOk Tryz.prog cfg 116 (natSO 117) := by
 intro args σ v σ' h
 rw [hc]
 refine ⟨⟨_,Tryz.func116,by decide,rfl⟩,?_⟩
 intro E κ cargs hσ hR ha r w hw
 subst hσ
 have eo : ∀ args w,(callFunc 117 args).run Tryz.prog w = .ok (.enter 117 args) w := enters_of Tryz.func117 (by kernel_rfl) rfl
 obtain ⟨hwh,hwo,hwu⟩ := hw
 rcases natSO_cases h with ⟨id,ep,ns,fl,rfl,h1,hpos,hlen,rfl,rfl⟩ | ⟨x,rfl,hx,rfl,rfl⟩
 ·cases ha with
  | cons _ _ _ _ _ a1 a2 =>
  cases a2 with
  | cons _ _ _ _ _ a2 a3 =>
  cases a3
  cases a2 with
  | func _ _ _ _ us us' b1 b2 =>
  cases b1; cases b2
  cases a1 with
  | slice _ _ _ _ _ _ _ b o cap hp =>
  obtain ⟨⟨hlc,hpd⟩,-,h0,es,epo,fl',hid,hep,hat⟩ := hp
  rw [h1] at hid
  cases hid
  obtain ⟨q1,q2,q3,vs,e,us,rest,hb,hvs,hl⟩ := hR.obj id _ h1 hpd
  obtain ⟨-,hAt,hwhole⟩ := hat q1
  have hone : b = κ.loc id ∧ o = 0 := by
   rcases hAt with ⟨e1,e2 | e2⟩ | ⟨e1,_⟩
   ·exact ⟨e1,by simpa using e2⟩
   ·omega
   ·omega
  obtain ⟨rfl,rfl⟩ := hone
  have hus := nms_us hl
  subst hus
  have hul : (ns.flatMap nmCells).length = ns.length * 2 := by
   have := flat_length q3
   have e : (ns.map nmV).flatMap AVal.cells = ns.flatMap fun n => (nmV n).cells := by rw [List.flatMap_map]
   have h2 := VL_len hl
   rw [this,List.length_map] at h2
   exact h2.symm
  have hwb : w.heap[κ.loc id]? = some (.cells vs e (0,0)) := by rw [hwh]; exact hb
  have htk : vs.toList.take (ns.length * 2) = ns.flatMap nmCells := by rw [hvs,← hul,List.take_left]
  have hH : HoldsK nmCells 2 w (κ.loc id) 0 ns.toArray := holds_nm hwb htk
  have hgl : κ.loc id < w.heap.size := (Array.getElem?_eq_some_iff.1 hwb).1
  have cS := AnyQ.slices_SortFunc sortNm 2 Tryz.isAgg49 Tryz.sizeOf49 nmCells (fun _ => rfl) (fun x v hv => by simp [nmCells] at hv; rcases hv with rfl | rfl <;> rfl) ordF ordF_swo 117 #[] (κ.loc id) 0 cap ns.toArray w eo (fun _ _ _ _ x y => rorder_nm x y _) hH hgl (by simp; omega)
  change Calls Tryz.prog 116 _ _ _ at cS
  rw [List.size_toArray] at cS
  rw [hc]
  refine cS.mono ?_
  rintro e' w' ⟨rfl,d',n,os,hp,hs,rfl⟩
  simp only
  have hd := sorted_is (d := ns.toArray) (by simpa using hp) (by simpa using hs)
  have hds : d'.size = ns.length := by have := hp.1; simpa using this
  have hfs : (flatK nmCells 2 d').size = ns.length * 2 := by rw [size_flatK,hds]
  have hvsz : ns.length * 2 ≤ vs.size := by rw [← Array.length_toList,hvs,List.length_append,hul]; omega
  have hnew := heap_sortedV (n := n) (os := os) (flatK nmCells 2 d') hwb
  have hgb := grownBy_sortedV (w := w) (g := κ.loc id) (n := n) (os := os) (flatK nmCells 2 d')
  have htake := take_putCellsV vs (flatK nmCells 2 d') (by rw [hfs]; exact hvsz)
  rw [hfs,flatK_nm,hd] at htake
  have hpsz : (putCells _root_.id 0 (flatK nmCells 2 d') vs).size = vs.size := by simp [putCells]
  change (sortWorldK nmCells 2 w (κ.loc id) 0 n d' os).heap[κ.loc id]? = _ at hnew
  change w.grownBy (sortWorldK nmCells 2 w (κ.loc id) 0 n d' os) _ at hgb
  generalize sortWorldK nmCells 2 w (κ.loc id) 0 n d' os = w' at hnew hgb
  generalize putCells _root_.id 0 (flatK nmCells 2 d') vs = vs' at hnew htake hpsz
  have hle : κ.Le (κ.upd id (.cells vs' e (0,0)) (.arr 2 ((sortN ns).map nmV) ep ep)) := by
   refine K.upd_le hR id _ _ _ h1 hpd ⟨_,ep,ep,K.upd_σ id _ _ _ h1,Nat.le_refl _,q1,by simp [sortN_len],fun _ => ⟨rfl,by simp [sortN_len],fun vs2 e2 f2 hv2 => ?_⟩,fun _ h => by omega,fun h => by omega⟩
   rw [K.upd_at hR id _ _ _ h1 hpd] at hv2
   cases hv2
   exact ⟨vs,e,(0,0),hb,hpsz⟩
  have hRu := K.upd_R hR id (.cells vs' e (0,0)) (.arr 2 ((sortN ns).map nmV) ep ep) _ h1 hpd hle ⟨Nat.le_refl _,q2,nms_elems _,vs',e,(sortN ns).flatMap nmCells,vs'.toList.drop (ns.length * 2),K.upd_at hR id _ _ _ h1 hpd,by rw [← htake,List.take_append_drop],nms_VL _⟩
  have hsz : (κ.upd id (.cells vs' e (0,0)) (.arr 2 ((sortN ns).map nmV) ep ep)).h.size = w.heap.size := by simp [K.upd,hwh]
  have hs' : (κ.upd id (.cells vs' e (0,0)) (.arr 2 ((sortN ns).map nmV) ep ep)).h.size ≤ w'.heap.size := by rw [hsz]; exact hgb.size
  have hh : ∀ b,b < (κ.upd id (.cells vs' e (0,0)) (.arr 2 ((sortN ns).map nmV) ep ep)).h.size → w'.heap[b]? = (κ.upd id (.cells vs' e (0,0)) (.arr 2 ((sortN ns).map nmV) ep ep)).h[b]? := fun b hb' => by
   rw [hsz] at hb'
   by_cases hbe : b = κ.loc id
   ·subst hbe
    rw [hnew,K.upd_at hR id _ _ _ h1 hpd]
   ·rw [hgb.block b hb' (fun e => hbe (by injection e))]
    simp only [K.upd]
    rw [Array.getElem?_setIfInBounds_ne (fun e => hbe e.symm),hwh]
  exact ⟨(κ.upd id (.cells vs' e (0,0)) (.arr 2 ((sortN ns).map nmV) ep ep)).more w'.heap,⟨rfl,hgb.os.trans hwo,hgb.output.trans hwu⟩,rfl,K.Le.trans hR.lb hle (K.more_le hRu hs' hh),K.more_R hRu hs' hh,.tuple _ [] [] (.nil _)⟩
 ·cases ha with
  | cons _ _ _ _ _ a1 a2 =>
  cases a2 with
  | cons _ _ _ _ _ a2 a3 =>
  cases a3
  cases a2 with
  | func _ _ _ _ us us' b1 b2 =>
  cases b1; cases b2
  rw [hc]
  have key : ∀ {I : Ids} {c : Value},VRel cfg.conc κ.h (κ.safe E) I x c → ∃ (p : Option Addr) (cap : Nat),c = .slice p 0 cap := fun h => by
   cases hx with
   | nil => cases h; exact ⟨none,0,rfl⟩
   | fs t fu =>
    cases h with
    | fslice _ _ _ _ _ b o len cap vs _ _ _ _ _ _ e1 e2 e3 => subst e1; exact ⟨_,_,rfl⟩
    | zslice _ _ _ _ a _ => exact ⟨_,_,rfl⟩
   | sl id ep off c => cases h with | slice _ _ _ _ _ _ _ b o cap' hp => exact ⟨_,_,rfl⟩
  obtain ⟨p,cap,rfl⟩ := key a1
  refine Calls.mono (show Calls Tryz.prog 116 #[.slice p 0 cap,.func (.func 117) #[] #[]] w fun e w' => e = .returned (.tuple #[]) ∧ w' = w from AnyF.slices_SortFunc_none sortNm p cap _ w) ?_
  rintro e w' ⟨rfl,rfl⟩
  exact ⟨κ,⟨hwh,hwo,hwu⟩,rfl,K.Le.refl _,hR,.tuple _ [] [] (.nil _)⟩
end Go.Proofs.YtelpjaejmneplaaGreatDoor.Am
namespace Go.Proofs.YtelpjaejmneplaaGreatDoor.Am.CU
open Go Go.Proofs.YtelpjaejmneplaaGreatDoor.Am
set_option maxHeartbeats 4000000
theorem ok4 : FnOk cfg Tryz.prog 4 a4 := ⟨⟨Tryz.f4,_,Tryz.func4,by decide,rfl,rfl,by kernel_rfl,by kernel_rfl⟩⟩
theorem ok8 : FnOk cfg Tryz.prog 8 a8 := ⟨⟨Tryz.f8,_,Tryz.func8,by decide,rfl,rfl,by kernel_rfl,by kernel_rfl⟩⟩
theorem ok11 : FnOk cfg Tryz.prog 11 a11 := ⟨⟨Tryz.f11,_,Tryz.func11,by decide,rfl,rfl,by kernel_rfl,by kernel_rfl⟩⟩
theorem ok12 : FnOk cfg Tryz.prog 12 a12 := ⟨⟨Tryz.f12,_,Tryz.func12,by decide,rfl,rfl,by kernel_rfl,by kernel_rfl⟩⟩
theorem ok14 : FnOk cfg Tryz.prog 14 a14 := ⟨⟨Tryz.f14,_,Tryz.func14,by decide,rfl,rfl,by kernel_rfl,by kernel_rfl⟩⟩
theorem ok15 : FnOk cfg Tryz.prog 15 a15 := ⟨⟨Tryz.f15,_,Tryz.func15,by decide,rfl,rfl,by kernel_rfl,by kernel_rfl⟩⟩
theorem ok16 : FnOk cfg Tryz.prog 16 a16 := ⟨⟨Tryz.f16,_,Tryz.func16,by decide,rfl,rfl,by kernel_rfl,by kernel_rfl⟩⟩
theorem ok19 : FnOk cfg Tryz.prog 19 a19 := ⟨⟨Tryz.f19,_,Tryz.func19,by decide,rfl,rfl,by kernel_rfl,by kernel_rfl⟩⟩
theorem ok20 : FnOk cfg Tryz.prog 20 a20 := ⟨⟨Tryz.f20,_,Tryz.func20,by decide,rfl,rfl,by kernel_rfl,by kernel_rfl⟩⟩
theorem ok23 : FnOk cfg Tryz.prog 23 a23 := ⟨⟨Tryz.f23,_,Tryz.func23,by decide,rfl,rfl,by kernel_rfl,by kernel_rfl⟩⟩
theorem ok24 : FnOk cfg Tryz.prog 24 a24 := ⟨⟨Tryz.f24,_,Tryz.func24,by decide,rfl,rfl,by kernel_rfl,by kernel_rfl⟩⟩
theorem ok25 : FnOk cfg Tryz.prog 25 a25 := ⟨⟨Tryz.f25,_,Tryz.func25,by decide,rfl,rfl,by kernel_rfl,by kernel_rfl⟩⟩
theorem ok26 : FnOk cfg Tryz.prog 26 a26 := ⟨⟨Tryz.f26,_,Tryz.func26,by decide,rfl,rfl,by kernel_rfl,by kernel_rfl⟩⟩
theorem ok27 : FnOk cfg Tryz.prog 27 a27 := ⟨⟨Tryz.f27,_,Tryz.func27,by decide,rfl,rfl,by kernel_rfl,by kernel_rfl⟩⟩
theorem ok28 : FnOk cfg Tryz.prog 28 a28 := ⟨⟨Tryz.f28,_,Tryz.func28,by decide,rfl,rfl,by kernel_rfl,by kernel_rfl⟩⟩
theorem ok40 : FnOk cfg Tryz.prog 40 a40 := ⟨⟨Tryz.f40,_,Tryz.func40,by decide,rfl,rfl,by kernel_rfl,by kernel_rfl⟩⟩
theorem ok55 : FnOk cfg Tryz.prog 55 a55 := ⟨⟨Tryz.f55,_,Tryz.func55,by decide,rfl,rfl,by kernel_rfl,by kernel_rfl⟩⟩
theorem ok56 : FnOk cfg Tryz.prog 56 a56 := ⟨⟨Tryz.f56,_,Tryz.func56,by decide,rfl,rfl,by kernel_rfl,by kernel_rfl⟩⟩
theorem ok57 : FnOk cfg Tryz.prog 57 a57 := ⟨⟨Tryz.f57,_,Tryz.func57,by decide,rfl,rfl,by kernel_rfl,by kernel_rfl⟩⟩
theorem ok58 : FnOk cfg Tryz.prog 58 a58 := ⟨⟨Tryz.f58,_,Tryz.func58,by decide,rfl,rfl,by kernel_rfl,by kernel_rfl⟩⟩
theorem ok60 : FnOk cfg Tryz.prog 60 a60 := ⟨⟨Tryz.f60,_,Tryz.func60,by decide,rfl,rfl,by kernel_rfl,by kernel_rfl⟩⟩
theorem ok61 : FnOk cfg Tryz.prog 61 a61 := ⟨⟨Tryz.f61,_,Tryz.func61,by decide,rfl,rfl,by kernel_rfl,by kernel_rfl⟩⟩
theorem ok62 : FnOk cfg Tryz.prog 62 a62 := ⟨⟨Tryz.f62,_,Tryz.func62,by decide,rfl,rfl,by kernel_rfl,by kernel_rfl⟩⟩
theorem ok63 : FnOk cfg Tryz.prog 63 a63 := ⟨⟨Tryz.f63,_,Tryz.func63,by decide,rfl,rfl,by kernel_rfl,by kernel_rfl⟩⟩
theorem ok64 : FnOk cfg Tryz.prog 64 a64 := ⟨⟨Tryz.f64,_,Tryz.func64,by decide,rfl,rfl,by kernel_rfl,by kernel_rfl⟩⟩
theorem ok65 : FnOk cfg Tryz.prog 65 a65 := ⟨⟨Tryz.f65,_,Tryz.func65,by decide,rfl,rfl,by kernel_rfl,by kernel_rfl⟩⟩
theorem ok66 : FnOk cfg Tryz.prog 66 a66 := ⟨⟨Tryz.f66,_,Tryz.func66,by decide,rfl,rfl,by kernel_rfl,by kernel_rfl⟩⟩
theorem ok67 : FnOk cfg Tryz.prog 67 a67 := ⟨⟨Tryz.f67,_,Tryz.func67,by decide,rfl,rfl,by kernel_rfl,by kernel_rfl⟩⟩
theorem ok68 : FnOk cfg Tryz.prog 68 a68 := ⟨⟨Tryz.f68,_,Tryz.func68,by decide,rfl,rfl,by kernel_rfl,by kernel_rfl⟩⟩
theorem ok69 : FnOk cfg Tryz.prog 69 a69 := ⟨⟨Tryz.f69,_,Tryz.func69,by decide,rfl,rfl,by kernel_rfl,by kernel_rfl⟩⟩
theorem ok70 : FnOk cfg Tryz.prog 70 a70 := ⟨⟨Tryz.f70,_,Tryz.func70,by decide,rfl,rfl,by kernel_rfl,by kernel_rfl⟩⟩
theorem ok71 : FnOk cfg Tryz.prog 71 a71 := ⟨⟨Tryz.f71,_,Tryz.func71,by decide,rfl,rfl,by kernel_rfl,by kernel_rfl⟩⟩
theorem ok73 : FnOk cfg Tryz.prog 73 a73 := ⟨⟨Tryz.f73,_,Tryz.func73,by decide,rfl,rfl,by kernel_rfl,by kernel_rfl⟩⟩
theorem ok74 : FnOk cfg Tryz.prog 74 a74 := ⟨⟨Tryz.f74,_,Tryz.func74,by decide,rfl,rfl,by kernel_rfl,by kernel_rfl⟩⟩
theorem ok75 : FnOk cfg Tryz.prog 75 a75 := ⟨⟨Tryz.f75,_,Tryz.func75,by decide,rfl,rfl,by kernel_rfl,by kernel_rfl⟩⟩
theorem ok76 : FnOk cfg Tryz.prog 76 a76 := ⟨⟨Tryz.f76,_,Tryz.func76,by decide,rfl,rfl,by kernel_rfl,by kernel_rfl⟩⟩
theorem ok77 : FnOk cfg Tryz.prog 77 a77 := ⟨⟨Tryz.f77,_,Tryz.func77,by decide,rfl,rfl,by kernel_rfl,by kernel_rfl⟩⟩
theorem ok78 : FnOk cfg Tryz.prog 78 a78 := ⟨⟨Tryz.f78,_,Tryz.func78,by decide,rfl,rfl,by kernel_rfl,by kernel_rfl⟩⟩
theorem ok79 : FnOk cfg Tryz.prog 79 a79 := ⟨⟨Tryz.f79,_,Tryz.func79,by decide,rfl,rfl,by kernel_rfl,by kernel_rfl⟩⟩
theorem ok81 : FnOk cfg Tryz.prog 81 a81 := ⟨⟨Tryz.f81,_,Tryz.func81,by decide,rfl,rfl,by kernel_rfl,by kernel_rfl⟩⟩
theorem ok82 : FnOk cfg Tryz.prog 82 a82 := ⟨⟨Tryz.f82,_,Tryz.func82,by decide,rfl,rfl,by kernel_rfl,by kernel_rfl⟩⟩
theorem ok87 : FnOk cfg Tryz.prog 87 a87 := ⟨⟨Tryz.f87,_,Tryz.func87,by decide,rfl,rfl,by kernel_rfl,by kernel_rfl⟩⟩
theorem ok89 : FnOk cfg Tryz.prog 89 a89 := ⟨⟨Tryz.f89,_,Tryz.func89,by decide,rfl,rfl,by kernel_rfl,by kernel_rfl⟩⟩
theorem ok94 : FnOk cfg Tryz.prog 94 a94 := ⟨⟨Tryz.f94,_,Tryz.func94,by decide,rfl,rfl,by kernel_rfl,by kernel_rfl⟩⟩
theorem ok95 : FnOk cfg Tryz.prog 95 a95 := ⟨⟨Tryz.f95,_,Tryz.func95,by decide,rfl,rfl,by kernel_rfl,by kernel_rfl⟩⟩
theorem ok112 : FnOk cfg Tryz.prog 112 a112 := ⟨⟨Tryz.f112,_,Tryz.func112,by decide,rfl,rfl,by kernel_rfl,by kernel_rfl⟩⟩
theorem ok113 : FnOk cfg Tryz.prog 113 a113 := ⟨⟨Tryz.f113,_,Tryz.func113,by decide,rfl,rfl,by kernel_rfl,by kernel_rfl⟩⟩
theorem ok114 : FnOk cfg Tryz.prog 114 a114 := ⟨⟨Tryz.f114,_,Tryz.func114,by decide,rfl,rfl,by kernel_rfl,by kernel_rfl⟩⟩
theorem ok115 : FnOk cfg Tryz.prog 115 a115 := ⟨⟨Tryz.f115,_,Tryz.func115,by decide,rfl,rfl,by kernel_rfl,by kernel_rfl⟩⟩
theorem ok117 : FnOk cfg Tryz.prog 117 a117 := ⟨⟨Tryz.f117,_,Tryz.func117,by decide,rfl,rfl,by kernel_rfl,by kernel_rfl⟩⟩
theorem ok118 : FnOk cfg Tryz.prog 118 a118 := ⟨⟨Tryz.f118,_,Tryz.func118,by decide,rfl,rfl,by kernel_rfl,by kernel_rfl⟩⟩
theorem ok119 : FnOk cfg Tryz.prog 119 a119 := ⟨⟨Tryz.f119,_,Tryz.func119,by decide,rfl,rfl,by kernel_rfl,by kernel_rfl⟩⟩
theorem ok120 : FnOk cfg Tryz.prog 120 a120 := ⟨⟨Tryz.f120,_,Tryz.func120,by decide,rfl,rfl,by kernel_rfl,by kernel_rfl⟩⟩
theorem ok121 : FnOk cfg Tryz.prog 121 a121 := ⟨⟨Tryz.f121,_,Tryz.func121,by decide,rfl,rfl,by kernel_rfl,by kernel_rfl⟩⟩
theorem ok122 : FnOk cfg Tryz.prog 122 a122 := ⟨⟨Tryz.f122,_,Tryz.func122,by decide,rfl,rfl,by kernel_rfl,by kernel_rfl⟩⟩
theorem ok123 : FnOk cfg Tryz.prog 123 a123 := ⟨⟨Tryz.f123,_,Tryz.func123,by decide,rfl,rfl,by kernel_rfl,by kernel_rfl⟩⟩
theorem ok124 : FnOk cfg Tryz.prog 124 a124 := ⟨⟨Tryz.f124,_,Tryz.func124,by decide,rfl,rfl,by kernel_rfl,by kernel_rfl⟩⟩
theorem ok125 : FnOk cfg Tryz.prog 125 a125 := ⟨⟨Tryz.f125,_,Tryz.func125,by decide,rfl,rfl,by kernel_rfl,by kernel_rfl⟩⟩
theorem ok126 : FnOk cfg Tryz.prog 126 a126 := ⟨⟨Tryz.f126,_,Tryz.func126,by decide,rfl,rfl,by kernel_rfl,by kernel_rfl⟩⟩
theorem ok127 : FnOk cfg Tryz.prog 127 a127 := ⟨⟨Tryz.f127,_,Tryz.func127,by decide,rfl,rfl,by kernel_rfl,by kernel_rfl⟩⟩
theorem ok129 : FnOk cfg Tryz.prog 129 a129 := ⟨⟨Tryz.f129,_,Tryz.func129,by decide,rfl,rfl,by kernel_rfl,by kernel_rfl⟩⟩
theorem ok130 : FnOk cfg Tryz.prog 130 a130 := ⟨⟨Tryz.f130,_,Tryz.func130,by decide,rfl,rfl,by kernel_rfl,by kernel_rfl⟩⟩
theorem ok134 : FnOk cfg Tryz.prog 134 a134 := ⟨⟨Tryz.f134,_,Tryz.func134,by decide,rfl,rfl,by kernel_rfl,by kernel_rfl⟩⟩
theorem ok135 : FnOk cfg Tryz.prog 135 a135 := ⟨⟨Tryz.f135,_,Tryz.func135,by decide,rfl,rfl,by kernel_rfl,by kernel_rfl⟩⟩
theorem ok137 : FnOk cfg Tryz.prog 137 a137 := ⟨⟨Tryz.f137,_,Tryz.func137,by decide,rfl,rfl,by kernel_rfl,by kernel_rfl⟩⟩
theorem ok140 : FnOk cfg Tryz.prog 140 a140 := ⟨⟨Tryz.f140,_,Tryz.func140,by decide,rfl,rfl,by kernel_rfl,by kernel_rfl⟩⟩
theorem ok155 : FnOk cfg Tryz.prog 155 a155 := ⟨⟨Tryz.f155,_,Tryz.func155,by decide,rfl,rfl,by kernel_rfl,by kernel_rfl⟩⟩
theorem ok156 : FnOk cfg Tryz.prog 156 a156 := ⟨⟨Tryz.f156,_,Tryz.func156,by decide,rfl,rfl,by kernel_rfl,by kernel_rfl⟩⟩
theorem ok159 : FnOk cfg Tryz.prog 159 a159 := ⟨⟨Tryz.f159,_,Tryz.func159,by decide,rfl,rfl,by kernel_rfl,by kernel_rfl⟩⟩
theorem ok160 : FnOk cfg Tryz.prog 160 a160 := ⟨⟨Tryz.f160,_,Tryz.func160,by decide,rfl,rfl,by kernel_rfl,by kernel_rfl⟩⟩
theorem ok161 : FnOk cfg Tryz.prog 161 a161 := ⟨⟨Tryz.f161,_,Tryz.func161,by decide,rfl,rfl,by kernel_rfl,by kernel_rfl⟩⟩
theorem ok163 : FnOk cfg Tryz.prog 163 a163 := ⟨⟨Tryz.f163,_,Tryz.func163,by decide,rfl,rfl,by kernel_rfl,by kernel_rfl⟩⟩
theorem ok164 : FnOk cfg Tryz.prog 164 a164 := ⟨⟨Tryz.f164,_,Tryz.func164,by decide,rfl,rfl,by kernel_rfl,by kernel_rfl⟩⟩
theorem ok165 : FnOk cfg Tryz.prog 165 a165 := ⟨⟨Tryz.f165,_,Tryz.func165,by decide,rfl,rfl,by kernel_rfl,by kernel_rfl⟩⟩
theorem ok166 : FnOk cfg Tryz.prog 166 a166 := ⟨⟨Tryz.f166,_,Tryz.func166,by decide,rfl,rfl,by kernel_rfl,by kernel_rfl⟩⟩
theorem ok167 : FnOk cfg Tryz.prog 167 a167 := ⟨⟨Tryz.f167,_,Tryz.func167,by decide,rfl,rfl,by kernel_rfl,by kernel_rfl⟩⟩
theorem ok168 : FnOk cfg Tryz.prog 168 a168 := ⟨⟨Tryz.f168,_,Tryz.func168,by decide,rfl,rfl,by kernel_rfl,by kernel_rfl⟩⟩
theorem ok169 : FnOk cfg Tryz.prog 169 a169 := ⟨⟨Tryz.f169,_,Tryz.func169,by decide,rfl,rfl,by kernel_rfl,by kernel_rfl⟩⟩
theorem ok170 : FnOk cfg Tryz.prog 170 a170 := ⟨⟨Tryz.f170,_,Tryz.func170,by decide,rfl,rfl,by kernel_rfl,by kernel_rfl⟩⟩
theorem ok171 : FnOk cfg Tryz.prog 171 a171 := ⟨⟨Tryz.f171,_,Tryz.func171,by decide,rfl,rfl,by kernel_rfl,by kernel_rfl⟩⟩
theorem ok174 : FnOk cfg Tryz.prog 174 a174 := ⟨⟨Tryz.f174,_,Tryz.func174,by decide,rfl,rfl,by kernel_rfl,by kernel_rfl⟩⟩
theorem ok175 : FnOk cfg Tryz.prog 175 a175 := ⟨⟨Tryz.f175,_,Tryz.func175,by decide,rfl,rfl,by kernel_rfl,by kernel_rfl⟩⟩
theorem ok197 : FnOk cfg Tryz.prog 197 a197 := ⟨⟨Tryz.f197,_,Tryz.func197,by decide,rfl,rfl,by kernel_rfl,by kernel_rfl⟩⟩
theorem orF_cases {a b : Option AFunc} {x : AFunc} (h : orF a b = some x) : a = some x ∨ b = some x := by
 unfold orF at h
 split at h
 ·exact .inl h
 ·exact .inr h
theorem fns0 (f : FuncId) (fn : AFunc) (h : ir0 f = some fn) : FnOk cfg Tryz.prog f fn := by
 unfold ir0 at h
 split at h
 ·injection h with h; subst h; exact ok4
 ·injection h with h; subst h; exact ok8
 ·injection h with h; subst h; exact ok11
 ·injection h with h; subst h; exact ok12
 ·injection h with h; subst h; exact ok14
 ·injection h with h; subst h; exact ok15
 ·injection h with h; subst h; exact ok16
 ·injection h with h; subst h; exact ok19
 ·injection h with h; subst h; exact ok20
 ·injection h with h; subst h; exact ok23
 ·injection h with h; subst h; exact ok24
 ·injection h with h; subst h; exact ok25
 ·injection h with h; subst h; exact ok26
 ·injection h with h; subst h; exact ok27
 ·injection h with h; subst h; exact ok28
 ·injection h with h; subst h; exact ok40
 ·injection h with h; subst h; exact ok55
 ·injection h with h; subst h; exact ok56
 ·injection h with h; subst h; exact ok57
 ·injection h with h; subst h; exact ok58
 ·injection h with h; subst h; exact ok60
 ·injection h with h; subst h; exact ok61
 ·injection h with h; subst h; exact ok62
 ·injection h with h; subst h; exact ok63
 ·injection h with h; subst h; exact ok64
 ·injection h with h; subst h; exact ok65
 ·injection h with h; subst h; exact ok66
 ·injection h with h; subst h; exact ok67
 ·injection h with h; subst h; exact ok68
 ·injection h with h; subst h; exact ok69
 ·injection h with h; subst h; exact ok70
 ·injection h with h; subst h; exact ok71
 ·injection h with h; subst h; exact ok73
 ·injection h with h; subst h; exact ok74
 ·injection h with h; subst h; exact ok75
 ·injection h with h; subst h; exact ok76
 ·injection h with h; subst h; exact ok77
 ·injection h with h; subst h; exact ok78
 ·injection h with h; subst h; exact ok79
 ·injection h with h; subst h; exact ok81
 ·cases h
theorem fns1 (f : FuncId) (fn : AFunc) (h : ir1 f = some fn) : FnOk cfg Tryz.prog f fn := by
 unfold ir1 at h
 split at h
 ·injection h with h; subst h; exact ok82
 ·injection h with h; subst h; exact ok87
 ·injection h with h; subst h; exact ok89
 ·injection h with h; subst h; exact ok94
 ·injection h with h; subst h; exact ok95
 ·injection h with h; subst h; exact ok112
 ·injection h with h; subst h; exact ok113
 ·injection h with h; subst h; exact ok114
 ·injection h with h; subst h; exact ok115
 ·injection h with h; subst h; exact ok117
 ·injection h with h; subst h; exact ok118
 ·injection h with h; subst h; exact ok119
 ·injection h with h; subst h; exact ok120
 ·injection h with h; subst h; exact ok121
 ·injection h with h; subst h; exact ok122
 ·injection h with h; subst h; exact ok123
 ·injection h with h; subst h; exact ok124
 ·injection h with h; subst h; exact ok125
 ·injection h with h; subst h; exact ok126
 ·injection h with h; subst h; exact ok127
 ·injection h with h; subst h; exact ok129
 ·injection h with h; subst h; exact ok130
 ·injection h with h; subst h; exact ok134
 ·injection h with h; subst h; exact ok135
 ·injection h with h; subst h; exact ok137
 ·injection h with h; subst h; exact ok140
 ·injection h with h; subst h; exact ok155
 ·injection h with h; subst h; exact ok156
 ·injection h with h; subst h; exact ok159
 ·injection h with h; subst h; exact ok160
 ·injection h with h; subst h; exact ok161
 ·injection h with h; subst h; exact ok163
 ·injection h with h; subst h; exact ok164
 ·injection h with h; subst h; exact ok165
 ·injection h with h; subst h; exact ok166
 ·injection h with h; subst h; exact ok167
 ·injection h with h; subst h; exact ok168
 ·injection h with h; subst h; exact ok169
 ·injection h with h; subst h; exact ok170
 ·injection h with h; subst h; exact ok171
 ·cases h
theorem fns2 (f : FuncId) (fn : AFunc) (h : ir2 f = some fn) : FnOk cfg Tryz.prog f fn := by
 unfold ir2 at h
 split at h
 ·injection h with h; subst h; exact ok174
 ·injection h with h; subst h; exact ok175
 ·injection h with h; subst h; exact ok197
 ·cases h
theorem fns : ∀ f fn,cfg.ir f = some fn → FnOk cfg Tryz.prog f fn := by
 intro f fn h
 rcases orF_cases h with h | h
 ·exact fns0 f fn h
 rcases orF_cases h with h | h
 ·exact fns1 f fn h
 exact fns2 f fn h
theorem all : CfgOk Tryz.prog cfg := ⟨fns,by
 intro f g h
 simp only [cfg] at h
 split at h
 ·injection h with h; subst h; exact natSF_ok fun _ => rfl
 ·injection h with h; subst h; exact natMC_ok fun _ => rfl
 ·injection h with h; subst h; exact natSO_ok fun _ => rfl
 ·cases h⟩
end Go.Proofs.YtelpjaejmneplaaGreatDoor.Am.CU
namespace Go.Proofs.YtelpjaejmneplaaGreatDoor.Am
open Go
def addN (ws : List Nm) (v : Nm) : List Nm := if ws.contains v then ws else ws ++ [v]
theorem addN_len (ws : List Nm) (v : Nm) : (addN ws v).length ≤ ws.length + 1 := by unfold addN; split <;> simp
def varsL (ws : List Nm) (t : List Cel) : List Nm := t.foldl (fun ws c => if c.k = 4 then addN ws c.v else ws) ws
theorem varsL_snoc (ws : List Nm) (t : List Cel) (c : Cel) : varsL ws (t ++ [c]) = if c.k = 4 then addN (varsL ws t) c.v else varsL ws t := by simp [varsL]
theorem varsL_len (ws : List Nm) : ∀ (t : List Cel),(varsL ws t).length ≤ ws.length + t.length := by
 intro t
 induction t generalizing ws with
 | nil => simp [varsL]
 | cons c t ih =>
  simp only [varsL,List.foldl_cons,List.length_cons]
  have := ih (if c.k = 4 then addN ws c.v else ws)
  simp only [varsL] at this
  have h2 : (if c.k = 4 then addN ws c.v else ws).length ≤ ws.length + 1 := by
   split
   ·exact addN_len _ _
   ·omega
  omega
structure TSt where
 ls : List (List Cel)
 ws : List Nm
def foldO {S α : Type} (f : S → α → α → Option S) : S → List α → List α → Option S
 | s,[],_ => some s
 | s,_ :: _,[] => some s
 | s,a :: azs,b :: bs => (f s a b).bind fun s' => foldO f s' azs bs
theorem foldO_step {S α : Type} {f : S → α → α → Option S} {s : S} {azs bs : List α} {k : Nat} (ha : k < azs.length) (hb : k < bs.length) : foldO f s (azs.drop k) (bs.drop k) = (f s azs[k] bs[k]).bind fun s' => foldO f s' (azs.drop (k + 1)) (bs.drop (k + 1)) := by
 rw [List.drop_eq_getElem_cons ha,List.drop_eq_getElem_cons hb,foldO]
theorem flat_step {azs : List (List Cel)} {k : Nat} (h : k < azs.length) : (azs.take (k + 1)).flatten.length = (azs.take k).flatten.length + (azs[k]).length := by
 rw [List.take_succ_eq_append_getElem h,List.flatten_append,List.length_append]; simp only [List.flatten_cons,List.flatten_nil,List.append_nil]
theorem flat_le (azs : List (List Cel)) (k : Nat) : (azs.take k).flatten.length ≤ azs.flatten.length := by
 have h : azs.flatten = (azs.take k).flatten ++ (azs.drop k).flatten := by rw [← List.flatten_append,List.take_append_drop]
 rw [h]; simp
structure TryR where
 k : Nat
 ls : List (List Cel)
 ws : List Nm
end Go.Proofs.YtelpjaejmneplaaGreatDoor.Am
namespace Go.Proofs.YtelpjaejmneplaaGreatDoor.Am
open Go
theorem WF.short {H : Hp} (hw : WF H) {p : Nm × List Cel} (hp : p ∈ H) : p.2.length ≤ 256 := (right_len (glob_right (hw.ok _ hp).2.2.1)).2
theorem WF.lk_short {H : Hp} (hw : WF H) (v : Nm) : ((lk H v).getD []).length ≤ 256 := by
 cases h : lk H v with
 | none => simp
 | some t => exact hw.short (lk_mem h)
def stepN (H : Hp) (v : Nm) : List Nm := varsL [] ((lk H v).getD [])
inductive Rea (H : Hp) (rs : List Nm) : Nm → Prop
 | root {v : Nm} : v ∈ rs → Rea H rs v
 | step {v w : Nm} : Rea H rs v → w ∈ stepN H v → Rea H rs w
def adds (l ws : List Nm) : List Nm := ws.foldl addN l
theorem addN_mem_rc {l : List Nm} {v w : Nm} : w ∈ addN l v ↔ w ∈ l ∨ w = v := by
 unfold addN
 split
 ·rename_i h
  have h' : v ∈ l := by simpa using h
  constructor
  ·exact .inl
  ·rintro (h | rfl)
   ·exact h
   ·exact h'
 ·simp
theorem addN_nodup {l : List Nm} {v : Nm} (h : l.Nodup) : (addN l v).Nodup := by
 unfold addN
 split
 ·exact h
 ·rename_i hc
  have hc' : v ∉ l := by simpa using hc
  rw [List.nodup_append]
  refine ⟨h,by simp,fun a ha b hb e => ?_⟩
  simp at hb; subst hb; subst e; exact hc' ha
theorem addN_pre (l : List Nm) (v : Nm) : ∃ x,addN l v = l ++ x := by
 unfold addN
 split
 ·exact ⟨[],by simp⟩
 ·exact ⟨[v],rfl⟩
theorem adds_mem : ∀ {ws l : List Nm} {w : Nm},w ∈ adds l ws ↔ w ∈ l ∨ w ∈ ws
 | [],l,w => by simp [adds]
 | v :: ws,l,w => by
  have := adds_mem (ws := ws) (l := addN l v) (w := w)
  simp only [adds,List.foldl_cons] at this ⊢
  rw [this,addN_mem_rc,List.mem_cons]
  constructor
  ·rintro ((h | h) | h)
   ·exact .inl h
   ·exact .inr (.inl h)
   ·exact .inr (.inr h)
  ·rintro (h | h | h)
   ·exact .inl (.inl h)
   ·exact .inl (.inr h)
   ·exact .inr h
theorem adds_nodup : ∀ {ws l : List Nm},l.Nodup → (adds l ws).Nodup
 | [],l,h => h
 | v :: ws,l,h => adds_nodup (ws := ws) (addN_nodup h)
theorem adds_pre : ∀ (ws l : List Nm),∃ x,adds l ws = l ++ x
 | [],l => ⟨[],by simp [adds]⟩
 | v :: ws,l => by
  obtain ⟨x,hx⟩ := addN_pre l v
  obtain ⟨y,hy⟩ := adds_pre ws (addN l v)
  exact ⟨x ++ y,by simp only [adds,List.foldl_cons] at hy ⊢; rw [hy,hx,List.append_assoc]⟩
theorem adds_snoc (l ws : List Nm) (v : Nm) : adds l (ws ++ [v]) = addN (adds l ws) v := by simp [adds]
theorem nodup_le : ∀ {l u : List Nm},l.Nodup → (∀ v ∈ l,v ∈ u) → l.length ≤ u.length
 | [],u,_,_ => Nat.zero_le _
 | v :: l,u,hn,h => by
  simp only [List.nodup_cons] at hn
  have hv := h v List.mem_cons_self
  have ih := nodup_le (u := u.erase v) hn.2 fun w hw => (List.mem_erase_of_ne (fun e : w = v => hn.1 (by rw [← e]; exact hw))).2 (h w (List.mem_cons_of_mem _ hw))
  have := List.length_erase_of_mem hv
  have hp := List.length_pos_of_mem hv
  simp only [List.length_cons]
  omega
def univ (H : Hp) (rs : List Nm) : List Nm := rs ++ H.flatMap fun p => varsL [] p.2
theorem stepN_univ {H : Hp} {rs : List Nm} {v w : Nm} (h : w ∈ stepN H v) : w ∈ univ H rs := by
 unfold stepN at h
 cases hl : lk H v with
 | none => rw [hl] at h; simp [varsL] at h
 | some t =>
  rw [hl] at h
  exact List.mem_append.2 (.inr (List.mem_flatMap.2 ⟨_,lk_mem hl,h⟩))
theorem Rea.univ {H : Hp} {rs : List Nm} {v : Nm} (h : Rea H rs v) : v ∈ univ H rs := by
 cases h with
 | root h => exact List.mem_append.2 (.inl h)
 | step _ h => exact stepN_univ h
theorem stepN_len {H : Hp} (hw : WF H) (v : Nm) : (stepN H v).length ≤ 256 := by
 have := varsL_len [] ((lk H v).getD [])
 have := hw.lk_short v
 unfold stepN
 simp only [List.length_nil] at *
 omega
theorem univ_len {H : Hp} (hw : WF H) (rs : List Nm) : (univ H rs).length ≤ rs.length + H.length * 256 := by
 unfold univ
 rw [List.length_append]
 have key : ∀ l : Hp,(∀ p ∈ l,p.2.length ≤ 256) → (l.flatMap fun p => varsL [] p.2).length ≤ l.length * 256 := by
  intro l
  induction l with
  | nil => intro _; simp
  | cons p l ih =>
   intro h
   have h1 := h p List.mem_cons_self
   have h2 := ih fun q hq => h q (List.mem_cons_of_mem _ hq)
   have h3 := varsL_len [] p.2
   rw [List.flatMap_cons,List.length_append,List.length_cons]
   simp only [List.length_nil] at h3
   omega
 have := key H fun p hp => hw.short hp
 omega
def itL (H : Hp) (l0 : List Nm) : Nat → List Nm
 | 0 => l0
 | i + 1 => match (itL H l0 i)[i]? with
  | some v => adds (itL H l0 i) (stepN H v)
  | none => itL H l0 i
structure Way (H : Hp) (rs l : List Nm) (i : Nat) : Prop where
 nodup : l.Nodup
 rea : ∀ v ∈ l,Rea H rs v
 roots : ∀ v ∈ rs,v ∈ l
 done : ∀ (j : Nat) (hj : j < l.length),j < i → ∀ w ∈ stepN H l[j],w ∈ l
 tr : l = itL H (adds [] rs) i
theorem Way.start (H : Hp) (rs : List Nm) : Way H rs (adds [] rs) 0 :=
 ⟨adds_nodup List.nodup_nil,fun v hv => by
  rcases adds_mem.1 hv with h | h
  ·cases h
  ·exact .root h,fun v hv => adds_mem.2 (.inr hv),fun j _ h => by omega,rfl⟩
theorem Way.len {H : Hp} {rs l : List Nm} {i : Nat} (h : Way H rs l i) : l.length ≤ (univ H rs).length := nodup_le h.nodup fun v hv => (h.rea v hv).univ
theorem Way.next {H : Hp} {rs l : List Nm} {i : Nat} (h : Way H rs l i) (hi : i < l.length) : Way H rs (adds l (stepN H l[i])) (i + 1) := by
 obtain ⟨x,hx⟩ := adds_pre (stepN H l[i]) l
 refine ⟨adds_nodup h.nodup,fun v hv => ?_,fun v hv => adds_mem.2 (.inl (h.roots v hv)),fun j hj hji w hw => ?_,by simp only [itL]; rw [← h.tr,List.getElem?_eq_getElem hi]⟩
 ·rcases adds_mem.1 hv with hv | hv
  ·exact h.rea v hv
  ·exact .step (h.rea _ (List.getElem_mem hi)) hv
 ·have hjl : j < l.length := by omega
  have e : (adds l (stepN H l[i]))[j] = l[j] := by
   have : ∀ (y : List Nm) (hy : y = l ++ x) (h : j < y.length),y[j] = l[j] := by
    intro y hy h; subst hy; exact List.getElem_append_left hjl
   exact this _ hx hj
  rw [e] at hw
  by_cases hji' : j = i
  ·subst hji'; exact adds_mem.2 (.inr hw)
  ·exact adds_mem.2 (.inl (h.done j hjl (by omega) w hw))
theorem Way.all {H : Hp} {rs l : List Nm} (h : Way H rs l l.length) : ∀ v,v ∈ l ↔ Rea H rs v := fun v => ⟨h.rea v,fun hr => by
 induction hr with
 | root hv => exact h.roots _ hv
 | step _ hw ih =>
  obtain ⟨j,hj,rfl⟩ := List.mem_iff_getElem.1 ih
  exact h.done j hj hj _ hw⟩
theorem Rea.again {H : Hp} {rs xs : List Nm} (hx : ∀ v,v ∈ xs ↔ Rea H rs v) (v : Nm) : Rea H xs v ↔ Rea H rs v := by
 constructor
 ·intro h
  induction h with
  | root h => exact (hx _).1 h
  | step _ hw ih => exact .step ih hw
 ·intro h; exact .root ((hx v).2 h)
theorem Rea.more {H H' : Hp} {rs rs' : List Nm} (hr : ∀ v ∈ rs,v ∈ rs') (hH : ∀ v t,lk H v = some t → lk H' v = some t) {v : Nm} (h : Rea H rs v) : Rea H' rs' v := by
 induction h with
 | root h => exact .root (hr _ h)
 | step _ hw ih =>
  rename_i v w _
  refine .step ih ?_
  unfold stepN at hw ⊢
  cases hl : lk H v with
  | none => rw [hl] at hw; simp [varsL] at hw
  | some t => rw [hl] at hw; rw [hH v t hl]; exact hw
theorem insN_at {x : Nm} : ∀ {l : List Nm} {k : Nat} (hk : k ≤ l.length) (hx : x ∉ l) (h1 : ∀ (j : Nat) (hj : j < l.length),j < k → nless l[j] x = true) (h2 : ∀ hk : k < l.length,nless l[k] x = false),l.take k ++ x :: l.drop k = insN x l
 | [],k,hk,_,_,_ => by simp [insN]
 | y :: r,0,hk,hx,h1,h2 => by
  have h := h2 (by simp)
  simp only [List.getElem_cons_zero] at h
  have hne : y ≠ x := fun e => hx (by simp [e])
  simp [insN,nless_not h hne]
 | y :: r,k + 1,hk,hx,h1,h2 => by
  have h := h1 0 (by simp) (by omega)
  simp only [List.getElem_cons_zero] at h
  have ih := insN_at (x := x) (l := r) (k := k) (by simpa using hk) (fun hm => hx (List.mem_cons_of_mem _ hm)) (fun j hj hjk => by
   have := h1 (j + 1) (by simpa using hj) (by omega)
   simpa using this) (fun hk' => by
   have := h2 (by simpa using hk')
   simpa using this)
  simp only [List.take_succ_cons,List.drop_succ_cons,List.cons_append,insN,nless_asymm h,Bool.false_eq_true,if_false,ih]
def riseN (l ms : List Nm) : List Nm := ms.foldl (fun l x => insN x l) l
theorem riseN_perm : ∀ (ms l : List Nm),(riseN l ms).Perm (l ++ ms)
 | [],l => by simp [riseN]
 | x :: r,l => by
  have ih := riseN_perm r (insN x l)
  simp only [riseN,List.foldl_cons] at ih ⊢
  refine ih.trans ?_
  refine ((insN_perm x l).append_right r).trans ?_
  simpa using (List.perm_middle (a := x) (l₁ := l) (l₂ := r)).symm
theorem riseN_up : ∀ (ms : List Nm) {l : List Nm},UpN l → UpN (riseN l ms)
 | [],_,h => h
 | x :: r,l,h => riseN_up r (l := insN x l) (insN_up x h)
theorem riseN_sort (ms : List Nm) : riseN [] ms = sortN ms :=
 (sortN_of (riseN_up ms List.Pairwise.nil) (by simpa using (riseN_perm ms []).symm)).symm
theorem riseN_snoc (l ms : List Nm) (x : Nm) : riseN l (ms ++ [x]) = insN x (riseN l ms) := by simp [riseN]
theorem riseN_mem {l ms : List Nm} {v : Nm} : v ∈ riseN l ms ↔ v ∈ l ∨ v ∈ ms := by
 rw [(riseN_perm ms l).mem_iff,List.mem_append]
theorem riseN_len (l ms : List Nm) : (riseN l ms).length = l.length + ms.length := by
 rw [(riseN_perm ms l).length_eq,List.length_append]
theorem Same.rea {H R : Hp} (hs : Same H R) (rs : List Nm) (v : Nm) : Rea R rs v ↔ Rea H rs v := by
 constructor
 ·exact Rea.more (fun _ h => h) fun w t h => by rw [hs.lk]; exact h
 ·exact Rea.more (fun _ h => h) fun w t h => by rw [← hs.lk]; exact h
structure XRows (σ : Store) (lo k sz : Nat) (l : AVal) (xs es : List AVal) (ps : List (List AVal)) : Prop where
 row : Own σ k l xs
 lex : xs.length = es.length
 len : es.length = ps.length
 one : ∀ (i : Nat) (e : AVal) (p : List AVal),es[i]? = some e → ps[i]? = some p → Own σ sz e p
 frs : ∀ (i : Nat) (e : AVal),es[i]? = some e → Fresh lo e
 frl : Fresh lo l
 apart : ∀ (i j : Nat) (e e' : AVal) (id : Nat),es[i]? = some e → es[j]? = some e' → e.sid = some id → e'.sid = some id → i = j
 off : ∀ (i : Nat) (e : AVal) (id : Nat),es[i]? = some e → e.sid = some id → l.sid ≠ some id
 lit : ∀ (i : Nat) (e : AVal),es[i]? = some e → NoLit e
theorem XRows.nil (σ : Store) (lo k sz : Nat) : XRows σ lo k sz .nilslice [] [] [] :=
 ⟨Own.nil _ _,rfl,rfl,fun i e p h => by simp at h,fun i e h => by simp at h,Fresh.nil _,fun i j e e' id h => by simp at h,fun i e id h => by simp at h,fun i e h => by simp at h⟩
theorem XRows.lo {σ : Store} {lo lo' k sz : Nat} {l : AVal} {xs es : List AVal} {ps : List (List AVal)} (h : XRows σ lo k sz l xs es ps) (hl : lo' ≤ lo) : XRows σ lo' k sz l xs es ps :=
 ⟨h.row,h.lex,h.len,h.one,fun i e he => (h.frs i e he).le hl,h.frl.le hl,h.apart,h.off,h.lit⟩
theorem XRows.lt {σ : Store} {lo k sz : Nat} {l : AVal} {xs es : List AVal} {ps : List (List AVal)} (h : XRows σ lo k sz l xs es ps) {i : Nat} {e : AVal} (hi : es[i]? = some e) {id : Nat} (hid : e.sid = some id) : id < σ.length := by
 have hlt := (List.getElem?_eq_some_iff.1 hi).1
 have := h.one i e (ps[i]'(by rw [← h.len]; exact hlt)) hi (List.getElem?_eq_getElem _)
 exact this.sl.lt hid
theorem XRows.grow {σ σ' : Store} {lo k sz : Nat} {l : AVal} {xs es : List AVal} {ps : List (List AVal)} (h : XRows σ lo k sz l xs es ps) (g : Grows σ σ') : XRows σ' lo k sz l xs es ps :=
 ⟨h.row.grow g,h.lex,h.len,fun i e p h1 h2 => (h.one i e p h1 h2).grow g,h.frs,h.frl,h.apart,h.off,h.lit⟩
theorem XRows.keeps {σ σ' : Store} {M : Nat → Prop} {lo k sz : Nat} {l : AVal} {xs es : List AVal} {ps : List (List AVal)} (h : XRows σ lo k sz l xs es ps) (g : Keeps M σ σ') (hm : ∀ i,i < σ.length → lo ≤ i → ¬ M i) : XRows σ' lo k sz l xs es ps :=
 ⟨Own.keeps h.row g fun id hid => hm id (h.row.sl.lt hid) (h.frl id hid),h.lex,h.len,fun i e p h1 h2 => Own.keeps (h.one i e p h1 h2) g fun id hid => hm id (h.lt h1 hid) (h.frs i e h1 id hid),h.frs,h.frl,h.apart,h.off,h.lit⟩
theorem XRows.push {σ σ1 : Store} {lo k sz : Nat} {l : AVal} {xs es : List AVal} {ps : List (List AVal)} (h : XRows σ lo k sz l xs es ps) (hlo : lo ≤ σ.length) (g : Grows σ σ1) {x e : AVal} {p : List AVal} (he : Own σ1 sz e p) (fe : Fresh σ.length e) (le : NoLit e)
  (bytes : Nat) (hb : (es.length + 1) * bytes ≤ 70368744177664) :
  ∃ l' σ2,appendV σ1 k bytes l [x] = some (l',σ2) ∧ XRows σ2 lo k sz l' (xs ++ [x]) (es ++ [e]) (ps ++ [p]) ∧ Keeps (fun i => lo ≤ i) σ1 σ2 := by
 obtain ⟨l',σ2,h1,h2,h3,h4,h5⟩ := (h.row.grow g).append [x] bytes (by rw [h.lex]; exact hb)
 have old : ∀ (i : Nat) (x : AVal),(es ++ [e])[i]? = some x → (es[i]? = some x ∧ i < es.length) ∨ (i = es.length ∧ x = e) := by
  intro i x hx
  rw [List.getElem?_append] at hx
  split at hx
  ·rename_i hlt; exact .inl ⟨hx,hlt⟩
  ·rename_i hlt
   rw [List.getElem?_singleton] at hx
   split at hx
   ·injection hx with hx; exact .inr ⟨by omega,hx.symm⟩
   ·cases hx
 have hll : ∀ id,l.sid = some id → id < σ.length := fun id hid => h.row.sl.lt hid
 have hx1 : ∀ (i : Nat) (x : AVal) (id : Nat),(es ++ [e])[i]? = some x → x.sid = some id → id < σ1.length ∧ l.sid ≠ some id := by
  intro i x id hx hid
  rcases old i x hx with ⟨hx,_⟩ | ⟨_,rfl⟩
  ·exact ⟨Nat.lt_of_lt_of_le (h.lt hx hid) g.1,h.off i x id hx hid⟩
  ·exact ⟨he.sl.lt hid,fun hl => by have := fe id hid; have := hll id hl; omega⟩
 refine ⟨l',σ2,h1,⟨h2,by simp [h.lex],by simp [h.len],?_,?_,?_,?_,?_,?_⟩,h3.mono fun i hi hs => h.frl i hs⟩
 ·intro i x q hx hq
  refine Own.keeps (σ := σ1) ?_ h3 fun id hid => (hx1 i x id hx hid).2
  rcases old i x hx with ⟨hx,hlt⟩ | ⟨rfl,rfl⟩
  ·rw [List.getElem?_append_left (by rw [← h.len]; exact hlt)] at hq
   exact (h.one i x q hx hq).grow g
  ·rw [h.len,List.getElem?_append_right (Nat.le_refl _),Nat.sub_self] at hq
   simp at hq; subst hq; exact he
 ·intro i x hx
  rcases old i x hx with ⟨hx,_⟩ | ⟨_,rfl⟩
  ·exact h.frs i x hx
  ·exact fe.le hlo
 ·intro id hid
  rcases h4 id hid with hh | hh
  ·exact h.frl id hh
  ·have := g.1; omega
 ·intro i j x y id hx hy hxi hyi
  rcases old i x hx with ⟨hx',hil⟩ | ⟨hi,hxe⟩ <;> rcases old j y hy with ⟨hy',hjl⟩ | ⟨hj,hye⟩
  ·exact h.apart i j x y id hx' hy' hxi hyi
  ·rw [hye] at hyi; have := h.lt hx' hxi; have := fe id hyi; omega
  ·rw [hxe] at hxi; have := h.lt hy' hyi; have := fe id hxi; omega
  ·omega
 ·intro i x id hx hid hl
  obtain ⟨k1,k2⟩ := hx1 i x id hx hid
  rcases h4 id hl with hh | hh
  ·exact k2 hh
  ·omega
 ·intro i x hx
  rcases old i x hx with ⟨hx,_⟩ | ⟨_,rfl⟩
  ·exact h.lit i x hx
  ·exact le
theorem nm_putB (σ : Store) (v : Nm) : storeV (σ ++ [AObj.cells [.int .i64 0,.int .i64 0]]) 2 (.ptr σ.length 0) (nmV v) = some (σ ++ [AObj.cells (nmC v)]) := by
 have h : (σ ++ [AObj.cells [.int .i64 0,.int .i64 0]])[σ.length]? = some (.cells [.int .i64 0,.int .i64 0]) := by simp
 rw [nm_agg,storeN_cells (cs' := nmC v) (n := 2) h rfl rfl rfl,set_last]
def bdVs (R : Hp) (us : List AVal) : List AVal := List.zipWith (fun p u => bdV p.1 u) R us
abbrev BRows (σ : Store) (lo : Nat) (l : AVal) (us : List AVal) (R : Hp) : Prop := XRows σ lo 3 5 l (bdVs R us) us (R.map fun p => CC p.2)
section
variable (d : Nat) (σ : Store)
end
def BdSl (σ : Store) (v : AVal) (R : Hp) : Prop := ∃ es,SlOf σ 3 v es ∧ Two (fun e p => ∃ u,e = bdV p.1 u ∧ SlOf σ 5 u (CC p.2)) es R
theorem BdSl.grow {σ σ' : Store} {v : AVal} {R : Hp} (h : BdSl σ v R) (g : Grows σ σ') : BdSl σ' v R := by
 obtain ⟨es,h1,h2⟩ := h
 exact ⟨es,h1.grow g,h2.mono fun e p ⟨u,hu,hs⟩ => ⟨u,hu,hs.grow g⟩⟩
theorem BdSl.len {σ : Store} {v : AVal} {R : Hp} (h : BdSl σ v R) : lenSV v = some R.length := by
 obtain ⟨es,h1,h2⟩ := h
 rw [← h2.len]; exact h1.len
theorem BdSl.at {σ : Store} {v : AVal} {R : Hp} (h : BdSl σ v R) {k : Nat} (hk : k < R.length) : ∃ q0 q2 u,iaddrV 3 v (.int .i64 k) = some (addrOf 3 v k) ∧ faddrV 0 (addrOf 3 v k) = some q0 ∧ loadV σ 2 true q0 = some (nmV R[k].1) ∧ faddrV 2 (addrOf 3 v k) = some q2 ∧ loadV σ 1 false q2 = some u ∧ SlOf σ 5 u (CC R[k].2) := by
 obtain ⟨es,h1,h2⟩ := h
 have hke : k < es.length := by rw [h2.len]; exact hk
 obtain ⟨e,he1,u,he2,he3⟩ := h2.get hk
 have hee : es[k] = e := by rw [List.getElem?_eq_getElem hke] at he1; exact Option.some.inj he1
 have hb := (h1.addr hke .i64).2
 rw [hee,he2] at hb
 have hb' : behind σ (addrOf 3 v k) = some (bdC (R[k]).1 u,0) := hb
 obtain ⟨q0,p0,b0⟩ := faddr_at hb' 0
 obtain ⟨q2,p2,b2⟩ := faddr_at hb' 2
 exact ⟨q0,q2,u,h1.iaddr hke .i64,p0,loadN_at b0 (by simp [bdC]),p2,load_at b2,he3⟩
theorem RefP.bds {σ : Store} {A : Nat → Prop} {id : Nat} {R : Hp} (h : RefP σ A id R) : ∃ w,σ[id]? = some (.cells [w]) ∧ BdSl σ w R := by
 obtain ⟨w,es,h1,h2,_,h4⟩ := h
 exact ⟨w,h1,es,h2,h4.mono fun e p ⟨u,hu,hs,_⟩ => ⟨u,hu,hs⟩⟩
theorem bdVs_get {R : Hp} {us : List AVal} (h : us.length = R.length) {k : Nat} (hk : k < R.length) : (bdVs R us)[k]? = some (bdV R[k].1 (us[k]'(by omega))) := by
 unfold bdVs
 rw [List.getElem?_zipWith,List.getElem?_eq_getElem hk,List.getElem?_eq_getElem (by omega)]
theorem BRows.bds {σ : Store} {lo : Nat} {l : AVal} {us : List AVal} {R : Hp} (h : BRows σ lo l us R) : BdSl σ l R := by
 have hl : us.length = R.length := by have := h.len; simpa using this
 refine ⟨_,h.row.sl,Two.of_get (by rw [h.lex]; exact hl) fun i a b hi hj => ?_⟩
 obtain ⟨hk,rfl⟩ := List.getElem?_eq_some_iff.1 hj
 have e := bdVs_get hl hk
 rw [hi] at e
 exact ⟨us[i]'(by omega),Option.some.inj e,(h.one i (us[i]'(by omega)) (CC R[i].2) (List.getElem?_eq_getElem _) (by simp [hk])).sl⟩
section
variable (d : Nat) (σ : Store)
theorem hvalue_ok (hv : AVal) (H : Hp) (v : Nm) (h : HeapV σ hv H) (hs : ((lk H v).getD []).length < 2 ^ 30) : Called CU.cfg d 123 [hv,nmV v] σ fun r σ' => ∃ u,r = .tuple [u,.bool (lk H v).isSome] ∧ Own σ' 5 u (CC ((lk H v).getD [])) ∧ Fresh σ.length u ∧ NoLit u ∧ Grows σ σ' := by
 refine called_of (fn := CU.a123) rfl (Nat.le_of_ble_eq_true rfl) ?_
 simp only [CU.a123, CU.o]
 simp -dsimp only [↓WPd,↓Zm,↓Zn,WPu,Za,Zb,Zc,Zd,Ze,Zf,Zg,Zh,Nat.reduceEqDiff,Nat.reduceLT,Zi,Zj,Zk,Zl,Nat.reduceBEq,nm_cells,nm_one]
 have ho : (σ ++ [AObj.cells (nmC v)])[σ.length]? = some (.cells (nmC v)) := by simp
 have g0 : Grows σ (σ ++ [AObj.cells (nmC v)]) := Grows.app _ _
 have h1 := h.grow g0
 generalize σ ++ [AObj.cells (nmC v)] = σ1 at ho g0 h1
 simp -dsimp only [↓WPd,↓Zm,↓Zn,WPu,Za,Zb,Zc,Zd,Ze,Zf,Zg,Zh,Nat.reduceEqDiff,Nat.reduceLT,Zi,Zj,Zk,Zl,Nat.reduceBEq,load_nm ho]
 refine calledW_of (value_ok d σ1 hv H v h1) ?_
 rintro r σ2 ⟨u,rfl,hu,g2⟩
 simp -dsimp only [↓WPd,↓Zm,↓Zn,WPu,Za,Zb,Zc,Zd,Ze,Zf,Zg,Zh,Nat.reduceEqDiff,Nat.reduceLT,Zi,Zj,Zk,Zl,Nat.reduceBEq,List.getElem?_cons_zero,List.getElem?_cons_succ]
 refine calledW_of (cclone_ok d σ2 u _ hs (hu σ2)) ?_
 rintro w σ3 ⟨g3,ow,fw,nw⟩
 simp -dsimp only [↓WPd,↓Zm,↓Zn,WPu,Za,Zb,Zc,Zd,Ze,Zf,Zg,Zh,Nat.reduceEqDiff,Nat.reduceLT,Zi,Zj,Zk,Zl,Nat.reduceBEq]
 exact ⟨w,rfl,ow,fw.le (g0.trans g2).1,nw,(g0.trans g2).trans g3⟩
end
theorem BdArg.all {v : AVal} {bs : Hp} (h : BdArg v bs) {k : Nat} (hk : k < bs.length) : ∃ q0 q2 u,iaddrV 3 v (.int .i64 k) = some (addrOf 3 v k) ∧ faddrV 0 (addrOf 3 v k) = some q0 ∧ (∀ σ,loadV σ 2 true q0 = some (nmV bs[k].1)) ∧ faddrV 2 (addrOf 3 v k) = some q2 ∧ (∀ σ,loadV σ 1 false q2 = some u) ∧ Told u bs[k].2 := by
 obtain ⟨es,h1,h2⟩ := h.row
 have hke : k < es.length := by rw [h2.len]; exact hk
 obtain ⟨e,he1,u,he2,he3⟩ := h2.get hk
 have hee : es[k] = e := by rw [List.getElem?_eq_getElem hke] at he1; exact Option.some.inj he1
 have hb : ∀ σ,behind σ (addrOf 3 v k) = some (bdC (bs[k]).1 u,0) := fun σ => by
  have hb := ((h1 σ).addr hke .i64).2
  rw [hee,he2] at hb; exact hb
 obtain ⟨q0,p0,-⟩ := faddr_at (hb []) 0
 obtain ⟨q2,p2,-⟩ := faddr_at (hb []) 2
 refine ⟨q0,q2,u,(h1 []).iaddr hke .i64,p0,fun σ => ?_,p2,fun σ => ?_,he3⟩
 ·obtain ⟨q,r0,r1⟩ := faddr_at (hb σ) 0
  rw [p0] at r0
  rw [Option.some.inj r0]
  exact loadN_at r1 (by simp [bdC])
 ·obtain ⟨q,r0,r1⟩ := faddr_at (hb σ) 2
  rw [p2] at r0
  rw [Option.some.inj r0]
  exact load_at r1
section
variable (d : Nat) (σ : Store)
end
abbrev NN (ws : List Nm) : List AVal := ws.map nmV
theorem names_at {σ : Store} {l : AVal} {ws : List Nm} (hl : SlOf σ 2 l (NN ws)) {i : Nat} (hi : i < ws.length) : iaddrV 2 l (.int .i64 i) = some (addrOf 2 l i) ∧ loadV σ 2 true (addrOf 2 l i) = some (nmV ws[i]) := by
 have hi' : i < (NN ws).length := by rw [List.length_map]; exact hi
 exact ⟨hl.iaddr hi' .i64,hl.loadA hi' (cs := nmC ws[i]) (by rw [List.getElem_map]; rfl)⟩
theorem names_len {σ : Store} {l : AVal} {ws : List Nm} (hl : SlOf σ 2 l (NN ws)) : lenSV l = some ws.length := by
 have := hl.len; rwa [List.length_map] at this
theorem nm_lit (v : Nm) : fillL 2 true (List.replicate 1 (zel [AVal.int IntKind.i64 0,AVal.int IntKind.i64 0] true)) [(0,nmV v)] = some [nmV v] := rfl
theorem elems2 (tg : Nat) (σ : Store) (x : AVal) : elems 2 σ (.fslice tg true 2 [x]) = some [x] := elems_fs 2 tg true σ [x]
theorem contains_not {ws : List Nm} {v : Nm} (h : ∀ (j : Nat) (hj : j < ws.length),ws[j] ≠ v) : ws.contains v = false := by
 rw [Bool.eq_false_iff]
 intro hc
 rw [List.contains_iff_mem] at hc
 obtain ⟨j,hj,e⟩ := List.getElem_of_mem hc
 exact h j hj e
theorem contains_at {ws : List Nm} {v : Nm} {k : Nat} (hk : k < ws.length) (h : ws[k] = v) : ws.contains v = true := by
 rw [List.contains_iff_mem,← h]; exact List.getElem_mem hk
section
variable (d : Nat) (σ : Store)
theorem nindex_ok (l : AVal) (ws : List Nm) (v : Nm) (hx : ws.length < 2 ^ 40) (hl : SlOf σ 2 l (NN ws)) :
  Called CU.cfg d 124 [l,nmV v] σ fun r σ' => (∃ i : Int,r = .int .i64 i ∧ decide (0 ≤ i) = ws.contains v) ∧ Grows σ σ' := by
 refine called_of (fn := CU.a124) rfl (Nat.le_of_ble_eq_true rfl) ?_
 simp only [CU.a124, CU.o]
 have ll := names_len hl
 simp -dsimp only [↓WPd,↓Zm,↓Zn,WPu,Za,Zb,Zc,Zd,Ze,Zf,Zg,Zh,Nat.reduceEqDiff,Nat.reduceLT,Zi,Zj,Zk,Zl,Nat.reduceBEq,nm_cells,nm_one,ll]
 have ho : (σ ++ [AObj.cells (nmC v)])[σ.length]? = some (.cells (nmC v)) := by simp
 have g0 : Grows σ (σ ++ [AObj.cells (nmC v)]) := Grows.app _ _
 have hl1 := hl.grow g0
 generalize σ ++ [AObj.cells (nmC v)] = σ1 at ho g0 hl1
 generalize σ.length = i1 at ho
 refine loop_rule2 (fun m vs σ' => ∃ k,k ≤ ws.length ∧ m = ws.length - k ∧ vs = [l,.ptr i1 0,.int .i64 ws.length,.int .i64 k] ∧ σ' = σ1 ∧ ∀ (j : Nat) (hj : j < ws.length),j < k → ws[j] ≠ v) [4]
  (fun e vs σ' => σ' = σ1 ∧ ((e = .exit 0 ∧ ws.contains v = false) ∨ (e = .ret ∧ ws.contains v = true ∧ ∃ k : Nat,vs = [.int .i64 k]))) ws.length ⟨0,Nat.zero_le _,rfl,?_,rfl,fun j _ h => by omega⟩ ?_ ?_
 ·simp -dsimp only [↓WPd,↓Zm,↓Zn,WPu,Za,Zb,Zc,Zd,Ze,Zf,Zg,Zh,Nat.reduceEqDiff,Nat.reduceLT,Zi,Zj,Zk,Zl,Nat.reduceBEq]; rfl
 ·rintro m vs σ' ⟨k,hk,rfl,rfl,rfl,hall⟩
  simp -dsimp only [↓WPd,↓Zm,↓Zn,WPu,Za,Zb,Zc,Zd,Ze,Zf,Zg,Zh,Nat.reduceEqDiff,Nat.reduceLT,Zi,Zj,Zk,Zl,Nat.reduceBEq]
  refine condP_dec (fun h => ?_) (fun h => ?_)
  ·have hk' : k < ws.length := by omega
   obtain ⟨e1,e2⟩ := names_at hl1 hk'
   simp -dsimp only [↓WPd,↓Zm,↓Zn,WPu,Za,Zb,Zc,Zd,Ze,Zf,Zg,Zh,Nat.reduceEqDiff,Nat.reduceLT,Zi,Zj,Zk,Zl,Nat.reduceBEq,e1,e2,load_nm ho,nm_eqs]
   refine condP_intro (fun h => ?_) (fun h => ?_)
   ·rw [decide_eq_true_eq] at h
    simp -dsimp only [↓WPd,↓Zm,↓Zn,WPu,Za,Zb,Zc,Zd,Ze,Zf,Zg,Zh,Nat.reduceEqDiff,Nat.reduceLT,Zi,Zj,Zk,Zl,Nat.reduceBEq]
    exact .inr ⟨contains_at hk' h.symm,k,rfl⟩
   ·rw [decide_eq_false_iff_not] at h
    simp -dsimp only [↓WPd,↓Zm,↓Zn,WPu,Za,Zb,Zc,Zd,Ze,Zf,Zg,Zh,Nat.reduceEqDiff,Nat.reduceLT,Zi,Zj,Zk,Zl,Nat.reduceBEq]
    refine ⟨ws.length - (k + 1),by omega,k + 1,by omega,rfl,by rw [wrap_i64 (by omega) (by omega),Int.natCast_add,Int.natCast_one],fun j hj hjk => ?_⟩
    by_cases e : j = k
    ·subst e; exact fun e => h e.symm
    ·exact hall j hj (by omega)
  ·simp -dsimp only [↓WPd,↓Zm,↓Zn,WPu,Za,Zb,Zc,Zd,Ze,Zf,Zg,Zh,Nat.reduceEqDiff,Nat.reduceLT,Zi,Zj,Zk,Zl,Nat.reduceBEq]
   exact .inl (contains_not fun j hj => hall j hj (by omega))
 ·rintro e σ' env ⟨rfl,⟨rfl,hno⟩ | ⟨rfl,hyes,k,hv⟩⟩
  ·simp -dsimp only [↓WPd,↓Zm,↓Zn,WPu,Za,Zb,Zc,Zd,Ze,Zf,Zg,Zh,Nat.reduceEqDiff,Nat.reduceLT,Zi,Zj,Zk,Zl,Nat.reduceBEq]
   exact ⟨⟨_,rfl,by rw [hno]; rfl⟩,g0⟩
  ·simp only [List.map_cons,List.map_nil,List.cons.injEq,and_true] at hv
   simp -dsimp only [↓WPd,↓Zm,↓Zn,WPu,Za,Zb,Zc,Zd,Ze,Zf,Zg,Zh,Nat.reduceEqDiff,Nat.reduceLT,Zi,Zj,Zk,Zl,Nat.reduceBEq,hv]
   exact ⟨⟨_,rfl,by rw [hyes]; simp⟩,g0⟩
theorem ncontains_ok (l : AVal) (ws : List Nm) (v : Nm) (hx : ws.length < 2 ^ 40) (hl : SlOf σ 2 l (NN ws)) :
  Called CU.cfg d 78 [l,nmV v] σ fun r σ' => r = .bool (ws.contains v) ∧ Grows σ σ' := by
 refine called_of (fn := CU.a78) rfl (Nat.le_of_ble_eq_true rfl) ?_
 simp only [CU.a78, CU.o]
 simp -dsimp only [↓WPd,↓Zm,↓Zn,WPu,Za,Zb,Zc,Zd,Ze,Zf,Zg,Zh,Nat.reduceEqDiff,Nat.reduceLT,Zi,Zj,Zk,Zl,Nat.reduceBEq,nm_cells,nm_one]
 have ho : (σ ++ [AObj.cells (nmC v)])[σ.length]? = some (.cells (nmC v)) := by simp
 have g0 : Grows σ (σ ++ [AObj.cells (nmC v)]) := Grows.app _ _
 have hl1 := hl.grow g0
 generalize σ ++ [AObj.cells (nmC v)] = σ1 at ho g0 hl1
 generalize σ.length = i1 at ho
 simp -dsimp only [↓WPd,↓Zm,↓Zn,WPu,Za,Zb,Zc,Zd,Ze,Zf,Zg,Zh,Nat.reduceEqDiff,Nat.reduceLT,Zi,Zj,Zk,Zl,Nat.reduceBEq,load_nm ho]
 refine calledW_of (nindex_ok d σ1 l ws v hx hl1) ?_
 rintro r σ2 ⟨⟨i,rfl,hi⟩,g2⟩
 simp -dsimp only [↓WPd,↓Zm,↓Zn,WPu,Za,Zb,Zc,Zd,Ze,Zf,Zg,Zh,Nat.reduceEqDiff,Nat.reduceLT,Zi,Zj,Zk,Zl,Nat.reduceBEq]
 have : decide (i ≥ 0) = ws.contains v := hi
 rw [this]
 exact ⟨rfl,g0.trans g2⟩
theorem hasname_ok (l : AVal) (ws : List Nm) (v : Nm) (hx : ws.length < 2 ^ 40) (hl : SlOf σ 2 l (NN ws)) :
  Called CU.cfg d 63 [l,nmV v] σ fun r σ' => r = .bool (ws.contains v) ∧ Grows σ σ' := by
 refine called_of (fn := CU.a63) rfl (Nat.le_of_ble_eq_true rfl) ?_
 simp only [CU.a63, CU.o]
 have ll := names_len hl
 simp -dsimp only [↓WPd,↓Zm,↓Zn,WPu,Za,Zb,Zc,Zd,Ze,Zf,Zg,Zh,Nat.reduceEqDiff,Nat.reduceLT,Zi,Zj,Zk,Zl,Nat.reduceBEq,nm_cells,nm_one]
 have ho : (σ ++ [AObj.cells (nmC v)])[σ.length]? = some (.cells (nmC v)) := by simp
 have g0 : Grows σ (σ ++ [AObj.cells (nmC v)]) := Grows.app _ _
 have hl1 := hl.grow g0
 generalize σ ++ [AObj.cells (nmC v)] = σ1 at ho g0 hl1
 generalize σ.length = i1 at ho
 refine loop_rule2 (fun m vs σ' => ∃ k,k ≤ ws.length ∧ m = ws.length - k ∧ vs = [l,.ptr i1 0,.int .i64 k] ∧ σ' = σ1 ∧ ∀ (j : Nat) (hj : j < ws.length),j < k → ws[j] ≠ v) [4]
  (fun e vs σ' => σ' = σ1 ∧ ((e = .exit 0 ∧ ws.contains v = false) ∨ (e = .ret ∧ ws.contains v = true ∧ vs = [.bool true]))) ws.length ⟨0,Nat.zero_le _,rfl,?_,rfl,fun j _ h => by omega⟩ ?_ ?_
 ·simp -dsimp only [↓WPd,↓Zm,↓Zn,WPu,Za,Zb,Zc,Zd,Ze,Zf,Zg,Zh,Nat.reduceEqDiff,Nat.reduceLT,Zi,Zj,Zk,Zl,Nat.reduceBEq]; rfl
 ·rintro m vs σ' ⟨k,hk,rfl,rfl,rfl,hall⟩
  simp -dsimp only [↓WPd,↓Zm,↓Zn,WPu,Za,Zb,Zc,Zd,Ze,Zf,Zg,Zh,Nat.reduceEqDiff,Nat.reduceLT,Zi,Zj,Zk,Zl,Nat.reduceBEq,ll]
  refine condP_dec (fun h => ?_) (fun h => ?_)
  ·have hk' : k < ws.length := by omega
   obtain ⟨e1,e2⟩ := names_at hl1 hk'
   simp -dsimp only [↓WPd,↓Zm,↓Zn,WPu,Za,Zb,Zc,Zd,Ze,Zf,Zg,Zh,Nat.reduceEqDiff,Nat.reduceLT,Zi,Zj,Zk,Zl,Nat.reduceBEq,e1,e2,load_nm ho,nm_eqs]
   refine condP_intro (fun h => ?_) (fun h => ?_)
   ·rw [decide_eq_true_eq] at h
    simp -dsimp only [↓WPd,↓Zm,↓Zn,WPu,Za,Zb,Zc,Zd,Ze,Zf,Zg,Zh,Nat.reduceEqDiff,Nat.reduceLT,Zi,Zj,Zk,Zl,Nat.reduceBEq]
    exact .inr ⟨contains_at hk' h,trivial⟩
   ·rw [decide_eq_false_iff_not] at h
    simp -dsimp only [↓WPd,↓Zm,↓Zn,WPu,Za,Zb,Zc,Zd,Ze,Zf,Zg,Zh,Nat.reduceEqDiff,Nat.reduceLT,Zi,Zj,Zk,Zl,Nat.reduceBEq]
    refine ⟨ws.length - (k + 1),by omega,k + 1,by omega,rfl,by rw [wrap_i64 (by omega) (by omega),Int.natCast_add,Int.natCast_one],fun j hj hjk => ?_⟩
    by_cases e : j = k
    ·subst e; exact h
    ·exact hall j hj (by omega)
  ·simp -dsimp only [↓WPd,↓Zm,↓Zn,WPu,Za,Zb,Zc,Zd,Ze,Zf,Zg,Zh,Nat.reduceEqDiff,Nat.reduceLT,Zi,Zj,Zk,Zl,Nat.reduceBEq]
   exact .inl (contains_not fun j hj => hall j hj (by omega))
 ·rintro e σ' env ⟨rfl,⟨rfl,hno⟩ | ⟨rfl,hyes,hv⟩⟩
  ·simp -dsimp only [↓WPd,↓Zm,↓Zn,WPu,Za,Zb,Zc,Zd,Ze,Zf,Zg,Zh,Nat.reduceEqDiff,Nat.reduceLT,Zi,Zj,Zk,Zl,Nat.reduceBEq,hno]
   exact g0
  ·simp only [List.map_cons,List.map_nil,List.cons.injEq,and_true] at hv
   simp -dsimp only [↓WPd,↓Zm,↓Zn,WPu,Za,Zb,Zc,Zd,Ze,Zf,Zg,Zh,Nat.reduceEqDiff,Nat.reduceLT,Zi,Zj,Zk,Zl,Nat.reduceBEq,hv,hyes]
   exact g0
theorem Own.name {σ : Store} {l : AVal} {ws : List Nm} (h : Own σ 2 l (NN ws)) (v : Nm) (hx : ws.length < 2 ^ 40) :
  ∃ l' σ',appendV σ 2 16 l [nmV v] = some (l',σ') ∧ Own σ' 2 l' (NN (ws ++ [v])) ∧ Keeps (fun i => l.sid = some i) σ σ' ∧ (∀ id,l'.sid = some id → l.sid = some id ∨ id = σ.length) ∧ NoLit l' := by
 obtain ⟨l',σ',a,b,c,e,f⟩ := h.append [nmV v] 16 (by simp only [List.length_map,List.length_singleton]; omega)
 exact ⟨l',σ',a,by simpa using b,c,e,f (.inr (by simp))⟩
end
theorem cel_put (σ : Store) (c : Cel) : storeV (σ ++ [AObj.cells [.int .u8 0,.str [],.int .i64 0,.int .i64 0,.int .i64 0]]) 5 (.ptr σ.length 0) c.val = some (σ ++ [AObj.cells c.cs]) := by
 have h : (σ ++ [AObj.cells [.int .u8 0,.str [],.int .i64 0,.int .i64 0,.int .i64 0]])[σ.length]? = some (.cells [.int .u8 0,.str [],.int .i64 0,.int .i64 0,.int .i64 0]) := by simp
 have e : c.val = .agg c.cs := rfl
 rw [e,storeN_cells (cs' := c.cs) (n := 5) h rfl rfl rfl,set_last]
theorem cela_at {σ : Store} {l : AVal} {t : List Cel} (hl : SlOf σ 5 l (CC t)) {i : Nat} (hi : i < t.length) : iaddrV 5 l (.int .i64 i) = some (addrOf 5 l i) ∧ loadV σ 5 true (addrOf 5 l i) = some (t[i]).val := by
 have hi' : i < (CC t).length := by rw [List.length_map]; exact hi
 exact ⟨hl.iaddr hi' .i64,hl.loadA hi' (cs := (t[i]).cs) (by rw [cel_get]; rfl)⟩
theorem Terms.at0 {σ : Store} {l : AVal} {ts : List (List Cel)} (h : Terms σ l ts) {i : Nat} (hi : i < ts.length) : ∃ e,SlOf σ 5 e (CC ts[i]) ∧ ∀ σ',Grows σ σ' → iaddrV 1 l (.int .i64 i) = some (addrOf 1 l i) ∧ loadV σ' 1 false (addrOf 1 l i) = some e := by
 obtain ⟨es,h1,h2⟩ := h
 have hi' : i < es.length := by rw [h2.len]; exact hi
 obtain ⟨e,he1,he2⟩ := h2.get hi
 have hee : es[i] = e := by rw [List.getElem?_eq_getElem hi'] at he1; exact Option.some.inj he1
 refine ⟨e,he2,fun σ' g => ⟨h1.iaddr hi' .i64,?_⟩⟩
 have := (h1.grow g).load1 hi' (by rw [hee]; exact he2.one) 1
 rw [hee] at this; exact this
section
variable (d : Nat) (σ : Store)
theorem vars_ok (lv : AVal) (ts : List (List Cel)) (hx : ts.flatten.length < 2 ^ 30) (hn : ts.length < 2 ^ 30) (hl : Terms σ lv ts) :
  Called CU.cfg d 62 [lv] σ fun r σ' => Grows σ σ' ∧ Own σ' 2 r (NN (varsL [] ts.flatten)) ∧ Fresh σ.length r := by
 refine called_of (fn := CU.a62) rfl (Nat.le_of_ble_eq_true rfl) ?_
 simp only [CU.a62, CU.o]
 have ll := hl.len
 simp -dsimp only [↓WPd,↓Zm,↓Zn,WPu,Za,Zb,Zc,Zd,Ze,Zf,Zg,Zh,Nat.reduceEqDiff,Nat.reduceLT,Zi,Zj,Zk,Zl,Nat.reduceBEq,ll]
 refine loop_rule2 (fun m vs σ' => ∃ k acc,k ≤ ts.length ∧ m = ts.length - k ∧ vs = [acc,lv,.int .i64 ts.length,.int .i64 k] ∧ Grows σ σ' ∧ Own σ' 2 acc (NN (varsL [] (ts.take k).flatten)) ∧ Fresh σ.length acc) [3]
  (fun e vs σ' => e = .exit 0 ∧ ∃ acc,vs = [acc] ∧ Grows σ σ' ∧ Own σ' 2 acc (NN (varsL [] ts.flatten)) ∧ Fresh σ.length acc) ts.length ⟨0,.nilslice,Nat.zero_le _,rfl,?_,Keeps.refl _ _,Own.nil _ _,Fresh.nil _⟩ ?_ ?_
 ·simp -dsimp only [↓WPd,↓Zm,↓Zn,WPu,Za,Zb,Zc,Zd,Ze,Zf,Zg,Zh,Nat.reduceEqDiff,Nat.reduceLT,Zi,Zj,Zk,Zl,Nat.reduceBEq]; rfl
 ·rintro m vs σ' ⟨k,acc,hk,rfl,rfl,g,ha,fa⟩
  simp -dsimp only [↓WPd,↓Zm,↓Zn,WPu,Za,Zb,Zc,Zd,Ze,Zf,Zg,Zh,Nat.reduceEqDiff,Nat.reduceLT,Zi,Zj,Zk,Zl,Nat.reduceBEq]
  refine condP_dec (fun h => ?_) (fun h => ?_)
  ·have hk' : k < ts.length := by omega
   obtain ⟨e,e3,e0⟩ := hl.at0 hk'
   obtain ⟨e1,e2⟩ := e0 σ' g
   have le := e3.len
   rw [List.length_map] at le
   have hf : (ts.take (k + 1)).flatten = (ts.take k).flatten ++ ts[k] := by
    rw [List.take_succ_eq_append_getElem hk',List.flatten_append]; simp only [List.flatten_cons,List.flatten_nil,List.append_nil]
   have hb := flat_le ts (k + 1)
   rw [hf,List.length_append] at hb
   simp -dsimp only [↓WPd,↓Zm,↓Zn,WPu,Za,Zb,Zc,Zd,Ze,Zf,Zg,Zh,Nat.reduceEqDiff,Nat.reduceLT,Zi,Zj,Zk,Zl,Nat.reduceBEq,e1,e2,le]
   refine loop_rule2 (fun m vs σ2 => ∃ j acc,j ≤ (ts[k]).length ∧ m = (ts[k]).length - j ∧ vs = [acc,lv,.int .i64 ts.length,.int .i64 k,e,.int .i64 (ts[k]).length,.int .i64 j] ∧ Grows σ σ2 ∧ Own σ2 2 acc (NN (varsL [] ((ts.take k).flatten ++ (ts[k]).take j))) ∧ Fresh σ.length acc) [3,8,9,10]
    (fun x vs σ2 => x = .exit 2 ∧ ∃ acc,vs = [acc,lv,.int .i64 ts.length,.int .i64 k] ∧ Grows σ σ2 ∧ Own σ2 2 acc (NN (varsL [] ((ts.take k).flatten ++ ts[k]))) ∧ Fresh σ.length acc) (ts[k]).length ⟨0,acc,Nat.zero_le _,rfl,?_,g,by simpa using ha,fa⟩ ?_ ?_
   ·simp -dsimp only [↓WPd,↓Zm,↓Zn,WPu,Za,Zb,Zc,Zd,Ze,Zf,Zg,Zh,Nat.reduceEqDiff,Nat.reduceLT,Zi,Zj,Zk,Zl,Nat.reduceBEq]; rfl
   ·rintro m vs σ2 ⟨j,acc,hj,rfl,rfl,g2,ha,fa⟩
    simp -dsimp only [↓WPd,↓Zm,↓Zn,WPu,Za,Zb,Zc,Zd,Ze,Zf,Zg,Zh,Nat.reduceEqDiff,Nat.reduceLT,Zi,Zj,Zk,Zl,Nat.reduceBEq]
    refine condP_dec (fun h => ?_) (fun h => ?_)
    ·have hj' : j < (ts[k]).length := by omega
     have he := e3.grow g2
     obtain ⟨a1,a2⟩ := cela_at he hj'
     have hv := varsL_snoc [] ((ts.take k).flatten ++ (ts[k]).take j) (ts[k])[j]
     rw [List.append_assoc,← List.take_succ_eq_append_getElem hj'] at hv
     have hvl := varsL_len [] ((ts.take k).flatten ++ (ts[k]).take j)
     rw [List.length_append,List.length_take] at hvl
     simp only [List.length_nil] at hvl
     simp -dsimp only [↓WPd,↓Zm,↓Zn,WPu,Za,Zb,Zc,Zd,Ze,Zf,Zg,Zh,Nat.reduceEqDiff,Nat.reduceLT,Zi,Zj,Zk,Zl,Nat.reduceBEq,a1,a2,cel_put]
     generalize hcc : (ts[k])[j] = c at *
     have oc : (σ2 ++ [AObj.cells c.cs])[σ2.length]? = some (.cells c.cs) := by simp
     have g3 : Grows σ2 (σ2 ++ [AObj.cells c.cs]) := Grows.app _ _
     have he3 := he.grow g3
     have ha3 := ha.grow g3
     have gg := g2.trans g3
     generalize σ2 ++ [AObj.cells c.cs] = σ3 at oc g3 he3 ha3 gg
     generalize σ2.length = ic at oc
     have k4 : ((c.k : Int) == 4) = decide (c.k = 4) := by by_cases h : c.k = 4 <;> simp [h] <;> omega
     simp -dsimp only [↓WPd,↓Zm,↓Zn,WPu,Za,Zb,Zc,Zd,Ze,Zf,Zg,Zh,Nat.reduceEqDiff,Nat.reduceLT,Zi,Zj,Zk,Zl,Nat.reduceBEq,faddr_ptr,Nat.add_zero,load_cells oc,Cel.g0,k4]
     by_cases h4 : c.k = 4
     ·simp -dsimp only [↓WPd,↓Zm,↓Zn,WPu,Za,Zb,Zc,Zd,Ze,Zf,Zg,Zh,Nat.reduceEqDiff,Nat.reduceLT,Zi,Zj,Zk,Zl,Nat.reduceBEq,decide_eq_true h4,faddr_ptr,Nat.zero_add,celvar_load oc]
      refine calledW_of (ncontains_ok d σ3 acc _ c.v (by omega) ha3.sl) ?_
      rintro r σ4 ⟨rfl,g4⟩
      have oc4 := g4.get oc
      have he4 := he3.grow g4
      have ha4 := ha3.grow g4
      simp -dsimp only [↓WPd,↓Zm,↓Zn,WPu,Za,Zb,Zc,Zd,Ze,Zf,Zg,Zh,Nat.reduceEqDiff,Nat.reduceLT,Zi,Zj,Zk,Zl,Nat.reduceBEq]
      rw [if_pos h4,addN] at hv
      refine condP_intro (fun hc => ?_) (fun hc => ?_)
      ·simp only [Bool.not_eq_true'] at hc
       rw [hc,if_neg (by simp)] at hv
       obtain ⟨l',σ5,p1,p2,p3,p4,p5⟩ := ha4.name c.v (by omega)
       simp -dsimp only [↓WPd,↓Zm,↓Zn,WPu,Za,Zb,Zc,Zd,Ze,Zf,Zg,Zh,Nat.reduceEqDiff,Nat.reduceLT,Zi,Zj,Zk,Zl,Nat.reduceBEq,faddr_ptr,Nat.add_zero,celvar_load oc4,nm_lit,elems2,p1]
       refine ⟨(ts[k]).length - (j + 1),by omega,j + 1,l',by omega,rfl,by rw [wrap_i64 (by omega) (by omega),Int.natCast_add,Int.natCast_one],?_,?_,?_⟩
       ·exact Keeps.trans (gg.trans g4) p3 fun i hi e => by have := fa i e; omega
       ·rw [hv]; exact p2
       ·intro i hi
        rcases p4 i hi with e | e
        ·exact fa i e
        ·have := (gg.trans g4).1; omega
      ·simp only [Bool.not_eq_false'] at hc
       rw [hc,if_pos rfl] at hv
       simp -dsimp only [↓WPd,↓Zm,↓Zn,WPu,Za,Zb,Zc,Zd,Ze,Zf,Zg,Zh,Nat.reduceEqDiff,Nat.reduceLT,Zi,Zj,Zk,Zl,Nat.reduceBEq]
       refine ⟨(ts[k]).length - (j + 1),by omega,j + 1,acc,by omega,rfl,by rw [wrap_i64 (by omega) (by omega),Int.natCast_add,Int.natCast_one],gg.trans g4,?_,fa⟩
       rw [hv]; exact ha4
     ·rw [if_neg h4] at hv
      simp -dsimp only [↓WPd,↓Zm,↓Zn,WPu,Za,Zb,Zc,Zd,Ze,Zf,Zg,Zh,Nat.reduceEqDiff,Nat.reduceLT,Zi,Zj,Zk,Zl,Nat.reduceBEq,decide_eq_false h4]
      refine ⟨(ts[k]).length - (j + 1),by omega,j + 1,acc,by omega,rfl,by rw [wrap_i64 (by omega) (by omega),Int.natCast_add,Int.natCast_one],gg,?_,fa⟩
      rw [hv]; exact ha3
    ·have : j = (ts[k]).length := by omega
     subst this
     rw [List.take_length] at ha
     simp -dsimp only [↓WPd,↓Zm,↓Zn,WPu,Za,Zb,Zc,Zd,Ze,Zf,Zg,Zh,Nat.reduceEqDiff,Nat.reduceLT,Zi,Zj,Zk,Zl,Nat.reduceBEq]
     exact ⟨acc,rfl,g2,ha,fa⟩
   ·rintro x σ2 env ⟨rfl,acc,hv,g2,ha,fa⟩
    simp only [List.map_cons,List.map_nil,List.cons.injEq,and_true] at hv
    obtain ⟨v1,v2,v3,v4⟩ := hv
    simp -dsimp only [↓WPd,↓Zm,↓Zn,WPu,Za,Zb,Zc,Zd,Ze,Zf,Zg,Zh,Nat.reduceEqDiff,Nat.reduceLT,Zi,Zj,Zk,Zl,Nat.reduceBEq,v1,v2,v3,v4]
    refine ⟨ts.length - (k + 1),by omega,k + 1,acc,by omega,rfl,by rw [wrap_i64 (by omega) (by omega),Int.natCast_add,Int.natCast_one],g2,?_,fa⟩
    rw [hf]; exact ha
  ·have : k = ts.length := by omega
   subst this
   rw [List.take_length] at ha
   simp -dsimp only [↓WPd,↓Zm,↓Zn,WPu,Za,Zb,Zc,Zd,Ze,Zf,Zg,Zh,Nat.reduceEqDiff,Nat.reduceLT,Zi,Zj,Zk,Zl,Nat.reduceBEq]
   exact ⟨acc,rfl,g,ha,fa⟩
 ·rintro e σ' env ⟨rfl,acc,hv,g,ha,fa⟩
  simp only [List.map_cons,List.map_nil,List.cons.injEq,and_true] at hv
  simp -dsimp only [↓WPd,↓Zm,↓Zn,WPu,Za,Zb,Zc,Zd,Ze,Zf,Zg,Zh,Nat.reduceEqDiff,Nat.reduceLT,Zi,Zj,Zk,Zl,Nat.reduceBEq,hv]
  exact ⟨g,ha,fa⟩
theorem rvars_ok (lv : AVal) (ts : List (List Cel)) (hx : ts.flatten.length < 2 ^ 30) (hn : ts.length < 2 ^ 30) (hl : Terms σ lv ts) :
  Called CU.cfg d 66 [lv] σ fun r σ' => Grows σ σ' ∧ Own σ' 2 r (NN (varsL [] ts.flatten)) ∧ Fresh σ.length r := by
 refine called_of (fn := CU.a66) rfl (Nat.le_of_ble_eq_true rfl) ?_
 simp only [CU.a66, CU.o]
 have ll := hl.len
 simp -dsimp only [↓WPd,↓Zm,↓Zn,WPu,Za,Zb,Zc,Zd,Ze,Zf,Zg,Zh,Nat.reduceEqDiff,Nat.reduceLT,Zi,Zj,Zk,Zl,Nat.reduceBEq,ll]
 refine loop_rule2 (fun m vs σ' => ∃ k acc,k ≤ ts.length ∧ m = ts.length - k ∧ vs = [lv,acc,.int .i64 k] ∧ Grows σ σ' ∧ Own σ' 2 acc (NN (varsL [] (ts.take k).flatten)) ∧ Fresh σ.length acc) [3]
  (fun e vs σ' => e = .exit 0 ∧ ∃ acc,vs = [acc] ∧ Grows σ σ' ∧ Own σ' 2 acc (NN (varsL [] ts.flatten)) ∧ Fresh σ.length acc) ts.length ⟨0,.nilslice,Nat.zero_le _,rfl,?_,Keeps.refl _ _,Own.nil _ _,Fresh.nil _⟩ ?_ ?_
 ·simp -dsimp only [↓WPd,↓Zm,↓Zn,WPu,Za,Zb,Zc,Zd,Ze,Zf,Zg,Zh,Nat.reduceEqDiff,Nat.reduceLT,Zi,Zj,Zk,Zl,Nat.reduceBEq]; rfl
 ·rintro m vs σ' ⟨k,acc,hk,rfl,rfl,g,ha,fa⟩
  simp -dsimp only [↓WPd,↓Zm,↓Zn,WPu,Za,Zb,Zc,Zd,Ze,Zf,Zg,Zh,Nat.reduceEqDiff,Nat.reduceLT,Zi,Zj,Zk,Zl,Nat.reduceBEq,ll]
  refine condP_dec (fun h => ?_) (fun h => ?_)
  ·have hk' : k < ts.length := by omega
   obtain ⟨e,e3,e0⟩ := hl.at0 hk'
   obtain ⟨e1,e2⟩ := e0 σ' g
   have le := e3.len
   rw [List.length_map] at le
   have hf : (ts.take (k + 1)).flatten = (ts.take k).flatten ++ ts[k] := by
    rw [List.take_succ_eq_append_getElem hk',List.flatten_append]; simp only [List.flatten_cons,List.flatten_nil,List.append_nil]
   have hb := flat_le ts (k + 1)
   rw [hf,List.length_append] at hb
   simp -dsimp only [↓WPd,↓Zm,↓Zn,WPu,Za,Zb,Zc,Zd,Ze,Zf,Zg,Zh,Nat.reduceEqDiff,Nat.reduceLT,Zi,Zj,Zk,Zl,Nat.reduceBEq]
   refine loop_rule2 (fun m vs σ2 => ∃ j acc,j ≤ (ts[k]).length ∧ m = (ts[k]).length - j ∧ vs = [lv,acc,.int .i64 k,.int .i64 j] ∧ Grows σ σ2 ∧ Own σ2 2 acc (NN (varsL [] ((ts.take k).flatten ++ (ts[k]).take j))) ∧ Fresh σ.length acc) [0,3,4]
    (fun x vs σ2 => x = .exit 2 ∧ ∃ acc,vs = [lv,acc,.int .i64 k] ∧ Grows σ σ2 ∧ Own σ2 2 acc (NN (varsL [] ((ts.take k).flatten ++ ts[k]))) ∧ Fresh σ.length acc) (ts[k]).length ⟨0,acc,Nat.zero_le _,rfl,?_,g,by simpa using ha,fa⟩ ?_ ?_
   ·simp -dsimp only [↓WPd,↓Zm,↓Zn,WPu,Za,Zb,Zc,Zd,Ze,Zf,Zg,Zh,Nat.reduceEqDiff,Nat.reduceLT,Zi,Zj,Zk,Zl,Nat.reduceBEq]; rfl
   ·rintro m vs σ2 ⟨j,acc,hj,rfl,rfl,g2,ha,fa⟩
    obtain ⟨b1,b2⟩ := e0 σ2 g2
    simp -dsimp only [↓WPd,↓Zm,↓Zn,WPu,Za,Zb,Zc,Zd,Ze,Zf,Zg,Zh,Nat.reduceEqDiff,Nat.reduceLT,Zi,Zj,Zk,Zl,Nat.reduceBEq,b1,b2,le]
    refine condP_dec (fun h => ?_) (fun h => ?_)
    ·have hj' : j < (ts[k]).length := by omega
     have he := e3.grow g2
     obtain ⟨a1,a2⟩ := cela_at he hj'
     have hv := varsL_snoc [] ((ts.take k).flatten ++ (ts[k]).take j) (ts[k])[j]
     rw [List.append_assoc,← List.take_succ_eq_append_getElem hj'] at hv
     have hvl := varsL_len [] ((ts.take k).flatten ++ (ts[k]).take j)
     rw [List.length_append,List.length_take] at hvl
     simp only [List.length_nil] at hvl
     simp -dsimp only [↓WPd,↓Zm,↓Zn,WPu,Za,Zb,Zc,Zd,Ze,Zf,Zg,Zh,Nat.reduceEqDiff,Nat.reduceLT,Zi,Zj,Zk,Zl,Nat.reduceBEq,b1,b2,a1,a2,cel_put]
     generalize hcc : (ts[k])[j] = c at *
     have oc : (σ2 ++ [AObj.cells c.cs])[σ2.length]? = some (.cells c.cs) := by simp
     have g3 : Grows σ2 (σ2 ++ [AObj.cells c.cs]) := Grows.app _ _
     have he3 := he.grow g3
     have ha3 := ha.grow g3
     have gg := g2.trans g3
     generalize σ2 ++ [AObj.cells c.cs] = σ3 at oc g3 he3 ha3 gg
     generalize σ2.length = ic at oc
     have k4 : ((c.k : Int) == 4) = decide (c.k = 4) := by by_cases h : c.k = 4 <;> simp [h] <;> omega
     simp -dsimp only [↓WPd,↓Zm,↓Zn,WPu,Za,Zb,Zc,Zd,Ze,Zf,Zg,Zh,Nat.reduceEqDiff,Nat.reduceLT,Zi,Zj,Zk,Zl,Nat.reduceBEq,faddr_ptr,Nat.add_zero,load_cells oc,Cel.g0,k4]
     by_cases h4 : c.k = 4
     ·simp -dsimp only [↓WPd,↓Zm,↓Zn,WPu,Za,Zb,Zc,Zd,Ze,Zf,Zg,Zh,Nat.reduceEqDiff,Nat.reduceLT,Zi,Zj,Zk,Zl,Nat.reduceBEq,decide_eq_true h4,faddr_ptr,Nat.zero_add,celvar_load oc]
      refine calledW_of (hasname_ok d σ3 acc _ c.v (by omega) ha3.sl) ?_
      rintro r σ4 ⟨rfl,g4⟩
      have oc4 := g4.get oc
      have he4 := he3.grow g4
      have ha4 := ha3.grow g4
      simp -dsimp only [↓WPd,↓Zm,↓Zn,WPu,Za,Zb,Zc,Zd,Ze,Zf,Zg,Zh,Nat.reduceEqDiff,Nat.reduceLT,Zi,Zj,Zk,Zl,Nat.reduceBEq]
      rw [if_pos h4,addN] at hv
      refine condP_intro (fun hc => ?_) (fun hc => ?_)
      ·simp only [Bool.not_eq_true'] at hc
       rw [hc,if_neg (by simp)] at hv
       obtain ⟨l',σ5,p1,p2,p3,p4,p5⟩ := ha4.name c.v (by omega)
       simp -dsimp only [↓WPd,↓Zm,↓Zn,WPu,Za,Zb,Zc,Zd,Ze,Zf,Zg,Zh,Nat.reduceEqDiff,Nat.reduceLT,Zi,Zj,Zk,Zl,Nat.reduceBEq,faddr_ptr,Nat.add_zero,celvar_load oc4,nm_lit,elems2,p1]
       refine ⟨(ts[k]).length - (j + 1),by omega,j + 1,l',by omega,rfl,by rw [wrap_i64 (by omega) (by omega),Int.natCast_add,Int.natCast_one],?_,?_,?_⟩
       ·exact Keeps.trans (gg.trans g4) p3 fun i hi e => by have := fa i e; omega
       ·rw [hv]; exact p2
       ·intro i hi
        rcases p4 i hi with e | e
        ·exact fa i e
        ·have := (gg.trans g4).1; omega
      ·simp only [Bool.not_eq_false'] at hc
       rw [hc,if_pos rfl] at hv
       simp -dsimp only [↓WPd,↓Zm,↓Zn,WPu,Za,Zb,Zc,Zd,Ze,Zf,Zg,Zh,Nat.reduceEqDiff,Nat.reduceLT,Zi,Zj,Zk,Zl,Nat.reduceBEq]
       refine ⟨(ts[k]).length - (j + 1),by omega,j + 1,acc,by omega,rfl,by rw [wrap_i64 (by omega) (by omega),Int.natCast_add,Int.natCast_one],gg.trans g4,?_,fa⟩
       rw [hv]; exact ha4
     ·rw [if_neg h4] at hv
      simp -dsimp only [↓WPd,↓Zm,↓Zn,WPu,Za,Zb,Zc,Zd,Ze,Zf,Zg,Zh,Nat.reduceEqDiff,Nat.reduceLT,Zi,Zj,Zk,Zl,Nat.reduceBEq,decide_eq_false h4]
      refine ⟨(ts[k]).length - (j + 1),by omega,j + 1,acc,by omega,rfl,by rw [wrap_i64 (by omega) (by omega),Int.natCast_add,Int.natCast_one],gg,?_,fa⟩
      rw [hv]; exact ha3
    ·have : j = (ts[k]).length := by omega
     subst this
     rw [List.take_length] at ha
     simp -dsimp only [↓WPd,↓Zm,↓Zn,WPu,Za,Zb,Zc,Zd,Ze,Zf,Zg,Zh,Nat.reduceEqDiff,Nat.reduceLT,Zi,Zj,Zk,Zl,Nat.reduceBEq]
     exact ⟨acc,rfl,g2,ha,fa⟩
   ·rintro x σ2 env ⟨rfl,acc,hv,g2,ha,fa⟩
    simp only [List.map_cons,List.map_nil,List.cons.injEq,and_true] at hv
    obtain ⟨v1,v2,v3⟩ := hv
    simp -dsimp only [↓WPd,↓Zm,↓Zn,WPu,Za,Zb,Zc,Zd,Ze,Zf,Zg,Zh,Nat.reduceEqDiff,Nat.reduceLT,Zi,Zj,Zk,Zl,Nat.reduceBEq,v1,v2,v3]
    refine ⟨ts.length - (k + 1),by omega,k + 1,acc,by omega,rfl,by rw [wrap_i64 (by omega) (by omega),Int.natCast_add,Int.natCast_one],g2,?_,fa⟩
    rw [hf]; exact ha
  ·have : k = ts.length := by omega
   subst this
   rw [List.take_length] at ha
   simp -dsimp only [↓WPd,↓Zm,↓Zn,WPu,Za,Zb,Zc,Zd,Ze,Zf,Zg,Zh,Nat.reduceEqDiff,Nat.reduceLT,Zi,Zj,Zk,Zl,Nat.reduceBEq]
   exact ⟨acc,rfl,g,ha,fa⟩
 ·rintro e σ' env ⟨rfl,acc,hv,g,ha,fa⟩
  simp only [List.map_cons,List.map_nil,List.cons.injEq,and_true] at hv
  simp -dsimp only [↓WPd,↓Zm,↓Zn,WPu,Za,Zb,Zc,Zd,Ze,Zf,Zg,Zh,Nat.reduceEqDiff,Nat.reduceLT,Zi,Zj,Zk,Zl,Nat.reduceBEq,hv]
  exact ⟨g,ha,fa⟩
end
def tryC (k : Nat) (lv wv : AVal) : List AVal := [.int .u8 k,.int .i64 (-1),lv,wv]
abbrev tryZ : List AVal := [.int .u8 0,.int .i64 0,.nilslice,.nilslice]
theorem try_put {σ σ' : Store} {i : Nat} {k : Nat} {lv wv : AVal} (h : σ[i]? = some (.cells tryZ)) (hl : lv.one = true) (hw : wv.one = true) :
  storeV σ 4 (.ptr i 0) (.agg (tryC k lv wv)) = some (σ.set i (.cells (tryC k lv wv))) ∧ loadV (σ.set i (.cells (tryC k lv wv))) 4 true (.ptr i 0) = some (.agg (tryC k lv wv)) := by
 refine ⟨storeN_cells (n := 4) (cs' := tryC k lv wv) h rfl rfl ?_,loadN_cells (get_set h) rfl⟩
 simp only [tryC,List.all_cons,List.all_nil,hl,hw]; rfl
section
variable (d : Nat) (σ : Store)
end
theorem SlOf.noMap {σ : Store} {sz : Nat} {v : AVal} {es ks vs : List AVal} {id : Nat} (h : SlOf σ sz v es) (ho : σ[id]? = some (.map ks vs)) : v.sid ≠ some id := by
 intro hs
 rcases h.cases with ⟨rfl,_⟩ | ⟨t,f,rfl⟩ | ⟨id',ep,off,cap,sz',xs,epo,fl,rfl,h1,_⟩
 ·cases hs
 ·cases hs
 ·injection hs with hs; subst hs; rw [ho] at h1; cases h1
def delN (H : Hp) (v : Nm) : Hp := H.filter fun p => decide (p.1 ≠ v)
theorem WF.filter {H : Hp} (h : WF H) (f : Nm × List Cel → Bool) : WF (H.filter f) :=
 ⟨(List.filter_sublist.map _).nodup h.keys,fun p hp => h.ok p (List.mem_filter.1 hp).1⟩
theorem Two.erase {α β : Type} {Q : α → β → Prop} {us : List α} {ws : List β} (h : Two Q us ws) (i : Nat) : Two Q (us.eraseIdx i) (ws.eraseIdx i) := by
 rw [List.eraseIdx_eq_take_drop_succ,List.eraseIdx_eq_take_drop_succ]
 exact (h.take i).append (h.drop (i + 1))
def dropH (H : Hp) (ws : List Nm) : Hp := ws.foldl delN H
def dropR (R : Hp) (ws : List Nm) : Hp := R.filter fun p => !ws.contains p.1
theorem dropH_eq : ∀ (ws : List Nm) (H : Hp),dropH H ws = H.filter fun p => !ws.contains p.1
 | [],H => by
  simp only [dropH,List.foldl_nil]
  exact (List.filter_eq_self.2 fun _ _ => by simp).symm
 | v :: ws,H => by
  have ih := dropH_eq ws (delN H v)
  simp only [dropH,List.foldl_cons] at ih ⊢
  rw [ih,delN,List.filter_filter]
  congr 1
  funext p
  by_cases e : p.1 = v
  ·simp [e]
  ·have e2 : ¬ (v = p.1) := fun h => e h.symm
   simp [List.contains_cons,e]
theorem Same.drop {H R : Hp} (h : Same H R) (ws : List Nm) : Same (dropH H ws) (dropR R ws) := by
 rw [dropH_eq]
 exact ⟨h.wf.filter _,h.perm.filter _,List.Pairwise.sublist List.filter_sublist h.rise⟩
section
variable (d : Nat) (σ : Store)
end
def addB (l bs : List Nm) (v b : Nm) : List Nm := if l.contains v then bs else bs ++ [b]
structure Come (H : Hp) (rs l bs : List Nm) : Prop where
 len : bs.length = l.length
 by_ : ∀ (j : Nat) (hj : j < l.length) (hb : j < bs.length),(l[j] ∈ rs ∧ bs[j] = l[j]) ∨ ∃ (i : Nat) (hi : i < j),bs[j] = l[i]'(by omega) ∧ l[j] ∈ stepN H (l[i]'(by omega)) ∧ ∀ (k : Nat) (hk : k < i),l[j] ∉ stepN H (l[k]'(by omega))
theorem Come.nil (H : Hp) (rs : List Nm) : Come H rs [] [] := ⟨rfl,fun j hj => by simp at hj⟩
theorem Come.add {H : Hp} {rs l bs : List Nm} (h : Come H rs l bs) {v b : Nm} (hv : (v ∈ rs ∧ b = v) ∨ ∃ (i : Nat) (hi : i < l.length),b = l[i] ∧ v ∈ stepN H l[i] ∧ (v ∉ l → ∀ (k : Nat) (hk : k < i),v ∉ stepN H (l[k]'(by omega)))) : Come H rs (addN l v) (addB l bs v b) := by
 unfold addN addB
 by_cases hc : l.contains v = true
 ·rw [if_pos hc,if_pos hc]; exact h
 ·rw [if_neg hc,if_neg hc]
  refine ⟨by simp [h.len],fun j hj hb => ?_⟩
  by_cases hjl : j < l.length
  ·have e1 : (l ++ [v])[j] = l[j] := List.getElem_append_left hjl
   have e2 : (bs ++ [b])[j] = bs[j]'(by rw [h.len]; exact hjl) := List.getElem_append_left (by rw [h.len]; exact hjl)
   rw [e1,e2]
   rcases h.by_ j hjl (by rw [h.len]; exact hjl) with h1 | ⟨i,hi,h1,h2,h3⟩
   ·exact .inl h1
   ·refine .inr ⟨i,hi,?_,?_,fun k hk => ?_⟩
    ·rw [h1,List.getElem_append_left (by omega)]
    ·rw [List.getElem_append_left (by omega)]; exact h2
    ·rw [List.getElem_append_left (by omega)]; exact h3 k hk
  ·have hj' : j = l.length := by simp at hj; omega
   subst hj'
   have e1 : (l ++ [v])[l.length] = v := by simp
   have e2 : (bs ++ [b])[l.length]'hb = b := by simp [← h.len]
   rw [e1,e2]
   rcases hv with h1 | ⟨i,hi,h1,h2,h3⟩
   ·exact .inl h1
   ·refine .inr ⟨i,hi,?_,?_,fun k hk => ?_⟩
    ·rw [h1,List.getElem_append_left hi]
    ·rw [List.getElem_append_left hi]; exact h2
    ·rw [List.getElem_append_left (by omega)]; exact h3 (by simpa using hc) k hk
structure ComeA (H : Hp) (rs l bs : List Nm) : Prop extends Come H rs l bs where
 tr : l = itL H (adds [] rs) l.length
end Go.Proofs.YtelpjaejmneplaaGreatDoor.Am
