/-
  The abstract machine and the functions of the law, 5: texts put together.
-/
import Derived.Test.YteojknfmmbmckaaGreatDoorModelNonePkC
import Derived.Test.YteojknfmmbmckaaGreatDoorModelNonePkD
import Derived.Test.YteojknfmmbmckaaGreatDoorProg
import Derived.Test.YteojknfmmbmckaaGreatDoorModelNonePkB
import Derived.ChangeArms
import Derived.OpenShut
import Derived.LaidMore
import Derived.Sort.MapsRangeIn
import Derived.Maps.RangeRun
import Derived.Test.YteojknfmmbmckaaGreatDoorModelNonePkA
import Derived.Shelf.SlIter.Collect
import Derived.RangeFuncBox
import Derived.Shelf.SlSortCmp.WholeK
import Derived.Shelf.SlMaps.Clone
import Derived.Shelf.SlSortCmp.NoneTotal
import Derived.RangeFuncBound
set_option linter.unusedVariables false
set_option linter.unusedSimpArgs false
set_option linter.unusedSectionVars false
set_option maxRecDepth 100000
namespace Go.Proofs.YteojknfmmbmckaaGreatDoor.Am
open Go
def sides (t : List Cel) : List Cel × List Cel := if isEqT t then ((args t).getD 0 [],(args t).getD 1 []) else ([],[])
theorem EqR.own {σ σ' : Store} {t : List Cel} {a b : AVal} (h : EqR σ σ' t a b) : Grows σ σ' ∧ Own σ' 5 a (CC (sides t).1) ∧ Own σ' 5 b (CC (sides t).2) ∧ Fresh σ.length a ∧ Fresh σ.length b ∧ NoLit a ∧ NoLit b ∧ ∀ j,a.sid = some j → b.sid ≠ some j := by
 obtain ⟨g,h⟩ := h
 refine ⟨g,?_⟩
 unfold sides
 cases he : isEqT t with
 | false =>
  rw [he] at h
  obtain ⟨rfl,rfl⟩ := h
  exact ⟨Own.nil _ _,Own.nil _ _,Fresh.nil _,Fresh.nil _,trivial,trivial,fun j h => by cases h⟩
 | true =>
  rw [he] at h
  obtain ⟨x,y,h1,h2,h3,h4⟩ := h
  rw [h1]
  exact ⟨h2,h3,h4⟩
section
variable (d : Nat) (σ : Store)
end
def pairs : List (List Cel) → List (List Cel) → Option (List (List Cel))
 | p :: ps,q :: qs => if makeE [61] [p,q] = 0 then (pairs ps qs).map (makeT [61] [p,q] :: ·) else none
 | _,_ => some []
structure StepR where
 k : Nat
 v : Nm
 t : List Cel
 ps : List (List Cel)
theorem ORows.lo {σ : Store} {lo lo' sz : Nat} {l : AVal} {es : List AVal} {ps : List (List AVal)} (h : ORows σ lo sz l es ps) (hl : lo' ≤ lo) : ORows σ lo' sz l es ps :=
 ⟨h.row,h.len,h.one,fun i e he => (h.frs i e he).le hl,h.frl.le hl,h.apart,h.off,h.lit,h.litl⟩
section
variable (d : Nat) (σ : Store)
end
structure BdArg (v : AVal) (bs : Hp) : Prop where
 row : ∃ es,(∀ σ : Store,SlOf σ 3 v es) ∧ Two (fun e p => ∃ u,e = bdV p.1 u ∧ Told u p.2) es bs
 small : ∀ p ∈ bs,Small p.2
 len : bs.length < 2 ^ 26
def bindsH (H : Hp) (bs : Hp) : Hp := bs.foldl (fun H p => bindH H p.1 p.2) H
def bindsR (R : Hp) (bs : Hp) : Hp := bs.foldl (fun R p => bindR R p.1 p.2) R
theorem Same.binds : ∀ (bs : Hp) {H R : Hp},Same H R → Same (bindsH H bs) (bindsR R bs)
 | [],_,_,h => h
 | p :: bs,_,_,h => Same.binds bs (h.bind p.1 p.2)
theorem BdArg.at {v : AVal} {bs : Hp} (h : BdArg v bs) {k : Nat} (hk : k < bs.length) (σ : Store) : ∃ q0 q2 u,iaddrV 3 v (.int .i64 k) = some (addrOf 3 v k) ∧ faddrV 0 (addrOf 3 v k) = some q0 ∧ loadV σ 2 true q0 = some (nmV bs[k].1) ∧ faddrV 2 (addrOf 3 v k) = some q2 ∧ loadV σ 1 false q2 = some u ∧ Told u bs[k].2 := by
 obtain ⟨es,h1,h2⟩ := h.row
 have hke : k < es.length := by rw [h2.len]; exact hk
 obtain ⟨e,he1,u,he2,he3⟩ := h2.get hk
 have hee : es[k] = e := by rw [List.getElem?_eq_getElem hke] at he1; exact Option.some.inj he1
 have hb := ((h1 σ).addr hke .i64).2
 rw [hee,he2] at hb
 have hb' : behind σ (addrOf 3 v k) = some (bdC (bs[k]).1 u,0) := hb
 obtain ⟨q0,p0,b0⟩ := faddr_at hb' 0
 obtain ⟨q2,p2,b2⟩ := faddr_at hb' 2
 exact ⟨q0,q2,u,(h1 σ).iaddr hke .i64,p0,loadN_at b0 (by simp [bdC]),p2,load_at b2,he3⟩
section
variable (d : Nat) (σ : Store)
end
structure Turned (r s : StepR) : Prop where
 k : r.k = s.k
 v : r.v = s.v
 t : r.t = s.t
 len : r.ps.length = s.ps.length
 parts : ∀ (i : Nat) (h : i < r.ps.length) (h' : i < s.ps.length),∃ p q,r.ps[i] = makeT [61] [p,q] ∧ s.ps[i] = makeT [61] [q,p] ∧ makeE [61] [p,q] = 0 ∧ makeE [61] [q,p] = 0
theorem Turned.plain {r : StepR} (h : r.ps = []) : Turned r r := ⟨rfl,rfl,rfl,rfl,fun i hi => by rw [h] at hi; simp at hi⟩
end Go.Proofs.YteojknfmmbmckaaGreatDoor.Am
namespace Go.Proofs.YteojknfmmbmckaaGreatDoor.Am
open Go Go.RowKit Go.ChangeShapes Go.WideShapes Go.ChangeAt Go.Proofs.YteojknfmmbmckaaGreatDoor.Rows
section
variable {H : Type}
end
end Go.Proofs.YteojknfmmbmckaaGreatDoor.Am
namespace Go.Proofs.YteojknfmmbmckaaGreatDoor.Am
open Go Go.RowKit
section
variable {P : Program} {cfg : Cfg} {H : Type} {enc : TypeId × Value → H} {W : World}
theorem texts_read {m base : Nat} {sp : Nat → Bool} {held : Bool} {e : TypeId} (he : P.underlying e = some .string) : ∀ (xs : List (DataW H × List MemPlace)) (cs : List Value),cs.length = xs.length →
  (∀ i,i < xs.length → DataW.trod enc P W base sp held m e ((cs.drop i).take 1) = xs[i]?) → ∃ bs : List ByteArray,cs = bs.map Value.string ∧ xs.map (·.1) = bs.map fun b => .lit (.string b.data.toList)
 | [],cs,hl,_ => ⟨[],by simpa using List.eq_nil_of_length_eq_zero hl,rfl⟩
 | x :: xs,[],hl,_ => by simp at hl
 | x :: xs,c :: cs,hl,h => by
  have h0 := h 0 (by simp)
  simp only [List.drop_zero,List.take_succ_cons,List.take_zero,List.getElem?_cons_zero] at h0
  obtain ⟨s,e1,e2,_⟩ := DataW.trod_string he h0
  obtain ⟨bs,r1,r2⟩ := texts_read he xs cs (by simpa using hl) (fun i hi => by simpa using h (i + 1) (by simpa using hi))
  injection e1 with e1
  exact ⟨s :: bs,by rw [e1,r1]; rfl,by rw [e2,List.map_cons,r2]; rfl⟩
theorem texts_inj : ∀ {ss : List (List UInt8)} {bs : List ByteArray},(ss.map fun s => (DataW.lit (.string s) : DataW H)) = (bs.map fun b => .lit (.string b.data.toList)) → ss = bs.map fun b => b.data.toList
 | [],[],_ => rfl
 | [],_ :: _,h => by simp at h
 | _ :: _,[],h => by simp at h
 | s :: ss,b :: bs,h => by
  simp only [List.map_cons,List.cons.injEq] at h ⊢
  obtain ⟨h1,h2⟩ := h
  injection h1 with h1
  injection h1 with h1
  exact ⟨h1,texts_inj h2⟩
theorem gl_of_laid {name : String} {g : Nat} {t e : TypeId} {n : Nat} {ss : List (List UInt8)} (hg : P.globalNamed name = some g) (ht : (P.globals[g]?).map (·.type) = some t) (hu : P.underlying t = some (.array n e)) (he : P.underlying e = some .string)
  (hce : P.cellsOf e = 1) (hct : P.cellsOf t = n) (hglob : ∀ i cs,cfg.glob i = some cs → i = g ∧ cs = ss.map AVal.str) (h : laidMet P [(name,.agg (ss.map fun s => .lit (.string s)))] W) : Gl cfg startE (startK W) := by
 intro i cs hi
 obtain ⟨rfl,rfl⟩ := hglob i cs hi
 obtain ⟨ps,⟨g',t',cs',fuel,p,q,e1,e2,e3,e4,_,_⟩,_,_⟩ := h
 obtain rfl := Option.some.inj (hg.symm.trans e1)
 obtain rfl := Option.some.inj (ht.symm.trans e2)
 have hb : ∃ ty f,W.heap[i]? = some (.cells cs' ty f) := by
  simp only [World.var?,hg,Option.bind_some] at e3
  split at e3
  ·rename_i c ty f hc
   injection e3 with e3; subst e3
   exact ⟨ty,f,hc⟩
  ·cases e3
 obtain ⟨ty,f,hb⟩ := hb
 obtain ⟨xs,m,rfl,hx,hl,hxl,hel⟩ := DataW.trod_array hu e4
 obtain ⟨bs,r1,r2⟩ := texts_read he xs cs'.toList (by rw [hl,hct,hxl]) (fun i hi => by
  have := hel i (by omega)
  rw [hce,Nat.mul_one] at this
  exact this)
 injection hx with hx _
 injection hx with hx
 have hss := texts_inj (hx.trans r2)
 have hrel : ∀ bs : List ByteArray,VRelL cfg.conc W.heap ((startK W).safe startE) noIds ((bs.map fun b => b.data.toList).map AVal.str) (bs.map Value.string) := by
  intro bs
  induction bs with
  | nil => exact .nil _
  | cons b bs ih => exact .cons _ _ _ _ _ (.str _ b) ih
 have := VRel.fptr (cf := cfg.conc) (h := W.heap) (S := (startK W).safe startE) noIds 0 (ss.map AVal.str) 0 i 0 cs'.toList ⟨(Array.getElem?_eq_some_iff.1 hb).1,start_own W i,fun k _ hk => by simp [startE] at hk⟩
  (by rw [hss,r1]; exact hrel bs) (fun c hc => by obtain ⟨s,_,rfl⟩ := List.mem_map.1 hc; rfl) (fun c hc => by obtain ⟨s,_,rfl⟩ := List.mem_map.1 hc; exact Nat.le_refl _)
  (fun j v hj => by simp only [cellAt,hb,Nat.zero_add]; simpa using hj)
 exact this
end
end Go.Proofs.YteojknfmmbmckaaGreatDoor.Am
namespace Go.Proofs.YteojknfmmbmckaaGreatDoor.Am
open Go Go.ChangeMaps
section
variable {F : Fence} {n : Nat} {P : Program} (w : World) {ops : Array Oper} {rest : List Oper} {o : Oper} {a : Act} {Q : Exit → Act → World → Prop}
theorem range_raw (hg : o.guard = none) (m : Operand) (t : TypeId) (hop : o.op = Op.range t m) (k e : TypeId) (ht : P.underlying t = some (.map k e)) (b : Nat) (es : Array MapEntry) (clock : Nat) (hm : a.eval m = .map (some b)) (hb : w.heap[b]? = some (.map es clock))
  (hK : wpListIn F n P ops Q rest (a.put o.dst (.pointer (some ⟨w.heap.size,0,none⟩))) (w.alloc (.mapIter (some b) clock #[] clock))) :
  wpListIn F n P ops Q (o :: rest) a w := by
 refine wpListIn_plain hg fun K' hK' => ?_
 have hrun := run_range_map (P := P) w t k e b es clock ht hb
 unfold Oper.wpIn
 refine ⟨by simp [Oper.about,hop],?_⟩
 rw [Oper.semAt_plain F _ _ (by rw [hop]; intro c hc'; cases hc')]
 simp [execOp,hop,hm,hrun,Result.andThen]
 exact hK' _ _ hK
theorem next_raw (hg : o.guard = none) (it : Operand) (hop : o.op = Op.next it false) (b r since c0 : Nat) (seen : Array Nat) (es : Array MapEntry) (clock : Nat)
  (hit : a.eval it = .pointer (some ⟨r,0,none⟩)) (hr : w.heap[r]? = some (.mapIter (some b) since seen c0)) (hb : w.heap[b]? = some (.map es clock)) (hold : ∀ x ∈ es.toList,x.born < since) (hsc : since ≤ c0)
  (hDone : (leftOf es seen).size = 0 → wpListIn F n P ops Q rest (a.put o.dst (.tuple #[.bool false])) w)
  (hMore : ∀ (x : MapEntry) (w1 : World),x ∈ (leftOf es seen).toList → (w1 = w ∨ w1 = w.drew) → wpListIn F n P ops Q rest (a.put o.dst (.tuple #[.bool true,x.key,x.val])) (setBlock w1 r (.mapIter (some b) since (seen.push x.born) clock))) :
  wpListIn F n P ops Q (o :: rest) a w := by
 refine wpListIn_plain hg fun K' hK' => ?_
 unfold Oper.wpIn
 refine ⟨by simp [Oper.about,hop],?_⟩
 rw [Oper.semAt_plain F _ _ (by rw [hop]; intro c hc'; cases hc')]
 rcases run_next_at (P := P) w o.type r b since c0 seen es clock hr hb hold hsc with ⟨h0,hrun⟩ | ⟨x,hx,w1,hw1,hrun⟩
 ·simp [execOp,hop,hit,hrun,Result.andThen]
  exact hK' _ _ (hDone h0)
 ·simp [execOp,hop,hit,hrun,Result.andThen]
  exact hK' _ _ (hMore x w1 hx hw1)
end
theorem left_step {es : Array MapEntry} (hB : (es.toList.map (·.born)).Nodup) {seen : Array Nat} {x : MapEntry} (hx : x ∈ (leftOf es seen).toList) : (leftOf es seen).toList.Perm (x :: (leftOf es (seen.push x.born)).toList) := by
 have hn : ((leftOf es seen).toList.map (·.born)).Nodup := by
  have : (leftOf es seen).toList.Sublist es.toList := by simp only [leftOf,Array.toList_filter]; exact List.filter_sublist
  exact (this.map _).nodup hB
 have e : (leftOf es (seen.push x.born)).toList = (leftOf es seen).toList.filter fun y => !(y.born == x.born) := by
  simp only [leftOf,Array.toList_filter,List.filter_filter]
  refine List.filter_congr fun y _ => ?_
  by_cases h : y.born = x.born <;> simp [h]
 rw [e]
 generalize (leftOf es seen).toList = L at hx hn
 clear e
 induction L with
 | nil => cases hx
 | cons y L ih =>
  rw [List.map_cons,List.nodup_cons] at hn
  rcases List.mem_cons.1 hx with rfl | hx
  ·have : L.filter (fun y => !(y.born == x.born)) = L := by
    rw [List.filter_eq_self]
    intro z hz
    have : z.born ≠ x.born := fun e => hn.1 (by rw [← e]; exact List.mem_map.2 ⟨z,hz,rfl⟩)
    simpa using this
   simp [this]
  ·have hne : y.born ≠ x.born := fun e => hn.1 (by rw [e]; exact List.mem_map.2 ⟨x,hx,rfl⟩)
   have := ih hx hn.2
   have hb : (!(y.born == x.born)) = true := by simpa using hne
   rw [List.filter_cons_of_pos (by simpa using hne)]
   exact (this.cons y).trans (List.Perm.swap x y _)
end Go.Proofs.YteojknfmmbmckaaGreatDoor.Am
namespace Go.Proofs.YteojknfmmbmckaaGreatDoor.Am
open Go Go.Proofs Go.RowKit Go.Maps Go.Sort Go.Shelf Go.ChangeMaps
abbrev encNm (v : Int × Int) : Value := .agg #[.int .i64 v.1,.int .i64 v.2]
set_option maxHeartbeats 1000000 in
theorem keys_walk (F : Fence) (n : Nat) (h : F.fn 62) (hro : F.round = none) (hn : 1 ≤ n) (l Bm b : Nat) (es : Array MapEntry) (clock : Nat) (J : List (Int × Int) → World → Prop)
 (hY : ∀ pre x W,J pre W → pre.length < es.size → YieldAt F (n - 1) Tryz.prog l #[encNm x] W fun e W' => e = .returned (.bool true) ∧ J (pre ++ [x]) W' ∧ KeepsWalks W W')
 (W : World) (hJ : AbidesFrom W.heap.size J) (hm : W.cell? ⟨Bm,0,none⟩ = some (.map (some b))) (hb : W.heap[b]? = some (.map es clock)) (hB : (∀ e ∈ es.toList,e.born < clock) ∧ (es.toList.map (·.born)).Nodup) (h0 : J [] W) (hk : ∀ e ∈ es.toList,∃ v : Int × Int,e.key = encNm v) :
 CallsIn F n Tryz.prog 62 #[.func (.yield l) #[] #[],.pointer (some ⟨Bm,0,none⟩)] W fun e W' => (∃ v,e = .returned v) ∧ ∃ ks : List (Int × Int),(ks.map encNm).Perm (es.toList.map (·.key)) ∧ J ks W' := by
 have u126 := run_underlying (P := Tryz.prog) Tryz.underlying52
 have u46 := run_underlying (P := Tryz.prog) Tryz.underlying23
 refine callsIn_of_wp Tryz.func62 rfl h ?_ hro
 simp only [Tryz.f62,List.size_toArray,List.length_cons,List.length_nil,Nat.reduceAdd,Nat.reduceSub,Array.replicate_succ,Array.replicate_zero,List.push_toArray,List.append_toArray,List.nil_append,List.cons_append]
 gi_wp2_with (first
  | (gi_at_range; refine range_raw _ rfl _ 52 rfl _ _ Tryz.underlying52 b es clock rfl hb ?_)
  | gi_in)
 go_frame
 gi_loopw [3] (fun _ wr => ∃ (seen : Array Nat) (c0 : Nat) (ks : List (Int × Int)),wr.heap[W.heap.size]? = some (.mapIter (some b) clock seen c0) ∧ clock ≤ c0 ∧ wr.heap[b]? = some (.map es clock) ∧ (ks.map encNm ++ (leftOf es seen).toList.map (·.key)).Perm (es.toList.map (·.key)) ∧ ks.length + (leftOf es seen).size = es.size ∧ J ks wr)
  (fun _ wr => match wr.heap[W.heap.size]? with | some (.mapIter _ _ seen _) => (leftOf es seen).size | _ => 0)
 case atStart =>
  refine ⟨#[],clock,[],World.alloc_heap_new W _,Nat.le_refl _,(Below.heap_alloc W _ b (Array.getElem?_eq_some_iff.1 hb).1).trans hb,?_,?_,hJ [] W _ none h0 (World.grownBy_alloc W _ none) (fun r e => by cases e)⟩
  ·have : (leftOf es #[]).toList = es.toList := by simp only [leftOf,Array.toList_filter]; exact List.filter_eq_self.2 fun a _ => by simp
   rw [this]; exact List.Perm.refl _
  ·simp [leftOf]
 case round =>
  obtain ⟨seen,c0,ks,hr,hc0,hb1,hperm,hlen,hJs⟩ := hrel
  gi_wp2_with (first
   | (gi_at_next; refine next_raw _ rfl _ rfl b W.heap.size clock c0 seen es clock rfl hr hb1 hB.1 hc0 ?_ ?_)
   | gi_in)
  ·intro h0'
   gi_wp2
   go_end0
   refine ⟨⟨_,rfl⟩,ks,?_,hJs⟩
   have : (leftOf es seen).toList = [] := List.eq_nil_of_length_eq_zero (by simpa using h0')
   rw [this] at hperm; simpa using hperm
  ·intro x w1 hx hw1
   obtain ⟨w2,hw2⟩ : ∃ w2,setBlock w1 W.heap.size (.mapIter (some b) clock (seen.push x.born) clock) = w2 := ⟨_,rfl⟩
   rw [hw2]
   have hxe : x ∈ es.toList := by
    have : (leftOf es seen).toList.Sublist es.toList := by simp only [leftOf,Array.toList_filter]; exact List.filter_sublist
    exact this.subset (by simpa using hx)
   have hwh : w1.heap = wr.heap := by rcases hw1 with rfl | rfl <;> rfl
   have hne : b ≠ W.heap.size := by have := (Array.getElem?_eq_some_iff.1 hb).1; omega
   have hr1 : w1.heap[W.heap.size]? = some (.mapIter (some b) clock seen c0) := by rw [hwh]; exact hr
   have hlt1 := (Array.getElem?_eq_some_iff.1 hr1).1
   have hr2 : w2.heap[W.heap.size]? = some (.mapIter (some b) clock (seen.push x.born) clock) := by rw [← hw2]; simp [setBlock,hlt1]
   have hb2 : w2.heap[b]? = some (.map es clock) := by rw [← hw2]; simp only [setBlock]; rw [Array.getElem?_setIfInBounds_ne (by omega),hwh]; exact hb1
   have hg2 : wr.grownBy w2 (some W.heap.size) := by
    have h1 : wr.grownBy w1 (some W.heap.size) := by rcases hw1 with rfl | rfl <;> exact ⟨rfl,rfl,rfl,Nat.le_refl _,fun _ _ _ => rfl⟩
    refine h1.trans ?_
    rw [← hw2]
    exact ⟨rfl,rfl,rfl,by simp [setBlock],fun i _ hi => by simp only [setBlock]; exact Array.getElem?_setIfInBounds_ne (fun e1 => hi (by rw [e1]))⟩
   have hen := run_entry_at (P := Tryz.prog) w2 W.heap.size b clock seen es clock x hr2 hb2 hxe hB.2
   obtain ⟨v,hv⟩ := hk x hxe
   rw [hv,show encNm v = .agg #[.int .i64 v.1,.int .i64 v.2] from rfl] at hen
   obtain ⟨w3,hw3⟩ : ∃ w3,w2.alloc (.cells #[.int .i64 v.1,.int .i64 v.2] 23) = w3 := ⟨_,rfl⟩
   have hg3 : wr.grownBy w3 (some W.heap.size) := by rw [← hw3]; exact hg2.trans (World.grownBy_alloc _ _ _)
   have hJ3 : J ks w3 := hJ ks wr w3 (some W.heap.size) hJs hg3 (fun r e => by cases e; exact ⟨Nat.le_refl _,_,hr,rfl⟩)
   have hleft := left_step hB.2 (seen := seen) (x := x) (by simpa using hx)
   have hll := hleft.length_eq
   simp only [List.length_cons,Array.length_toList] at hll
   have hperm2 : ((ks ++ [v]).map encNm ++ (leftOf es (seen.push x.born)).toList.map (·.key)).Perm (es.toList.map (·.key)) := by
    refine List.Perm.trans ?_ hperm
    rw [List.map_append,List.append_assoc]
    refine List.Perm.append_left _ ?_
    have := (hleft.map (·.key)).symm
    rw [List.map_cons,hv] at this
    exact this
   obtain ⟨fn,tmps,assign,body,hy,hR⟩ := hY ks v w3 hJ3 (by omega)
   have hr3 : w3.heap[W.heap.size]? = some (.mapIter (some b) clock (seen.push x.born) clock) := by rw [← hw3]; exact (Below.heap_alloc _ _ _ (Array.getElem?_eq_some_iff.1 hr2).1).trans hr2
   have hb3 : w3.heap[b]? = some (.map es clock) := by rw [← hw3]; exact (Below.heap_alloc _ _ _ (Array.getElem?_eq_some_iff.1 hb2).1).trans hb2
   subst hw3
   gi_wp2
   refine hR.mono ?_
   rintro e W3 ⟨rfl,hJ4,hk3⟩
   gi_wp2
   go_roundw
   case rel => exact ⟨_,clock,ks ++ [v],hk3.same _ _ hr3 rfl,Nat.le_refl _,hk3.same _ _ hb3 rfl,hperm2,by simp; omega,hJ4⟩
   case measure =>
    rw [hk3.same _ _ hr3 rfl,hr]
    simp only
    omega
noncomputable def apParts : Code × Code := match (Tryz.f85).body with
 | some (.seq _ (.seq (.seq _ (.block _ (.rangeFunc _ _ a b))) _)) => (a,b)
 | _ => (.skip,.skip)
noncomputable def apRec (fn : FuncId) (sv : Value) (Bs D : Nat) (st : LoopState) (pend : Option Code) : Loop :=
 { state := st,pending := pend,fn,tmps := #[.slice none 0 0,sv,.pointer (some ⟨Bs,0,none⟩),undef,.slice none 0 0,undef,sv,undef,undef,undef,undef,undef,undef],params := #[7],assign := apParts.1,body := apParts.2,defers := D }
structure ApAt (w0 : World) (fn : FuncId) (sv : Value) (Bs l D : Nat) (ss : List (Int × Int)) (W : World) : Prop where
 box : ∃ v,Boxed W Bs 28 v ∧ W.ownsRow w0.heap.size 23 2 v ss.length (ss.flatMap fun p => [.int .i64 p.1,.int .i64 p.2]) ∧ (v = .slice none 0 0 ↔ ss = [])
 L : W.heap[l]? = some (.loop (apRec fn sv Bs D .ready none))
 K : W.heap[D]? = some (.deferred (some []))
 below : Below w0.heap.size w0 W
theorem ap_abides (w0 : World) (fn : FuncId) (sv : Value) (Bs l D B : Nat) (hB : w0.heap.size ≤ B) : AbidesFrom B (ApAt w0 fn sv Bs l D) := fun s W W' row h hg hrow => by
 have hrow' : ∀ r,row = some r → ∃ o : Obj,W.heap[r]? = some o ∧ o.isWalk = true := fun r e => (hrow r e).2
 obtain ⟨v,hv,hr,hn⟩ := h.box
 exact ⟨⟨v,(grownBy_keeps hg hrow' hv rfl).trans hv,ownsRow_abides_a hr hg hrow',hn⟩,(grownBy_keeps hg hrow' h.L rfl).trans h.L,(grownBy_keeps hg hrow' h.K rfl).trans h.K,
  h.below.grown hg h.below.size (fun k e => Nat.le_trans hB (hrow k e).1)⟩
abbrev nmCells (p : Int × Int) : List Value := [.int .i64 p.1,.int .i64 p.2]
theorem new_cells (W : World) (x : Int × Int) : ∀ (j : Nat) (u : Value),([.int .i64 x.1,.int .i64 x.2] : List Value)[j]? = some u → (W.alloc (.cells #[.int .i64 x.1,.int .i64 x.2] 23)).cell? ((⟨W.heap.size,0,none⟩ : Addr).add j) = some u := by
 have h := World.alloc_heap_new W (.cells #[.int .i64 x.1,.int .i64 x.2] 23)
 intro j u hj
 match j,hj with
 | 0,hj => simp at hj; subst hj; rw [show (⟨W.heap.size,0,none⟩ : Addr).add 0 = ⟨W.heap.size,0,none⟩ from rfl]; simp only [World.cell?,h]; rfl
 | 1,hj => simp at hj; subst hj; rw [show (⟨W.heap.size,0,none⟩ : Addr).add 1 = ⟨W.heap.size,1,none⟩ from rfl]; simp only [World.cell?,h]; rfl
 | j + 2,hj => simp at hj
set_option maxHeartbeats 2000000 in
theorem apYield (F : Fence) (m : Nat) (w0 : World) (fn : FuncId) (hfn : F.fn fn) (sv : Value) (Bs l D : Nat) (hBl : Bs ≠ l) (hDl : D ≠ l) (hDB : D ≠ Bs) (h0B : w0.heap.size ≤ Bs) (h0l : w0.heap.size ≤ l)
    (N : Nat) (hN : N ≤ maxLen) (hNb : N * 16 ≤ 140737488355328) (ss : List (Int × Int)) (x : Int × Int) (W : World) (h : ApAt w0 fn sv Bs l D ss W) (hlen : ss.length < N) :
    YieldAt F m Tryz.prog l #[encNm x] W fun e W' => e = .returned (.bool true) ∧ ApAt w0 fn sv Bs l D (ss ++ [x]) W' ∧ KeepsWalks W W' := by
  have u46 := run_underlying (P := Tryz.prog) Tryz.underlying23
  have u54 := run_underlying (P := Tryz.prog) Tryz.underlying28
  obtain ⟨v, hv, hrow, _⟩ := h.box
  refine ⟨fn, #[.slice none 0 0, sv, .pointer (some ⟨Bs, 0, none⟩), undef, .slice none 0 0, undef, sv, encNm x, undef, undef, undef, undef, undef], apParts.1, apParts.2, by simpa [apRec] using run_yield (P := Tryz.prog) (args := #[encNm x]) h.L rfl, roundIn_of_wpIn hfn ?_⟩
  have hl : l < W.heap.size := (Array.getElem?_eq_some_iff.1 h.L).1
  have hBs : Bs < W.heap.size := (Array.getElem?_eq_some_iff.1 hv).1
  have hDs : D < W.heap.size := (Array.getElem?_eq_some_iff.1 h.K).1
  obtain ⟨W1, hW1⟩ : ∃ W1, W.alloc (.cells #[.int .i64 x.1, .int .i64 x.2] 23) = W1 := ⟨_, rfl⟩
  have hL1 : W1.heap[l]? = some (.loop (apRec fn sv Bs D .ready none)) := by rw [← hW1]; exact (Below.heap_alloc _ _ _ hl).trans h.L
  have hbr := run_beginRound (P := Tryz.prog) hL1 rfl
  unfold apParts
  simp only [Tryz.f85]
  gi_wp2_with gi_round_op_a
  obtain ⟨W2, hW2⟩ : ∃ W2, W1.putObj l (.loop { apRec fn sv Bs D .ready none with state := .busy }) = W2 := ⟨_, rfl⟩
  rw [hW2] at hbr
  refine ⟨W2, hbr, ?_⟩
  have hg1 : W.grownBy W1 none := by rw [← hW1]; exact World.grownBy_alloc W _ none
  have hg2 : W1.grownBy W2 (some l) := by rw [← hW2]; exact grownBy_putObj_a _ _ _
  have hl1 : l < W1.heap.size := (Array.getElem?_eq_some_iff.1 hL1).1
  have hv1 : Boxed W1 Bs 28 v := hv.kept hg1 (by simp)
  have hv2 : Boxed W2 Bs 28 v := hv1.kept hg2 (by simpa using hBl)
  have hx1 : W1.heap[W.heap.size]? = some (.cells #[.int .i64 x.1, .int .i64 x.2] 23 (0, 0)) := by rw [← hW1]; exact World.alloc_heap_new W _
  have hx2 : W2.heap[W.heap.size]? = some (.cells #[.int .i64 x.1, .int .i64 x.2] 23 (0, 0)) := (hg2.block _ (Array.getElem?_eq_some_iff.1 hx1).1 (by intro e; injection e with e; omega)).trans hx1
  have hrow1 := hrow.alloc (.cells #[.int .i64 x.1, .int .i64 x.2] 23)
  rw [hW1] at hrow1
  have hrow2 := hrow1.kept hg2 (ownsRow_ne_a hrow1 hL1 (fun cur e => by cases e))
  obtain ⟨hc2, hf2⟩ := cell_of_box_a (show W2.heap[Bs]? = some (.cells #[v] 28 (0, 0)) from hv2)
  have ha2 : W2.cell? ⟨W.heap.size, 0, none⟩ = some (.int .i64 x.1) := by simp [World.cell?, hx2]
  have hb2 : W2.cell? ⟨W.heap.size, 1, none⟩ = some (.int .i64 x.2) := by simp [World.cell?, hx2]
  have hne : (28 : TypeId) ≠ 23 := by decide
  have i46 : (Tryz.prog.info? 23).map (fun i => (i.zero, i.size, i.bytes)) = some (some (.agg #[.int .i64 0, .int .i64 0]), 2, 16) := by kernel_rfl
  obtain ⟨i0, hi, hz0, hz1, hz2⟩ := info_parts i46
  have hb1' : Below w0.heap.size w0 W1 := by rw [← hW1]; exact h.below.alloc h.below.size _
  have hb2' : Below w0.heap.size w0 W2 := hb1'.grown hg2 hb1'.size (fun k e => by cases e; exact h0l)
  gi_wp2_with (first
    | (gi_at_builtin; refine wpListIn_append_own _ rfl _ _ 28 rfl w0.heap.size 23 i0 (.agg #[.int .i64 0, .int .i64 0]) 2 16 Tryz.underlying28 hi hz0 hz1 hz2 rfl (by decide) _ _ _ rfl (hrow2.alloc _) ⟨W2.heap.size, 0, none⟩ 1 1 [.int .i64 x.1, .int .i64 x.2] rfl rfl (new_cells W2 x) (by simp [Value.oneCell']) (by omega) (by omega) (by have := hb2'.size; simp; omega) ?_; intro v' w3 hown' hg3 hnil3
       have hv3 : Boxed w3 Bs 28 v := (hv2.alloc _).kept hg3 (show some Bs ≠ v.ownBlock from hv2.not_row hne hrow2)
       obtain ⟨hc3, hf3⟩ := cell_of_box_a (show w3.heap[Bs]? = some (.cells #[v] 28 (0, 0)) from hv3)
       obtain ⟨g', cap', rfl⟩ := ownsRow_succ hown'
       go_frame)
    | gi_round_op_a)
  have hne' : ∀ {j : Nat} {o : Obj}, W2.heap[j]? = some o → (∀ cur, o ≠ .cells cur 23 (0, 0)) → some j ≠ v.ownBlock := fun hj hno => by
    rcases ownsRow_ne_a hrow2 hj hno with e | e
    · rw [e]; simp
    · exact fun e' => e e'.symm
  have hL2 : W2.heap[l]? = some (.loop { apRec fn sv Bs D .ready none with state := .busy }) := by rw [← hW2]; exact World.putObj_heap_same hl1
  have hK1 : W1.heap[D]? = some (.deferred (some [])) := by rw [← hW1]; exact (Below.heap_alloc _ _ _ hDs).trans h.K
  have hK2 : W2.heap[D]? = some (.deferred (some [])) := by rw [← hW2]; exact (World.putObj_heap_other hDl).trans hK1
  have hg3' : (W2.alloc (.cells #[.int .i64 x.1, .int .i64 x.2] 23)).grownBy w3 v.ownBlock := hg3
  have hl2 : l < W2.heap.size := (Array.getElem?_eq_some_iff.1 hL2).1
  have hDlt : D < W2.heap.size := (Array.getElem?_eq_some_iff.1 hK2).1
  have hL3 : w3.heap[l]? = some (.loop { apRec fn sv Bs D .ready none with state := .busy }) := (hg3'.block l (by simp; omega) (hne' hL2 (fun cur e => by cases e))).trans ((Below.heap_alloc _ _ l hl2).trans hL2)
  have hK3 : w3.heap[D]? = some (.deferred (some [])) := (hg3'.block D (by simp; omega) (hne' hK2 (fun cur e => by cases e))).trans ((Below.heap_alloc _ _ D hDlt).trans hK2)
  have hk2 : KeepsWalks W W2 := by rw [← hW2]; rw [← hW1]; exact (KeepsWalks.alloc _ _).trans (KeepsWalks.putObj _ (by rw [hW1]; exact hL1) rfl)
  obtain ⟨w4, hw4⟩ : ∃ w4, w3.setCell ⟨Bs, 0, none⟩ (.slice (some ⟨g', 0, none⟩) (ss.length + 1) cap') = w4 := ⟨_, rfl⟩
  rw [hw4]
  have hg4 : w3.grownBy w4 (some Bs) := by rw [← hw4]; exact grownBy_setCell0_a _ _ _
  have hv4 : Boxed w4 Bs 28 (.slice (some ⟨g', 0, none⟩) (ss.length + 1) cap') := by rw [← hw4]; exact hv3.set _
  have hL4 : w4.heap[l]? = some (.loop { apRec fn sv Bs D .ready none with state := .busy }) := (hg4.block l (Array.getElem?_eq_some_iff.1 hL3).1 (fun e => hBl (by cases e; rfl))).trans hL3
  have hK4 : w4.heap[D]? = some (.deferred (some [])) := (hg4.block D (Array.getElem?_eq_some_iff.1 hK3).1 (fun e => hDB (by cases e; rfl))).trans hK3
  have hrow4 := hown'.kept hg4 (ownsRow_ne_a hown' (show w3.heap[Bs]? = some (.cells #[v] 28 (0, 0)) from hv3) (fun cur e => hne (Obj.cells.inj e).2.1))
  have hl4 : l < w4.heap.size := (Array.getElem?_eq_some_iff.1 hL4).1
  have hb3 : Below w0.heap.size w0 w3 := (hb2'.alloc hb2'.size _).grown hg3' (by have := hb2'.size; simp; omega) (fun k e => (hrow2.lt k e).1)
  have hb4 : Below w0.heap.size w0 w4 := hb3.grown hg4 hb3.size (fun k e => by cases e; exact h0B)
  have hk4 : KeepsWalks W w4 := ((hk2.trans (KeepsWalks.alloc _ _)).trans (KeepsWalks.of_grownBy hg3' (ownsRow_not_walk_a (hrow2.alloc _)))).trans (by rw [← hw4]; exact KeepsWalks.setCell _ _ _)
  clear hw4
  refine ⟨_, _, run_endRound none hL4, rfl, ⟨⟨_, hv4.kept (grownBy_putObj_a w4 l _) (by simpa using hBl), ?_, by simp⟩, World.putObj_heap_same hl4, (World.putObj_heap_other hDl).trans hK4, hb4.grown (grownBy_putObj_a _ _ _) hb4.size (fun k e => by cases e; exact h0l)⟩, hk4.trans (KeepsWalks.putObj _ hL4 rfl)⟩
  have := hrow4.kept (grownBy_putObj_a w4 l (.loop { { apRec fn sv Bs D .ready none with state := .busy } with state := if (none : Option Code).isNone then .ready else .done, pending := none })) (ownsRow_ne_a hrow4 hL4 (fun cur e => by cases e))
  simpa [List.flatMap_append] using this
set_option maxHeartbeats 2000000 in
theorem appendSeq_nm (F : Fence) (n : Nat) (h11 : F.fn 85) (hro : F.round = none) (hn : 2 ≤ n) (g : Nat) (lb : Array Value) (hFg : F.fn g) (eg : ∀ args w, (callFunc g args).run Tryz.prog w = .ok (.enter g args) w)
    (S : List (Int × Int) → Prop) (N : Nat) (hN : N ≤ maxLen) (hNb : N * 16 ≤ 140737488355328) (w : World) (hseq : SeqGives F (n - 1) Tryz.prog g lb encNm S N w) :
    CallsIn F n Tryz.prog 85 #[.slice none 0 0, .func (.func g) #[] lb] w fun e w' => ∃ (v : Value) (ss : List (Int × Int)), e = .returned v ∧ S ss ∧ w'.ownsRow w.heap.size 23 2 v ss.length (ss.flatMap nmCells) ∧ (v = .slice none 0 0 ↔ ss = []) ∧ Below w.heap.size w w' := by
  have h1 : 1 ≤ n := by omega
  have hne : (28 : TypeId) ≠ 23 := by decide
  have u46 := run_underlying (P := Tryz.prog) Tryz.underlying23
  have u54 := run_underlying (P := Tryz.prog) Tryz.underlying28
  refine callsIn_of_wp_marks Tryz.func85 rfl h11 ?_ hro
  obtain ⟨ap, hap⟩ : ∃ ap, apParts = ap := ⟨_, rfl⟩
  simp only [Tryz.f85, List.size_toArray, List.length_cons, List.length_nil, Nat.reduceAdd, Nat.reduceSub, Array.replicate_succ, Array.replicate_zero, List.push_toArray, List.append_toArray, List.nil_append, List.cons_append]
  gi_wp2
  refine wpIn_rangeFunc ?_
  intro fn hfn
  rw [hro]
  obtain ⟨W0, hW0⟩ : ∃ W0, w.alloc (.cells #[.slice none 0 0] 28) = W0 := ⟨_, rfl⟩
  have hs0 : W0.heap.size = w.heap.size + 1 := by rw [← hW0]; simp
  have hv0 : W0.heap[w.heap.size]? = some (.cells #[.slice none 0 0] 28 (0, 0)) := by rw [← hW0]; exact World.alloc_heap_new w _
  have hb0 : Below w.heap.size w W0 := by rw [← hW0]; exact (Below.refl _ w).alloc (Nat.le_refl _) _
  rw [hW0]
  obtain ⟨W1, hW1⟩ : ∃ W1, (W0.alloc (.deferred (some []))).alloc (.loop (apRec fn (.func (.func g) #[] lb) w.heap.size W0.heap.size .ready none)) = W1 := ⟨_, rfl⟩
  have hold : ∀ k, k < W0.heap.size → W1.heap[k]? = W0.heap[k]? := fun k hk => by
    rw [← hW1]; exact (Below.heap_alloc _ _ k (by simp; omega)).trans (Below.heap_alloc _ _ k hk)
  have hb1 : Below w.heap.size w W1 := by rw [← hW1]; exact (hb0.alloc hb0.size _).alloc (by have := hb0.size; simp; omega) _
  have hs1 : W1.heap.size = W0.heap.size + 2 := by rw [← hW1]; simp
  have hM : ApAt w fn (.func (.func g) #[] lb) w.heap.size (W0.heap.size + 1) W0.heap.size [] W1 :=
    ⟨⟨_, (hold w.heap.size (by omega)).trans hv0, ⟨rfl, .inl ⟨rfl, rfl⟩⟩, by simp⟩,
     by rw [← hW1]; have := World.alloc_heap_new (W0.alloc (.deferred (some []))) (.loop (apRec fn (.func (.func g) #[] lb) w.heap.size W0.heap.size .ready none)); rwa [World.size_alloc] at this,
     by rw [← hW1]; exact (Below.heap_alloc _ _ _ (by simp)).trans (World.alloc_heap_new W0 _), hb1⟩
  refine ⟨W0.heap.size + 1, [{ target := .collected W0.heap.size, args := #[] }], W1, { target := .fn (.func g) lb, args := #[.func (.yield (W0.heap.size + 1)) #[] #[]] }, W1, g,
    #[.func (.yield (W0.heap.size + 1)) #[] #[]] ++ lb, W1, ?_, ?_, ?_, ?_, fun _ => h1, ?_⟩
  · rw [← hW1]; exact run_enterLoop_outer _ _ _ _ _
  · simp [resolve, go_sem]
  · intro f' hf'; simp [Target.leads] at hf'; subst hf'; exact hFg
  · simp [invoke, go_sem, eg]
  · refine (hseq (W0.heap.size + 1) (ApAt w fn (.func (.func g) #[] lb) w.heap.size (W0.heap.size + 1) W0.heap.size) W1 hb1 (ap_abides _ _ _ _ _ _ _ hb1.size)
      (fun pre x W hJ hl => apYield F (n - 1 - 1) w fn hfn _ w.heap.size (W0.heap.size + 1) W0.heap.size (by omega) (by omega) (by omega) (Nat.le_refl _) (by omega) N hN hNb pre x W hJ hl) hM).mono ?_
    rintro e W2 ⟨⟨v0, rfl⟩, ss, hS, h2⟩
    obtain ⟨v, hv, hrow, hnil⟩ := h2.box
    have hend := run_endLoop (P := Tryz.prog) h2.L (by simp [apRec])
    obtain ⟨W3, hW3⟩ : ∃ W3, W2.putObj (W0.heap.size + 1) (.loop { apRec fn (.func (.func g) #[] lb) w.heap.size W0.heap.size .ready none with state := .exhausted }) = W3 := ⟨_, rfl⟩
    rw [hW3] at hend
    have hg3 : W2.grownBy W3 (some (W0.heap.size + 1)) := by rw [← hW3]; exact grownBy_putObj_a _ _ _
    have hv3 : W3.heap[w.heap.size]? = some (.cells #[v] 28 (0, 0)) := by rw [← hW3]; exact (World.putObj_heap_other (by omega)).trans hv
    have hK3 : W3.heap[W0.heap.size]? = some (.deferred (some [])) := by rw [← hW3]; exact (World.putObj_heap_other (by omega)).trans h2.K
    have hrow3 := hrow.kept hg3 (ownsRow_ne_a hrow h2.L (fun cur e => by cases e))
    have hb3 : Below w.heap.size w W3 := h2.below.grown hg3 h2.below.size (fun k e => by cases e; omega)
    obtain ⟨hc3, hf3⟩ := cell_of_box_a hv3
    clear hW3
    refine ⟨none, W3, hend, ?_⟩
    gi_wp2
    rw [← hs0]
    refine ⟨by simp, .inl ⟨_, _, rfl, run_takeDeferred hK3, ?_⟩⟩
    exact ⟨_, results_tmp rfl _ _ _, v, ss, rfl, hS, hrow3.kept (grownBy_putObj_a _ _ _) (ownsRow_ne_a hrow3 hK3 (fun cur e => by cases e)), hnil, hb3.grown (grownBy_putObj_a _ _ _) hb3.size (fun k e => by cases e; omega)⟩
set_option maxHeartbeats 1000000 in
theorem collect_nm (F : Fence) (n : Nat) (h8 : F.fn 60) (h11 : F.fn 85) (hro : F.round = none) (hn : 3 ≤ n) (g : Nat) (lb : Array Value) (hFg : F.fn g) (eg : ∀ args w,(callFunc g args).run Tryz.prog w = .ok (.enter g args) w)
  (S : List (Int × Int) → Prop) (N : Nat) (hN : N ≤ maxLen) (hNb : N * 16 ≤ 140737488355328) (w : World) (hseq : SeqGives F (n - 1 - 1) Tryz.prog g lb encNm S N w) :
  CallsIn F n Tryz.prog 60 #[.func (.func g) #[] lb] w fun e w' => ∃ (v : Value) (ss : List (Int × Int)),e = .returned v ∧ S ss ∧ w'.ownsRow w.heap.size 23 2 v ss.length (ss.flatMap nmCells) ∧ (v = .slice none 0 0 ↔ ss = []) ∧ Below w.heap.size w w' := by
 have h1 : 1 ≤ n := by omega
 have e11 : ∀ args w,(callFunc 85 args).run Tryz.prog w = .ok (.enter 85 args) w := enters_of Tryz.func85 (by kernel_rfl) rfl
 have u46 := run_underlying (P := Tryz.prog) Tryz.underlying23
 have u54 := run_underlying (P := Tryz.prog) Tryz.underlying28
 refine callsIn_of_wp Tryz.func60 rfl h8 ?_ hro
 simp only [Tryz.f60,List.size_toArray,List.length_cons,List.length_nil,Nat.reduceAdd,Nat.reduceSub,Array.replicate_succ,Array.replicate_zero,List.push_toArray,List.append_toArray,List.nil_append,List.cons_append]
 gi_wp2_with (gi_at_fn 85; refine (appendSeq_nm F (n - 1) h11 hro (by omega) g lb hFg eg S N hN hNb _ hseq).mono ?_; rintro e w' ⟨v,ss,rfl,hS,hrow,hnil,hb⟩)
 go_ret
 exact ⟨v,ss,rfl,hS,hrow,hnil,hb⟩
end Go.Proofs.YteojknfmmbmckaaGreatDoor.Am
namespace Go.Proofs.YteojknfmmbmckaaGreatDoor.Am
open Go Go.Proofs Go.Shelf
def sortNm_ren : Go.Shelf.Ren := ⟨fun | 6 => 61 | 15 => 87 | 14 => 86 | 28 => 136 | 29 => 137 | 20 => 128 | 21 => 129 | 22 => 130 | 23 => 131 | 24 => 132 | 25 => 133 | 26 => 134 | 27 => 135 | 46 => 162 | 47 => 163 | 48 => 164 | 49 => 165 | 50 => 166 | 57 => 178 | n => n,fun | 22 => 28 | 24 => 23 | 25 => 77 | 3 => 3 | 39 => 132 | 0 => 0 | 53 => 181 | 55 => 183 | 4 => 4 | 46 => 174 | 45 => 173 | 50 => 178 | 5 => 5 | 9 => 9 | 66 => 206 | 70 => 210 | 76 => 216 | 77 => 217 | n => n,fun | n => n⟩
theorem sortNm : Go.Proofs.SlLaysF0.n6 Tryz.prog sortNm_ren := {
 mixed := by kernel_rfl
 f6 := ⟨Tryz.f61.name,by decide,Tryz.func61.trans (congrArg some (by kernel_rfl))⟩
 f14 := ⟨Tryz.f86.name,by decide,Tryz.func86.trans (congrArg some (by kernel_rfl))⟩
 f15 := Tryz.func87.trans (congrArg some (by kernel_rfl))
 f20 := ⟨Tryz.f128.name,by decide,Tryz.func128.trans (congrArg some (by kernel_rfl))⟩
 f21 := ⟨Tryz.f129.name,by decide,Tryz.func129.trans (congrArg some (by kernel_rfl))⟩
 f22 := ⟨Tryz.f130.name,by decide,Tryz.func130.trans (congrArg some (by kernel_rfl))⟩
 f23 := ⟨Tryz.f131.name,by decide,Tryz.func131.trans (congrArg some (by kernel_rfl))⟩
 f24 := ⟨Tryz.f132.name,by decide,Tryz.func132.trans (congrArg some (by kernel_rfl))⟩
 f25 := ⟨Tryz.f133.name,by decide,Tryz.func133.trans (congrArg some (by kernel_rfl))⟩
 f26 := ⟨Tryz.f134.name,by decide,Tryz.func134.trans (congrArg some (by kernel_rfl))⟩
 f27 := ⟨Tryz.f135.name,by decide,Tryz.func135.trans (congrArg some (by kernel_rfl))⟩
 f28 := Tryz.func136.trans (congrArg some (by kernel_rfl))
 f29 := Tryz.func137.trans (congrArg some (by kernel_rfl))
 f46 := ⟨Tryz.f162.name,by decide,Tryz.func162.trans (congrArg some (by kernel_rfl))⟩
 f47 := Tryz.func163.trans (congrArg some (by kernel_rfl))
 f48 := Tryz.func164.trans (congrArg some (by kernel_rfl))
 f49 := ⟨Tryz.f165.name,by decide,Tryz.func165.trans (congrArg some (by kernel_rfl))⟩
 f50 := ⟨Tryz.f166.name,by decide,Tryz.func166.trans (congrArg some (by kernel_rfl))⟩
 f57 := ⟨Tryz.f178.name,by decide,Tryz.func178.trans (congrArg some (by kernel_rfl))⟩
 t0 := Tryz.underlying0
 a0 := Tryz.isAgg0
 z0 := Tryz.sizeOf0
 v0 := Tryz.zeroValue0
 t3 := Tryz.underlying3
 a3 := Tryz.isAgg3
 z3 := Tryz.sizeOf3
 v3 := Tryz.zeroValue3
 t4 := Tryz.underlying4
 a4 := Tryz.isAgg4
 z4 := Tryz.sizeOf4
 v4 := Tryz.zeroValue4
 t5 := Tryz.underlying5
 a5 := Tryz.isAgg5
 z5 := Tryz.sizeOf5
 v5 := Tryz.zeroValue5
 t9 := Tryz.underlying9
 a9 := Tryz.isAgg9
 z9 := Tryz.sizeOf9
 v9 := Tryz.zeroValue9
 t22 := Tryz.underlying28
 a22 := Tryz.isAgg28
 z22 := Tryz.sizeOf28
 v22 := Tryz.zeroValue28
 t25 := Tryz.underlying77
 a25 := Tryz.isAgg77
 z25 := Tryz.sizeOf77
 v25 := Tryz.zeroValue77
 t39 := Tryz.underlying132
 a39 := Tryz.isAgg132
 z39 := Tryz.sizeOf132
 v39 := Tryz.zeroValue132
 t45 := Tryz.underlying173
 a45 := Tryz.isAgg173
 z45 := Tryz.sizeOf173
 v45 := Tryz.zeroValue173
 t46 := Tryz.underlying174
 a46 := Tryz.isAgg174
 z46 := Tryz.sizeOf174
 v46 := Tryz.zeroValue174
 t50 := Tryz.underlying178
 a50 := Tryz.isAgg178
 z50 := Tryz.sizeOf178
 v50 := Tryz.zeroValue178
 t53 := Tryz.underlying181
 a53 := Tryz.isAgg181
 z53 := Tryz.sizeOf181
 v53 := Tryz.zeroValue181
 t55 := Tryz.underlying183
 a55 := Tryz.isAgg183
 z55 := Tryz.sizeOf183
 v55 := Tryz.zeroValue183
 t66 := Tryz.underlying206
 a66 := Tryz.isAgg206
 z66 := Tryz.sizeOf206
 v66 := Tryz.zeroValue206
 t70 := Tryz.underlying210
 a70 := Tryz.isAgg210
 z70 := Tryz.sizeOf210
 v70 := Tryz.zeroValue210
 t76 := Tryz.underlying216
 a76 := Tryz.isAgg216
 z76 := Tryz.sizeOf216
 v76 := Tryz.zeroValue216
 t77 := Tryz.underlying217
 a77 := Tryz.isAgg217
 z77 := Tryz.sizeOf217
 v77 := Tryz.zeroValue217 }
def cloneNm_ren : Go.Shelf.Ren := ⟨fun | 5 => 38 | 7 => 67 | n => n,fun | 23 => 52 | 25 => 23 | 3 => 25 | 4 => 4 | 20 => 20 | n => n,fun | n => n⟩
theorem cloneNm : Go.Proofs.SlLaysW.n5 Tryz.prog cloneNm_ren := {
 mixed := by kernel_rfl
 f5 := ⟨Tryz.f38.name,by decide,Tryz.func38.trans (congrArg some (by kernel_rfl))⟩
 f7 := Tryz.func67.trans (congrArg some (by kernel_rfl))
 t4 := Tryz.underlying4
 a4 := Tryz.isAgg4
 z4 := Tryz.sizeOf4
 v4 := Tryz.zeroValue4
 t20 := Tryz.underlying20
 a20 := Tryz.isAgg20
 z20 := Tryz.sizeOf20
 v20 := Tryz.zeroValue20
 t23 := Tryz.underlying52
 a23 := Tryz.isAgg52
 z23 := Tryz.sizeOf52
 v23 := Tryz.zeroValue52 }
end Go.Proofs.YteojknfmmbmckaaGreatDoor.Am
namespace Go.Proofs.YteojknfmmbmckaaGreatDoor.Am
open Go Go.Proofs Go.RowKit Go.Maps Go.Sort Go.Shelf Go.ChangeMaps
theorem ordF_ltOf : ltOf ordF = nless := by
 funext x y
 exact ordF_lt x y
theorem ordF_swo : SWO (ltOf ordF) := by
 rw [ordF_ltOf]
 exact ⟨nless_irrefl,fun _ _ _ h h' => nless_trans h h',fun x y z h h' => by
  simp only [nless,Bool.or_eq_false_iff,Bool.and_eq_false_iff,decide_eq_false_iff_not] at *; omega⟩
theorem flatK_nm (d : Array Nm) : (flatK nmCells 2 d).toList = d.toList.flatMap nmCells := by
 have key : ∀ (l : List Nm) (t : Nat),(l.flatMap nmCells)[t]? = if t < l.length * 2 then some ((nmCells (l[t / 2]?.getD default))[t % 2]!) else none := by
  intro l
  induction l with
  | nil => intro t; simp
  | cons x r ih =>
   intro t
   match t with
   | 0 => simp [nmCells]
   | 1 => simp [nmCells]; omega
   | t + 2 =>
    have h1 : ((x :: r).flatMap nmCells)[t + 2]? = (r.flatMap nmCells)[t]? := by simp [nmCells]
    have h2 : (t + 2) / 2 = t / 2 + 1 := by omega
    have h3 : (t + 2) % 2 = t % 2 := by omega
    rw [h1,ih t,h2,h3]
    simp only [List.length_cons,List.getElem?_cons_succ]
    by_cases h : t < r.length * 2
    ·rw [if_pos h,if_pos (by omega)]
    ·rw [if_neg h,if_neg (by omega)]
 apply List.ext_getElem?
 intro t
 rw [key]
 unfold flatK
 simp only [Array.toList_map,List.getElem?_map,Array.toList_range,List.getElem?_range]
 by_cases h : t < d.size * 2
 ·rw [List.getElem?_range h,if_pos (by simpa using h)]
  simp only [Option.map_some]
  have : d[t / 2]! = d.toList[t / 2]?.getD default := by
   have h' : t / 2 < d.size := by omega
   simp [h']
  rw [this]
 ·rw [List.getElem?_eq_none (by simp; omega),if_neg (by simpa using h)]; rfl
theorem holds_nm {w : World} {g : Nat} {cur : Array Value} {e : TypeId} {ss : List Nm} (hb : w.heap[g]? = some (.cells cur e (0,0))) (ht : cur.toList.take (ss.length * 2) = ss.flatMap nmCells) : HoldsK nmCells 2 w g 0 ss.toArray := by
 intro j hj
 rw [size_flatK] at hj
 have hj' : j < ss.length * 2 := by simpa using hj
 refine ⟨?_,by simp [World.frozen?,hb]⟩
 have h1 : (cur.toList.take (ss.length * 2))[j]? = (ss.flatMap nmCells)[j]? := by rw [ht]
 rw [List.getElem?_take_of_lt hj'] at h1
 have h2 : (ss.flatMap nmCells)[j]? = (flatK nmCells 2 ss.toArray)[j]? := by rw [← Array.getElem?_toList,flatK_nm]
 simp only [World.cell?,hb,Nat.zero_add]
 simp only [Option.isSome_none,Bool.false_eq_true,if_false]
 rw [← Array.getElem?_toList,h1,h2]
 have h3 : j < (flatK nmCells 2 ss.toArray).size := by rw [size_flatK]; simpa using hj'
 rw [Array.getElem?_eq_getElem h3,getElem!_pos _ j h3]; rfl
theorem heap_sortedV {w : World} {g n : Nat} {os : Array Obj} {cur : Array Value} {e : TypeId} {fr : Nat × Nat} (d : Array Value) (hb : w.heap[g]? = some (.cells cur e fr)) :
  (grow (putRow id (Sort.ahead w n) g 0 d) os).heap[g]? = some (.cells (putCells id 0 d cur) e fr) := by
 have hg : g < w.heap.size := (Array.getElem?_eq_some_iff.1 hb).1
 rw [heap_grow_old _ _ (by simpa using hg)]
 simp [putRow,mapBlock,Sort.ahead,Array.getElem?_modify,hb,onCells]
theorem grownBy_sortedV {w : World} {g n : Nat} {os : Array Obj} (d : Array Value) : w.grownBy (grow (putRow id (Sort.ahead w n) g 0 d) os) (some g) := by
 refine ⟨rfl,rfl,rfl,by simp,fun k hk hne => ?_⟩
 rw [heap_grow_old _ _ (by simpa using hk)]
 have : g ≠ k := fun e => hne (by rw [e])
 simp [putRow,mapBlock,Sort.ahead,Array.getElem?_modify,this]
theorem take_putCellsV (cur : Array Value) (ts : Array Value) (h : ts.size ≤ cur.size) : (putCells id 0 ts cur).toList.take ts.size = ts.toList := by
 apply List.ext_getElem?
 intro j
 by_cases hj : j < ts.size
 ·rw [List.getElem?_take_of_lt hj,Array.getElem?_toList]
  simp [putCells,hj,show j < cur.size by omega]
 ·rw [List.getElem?_take_eq_none (by omega),List.getElem?_eq_none (by simp; omega)]
theorem ownsRow_sortedV {w : World} {base g cap n : Nat} {e : TypeId} {os : Array Obj} {cur : Array Value} {d : Array Nm} {m : Nat} (hl : d.size = m) (hbase : base ≤ g) (hb : w.heap[g]? = some (.cells cur e (0,0)))
  (h1 : m ≤ cap) (h2 : cap ≤ maxLen) (h3 : cur.size = cap * 2) :
  (sortWorldK nmCells 2 w g 0 n d os).ownsRow base e 2 (.slice (some ⟨g,0,none⟩) m cap) m (d.toList.flatMap nmCells) := by
 subst hl
 refine ⟨by rw [← flatK_nm]; simp,.inr ⟨g,cap,_,rfl,hbase,heap_sortedV _ hb,h1,h2,by simp [putCells,h3],?_⟩⟩
 have := take_putCellsV cur (flatK nmCells 2 d) (by rw [size_flatK,h3]; omega)
 rw [size_flatK,flatK_nm] at this
 exact this
theorem sorted_is {d d' : Array Nm} (hp : PermIn 0 d.size d d') (hs : SortedIn (ltOf ordF) 0 d.size d') : d'.toList = sortN d.toList := by
 obtain ⟨h1,_,h2⟩ := hp
 have hp : d'.toList.Perm d.toList := by
  have e1 : d'.extract 0 d.size = d' := by rw [← h1]; exact Array.extract_size
  have e2 : d.extract 0 d.size = d := Array.extract_size
  rw [e1,e2] at h2; exact h2
 refine (sortN_of ?_ hp.symm).symm
 refine List.pairwise_iff_getElem.2 fun i j hi hj hij => ?_
 have hi' : i < d'.size := by simpa using hi
 have hj' : j < d'.size := by simpa using hj
 have := hs i j (Nat.zero_le _) hij (by omega)
 rw [ordF_ltOf,getElem!_pos d' i hi',getElem!_pos d' j hj'] at this
 simpa using this
theorem less_nm (x y : Nm) (W : World) : Calls Tryz.prog 59 #[encNm x,encNm y] W fun e w' => e = .returned (.bool (nless x y)) ∧ ∃ q os',w' = grow (W.drewN q) os' := by
 go_enter Tryz.func59,Tryz.ntmps59
 go_wp2
 all_goals go_ret
 all_goals refine ⟨?_,0,_,by rw [alloc_eq_grow,alloc_eq_grow,grow_grow]; rfl⟩
 all_goals show Ending.returned (Value.bool _) = Ending.returned (Value.bool _)
 all_goals congr 2
 all_goals simp_all [nless]
theorem cell_grow {w : World} {os : Array Obj} {a : Addr} {v : Value} (h : w.cell? a = some v) (hb : a.block < w.heap.size) : (grow w os).cell? a = some v := by
 have e : (grow w os).heap[a.block]? = w.heap[a.block]? := heap_grow_old _ _ hb
 rw [← h]
 simp only [World.cell?,e]
theorem order_nm (x y : Nm) (W : World) : Calls Tryz.prog 32 #[encNm x,encNm y] W fun e w' => e = .returned (.int .i64 (ordF x y)) ∧ ∃ q os',w' = grow (W.drewN q) os' := by
 have h := less_nm x y
 go_enter Tryz.func32,Tryz.ntmps32
 obtain ⟨W1,hW1⟩ : ∃ W1,(W.alloc (.cells #[.int .i64 x.1,.int .i64 x.2] 23)).alloc (.cells #[.int .i64 y.1,.int .i64 y.2] 23) = W1 := ⟨_,rfl⟩
 have b0 : W.heap.size < W1.heap.size := by rw [← hW1]; simp; omega
 have b1 : W.heap.size + 1 < W1.heap.size := by rw [← hW1]; simp
 have c0 : W1.cell? ⟨W.heap.size,0,none⟩ = some (.int .i64 x.1) := by rw [← hW1]; simp [go_sem]
 have c1 : W1.cell? ⟨W.heap.size,1,none⟩ = some (.int .i64 x.2) := by rw [← hW1]; simp [go_sem]
 have c2 : W1.cell? ⟨W.heap.size + 1,0,none⟩ = some (.int .i64 y.1) := by rw [← hW1]; simp [go_sem]
 have c3 : W1.cell? ⟨W.heap.size + 1,1,none⟩ = some (.int .i64 y.2) := by rw [← hW1]; simp [go_sem]
 go_wp2_with (go_at_call 59; rw [hW1])
 refine (h _).mono ?_
 rintro e w' ⟨rfl,hE⟩
 have d0 : w'.cell? ⟨W.heap.size,0,none⟩ = some (.int .i64 x.1) := by obtain ⟨q,os',rfl⟩ := hE; exact cell_grow (w := W1.drewN q) c0 b0
 have d1 : w'.cell? ⟨W.heap.size,1,none⟩ = some (.int .i64 x.2) := by obtain ⟨q,os',rfl⟩ := hE; exact cell_grow (w := W1.drewN q) c1 b0
 have d2 : w'.cell? ⟨W.heap.size + 1,0,none⟩ = some (.int .i64 y.1) := by obtain ⟨q,os',rfl⟩ := hE; exact cell_grow (w := W1.drewN q) c2 b1
 have d3 : w'.cell? ⟨W.heap.size + 1,1,none⟩ = some (.int .i64 y.2) := by obtain ⟨q,os',rfl⟩ := hE; exact cell_grow (w := W1.drewN q) c3 b1
 have hF : ∃ q os',w' = grow (W.drewN q) os' := by
  obtain ⟨q,os',rfl⟩ := hE
  rw [← hW1,alloc_eq_grow,alloc_eq_grow,grow_grow]
  exact ⟨q,_,(grow_grow (W.drewN q) _ os')⟩
 clear hE hW1
 go_wp2
 all_goals go_ret
 all_goals refine ⟨?_,hF⟩
 all_goals show Ending.returned (Value.int .i64 _) = Ending.returned (Value.int .i64 _)
 all_goals congr 2
 all_goals (unfold ordF; simp [*,Prod.ext_iff])
theorem order_lays (blk off size : Nat) (w : World) : CmpLays Tryz.prog 32 #[] nmCells 2 ordF blk off size w :=
 fun _ _ _ _ x y => order_nm x y _
theorem keys_gives_nm (F : Fence) (n : Nat) (h : F.fn 62) (hro : F.round = none) (hn : 1 ≤ n) (Bm b : Nat) (es : Array MapEntry) (clock : Nat) (w : World) (hBm : Bm < w.heap.size)
  (hm : w.cell? ⟨Bm,0,none⟩ = some (.map (some b))) (hb : w.heap[b]? = some (.map es clock)) (hB : Born es clock) (hk : ∀ e ∈ es.toList,∃ v : Int × Int,e.key = encNm v) :
  SeqGives F n Tryz.prog 62 #[.pointer (some ⟨Bm,0,none⟩)] encNm (fun ks => (ks.map encNm).Perm (es.toList.map (·.key))) es.size w := fun l J W hW hJ hY h0 =>
 keys_walk F n h hro hn l Bm b es clock J hY W hJ ((hW.cell (p := ⟨Bm,0,none⟩) hBm).trans hm) ((hW.block b (Array.getElem?_eq_some_iff.1 hb).1).trans hb) hB h0 hk
set_option maxHeartbeats 1000000 in
theorem sorted_nm (Bm b : Nat) (es : Array MapEntry) (clock : Nat) (w : World) (hBm : Bm < w.heap.size)
  (hm : w.cell? ⟨Bm,0,none⟩ = some (.map (some b))) (hb : w.heap[b]? = some (.map es clock)) (hB : Born es clock) (hk : ∀ e ∈ es.toList,∃ v : Int × Int,e.key = encNm v) (hN : es.size ≤ 8796093022208) :
  Calls Tryz.prog 30 #[.func (.func 62) #[] #[.pointer (some ⟨Bm,0,none⟩)],.func (.func 32) #[] #[]] w fun e w' =>
   ∃ (v : Value) (ns : List Nm),e = .returned v ∧ (ns.map encNm).Perm (es.toList.map (·.key)) ∧ w'.ownsRow w.heap.size 23 2 v ns.length ((sortN ns).flatMap nmCells) ∧ (v = .slice none 0 0 ↔ ns = []) ∧ Below w.heap.size w w' := by
 have ek : ∀ args w,(callFunc 62 args).run Tryz.prog w = .ok (.enter 62 args) w := enters_of Tryz.func62 (by kernel_rfl) rfl
 have eo : ∀ args w,(callFunc 32 args).run Tryz.prog w = .ok (.enter 32 args) w := enters_of Tryz.func32 (by kernel_rfl) rfl
 have hseq := SeqGives.bounded (keys_gives_nm Fence.wide 4 trivial rfl (by omega) Bm b es clock w hBm hm hb hB hk)
 have cC := callsIn_wide.1 (collect_nm Fence.wide 6 trivial trivial rfl (by omega) 62 _ trivial ek _ es.size (by unfold maxLen; omega) (by omega) w hseq)
 have u46 := run_underlying (P := Tryz.prog) Tryz.underlying23
 have u54 := run_underlying (P := Tryz.prog) Tryz.underlying28
 go_enter Tryz.func30,Tryz.ntmps30
 go_wp2_with (go_at_call 60; refine cC.mono ?_; rintro e W ⟨v,ss,rfl,⟨hS,hlen⟩,hrow,hnil,hb⟩)
 rcases hrow.2 with ⟨rfl,hz⟩ | ⟨gb,cap,cur,rfl,hbase,hgb,r1,r2,r3,r4⟩
 ·have hss : ss = [] := List.eq_nil_of_length_eq_zero hz
  subst hss
  refine Calls.mono (show Calls Tryz.prog 61 #[.slice none 0 0,.func (.func 32) #[] #[]] W fun e w' => e = .returned (.tuple #[]) ∧ w' = W from AnyF.slices_SortFunc_none sortNm none 0 _ W) ?_
  rintro e w' ⟨rfl,rfl⟩
  go_wp2
  go_ret
  exact ⟨.slice none 0 0,[],rfl,hS,hrow,by simp,hb⟩
 ·have hH : HoldsK nmCells 2 W gb 0 ss.toArray := holds_nm hgb r4
  have hgl : gb < W.heap.size := (Array.getElem?_eq_some_iff.1 hgb).1
  have hsz : ss.toArray.size < 4611686018427387904 := by simp; omega
  have cS := AnyQ.slices_SortFunc sortNm 2 Tryz.isAgg23 Tryz.sizeOf23 nmCells (fun _ => rfl) (fun x v hv => by simp [nmCells] at hv; rcases hv with rfl | rfl <;> rfl) ordF ordF_swo 32 #[] gb 0 cap ss.toArray W eo (order_lays gb 0 _ W) hH hgl hsz
  change Calls Tryz.prog 61 _ _ _ at cS
  rw [List.size_toArray] at cS
  refine cS.mono ?_
  rintro e w' ⟨rfl,d',n,os,hp,hs,rfl⟩
  have hd := sorted_is (d := ss.toArray) (by simpa using hp) (by simpa using hs)
  have hds : d'.size = ss.length := by have := hp.1; simpa using this
  have ho := ownsRow_sortedV (n := n) (os := os) hds hbase hgb r1 r2 r3
  rw [hd] at ho
  have hbel : Below w.heap.size w (sortWorldK nmCells 2 W gb 0 n d' os) := hb.grown (grownBy_sortedV _) hb.size (fun j hj => by cases hj; exact hbase)
  generalize sortWorldK nmCells 2 W gb 0 n d' os = W' at ho hbel
  go_wp2
  go_ret
  exact ⟨_,ss,rfl,hS,ho,hnil,hbel⟩
end Go.Proofs.YteojknfmmbmckaaGreatDoor.Am
namespace Go.Proofs.YteojknfmmbmckaaGreatDoor.Am
open Go Go.Proofs Go.RowKit Go.Maps Go.Sort Go.Shelf
def decNm : Value → Nm
 | .agg a => match a.toList with
  | [Value.int _ x,Value.int _ y] => (x,y)
  | _ => (0,0)
 | _ => (0,0)
theorem natSF_ok {cfg : Cfg} (hc : ∀ f,cfg.conc f = f) : NatOk Tryz.prog cfg 30 (natSF 62 32) := by
 intro args σ v σ' h
 rw [hc]
 refine ⟨⟨_,Tryz.func30,by decide,rfl⟩,?_⟩
 obtain ⟨id,m,ks,ns,rfl,h1,h2,h3,hlen,h4⟩ := natSF_cases h
 intro E κ cargs hσ hR ha r w hw
 subst hσ
 cases ha with
 | cons _ _ _ _ _ a1 a2 =>
 cases a2 with
 | cons _ _ _ _ _ a2 a3 =>
 cases a3
 cases a2 with
 | func _ _ _ _ us us' b1 b2 =>
 cases b1; cases b2
 cases a1 with
 | func _ _ _ _ us us' b1 b2 =>
 cases b1
 cases b2 with
 | cons _ _ _ _ _ b1 b2 =>
 cases b2
 cases b1 with
 | ptr _ _ _ b hp =>
 obtain ⟨⟨_,hpd⟩,rfl⟩ := hp
 obtain ⟨hc1,vs,e,hb1,hvl⟩ := hR.obj id _ h1 hpd
 obtain ⟨cm,rfl,hm⟩ : ∃ cm,vs = #[cm] ∧ κ.V E cfg.conc m cm := by
  obtain ⟨l⟩ := vs
  cases hvl with
  | cons _ _ _ _ _ hv hl => cases hl; exact ⟨_,rfl,hv⟩
 obtain ⟨mb,es,clock,rfl,hmb,hkeys,hB⟩ := keysOf_ok hR hm h2
 have hks := nmsOf_eq h3
 subst hks
 have hke := nms_V hkeys
 have hel : es.size = ns.length := by
  have := congrArg List.length hke
  simpa using this
 obtain ⟨hwh,hwo,hwu⟩ := hw
 have hloc : κ.loc id < w.heap.size := by rw [hwh]; exact hR.hi id (K.live_of h1 hpd)
 have hcell : w.cell? ⟨κ.loc id,0,none⟩ = some (.map (some mb)) := by rw [cellAt_eq,hwh]; simp [cellAt,hb1]
 have con := sorted_nm (κ.loc id) mb es clock w hloc hcell (by rw [hwh]; exact hmb) hB (fun e he => by
  have : e.key ∈ es.toList.map (·.key) := List.mem_map.2 ⟨e,he,rfl⟩
  rw [hke] at this
  obtain ⟨n,_,hn⟩ := List.mem_map.1 this
  exact ⟨n,hn.symm⟩) (by rw [hel]; exact hlen)
 rw [hc,hc]
 refine Calls.mono con ?_
 rintro e w' ⟨v0,ns',rfl,hperm,hrow,hnil,hbel⟩
 simp only
 have hs : κ.h.size ≤ w'.heap.size := by rw [← hwh]; exact hbel.size
 have hh : ∀ b,b < κ.h.size → w'.heap[b]? = κ.h[b]? := fun b hb => by rw [← hwh]; exact hbel.block b (by rw [hwh]; exact hb)
 have hns : ns'.Perm ns := by
  rw [hke] at hperm
  have h := hperm.map decNm
  have e : ∀ l : List Nm,(l.map encNm).map decNm = l := fun l => by
   rw [List.map_map,show decNm ∘ encNm = _root_.id from funext fun a => rfl,List.map_id]
  have e' : (ns.map fun n => (Value.agg #[.int .i64 n.1,.int .i64 n.2])).map decNm = ns := e ns
  rw [e,e'] at h
  exact h
 rcases h4 with ⟨rfl,rfl,rfl⟩ | ⟨hne,rfl,rfl⟩
 ·have e0 : ns' = [] := List.perm_nil.1 hns
  rw [hnil.2 e0]
  exact ⟨κ.more w'.heap,⟨rfl,hbel.os.trans hwo,hbel.output.trans hwu⟩,rfl,K.more_le hR hs hh,K.more_R hR hs hh,.nilslice _⟩
 ·have hso : sortN ns' = sortN ns := up_one (sortN_up _) (sortN_up _) ((sortN_perm _).trans (hns.trans (sortN_perm _).symm))
  have hl' := hns.length_eq
  rcases hrow.2 with ⟨e1,_⟩ | ⟨g,cap,cur,rfl,hg,hgb,c1,c2,c3,c4⟩
  ·have := hnil.1 e1
   subst this
   exact (hne (List.nil_perm.1 hns)).elim
  ·have htake : cur.toList = (sortN ns).flatMap nmCells ++ cur.toList.drop (ns'.length * 2) := by
    rw [← hso,← c4,List.take_append_drop]
   obtain ⟨k1,k2⟩ := farArr_ok (es := (sortN ns).map nmV) hR hs hh (by rw [← hwh]; exact hg) hgb htake (by decide) (nms_elems _) (nms_VL _) (by simp [sortN_len]; omega) c3
   refine ⟨_,⟨rfl,hbel.os.trans hwo,hbel.output.trans hwu⟩,rfl,K.far_le hR hs hh g (by rw [← hwh]; exact hg) _,k1,?_⟩
   rw [hl']
   simpa [sortN_len] using k2
theorem natMC_ok {cfg : Cfg} (hc : ∀ f,cfg.conc f = f) : NatOk Tryz.prog cfg 38 natMC := by
 intro args σ v σ' h
 rw [hc]
 refine ⟨⟨_,Tryz.func38,by decide,rfl⟩,?_⟩
 obtain ⟨m,ks,vs,rfl,h1,rfl,rfl⟩ := natMC_cases h
 intro E κ cargs hσ hR ha r w hw
 subst hσ
 cases ha with
 | cons _ _ _ _ _ a1 a2 =>
 cases a2
 obtain ⟨b,es,clock,rfl,hb,hk,hv,hB⟩ := kvOf_ok hR a1 h1
 obtain ⟨hwh,hwo,hwu⟩ := hw
 refine Calls.mono (AnyW.maps_Clone cloneNm b es clock w (by rw [hwh]; exact hb)) ?_
 rintro e w' ⟨rfl,rfl⟩
 simp only
 refine ⟨κ.new (.map es clock) (.map ks vs),⟨by simp [World.alloc,K.new,hwh],hwo,hwu⟩,by simp [K.new],K.new_le hR _ _,
  K.new_R hR _ _ ⟨es,clock,by simp [K.new],K.VL.le hR.lb (K.new_le hR _ _) hk,K.VL.le hR.lb (K.new_le hR _ _) hv,hB⟩,?_⟩
 rw [hwh]
 exact .map _ _ _ ⟨⟨⟨ks,vs,by simp [K.new]⟩,hR.fresh⟩,by simp [K.new]⟩
end Go.Proofs.YteojknfmmbmckaaGreatDoor.Am
namespace Go.Proofs.YteojknfmmbmckaaGreatDoor.Am.CU
open Go Go.Proofs.YteojknfmmbmckaaGreatDoor.Am
set_option maxHeartbeats 4000000
theorem ok3 : FnOk cfg Tryz.prog 3 a3 := ⟨⟨Tryz.f3,_,Tryz.func3,by decide,rfl,rfl,by kernel_rfl,by kernel_rfl⟩⟩
theorem ok4 : FnOk cfg Tryz.prog 4 a4 := ⟨⟨Tryz.f4,_,Tryz.func4,by decide,rfl,rfl,by kernel_rfl,by kernel_rfl⟩⟩
theorem ok5 : FnOk cfg Tryz.prog 5 a5 := ⟨⟨Tryz.f5,_,Tryz.func5,by decide,rfl,rfl,by kernel_rfl,by kernel_rfl⟩⟩
theorem ok6 : FnOk cfg Tryz.prog 6 a6 := ⟨⟨Tryz.f6,_,Tryz.func6,by decide,rfl,rfl,by kernel_rfl,by kernel_rfl⟩⟩
theorem ok7 : FnOk cfg Tryz.prog 7 a7 := ⟨⟨Tryz.f7,_,Tryz.func7,by decide,rfl,rfl,by kernel_rfl,by kernel_rfl⟩⟩
theorem ok8 : FnOk cfg Tryz.prog 8 a8 := ⟨⟨Tryz.f8,_,Tryz.func8,by decide,rfl,rfl,by kernel_rfl,by kernel_rfl⟩⟩
theorem ok9 : FnOk cfg Tryz.prog 9 a9 := ⟨⟨Tryz.f9,_,Tryz.func9,by decide,rfl,rfl,by kernel_rfl,by kernel_rfl⟩⟩
theorem ok10 : FnOk cfg Tryz.prog 10 a10 := ⟨⟨Tryz.f10,_,Tryz.func10,by decide,rfl,rfl,by kernel_rfl,by kernel_rfl⟩⟩
theorem ok11 : FnOk cfg Tryz.prog 11 a11 := ⟨⟨Tryz.f11,_,Tryz.func11,by decide,rfl,rfl,by kernel_rfl,by kernel_rfl⟩⟩
theorem ok12 : FnOk cfg Tryz.prog 12 a12 := ⟨⟨Tryz.f12,_,Tryz.func12,by decide,rfl,rfl,by kernel_rfl,by kernel_rfl⟩⟩
theorem ok13 : FnOk cfg Tryz.prog 13 a13 := ⟨⟨Tryz.f13,_,Tryz.func13,by decide,rfl,rfl,by kernel_rfl,by kernel_rfl⟩⟩
theorem ok14 : FnOk cfg Tryz.prog 14 a14 := ⟨⟨Tryz.f14,_,Tryz.func14,by decide,rfl,rfl,by kernel_rfl,by kernel_rfl⟩⟩
theorem ok15 : FnOk cfg Tryz.prog 15 a15 := ⟨⟨Tryz.f15,_,Tryz.func15,by decide,rfl,rfl,by kernel_rfl,by kernel_rfl⟩⟩
theorem ok16 : FnOk cfg Tryz.prog 16 a16 := ⟨⟨Tryz.f16,_,Tryz.func16,by decide,rfl,rfl,by kernel_rfl,by kernel_rfl⟩⟩
theorem ok17 : FnOk cfg Tryz.prog 17 a17 := ⟨⟨Tryz.f17,_,Tryz.func17,by decide,rfl,rfl,by kernel_rfl,by kernel_rfl⟩⟩
theorem ok19 : FnOk cfg Tryz.prog 19 a19 := ⟨⟨Tryz.f19,_,Tryz.func19,by decide,rfl,rfl,by kernel_rfl,by kernel_rfl⟩⟩
theorem ok20 : FnOk cfg Tryz.prog 20 a20 := ⟨⟨Tryz.f20,_,Tryz.func20,by decide,rfl,rfl,by kernel_rfl,by kernel_rfl⟩⟩
theorem ok21 : FnOk cfg Tryz.prog 21 a21 := ⟨⟨Tryz.f21,_,Tryz.func21,by decide,rfl,rfl,by kernel_rfl,by kernel_rfl⟩⟩
theorem ok22 : FnOk cfg Tryz.prog 22 a22 := ⟨⟨Tryz.f22,_,Tryz.func22,by decide,rfl,rfl,by kernel_rfl,by kernel_rfl⟩⟩
theorem ok23 : FnOk cfg Tryz.prog 23 a23 := ⟨⟨Tryz.f23,_,Tryz.func23,by decide,rfl,rfl,by kernel_rfl,by kernel_rfl⟩⟩
theorem ok24 : FnOk cfg Tryz.prog 24 a24 := ⟨⟨Tryz.f24,_,Tryz.func24,by decide,rfl,rfl,by kernel_rfl,by kernel_rfl⟩⟩
theorem ok25 : FnOk cfg Tryz.prog 25 a25 := ⟨⟨Tryz.f25,_,Tryz.func25,by decide,rfl,rfl,by kernel_rfl,by kernel_rfl⟩⟩
theorem ok26 : FnOk cfg Tryz.prog 26 a26 := ⟨⟨Tryz.f26,_,Tryz.func26,by decide,rfl,rfl,by kernel_rfl,by kernel_rfl⟩⟩
theorem ok27 : FnOk cfg Tryz.prog 27 a27 := ⟨⟨Tryz.f27,_,Tryz.func27,by decide,rfl,rfl,by kernel_rfl,by kernel_rfl⟩⟩
theorem ok28 : FnOk cfg Tryz.prog 28 a28 := ⟨⟨Tryz.f28,_,Tryz.func28,by decide,rfl,rfl,by kernel_rfl,by kernel_rfl⟩⟩
theorem ok31 : FnOk cfg Tryz.prog 31 a31 := ⟨⟨Tryz.f31,_,Tryz.func31,by decide,rfl,rfl,by kernel_rfl,by kernel_rfl⟩⟩
theorem ok33 : FnOk cfg Tryz.prog 33 a33 := ⟨⟨Tryz.f33,_,Tryz.func33,by decide,rfl,rfl,by kernel_rfl,by kernel_rfl⟩⟩
theorem ok35 : FnOk cfg Tryz.prog 35 a35 := ⟨⟨Tryz.f35,_,Tryz.func35,by decide,rfl,rfl,by kernel_rfl,by kernel_rfl⟩⟩
theorem ok36 : FnOk cfg Tryz.prog 36 a36 := ⟨⟨Tryz.f36,_,Tryz.func36,by decide,rfl,rfl,by kernel_rfl,by kernel_rfl⟩⟩
theorem ok37 : FnOk cfg Tryz.prog 37 a37 := ⟨⟨Tryz.f37,_,Tryz.func37,by decide,rfl,rfl,by kernel_rfl,by kernel_rfl⟩⟩
theorem ok40 : FnOk cfg Tryz.prog 40 a40 := ⟨⟨Tryz.f40,_,Tryz.func40,by decide,rfl,rfl,by kernel_rfl,by kernel_rfl⟩⟩
theorem ok42 : FnOk cfg Tryz.prog 42 a42 := ⟨⟨Tryz.f42,_,Tryz.func42,by decide,rfl,rfl,by kernel_rfl,by kernel_rfl⟩⟩
theorem ok44 : FnOk cfg Tryz.prog 44 a44 := ⟨⟨Tryz.f44,_,Tryz.func44,by decide,rfl,rfl,by kernel_rfl,by kernel_rfl⟩⟩
theorem ok45 : FnOk cfg Tryz.prog 45 a45 := ⟨⟨Tryz.f45,_,Tryz.func45,by decide,rfl,rfl,by kernel_rfl,by kernel_rfl⟩⟩
theorem ok46 : FnOk cfg Tryz.prog 46 a46 := ⟨⟨Tryz.f46,_,Tryz.func46,by decide,rfl,rfl,by kernel_rfl,by kernel_rfl⟩⟩
theorem ok47 : FnOk cfg Tryz.prog 47 a47 := ⟨⟨Tryz.f47,_,Tryz.func47,by decide,rfl,rfl,by kernel_rfl,by kernel_rfl⟩⟩
theorem ok49 : FnOk cfg Tryz.prog 49 a49 := ⟨⟨Tryz.f49,_,Tryz.func49,by decide,rfl,rfl,by kernel_rfl,by kernel_rfl⟩⟩
theorem ok50 : FnOk cfg Tryz.prog 50 a50 := ⟨⟨Tryz.f50,_,Tryz.func50,by decide,rfl,rfl,by kernel_rfl,by kernel_rfl⟩⟩
theorem ok51 : FnOk cfg Tryz.prog 51 a51 := ⟨⟨Tryz.f51,_,Tryz.func51,by decide,rfl,rfl,by kernel_rfl,by kernel_rfl⟩⟩
theorem ok56 : FnOk cfg Tryz.prog 56 a56 := ⟨⟨Tryz.f56,_,Tryz.func56,by decide,rfl,rfl,by kernel_rfl,by kernel_rfl⟩⟩
theorem ok57 : FnOk cfg Tryz.prog 57 a57 := ⟨⟨Tryz.f57,_,Tryz.func57,by decide,rfl,rfl,by kernel_rfl,by kernel_rfl⟩⟩
theorem ok63 : FnOk cfg Tryz.prog 63 a63 := ⟨⟨Tryz.f63,_,Tryz.func63,by decide,rfl,rfl,by kernel_rfl,by kernel_rfl⟩⟩
theorem ok68 : FnOk cfg Tryz.prog 68 a68 := ⟨⟨Tryz.f68,_,Tryz.func68,by decide,rfl,rfl,by kernel_rfl,by kernel_rfl⟩⟩
theorem ok70 : FnOk cfg Tryz.prog 70 a70 := ⟨⟨Tryz.f70,_,Tryz.func70,by decide,rfl,rfl,by kernel_rfl,by kernel_rfl⟩⟩
theorem ok71 : FnOk cfg Tryz.prog 71 a71 := ⟨⟨Tryz.f71,_,Tryz.func71,by decide,rfl,rfl,by kernel_rfl,by kernel_rfl⟩⟩
theorem ok72 : FnOk cfg Tryz.prog 72 a72 := ⟨⟨Tryz.f72,_,Tryz.func72,by decide,rfl,rfl,by kernel_rfl,by kernel_rfl⟩⟩
theorem ok73 : FnOk cfg Tryz.prog 73 a73 := ⟨⟨Tryz.f73,_,Tryz.func73,by decide,rfl,rfl,by kernel_rfl,by kernel_rfl⟩⟩
theorem ok83 : FnOk cfg Tryz.prog 83 a83 := ⟨⟨Tryz.f83,_,Tryz.func83,by decide,rfl,rfl,by kernel_rfl,by kernel_rfl⟩⟩
theorem ok94 : FnOk cfg Tryz.prog 94 a94 := ⟨⟨Tryz.f94,_,Tryz.func94,by decide,rfl,rfl,by kernel_rfl,by kernel_rfl⟩⟩
theorem ok105 : FnOk cfg Tryz.prog 105 a105 := ⟨⟨Tryz.f105,_,Tryz.func105,by decide,rfl,rfl,by kernel_rfl,by kernel_rfl⟩⟩
theorem ok106 : FnOk cfg Tryz.prog 106 a106 := ⟨⟨Tryz.f106,_,Tryz.func106,by decide,rfl,rfl,by kernel_rfl,by kernel_rfl⟩⟩
theorem ok108 : FnOk cfg Tryz.prog 108 a108 := ⟨⟨Tryz.f108,_,Tryz.func108,by decide,rfl,rfl,by kernel_rfl,by kernel_rfl⟩⟩
theorem ok109 : FnOk cfg Tryz.prog 109 a109 := ⟨⟨Tryz.f109,_,Tryz.func109,by decide,rfl,rfl,by kernel_rfl,by kernel_rfl⟩⟩
theorem ok110 : FnOk cfg Tryz.prog 110 a110 := ⟨⟨Tryz.f110,_,Tryz.func110,by decide,rfl,rfl,by kernel_rfl,by kernel_rfl⟩⟩
theorem orF_cases {a b : Option AFunc} {x : AFunc} (h : orF a b = some x) : a = some x ∨ b = some x := by
 unfold orF at h
 split at h
 ·exact .inl h
 ·exact .inr h
theorem fns0 (f : FuncId) (fn : AFunc) (h : ir0 f = some fn) : FnOk cfg Tryz.prog f fn := by
 unfold ir0 at h
 split at h
 ·injection h with h; subst h; exact ok3
 ·injection h with h; subst h; exact ok4
 ·injection h with h; subst h; exact ok5
 ·injection h with h; subst h; exact ok6
 ·injection h with h; subst h; exact ok7
 ·injection h with h; subst h; exact ok8
 ·injection h with h; subst h; exact ok9
 ·injection h with h; subst h; exact ok10
 ·injection h with h; subst h; exact ok11
 ·injection h with h; subst h; exact ok12
 ·injection h with h; subst h; exact ok13
 ·injection h with h; subst h; exact ok14
 ·injection h with h; subst h; exact ok15
 ·injection h with h; subst h; exact ok16
 ·injection h with h; subst h; exact ok17
 ·injection h with h; subst h; exact ok19
 ·injection h with h; subst h; exact ok20
 ·injection h with h; subst h; exact ok21
 ·injection h with h; subst h; exact ok22
 ·injection h with h; subst h; exact ok23
 ·injection h with h; subst h; exact ok24
 ·injection h with h; subst h; exact ok25
 ·injection h with h; subst h; exact ok26
 ·injection h with h; subst h; exact ok27
 ·injection h with h; subst h; exact ok28
 ·injection h with h; subst h; exact ok31
 ·injection h with h; subst h; exact ok33
 ·injection h with h; subst h; exact ok35
 ·injection h with h; subst h; exact ok36
 ·injection h with h; subst h; exact ok37
 ·injection h with h; subst h; exact ok40
 ·injection h with h; subst h; exact ok42
 ·injection h with h; subst h; exact ok44
 ·injection h with h; subst h; exact ok45
 ·injection h with h; subst h; exact ok46
 ·injection h with h; subst h; exact ok47
 ·injection h with h; subst h; exact ok49
 ·injection h with h; subst h; exact ok50
 ·injection h with h; subst h; exact ok51
 ·injection h with h; subst h; exact ok56
 ·cases h
theorem fns1 (f : FuncId) (fn : AFunc) (h : ir1 f = some fn) : FnOk cfg Tryz.prog f fn := by
 unfold ir1 at h
 split at h
 ·injection h with h; subst h; exact ok57
 ·injection h with h; subst h; exact ok63
 ·injection h with h; subst h; exact ok68
 ·injection h with h; subst h; exact ok70
 ·injection h with h; subst h; exact ok71
 ·injection h with h; subst h; exact ok72
 ·injection h with h; subst h; exact ok73
 ·injection h with h; subst h; exact ok83
 ·injection h with h; subst h; exact ok94
 ·injection h with h; subst h; exact ok105
 ·injection h with h; subst h; exact ok106
 ·injection h with h; subst h; exact ok108
 ·injection h with h; subst h; exact ok109
 ·injection h with h; subst h; exact ok110
 ·cases h
theorem fns : ∀ f fn,cfg.ir f = some fn → FnOk cfg Tryz.prog f fn := by
 intro f fn h
 rcases orF_cases h with h | h
 ·exact fns0 f fn h
 exact fns1 f fn h
theorem all : CfgOk Tryz.prog cfg := ⟨fns,by
 intro f g h
 simp only [cfg] at h
 split at h
 ·injection h with h; subst h; exact natSF_ok fun _ => rfl
 ·injection h with h; subst h; exact natMC_ok fun _ => rfl
 ·cases h⟩
end Go.Proofs.YteojknfmmbmckaaGreatDoor.Am.CU
namespace Go.Proofs.YteojknfmmbmckaaGreatDoor.Am
open Go
theorem live09_ran : (run CU.cfg 300 1 4 [] []).map (fun p => p.1) = some (.bool true) := by kernel_rfl
end Go.Proofs.YteojknfmmbmckaaGreatDoor.Am
namespace Go.Proofs.YteojknfmmbmckaaGreatDoor.Am
open Go
section
variable (d : Nat) (σ : Store)
theorem ngoals_ok : Called CU.cfg d 7 [.nilptr] σ fun r σ' => r = .nilslice ∧ Grows σ σ' := by
 refine called_of (fn := CU.a7) rfl (Nat.le_of_ble_eq_true rfl) ?_
 simp only [CU.a7, CU.o]
 have e1 : isNil .p .nilptr = some true := rfl
 simp -dsimp only [↓WPd,↓Zm,↓Zn,WPu,Za,Zb,Zc,Zd,Ze,Zf,Zg,Zh,Nat.reduceEqDiff,Nat.reduceLT,Zi,Zj,Zk,Zl,Nat.reduceBEq,WPm,e1]
 exact Keeps.refl _ _
theorem nheap_ok : Called CU.cfg d 8 [.nilptr] σ fun r σ' => r = .nilptr ∧ Grows σ σ' := by
 refine called_of (fn := CU.a8) rfl (Nat.le_of_ble_eq_true rfl) ?_
 simp only [CU.a8, CU.o]
 have e1 : isNil .p .nilptr = some true := rfl
 simp -dsimp only [↓WPd,↓Zm,↓Zn,WPu,Za,Zb,Zc,Zd,Ze,Zf,Zg,Zh,Nat.reduceEqDiff,Nat.reduceLT,Zi,Zj,Zk,Zl,Nat.reduceBEq,WPm,e1]
 exact Keeps.refl _ _
theorem nfork9_ok : Called CU.cfg d 11 [.nilptr] σ fun r σ' => r = .nilptr ∧ Grows σ σ' := by
 refine called_of (fn := CU.a11) rfl (Nat.le_of_ble_eq_true rfl) ?_
 simp only [CU.a11, CU.o]
 have e1 : isNil .p .nilptr = some true := rfl
 simp -dsimp only [↓WPd,↓Zm,↓Zn,WPu,Za,Zb,Zc,Zd,Ze,Zf,Zg,Zh,Nat.reduceEqDiff,Nat.reduceLT,Zi,Zj,Zk,Zl,Nat.reduceBEq,WPm,e1]
 exact Keeps.refl _ _
theorem nfailed_ok : Called CU.cfg d 10 [.nilptr] σ fun r σ' => r = .bool false ∧ Grows σ σ' := by
 refine called_of (fn := CU.a10) rfl (Nat.le_of_ble_eq_true rfl) ?_
 simp only [CU.a10, CU.o]
 have e1 : isNil .p .nilptr = some true := rfl
 simp -dsimp only [↓WPd,↓Zm,↓Zn,WPu,Za,Zb,Zc,Zd,Ze,Zf,Zg,Zh,Nat.reduceEqDiff,Nat.reduceLT,Zi,Zj,Zk,Zl,Nat.reduceBEq,WPm,e1,Bool.not_true]
 exact Keeps.refl _ _
theorem ngidx_ok (f : AVal) : Called CU.cfg d 63 [.nilslice,f] σ fun r σ' => r = .int .i64 (-1) ∧ Grows σ σ' := by
 refine called_of (fn := CU.a63) rfl (Nat.le_of_ble_eq_true rfl) ?_
 simp only [CU.a63, CU.o]
 have l0 : lenSV .nilslice = some 0 := rfl
 simp -dsimp only [↓WPd,↓Zm,↓Zn,WPu,Za,Zb,Zc,Zd,Ze,Zf,Zg,Zh,Nat.reduceEqDiff,Nat.reduceLT,Zi,Zj,Zk,Zl,Nat.reduceBEq,l0]
 refine loop_rule2 (fun m xs σ' => xs = [.nilslice,f,.int .i64 ((0 : Nat) : Int),.int .i64 ((0 : Nat) : Int)] ∧ σ' = σ) [] (fun e xs σ' => e = .exit 0 ∧ σ' = σ) 0 ⟨?_,rfl⟩ ?_ ?_
 ·simp -dsimp only [↓WPd,↓Zm,↓Zn,WPu,Za,Zb,Zc,Zd,Ze,Zf,Zg,Zh,Nat.reduceEqDiff,Nat.reduceLT,Zi,Zj,Zk,Zl,Nat.reduceBEq]; rfl
 ·rintro m xs σ' ⟨rfl,rfl⟩
  have d0 : decide (((0 : Nat) : Int) < ((0 : Nat) : Int)) = false := rfl
  simp -dsimp only [↓WPd,↓Zm,↓Zn,WPu,Za,Zb,Zc,Zd,Ze,Zf,Zg,Zh,Nat.reduceEqDiff,Nat.reduceLT,Zi,Zj,Zk,Zl,Nat.reduceBEq,d0]
 ·rintro e σ' env ⟨rfl,rfl⟩
  simp -dsimp only [↓WPd,↓Zm,↓Zn,WPu,Za,Zb,Zc,Zd,Ze,Zf,Zg,Zh,Nat.reduceEqDiff,Nat.reduceLT,Zi,Zj,Zk,Zl,Nat.reduceBEq]
  exact Keeps.refl _ _
theorem ngdel_ok (f : AVal) : Called CU.cfg d 35 [.nilslice,f] σ fun r σ' => r = .nilslice ∧ Grows σ σ' := by
 refine called_of (fn := CU.a35) rfl (Nat.le_of_ble_eq_true rfl) ?_
 simp only [CU.a35, CU.o]
 simp -dsimp only [↓WPd,↓Zm,↓Zn,WPu,Za,Zb,Zc,Zd,Ze,Zf,Zg,Zh,Nat.reduceEqDiff,Nat.reduceLT,Zi,Zj,Zk,Zl,Nat.reduceBEq]
 refine calledW_of (ngidx_ok d σ f) ?_
 rintro r σ1 ⟨rfl,g⟩
 have e0 : ((-1 : Int) == -1) = true := rfl
 simp -dsimp only [↓WPd,↓Zm,↓Zn,WPu,Za,Zb,Zc,Zd,Ze,Zf,Zg,Zh,Nat.reduceEqDiff,Nat.reduceLT,Zi,Zj,Zk,Zl,Nat.reduceBEq,e0]
 exact g
theorem nopen_ok : Called CU.cfg d 9 [.nilptr] σ fun r σ' => r = .nilslice ∧ Grows σ σ' := by
 refine called_of (fn := CU.a9) rfl (Nat.le_of_ble_eq_true rfl) ?_
 simp only [CU.a9, CU.o]
 have c1 : AVal.nilptr.cells = [.nilptr] := rfl
 have c2 : [AVal.nilptr].all AVal.one = true := rfl
 simp -dsimp only [↓WPd,↓Zm,↓Zn,WPu,Za,Zb,Zc,Zd,Ze,Zf,Zg,Zh,Nat.reduceEqDiff,Nat.reduceLT,Zi,Zj,Zk,Zl,Nat.reduceBEq,WPm,c1,c2]
 have ho : (σ ++ [AObj.cells [.nilptr]])[σ.length]? = some (.cells [.nilptr]) := by simp
 have g0 : Grows σ (σ ++ [AObj.cells [.nilptr]]) := Grows.app _ _
 generalize σ ++ [AObj.cells [.nilptr]] = σ1 at ho g0
 have e0 : ([AVal.nilptr] : List AVal)[0]? = some .nilptr := rfl
 simp -dsimp only [↓WPd,↓Zm,↓Zn,WPu,Za,Zb,Zc,Zd,Ze,Zf,Zg,Zh,Nat.reduceEqDiff,Nat.reduceLT,Zi,Zj,Zk,Zl,Nat.reduceBEq,WPm,load_cells ho,e0]
 refine calledW_of (ngoals_ok d σ1) ?_
 rintro r σ2 ⟨rfl,g2⟩
 simp -dsimp only [↓WPd,↓Zm,↓Zn,WPu,Za,Zb,Zc,Zd,Ze,Zf,Zg,Zh,Nat.reduceEqDiff,Nat.reduceLT,Zi,Zj,Zk,Zl,Nat.reduceBEq,WPm]
 refine calledW_of (ngdel_ok d σ2 _) ?_
 rintro r σ3 ⟨rfl,g3⟩
 simp -dsimp only [↓WPd,↓Zm,↓Zn,WPu,Za,Zb,Zc,Zd,Ze,Zf,Zg,Zh,Nat.reduceEqDiff,Nat.reduceLT,Zi,Zj,Zk,Zl,Nat.reduceBEq,WPm]
 exact (g0.trans g2).trans g3
theorem nsubmit_ok (cs : List AVal) (h1 : cs.all AVal.one = true) : Called CU.cfg d 5 [.nilptr,.agg cs] σ fun r σ' => r = .int .i64 1 ∧ Grows σ σ' := by
 refine called_of (fn := CU.a5) rfl (Nat.le_of_ble_eq_true rfl) ?_
 simp only [CU.a5, CU.o]
 have c1 : AVal.nilptr.cells = [.nilptr] := rfl
 have c2 : [AVal.nilptr].all AVal.one = true := rfl
 have c3 : (AVal.agg cs).cells = cs := rfl
 simp -dsimp only [↓WPd,↓Zm,↓Zn,WPu,Za,Zb,Zc,Zd,Ze,Zf,Zg,Zh,Nat.reduceEqDiff,Nat.reduceLT,Zi,Zj,Zk,Zl,Nat.reduceBEq,WPm,c1,c2,c3,h1]
 have ho : (σ ++ [AObj.cells [.nilptr]] ++ [AObj.cells cs])[σ.length]? = some (.cells [.nilptr]) := by simp
 have g0 : Grows σ (σ ++ [AObj.cells [.nilptr]] ++ [AObj.cells cs]) := (Grows.app _ _).trans (Grows.app _ _)
 generalize σ ++ [AObj.cells [.nilptr]] ++ [AObj.cells cs] = σ1 at ho g0
 have e0 : ([AVal.nilptr] : List AVal)[0]? = some .nilptr := rfl
 have e1 : isNil .p .nilptr = some true := rfl
 simp -dsimp only [↓WPd,↓Zm,↓Zn,WPu,Za,Zb,Zc,Zd,Ze,Zf,Zg,Zh,Nat.reduceEqDiff,Nat.reduceLT,Zi,Zj,Zk,Zl,Nat.reduceBEq,WPm,load_cells ho,e0,e1]
 exact g0
theorem ntake_ok (cs : List AVal) (h1 : cs.all AVal.one = true) : Called CU.cfg d 6 [.nilptr,.agg cs] σ fun r σ' => r = .int .i64 1 ∧ Grows σ σ' := by
 refine called_of (fn := CU.a6) rfl (Nat.le_of_ble_eq_true rfl) ?_
 simp only [CU.a6, CU.o]
 have c1 : AVal.nilptr.cells = [.nilptr] := rfl
 have c2 : [AVal.nilptr].all AVal.one = true := rfl
 have c3 : (AVal.agg cs).cells = cs := rfl
 simp -dsimp only [↓WPd,↓Zm,↓Zn,WPu,Za,Zb,Zc,Zd,Ze,Zf,Zg,Zh,Nat.reduceEqDiff,Nat.reduceLT,Zi,Zj,Zk,Zl,Nat.reduceBEq,WPm,c1,c2,c3,h1]
 have ho : (σ ++ [AObj.cells [.nilptr]] ++ [AObj.cells cs])[σ.length]? = some (.cells [.nilptr]) := by simp
 have g0 : Grows σ (σ ++ [AObj.cells [.nilptr]] ++ [AObj.cells cs]) := (Grows.app _ _).trans (Grows.app _ _)
 generalize σ ++ [AObj.cells [.nilptr]] ++ [AObj.cells cs] = σ1 at ho g0
 have e0 : ([AVal.nilptr] : List AVal)[0]? = some .nilptr := rfl
 have e1 : isNil .p .nilptr = some true := rfl
 simp -dsimp only [↓WPd,↓Zm,↓Zn,WPu,Za,Zb,Zc,Zd,Ze,Zf,Zg,Zh,Nat.reduceEqDiff,Nat.reduceLT,Zi,Zj,Zk,Zl,Nat.reduceBEq,WPm,load_cells ho,e0,e1]
 exact g0
end
theorem model_none_run (gs cs : List AVal) (g1 : gs.all AVal.one = true) (c1 : cs.all AVal.one = true) (lg : gs.length = 3) (lc : cs.length = 9) :
  Called CU.cfg 0 3 [.agg gs,.agg cs] [] fun v _ => v = .bool true := by
 refine called_of (fn := CU.a3) rfl (Nat.le_of_ble_eq_true rfl) ?_
 simp only [CU.a3, CU.o]
 have k1 : (AVal.agg gs).cells = gs := rfl
 have k2 : (AVal.agg cs).cells = cs := rfl
 simp -dsimp only [↓WPd,↓Zm,↓Zn,WPu,Za,Zb,Zc,Zd,Ze,Zf,Zg,Zh,Nat.reduceEqDiff,Nat.reduceLT,Zi,Zj,Zk,Zl,Nat.reduceBEq,WPm,k1,k2,g1,c1]
 have og : ([] ++ [AObj.cells gs] ++ [AObj.cells cs])[([] : Store).length]? = some (.cells gs) := rfl
 have oc : ([] ++ [AObj.cells gs] ++ [AObj.cells cs])[(([] : Store) ++ [AObj.cells gs]).length]? = some (.cells cs) := rfl
 generalize (([] : Store) ++ [AObj.cells gs]).length = ic at oc
 generalize ([] : Store).length = ig at og
 generalize [] ++ [AObj.cells gs] ++ [AObj.cells cs] = σ1 at og oc
 refine isoW_bool live09_ran ?_
 have b1 : ((1 : Int) == 1) = true := rfl
 have b0 : (((0 : Nat) : Int) == 0) = true := rfl
 have l0 : lenSV .nilslice = some 0 := rfl
 have n1 : isNil .p .nilptr = some true := rfl
 simp -dsimp only [↓WPd,↓Zm,↓Zn,WPu,Za,Zb,Zc,Zd,Ze,Zf,Zg,Zh,Nat.reduceEqDiff,Nat.reduceLT,Zi,Zj,Zk,Zl,Nat.reduceBEq,WPm,loadN_cells og lg]
 refine calledW_of (nsubmit_ok 0 σ1 gs g1) ?_
 rintro r σ2 ⟨rfl,g2⟩
 have oc2 := g2.get oc
 simp -dsimp only [↓WPd,↓Zm,↓Zn,WPu,Za,Zb,Zc,Zd,Ze,Zf,Zg,Zh,Nat.reduceEqDiff,Nat.reduceLT,Zi,Zj,Zk,Zl,Nat.reduceBEq,WPm,b1,loadN_cells oc2 lc]
 refine calledW_of (ntake_ok 0 σ2 cs c1) ?_
 rintro r σ3 ⟨rfl,g3⟩
 simp -dsimp only [↓WPd,↓Zm,↓Zn,WPu,Za,Zb,Zc,Zd,Ze,Zf,Zg,Zh,Nat.reduceEqDiff,Nat.reduceLT,Zi,Zj,Zk,Zl,Nat.reduceBEq,WPm,b1]
 refine calledW_of (ngoals_ok 0 σ3) ?_
 rintro r σ4 ⟨rfl,g4⟩
 simp -dsimp only [↓WPd,↓Zm,↓Zn,WPu,Za,Zb,Zc,Zd,Ze,Zf,Zg,Zh,Nat.reduceEqDiff,Nat.reduceLT,Zi,Zj,Zk,Zl,Nat.reduceBEq,WPm,b1,l0,b0]
 refine calledW_of (nheap_ok 0 σ4) ?_
 rintro r σ5 ⟨rfl,g5⟩
 simp -dsimp only [↓WPd,↓Zm,↓Zn,WPu,Za,Zb,Zc,Zd,Ze,Zf,Zg,Zh,Nat.reduceEqDiff,Nat.reduceLT,Zi,Zj,Zk,Zl,Nat.reduceBEq,WPm,b1,l0,b0,n1]
 refine calledW_of (nopen_ok 0 σ5) ?_
 rintro r σ6 ⟨rfl,g6⟩
 simp -dsimp only [↓WPd,↓Zm,↓Zn,WPu,Za,Zb,Zc,Zd,Ze,Zf,Zg,Zh,Nat.reduceEqDiff,Nat.reduceLT,Zi,Zj,Zk,Zl,Nat.reduceBEq,WPm,b1,l0,b0,n1]
 refine calledW_of (nfailed_ok 0 σ6) ?_
 rintro r σ7 ⟨rfl,g7⟩
 simp -dsimp only [↓WPd,↓Zm,↓Zn,WPu,Za,Zb,Zc,Zd,Ze,Zf,Zg,Zh,Nat.reduceEqDiff,Nat.reduceLT,Zi,Zj,Zk,Zl,Nat.reduceBEq,WPm,b1,l0,b0,n1,Bool.not_false]
 refine calledW_of (nfork9_ok 0 σ7) ?_
 rintro r σ8 ⟨rfl,g8⟩
 simp -dsimp only [↓WPd,↓Zm,↓Zn,WPu,Za,Zb,Zc,Zd,Ze,Zf,Zg,Zh,Nat.reduceEqDiff,Nat.reduceLT,Zi,Zj,Zk,Zl,Nat.reduceBEq,WPm,b1,l0,b0,n1,Bool.not_false]
end Go.Proofs.YteojknfmmbmckaaGreatDoor.Am
namespace Go.Proofs.YteojknfmmbmckaaGreatDoor.Am
open Go Go.RowKit Go.ChangeShapes Go.WideShapes Go.ChangeAt Go.Proofs.YteojknfmmbmckaaGreatDoor.Rows
theorem agg_read {P : Program} {W : World} {H : Type} {enc : TypeId × Value → H} {n : Nat} {t : TypeId} {v : Value} {d : DataW H} {ps : List MemPlace} (hr : rdT P n t = true) (ha : aggB P t = true) (h : DataW.Trod enc P W 0 (fun _ => true) true t v d ps) :
  ∃ cs,argV P n t d = .agg cs ∧ cs.all AVal.one = true ∧ cs.length = P.cellsOf t := by
 obtain ⟨fuel,hf⟩ := h
 obtain ⟨g,gt⟩ := read_dec (cf := id) n hr hf
 exact ⟨dec P n t d,by simp [argV,elv,ha],by rw [List.all_eq_true]; exact g.one,g.len⟩
end Go.Proofs.YteojknfmmbmckaaGreatDoor.Am
