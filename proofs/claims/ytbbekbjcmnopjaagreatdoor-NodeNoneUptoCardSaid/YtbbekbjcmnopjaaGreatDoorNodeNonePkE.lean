/-
  The abstract machine and the functions of the law, 5: texts put together.
-/
import Derived.Test.YtbbekbjcmnopjaaGreatDoorNodeNonePkC
import Derived.Test.YtbbekbjcmnopjaaGreatDoorNodeNonePkD
import Derived.Test.YtbbekbjcmnopjaaGreatDoorProg
import Derived.Test.YtbbekbjcmnopjaaGreatDoorNodeNonePkB
import Derived.ChangeArms
import Derived.OpenShut
import Derived.LaidMore
import Derived.Shelf.SlMaps.Clone
set_option linter.unusedVariables false
set_option linter.unusedSimpArgs false
set_option linter.unusedSectionVars false
set_option maxRecDepth 100000
namespace Go.Proofs.YtbbekbjcmnopjaaGreatDoor.Am
open Go
def sides (t : List Cel) : List Cel × List Cel := if isEqT t then ((args t).getD 0 [],(args t).getD 1 []) else ([],[])
theorem EqR.own {σ σ' : Store} {t : List Cel} {a b : AVal} (h : EqR σ σ' t a b) : Grows σ σ' ∧ Own σ' 5 a (CC (sides t).1) ∧ Own σ' 5 b (CC (sides t).2) ∧ Fresh σ.length a ∧ Fresh σ.length b ∧ NoLit a ∧ NoLit b ∧ ∀ j,a.sid = some j → b.sid ≠ some j := by
 obtain ⟨g,h⟩ := h
 refine ⟨g,?_⟩
 unfold sides
 cases he : isEqT t with
 | false =>
  rw [he] at h
  obtain ⟨rfl,rfl⟩ := h
  exact ⟨Own.nil _ _,Own.nil _ _,Fresh.nil _,Fresh.nil _,trivial,trivial,fun j h => by cases h⟩
 | true =>
  rw [he] at h
  obtain ⟨x,y,h1,h2,h3,h4⟩ := h
  rw [h1]
  exact ⟨h2,h3,h4⟩
section
variable (d : Nat) (σ : Store)
end
def pairs : List (List Cel) → List (List Cel) → Option (List (List Cel))
 | p :: ps,q :: qs => if makeE [61] [p,q] = 0 then (pairs ps qs).map (makeT [61] [p,q] :: ·) else none
 | _,_ => some []
structure StepR where
 k : Nat
 v : Nm
 t : List Cel
 ps : List (List Cel)
theorem ORows.lo {σ : Store} {lo lo' sz : Nat} {l : AVal} {es : List AVal} {ps : List (List AVal)} (h : ORows σ lo sz l es ps) (hl : lo' ≤ lo) : ORows σ lo' sz l es ps :=
 ⟨h.row,h.len,h.one,fun i e he => (h.frs i e he).le hl,h.frl.le hl,h.apart,h.off,h.lit,h.litl⟩
section
variable (d : Nat) (σ : Store)
end
structure BdArg (v : AVal) (bs : Hp) : Prop where
 row : ∃ es,(∀ σ : Store,SlOf σ 3 v es) ∧ Two (fun e p => ∃ u,e = bdV p.1 u ∧ Told u p.2) es bs
 small : ∀ p ∈ bs,Small p.2
 len : bs.length < 2 ^ 26
def bindsH (H : Hp) (bs : Hp) : Hp := bs.foldl (fun H p => bindH H p.1 p.2) H
def bindsR (R : Hp) (bs : Hp) : Hp := bs.foldl (fun R p => bindR R p.1 p.2) R
theorem Same.binds : ∀ (bs : Hp) {H R : Hp},Same H R → Same (bindsH H bs) (bindsR R bs)
 | [],_,_,h => h
 | p :: bs,_,_,h => Same.binds bs (h.bind p.1 p.2)
theorem BdArg.at {v : AVal} {bs : Hp} (h : BdArg v bs) {k : Nat} (hk : k < bs.length) (σ : Store) : ∃ q0 q2 u,iaddrV 3 v (.int .i64 k) = some (addrOf 3 v k) ∧ faddrV 0 (addrOf 3 v k) = some q0 ∧ loadV σ 2 true q0 = some (nmV bs[k].1) ∧ faddrV 2 (addrOf 3 v k) = some q2 ∧ loadV σ 1 false q2 = some u ∧ Told u bs[k].2 := by
 obtain ⟨es,h1,h2⟩ := h.row
 have hke : k < es.length := by rw [h2.len]; exact hk
 obtain ⟨e,he1,u,he2,he3⟩ := h2.get hk
 have hee : es[k] = e := by rw [List.getElem?_eq_getElem hke] at he1; exact Option.some.inj he1
 have hb := ((h1 σ).addr hke .i64).2
 rw [hee,he2] at hb
 have hb' : behind σ (addrOf 3 v k) = some (bdC (bs[k]).1 u,0) := hb
 obtain ⟨q0,p0,b0⟩ := faddr_at hb' 0
 obtain ⟨q2,p2,b2⟩ := faddr_at hb' 2
 exact ⟨q0,q2,u,(h1 σ).iaddr hke .i64,p0,loadN_at b0 (by simp [bdC]),p2,load_at b2,he3⟩
section
variable (d : Nat) (σ : Store)
end
structure Turned (r s : StepR) : Prop where
 k : r.k = s.k
 v : r.v = s.v
 t : r.t = s.t
 len : r.ps.length = s.ps.length
 parts : ∀ (i : Nat) (h : i < r.ps.length) (h' : i < s.ps.length),∃ p q,r.ps[i] = makeT [61] [p,q] ∧ s.ps[i] = makeT [61] [q,p] ∧ makeE [61] [p,q] = 0 ∧ makeE [61] [q,p] = 0
theorem Turned.plain {r : StepR} (h : r.ps = []) : Turned r r := ⟨rfl,rfl,rfl,rfl,fun i hi => by rw [h] at hi; simp at hi⟩
end Go.Proofs.YtbbekbjcmnopjaaGreatDoor.Am
namespace Go.Proofs.YtbbekbjcmnopjaaGreatDoor.Am
open Go Go.RowKit Go.ChangeShapes Go.WideShapes Go.ChangeAt Go.Proofs.YtbbekbjcmnopjaaGreatDoor.Rows
section
variable {H : Type}
end
end Go.Proofs.YtbbekbjcmnopjaaGreatDoor.Am
namespace Go.Proofs.YtbbekbjcmnopjaaGreatDoor.Am
open Go Go.RowKit
section
variable {P : Program} {cfg : Cfg} {H : Type} {enc : TypeId × Value → H} {W : World}
theorem texts_read {m base : Nat} {sp : Nat → Bool} {held : Bool} {e : TypeId} (he : P.underlying e = some .string) : ∀ (xs : List (DataW H × List MemPlace)) (cs : List Value),cs.length = xs.length →
  (∀ i,i < xs.length → DataW.trod enc P W base sp held m e ((cs.drop i).take 1) = xs[i]?) → ∃ bs : List ByteArray,cs = bs.map Value.string ∧ xs.map (·.1) = bs.map fun b => .lit (.string b.data.toList)
 | [],cs,hl,_ => ⟨[],by simpa using List.eq_nil_of_length_eq_zero hl,rfl⟩
 | x :: xs,[],hl,_ => by simp at hl
 | x :: xs,c :: cs,hl,h => by
  have h0 := h 0 (by simp)
  simp only [List.drop_zero,List.take_succ_cons,List.take_zero,List.getElem?_cons_zero] at h0
  obtain ⟨s,e1,e2,_⟩ := DataW.trod_string he h0
  obtain ⟨bs,r1,r2⟩ := texts_read he xs cs (by simpa using hl) (fun i hi => by simpa using h (i + 1) (by simpa using hi))
  injection e1 with e1
  exact ⟨s :: bs,by rw [e1,r1]; rfl,by rw [e2,List.map_cons,r2]; rfl⟩
theorem texts_inj : ∀ {ss : List (List UInt8)} {bs : List ByteArray},(ss.map fun s => (DataW.lit (.string s) : DataW H)) = (bs.map fun b => .lit (.string b.data.toList)) → ss = bs.map fun b => b.data.toList
 | [],[],_ => rfl
 | [],_ :: _,h => by simp at h
 | _ :: _,[],h => by simp at h
 | s :: ss,b :: bs,h => by
  simp only [List.map_cons,List.cons.injEq] at h ⊢
  obtain ⟨h1,h2⟩ := h
  injection h1 with h1
  injection h1 with h1
  exact ⟨h1,texts_inj h2⟩
theorem gl_of_laid {name : String} {g : Nat} {t e : TypeId} {n : Nat} {ss : List (List UInt8)} (hg : P.globalNamed name = some g) (ht : (P.globals[g]?).map (·.type) = some t) (hu : P.underlying t = some (.array n e)) (he : P.underlying e = some .string)
  (hce : P.cellsOf e = 1) (hct : P.cellsOf t = n) (hglob : ∀ i cs,cfg.glob i = some cs → i = g ∧ cs = ss.map AVal.str) (h : laidMet P [(name,.agg (ss.map fun s => .lit (.string s)))] W) : Gl cfg startE (startK W) := by
 intro i cs hi
 obtain ⟨rfl,rfl⟩ := hglob i cs hi
 obtain ⟨ps,⟨g',t',cs',fuel,p,q,e1,e2,e3,e4,_,_⟩,_,_⟩ := h
 obtain rfl := Option.some.inj (hg.symm.trans e1)
 obtain rfl := Option.some.inj (ht.symm.trans e2)
 have hb : ∃ ty f,W.heap[i]? = some (.cells cs' ty f) := by
  simp only [World.var?,hg,Option.bind_some] at e3
  split at e3
  ·rename_i c ty f hc
   injection e3 with e3; subst e3
   exact ⟨ty,f,hc⟩
  ·cases e3
 obtain ⟨ty,f,hb⟩ := hb
 obtain ⟨xs,m,rfl,hx,hl,hxl,hel⟩ := DataW.trod_array hu e4
 obtain ⟨bs,r1,r2⟩ := texts_read he xs cs'.toList (by rw [hl,hct,hxl]) (fun i hi => by
  have := hel i (by omega)
  rw [hce,Nat.mul_one] at this
  exact this)
 injection hx with hx _
 injection hx with hx
 have hss := texts_inj (hx.trans r2)
 have hrel : ∀ bs : List ByteArray,VRelL cfg.conc W.heap ((startK W).safe startE) noIds ((bs.map fun b => b.data.toList).map AVal.str) (bs.map Value.string) := by
  intro bs
  induction bs with
  | nil => exact .nil _
  | cons b bs ih => exact .cons _ _ _ _ _ (.str _ b) ih
 have := VRel.fptr (cf := cfg.conc) (h := W.heap) (S := (startK W).safe startE) noIds 0 (ss.map AVal.str) 0 i 0 cs'.toList ⟨(Array.getElem?_eq_some_iff.1 hb).1,start_own W i,fun k _ hk => by simp [startE] at hk⟩
  (by rw [hss,r1]; exact hrel bs) (fun c hc => by obtain ⟨s,_,rfl⟩ := List.mem_map.1 hc; rfl) (fun c hc => by obtain ⟨s,_,rfl⟩ := List.mem_map.1 hc; exact Nat.le_refl _)
  (fun j v hj => by simp only [cellAt,hb,Nat.zero_add]; simpa using hj)
 exact this
end
end Go.Proofs.YtbbekbjcmnopjaaGreatDoor.Am
namespace Go.Proofs.YtbbekbjcmnopjaaGreatDoor.Am
open Go Go.Proofs Go.Shelf
def cloneNm_ren : Go.Shelf.Ren := ⟨fun | 5 => 92 | 7 => 156 | n => n,fun | 23 => 155 | 25 => 74 | 3 => 25 | 4 => 4 | 20 => 20 | n => n,fun | n => n⟩
theorem cloneNm : Go.Proofs.SlLaysW.n5 Tryz.prog cloneNm_ren := {
 mixed := by kernel_rfl
 f5 := ⟨Tryz.f92.name,by decide,Tryz.func92.trans (congrArg some (by kernel_rfl))⟩
 f7 := Tryz.func156.trans (congrArg some (by kernel_rfl))
 t4 := Tryz.underlying4
 a4 := Tryz.isAgg4
 z4 := Tryz.sizeOf4
 v4 := Tryz.zeroValue4
 t20 := Tryz.underlying20
 a20 := Tryz.isAgg20
 z20 := Tryz.sizeOf20
 v20 := Tryz.zeroValue20
 t23 := Tryz.underlying155
 a23 := Tryz.isAgg155
 z23 := Tryz.sizeOf155
 v23 := Tryz.zeroValue155 }
def cloneCt_ren : Go.Shelf.Ren := ⟨fun | 5 => 154 | 7 => 156 | n => n,fun | 23 => 163 | 25 => 224 | 3 => 3 | 4 => 4 | 20 => 20 | n => n,fun | n => n⟩
theorem cloneCt : Go.Proofs.SlLaysW.n5 Tryz.prog cloneCt_ren := {
 mixed := by kernel_rfl
 f5 := ⟨Tryz.f154.name,by decide,Tryz.func154.trans (congrArg some (by kernel_rfl))⟩
 f7 := Tryz.func156.trans (congrArg some (by kernel_rfl))
 t4 := Tryz.underlying4
 a4 := Tryz.isAgg4
 z4 := Tryz.sizeOf4
 v4 := Tryz.zeroValue4
 t20 := Tryz.underlying20
 a20 := Tryz.isAgg20
 z20 := Tryz.sizeOf20
 v20 := Tryz.zeroValue20
 t23 := Tryz.underlying163
 a23 := Tryz.isAgg163
 z23 := Tryz.sizeOf163
 v23 := Tryz.zeroValue163 }
end Go.Proofs.YtbbekbjcmnopjaaGreatDoor.Am
namespace Go.Proofs.YtbbekbjcmnopjaaGreatDoor.Am
open Go Go.Proofs Go.RowKit Go.Maps Go.Shelf
theorem natMC92_ok {cfg : Cfg} (hc : ∀ f,cfg.conc f = f) : NatOk Tryz.prog cfg 92 natMC := by
 intro args σ v σ' h
 rw [hc]
 refine ⟨⟨_,Tryz.func92,by decide,rfl⟩,?_⟩
 obtain ⟨m,ks,vs,rfl,h1,rfl,rfl⟩ := natMC_cases h
 intro E κ cargs hσ hR ha r w hw
 subst hσ
 cases ha with
 | cons _ _ _ _ _ a1 a2 =>
 cases a2
 obtain ⟨b,es,clock,rfl,hb,hk,hv,hB⟩ := kvOf_ok hR a1 h1
 obtain ⟨hwh,hwo,hwu⟩ := hw
 refine Calls.mono (AnyW.maps_Clone cloneNm b es clock w (by rw [hwh]; exact hb)) ?_
 rintro e w' ⟨rfl,rfl⟩
 simp only
 refine ⟨κ.new (.map es clock) (.map ks vs),⟨by simp [World.alloc,K.new,hwh],hwo,hwu⟩,by simp [K.new],K.new_le hR _ _,
  K.new_R hR _ _ ⟨es,clock,by simp [K.new],K.VL.le hR.lb (K.new_le hR _ _) hk,K.VL.le hR.lb (K.new_le hR _ _) hv,hB⟩,?_⟩
 rw [hwh]
 exact .map _ _ _ ⟨⟨⟨ks,vs,by simp [K.new]⟩,hR.fresh⟩,by simp [K.new]⟩
theorem natMC154_ok {cfg : Cfg} (hc : ∀ f,cfg.conc f = f) : NatOk Tryz.prog cfg 154 natMC := by
 intro args σ v σ' h
 rw [hc]
 refine ⟨⟨_,Tryz.func154,by decide,rfl⟩,?_⟩
 obtain ⟨m,ks,vs,rfl,h1,rfl,rfl⟩ := natMC_cases h
 intro E κ cargs hσ hR ha r w hw
 subst hσ
 cases ha with
 | cons _ _ _ _ _ a1 a2 =>
 cases a2
 obtain ⟨b,es,clock,rfl,hb,hk,hv,hB⟩ := kvOf_ok hR a1 h1
 obtain ⟨hwh,hwo,hwu⟩ := hw
 refine Calls.mono (AnyW.maps_Clone cloneCt b es clock w (by rw [hwh]; exact hb)) ?_
 rintro e w' ⟨rfl,rfl⟩
 simp only
 refine ⟨κ.new (.map es clock) (.map ks vs),⟨by simp [World.alloc,K.new,hwh],hwo,hwu⟩,by simp [K.new],K.new_le hR _ _,
  K.new_R hR _ _ ⟨es,clock,by simp [K.new],K.VL.le hR.lb (K.new_le hR _ _) hk,K.VL.le hR.lb (K.new_le hR _ _) hv,hB⟩,?_⟩
 rw [hwh]
 exact .map _ _ _ ⟨⟨⟨ks,vs,by simp [K.new]⟩,hR.fresh⟩,by simp [K.new]⟩
end Go.Proofs.YtbbekbjcmnopjaaGreatDoor.Am
namespace Go.Proofs.YtbbekbjcmnopjaaGreatDoor.Am.CU
open Go Go.Proofs.YtbbekbjcmnopjaaGreatDoor.Am
set_option maxHeartbeats 4000000
theorem ok3 : FnOk cfg Tryz.prog 3 a3 := ⟨⟨Tryz.f3,_,Tryz.func3,by decide,rfl,rfl,by kernel_rfl,by kernel_rfl⟩⟩
theorem ok4 : FnOk cfg Tryz.prog 4 a4 := ⟨⟨Tryz.f4,_,Tryz.func4,by decide,rfl,rfl,by kernel_rfl,by kernel_rfl⟩⟩
theorem ok5 : FnOk cfg Tryz.prog 5 a5 := ⟨⟨Tryz.f5,_,Tryz.func5,by decide,rfl,rfl,by kernel_rfl,by kernel_rfl⟩⟩
theorem ok6 : FnOk cfg Tryz.prog 6 a6 := ⟨⟨Tryz.f6,_,Tryz.func6,by decide,rfl,rfl,by kernel_rfl,by kernel_rfl⟩⟩
theorem ok7 : FnOk cfg Tryz.prog 7 a7 := ⟨⟨Tryz.f7,_,Tryz.func7,by decide,rfl,rfl,by kernel_rfl,by kernel_rfl⟩⟩
theorem ok8 : FnOk cfg Tryz.prog 8 a8 := ⟨⟨Tryz.f8,_,Tryz.func8,by decide,rfl,rfl,by kernel_rfl,by kernel_rfl⟩⟩
theorem ok9 : FnOk cfg Tryz.prog 9 a9 := ⟨⟨Tryz.f9,_,Tryz.func9,by decide,rfl,rfl,by kernel_rfl,by kernel_rfl⟩⟩
theorem ok10 : FnOk cfg Tryz.prog 10 a10 := ⟨⟨Tryz.f10,_,Tryz.func10,by decide,rfl,rfl,by kernel_rfl,by kernel_rfl⟩⟩
theorem ok11 : FnOk cfg Tryz.prog 11 a11 := ⟨⟨Tryz.f11,_,Tryz.func11,by decide,rfl,rfl,by kernel_rfl,by kernel_rfl⟩⟩
theorem ok12 : FnOk cfg Tryz.prog 12 a12 := ⟨⟨Tryz.f12,_,Tryz.func12,by decide,rfl,rfl,by kernel_rfl,by kernel_rfl⟩⟩
theorem ok13 : FnOk cfg Tryz.prog 13 a13 := ⟨⟨Tryz.f13,_,Tryz.func13,by decide,rfl,rfl,by kernel_rfl,by kernel_rfl⟩⟩
theorem ok14 : FnOk cfg Tryz.prog 14 a14 := ⟨⟨Tryz.f14,_,Tryz.func14,by decide,rfl,rfl,by kernel_rfl,by kernel_rfl⟩⟩
theorem ok15 : FnOk cfg Tryz.prog 15 a15 := ⟨⟨Tryz.f15,_,Tryz.func15,by decide,rfl,rfl,by kernel_rfl,by kernel_rfl⟩⟩
theorem ok16 : FnOk cfg Tryz.prog 16 a16 := ⟨⟨Tryz.f16,_,Tryz.func16,by decide,rfl,rfl,by kernel_rfl,by kernel_rfl⟩⟩
theorem ok17 : FnOk cfg Tryz.prog 17 a17 := ⟨⟨Tryz.f17,_,Tryz.func17,by decide,rfl,rfl,by kernel_rfl,by kernel_rfl⟩⟩
theorem ok19 : FnOk cfg Tryz.prog 19 a19 := ⟨⟨Tryz.f19,_,Tryz.func19,by decide,rfl,rfl,by kernel_rfl,by kernel_rfl⟩⟩
theorem ok20 : FnOk cfg Tryz.prog 20 a20 := ⟨⟨Tryz.f20,_,Tryz.func20,by decide,rfl,rfl,by kernel_rfl,by kernel_rfl⟩⟩
theorem ok21 : FnOk cfg Tryz.prog 21 a21 := ⟨⟨Tryz.f21,_,Tryz.func21,by decide,rfl,rfl,by kernel_rfl,by kernel_rfl⟩⟩
theorem ok23 : FnOk cfg Tryz.prog 23 a23 := ⟨⟨Tryz.f23,_,Tryz.func23,by decide,rfl,rfl,by kernel_rfl,by kernel_rfl⟩⟩
theorem ok26 : FnOk cfg Tryz.prog 26 a26 := ⟨⟨Tryz.f26,_,Tryz.func26,by decide,rfl,rfl,by kernel_rfl,by kernel_rfl⟩⟩
theorem ok27 : FnOk cfg Tryz.prog 27 a27 := ⟨⟨Tryz.f27,_,Tryz.func27,by decide,rfl,rfl,by kernel_rfl,by kernel_rfl⟩⟩
theorem ok28 : FnOk cfg Tryz.prog 28 a28 := ⟨⟨Tryz.f28,_,Tryz.func28,by decide,rfl,rfl,by kernel_rfl,by kernel_rfl⟩⟩
theorem ok31 : FnOk cfg Tryz.prog 31 a31 := ⟨⟨Tryz.f31,_,Tryz.func31,by decide,rfl,rfl,by kernel_rfl,by kernel_rfl⟩⟩
theorem ok35 : FnOk cfg Tryz.prog 35 a35 := ⟨⟨Tryz.f35,_,Tryz.func35,by decide,rfl,rfl,by kernel_rfl,by kernel_rfl⟩⟩
theorem ok36 : FnOk cfg Tryz.prog 36 a36 := ⟨⟨Tryz.f36,_,Tryz.func36,by decide,rfl,rfl,by kernel_rfl,by kernel_rfl⟩⟩
theorem ok37 : FnOk cfg Tryz.prog 37 a37 := ⟨⟨Tryz.f37,_,Tryz.func37,by decide,rfl,rfl,by kernel_rfl,by kernel_rfl⟩⟩
theorem ok38 : FnOk cfg Tryz.prog 38 a38 := ⟨⟨Tryz.f38,_,Tryz.func38,by decide,rfl,rfl,by kernel_rfl,by kernel_rfl⟩⟩
theorem ok39 : FnOk cfg Tryz.prog 39 a39 := ⟨⟨Tryz.f39,_,Tryz.func39,by decide,rfl,rfl,by kernel_rfl,by kernel_rfl⟩⟩
theorem ok40 : FnOk cfg Tryz.prog 40 a40 := ⟨⟨Tryz.f40,_,Tryz.func40,by decide,rfl,rfl,by kernel_rfl,by kernel_rfl⟩⟩
theorem ok41 : FnOk cfg Tryz.prog 41 a41 := ⟨⟨Tryz.f41,_,Tryz.func41,by decide,rfl,rfl,by kernel_rfl,by kernel_rfl⟩⟩
theorem ok42 : FnOk cfg Tryz.prog 42 a42 := ⟨⟨Tryz.f42,_,Tryz.func42,by decide,rfl,rfl,by kernel_rfl,by kernel_rfl⟩⟩
theorem ok44 : FnOk cfg Tryz.prog 44 a44 := ⟨⟨Tryz.f44,_,Tryz.func44,by decide,rfl,rfl,by kernel_rfl,by kernel_rfl⟩⟩
theorem ok45 : FnOk cfg Tryz.prog 45 a45 := ⟨⟨Tryz.f45,_,Tryz.func45,by decide,rfl,rfl,by kernel_rfl,by kernel_rfl⟩⟩
theorem ok46 : FnOk cfg Tryz.prog 46 a46 := ⟨⟨Tryz.f46,_,Tryz.func46,by decide,rfl,rfl,by kernel_rfl,by kernel_rfl⟩⟩
theorem ok48 : FnOk cfg Tryz.prog 48 a48 := ⟨⟨Tryz.f48,_,Tryz.func48,by decide,rfl,rfl,by kernel_rfl,by kernel_rfl⟩⟩
theorem ok49 : FnOk cfg Tryz.prog 49 a49 := ⟨⟨Tryz.f49,_,Tryz.func49,by decide,rfl,rfl,by kernel_rfl,by kernel_rfl⟩⟩
theorem ok50 : FnOk cfg Tryz.prog 50 a50 := ⟨⟨Tryz.f50,_,Tryz.func50,by decide,rfl,rfl,by kernel_rfl,by kernel_rfl⟩⟩
theorem ok51 : FnOk cfg Tryz.prog 51 a51 := ⟨⟨Tryz.f51,_,Tryz.func51,by decide,rfl,rfl,by kernel_rfl,by kernel_rfl⟩⟩
theorem ok52 : FnOk cfg Tryz.prog 52 a52 := ⟨⟨Tryz.f52,_,Tryz.func52,by decide,rfl,rfl,by kernel_rfl,by kernel_rfl⟩⟩
theorem ok54 : FnOk cfg Tryz.prog 54 a54 := ⟨⟨Tryz.f54,_,Tryz.func54,by decide,rfl,rfl,by kernel_rfl,by kernel_rfl⟩⟩
theorem ok56 : FnOk cfg Tryz.prog 56 a56 := ⟨⟨Tryz.f56,_,Tryz.func56,by decide,rfl,rfl,by kernel_rfl,by kernel_rfl⟩⟩
theorem ok57 : FnOk cfg Tryz.prog 57 a57 := ⟨⟨Tryz.f57,_,Tryz.func57,by decide,rfl,rfl,by kernel_rfl,by kernel_rfl⟩⟩
theorem ok66 : FnOk cfg Tryz.prog 66 a66 := ⟨⟨Tryz.f66,_,Tryz.func66,by decide,rfl,rfl,by kernel_rfl,by kernel_rfl⟩⟩
theorem ok70 : FnOk cfg Tryz.prog 70 a70 := ⟨⟨Tryz.f70,_,Tryz.func70,by decide,rfl,rfl,by kernel_rfl,by kernel_rfl⟩⟩
theorem ok71 : FnOk cfg Tryz.prog 71 a71 := ⟨⟨Tryz.f71,_,Tryz.func71,by decide,rfl,rfl,by kernel_rfl,by kernel_rfl⟩⟩
theorem ok73 : FnOk cfg Tryz.prog 73 a73 := ⟨⟨Tryz.f73,_,Tryz.func73,by decide,rfl,rfl,by kernel_rfl,by kernel_rfl⟩⟩
theorem ok74 : FnOk cfg Tryz.prog 74 a74 := ⟨⟨Tryz.f74,_,Tryz.func74,by decide,rfl,rfl,by kernel_rfl,by kernel_rfl⟩⟩
theorem ok75 : FnOk cfg Tryz.prog 75 a75 := ⟨⟨Tryz.f75,_,Tryz.func75,by decide,rfl,rfl,by kernel_rfl,by kernel_rfl⟩⟩
theorem ok85 : FnOk cfg Tryz.prog 85 a85 := ⟨⟨Tryz.f85,_,Tryz.func85,by decide,rfl,rfl,by kernel_rfl,by kernel_rfl⟩⟩
theorem ok86 : FnOk cfg Tryz.prog 86 a86 := ⟨⟨Tryz.f86,_,Tryz.func86,by decide,rfl,rfl,by kernel_rfl,by kernel_rfl⟩⟩
theorem ok87 : FnOk cfg Tryz.prog 87 a87 := ⟨⟨Tryz.f87,_,Tryz.func87,by decide,rfl,rfl,by kernel_rfl,by kernel_rfl⟩⟩
theorem ok88 : FnOk cfg Tryz.prog 88 a88 := ⟨⟨Tryz.f88,_,Tryz.func88,by decide,rfl,rfl,by kernel_rfl,by kernel_rfl⟩⟩
theorem ok89 : FnOk cfg Tryz.prog 89 a89 := ⟨⟨Tryz.f89,_,Tryz.func89,by decide,rfl,rfl,by kernel_rfl,by kernel_rfl⟩⟩
theorem ok90 : FnOk cfg Tryz.prog 90 a90 := ⟨⟨Tryz.f90,_,Tryz.func90,by decide,rfl,rfl,by kernel_rfl,by kernel_rfl⟩⟩
theorem ok91 : FnOk cfg Tryz.prog 91 a91 := ⟨⟨Tryz.f91,_,Tryz.func91,by decide,rfl,rfl,by kernel_rfl,by kernel_rfl⟩⟩
theorem ok93 : FnOk cfg Tryz.prog 93 a93 := ⟨⟨Tryz.f93,_,Tryz.func93,by decide,rfl,rfl,by kernel_rfl,by kernel_rfl⟩⟩
theorem ok94 : FnOk cfg Tryz.prog 94 a94 := ⟨⟨Tryz.f94,_,Tryz.func94,by decide,rfl,rfl,by kernel_rfl,by kernel_rfl⟩⟩
theorem ok95 : FnOk cfg Tryz.prog 95 a95 := ⟨⟨Tryz.f95,_,Tryz.func95,by decide,rfl,rfl,by kernel_rfl,by kernel_rfl⟩⟩
theorem ok96 : FnOk cfg Tryz.prog 96 a96 := ⟨⟨Tryz.f96,_,Tryz.func96,by decide,rfl,rfl,by kernel_rfl,by kernel_rfl⟩⟩
theorem ok97 : FnOk cfg Tryz.prog 97 a97 := ⟨⟨Tryz.f97,_,Tryz.func97,by decide,rfl,rfl,by kernel_rfl,by kernel_rfl⟩⟩
theorem ok98 : FnOk cfg Tryz.prog 98 a98 := ⟨⟨Tryz.f98,_,Tryz.func98,by decide,rfl,rfl,by kernel_rfl,by kernel_rfl⟩⟩
theorem ok99 : FnOk cfg Tryz.prog 99 a99 := ⟨⟨Tryz.f99,_,Tryz.func99,by decide,rfl,rfl,by kernel_rfl,by kernel_rfl⟩⟩
theorem ok100 : FnOk cfg Tryz.prog 100 a100 := ⟨⟨Tryz.f100,_,Tryz.func100,by decide,rfl,rfl,by kernel_rfl,by kernel_rfl⟩⟩
theorem ok101 : FnOk cfg Tryz.prog 101 a101 := ⟨⟨Tryz.f101,_,Tryz.func101,by decide,rfl,rfl,by kernel_rfl,by kernel_rfl⟩⟩
theorem ok102 : FnOk cfg Tryz.prog 102 a102 := ⟨⟨Tryz.f102,_,Tryz.func102,by decide,rfl,rfl,by kernel_rfl,by kernel_rfl⟩⟩
theorem ok103 : FnOk cfg Tryz.prog 103 a103 := ⟨⟨Tryz.f103,_,Tryz.func103,by decide,rfl,rfl,by kernel_rfl,by kernel_rfl⟩⟩
theorem ok104 : FnOk cfg Tryz.prog 104 a104 := ⟨⟨Tryz.f104,_,Tryz.func104,by decide,rfl,rfl,by kernel_rfl,by kernel_rfl⟩⟩
theorem ok126 : FnOk cfg Tryz.prog 126 a126 := ⟨⟨Tryz.f126,_,Tryz.func126,by decide,rfl,rfl,by kernel_rfl,by kernel_rfl⟩⟩
theorem ok127 : FnOk cfg Tryz.prog 127 a127 := ⟨⟨Tryz.f127,_,Tryz.func127,by decide,rfl,rfl,by kernel_rfl,by kernel_rfl⟩⟩
theorem ok137 : FnOk cfg Tryz.prog 137 a137 := ⟨⟨Tryz.f137,_,Tryz.func137,by decide,rfl,rfl,by kernel_rfl,by kernel_rfl⟩⟩
theorem ok140 : FnOk cfg Tryz.prog 140 a140 := ⟨⟨Tryz.f140,_,Tryz.func140,by decide,rfl,rfl,by kernel_rfl,by kernel_rfl⟩⟩
theorem ok150 : FnOk cfg Tryz.prog 150 a150 := ⟨⟨Tryz.f150,_,Tryz.func150,by decide,rfl,rfl,by kernel_rfl,by kernel_rfl⟩⟩
theorem ok151 : FnOk cfg Tryz.prog 151 a151 := ⟨⟨Tryz.f151,_,Tryz.func151,by decide,rfl,rfl,by kernel_rfl,by kernel_rfl⟩⟩
theorem ok153 : FnOk cfg Tryz.prog 153 a153 := ⟨⟨Tryz.f153,_,Tryz.func153,by decide,rfl,rfl,by kernel_rfl,by kernel_rfl⟩⟩
theorem ok155 : FnOk cfg Tryz.prog 155 a155 := ⟨⟨Tryz.f155,_,Tryz.func155,by decide,rfl,rfl,by kernel_rfl,by kernel_rfl⟩⟩
theorem ok157 : FnOk cfg Tryz.prog 157 a157 := ⟨⟨Tryz.f157,_,Tryz.func157,by decide,rfl,rfl,by kernel_rfl,by kernel_rfl⟩⟩
theorem ok159 : FnOk cfg Tryz.prog 159 a159 := ⟨⟨Tryz.f159,_,Tryz.func159,by decide,rfl,rfl,by kernel_rfl,by kernel_rfl⟩⟩
theorem ok160 : FnOk cfg Tryz.prog 160 a160 := ⟨⟨Tryz.f160,_,Tryz.func160,by decide,rfl,rfl,by kernel_rfl,by kernel_rfl⟩⟩
theorem ok171 : FnOk cfg Tryz.prog 171 a171 := ⟨⟨Tryz.f171,_,Tryz.func171,by decide,rfl,rfl,by kernel_rfl,by kernel_rfl⟩⟩
theorem ok172 : FnOk cfg Tryz.prog 172 a172 := ⟨⟨Tryz.f172,_,Tryz.func172,by decide,rfl,rfl,by kernel_rfl,by kernel_rfl⟩⟩
theorem ok174 : FnOk cfg Tryz.prog 174 a174 := ⟨⟨Tryz.f174,_,Tryz.func174,by decide,rfl,rfl,by kernel_rfl,by kernel_rfl⟩⟩
theorem ok181 : FnOk cfg Tryz.prog 181 a181 := ⟨⟨Tryz.f181,_,Tryz.func181,by decide,rfl,rfl,by kernel_rfl,by kernel_rfl⟩⟩
theorem ok197 : FnOk cfg Tryz.prog 197 a197 := ⟨⟨Tryz.f197,_,Tryz.func197,by decide,rfl,rfl,by kernel_rfl,by kernel_rfl⟩⟩
theorem ok201 : FnOk cfg Tryz.prog 201 a201 := ⟨⟨Tryz.f201,_,Tryz.func201,by decide,rfl,rfl,by kernel_rfl,by kernel_rfl⟩⟩
theorem ok208 : FnOk cfg Tryz.prog 208 a208 := ⟨⟨Tryz.f208,_,Tryz.func208,by decide,rfl,rfl,by kernel_rfl,by kernel_rfl⟩⟩
theorem ok209 : FnOk cfg Tryz.prog 209 a209 := ⟨⟨Tryz.f209,_,Tryz.func209,by decide,rfl,rfl,by kernel_rfl,by kernel_rfl⟩⟩
theorem ok219 : FnOk cfg Tryz.prog 219 a219 := ⟨⟨Tryz.f219,_,Tryz.func219,by decide,rfl,rfl,by kernel_rfl,by kernel_rfl⟩⟩
theorem ok221 : FnOk cfg Tryz.prog 221 a221 := ⟨⟨Tryz.f221,_,Tryz.func221,by decide,rfl,rfl,by kernel_rfl,by kernel_rfl⟩⟩
theorem ok222 : FnOk cfg Tryz.prog 222 a222 := ⟨⟨Tryz.f222,_,Tryz.func222,by decide,rfl,rfl,by kernel_rfl,by kernel_rfl⟩⟩
theorem ok235 : FnOk cfg Tryz.prog 235 a235 := ⟨⟨Tryz.f235,_,Tryz.func235,by decide,rfl,rfl,by kernel_rfl,by kernel_rfl⟩⟩
theorem ok242 : FnOk cfg Tryz.prog 242 a242 := ⟨⟨Tryz.f242,_,Tryz.func242,by decide,rfl,rfl,by kernel_rfl,by kernel_rfl⟩⟩
theorem ok243 : FnOk cfg Tryz.prog 243 a243 := ⟨⟨Tryz.f243,_,Tryz.func243,by decide,rfl,rfl,by kernel_rfl,by kernel_rfl⟩⟩
theorem ok244 : FnOk cfg Tryz.prog 244 a244 := ⟨⟨Tryz.f244,_,Tryz.func244,by decide,rfl,rfl,by kernel_rfl,by kernel_rfl⟩⟩
theorem ok258 : FnOk cfg Tryz.prog 258 a258 := ⟨⟨Tryz.f258,_,Tryz.func258,by decide,rfl,rfl,by kernel_rfl,by kernel_rfl⟩⟩
theorem ok266 : FnOk cfg Tryz.prog 266 a266 := ⟨⟨Tryz.f266,_,Tryz.func266,by decide,rfl,rfl,by kernel_rfl,by kernel_rfl⟩⟩
theorem ok275 : FnOk cfg Tryz.prog 275 a275 := ⟨⟨Tryz.f275,_,Tryz.func275,by decide,rfl,rfl,by kernel_rfl,by kernel_rfl⟩⟩
theorem orF_cases {a b : Option AFunc} {x : AFunc} (h : orF a b = some x) : a = some x ∨ b = some x := by
 unfold orF at h
 split at h
 ·exact .inl h
 ·exact .inr h
theorem fns0 (f : FuncId) (fn : AFunc) (h : ir0 f = some fn) : FnOk cfg Tryz.prog f fn := by
 unfold ir0 at h
 split at h
 ·injection h with h; subst h; exact ok3
 ·injection h with h; subst h; exact ok4
 ·injection h with h; subst h; exact ok5
 ·injection h with h; subst h; exact ok6
 ·injection h with h; subst h; exact ok7
 ·injection h with h; subst h; exact ok8
 ·injection h with h; subst h; exact ok9
 ·injection h with h; subst h; exact ok10
 ·injection h with h; subst h; exact ok11
 ·injection h with h; subst h; exact ok12
 ·injection h with h; subst h; exact ok13
 ·injection h with h; subst h; exact ok14
 ·injection h with h; subst h; exact ok15
 ·injection h with h; subst h; exact ok16
 ·injection h with h; subst h; exact ok17
 ·injection h with h; subst h; exact ok19
 ·injection h with h; subst h; exact ok20
 ·injection h with h; subst h; exact ok21
 ·injection h with h; subst h; exact ok23
 ·injection h with h; subst h; exact ok26
 ·injection h with h; subst h; exact ok27
 ·injection h with h; subst h; exact ok28
 ·injection h with h; subst h; exact ok31
 ·injection h with h; subst h; exact ok35
 ·injection h with h; subst h; exact ok36
 ·injection h with h; subst h; exact ok37
 ·injection h with h; subst h; exact ok38
 ·injection h with h; subst h; exact ok39
 ·injection h with h; subst h; exact ok40
 ·injection h with h; subst h; exact ok41
 ·injection h with h; subst h; exact ok42
 ·injection h with h; subst h; exact ok44
 ·injection h with h; subst h; exact ok45
 ·injection h with h; subst h; exact ok46
 ·injection h with h; subst h; exact ok48
 ·injection h with h; subst h; exact ok49
 ·injection h with h; subst h; exact ok50
 ·injection h with h; subst h; exact ok51
 ·injection h with h; subst h; exact ok52
 ·injection h with h; subst h; exact ok54
 ·cases h
theorem fns1 (f : FuncId) (fn : AFunc) (h : ir1 f = some fn) : FnOk cfg Tryz.prog f fn := by
 unfold ir1 at h
 split at h
 ·injection h with h; subst h; exact ok56
 ·injection h with h; subst h; exact ok57
 ·injection h with h; subst h; exact ok66
 ·injection h with h; subst h; exact ok70
 ·injection h with h; subst h; exact ok71
 ·injection h with h; subst h; exact ok73
 ·injection h with h; subst h; exact ok74
 ·injection h with h; subst h; exact ok75
 ·injection h with h; subst h; exact ok85
 ·injection h with h; subst h; exact ok86
 ·injection h with h; subst h; exact ok87
 ·injection h with h; subst h; exact ok88
 ·injection h with h; subst h; exact ok89
 ·injection h with h; subst h; exact ok90
 ·injection h with h; subst h; exact ok91
 ·injection h with h; subst h; exact ok93
 ·injection h with h; subst h; exact ok94
 ·injection h with h; subst h; exact ok95
 ·injection h with h; subst h; exact ok96
 ·injection h with h; subst h; exact ok97
 ·injection h with h; subst h; exact ok98
 ·injection h with h; subst h; exact ok99
 ·injection h with h; subst h; exact ok100
 ·injection h with h; subst h; exact ok101
 ·injection h with h; subst h; exact ok102
 ·injection h with h; subst h; exact ok103
 ·injection h with h; subst h; exact ok104
 ·injection h with h; subst h; exact ok126
 ·injection h with h; subst h; exact ok127
 ·injection h with h; subst h; exact ok137
 ·injection h with h; subst h; exact ok140
 ·injection h with h; subst h; exact ok150
 ·injection h with h; subst h; exact ok151
 ·injection h with h; subst h; exact ok153
 ·injection h with h; subst h; exact ok155
 ·injection h with h; subst h; exact ok157
 ·injection h with h; subst h; exact ok159
 ·injection h with h; subst h; exact ok160
 ·injection h with h; subst h; exact ok171
 ·injection h with h; subst h; exact ok172
 ·cases h
theorem fns2 (f : FuncId) (fn : AFunc) (h : ir2 f = some fn) : FnOk cfg Tryz.prog f fn := by
 unfold ir2 at h
 split at h
 ·injection h with h; subst h; exact ok174
 ·injection h with h; subst h; exact ok181
 ·injection h with h; subst h; exact ok197
 ·injection h with h; subst h; exact ok201
 ·injection h with h; subst h; exact ok208
 ·injection h with h; subst h; exact ok209
 ·injection h with h; subst h; exact ok219
 ·injection h with h; subst h; exact ok221
 ·injection h with h; subst h; exact ok222
 ·injection h with h; subst h; exact ok235
 ·injection h with h; subst h; exact ok242
 ·injection h with h; subst h; exact ok243
 ·injection h with h; subst h; exact ok244
 ·injection h with h; subst h; exact ok258
 ·injection h with h; subst h; exact ok266
 ·injection h with h; subst h; exact ok275
 ·cases h
theorem fns : ∀ f fn,cfg.ir f = some fn → FnOk cfg Tryz.prog f fn := by
 intro f fn h
 rcases orF_cases h with h | h
 ·exact fns0 f fn h
 rcases orF_cases h with h | h
 ·exact fns1 f fn h
 exact fns2 f fn h
theorem all : CfgOk Tryz.prog cfg := ⟨fns,by
 intro f g h
 simp only [cfg] at h
 split at h
 ·injection h with h; subst h; exact natMC92_ok fun _ => rfl
 ·injection h with h; subst h; exact natMC154_ok fun _ => rfl
 ·cases h⟩
end Go.Proofs.YtbbekbjcmnopjaaGreatDoor.Am.CU
