/-
  The abstract machine and the functions of the law, 3: texts put together.
-/
import Derived.Test.YtelpjaejmneplaaGreatDoorReachPathsPkB
import Derived.Test.YtelpjaejmneplaaGreatDoorReachPathsPkA
set_option linter.unusedVariables false
set_option linter.unusedSimpArgs false
set_option linter.unusedSectionVars false
set_option maxRecDepth 100000
namespace Go.Proofs.YtelpjaejmneplaaGreatDoor.Am
open Go Go.RowKit Go.ChangeShapes Go.WideShapes Go.ChangeAt Go.Proofs.YtelpjaejmneplaaGreatDoor.Rows
theorem mem_sum {α : Type} (f : α → Nat) : ∀ {xs : List α} {x : α},x ∈ xs → f x ≤ (xs.map f).sum
 | [],_,h => by cases h
 | y :: ys,x,h => by
  simp only [List.map_cons,List.sum_cons]
  rcases List.mem_cons.1 h with rfl | h
  ·omega
  ·have := mem_sum f h; omega
section
variable {P : Program} {cf : FuncId → FuncId} {W : World} {H : Type} {enc : TypeId × Value → H} {base : Nat}
theorem int_dec {n : Nat} {t : TypeId} {k : IntKind} (ht : P.underlying t = some (.int k)) {d : DataW H} (h : Typed P (n + 1) t d) : ∃ i,dec P (n + 1) t d = [.int k i] ∧ (Lit.int k i).wf = true := by
 have ha : aggB P t = false := by simp [aggB,ht]
 obtain ⟨i,h1,h2⟩ := ints_of ht h
 exact ⟨i,by rw [dec_one h ha,h1],h2⟩
theorem text_dec {n : Nat} {t : TypeId} (ht : P.underlying t = some .string) {d : DataW H} (h : Typed P (n + 1) t d) : ∃ s : List UInt8,dec P (n + 1) t d = [.str s] ∧ s.length + 1 ≤ uptoBulk d := by
 simp only [Typed,ht] at h
 obtain ⟨s,rfl⟩ := h
 exact ⟨s,by simp [dec,ht],by simp [uptoBulk]⟩
theorem struct_dec {n : Nat} {t : TypeId} {fs : Array Field} (ht : P.underlying t = some (.struct fs)) (ds : List (DataW H)) : dec P (n + 1) t (.agg ds) = (List.zipWith (fun (f : Field) x => dec P n f.type x) fs.toList ds).flatten := by
 conv => lhs; unfold dec
 rw [ht]
theorem struct_argV {n : Nat} {t : TypeId} {fs : Array Field} (ht : P.underlying t = some (.struct fs)) (d : DataW H) : argV P n t d = .agg (dec P n t d) := by
 have ha : aggB P t = true := by simp [aggB,ht]
 simp [argV,elv,ha]
theorem name_dec {n : Nat} {t : TypeId} {f0 f1 : Field} (ht : P.underlying t = some (.struct #[f0,f1])) (h0 : P.underlying f0.type = some (.int .i64)) (h1 : P.underlying f1.type = some (.int .i64)) {d : DataW H} (h : Typed P (n + 2) t d) :
  ∃ v : Nm,dec P (n + 2) t d = [.int .i64 v.1,.int .i64 v.2] ∧ Nm.In v := by
 obtain ⟨ds,rfl,hl,hty,_,_⟩ := struct_of ht h
 match ds,hl with
 | [x,y],_ =>
  obtain ⟨a,a1,a2⟩ := int_dec h0 (hty 0 f0 x rfl rfl)
  obtain ⟨b,b1,b2⟩ := int_dec h1 (hty 1 f1 y rfl rfl)
  refine ⟨(a,b),?_,wf_i64 a2,wf_i64 b2⟩
  rw [struct_dec ht]
  simp [a1,b1]
theorem cel_dec {n : Nat} {t : TypeId} {f0 f1 f2 f3 g0 g1 : Field} (ht : P.underlying t = some (.struct #[f0,f1,f2,f3])) (h0 : P.underlying f0.type = some (.int .u8)) (h1 : P.underlying f1.type = some .string) (h2 : P.underlying f2.type = some (.int .i64))
  (h3 : P.underlying f3.type = some (.struct #[g0,g1])) (k0 : P.underlying g0.type = some (.int .i64)) (k1 : P.underlying g1.type = some (.int .i64)) {d : DataW H} (h : Typed P (n + 3) t d) :
  ∃ c : Cel,argV P (n + 3) t d = c.val ∧ c.In ∧ c.s.length ≤ uptoBulk d := by
 obtain ⟨ds,rfl,hl,hty,_,hb⟩ := struct_of ht h
 match ds,hl with
 | [x,y,z,u],_ =>
  obtain ⟨a,a1,a2⟩ := int_dec h0 (hty 0 f0 x rfl rfl)
  obtain ⟨s,s1,s2⟩ := text_dec h1 (hty 1 f1 y rfl rfl)
  obtain ⟨b,b1,b2⟩ := int_dec h2 (hty 2 f2 z rfl rfl)
  obtain ⟨v,v1,v2⟩ := name_dec h3 k0 k1 (hty 3 f3 u rfl rfl)
  have ha := wf_u8 a2
  refine ⟨⟨a.toNat,s,b,v⟩,?_,⟨by simp only; omega,wf_i64 b2,v2⟩,?_⟩
  ·rw [struct_argV ht,struct_dec ht]
   simp [a1,s1,b1,v1,Cel.val,Cel.cs]
   omega
  ·simp only [uptoBulkAll] at hb ⊢
   omega
theorem term_of {n : Nat} {t e : TypeId} (ht : P.underlying t = some (.slice e)) (hc : P.cellsOf e = 5) (one : ∀ d : DataW H,Typed P n e d → ∃ c : Cel,argV P n e d = c.val ∧ c.In ∧ c.s.length ≤ uptoBulk d) {d : DataW H} (h : Typed P (n + 1) t d) :
  ∃ cs : List Cel,(∀ σ,SlOf σ 5 (argV P (n + 1) t d) (cs.map Cel.val)) ∧ (∀ c ∈ cs,c.In) ∧ cs.length ≤ uptoBulk d ∧ (cs.map fun c => c.s.length).sum ≤ uptoBulk d := by
 rcases slice_of ht h with rfl | ⟨ds,rest,rfl,hd,ha,hb⟩
 ·exact ⟨[],fun σ => by rw [argV_nil ht]; exact SlOf.nil σ 5,fun c hc => by simp at hc,Nat.zero_le _,Nat.zero_le _⟩
 ·obtain ⟨cs,h1,h2,h3,h4⟩ := list_of (R := fun a (c : Cel) => a = c.val ∧ c.In) (size := fun c : Cel => c.s.length) (fun d h => by obtain ⟨c,a,b,e⟩ := one d h; exact ⟨c,⟨a,b⟩,e⟩) ds hd
  have hget : ∀ (i : Nat) (c : Cel),cs[i]? = some c → ∃ a,(ds.map fun x => argV P n e x)[i]? = some a ∧ a = c.val ∧ c.In := by
   intro i c hi
   have hlt := (List.getElem?_eq_some_iff.1 hi).1
   have e1 : (ds.map fun x => argV P n e x)[i]? = some (argV P n e (ds[i]'(by omega))) := by simp [List.getElem?_eq_getElem (show i < ds.length by omega)]
   exact ⟨_,e1,h2 i _ _ e1 hi⟩
  refine ⟨cs,fun σ => ?_,fun c hc => ?_,by omega,by omega⟩
  ·rw [ha,hc]
   have : (ds.map fun x => argV P n e x) = cs.map Cel.val := by
    refine List.ext_getElem? fun i => ?_
    by_cases hi : i < ds.length
    ·obtain ⟨a,e1,e2,_⟩ := hget i (cs[i]'(by omega)) (List.getElem?_eq_getElem _)
     rw [e1,List.getElem?_map,List.getElem?_eq_getElem (show i < cs.length by omega),e2]; rfl
    ·rw [List.getElem?_eq_none (by simp; omega),List.getElem?_eq_none (by simp; omega)]
   rw [this]
   exact SlOf.fs _ _ _ _ _
  ·obtain ⟨i,hi⟩ := List.getElem?_of_mem hc
   obtain ⟨a,_,_,h⟩ := hget i c hi
   exact h
end
end Go.Proofs.YtelpjaejmneplaaGreatDoor.Am
namespace Go.Proofs.YtelpjaejmneplaaGreatDoor.Am
open Go
mutual
theorem AVal.beq_self : ∀ v : AVal,AVal.beq v v = true
 | .undef | .nilptr | .nilslice | .nilmap | .nilfunc | .nilIface => rfl
 | .bool b => by simp [AVal.beq]
 | .int k n => by simp [AVal.beq]
 | .str s => by simp [AVal.beq]
 | .ptr a b => by simp [AVal.beq]
 | .eptr a b c e => by simp [AVal.beq]
 | .fptr t cs o => by simp [AVal.beq,AVal.beqL_self cs]
 | .slice a b c e f g => by simp [AVal.beq]
 | .fslice t b sz es => by simp [AVal.beq,AVal.beqL_self es]
 | .map a => by simp [AVal.beq]
 | .fmap t a b => by simp [AVal.beq,AVal.beqL_self a,AVal.beqL_self b]
 | .func f a b => by simp [AVal.beq,AVal.beqL_self a,AVal.beqL_self b]
 | .iface t v => by simp [AVal.beq,AVal.beq_self v]
 | .agg cs => by simp [AVal.beq,AVal.beqL_self cs]
 | .tuple cs => by simp [AVal.beq,AVal.beqL_self cs]
theorem AVal.beqL_self : ∀ v : List AVal,AVal.beqL v v = true
 | [] => rfl
 | v :: vs => by simp [AVal.beqL,AVal.beq_self v,AVal.beqL_self vs]
end
section
variable {cfg : Cfg} {d : Nat}
def wpD (cfg : Cfg) (d : Nat) (ops : List AOper) (pairs : List (Nat × Nat)) : List AOper → List FS → List AVal → Store → PostF → Prop
 | [],hist,fr,σ,Q => (∀ p ∈ pairs,steady cfg noCall d ops (hist ++ [(fr,σ)]) p = true) ∧ Q fr σ
 | o :: os,hist,fr,σ,Q => wpOs cfg d [o] fr σ (fun fr' σ' => wpD cfg d ops pairs os (hist ++ [(fr,σ)]) fr' σ' Q)
end
attribute [irreducible] wpD
end Go.Proofs.YtelpjaejmneplaaGreatDoor.Am
namespace Go.Proofs.YtelpjaejmneplaaGreatDoor.Am
open Go
def heldP (C : Prop) (fr : List AVal) (σ : Store) (K : List AVal → Store → Prop) (w : Wit K) : Prop := C ∧ K fr σ
theorem heldP_true (fr : List AVal) (σ : Store) (K : List AVal → Store → Prop) (w : Wit K) : heldP True fr σ K w = K fr σ := by simp [heldP]
def hupd (h : Nat → Store) (k : Nat) (σ : Store) : Nat → Store := fun t => if t = k then σ else h t
theorem hupd_apply (h : Nat → Store) (k : Nat) (σ : Store) (t : Nat) : hupd h k σ t = if t = k then σ else h t := by simp only [hupd]
def ksOf : List (Nat × Nat) → Nat → List Nat
 | [],_ => []
 | (a,k) :: ps,i => if a = i then (if k < i then k :: ksOf ps i else ksOf ps i) else ksOf ps i
theorem ksOf_nil (i : Nat) : ksOf [] i = [] := by simp [ksOf]
theorem ksOf_cons (a k : Nat) (ps : List (Nat × Nat)) (i : Nat) : ksOf ((a,k) :: ps) i = if a = i then (if k < i then k :: ksOf ps i else ksOf ps i) else ksOf ps i := by simp [ksOf]
theorem mem_ksOf {ps : List (Nat × Nat)} {i k : Nat} (hk : k < i) : (i,k) ∈ ps → k ∈ ksOf ps i := by
 induction ps with
 | nil => intro h; cases h
 | cons p ps ih =>
  obtain ⟨a,k'⟩ := p
  intro h
  rw [ksOf_cons]
  rcases List.mem_cons.1 h with h | h
  ·injection h with h1 h2; subst h1; subst h2; rw [if_pos rfl,if_pos hk]; exact List.mem_cons_self
  ·split
   ·split
    ·exact List.mem_cons_of_mem _ (ih h)
    ·exact ih h
   ·exact ih h
def addP (P : Store → Prop) : List (Nat × Nat) → Nat → List (Nat × (Store → Prop)) → List (Nat × (Store → Prop))
 | [],_,pe => pe
 | (a,k) :: ps,i,pe => if a = i then (if i < k then (k,P) :: addP P ps i pe else addP P ps i pe) else addP P ps i pe
theorem addP_nil (P : Store → Prop) (i : Nat) (pe : List (Nat × (Store → Prop))) : addP P [] i pe = pe := by simp [addP]
theorem addP_cons (P : Store → Prop) (a k : Nat) (ps : List (Nat × Nat)) (i : Nat) (pe : List (Nat × (Store → Prop))) : addP P ((a,k) :: ps) i pe = if a = i then (if i < k then (k,P) :: addP P ps i pe else addP P ps i pe) else addP P ps i pe := by simp [addP]
theorem mem_addP {P : Store → Prop} {ps : List (Nat × Nat)} {i k : Nat} (hk : i < k) {pe : List (Nat × (Store → Prop))} : (i,k) ∈ ps → (k,P) ∈ addP P ps i pe := by
 induction ps with
 | nil => intro h; cases h
 | cons p ps ih =>
  obtain ⟨a,k'⟩ := p
  intro h
  rw [addP_cons]
  rcases List.mem_cons.1 h with h | h
  ·injection h with h1 h2; subst h1; subst h2; rw [if_pos rfl,if_pos hk]; exact List.mem_cons_self
  ·split
   ·split
    ·exact List.mem_cons_of_mem _ (ih h)
    ·exact ih h
   ·exact ih h
theorem old_addP {P : Store → Prop} {ps : List (Nat × Nat)} {i : Nat} {pe : List (Nat × (Store → Prop))} {x : Nat × (Store → Prop)} (hx : x ∈ pe) : x ∈ addP P ps i pe := by
 induction ps with
 | nil => rw [addP_nil]; exact hx
 | cons p ps ih =>
  obtain ⟨a,k'⟩ := p
  rw [addP_cons]
  split
  ·split
   ·exact List.mem_cons_of_mem _ ih
   ·exact ih
  ·exact ih
def dueP (i : Nat) (σ : Store) : List (Nat × (Store → Prop)) → Prop
 | [] => True
 | (k,P) :: r => (if k = i then P σ else True) ∧ dueP i σ r
theorem dueP_nil (i : Nat) (σ : Store) : dueP i σ [] = True := by simp [dueP]
theorem dueP_cons (i : Nat) (σ : Store) (k : Nat) (P : Store → Prop) (r : List (Nat × (Store → Prop))) : dueP i σ ((k,P) :: r) = ((if k = i then P σ else True) ∧ dueP i σ r) := by simp [dueP]
theorem dueP_mem {i : Nat} {σ : Store} {pe : List (Nat × (Store → Prop))} (h : dueP i σ pe) {P : Store → Prop} (hm : (i,P) ∈ pe) : P σ := by
 induction pe with
 | nil => cases hm
 | cons x r ih =>
  obtain ⟨k,P'⟩ := x
  rw [dueP_cons] at h
  rcases List.mem_cons.1 hm with e | e
  ·injection e with e1 e2; subst e1; subst e2
   have := h.1
   rwa [if_pos rfl] at this
  ·exact ih h.2 e
def guardS (g : Option Bool) (P : Prop) : Prop := match g with
 | some true => P
 | _ => True
theorem guardS_true (P : Prop) : guardS (some true) P = P := propext Iff.rfl
theorem guardS_false (P : Prop) : guardS (some false) P = True := propext Iff.rfl
section
variable {cfg : Cfg} {d : Nat}
def sameP (cfg : Cfg) (d : Nat) (o : AOper) (fr : List AVal) (σ τ : Store) : Prop := guardS (wantedA fr o.guard) (match o.op with
 | .load n agg a => loadV τ n agg (ev cfg fr a) = loadV σ n agg (ev cfg fr a)
 | op => ∃ v σ1 σ2,opStep cfg noCall d fr σ op = some (v,σ1) ∧ opStep cfg noCall d fr τ op = some (v,σ2))
theorem sameP_load (dst : Option Nat) (n : Nat) (agg : Bool) (a : Opnd) (g : Option (Nat × Bool)) (fr : List AVal) (σ τ : Store) :
  sameP cfg d ⟨dst,.load n agg a,g⟩ fr σ τ = guardS (wantedA fr g) (loadV τ n agg (ev cfg fr a) = loadV σ n agg (ev cfg fr a)) := propext Iff.rfl
theorem wantedA_none (fr : List AVal) : wantedA fr none = some true := by simp [wantedA]
def sameAll (cfg : Cfg) (d : Nat) (o : AOper) (fr : List AVal) (σ : Store) (H : Nat → Store) : List Nat → Prop
 | [] => True
 | k :: ks => sameP cfg d o fr σ (H k) ∧ sameAll cfg d o fr σ H ks
theorem sameAll_nil (o : AOper) (fr : List AVal) (σ : Store) (H : Nat → Store) : sameAll cfg d o fr σ H [] = True := propext Iff.rfl
theorem sameAll_cons (o : AOper) (fr : List AVal) (σ : Store) (H : Nat → Store) (k : Nat) (ks : List Nat) : sameAll cfg d o fr σ H (k :: ks) = (sameP cfg d o fr σ (H k) ∧ sameAll cfg d o fr σ H ks) := propext Iff.rfl
theorem sameAll_mem {o : AOper} {fr : List AVal} {σ : Store} {H : Nat → Store} {ks : List Nat} (h : sameAll cfg d o fr σ H ks) {k : Nat} (hk : k ∈ ks) : sameP cfg d o fr σ (H k) := by
 induction ks with
 | nil => cases hk
 | cons a ks ih =>
  rw [sameAll_cons] at h
  rcases List.mem_cons.1 hk with e | e
  ·subst e; exact h.1
  ·exact ih h.2 e
def wpE (cfg : Cfg) (d : Nat) (pairs : List (Nat × Nat)) : Nat → List AOper → (Nat → Store) → List (Nat × (Store → Prop)) → List AVal → Store → PostF → Prop
 | _,[],_,_,fr,σ,Q => Q fr σ
 | i,o :: os,H,pe,fr,σ,Q => heldP (sameAll cfg d o fr σ H (ksOf pairs i)) fr σ (fun fr σ => wpOs cfg d [o] fr σ (fun fr' σ' => heldP (dueP i σ' (addP (sameP cfg d o fr σ) pairs i pe)) fr' σ' (fun fr' σ' => wpE cfg d pairs (i + 1) os (hupd H i σ) (addP (sameP cfg d o fr σ) pairs i pe) fr' σ' Q) .mk)) .mk
theorem wpE_nil (pairs : List (Nat × Nat)) (i : Nat) (H : Nat → Store) (pe : List (Nat × (Store → Prop))) (fr : List AVal) (σ : Store) (Q : PostF) : wpE cfg d pairs i [] H pe fr σ Q = Q fr σ := propext Iff.rfl
theorem wpE_cons (pairs : List (Nat × Nat)) (i : Nat) (o : AOper) (os : List AOper) (H : Nat → Store) (pe : List (Nat × (Store → Prop))) (fr : List AVal) (σ : Store) (Q : PostF) :
  wpE cfg d pairs i (o :: os) H pe fr σ Q = heldP (sameAll cfg d o fr σ H (ksOf pairs i)) fr σ (fun fr σ => wpOs cfg d [o] fr σ (fun fr' σ' => heldP (dueP i σ' (addP (sameP cfg d o fr σ) pairs i pe)) fr' σ' (fun fr' σ' => wpE cfg d pairs (i + 1) os (hupd H i σ) (addP (sameP cfg d o fr σ) pairs i pe) fr' σ' Q) .mk)) .mk := propext Iff.rfl
theorem same_steady {ops : List AOper} {i k j : Nat} {T : List FS} {fr : List AVal} {σ : Store} {τ : FS} {o : AOper} {n : Nat} {s' : FS} (h1 : ops[i]? = some o) (h2 : T[i]? = some (fr,σ)) (hj : (if k < i then k else k + 1) = j) (h3 : T[j]? = some τ)
  (hs : sameP cfg d o fr σ τ.2) (hr : stepO cfg (run cfg n) d o (fr,σ) = some s') : steady cfg noCall d ops T (i,k) = true := by
 unfold steady
 dsimp only
 rw [h1,h2,hj,h3]
 dsimp only
 cases hw : wantedA fr o.guard with
 | none => rfl
 | some b =>
  cases b with
  | false => rfl
  | true =>
   dsimp only
   unfold sameP at hs
   rw [hw,guardS_true] at hs
   simp only [stepO,hw] at hr
   obtain ⟨dst,op,g⟩ := o
   cases op with
   | load m agg a =>
    dsimp only at hs hr ⊢
    simp only [opStep] at hr ⊢
    rw [hs]
    cases hl : loadV σ m agg (ev cfg fr a) with
    | none => rw [hl] at hr; simp at hr
    | some v => simp [AVal.beq_self]
   | _ =>
    obtain ⟨v,σ1,σ2,e1,e2⟩ := hs
    dsimp only at e1 e2 ⊢
    rw [e1,e2]
    exact AVal.beq_self v
def Due (cfg : Cfg) (d : Nat) (ops : List AOper) (pairs : List (Nat × Nat)) (hist : List FS) (pe : List (Nat × (Store → Prop))) (i : Nat) : Prop :=
 ∀ p ∈ pairs,p.1 < i → i ≤ p.2 → ∃ (o : AOper) (s s' : FS) (n : Nat),ops[p.1]? = some o ∧ hist[p.1]? = some s ∧ stepO cfg (run cfg n) d o s = some s' ∧ (p.2,sameP cfg d o s.1 s.2) ∈ pe
theorem wpE_sound {ops : List AOper} {pairs : List (Nat × Nat)} {Q : PostF} : ∀ (os : List AOper) (i : Nat) (H : Nat → Store) (pe : List (Nat × (Store → Prop))) (hist : List FS) (fr : List AVal) (σ : Store),hist.length = i → (∀ k,k < i → ∃ τ,hist[k]? = some τ ∧ τ.2 = H k) →
  Due cfg d ops pairs hist pe i → ops.drop i = os → wpE cfg d pairs i os H pe fr σ Q →
  ∃ n s',stepOs cfg (run cfg n) d os (fr,σ) = some s' ∧ Q s'.1 s'.2 ∧ (∀ p ∈ pairs,i ≤ p.1 → p.1 < ops.length → p.2 < p.1 → steady cfg noCall d ops (hist ++ traceOs cfg (run cfg n) d os (fr,σ)) p = true) ∧
   ∀ p ∈ pairs,i ≤ p.2 → p.2 < ops.length → p.1 < p.2 → steady cfg noCall d ops (hist ++ traceOs cfg (run cfg n) d os (fr,σ)) p = true
 | [],i,H,pe,hist,fr,σ,hl,hh,hd,ho,h => ⟨0,(fr,σ),rfl,h,fun p hp h1 h2 h3 => by
   have := congrArg List.length ho
   simp only [List.length_drop,List.length_nil] at this
   omega,fun p hp h1 h2 h3 => by
   have := congrArg List.length ho
   simp only [List.length_drop,List.length_nil] at this
   omega⟩
 | o :: os,i,H,pe,hist,fr,σ,hl,hh,hd,ho,h => by
  rw [wpE_cons] at h
  obtain ⟨hc,h⟩ := h
  obtain ⟨n1,s1,e1,hdu,h2⟩ := wpOs_sound h
  have hi : i < ops.length := by
   have := congrArg List.length ho
   simp only [List.length_drop,List.length_cons] at this
   omega
  have hoi : ops[i]? = some o := by
   have := congrArg (fun l => l[0]?) ho
   simpa using this
  have hos : ops.drop (i + 1) = os := by
   have := congrArg List.tail ho
   simpa using this
  have e1' : stepO cfg (run cfg n1) d o (fr,σ) = some s1 := by
   simp only [stepOs] at e1
   split at e1
   ·rename_i s hs; rw [hs]; exact e1
   ·cases e1
  have hd' : Due cfg d ops pairs (hist ++ [(fr,σ)]) (addP (sameP cfg d o fr σ) pairs i pe) (i + 1) := by
   intro p hp h1 h2
   by_cases e : p.1 = i
   ·obtain ⟨a,k⟩ := p
    dsimp only at e h2 ⊢
    subst e
    exact ⟨o,(fr,σ),s1,n1,hoi,by rw [← hl]; simp,e1',mem_addP (by omega) hp⟩
   ·obtain ⟨o',s,s',n,a1,a2,a3,a4⟩ := hd p hp (by omega) (by omega)
    exact ⟨o',s,s',n,a1,by rw [List.getElem?_append_left (by omega)]; exact a2,a3,old_addP a4⟩
  obtain ⟨n2,s2,e2,hq,hst,hst2⟩ := wpE_sound os (i + 1) (hupd H i σ) _ (hist ++ [(fr,σ)]) s1.1 s1.2 (by simp [hl]) (fun k hk => by
   by_cases e : k = i
   ·subst e
    exact ⟨(fr,σ),by rw [← hl]; simp,by simp [hupd]⟩
   ·obtain ⟨τ,t1,t2⟩ := hh k (by omega)
    exact ⟨τ,by rw [List.getElem?_append_left (by omega)]; exact t1,by simp [hupd,e,t2]⟩) hd' hos h2
  have f1 := stepO_mono (run_le cfg (Nat.le_max_left n1 n2)) e1'
  obtain ⟨f2,f3⟩ := stepOs_mono (run_le cfg (Nat.le_max_right n1 n2)) e2
  have et : traceOs cfg (run cfg (max n1 n2)) d (o :: os) (fr,σ) = (fr,σ) :: traceOs cfg (run cfg n2) d os (s1.1,s1.2) := by
   simp only [traceOs]
   rw [f1]
   dsimp only
   have e3 : traceOs cfg (run cfg (max n1 n2)) d os s1 = traceOs cfg (run cfg n2) d os (s1.1,s1.2) := f3
   rw [e3]
  have th : (traceOs cfg (run cfg n2) d os (s1.1,s1.2))[0]? = some (s1.1,s1.2) := by
   cases os <;> simp [traceOs]
  refine ⟨max n1 n2,s2,?_,hq,fun p hp hp1 hp2 hp3 => ?_,fun p hp hp1 hp2 hp3 => ?_⟩
  ·simp only [stepOs]; rw [f1]; exact f2
  ·rw [et]
   by_cases e : p.1 = i
   ·obtain ⟨a,k⟩ := p
    dsimp only at e hp3
    subst e
    obtain ⟨τ,t1,t2⟩ := hh k hp3
    refine same_steady hoi (by rw [← hl]; simp) (if_pos hp3) (by rw [List.getElem?_append_left (by omega)]; exact t1) ?_ e1'
    rw [t2]
    exact sameAll_mem hc (mem_ksOf hp3 hp)
   ·have := hst p hp (by omega) hp2 hp3
    rw [List.append_assoc] at this
    exact this
  ·rw [et]
   by_cases e : p.2 = i
   ·obtain ⟨a,k⟩ := p
    dsimp only at e hp3
    subst e
    obtain ⟨o',s,s',n,a1,a2,a3,a4⟩ := hd (a,k) hp hp3 (Nat.le_refl _)
    have hsame := dueP_mem hdu (old_addP a4)
    refine same_steady (τ := (s1.1,s1.2)) a1 (fr := s.1) (σ := s.2) (by rw [List.getElem?_append_left (by omega)]; exact a2) (if_neg (by omega)) ?_ hsame a3
    rw [List.getElem?_append_right (by omega),show k + 1 - hist.length = 1 by omega]
    simpa using th
   ·have := hst2 p hp (by omega) hp2 hp3
    rw [List.append_assoc] at this
    exact this
theorem drawnP_of {ops : List AOper} {pairs : List (Nat × Nat)} {fr : List AVal} {σ : Store} {Q : PostF} {w : Wit Q} (hp : pairs.all (fun p => decide (p.1 < ops.length) && decide (p.2 < ops.length) && !(p.1 == p.2)) = true) (h : wpE cfg d pairs 0 ops (fun _ => []) [] fr σ Q) : drawnP cfg d ops pairs fr σ Q w := by
 obtain ⟨n,s',h1,h2,h3,h4⟩ := wpE_sound (ops := ops) ops 0 (fun _ => []) [] [] fr σ rfl (fun k hk => by omega) (fun p hp h => by omega) rfl h
 unfold drawnP
 refine ⟨n,s',h1,?_,h2⟩
 rw [List.all_eq_true]
 intro p hp'
 have := List.all_eq_true.1 hp p hp'
 simp only [Bool.and_eq_true,decide_eq_true_eq,Bool.not_eq_true',beq_eq_false_iff_ne] at this
 rcases Nat.lt_or_gt_of_ne this.2 with hlt | hlt
 ·have h5 := h4 p hp' (Nat.zero_le _) this.1.2 hlt
  rw [List.nil_append] at h5
  exact steady_mono (noCall_le _) h5
 ·have h5 := h3 p hp' (Nat.zero_le _) this.1.1 hlt
  rw [List.nil_append] at h5
  exact steady_mono (noCall_le _) h5
end
attribute [irreducible] wpE heldP sameAll guardS hupd ksOf sameP addP dueP
end Go.Proofs.YtelpjaejmneplaaGreatDoor.Am
namespace Go.Proofs.YtelpjaejmneplaaGreatDoor.Am
open Go
section
variable {cfg : Cfg} {d : Nat}
end
theorem Zm : type_of% (@wpC_block) := @wpC_block
theorem Zn : type_of% (@wpC_cond) := @wpC_cond
theorem WPd : type_of% (And.intro (And.intro (And.intro (And.intro (And.intro (And.intro @wpC_skip @wpC_region) (And.intro @wpC_drawn @wpC_ahead)) (And.intro (And.intro @wpC_seq @wpC_loop) (And.intro @wpC_exit @wpC_ret))) (And.intro (And.intro (And.intro @wpOs_nil @wpOs_guard) (And.intro @seqQ_normal @seqQ_exit)) (And.intro (And.intro @seqQ_ret @blockQ_normal) (And.intro @blockQ_hit (And.intro @blockQ_miss @blockQ_ret))))) (And.intro (And.intro (And.intro (And.intro @endQ_normal @endQ_ret) (And.intro @loopQ_exit @loopQ_ret)) (And.intro (And.intro @wpO_move @wpO_pick) (And.intro @wpO_alloc @wpO_box))) (And.intro (And.intro (And.intro @wpO_build @wpO_lit) (And.intro @wpO_litA @wpO_load)) (And.intro (And.intro @wpO_store @wpO_nilCheck) (And.intro @wpO_iop (And.intro @wpO_sop @wpO_bop)))))) (And.intro (And.intro (And.intro (And.intro (And.intro @wpO_eqs @wpO_eqnil) (And.intro @wpO_not @wpO_neg)) (And.intro (And.intro @wpO_convI @wpO_sliceOp) (And.intro @wpO_substr @wpO_gslice))) (And.intro (And.intro (And.intro @wpO_faddr @wpO_field) (And.intro @wpO_iaddr @wpO_aaddr)) (And.intro (And.intro @wpO_strIdx @wpO_arrIdx) (And.intro @wpO_lenS (And.intro @wpO_lenStr @wpO_lenM))))) (And.intro (And.intro (And.intro (And.intro @wpO_lenA @wpO_capS) (And.intro @wpO_minI @wpO_maxI)) (And.intro (And.intro @wpO_append @wpO_appendz) (And.intro @wpO_mkslice (And.intro @wpO_extract @wpO_mkfunc)))) (And.intro (And.intro (And.intro @wpO_mkmap @wpO_lookup) (And.intro @wpO_mapset @wpO_mapdel)) (And.intro (And.intro @wpO_clr @wpO_mkiface) (And.intro @wpO_callS (And.intro @wpO_callI @wpO_callv))))))) := (And.intro (And.intro (And.intro (And.intro (And.intro (And.intro @wpC_skip @wpC_region) (And.intro @wpC_drawn @wpC_ahead)) (And.intro (And.intro @wpC_seq @wpC_loop) (And.intro @wpC_exit @wpC_ret))) (And.intro (And.intro (And.intro @wpOs_nil @wpOs_guard) (And.intro @seqQ_normal @seqQ_exit)) (And.intro (And.intro @seqQ_ret @blockQ_normal) (And.intro @blockQ_hit (And.intro @blockQ_miss @blockQ_ret))))) (And.intro (And.intro (And.intro (And.intro @endQ_normal @endQ_ret) (And.intro @loopQ_exit @loopQ_ret)) (And.intro (And.intro @wpO_move @wpO_pick) (And.intro @wpO_alloc @wpO_box))) (And.intro (And.intro (And.intro @wpO_build @wpO_lit) (And.intro @wpO_litA @wpO_load)) (And.intro (And.intro @wpO_store @wpO_nilCheck) (And.intro @wpO_iop (And.intro @wpO_sop @wpO_bop)))))) (And.intro (And.intro (And.intro (And.intro (And.intro @wpO_eqs @wpO_eqnil) (And.intro @wpO_not @wpO_neg)) (And.intro (And.intro @wpO_convI @wpO_sliceOp) (And.intro @wpO_substr @wpO_gslice))) (And.intro (And.intro (And.intro @wpO_faddr @wpO_field) (And.intro @wpO_iaddr @wpO_aaddr)) (And.intro (And.intro @wpO_strIdx @wpO_arrIdx) (And.intro @wpO_lenS (And.intro @wpO_lenStr @wpO_lenM))))) (And.intro (And.intro (And.intro (And.intro @wpO_lenA @wpO_capS) (And.intro @wpO_minI @wpO_maxI)) (And.intro (And.intro @wpO_append @wpO_appendz) (And.intro @wpO_mkslice (And.intro @wpO_extract @wpO_mkfunc)))) (And.intro (And.intro (And.intro @wpO_mkmap @wpO_lookup) (And.intro @wpO_mapset @wpO_mapdel)) (And.intro (And.intro @wpO_clr @wpO_mkiface) (And.intro @wpO_callS (And.intro @wpO_callI @wpO_callv)))))))
theorem WPu : type_of% (And.intro (And.intro (And.intro (And.intro (And.intro @wantedA_eq (And.intro @wantV_bool @wantV_hole)) (And.intro @bq_tt (And.intro @bq_ff @bq_tf))) (And.intro (And.intro @bq_ft (And.intro @loopQ_normal @res_one)) (And.intro @res2_tmp (And.intro @res3_tmp @res4_tmp)))) (And.intro (And.intro (And.intro @res_tmp (And.intro @res_cell @pickV_bool)) (And.intro @ncV_ptr (And.intro @ncV_eptr @ncV_fptr))) (And.intro (And.intro @ncV_func (And.intro @bopV_bool @notV_bool)) (And.intro (And.intro @negV_int @fieldV_agg) (And.intro @lenStrV_str @extrV_tuple))))) (And.intro (And.intro (And.intro (And.intro @callvP_func (And.intro @iop_add @iop_sub)) (And.intro @iop_eql (And.intro @iop_neq @iop_lss))) (And.intro (And.intro @iop_leq (And.intro @iop_gtr @iop_geq)) (And.intro (And.intro @Fr_ev @Fr_get) (And.intro @Fr_put @Fr_len)))) (And.intro (And.intro (And.intro @put_none (And.intro @ev_const @upd_apply)) (And.intro @argE_zero (And.intro @argE_succ @argE_nil))) (And.intro (And.intro @liveE_cons (And.intro @stepP_some @optP_some)) (And.intro (And.intro @guardP_true @guardP_false) (And.intro @condP_true @condP_false)))))) := (And.intro (And.intro (And.intro (And.intro (And.intro @wantedA_eq (And.intro @wantV_bool @wantV_hole)) (And.intro @bq_tt (And.intro @bq_ff @bq_tf))) (And.intro (And.intro @bq_ft (And.intro @loopQ_normal @res_one)) (And.intro @res2_tmp (And.intro @res3_tmp @res4_tmp)))) (And.intro (And.intro (And.intro @res_tmp (And.intro @res_cell @pickV_bool)) (And.intro @ncV_ptr (And.intro @ncV_eptr @ncV_fptr))) (And.intro (And.intro @ncV_func (And.intro @bopV_bool @notV_bool)) (And.intro (And.intro @negV_int @fieldV_agg) (And.intro @lenStrV_str @extrV_tuple))))) (And.intro (And.intro (And.intro (And.intro @callvP_func (And.intro @iop_add @iop_sub)) (And.intro @iop_eql (And.intro @iop_neq @iop_lss))) (And.intro (And.intro @iop_leq (And.intro @iop_gtr @iop_geq)) (And.intro (And.intro @Fr_ev @Fr_get) (And.intro @Fr_put @Fr_len)))) (And.intro (And.intro (And.intro @put_none (And.intro @ev_const @upd_apply)) (And.intro @argE_zero (And.intro @argE_succ @argE_nil))) (And.intro (And.intro @liveE_cons (And.intro @stepP_some @optP_some)) (And.intro (And.intro @guardP_true @guardP_false) (And.intro @condP_true @condP_false))))))
theorem WPed : type_of% (And.intro @wpE_cons (And.intro @wpE_nil @sameAll_cons)) := (And.intro @wpE_cons (And.intro @wpE_nil @sameAll_cons))
theorem WPeu : type_of% (And.intro (And.intro (And.intro @addP_nil (And.intro @addP_cons @dueP_nil)) (And.intro @dueP_cons (And.intro @heldP_true @sameAll_nil))) (And.intro (And.intro @sameP_load (And.intro @wantedA_none @guardS_true)) (And.intro (And.intro @guardS_false @ksOf_nil) (And.intro @ksOf_cons @hupd_apply)))) := (And.intro (And.intro (And.intro @addP_nil (And.intro @addP_cons @dueP_nil)) (And.intro @dueP_cons (And.intro @heldP_true @sameAll_nil))) (And.intro (And.intro @sameP_load (And.intro @wantedA_none @guardS_true)) (And.intro (And.intro @guardS_false @ksOf_nil) (And.intro @ksOf_cons @hupd_apply))))
inductive Two {α β : Type} (R : α → β → Prop) : List α → List β → Prop
 | nil : Two R [] []
 | cons {a : α} {b : β} {us : List α} {ws : List β} (h : R a b) (t : Two R us ws) : Two R (a :: us) (b :: ws)
section
variable {α β : Type} {R R' : α → β → Prop} {us vs : List α} {ws ys : List β}
theorem Two.len (h : Two R us ws) : us.length = ws.length := by
 induction h with
 | nil => rfl
 | cons _ _ ih => simp [ih]
theorem Two.get (h : Two R us ws) : ∀ {i : Nat} (hi : i < ws.length),∃ a,us[i]? = some a ∧ R a ws[i] := by
 induction h with
 | nil => intro i hi; simp at hi
 | cons h t ih =>
  intro i hi
  cases i with
  | zero => exact ⟨_,rfl,h⟩
  | succ i => obtain ⟨a,h1,h2⟩ := ih (i := i) (by simpa using hi); exact ⟨a,by simpa using h1,by simpa using h2⟩
theorem Two.at (h : Two R us ws) {i : Nat} {a : α} {b : β} (ha : us[i]? = some a) (hb : ws[i]? = some b) : R a b := by
 obtain ⟨hi,rfl⟩ := List.getElem?_eq_some_iff.1 hb
 obtain ⟨a',h1,h2⟩ := h.get hi
 rw [ha] at h1; injection h1 with h1; subst h1; exact h2
theorem Two.mono (h : Two R us ws) (hm : ∀ a b,R a b → R' a b) : Two R' us ws := by
 induction h with
 | nil => exact .nil
 | cons h _ ih => exact .cons (hm _ _ h) ih
theorem Two.mono_mem (h : Two R us ws) (hm : ∀ a b,a ∈ us → b ∈ ws → R a b → R' a b) : Two R' us ws := by
 induction h with
 | nil => exact .nil
 | cons h _ ih => exact .cons (hm _ _ List.mem_cons_self List.mem_cons_self h) (ih fun a b ha hb => hm a b (List.mem_cons_of_mem _ ha) (List.mem_cons_of_mem _ hb))
theorem Two.append (h : Two R us ws) (h' : Two R vs ys) : Two R (us ++ vs) (ws ++ ys) := by
 induction h with
 | nil => exact h'
 | cons h _ ih => exact .cons h ih
theorem Two.one {a : α} {b : β} (h : R a b) : Two R [a] [b] := .cons h .nil
theorem Two.push (h : Two R us ws) {a : α} {b : β} (h' : R a b) : Two R (us ++ [a]) (ws ++ [b]) := h.append (.one h')
theorem Two.take (h : Two R us ws) : ∀ (n : Nat),Two R (us.take n) (ws.take n) := by
 induction h with
 | nil => intro n; simp; exact .nil
 | cons h _ ih =>
  intro n
  cases n with
  | zero => exact .nil
  | succ n => exact .cons h (ih n)
theorem Two.drop (h : Two R us ws) : ∀ (n : Nat),Two R (us.drop n) (ws.drop n) := by
 induction h with
 | nil => intro n; simp; exact .nil
 | cons h t ih =>
  intro n
  cases n with
  | zero => exact .cons h t
  | succ n => exact ih n
theorem Two.of_get (hl : us.length = ws.length) (h : ∀ (i : Nat) (a : α) (b : β),us[i]? = some a → ws[i]? = some b → R a b) : Two R us ws := by
 induction us generalizing ws with
 | nil => cases ws with
  | nil => exact .nil
  | cons b ws => simp at hl
 | cons a us ih => cases ws with
  | nil => simp at hl
  | cons b ws => exact .cons (h 0 a b rfl rfl) (ih (by simpa using hl) fun i x y hx hy => h (i + 1) x y (by simpa using hx) (by simpa using hy))
theorem Two.mem_left (h : Two R us ws) {a : α} (ha : a ∈ us) : ∃ b,b ∈ ws ∧ R a b := by
 induction h with
 | nil => cases ha
 | cons h _ ih =>
  rcases List.mem_cons.1 ha with rfl | ha
  ·exact ⟨_,List.mem_cons_self,h⟩
  ·obtain ⟨b,h1,h2⟩ := ih ha; exact ⟨b,List.mem_cons_of_mem _ h1,h2⟩
end
theorem elems_fs (sz t : Nat) (b : Bool) (σ : Store) (es : List AVal) : elems sz σ (.fslice t b sz es) = some es := by simp
def nless (a b : Nm) : Bool := decide (a.1 < b.1) || (decide (a.1 = b.1) && decide (a.2 < b.2))
theorem nless_irrefl (a : Nm) : nless a a = false := by simp [nless]
theorem nless_trans {a b c : Nm} (h : nless a b = true) (h' : nless b c = true) : nless a c = true := by
 simp only [nless,Bool.or_eq_true,Bool.and_eq_true,decide_eq_true_eq] at *; omega
theorem nless_ne {a b : Nm} (h : nless a b = true) : a ≠ b := fun e => by rw [e,nless_irrefl] at h; cases h
theorem nless_not {a b : Nm} (h : nless a b = false) (hn : a ≠ b) : nless b a = true := by
 obtain ⟨a1,a2⟩ := a; obtain ⟨b1,b2⟩ := b
 have : ¬ (a1 = b1 ∧ a2 = b2) := fun e => hn (by rw [e.1,e.2])
 simp only [nless,Bool.or_eq_true,Bool.and_eq_true,decide_eq_true_eq,Bool.or_eq_false_iff,decide_eq_false_iff_not,Bool.and_eq_false_iff] at *; omega
theorem nless_asymm {a b : Nm} (h : nless a b = true) : nless b a = false := by
 cases hb : nless b a with
 | false => rfl
 | true => have := nless_trans h hb; rw [nless_irrefl] at this; cases this
def glob (t : List Cel) : Bool := right t && t.all fun c => !(decide (c.k = 4) && decide (c.v.1 < 0))
theorem glob_right {t : List Cel} (h : glob t = true) : right t = true := by simp only [glob,Bool.and_eq_true] at h; exact h.1
theorem right_ne {t : List Cel} (h : right t = true) : t ≠ [] := by rintro rfl; simp [right] at h
theorem right_len {t : List Cel} (h : right t = true) : 1 ≤ t.length ∧ t.length ≤ 256 := by
 simp only [right,Bool.and_eq_true,decide_eq_true_eq] at h; exact ⟨h.1.1.1,h.1.1.2⟩
theorem right_ok_mem {t : List Cel} (h : right t = true) {c : Cel} (hc : c ∈ t) : c.ok = true := by
 simp only [right,Bool.and_eq_true,List.all_eq_true] at h; exact h.2 c hc
theorem ok_var {c : Cel} (h : c.ok = true) (hk : c.k = 4) : c.s = [] ∧ c.n = 0 ∧ -1 ≤ c.v.1 ∧ c.v.1 ≤ 3 ∧ 0 ≤ c.v.2 := by
 unfold Cel.ok at h
 rw [if_neg (by omega),if_neg (by omega),if_neg (by omega),if_pos hk] at h
 simp only [Bool.and_eq_true,decide_eq_true_eq] at h
 exact ⟨h.1.1.1.1,h.1.1.1.2,h.1.1.2,h.1.2,h.2⟩
theorem glob_eq (t : List Cel) : glob t = (right t && !(t.any fun c => decide (c.k = 4) && decide (c.v.1 = -1))) := by
 unfold glob
 cases hr : right t with
 | false => rfl
 | true =>
  simp only [Bool.true_and]
  rw [List.not_any_eq_all_not,Bool.eq_iff_iff,List.all_eq_true,List.all_eq_true]
  have key : ∀ c ∈ t,(!(decide (c.k = 4) && decide (c.v.1 < 0))) = (!(decide (c.k = 4) && decide (c.v.1 = -1))) := fun c hc => by
   by_cases hk : c.k = 4
   ·have := ok_var (right_ok_mem hr hc) hk
    have e : decide (c.v.1 < 0) = decide (c.v.1 = -1) := by rw [decide_eq_decide]; omega
    rw [e]
   ·simp [hk]
  exact ⟨fun h c hc => by rw [← key c hc]; exact h c hc,fun h c hc => by rw [key c hc]; exact h c hc⟩
def vCel (v : Nm) : Cel := ⟨4,[],0,v⟩
def okVar (v : Nm) : Bool := (vCel v).ok
theorem right_one (c : Cel) : right [c] = (c.ok && decide (c.parts = 0)) := by
 have e : endAt 1 [c] 1 0 = if 1 < c.parts then 0 else endAt 1 [] (0 + c.parts) 1 := by rw [endAt_cons]
 have e2 : decide (endAt 1 [c] 1 0 = 1) = decide (c.parts = 0) := by
  rw [e,decide_eq_decide]
  by_cases h0 : c.parts = 0
  ·rw [h0,endAt_zero]; simp
  ·obtain ⟨p,hp⟩ : ∃ p,c.parts = p + 1 := ⟨c.parts - 1,by omega⟩
   rw [hp,show 0 + (p + 1) = p + 1 by omega,endAt_nil]
   split <;> simp
 simp only [right,List.length_singleton,List.all_cons,List.all_nil,Bool.and_true]
 rw [e2]
 cases c.ok <;> simp
theorem right_var (v : Nm) : right [vCel v] = okVar v := by rw [right_one]; simp [okVar,Cel.parts,vCel]
abbrev Hp := List (Nm × List Cel)
def lk : Hp → Nm → Option (List Cel)
 | [],_ => none
 | p :: r,v => if p.1 = v then some p.2 else lk r v
theorem lk_mem : ∀ {H : Hp} {v : Nm} {t : List Cel},lk H v = some t → (v,t) ∈ H
 | [],_,_,h => by cases h
 | p :: r,v,t,h => by
  simp only [lk] at h
  split at h
  ·rename_i e; injection h with h; rw [← e,← h]; exact List.mem_cons_self
  ·exact List.mem_cons_of_mem _ (lk_mem h)
theorem lk_none : ∀ {H : Hp} {v : Nm},lk H v = none ↔ v ∉ H.map (·.1)
 | [],_ => by simp [lk]
 | p :: r,v => by
  simp only [lk,List.map_cons,List.mem_cons,not_or]
  split
  ·rename_i e; simp [e]
  ·rename_i e; rw [lk_none (H := r)]; exact ⟨fun h => ⟨fun e' => e e'.symm,h⟩,fun h => h.2⟩
theorem lk_of_mem : ∀ {H : Hp},(H.map (·.1)).Nodup → ∀ {v : Nm} {t : List Cel},(v,t) ∈ H → lk H v = some t
 | [],_,_,_,h => by cases h
 | p :: r,hn,v,t,h => by
  simp only [List.map_cons,List.nodup_cons] at hn
  rcases List.mem_cons.1 h with rfl | h
  ·simp [lk]
  ·have : p.1 ≠ v := fun e => hn.1 (by rw [e]; exact List.mem_map.2 ⟨_,h,rfl⟩)
   rw [lk,if_neg this]; exact lk_of_mem hn.2 h
theorem lk_perm {H R : Hp} (hn : (H.map (·.1)).Nodup) (hp : H.Perm R) (v : Nm) : lk H v = lk R v := by
 have hn' : (R.map (·.1)).Nodup := (hp.map _).nodup_iff.1 hn
 cases h : lk H v with
 | some t => exact (lk_of_mem hn' (hp.mem_iff.1 (lk_mem h))).symm
 | none =>
  rw [lk_none] at h
  exact (lk_none.2 fun hm => h ((hp.map _).mem_iff.2 hm)).symm
def bindE (H : Hp) (v : Nm) (t : List Cel) : Int :=
 if (decide (v.1 < 0) || !okVar v) || !glob t then 6
 else if (lk H v).isSome then 70
 else if decide ((t.headD default).k = 4) && !nless (t.headD default).v v then 71
 else 0
def bindH (H : Hp) (v : Nm) (t : List Cel) : Hp := if bindE H v t = 0 then H ++ [(v,t)] else H
def okB (p : Nm × List Cel) : Prop := 0 ≤ p.1.1 ∧ okVar p.1 = true ∧ glob p.2 = true ∧ ((p.2.headD default).k = 4 → nless (p.2.headD default).v p.1 = true)
structure WF (H : Hp) : Prop where
 keys : (H.map (·.1)).Nodup
 ok : ∀ p ∈ H,okB p
theorem WF.nil : WF [] := ⟨List.nodup_nil,fun p h => by cases h⟩
theorem bindE_zero {H : Hp} {v : Nm} {t : List Cel} (h : bindE H v t = 0) : okB (v,t) ∧ lk H v = none := by
 unfold bindE at h
 split at h
 ·cases h
 ·rename_i h1
  split at h
  ·cases h
  ·rename_i h2
   split at h
   ·cases h
   ·rename_i h3
    simp only [Bool.or_eq_true,decide_eq_true_eq,Bool.not_eq_true',not_or,Bool.not_eq_false] at h1
    refine ⟨⟨by simp only; omega,h1.1.2,h1.2,fun hk => ?_⟩,by simpa using h2⟩
    simp only [Bool.and_eq_true,decide_eq_true_eq,Bool.not_eq_true',not_and,Bool.not_eq_false] at h3
    exact h3 hk
theorem bindE_of {H : Hp} {v : Nm} {t : List Cel} (h : okB (v,t)) (hl : lk H v = none) : bindE H v t = 0 := by
 obtain ⟨h1,h2,h3,h4⟩ := h
 simp only at h1 h2 h3 h4
 unfold bindE
 rw [if_neg,if_neg,if_neg]
 ·simp only [Bool.and_eq_true,decide_eq_true_eq,Bool.not_eq_true',not_and,Bool.not_eq_false]; exact h4
 ·simp [hl]
 ·simp only [Bool.or_eq_true,decide_eq_true_eq,Bool.not_eq_true',h2,h3]; simp; omega
theorem WF.bind {H : Hp} (h : WF H) (v : Nm) (t : List Cel) : WF (bindH H v t) := by
 unfold bindH
 split
 ·rename_i e
  obtain ⟨h1,h2⟩ := bindE_zero e
  refine ⟨?_,fun p hp => ?_⟩
  ·rw [List.map_append,List.nodup_append]
   refine ⟨h.keys,by simp,fun a ha b hb e => ?_⟩
   simp at hb
   rw [lk_none] at h2
   exact h2 (by rw [← hb,← e]; exact ha)
  ·rcases List.mem_append.1 hp with hp | hp
   ·exact h.ok p hp
   ·simp at hp; subst hp; exact h1
 ·exact h
def insR (x : Nm × List Cel) : Hp → Hp
 | [] => [x]
 | y :: r => if nless x.1 y.1 then x :: y :: r else y :: insR x r
def bindR (R : Hp) (v : Nm) (t : List Cel) : Hp := if bindE R v t = 0 then insR (v,t) R else R
def Rising (R : Hp) : Prop := R.Pairwise fun a b => nless a.1 b.1 = true
theorem insR_perm (x : Nm × List Cel) : ∀ R : Hp,(insR x R).Perm (x :: R)
 | [] => List.Perm.refl _
 | y :: r => by
  simp only [insR]
  split
  ·exact List.Perm.refl _
  ·exact ((insR_perm x r).cons y).trans (List.Perm.swap x y r)
theorem Rising.ins {x : Nm × List Cel} : ∀ {R : Hp},Rising R → lk R x.1 = none → Rising (insR x R)
 | [],_,_ => by simp [insR,Rising]
 | y :: r,h,hn => by
  have h' := h
  simp only [Rising,List.pairwise_cons] at h
  obtain ⟨h1,h2⟩ := h
  simp only [lk] at hn
  split at hn
  ·cases hn
  ·rename_i hne
   simp only [insR]
   split
   ·rename_i hl
    refine List.pairwise_cons.2 ⟨fun z hz => ?_,h'⟩
    rcases List.mem_cons.1 hz with rfl | hz
    ·exact hl
    ·exact nless_trans hl (h1 z hz)
   ·rename_i hl
    refine List.pairwise_cons.2 ⟨fun z hz => ?_,Rising.ins h2 hn⟩
    rcases List.mem_cons.1 ((insR_perm x r).mem_iff.1 hz) with rfl | hz
    ·exact nless_not (by simpa using hl) (fun e => hne e.symm)
    ·exact h1 z hz
structure Same (H R : Hp) : Prop where
 wf : WF H
 perm : H.Perm R
 rise : Rising R
theorem Same.nil : Same [] [] := ⟨WF.nil,List.Perm.refl _,List.Pairwise.nil⟩
theorem Same.lk {H R : Hp} (h : Same H R) (v : Nm) : lk H v = lk R v := lk_perm h.wf.keys h.perm v
theorem Same.bindE {H R : Hp} (h : Same H R) (v : Nm) (t : List Cel) : bindE H v t = bindE R v t := by simp only [Am.bindE,h.lk]
theorem Same.bind {H R : Hp} (h : Same H R) (v : Nm) (t : List Cel) : Same (bindH H v t) (bindR R v t) := by
 refine ⟨h.wf.bind v t,?_,?_⟩
 ·unfold bindH bindR
  rw [h.bindE]
  split
  ·exact ((List.perm_append_comm).trans (List.Perm.cons _ h.perm)).trans (insR_perm _ _).symm
  ·exact h.perm
 ·unfold bindR
  split
  ·rename_i e
   exact h.rise.ins (bindE_zero e).2
  ·exact h.rise
def hnext (H : Hp) (t : List Cel) : Option (List Cel) := if t.length = 1 ∧ (t.headD default).k = 4 then lk H (t.headD default).v else none
theorem WF.perm {H R : Hp} (h : WF H) (hp : H.Perm R) : WF R := ⟨(hp.map _).nodup_iff.1 h.keys,fun p hm => h.ok p (hp.mem_iff.2 hm)⟩
theorem Same.wfr {H R : Hp} (h : Same H R) : WF R := h.wf.perm h.perm
theorem Same.len {H R : Hp} (h : Same H R) : R.length = H.length := h.perm.length_eq.symm
def insN (x : Nm) : List Nm → List Nm
 | [] => [x]
 | y :: r => if nless x y then x :: y :: r else y :: insN x r
def sortN : List Nm → List Nm
 | [] => []
 | x :: r => insN x (sortN r)
abbrev UpN (l : List Nm) : Prop := l.Pairwise fun a b => nless b a = false
theorem insN_perm (x : Nm) : ∀ l,(insN x l).Perm (x :: l)
 | [] => List.Perm.refl _
 | y :: r => by
  simp only [insN]
  split
  ·exact List.Perm.refl _
  ·exact ((insN_perm x r).cons y).trans (List.Perm.swap x y r)
theorem sortN_perm : ∀ l,(sortN l).Perm l
 | [] => List.Perm.refl _
 | x :: r => (insN_perm x _).trans ((sortN_perm r).cons x)
theorem sortN_len (l : List Nm) : (sortN l).length = l.length := (sortN_perm l).length_eq
theorem nle_trans {a b c : Nm} (h : nless b a = false) (h' : nless c b = false) : nless c a = false := by
 simp only [nless,Bool.or_eq_false_iff,Bool.and_eq_false_iff,decide_eq_false_iff_not] at *; omega
theorem nle_antisymm {a b : Nm} (h : nless b a = false) (h' : nless a b = false) : a = b := by
 obtain ⟨a1,a2⟩ := a
 obtain ⟨b1,b2⟩ := b
 simp only [nless,Bool.or_eq_false_iff,Bool.and_eq_false_iff,decide_eq_false_iff_not] at *
 have : a1 = b1 := by omega
 have : a2 = b2 := by omega
 simp [*]
theorem insN_up (x : Nm) : ∀ {l : List Nm},UpN l → UpN (insN x l)
 | [],_ => by simp [insN]
 | y :: r,h => by
  have h' := h
  simp only [List.pairwise_cons] at h
  obtain ⟨h1,h2⟩ := h
  simp only [insN]
  split
  ·rename_i hl
   refine List.pairwise_cons.2 ⟨fun z hz => ?_,h'⟩
   rcases List.mem_cons.1 hz with rfl | hz
   ·exact nless_asymm hl
   ·exact nle_trans (nless_asymm hl) (h1 z hz)
  ·rename_i hl
   refine List.pairwise_cons.2 ⟨fun z hz => ?_,insN_up x h2⟩
   rcases List.mem_cons.1 ((insN_perm x r).mem_iff.1 hz) with rfl | hz
   ·simpa using hl
   ·exact h1 z hz
theorem sortN_up : ∀ l,UpN (sortN l)
 | [] => List.Pairwise.nil
 | x :: r => insN_up x (sortN_up r)
theorem up_one {a b : List Nm} (ha : UpN a) (hb : UpN b) (hp : a.Perm b) : a = b :=
 hp.eq_of_pairwise (fun x y _ _ h1 h2 => nle_antisymm h1 h2) ha hb
theorem sortN_of {l m : List Nm} (hm : UpN m) (hp : l.Perm m) : sortN l = m := up_one (sortN_up l) hm ((sortN_perm l).trans hp)
theorem Rising.up {R : Hp} (h : Rising R) : UpN (R.map (·.1)) := by
 simp only [Rising] at h
 exact List.pairwise_map.2 (h.imp fun h => nless_asymm h)
def ordF (x y : Nm) : Int := if nless x y = true then -1 else if x = y then 0 else 1
theorem ordF_lt (x y : Nm) : decide (ordF x y < 0) = nless x y := by
 unfold ordF
 split
 ·rename_i h; simp [h]
 ·rename_i h
  split <;> simp [h]
section
variable {P : Program} {cf : FuncId → FuncId} {E : Env} {κ : K}
def K.more (κ : K) (h' : Array Obj) : K := ⟨h',κ.σ,κ.loc,κ.base,κ.pend⟩
theorem K.more_le (hR : κ.R E cf) {h' : Array Obj} (hs : κ.h.size ≤ h'.size) (hh : ∀ b,b < κ.h.size → h'[b]? = κ.h[b]?) : κ.Le (κ.more h') :=
 K.Le.of rfl hs (fun b hb ho => ⟨hh b hb,ho⟩) (Nat.le_refl _) (fun _ _ h => ⟨h,rfl⟩) rfl (fun id x hx hp => K.OLe.same hx rfl (hh _ (hR.hi id (K.live_of hx hp))))
theorem K.more_R (hR : κ.R E cf) {h' : Array Obj} (hs : κ.h.size ≤ h'.size) (hh : ∀ b,b < κ.h.size → h'[b]? = κ.h[b]?) : (κ.more h').R E cf where
 ok := hR.ok
 obj := fun id x hx hp => K.O.le hR.lb (K.more_le hR hs hh) rfl (hh _ (hR.hi id (K.live_of hx hp))) (hR.obj id x hx hp)
 inj := hR.inj
 pl := hR.pl
 lb := fun i hi => ⟨hR.lo i hi,Nat.lt_of_lt_of_le (hR.hi i hi) hs⟩
 base := Nat.le_trans hR.base hs
def K.far (κ : K) (h' : Array Obj) (g : Nat) (x : AObj) : K := ⟨h',κ.σ ++ [x],fun i => if i = κ.σ.length then g else κ.loc i,κ.base,κ.pend⟩
theorem K.far_own (hR : κ.R E cf) (h' : Array Obj) (g : Nat) (x : AObj) (hg : κ.h.size ≤ g) (b : Nat) (hb : b < κ.h.size) (h : ¬ κ.own b) : ¬ (κ.far h' g x).own b := by
 rintro ⟨id,⟨hid,hp⟩,hl⟩
 simp only [K.far,List.length_append,List.length_singleton] at hid hl hp
 split at hl
 ·omega
 ·exact h ⟨id,⟨by omega,hp⟩,hl⟩
theorem K.far_le (hR : κ.R E cf) {h' : Array Obj} (hs : κ.h.size ≤ h'.size) (hh : ∀ b,b < κ.h.size → h'[b]? = κ.h[b]?) (g : Nat) (hg : κ.h.size ≤ g) (x : AObj) : κ.Le (κ.far h' g x) :=
 K.Le.of rfl hs (fun b hb ho => ⟨hh b hb,K.far_own hR h' g x hg b hb ho⟩) (by simp [K.far]) (fun i hi h => ⟨h,by simp only [K.far]; rw [List.getElem?_append_left hi]⟩) rfl
  (fun id y hy hp => by
   have hid := (List.getElem?_eq_some_iff.1 hy).1
   have hb := hR.hi id ⟨hid,hp⟩
   exact K.OLe.same (by simp only [K.far]; rw [List.getElem?_append_left hid]; exact hy) (by simp only [K.far]; rw [if_neg (by omega)]) (hh _ hb))
theorem K.far_R (hR : κ.R E cf) {h' : Array Obj} (hs : κ.h.size ≤ h'.size) (hh : ∀ b,b < κ.h.size → h'[b]? = κ.h[b]?) (g : Nat) (hg : κ.h.size ≤ g) (hg2 : g < h'.size) (x : AObj) (hO : (κ.far h' g x).O E cf κ.σ.length x) : (κ.far h' g x).R E cf where
 ok := hR.ok
 pl := fun i hi => by have := hR.pl i hi; simp only [K.far,List.length_append]; omega
 obj := fun id y hy hp => by
  simp only [K.far] at hy
  by_cases hid : id < κ.σ.length
  ·rw [List.getElem?_append_left hid] at hy
   have hb := hR.hi id ⟨hid,hp⟩
   exact K.O.le hR.lb (K.far_le hR hs hh g hg x) (by simp only [K.far]; rw [if_neg (by omega)]) (hh _ hb) (hR.obj id y hy hp)
  ·have hlt := (List.getElem?_eq_some_iff.1 hy).1
   simp only [List.length_append,List.length_singleton] at hlt
   obtain rfl : id = κ.σ.length := by omega
   rw [List.getElem?_append_right (Nat.le_refl _)] at hy
   simp at hy
   subst hy
   exact hO
 inj := fun i j ⟨hi,pi⟩ ⟨hj,pj⟩ h => by
  simp only [K.far,List.length_append,List.length_singleton] at hi hj h pi pj
  split at h <;> split at h
  ·omega
  ·have := hR.hi j ⟨by omega,pj⟩; omega
  ·have := hR.hi i ⟨by omega,pi⟩; omega
  ·exact hR.inj i j ⟨by omega,pi⟩ ⟨by omega,pj⟩ h
 lb := fun i ⟨hi,pi⟩ => by
  simp only [K.far,List.length_append,List.length_singleton] at hi pi ⊢
  split
  ·exact ⟨Nat.le_trans hR.base hg,hg2⟩
  ·have := hR.hi i ⟨by omega,pi⟩
   exact ⟨hR.lo i ⟨by omega,pi⟩,by omega⟩
 base := Nat.le_trans hR.base hs
theorem farArr_ok (hR : κ.R E cf) {h' : Array Obj} (hs : κ.h.size ≤ h'.size) (hh : ∀ b,b < κ.h.size → h'[b]? = κ.h[b]?) {g : Nat} (hg : κ.h.size ≤ g) {sz : Nat} {es : List AVal} {vs : List Value} {cells : Array Value} {rest : List Value} {e : TypeId} {cap : Nat}
  (hb : h'[g]? = some (.cells cells e (0,0))) (hv : cells.toList = vs ++ rest) (h0 : 0 < sz) (hel : AVal.elemsOk sz es) (hl : κ.VL E cf (es.flatMap AVal.cells) vs) (hcap : es.length ≤ cap) (hsize : cells.size = cap * sz) :
  (κ.far h' g (.arr sz es 0 0)).R E cf ∧ (κ.far h' g (.arr sz es 0 0)).V E cf (.slice sz κ.σ.length 0 0 es.length none) (.slice (some ⟨g,0,none⟩) es.length cap) := by
 have hat : (κ.far h' g (.arr sz es 0 0)).h[(κ.far h' g (.arr sz es 0 0)).loc κ.σ.length]? = some (.cells cells e (0,0)) := by simpa [K.far] using hb
 have hg2 : g < h'.size := (Array.getElem?_eq_some_iff.1 hb).1
 refine ⟨K.far_R hR hs hh g hg hg2 _ ⟨Nat.le_refl _,h0,hel,_,e,vs,rest,hat,hv,K.VL.le hR.lb (K.far_le hR hs hh g hg _) hl⟩,?_⟩
 refine .slice _ sz κ.σ.length 0 0 es.length none g 0 cap ⟨⟨hcap,hR.fresh⟩,by simp,h0,es,0,0,by simp [K.far,List.getElem?_append_right],Nat.le_refl _,fun _ => ⟨by simp,.inl ⟨by simp [K.far],.inl (by simp)⟩,fun _ _ => ⟨by omega,fun vs' e' f hv => ?_⟩⟩⟩
 rw [hat] at hv
 cases hv
 rw [hsize]; simp
def keysOf (σ : Store) : AVal → Option (List AVal)
 | .map id => match σ[id]? with
  | some (.map ks _) => some ks
  | _ => none
 | .fmap _ ks _ => some ks
 | _ => none
theorem keysOf_ok (hR : κ.R E cf) {x : AVal} {cx : Value} {ks : List AVal} (hx : κ.V E cf x cx) (h : keysOf κ.σ x = some ks) :
  ∃ b es clock,cx = .map (some b) ∧ κ.h[b]? = some (.map es clock) ∧ κ.VL E cf ks (es.toList.map (·.key)) ∧ Born es clock := by
 unfold keysOf at h
 split at h
 ·rename_i id
  split at h
  ·rename_i ks' vs' hid
   simp at h
   subst h
   cases hx with
   | map _ _ b hp =>
   obtain ⟨⟨_,hpd⟩,rfl⟩ := hp
   obtain ⟨es,clock,hb,h1,h2,h3⟩ := hR.obj id _ hid hpd
   exact ⟨_,es,clock,rfl,hb,h1,h3⟩
  ·simp at h
 ·simp at h
  subst h
  cases hx with
  | fmap _ t _ _ b clock es h1 h2 h3 h4 h5 h6 h7 =>
  exact ⟨b,es,clock,rfl,h2,VRelL.mono (fun _ _ h => ⟨h,rfl⟩) (noIds_le _) h3,h7⟩
 ·simp at h
def kvOf (σ : Store) : AVal → Option (List AVal × List AVal)
 | .map id => match σ[id]? with
  | some (.map ks vs) => some (ks,vs)
  | _ => none
 | .fmap _ ks vs => some (ks,vs)
 | _ => none
theorem kvOf_ok (hR : κ.R E cf) {x : AVal} {cx : Value} {ks vs : List AVal} (hx : κ.V E cf x cx) (h : kvOf κ.σ x = some (ks,vs)) :
  ∃ b es clock,cx = .map (some b) ∧ κ.h[b]? = some (.map es clock) ∧ κ.VL E cf ks (es.toList.map (·.key)) ∧ κ.VL E cf vs (es.toList.map (·.val)) ∧ Born es clock := by
 unfold kvOf at h
 split at h
 ·rename_i id
  split at h
  ·rename_i ks' vs' hid
   simp at h
   obtain ⟨rfl,rfl⟩ := h
   cases hx with
   | map _ _ b hp =>
   obtain ⟨⟨_,hpd⟩,rfl⟩ := hp
   obtain ⟨es,clock,hb,h1,h2,h3⟩ := hR.obj id _ hid hpd
   exact ⟨_,es,clock,rfl,hb,h1,h2,h3⟩
  ·simp at h
 ·simp at h
  obtain ⟨rfl,rfl⟩ := h
  cases hx with
  | fmap _ t _ _ b clock es h1 h2 h3 h4 h5 h6 h7 =>
  exact ⟨b,es,clock,rfl,h2,VRelL.mono (fun _ _ h => ⟨h,rfl⟩) (noIds_le _) h3,VRelL.mono (fun _ _ h => ⟨h,rfl⟩) (noIds_le _) h4,h7⟩
 ·simp at h
def natMC : List AVal → Store → Option (AVal × Store)
 | [m],σ => match kvOf σ m with
  | some (ks,vs) => some (.map σ.length,σ ++ [.map ks vs])
  | none => none
 | _,_ => none
theorem natMC_cases {args : List AVal} {σ σ' : Store} {v : AVal} (h : natMC args σ = some (v,σ')) : ∃ m ks vs,args = [m] ∧ kvOf σ m = some (ks,vs) ∧ v = .map σ.length ∧ σ' = σ ++ [.map ks vs] := by
 unfold natMC at h
 split at h
 ·split at h
  ·rename_i ks vs hk
   injection h with h
   injection h with h1 h2
   exact ⟨_,ks,vs,rfl,hk,h1.symm,h2.symm⟩
  ·cases h
 ·cases h
def nmOf : AVal → Option Nm
 | .agg [.int .i64 a,.int .i64 b] => some (a,b)
 | _ => none
def nmsOf : List AVal → Option (List Nm)
 | [] => some []
 | x :: r => match nmOf x,nmsOf r with
  | some n,some l => some (n :: l)
  | _,_ => none
theorem nmOf_eq {x : AVal} {n : Nm} (h : nmOf x = some n) : x = nmV n := by
 unfold nmOf at h
 split at h
 ·injection h with h; subst h; rfl
 ·cases h
theorem nmsOf_eq : ∀ {l : List AVal} {ns : List Nm},nmsOf l = some ns → l = ns.map nmV
 | [],ns,h => by simp [nmsOf] at h; subst h; rfl
 | x :: r,ns,h => by
  unfold nmsOf at h
  split at h
  ·rename_i n l h1 h2
   injection h with h
   subst h
   rw [nmOf_eq h1,nmsOf_eq h2]; rfl
  ·cases h
theorem nmsOf_map : ∀ (ns : List Nm),nmsOf (ns.map nmV) = some ns
 | [] => rfl
 | n :: r => by
  simp only [List.map_cons,nmsOf,nmsOf_map r]
  rfl
theorem nm_V {h : Array Obj} {S : Nat → Nat → Prop} {I : Ids} {n : Nm} {cv : Value} (hv : VRel cf h S I (nmV n) cv) : cv = .agg #[.int .i64 n.1,.int .i64 n.2] := by
 simp only [nmV] at hv
 cases hv with
 | agg _ _ vs hl h1 =>
 cases hl with
 | cons _ _ _ _ _ ha hl =>
 cases ha
 cases hl with
 | cons _ _ _ _ _ hb hl =>
 cases hb
 cases hl
 rfl
theorem nms_V {h : Array Obj} {S : Nat → Nat → Prop} {I : Ids} : ∀ {ns : List Nm} {cvs : List Value},VRelL cf h S I (ns.map nmV) cvs → cvs = ns.map fun n => .agg #[.int .i64 n.1,.int .i64 n.2]
 | [],_,h => by cases h; rfl
 | n :: r,_,h => by
  simp only [List.map_cons] at h
  cases h with
  | cons _ _ _ _ _ ha hl => rw [nm_V ha,nms_V hl]; rfl
theorem nms_VL {h : Array Obj} {S : Nat → Nat → Prop} {I : Ids} : ∀ (ns : List Nm),VRelL cf h S I ((ns.map nmV).flatMap AVal.cells) (ns.flatMap fun n => [.int .i64 n.1,.int .i64 n.2])
 | [] => .nil _
 | n :: r => .cons _ _ _ _ _ (.int _ _ _) (.cons _ _ _ _ _ (.int _ _ _) (nms_VL r))
theorem nms_elems (ns : List Nm) : AVal.elemsOk 2 (ns.map nmV) := fun e he => by
 obtain ⟨n,_,rfl⟩ := List.mem_map.1 he
 exact ⟨rfl,fun c hc => by simp [nmV] at hc; rcases hc with rfl | rfl <;> rfl⟩
def natSF (kf of_ : FuncId) : List AVal → Store → Option (AVal × Store)
 | [.func f [] [.ptr id 0],.func g [] []],σ => if f = kf ∧ g = of_ then match σ[id]? with
   | some (.cells [m]) => match keysOf σ m with
    | some ks => match nmsOf ks with
     | some ns => if ns.length ≤ 8796093022208 then some (match ns with | [] => (.nilslice,σ) | _ => (.slice 2 σ.length 0 0 ns.length none,σ ++ [.arr 2 ((sortN ns).map nmV) 0 0])) else none
     | none => none
    | none => none
   | _ => none
  else none
 | _,_ => none
theorem natSF_cases {kf of_ : FuncId} {args : List AVal} {σ σ' : Store} {v : AVal} (h : natSF kf of_ args σ = some (v,σ')) : ∃ id m ks ns,args = [.func kf [] [.ptr id 0],.func of_ [] []] ∧ σ[id]? = some (.cells [m]) ∧ keysOf σ m = some ks ∧ nmsOf ks = some ns ∧ ns.length ≤ 8796093022208 ∧
  ((ns = [] ∧ v = .nilslice ∧ σ' = σ) ∨ (ns ≠ [] ∧ v = .slice 2 σ.length 0 0 ns.length none ∧ σ' = σ ++ [.arr 2 ((sortN ns).map nmV) 0 0])) := by
 unfold natSF at h
 split at h
 ·split at h
  ·rename_i hfg
   obtain ⟨rfl,rfl⟩ := hfg
   split at h
   ·rename_i m hm
    split at h
    ·rename_i ks hks
     split at h
     ·rename_i ns hns
      split at h
      ·rename_i hlen
       injection h with h
       refine ⟨_,m,ks,ns,rfl,hm,hks,hns,hlen,?_⟩
       split at h
       ·injection h with h1 h2
        exact .inl ⟨rfl,h1.symm,h2.symm⟩
       ·rename_i hne
        injection h with h1 h2
        exact .inr ⟨fun e => hne e,h1.symm,h2.symm⟩
      ·cases h
     ·cases h
    ·cases h
   ·cases h
  ·cases h
 ·cases h
end
def natSO (of_ : FuncId) : List AVal → Store → Option (AVal × Store)
 | [.slice 2 id ep 0 len none,.func g [] []],σ => if g = of_ then match σ[id]? with
   | some (.arr 2 es ep' fl) => if ep' = ep ∧ es.length = len ∧ 0 < es.length ∧ es.length ≤ 8796093022208 then match nmsOf es with
     | some ns => some (.tuple [],σ.set id (.arr 2 ((sortN ns).map nmV) ep ep))
     | none => none
    else none
   | _ => none
  else none
 | [.nilslice,.func g [] []],σ => if g = of_ then some (.tuple [],σ) else none
 | [.fslice _ _ 2 [],.func g [] []],σ => if g = of_ then some (.tuple [],σ) else none
 | [.slice 2 _ _ _ 0 (some _),.func g [] []],σ => if g = of_ then some (.tuple [],σ) else none
 | _,_ => none
inductive Nix : AVal → Prop
 | nil : Nix .nilslice
 | fs (t : Nat) (fu : Bool) : Nix (.fslice t fu 2 [])
 | sl (id ep off c : Nat) : Nix (.slice 2 id ep off 0 (some c))
theorem natSO_nix (of_ : FuncId) {x : AVal} (h : Nix x) (σ : Store) : natSO of_ [x,.func of_ [] []] σ = some (.tuple [],σ) := by
 cases h <;> simp [natSO]
theorem natSO_cases {of_ : FuncId} {args : List AVal} {σ σ' : Store} {v : AVal} (h : natSO of_ args σ = some (v,σ')) :
  (∃ id ep ns fl,args = [.slice 2 id ep 0 ns.length none,.func of_ [] []] ∧ σ[id]? = some (.arr 2 (ns.map nmV) ep fl) ∧ 0 < ns.length ∧ ns.length ≤ 8796093022208 ∧ v = .tuple [] ∧ σ' = σ.set id (.arr 2 ((sortN ns).map nmV) ep ep)) ∨
  (∃ x,args = [x,.func of_ [] []] ∧ Nix x ∧ v = .tuple [] ∧ σ' = σ) := by
 unfold natSO at h
 split at h
 ·split at h
  ·rename_i hg
   subst hg
   split at h
   ·rename_i es ep' fl hid
    split at h
    ·rename_i hc
     obtain ⟨rfl,rfl,hp,hl⟩ := hc
     split at h
     ·rename_i ns hns
      injection h with h
      injection h with h1 h2
      have e := nmsOf_eq hns
      subst e
      refine .inl ⟨_,_,ns,fl,by simp,hid,by simpa using hp,by simpa using hl,h1.symm,h2.symm⟩
     ·cases h
    ·cases h
   ·cases h
  ·cases h
 ·split at h
  ·rename_i hg
   subst hg
   injection h with h
   injection h with h1 h2
   exact .inr ⟨_,rfl,.nil,h1.symm,h2.symm⟩
  ·cases h
 ·split at h
  ·rename_i hg
   subst hg
   injection h with h
   injection h with h1 h2
   exact .inr ⟨_,rfl,.fs _ _,h1.symm,h2.symm⟩
  ·cases h
 ·split at h
  ·rename_i hg
   subst hg
   injection h with h
   injection h with h1 h2
   exact .inr ⟨_,rfl,.sl _ _ _ _,h1.symm,h2.symm⟩
  ·cases h
 ·cases h
end Go.Proofs.YtelpjaejmneplaaGreatDoor.Am
namespace Go.Proofs.YtelpjaejmneplaaGreatDoor.Am.CU
open Go Go.Proofs.YtelpjaejmneplaaGreatDoor.Am
abbrev o (d : Nat) (x : AOp) : AOper := ⟨some d,x,none⟩
def a4 : AFunc := ⟨87,(.seq (.region [o 4 (.box (.tmp 1)),o 6 (.move (.const (.bool false)))]) (.seq (.region [o 16 (.move (.tmp 0)),o 17 (.call .shared 8 [.tmp 16]),o 15 (.move (.tmp 17)),o 18 (.extract (.tmp 15) 0),o 19 (.extract (.tmp 15) 1),o 7 (.move (.tmp 18)),o 8 (.move (.tmp 19))]) (.seq (.region [o 21 (.move (.tmp 7)),o 22 (.aaddr 2 2 (.tmp 4) (.const (.int .i64 0))),o 23 (.load 2 true (.tmp 22)),o 24 (.aaddr 2 2 (.tmp 4) (.const (.int .i64 1))),o 25 (.load 2 true (.tmp 24)),o 26 (.call .shared 23 [.tmp 21,.tmp 23,.tmp 25]),o 20 (.move (.tmp 26)),o 27 (.extract (.tmp 20) 0),o 28 (.extract (.tmp 20) 1),o 9 (.move (.tmp 27)),o 10 (.move (.tmp 28))]) (.seq (.region [o 30 (.move (.tmp 8)),o 31 (.aaddr 2 2 (.tmp 4) (.const (.int .i64 0))),o 32 (.load 2 true (.tmp 31)),o 33 (.aaddr 2 2 (.tmp 4) (.const (.int .i64 1))),o 34 (.load 2 true (.tmp 33)),o 35 (.call .shared 24 [.tmp 30,.tmp 32,.tmp 34]),o 29 (.move (.tmp 35)),o 36 (.extract (.tmp 29) 0),o 37 (.extract (.tmp 29) 1),o 11 (.move (.tmp 36)),o 12 (.move (.tmp 37))]) (.seq (.region [o 38 (.aaddr 2 2 (.tmp 4) (.const (.int .i64 0))),o 39 (.faddr 0 (.tmp 38)),o 40 (.load 1 false (.tmp 39)),o 41 (.move (.tmp 2)),o 42 (.call .shared 25 [.tmp 40,.tmp 41]),o 13 (.move (.tmp 42))]) (.seq (.seq (.drawn [o 43 (.call .iso 14 []),o 44 (.not (.tmp 43)),o 45 (.move (.tmp 44)),⟨some 46,.move (.tmp 9),some (45,false)⟩,⟨some 47,.move (.tmp 11),some (45,false)⟩,⟨some 48,.call .shared 15 [.tmp 46,.tmp 47],some (45,false)⟩,⟨some 49,.not (.tmp 48),some (45,false)⟩,o 50 (.pick (.tmp 45) (.const (.bool true)) (.tmp 49)),o 51 (.move (.tmp 50)),⟨some 52,.move (.tmp 10),some (51,false)⟩,⟨some 53,.move (.tmp 12),some (51,false)⟩,⟨some 54,.bop true (.tmp 52) (.tmp 53),some (51,false)⟩,o 55 (.pick (.tmp 51) (.const (.bool true)) (.tmp 54)),o 56 (.move (.tmp 55)),⟨some 57,.move (.tmp 7),some (56,false)⟩,⟨some 58,.aaddr 2 2 (.tmp 4) (.const (.int .i64 0)),some (56,false)⟩,⟨some 59,.load 2 true (.tmp 58),some (56,false)⟩,⟨some 60,.call .shared 26 [.tmp 57,.tmp 59],some (56,false)⟩,⟨some 61,.move (.tmp 8),some (56,false)⟩,⟨some 62,.aaddr 2 2 (.tmp 4) (.const (.int .i64 0)),some (56,false)⟩,⟨some 63,.load 2 true (.tmp 62),some (56,false)⟩,⟨some 64,.call .shared 27 [.tmp 61,.tmp 63],some (56,false)⟩,⟨some 65,.bop true (.tmp 60) (.tmp 64),some (56,false)⟩,o 66 (.pick (.tmp 56) (.const (.bool true)) (.tmp 65)),o 67 (.move (.tmp 66)),⟨some 68,.move (.tmp 13),some (67,false)⟩,⟨some 69,.aaddr 2 2 (.tmp 4) (.const (.int .i64 0)),some (67,false)⟩,⟨some 70,.faddr 0 (.tmp 69),some (67,false)⟩,⟨some 71,.load 1 false (.tmp 70),some (67,false)⟩,⟨some 72,.move (.tmp 2),some (67,false)⟩,⟨some 73,.call .shared 28 [.tmp 71,.tmp 72],some (67,false)⟩,⟨some 74,.call .shared 15 [.tmp 68,.tmp 73],some (67,false)⟩,⟨some 75,.not (.tmp 74),some (67,false)⟩,o 76 (.pick (.tmp 67) (.const (.bool true)) (.tmp 75))] [(20,17)]) (.cond (.tmp 76) (.seq (.region [o 6 (.move (.const (.bool false)))]) .ret) .skip)) (.seq (.region [o 77 (.build [.nilslice,.nilslice,.nilslice,.nilslice,.nilslice] []),o 78 (.box (.tmp 77)),o 14 (.move (.tmp 78))]) (.seq (.region [o 79 (.move (.tmp 14)),o 80 (.move (.tmp 9)),o 81 (.call .shared 19 [.tmp 79,.tmp 80])]) (.seq (.region [o 82 (.move (.tmp 14)),o 83 (.move (.tmp 13)),o 84 (.call .shared 19 [.tmp 82,.tmp 83])]) (.seq (.region [o 85 (.move (.tmp 14)),o 86 (.call .shared 20 [.tmp 85]),o 6 (.move (.tmp 86))]) .ret)))))))))),[.tmp 6]⟩
def a8 : AFunc := ⟨41,(.seq (.region [o 2 (.move (.const .nilptr)),o 3 (.move (.const .nilptr))]) (.seq (.region [o 7 (.call .shared 55 []),o 4 (.move (.tmp 7))]) (.seq (.region [o 8 (.call .shared 56 []),o 5 (.move (.tmp 8))]) (.seq (.seq (.region [o 6 (.move (.const (.int .i64 0)))]) (.block 0 (.loop [0,4,5,6] (.seq (.seq (.region [o 9 (.move (.tmp 6)),o 10 (.move (.tmp 0)),o 11 (.lenS (.tmp 10)),o 12 (.iop .lss (.tmp 9) (.tmp 11))]) (.cond (.tmp 12) .skip (.exit 0))) (.seq (.block 1 (.seq (.region [o 15 (.move (.tmp 4)),o 16 (.move (.tmp 0)),o 17 (.move (.tmp 6)),o 18 (.iaddr 3 (.tmp 16) (.tmp 17)),o 19 (.faddr 0 (.tmp 18)),o 20 (.load 2 true (.tmp 19)),o 21 (.move (.tmp 0)),o 22 (.move (.tmp 6)),o 23 (.iaddr 3 (.tmp 21) (.tmp 22)),o 24 (.faddr 2 (.tmp 23)),o 25 (.load 1 false (.tmp 24)),o 26 (.call .shared 57 [.tmp 15,.tmp 20,.tmp 25])]) (.region [o 27 (.move (.tmp 5)),o 28 (.move (.tmp 0)),o 29 (.move (.tmp 6)),o 30 (.iaddr 3 (.tmp 28) (.tmp 29)),o 31 (.faddr 0 (.tmp 30)),o 32 (.load 2 true (.tmp 31)),o 33 (.move (.tmp 0)),o 34 (.move (.tmp 6)),o 35 (.iaddr 3 (.tmp 33) (.tmp 34)),o 36 (.faddr 2 (.tmp 35)),o 37 (.load 1 false (.tmp 36)),o 38 (.call .shared 58 [.tmp 27,.tmp 32,.tmp 37])]))) (.region [o 13 (.move (.tmp 6)),o 14 (.iop .add (.tmp 13) (.const (.int .i64 1))),o 6 (.move (.tmp 14))])))))) (.seq (.region [o 39 (.move (.tmp 4)),o 40 (.move (.tmp 5)),o 2 (.move (.tmp 39)),o 3 (.move (.tmp 40))]) .ret))))),[.tmp 2,.tmp 3]⟩
def a11 : AFunc := ⟨15,(.seq (.region [o 4 (.move (.const .nilslice))]) (.seq (.region [o 8 (.move (.tmp 0)),o 9 (.move (.tmp 1)),o 10 (.call .shared 60 [.tmp 8,.tmp 9]),o 7 (.move (.tmp 10)),o 11 (.extract (.tmp 7) 0),o 12 (.extract (.tmp 7) 1),o 5 (.move (.tmp 11)),o 6 (.move (.tmp 12))]) (.seq (.region [o 13 (.move (.tmp 5)),o 14 (.call .shared 61 [.tmp 13]),o 4 (.move (.tmp 14))]) .ret))),[.tmp 4]⟩
def a12 : AFunc := ⟨41,(.seq (.region [o 4 (.move (.const .nilslice))]) (.seq (.region [o 13 (.move (.tmp 0)),o 14 (.move (.tmp 1)),o 15 (.call .shared 60 [.tmp 13,.tmp 14]),o 12 (.move (.tmp 15)),o 16 (.extract (.tmp 12) 0),o 17 (.extract (.tmp 12) 1),o 5 (.move (.tmp 16)),o 6 (.move (.tmp 17))]) (.seq (.region [o 7 (.move (.const .nilslice))]) (.seq (.seq (.region [o 18 (.move (.tmp 0)),o 19 (.call .shared 40 [.tmp 18]),o 20 (.lenS (.tmp 19)),o 21 (.move (.const (.int .i64 0)))]) (.block 0 (.loop [6,7,19,20,21] (.seq (.region [o 22 (.iop .lss (.tmp 21) (.tmp 20))]) (.seq (.cond (.tmp 22) .skip (.exit 0)) (.seq (.block 1 (.seq (.region [o 23 (.iaddr 3 (.tmp 19) (.tmp 21)),o 24 (.load 3 true (.tmp 23)),o 9 (.alloc [.int .i64 0,.int .i64 0,.nilslice]),⟨none,.store 3 (.tmp 9) (.tmp 24),none⟩]) (.seq (.region [o 26 (.move (.tmp 6)),o 27 (.faddr 0 (.tmp 9)),o 28 (.load 2 true (.tmp 27)),o 29 (.lookup true [.i,.i] (.agg [.int .i64 0,.int .i64 0]) (.tmp 26) (.tmp 28) true),o 25 (.move (.tmp 29)),o 30 (.extract (.tmp 25) 0),o 31 (.extract (.tmp 25) 1),o 10 (.alloc [.int .i64 0,.int .i64 0]),⟨none,.store 2 (.tmp 10) (.tmp 30),none⟩,o 11 (.move (.tmp 31))]) (.seq (.region [o 32 (.move (.tmp 11)),o 33 (.not (.tmp 32))]) (.cond (.tmp 33) (.region [o 34 (.move (.tmp 7)),o 35 (.faddr 0 (.tmp 9)),o 36 (.load 2 true (.tmp 35)),o 37 (.lit 2 [.int .i64 0,.int .i64 0] true 1 [(0,(.tmp 36))]),o 38 (.append 2 16 (.tmp 34) (.tmp 37)),o 7 (.move (.tmp 38))]) .skip))))) (.region [o 39 (.iop .add (.tmp 21) (.const (.int .i64 1))),o 21 (.move (.tmp 39))]))))))) (.seq (.region [o 40 (.move (.tmp 7)),o 4 (.move (.tmp 40))]) .ret))))),[.tmp 4]⟩
def a14 : AFunc := ⟨76,(.seq (.region [o 0 (.move (.const (.bool false)))]) (.seq (.region [o 7 (.call .shared 55 []),o 1 (.move (.tmp 7))]) (.seq (.region [o 8 (.build [.int .i64 0,.int .i64 0] [(1,1,(.const (.int .i64 1)))]),o 2 (.alloc [.int .i64 0,.int .i64 0]),⟨none,.store 2 (.tmp 2) (.tmp 8),none⟩]) (.seq (.region [o 9 (.build [.int .i64 0,.int .i64 0] [(1,1,(.const (.int .i64 2)))]),o 3 (.alloc [.int .i64 0,.int .i64 0]),⟨none,.store 2 (.tmp 3) (.tmp 9),none⟩]) (.seq (.region [o 10 (.move (.tmp 1)),o 11 (.load 2 true (.tmp 2)),o 12 (.build [.int .u8 0,(.str []),.int .i64 0,.int .i64 0,.int .i64 0] [(0,1,(.const (.int .u8 3))),(1,1,(.const (.str [102]))),(2,1,(.const (.int .i64 1)))]),o 13 (.load 2 true (.tmp 3)),o 14 (.build [.int .u8 0,(.str []),.int .i64 0,.int .i64 0,.int .i64 0] [(0,1,(.const (.int .u8 4))),(3,2,(.tmp 13))]),o 15 (.lit 5 [.int .u8 0,(.str []),.int .i64 0,.int .i64 0,.int .i64 0] true 2 [(0,(.tmp 12)),(1,(.tmp 14))]),o 16 (.call .shared 57 [.tmp 10,.tmp 11,.tmp 15])]) (.seq (.region [o 17 (.move (.tmp 1)),o 18 (.load 2 true (.tmp 3)),o 19 (.build [.int .u8 0,(.str []),.int .i64 0,.int .i64 0,.int .i64 0] [(0,1,(.const (.int .u8 3))),(1,1,(.const (.str [103]))),(2,1,(.const (.int .i64 1)))]),o 20 (.load 2 true (.tmp 2)),o 21 (.build [.int .u8 0,(.str []),.int .i64 0,.int .i64 0,.int .i64 0] [(0,1,(.const (.int .u8 4))),(3,2,(.tmp 20))]),o 22 (.lit 5 [.int .u8 0,(.str []),.int .i64 0,.int .i64 0,.int .i64 0] true 2 [(0,(.tmp 19)),(1,(.tmp 21))]),o 23 (.call .shared 57 [.tmp 17,.tmp 18,.tmp 22])]) (.seq (.region [o 24 (.move (.tmp 1)),o 25 (.load 2 true (.tmp 3)),o 26 (.lit 2 [.int .i64 0,.int .i64 0] true 1 [(0,(.tmp 25))]),o 27 (.call .shared 11 [.tmp 24,.tmp 26]),o 4 (.move (.tmp 27))]) (.seq (.region [o 29 (.move (.tmp 1)),o 30 (.load 2 true (.tmp 2)),o 31 (.load 2 true (.tmp 3)),o 32 (.call .shared 23 [.tmp 29,.tmp 30,.tmp 31]),o 28 (.move (.tmp 32)),o 33 (.extract (.tmp 28) 0),o 34 (.extract (.tmp 28) 1),o 5 (.move (.tmp 33)),o 6 (.move (.tmp 34))]) (.seq (.region [o 35 (.move (.tmp 4)),o 36 (.lenS (.tmp 35)),o 37 (.iop .eql (.tmp 36) (.const (.int .i64 2))),o 38 (.move (.tmp 37)),⟨some 39,.move (.tmp 4),some (38,true)⟩,⟨some 40,.iaddr 2 (.tmp 39) (.const (.int .i64 0)),some (38,true)⟩,⟨some 41,.load 2 true (.tmp 40),some (38,true)⟩,⟨some 42,.load 2 true (.tmp 2),some (38,true)⟩,⟨some 43,.eqs false [.i,.i] (.tmp 41) (.tmp 42),some (38,true)⟩,o 44 (.pick (.tmp 38) (.tmp 43) (.const (.bool false))),o 45 (.move (.tmp 44)),⟨some 46,.move (.tmp 4),some (45,true)⟩,⟨some 47,.iaddr 2 (.tmp 46) (.const (.int .i64 1)),some (45,true)⟩,⟨some 48,.load 2 true (.tmp 47),some (45,true)⟩,⟨some 49,.load 2 true (.tmp 3),some (45,true)⟩,⟨some 50,.eqs false [.i,.i] (.tmp 48) (.tmp 49),some (45,true)⟩,o 51 (.pick (.tmp 45) (.tmp 50) (.const (.bool false))),o 52 (.move (.tmp 51)),⟨some 53,.move (.tmp 6),some (52,true)⟩,o 54 (.pick (.tmp 52) (.tmp 53) (.const (.bool false))),o 55 (.move (.tmp 54)),⟨some 56,.move (.tmp 5),some (55,true)⟩,⟨some 57,.lenS (.tmp 56),some (55,true)⟩,⟨some 58,.iop .eql (.tmp 57) (.const (.int .i64 2)),some (55,true)⟩,o 59 (.pick (.tmp 55) (.tmp 58) (.const (.bool false))),o 60 (.move (.tmp 59)),⟨some 61,.move (.tmp 1),some (60,true)⟩,⟨some 62,.load 2 true (.tmp 2),some (60,true)⟩,⟨some 63,.call .shared 26 [.tmp 61,.tmp 62],some (60,true)⟩,o 64 (.pick (.tmp 60) (.tmp 63) (.const (.bool false))),o 65 (.move (.tmp 64)),⟨some 66,.move (.tmp 1),some (65,true)⟩,⟨some 67,.call .shared 12 [.tmp 66,.const .nilslice],some (65,true)⟩,⟨some 68,.lenS (.tmp 67),some (65,true)⟩,⟨some 69,.iop .eql (.tmp 68) (.const (.int .i64 2)),some (65,true)⟩,o 70 (.pick (.tmp 65) (.tmp 69) (.const (.bool false))),o 71 (.move (.tmp 70)),⟨some 72,.load 2 true (.tmp 2),some (71,true)⟩,⟨some 73,.call .shared 26 [.const .nilptr,.tmp 72],some (71,true)⟩,⟨some 74,.not (.tmp 73),some (71,true)⟩,o 75 (.pick (.tmp 71) (.tmp 74) (.const (.bool false))),o 0 (.move (.tmp 75))]) .ret))))))))),[.tmp 0]⟩
def a15 : AFunc := ⟨26,(.seq (.region [o 4 (.move (.const (.bool false)))]) (.seq (.seq (.region [o 6 (.move (.tmp 0)),o 7 (.lenS (.tmp 6)),o 8 (.move (.tmp 1)),o 9 (.lenS (.tmp 8)),o 10 (.iop .neq (.tmp 7) (.tmp 9))]) (.cond (.tmp 10) (.seq (.region [o 4 (.move (.const (.bool false)))]) .ret) .skip)) (.seq (.seq (.region [o 5 (.move (.const (.int .i64 0)))]) (.block 0 (.loop [0,1,5] (.seq (.seq (.region [o 11 (.move (.tmp 5)),o 12 (.move (.tmp 0)),o 13 (.lenS (.tmp 12)),o 14 (.iop .lss (.tmp 11) (.tmp 13))]) (.cond (.tmp 14) .skip (.exit 0))) (.seq (.block 1 (.seq (.region [o 17 (.move (.tmp 0)),o 18 (.move (.tmp 5)),o 19 (.iaddr 2 (.tmp 17) (.tmp 18)),o 20 (.load 2 true (.tmp 19)),o 21 (.move (.tmp 1)),o 22 (.move (.tmp 5)),o 23 (.iaddr 2 (.tmp 21) (.tmp 22)),o 24 (.load 2 true (.tmp 23)),o 25 (.eqs true [.i,.i] (.tmp 20) (.tmp 24))]) (.cond (.tmp 25) (.seq (.region [o 4 (.move (.const (.bool false)))]) .ret) .skip))) (.region [o 15 (.move (.tmp 5)),o 16 (.iop .add (.tmp 15) (.const (.int .i64 1))),o 5 (.move (.tmp 16))])))))) (.seq (.region [o 4 (.move (.const (.bool true)))]) .ret)))),[.tmp 4]⟩
def a16 : AFunc := ⟨64,(.seq (.region [o 4 (.move (.const .nilslice))]) (.seq (.region [o 5 (.move (.const .nilslice))]) (.seq (.seq (.region [o 6 (.move (.const (.int .i64 0)))]) (.block 0 (.loop [0,1,5,6] (.seq (.seq (.region [o 10 (.move (.tmp 6)),o 11 (.move (.tmp 1)),o 12 (.lenS (.tmp 11)),o 13 (.iop .lss (.tmp 10) (.tmp 12))]) (.cond (.tmp 13) .skip (.exit 0))) (.seq (.block 1 (.seq (.region [o 16 (.move (.tmp 5)),o 17 (.move (.tmp 1)),o 18 (.move (.tmp 6)),o 19 (.iaddr 2 (.tmp 17) (.tmp 18)),o 20 (.load 2 true (.tmp 19)),o 21 (.call .shared 63 [.tmp 16,.tmp 20]),o 22 (.not (.tmp 21))]) (.cond (.tmp 22) (.region [o 23 (.move (.tmp 5)),o 24 (.move (.tmp 1)),o 25 (.move (.tmp 6)),o 26 (.iaddr 2 (.tmp 24) (.tmp 25)),o 27 (.load 2 true (.tmp 26)),o 28 (.lit 2 [.int .i64 0,.int .i64 0] true 1 [(0,(.tmp 27))]),o 29 (.append 2 16 (.tmp 23) (.tmp 28)),o 5 (.move (.tmp 29))]) .skip))) (.region [o 14 (.move (.tmp 6)),o 15 (.iop .add (.tmp 14) (.const (.int .i64 1))),o 6 (.move (.tmp 15))])))))) (.seq (.seq (.region [o 7 (.move (.const (.int .i64 0)))]) (.block 2 (.loop [0,5,7] (.seq (.seq (.region [o 30 (.move (.tmp 7)),o 31 (.move (.tmp 5)),o 32 (.lenS (.tmp 31)),o 33 (.iop .lss (.tmp 30) (.tmp 32))]) (.cond (.tmp 33) .skip (.exit 2))) (.seq (.block 3 (.seq (.region [o 36 (.move (.tmp 0)),o 37 (.move (.tmp 5)),o 38 (.move (.tmp 7)),o 39 (.iaddr 2 (.tmp 37) (.tmp 38)),o 40 (.load 2 true (.tmp 39)),o 41 (.call .shared 64 [.tmp 36,.tmp 40]),o 8 (.move (.tmp 41))]) (.seq (.region [o 9 (.move (.const (.int .i64 0)))]) (.block 4 (.loop [0,5,7,8,9] (.seq (.seq (.region [o 42 (.move (.tmp 9)),o 43 (.move (.tmp 8)),o 44 (.lenS (.tmp 43)),o 45 (.iop .lss (.tmp 42) (.tmp 44))]) (.cond (.tmp 45) .skip (.exit 4))) (.seq (.block 5 (.seq (.region [o 48 (.move (.tmp 5)),o 49 (.move (.tmp 8)),o 50 (.move (.tmp 9)),o 51 (.iaddr 2 (.tmp 49) (.tmp 50)),o 52 (.load 2 true (.tmp 51)),o 53 (.call .shared 63 [.tmp 48,.tmp 52]),o 54 (.not (.tmp 53))]) (.cond (.tmp 54) (.region [o 55 (.move (.tmp 5)),o 56 (.move (.tmp 8)),o 57 (.move (.tmp 9)),o 58 (.iaddr 2 (.tmp 56) (.tmp 57)),o 59 (.load 2 true (.tmp 58)),o 60 (.lit 2 [.int .i64 0,.int .i64 0] true 1 [(0,(.tmp 59))]),o 61 (.append 2 16 (.tmp 55) (.tmp 60)),o 5 (.move (.tmp 61))]) .skip))) (.region [o 46 (.move (.tmp 9)),o 47 (.iop .add (.tmp 46) (.const (.int .i64 1))),o 9 (.move (.tmp 47))])))))))) (.region [o 34 (.move (.tmp 7)),o 35 (.iop .add (.tmp 34) (.const (.int .i64 1))),o 7 (.move (.tmp 35))])))))) (.seq (.region [o 62 (.move (.tmp 5)),o 63 (.call .shared 65 [.const .nilslice,.tmp 62]),o 4 (.move (.tmp 63))]) .ret))))),[.tmp 4]⟩
def a19 : AFunc := ⟨14,(.region [o 4 (.move (.tmp 0)),o 5 (.move (.tmp 0)),o 6 (.nilCheck (.tmp 5)),o 7 (.faddr 4 (.tmp 6)),o 8 (.load 1 false (.tmp 7)),o 9 (.move (.tmp 1)),o 10 (.lit 1 [.nilslice] false 1 [(0,(.tmp 9))]),o 11 (.append 1 24 (.tmp 8) (.tmp 10)),o 12 (.nilCheck (.tmp 4)),o 13 (.faddr 4 (.tmp 12)),⟨none,.store 1 (.tmp 13) (.tmp 11),none⟩]),[]⟩
def a20 : AFunc := ⟨26,(.seq (.region [o 2 (.move (.const (.bool false)))]) (.seq (.region [o 4 (.move (.tmp 0)),o 5 (.call .shared 67 [.tmp 4]),o 6 (.move (.tmp 5)),⟨some 7,.move (.tmp 0),some (6,true)⟩,⟨some 8,.call .shared 68 [.tmp 7],some (6,true)⟩,o 9 (.pick (.tmp 6) (.tmp 8) (.const (.bool false))),o 10 (.move (.tmp 9)),⟨some 11,.move (.tmp 0),some (10,true)⟩,⟨some 12,.call .shared 69 [.tmp 11],some (10,true)⟩,o 13 (.pick (.tmp 10) (.tmp 12) (.const (.bool false))),o 14 (.move (.tmp 13)),⟨some 15,.move (.tmp 0),some (14,true)⟩,⟨some 16,.call .shared 70 [.tmp 15],some (14,true)⟩,o 17 (.pick (.tmp 14) (.tmp 16) (.const (.bool false))),o 18 (.move (.tmp 17)),⟨some 19,.move (.tmp 0),some (18,true)⟩,⟨some 20,.call .shared 71 [.tmp 19],some (18,true)⟩,o 21 (.pick (.tmp 18) (.tmp 20) (.const (.bool false))),o 3 (.move (.tmp 21))]) (.seq (.region [o 22 (.move (.tmp 0)),o 23 (.build [.nilslice,.nilslice,.nilslice,.nilslice,.nilslice] []),o 24 (.nilCheck (.tmp 22)),⟨none,.store 5 (.tmp 24) (.tmp 23),none⟩]) (.seq (.region [o 25 (.move (.tmp 3)),o 2 (.move (.tmp 25))]) .ret)))),[.tmp 2]⟩
def a23 : AFunc := ⟨43,(.seq (.region [o 4 (.box (.tmp 1)),o 5 (.box (.tmp 2)),o 6 (.move (.const .nilslice)),o 7 (.move (.const (.bool false)))]) (.seq (.region [o 14 (.move (.tmp 0)),o 15 (.load 2 true (.tmp 4)),o 16 (.litA 2 [.int .i64 0,.int .i64 0] true 1 [(0,(.tmp 15))]),o 17 (.call .shared 60 [.tmp 14,.tmp 16]),o 13 (.move (.tmp 17)),o 18 (.extract (.tmp 13) 0),o 19 (.extract (.tmp 13) 1),o 8 (.move (.tmp 18)),o 9 (.move (.tmp 19))]) (.seq (.seq (.region [o 21 (.move (.tmp 9)),o 22 (.load 2 true (.tmp 5)),o 23 (.lookup true [.i,.i] (.agg [.int .i64 0,.int .i64 0]) (.tmp 21) (.tmp 22) true),o 20 (.move (.tmp 23)),o 24 (.extract (.tmp 20) 0),o 25 (.extract (.tmp 20) 1),o 10 (.alloc [.int .i64 0,.int .i64 0]),⟨none,.store 2 (.tmp 10) (.tmp 24),none⟩,o 11 (.move (.tmp 25))]) (.seq (.region [o 26 (.move (.tmp 11)),o 27 (.not (.tmp 26))]) (.cond (.tmp 27) (.seq (.region [o 6 (.move (.const .nilslice)),o 7 (.move (.const (.bool false)))]) .ret) .skip))) (.seq (.region [o 28 (.load 2 true (.tmp 5)),o 29 (.litA 2 [.int .i64 0,.int .i64 0] true 1 [(0,(.tmp 28))]),o 12 (.move (.tmp 29))]) (.seq (.block 0 (.loop [4,5,9,12] (.seq (.seq (.region [o 30 (.load 2 true (.tmp 5)),o 31 (.load 2 true (.tmp 4)),o 32 (.eqs true [.i,.i] (.tmp 30) (.tmp 31))]) (.cond (.tmp 32) .skip (.exit 0))) (.block 1 (.seq (.region [o 33 (.move (.tmp 9)),o 34 (.load 2 true (.tmp 5)),o 35 (.lookup true [.i,.i] (.agg [.int .i64 0,.int .i64 0]) (.tmp 33) (.tmp 34) false),⟨none,.store 2 (.tmp 5) (.tmp 35),none⟩]) (.region [o 36 (.move (.tmp 12)),o 37 (.load 2 true (.tmp 5)),o 38 (.litA 2 [.int .i64 0,.int .i64 0] true 1 [(0,(.tmp 37))]),o 39 (.append 2 16 (.tmp 36) (.tmp 38)),o 12 (.move (.tmp 39))])))))) (.seq (.region [o 40 (.move (.tmp 12)),o 41 (.call .shared 73 [.tmp 40])]) (.seq (.region [o 42 (.move (.tmp 12)),o 6 (.move (.tmp 42)),o 7 (.move (.const (.bool true)))]) .ret))))))),[.tmp 6,.tmp 7]⟩
def a24 : AFunc := ⟨82,(.seq (.region [o 4 (.box (.tmp 1)),o 5 (.box (.tmp 2)),o 6 (.move (.const .nilslice)),o 7 (.move (.const (.bool false)))]) (.seq (.region [o 14 (.load 2 true (.tmp 4)),o 15 (.lit 2 [.int .i64 0,.int .i64 0] true 1 [(0,(.tmp 14))]),o 8 (.move (.tmp 15))]) (.seq (.region [o 16 (.load 2 true (.tmp 4)),o 17 (.lit 2 [.int .i64 0,.int .i64 0] true 1 [(0,(.tmp 16))]),o 18 (.lit 1 [.nilslice] false 1 [(0,(.tmp 17))]),o 9 (.move (.tmp 18))]) (.seq (.seq (.region [o 10 (.move (.const (.int .i64 0)))]) (.block 0 (.loop [0,5,8,9,10] (.seq (.seq (.region [o 19 (.move (.tmp 10)),o 20 (.move (.tmp 9)),o 21 (.lenS (.tmp 20)),o 22 (.iop .lss (.tmp 19) (.tmp 21))]) (.cond (.tmp 22) .skip (.exit 0))) (.seq (.block 1 (.seq (.drawn [o 25 (.move (.tmp 9)),o 26 (.move (.tmp 10)),o 27 (.iaddr 1 (.tmp 25) (.tmp 26)),o 28 (.load 1 false (.tmp 27)),o 29 (.move (.tmp 9)),o 30 (.move (.tmp 10)),o 31 (.iaddr 1 (.tmp 29) (.tmp 30)),o 32 (.load 1 false (.tmp 31)),o 33 (.lenS (.tmp 32)),o 34 (.iop .sub (.tmp 33) (.const (.int .i64 1))),o 35 (.iaddr 2 (.tmp 28) (.tmp 34)),o 36 (.load 2 true (.tmp 35)),o 11 (.alloc [.int .i64 0,.int .i64 0]),⟨none,.store 2 (.tmp 11) (.tmp 36),none⟩] [(3,12),(7,12),(11,12)]) (.seq (.seq (.region [o 37 (.load 2 true (.tmp 11)),o 38 (.load 2 true (.tmp 5)),o 39 (.eqs false [.i,.i] (.tmp 37) (.tmp 38))]) (.cond (.tmp 39) (.seq (.region [o 40 (.move (.tmp 9)),o 41 (.move (.tmp 10)),o 42 (.iaddr 1 (.tmp 40) (.tmp 41)),o 43 (.load 1 false (.tmp 42)),o 6 (.move (.tmp 43)),o 7 (.move (.const (.bool true)))]) .ret) .skip)) (.seq (.region [o 44 (.move (.tmp 0)),o 45 (.load 2 true (.tmp 11)),o 46 (.call .shared 64 [.tmp 44,.tmp 45]),o 12 (.move (.tmp 46))]) (.seq (.region [o 13 (.move (.const (.int .i64 0)))]) (.block 2 (.loop [0,5,8,9,10,12,13] (.seq (.seq (.region [o 47 (.move (.tmp 13)),o 48 (.move (.tmp 12)),o 49 (.lenS (.tmp 48)),o 50 (.iop .lss (.tmp 47) (.tmp 49))]) (.cond (.tmp 50) .skip (.exit 2))) (.seq (.block 3 (.seq (.region [o 53 (.move (.tmp 8)),o 54 (.move (.tmp 12)),o 55 (.move (.tmp 13)),o 56 (.iaddr 2 (.tmp 54) (.tmp 55)),o 57 (.load 2 true (.tmp 56)),o 58 (.call .shared 63 [.tmp 53,.tmp 57]),o 59 (.not (.tmp 58))]) (.cond (.tmp 59) (.seq (.region [o 60 (.move (.tmp 8)),o 61 (.move (.tmp 12)),o 62 (.move (.tmp 13)),o 63 (.iaddr 2 (.tmp 61) (.tmp 62)),o 64 (.load 2 true (.tmp 63)),o 65 (.lit 2 [.int .i64 0,.int .i64 0] true 1 [(0,(.tmp 64))]),o 66 (.append 2 16 (.tmp 60) (.tmp 65)),o 8 (.move (.tmp 66))]) (.drawn [o 67 (.move (.tmp 9)),o 68 (.lit 2 [.int .i64 0,.int .i64 0] true 0 []),o 69 (.move (.tmp 9)),o 70 (.move (.tmp 10)),o 71 (.iaddr 1 (.tmp 69) (.tmp 70)),o 72 (.load 1 false (.tmp 71)),o 73 (.append 2 16 (.tmp 68) (.tmp 72)),o 74 (.move (.tmp 12)),o 75 (.move (.tmp 13)),o 76 (.iaddr 2 (.tmp 74) (.tmp 75)),o 77 (.load 2 true (.tmp 76)),o 78 (.lit 2 [.int .i64 0,.int .i64 0] true 1 [(0,(.tmp 77))]),o 79 (.append 2 16 (.tmp 73) (.tmp 78)),o 80 (.lit 1 [.nilslice] false 1 [(0,(.tmp 79))]),o 81 (.append 1 24 (.tmp 67) (.tmp 80)),o 9 (.move (.tmp 81))] [(10,6)])) .skip))) (.region [o 51 (.move (.tmp 13)),o 52 (.iop .add (.tmp 51) (.const (.int .i64 1))),o 13 (.move (.tmp 52))])))))))))) (.region [o 23 (.move (.tmp 10)),o 24 (.iop .add (.tmp 23) (.const (.int .i64 1))),o 10 (.move (.tmp 24))])))))) (.seq (.region [o 6 (.move (.const .nilslice)),o 7 (.move (.const (.bool false)))]) .ret))))),[.tmp 6,.tmp 7]⟩
def a25 : AFunc := ⟨10,(.seq (.region [o 2 (.box (.tmp 0)),o 4 (.move (.const .nilslice))]) (.seq (.region [o 5 (.move (.tmp 1)),o 6 (.call .shared 75 [.tmp 5]),o 7 (.mkfunc 76 [] [.tmp 2]),o 8 (.call .shared 74 [.tmp 6,.tmp 7]),o 9 (.call .shared 61 [.tmp 8]),o 4 (.move (.tmp 9))]) .ret)),[.tmp 4]⟩
def a26 : AFunc := ⟨18,(.seq (.region [o 3 (.box (.tmp 1)),o 4 (.move (.const (.bool false)))]) (.seq (.region [o 8 (.move (.tmp 0)),o 9 (.move (.tmp 0)),o 10 (.load 2 true (.tmp 3)),o 11 (.call .shared 77 [.tmp 9,.tmp 10]),o 12 (.call .shared 60 [.tmp 8,.tmp 11]),o 7 (.move (.tmp 12)),o 13 (.extract (.tmp 7) 0),o 14 (.extract (.tmp 7) 1),o 5 (.move (.tmp 13)),o 6 (.move (.tmp 14))]) (.seq (.region [o 15 (.move (.tmp 5)),o 16 (.load 2 true (.tmp 3)),o 17 (.call .shared 78 [.tmp 15,.tmp 16]),o 4 (.move (.tmp 17))]) .ret))),[.tmp 4]⟩
def a27 : AFunc := ⟨12,(.seq (.region [o 3 (.box (.tmp 1)),o 4 (.move (.const (.bool false)))]) (.seq (.drawn [o 5 (.move (.tmp 0)),o 6 (.move (.tmp 0)),o 7 (.load 2 true (.tmp 3)),o 8 (.call .shared 64 [.tmp 6,.tmp 7]),o 9 (.call .shared 16 [.tmp 5,.tmp 8]),o 10 (.load 2 true (.tmp 3)),o 11 (.call .shared 63 [.tmp 9,.tmp 10]),o 4 (.move (.tmp 11))] [(5,3),(5,4)]) .ret)),[.tmp 4]⟩
def a28 : AFunc := ⟨29,(.seq (.region [o 4 (.move (.const .nilslice))]) (.seq (.region [o 5 (.move (.const .nilslice))]) (.seq (.seq (.region [o 6 (.move (.const (.int .i64 0)))]) (.block 0 (.loop [0,1,5,6] (.seq (.seq (.region [o 7 (.move (.tmp 6)),o 8 (.move (.tmp 1)),o 9 (.lenS (.tmp 8)),o 10 (.iop .lss (.tmp 7) (.tmp 9))]) (.cond (.tmp 10) .skip (.exit 0))) (.seq (.block 1 (.seq (.region [o 13 (.move (.tmp 1)),o 14 (.move (.tmp 6)),o 15 (.iaddr 2 (.tmp 13) (.tmp 14)),o 16 (.faddr 0 (.tmp 15)),o 17 (.load 1 false (.tmp 16)),o 18 (.move (.tmp 0)),o 19 (.iop .neq (.tmp 17) (.tmp 18))]) (.cond (.tmp 19) (.region [o 20 (.move (.tmp 5)),o 21 (.move (.tmp 1)),o 22 (.move (.tmp 6)),o 23 (.iaddr 2 (.tmp 21) (.tmp 22)),o 24 (.load 2 true (.tmp 23)),o 25 (.lit 2 [.int .i64 0,.int .i64 0] true 1 [(0,(.tmp 24))]),o 26 (.append 2 16 (.tmp 20) (.tmp 25)),o 5 (.move (.tmp 26))]) .skip))) (.region [o 11 (.move (.tmp 6)),o 12 (.iop .add (.tmp 11) (.const (.int .i64 1))),o 6 (.move (.tmp 12))])))))) (.seq (.region [o 27 (.move (.tmp 5)),o 28 (.call .shared 65 [.const .nilslice,.tmp 27]),o 4 (.move (.tmp 28))]) .ret)))),[.tmp 4]⟩
def a40 : AFunc := ⟨33,(.seq (.region [o 2 (.move (.const .nilslice))]) (.seq (.seq (.region [o 6 (.move (.tmp 0)),o 7 (.eqnil false .p (.tmp 6))]) (.cond (.tmp 7) (.seq (.region [o 2 (.move (.const .nilslice))]) .ret) .skip)) (.seq (.region [o 3 (.move (.const .nilslice))]) (.seq (.seq (.region [o 8 (.move (.tmp 0)),o 9 (.nilCheck (.tmp 8)),o 10 (.faddr 0 (.tmp 9)),o 11 (.load 1 false (.tmp 10)),o 12 (.call .shared 94 [.tmp 11]),o 13 (.call .shared 93 [.tmp 12,(.const (.func 95 [] []))]),o 14 (.lenS (.tmp 13)),o 15 (.move (.const (.int .i64 0)))]) (.block 0 (.loop [0,3,13,14,15] (.seq (.region [o 16 (.iop .lss (.tmp 15) (.tmp 14))]) (.seq (.cond (.tmp 16) .skip (.exit 0)) (.seq (.block 1 (.seq (.region [o 17 (.iaddr 2 (.tmp 13) (.tmp 15)),o 18 (.load 2 true (.tmp 17)),o 5 (.alloc [.int .i64 0,.int .i64 0]),⟨none,.store 2 (.tmp 5) (.tmp 18),none⟩]) (.drawn [o 19 (.move (.tmp 3)),o 20 (.load 2 true (.tmp 5)),o 21 (.move (.tmp 0)),o 22 (.nilCheck (.tmp 21)),o 23 (.faddr 0 (.tmp 22)),o 24 (.load 1 false (.tmp 23)),o 25 (.load 2 true (.tmp 5)),o 26 (.lookup true [.i,.i] .nilslice (.tmp 24) (.tmp 25) false),o 27 (.call .shared 82 [.tmp 26]),o 28 (.build [.int .i64 0,.int .i64 0,.nilslice] [(0,2,(.tmp 20)),(2,1,(.tmp 27))]),o 29 (.lit 3 [.int .i64 0,.int .i64 0,.nilslice] true 1 [(0,(.tmp 28))]),o 30 (.append 3 40 (.tmp 19) (.tmp 29)),o 3 (.move (.tmp 30))] [(1,8)]))) (.region [o 31 (.iop .add (.tmp 15) (.const (.int .i64 1))),o 15 (.move (.tmp 31))]))))))) (.seq (.region [o 32 (.move (.tmp 3)),o 2 (.move (.tmp 32))]) .ret))))),[.tmp 2]⟩
def a55 : AFunc := ⟨4,(.seq (.region [o 0 (.move (.const .nilptr))]) (.seq (.region [o 1 .mkmap,o 2 (.build [.nilmap] [(0,1,(.tmp 1))]),o 3 (.box (.tmp 2)),o 0 (.move (.tmp 3))]) .ret)),[.tmp 0]⟩
def a56 : AFunc := ⟨3,(.seq (.region [o 0 (.move (.const .nilptr))]) (.seq (.region [o 1 (.build [.nilslice] []),o 2 (.box (.tmp 1)),o 0 (.move (.tmp 2))]) .ret)),[.tmp 0]⟩
def a57 : AFunc := ⟨56,(.seq (.region [o 4 (.box (.tmp 1)),o 6 (.move (.const (.int .i64 0)))]) (.seq (.seq (.region [o 9 (.move (.tmp 0)),o 10 (.eqnil false .p (.tmp 9))]) (.cond (.tmp 10) (.seq (.region [o 6 (.move (.const (.int .i64 1)))]) .ret) .skip)) (.seq (.seq (.region [o 11 (.faddr 0 (.tmp 4)),o 12 (.load 1 false (.tmp 11)),o 13 (.iop .lss (.tmp 12) (.const (.int .i64 0))),o 14 (.move (.tmp 13)),⟨some 15,.load 2 true (.tmp 4),some (14,false)⟩,⟨some 16,.call .shared 112 [.tmp 15],some (14,false)⟩,⟨some 17,.lenS (.tmp 16),some (14,false)⟩,⟨some 18,.iop .eql (.tmp 17) (.const (.int .i64 0)),some (14,false)⟩,o 19 (.pick (.tmp 14) (.const (.bool true)) (.tmp 18)),o 20 (.move (.tmp 19)),⟨some 21,.move (.tmp 2),some (20,false)⟩,⟨some 22,.call .shared 79 [.tmp 21],some (20,false)⟩,⟨some 23,.not (.tmp 22),some (20,false)⟩,o 24 (.pick (.tmp 20) (.const (.bool true)) (.tmp 23))]) (.cond (.tmp 24) (.seq (.region [o 6 (.move (.const (.int .i64 6)))]) .ret) .skip)) (.seq (.seq (.region [o 26 (.move (.tmp 0)),o 27 (.nilCheck (.tmp 26)),o 28 (.faddr 0 (.tmp 27)),o 29 (.load 1 false (.tmp 28)),o 30 (.load 2 true (.tmp 4)),o 31 (.lookup true [.i,.i] .nilslice (.tmp 29) (.tmp 30) true),o 25 (.move (.tmp 31)),o 32 (.extract (.tmp 25) 0),o 33 (.extract (.tmp 25) 1),o 7 (.move (.tmp 32)),o 8 (.move (.tmp 33))]) (.seq (.region [o 34 (.move (.tmp 8))]) (.cond (.tmp 34) (.seq (.region [o 6 (.move (.const (.int .i64 70)))]) .ret) .skip))) (.seq (.seq (.region [o 35 (.move (.tmp 2)),o 36 (.iaddr 5 (.tmp 35) (.const (.int .i64 0))),o 37 (.faddr 0 (.tmp 36)),o 38 (.load 1 false (.tmp 37)),o 39 (.iop .eql (.tmp 38) (.const (.int .u8 4))),o 40 (.move (.tmp 39)),⟨some 41,.move (.tmp 2),some (40,true)⟩,⟨some 42,.iaddr 5 (.tmp 41) (.const (.int .i64 0)),some (40,true)⟩,⟨some 43,.faddr 3 (.tmp 42),some (40,true)⟩,⟨some 44,.load 2 true (.tmp 43),some (40,true)⟩,⟨some 45,.load 2 true (.tmp 4),some (40,true)⟩,⟨some 46,.call .shared 81 [.tmp 44,.tmp 45],some (40,true)⟩,⟨some 47,.not (.tmp 46),some (40,true)⟩,o 48 (.pick (.tmp 40) (.tmp 47) (.const (.bool false)))]) (.cond (.tmp 48) (.seq (.region [o 6 (.move (.const (.int .i64 71)))]) .ret) .skip)) (.seq (.region [o 49 (.move (.tmp 0)),o 50 (.nilCheck (.tmp 49)),o 51 (.faddr 0 (.tmp 50)),o 52 (.load 1 false (.tmp 51)),o 53 (.load 2 true (.tmp 4)),o 54 (.move (.tmp 2)),o 55 (.call .iso 82 [.tmp 54]),⟨none,.mapset true [.i,.i] (.tmp 52) (.tmp 53) (.tmp 55),none⟩]) (.seq (.region [o 6 (.move (.const (.int .i64 0)))]) .ret))))))),[.tmp 6]⟩
def a58 : AFunc := ⟨103,(.seq (.region [o 4 (.box (.tmp 1)),o 6 (.move (.const (.int .i64 0)))]) (.seq (.block 0 (.seq (.region [o 12 (.move (.tmp 0)),o 13 (.eqnil false .p (.tmp 12)),o 11 (.move (.tmp 13))]) (.cond (.tmp 11) (.seq (.region [o 6 (.move (.const (.int .i64 1)))]) .ret) (.seq (.region [o 15 (.load 2 true (.tmp 4)),o 16 (.call .shared 113 [.tmp 15]),o 17 (.lenS (.tmp 16)),o 18 (.iop .eql (.tmp 17) (.const (.int .i64 0))),o 19 (.move (.tmp 18)),⟨some 20,.faddr 0 (.tmp 4),some (19,false)⟩,⟨some 21,.load 1 false (.tmp 20),some (19,false)⟩,⟨some 22,.iop .lss (.tmp 21) (.const (.int .i64 0)),some (19,false)⟩,o 23 (.pick (.tmp 19) (.const (.bool true)) (.tmp 22)),o 24 (.move (.tmp 23)),⟨some 25,.move (.tmp 2),some (24,false)⟩,⟨some 26,.call .shared 87 [.tmp 25],some (24,false)⟩,⟨some 27,.not (.tmp 26),some (24,false)⟩,o 28 (.pick (.tmp 24) (.const (.bool true)) (.tmp 27)),o 14 (.move (.tmp 28))]) (.cond (.tmp 14) (.seq (.region [o 6 (.move (.const (.int .i64 6)))]) .ret) (.seq (.region [o 30 (.move (.tmp 0)),o 31 (.load 2 true (.tmp 4)),o 32 (.call .shared 114 [.tmp 30,.tmp 31]),o 33 (.iop .geq (.tmp 32) (.const (.int .i64 0))),o 29 (.move (.tmp 33))]) (.cond (.tmp 29) (.seq (.region [o 6 (.move (.const (.int .i64 70)))]) .ret) (.seq (.region [o 35 (.move (.tmp 2)),o 36 (.iaddr 5 (.tmp 35) (.const (.int .i64 0))),o 37 (.faddr 0 (.tmp 36)),o 38 (.load 1 false (.tmp 37)),o 39 (.iop .eql (.tmp 38) (.const (.int .u8 4))),o 40 (.move (.tmp 39)),⟨some 41,.move (.tmp 2),some (40,true)⟩,⟨some 42,.iaddr 5 (.tmp 41) (.const (.int .i64 0)),some (40,true)⟩,⟨some 43,.faddr 3 (.tmp 42),some (40,true)⟩,⟨some 44,.load 2 true (.tmp 43),some (40,true)⟩,⟨some 45,.load 2 true (.tmp 4),some (40,true)⟩,⟨some 46,.call .shared 89 [.tmp 44,.tmp 45],some (40,true)⟩,⟨some 47,.not (.tmp 46),some (40,true)⟩,o 48 (.pick (.tmp 40) (.tmp 47) (.const (.bool false))),o 34 (.move (.tmp 48))]) (.cond (.tmp 34) (.seq (.region [o 6 (.move (.const (.int .i64 71)))]) .ret) .skip))))))))) (.seq (.region [o 7 (.move (.const .nilslice))]) (.seq (.region [o 8 (.move (.const .nilslice))]) (.seq (.region [o 49 (.move (.tmp 8)),o 50 (.move (.tmp 2)),o 51 (.append 5 48 (.tmp 49) (.tmp 50)),o 8 (.move (.tmp 51))]) (.seq (.region [o 9 (.move (.const (.bool false)))]) (.seq (.seq (.region [o 10 (.move (.const (.int .i64 0)))]) (.block 1 (.loop [0,4,7,8,9,10] (.seq (.seq (.region [o 52 (.move (.tmp 10)),o 53 (.move (.tmp 0)),o 54 (.nilCheck (.tmp 53)),o 55 (.faddr 0 (.tmp 54)),o 56 (.load 1 false (.tmp 55)),o 57 (.lenS (.tmp 56)),o 58 (.iop .lss (.tmp 52) (.tmp 57))]) (.cond (.tmp 58) .skip (.exit 1))) (.seq (.block 2 (.seq (.seq (.region [o 61 (.move (.tmp 9)),o 62 (.not (.tmp 61)),o 63 (.move (.tmp 62)),⟨some 64,.load 2 true (.tmp 4),some (63,true)⟩,⟨some 65,.move (.tmp 0),some (63,true)⟩,⟨some 66,.nilCheck (.tmp 65),some (63,true)⟩,⟨some 67,.faddr 0 (.tmp 66),some (63,true)⟩,⟨some 68,.load 1 false (.tmp 67),some (63,true)⟩,⟨some 69,.move (.tmp 10),some (63,true)⟩,⟨some 70,.iaddr 3 (.tmp 68) (.tmp 69),some (63,true)⟩,⟨some 71,.faddr 0 (.tmp 70),some (63,true)⟩,⟨some 72,.load 2 true (.tmp 71),some (63,true)⟩,⟨some 73,.call .shared 89 [.tmp 64,.tmp 72],some (63,true)⟩,o 74 (.pick (.tmp 63) (.tmp 73) (.const (.bool false)))]) (.cond (.tmp 74) (.seq (.region [o 75 (.move (.tmp 7)),o 76 (.load 2 true (.tmp 4)),o 77 (.move (.tmp 8)),o 78 (.build [.int .i64 0,.int .i64 0,.nilslice] [(0,2,(.tmp 76)),(2,1,(.tmp 77))]),o 79 (.lit 3 [.int .i64 0,.int .i64 0,.nilslice] true 1 [(0,(.tmp 78))]),o 80 (.append 3 40 (.tmp 75) (.tmp 79)),o 7 (.move (.tmp 80))]) (.region [o 9 (.move (.const (.bool true)))])) .skip)) (.region [o 81 (.move (.tmp 7)),o 82 (.move (.tmp 0)),o 83 (.nilCheck (.tmp 82)),o 84 (.faddr 0 (.tmp 83)),o 85 (.load 1 false (.tmp 84)),o 86 (.move (.tmp 10)),o 87 (.iaddr 3 (.tmp 85) (.tmp 86)),o 88 (.load 3 true (.tmp 87)),o 89 (.lit 3 [.int .i64 0,.int .i64 0,.nilslice] true 1 [(0,(.tmp 88))]),o 90 (.append 3 40 (.tmp 81) (.tmp 89)),o 7 (.move (.tmp 90))]))) (.region [o 59 (.move (.tmp 10)),o 60 (.iop .add (.tmp 59) (.const (.int .i64 1))),o 10 (.move (.tmp 60))])))))) (.seq (.seq (.region [o 91 (.move (.tmp 9)),o 92 (.not (.tmp 91))]) (.cond (.tmp 92) (.region [o 93 (.move (.tmp 7)),o 94 (.load 2 true (.tmp 4)),o 95 (.move (.tmp 8)),o 96 (.build [.int .i64 0,.int .i64 0,.nilslice] [(0,2,(.tmp 94)),(2,1,(.tmp 95))]),o 97 (.lit 3 [.int .i64 0,.int .i64 0,.nilslice] true 1 [(0,(.tmp 96))]),o 98 (.append 3 40 (.tmp 93) (.tmp 97)),o 7 (.move (.tmp 98))]) .skip)) (.seq (.region [o 99 (.move (.tmp 0)),o 100 (.move (.tmp 7)),o 101 (.nilCheck (.tmp 99)),o 102 (.faddr 0 (.tmp 101)),⟨none,.store 1 (.tmp 102) (.tmp 100),none⟩]) (.seq (.region [o 6 (.move (.const (.int .i64 0)))]) .ret)))))))))),[.tmp 6]⟩
def a60 : AFunc := ⟨52,(.seq (.region [o 4 (.alloc [.nilslice]),o 5 (.alloc [.nilmap])]) (.seq (.region [o 12 .mkmap,⟨none,.store 1 (.tmp 5) (.tmp 12),none⟩]) (.seq (.region [o 13 (.mkfunc 115 [] [.tmp 5,.tmp 4]),o 6 (.move (.tmp 13))]) (.seq (.seq (.region [o 14 (.move (.tmp 1)),o 15 (.lenS (.tmp 14)),o 16 (.move (.const (.int .i64 0)))]) (.block 0 (.loop [0,4,5,6,14,15,16] (.seq (.region [o 17 (.iop .lss (.tmp 16) (.tmp 15))]) (.seq (.cond (.tmp 17) .skip (.exit 0)) (.seq (.block 1 (.seq (.region [o 18 (.iaddr 2 (.tmp 14) (.tmp 16)),o 19 (.load 2 true (.tmp 18)),o 8 (.alloc [.int .i64 0,.int .i64 0]),⟨none,.store 2 (.tmp 8) (.tmp 19),none⟩]) (.region [o 20 (.move (.tmp 6)),o 21 (.load 2 true (.tmp 8)),o 22 (.load 2 true (.tmp 8)),o 23 (.callv .shared (.tmp 20) [.tmp 21,.tmp 22])]))) (.region [o 24 (.iop .add (.tmp 16) (.const (.int .i64 1))),o 16 (.move (.tmp 24))]))))))) (.seq (.seq (.region [o 9 (.move (.const (.int .i64 0)))]) (.block 2 (.loop [0,4,5,6,9] (.seq (.seq (.region [o 25 (.move (.tmp 9)),o 26 (.load 1 false (.tmp 4)),o 27 (.lenS (.tmp 26)),o 28 (.iop .lss (.tmp 25) (.tmp 27))]) (.cond (.tmp 28) .skip (.exit 2))) (.seq (.block 3 (.seq (.region [o 31 (.move (.tmp 0)),o 32 (.load 1 false (.tmp 4)),o 33 (.move (.tmp 9)),o 34 (.iaddr 2 (.tmp 32) (.tmp 33)),o 35 (.load 2 true (.tmp 34)),o 36 (.call .shared 77 [.tmp 31,.tmp 35]),o 37 (.lenS (.tmp 36)),o 38 (.move (.const (.int .i64 0)))]) (.block 4 (.loop [0,4,5,6,9,36,37,38] (.seq (.region [o 39 (.iop .lss (.tmp 38) (.tmp 37))]) (.seq (.cond (.tmp 39) .skip (.exit 4)) (.seq (.block 5 (.seq (.region [o 40 (.iaddr 2 (.tmp 36) (.tmp 38)),o 41 (.load 2 true (.tmp 40)),o 11 (.alloc [.int .i64 0,.int .i64 0]),⟨none,.store 2 (.tmp 11) (.tmp 41),none⟩]) (.region [o 42 (.move (.tmp 6)),o 43 (.load 2 true (.tmp 11)),o 44 (.load 1 false (.tmp 4)),o 45 (.move (.tmp 9)),o 46 (.iaddr 2 (.tmp 44) (.tmp 45)),o 47 (.load 2 true (.tmp 46)),o 48 (.callv .shared (.tmp 42) [.tmp 43,.tmp 47])]))) (.region [o 49 (.iop .add (.tmp 38) (.const (.int .i64 1))),o 38 (.move (.tmp 49))])))))))) (.region [o 29 (.move (.tmp 9)),o 30 (.iop .add (.tmp 29) (.const (.int .i64 1))),o 9 (.move (.tmp 30))])))))) (.seq (.drawn [o 50 (.load 1 false (.tmp 4)),o 51 (.load 1 false (.tmp 5)),⟨none,.store 1 (.tmp 4) (.tmp 50),none⟩,⟨none,.store 1 (.tmp 5) (.tmp 51),none⟩] [(1,2)]) .ret)))))),[.cell 4 1 false,.cell 5 1 false]⟩
def a61 : AFunc := ⟨9,(.seq (.region [o 2 (.move (.const .nilslice))]) (.seq (.region [o 3 (.move (.tmp 0)),o 4 (.call .shared 75 [.tmp 3]),o 0 (.move (.tmp 4))]) (.seq (.region [o 5 (.move (.tmp 0)),o 6 (.call .shared 116 [.tmp 5,(.const (.func 117 [] []))])]) (.seq (.region [o 7 (.move (.tmp 0)),o 8 (.call .shared 118 [.tmp 7]),o 2 (.move (.tmp 8))]) .ret)))),[.tmp 2]⟩
def a62 : AFunc := ⟨38,(.seq (.region [o 2 (.move (.const .nilslice))]) (.seq (.region [o 3 (.move (.const .nilslice))]) (.seq (.seq (.region [o 8 (.move (.tmp 0)),o 9 (.lenS (.tmp 8)),o 10 (.move (.const (.int .i64 0)))]) (.block 0 (.loop [3,8,9,10] (.seq (.region [o 11 (.iop .lss (.tmp 10) (.tmp 9))]) (.seq (.cond (.tmp 11) .skip (.exit 0)) (.seq (.block 1 (.seq (.region [o 12 (.iaddr 1 (.tmp 8) (.tmp 10)),o 13 (.load 1 false (.tmp 12)),o 5 (.move (.tmp 13))]) (.seq (.region [o 14 (.move (.tmp 5)),o 15 (.lenS (.tmp 14)),o 16 (.move (.const (.int .i64 0)))]) (.block 2 (.loop [3,8,9,10,14,15,16] (.seq (.region [o 17 (.iop .lss (.tmp 16) (.tmp 15))]) (.seq (.cond (.tmp 17) .skip (.exit 2)) (.seq (.block 3 (.seq (.region [o 18 (.iaddr 5 (.tmp 14) (.tmp 16)),o 19 (.load 5 true (.tmp 18)),o 7 (.alloc [.int .u8 0,(.str []),.int .i64 0,.int .i64 0,.int .i64 0]),⟨none,.store 5 (.tmp 7) (.tmp 19),none⟩]) (.seq (.region [o 20 (.faddr 0 (.tmp 7)),o 21 (.load 1 false (.tmp 20)),o 22 (.iop .eql (.tmp 21) (.const (.int .u8 4))),o 23 (.move (.tmp 22)),⟨some 24,.move (.tmp 3),some (23,true)⟩,⟨some 25,.faddr 3 (.tmp 7),some (23,true)⟩,⟨some 26,.load 2 true (.tmp 25),some (23,true)⟩,⟨some 27,.call .shared 78 [.tmp 24,.tmp 26],some (23,true)⟩,⟨some 28,.not (.tmp 27),some (23,true)⟩,o 29 (.pick (.tmp 23) (.tmp 28) (.const (.bool false)))]) (.cond (.tmp 29) (.region [o 30 (.move (.tmp 3)),o 31 (.faddr 3 (.tmp 7)),o 32 (.load 2 true (.tmp 31)),o 33 (.lit 2 [.int .i64 0,.int .i64 0] true 1 [(0,(.tmp 32))]),o 34 (.append 2 16 (.tmp 30) (.tmp 33)),o 3 (.move (.tmp 34))]) .skip)))) (.region [o 35 (.iop .add (.tmp 16) (.const (.int .i64 1))),o 16 (.move (.tmp 35))]))))))))) (.region [o 36 (.iop .add (.tmp 10) (.const (.int .i64 1))),o 10 (.move (.tmp 36))]))))))) (.seq (.region [o 37 (.move (.tmp 3)),o 2 (.move (.tmp 37))]) .ret)))),[.tmp 2]⟩
def a63 : AFunc := ⟨18,(.seq (.region [o 3 (.box (.tmp 1)),o 4 (.move (.const (.bool false)))]) (.seq (.seq (.region [o 5 (.move (.const (.int .i64 0)))]) (.block 0 (.loop [0,3,5] (.seq (.seq (.region [o 6 (.move (.tmp 5)),o 7 (.move (.tmp 0)),o 8 (.lenS (.tmp 7)),o 9 (.iop .lss (.tmp 6) (.tmp 8))]) (.cond (.tmp 9) .skip (.exit 0))) (.seq (.block 1 (.seq (.region [o 12 (.move (.tmp 0)),o 13 (.move (.tmp 5)),o 14 (.iaddr 2 (.tmp 12) (.tmp 13)),o 15 (.load 2 true (.tmp 14)),o 16 (.load 2 true (.tmp 3)),o 17 (.eqs false [.i,.i] (.tmp 15) (.tmp 16))]) (.cond (.tmp 17) (.seq (.region [o 4 (.move (.const (.bool true)))]) .ret) .skip))) (.region [o 10 (.move (.tmp 5)),o 11 (.iop .add (.tmp 10) (.const (.int .i64 1))),o 5 (.move (.tmp 11))])))))) (.seq (.region [o 4 (.move (.const (.bool false)))]) .ret))),[.tmp 4]⟩
def a64 : AFunc := ⟨17,(.seq (.region [o 3 (.box (.tmp 1)),o 4 (.move (.const .nilslice))]) (.seq (.region [o 8 (.move (.tmp 0)),o 9 (.load 2 true (.tmp 3)),o 10 (.call .shared 119 [.tmp 8,.tmp 9]),o 7 (.move (.tmp 10)),o 11 (.extract (.tmp 7) 0),o 12 (.extract (.tmp 7) 1),o 5 (.move (.tmp 11)),o 6 (.move (.tmp 12))]) (.seq (.seq (.region [o 13 (.move (.tmp 6)),o 14 (.not (.tmp 13))]) (.cond (.tmp 14) (.seq (.region [o 4 (.move (.const .nilslice))]) .ret) .skip)) (.seq (.region [o 15 (.move (.tmp 5)),o 16 (.call .shared 120 [.tmp 15]),o 4 (.move (.tmp 16))]) .ret)))),[.tmp 4]⟩
def a65 : AFunc := ⟨68,(.seq (.region [o 4 (.move (.const .nilslice))]) (.seq (.seq (.region [o 5 (.move (.const (.int .i64 0)))]) (.block 0 (.loop [0,1,5] (.seq (.seq (.region [o 8 (.move (.tmp 5)),o 9 (.move (.tmp 1)),o 10 (.lenS (.tmp 9)),o 11 (.iop .lss (.tmp 8) (.tmp 10))]) (.cond (.tmp 11) .skip (.exit 0))) (.seq (.block 1 (.seq (.region [o 6 (.move (.const .nilslice))]) (.seq (.region [o 7 (.move (.const (.int .i64 0)))]) (.seq (.block 2 (.loop [0,1,5,6,7] (.seq (.seq (.region [o 14 (.move (.tmp 7)),o 15 (.move (.tmp 0)),o 16 (.lenS (.tmp 15)),o 17 (.iop .lss (.tmp 14) (.tmp 16)),o 18 (.move (.tmp 17)),⟨some 19,.move (.tmp 0),some (18,true)⟩,⟨some 20,.move (.tmp 7),some (18,true)⟩,⟨some 21,.iaddr 2 (.tmp 19) (.tmp 20),some (18,true)⟩,⟨some 22,.load 2 true (.tmp 21),some (18,true)⟩,⟨some 23,.move (.tmp 1),some (18,true)⟩,⟨some 24,.move (.tmp 5),some (18,true)⟩,⟨some 25,.iaddr 2 (.tmp 23) (.tmp 24),some (18,true)⟩,⟨some 26,.load 2 true (.tmp 25),some (18,true)⟩,⟨some 27,.call .shared 89 [.tmp 22,.tmp 26],some (18,true)⟩,o 28 (.pick (.tmp 18) (.tmp 27) (.const (.bool false)))]) (.cond (.tmp 28) .skip (.exit 2))) (.block 3 (.seq (.region [o 29 (.move (.tmp 6)),o 30 (.move (.tmp 0)),o 31 (.move (.tmp 7)),o 32 (.iaddr 2 (.tmp 30) (.tmp 31)),o 33 (.load 2 true (.tmp 32)),o 34 (.lit 2 [.int .i64 0,.int .i64 0] true 1 [(0,(.tmp 33))]),o 35 (.append 2 16 (.tmp 29) (.tmp 34)),o 6 (.move (.tmp 35))]) (.region [o 36 (.move (.tmp 7)),o 37 (.iop .add (.tmp 36) (.const (.int .i64 1))),o 7 (.move (.tmp 37))])))))) (.seq (.region [o 38 (.move (.tmp 6)),o 39 (.move (.tmp 1)),o 40 (.move (.tmp 5)),o 41 (.iaddr 2 (.tmp 39) (.tmp 40)),o 42 (.load 2 true (.tmp 41)),o 43 (.lit 2 [.int .i64 0,.int .i64 0] true 1 [(0,(.tmp 42))]),o 44 (.append 2 16 (.tmp 38) (.tmp 43)),o 6 (.move (.tmp 44))]) (.seq (.seq (.region [o 45 (.move (.tmp 7)),o 46 (.move (.tmp 0)),o 47 (.lenS (.tmp 46)),o 48 (.iop .lss (.tmp 45) (.tmp 47)),o 49 (.move (.tmp 48)),⟨some 50,.move (.tmp 0),some (49,true)⟩,⟨some 51,.move (.tmp 7),some (49,true)⟩,⟨some 52,.iaddr 2 (.tmp 50) (.tmp 51),some (49,true)⟩,⟨some 53,.load 2 true (.tmp 52),some (49,true)⟩,⟨some 54,.move (.tmp 1),some (49,true)⟩,⟨some 55,.move (.tmp 5),some (49,true)⟩,⟨some 56,.iaddr 2 (.tmp 54) (.tmp 55),some (49,true)⟩,⟨some 57,.load 2 true (.tmp 56),some (49,true)⟩,⟨some 58,.eqs false [.i,.i] (.tmp 53) (.tmp 57),some (49,true)⟩,o 59 (.pick (.tmp 49) (.tmp 58) (.const (.bool false)))]) (.cond (.tmp 59) (.region [o 60 (.move (.tmp 7)),o 61 (.iop .add (.tmp 60) (.const (.int .i64 1))),o 7 (.move (.tmp 61))]) .skip)) (.region [o 62 (.move (.tmp 6)),o 63 (.move (.tmp 0)),o 64 (.move (.tmp 7)),o 65 (.sliceOp 2 (.tmp 63) (some (.tmp 64)) none none),o 66 (.append 2 16 (.tmp 62) (.tmp 65)),o 0 (.move (.tmp 66))]))))))) (.region [o 12 (.move (.tmp 5)),o 13 (.iop .add (.tmp 12) (.const (.int .i64 1))),o 5 (.move (.tmp 13))])))))) (.seq (.region [o 67 (.move (.tmp 0)),o 4 (.move (.tmp 67))]) .ret))),[.tmp 4]⟩
def a66 : AFunc := ⟨45,(.seq (.region [o 2 (.move (.const .nilslice))]) (.seq (.region [o 3 (.move (.const .nilslice))]) (.seq (.seq (.region [o 4 (.move (.const (.int .i64 0)))]) (.block 0 (.loop [0,3,4] (.seq (.seq (.region [o 7 (.move (.tmp 4)),o 8 (.move (.tmp 0)),o 9 (.lenS (.tmp 8)),o 10 (.iop .lss (.tmp 7) (.tmp 9))]) (.cond (.tmp 10) .skip (.exit 0))) (.seq (.block 1 (.seq (.region [o 5 (.move (.const (.int .i64 0)))]) (.block 2 (.loop [0,3,4,5] (.seq (.seq (.region [o 13 (.move (.tmp 5)),o 14 (.move (.tmp 0)),o 15 (.move (.tmp 4)),o 16 (.iaddr 1 (.tmp 14) (.tmp 15)),o 17 (.load 1 false (.tmp 16)),o 18 (.lenS (.tmp 17)),o 19 (.iop .lss (.tmp 13) (.tmp 18))]) (.cond (.tmp 19) .skip (.exit 2))) (.seq (.block 3 (.seq (.region [o 22 (.move (.tmp 0)),o 23 (.move (.tmp 4)),o 24 (.iaddr 1 (.tmp 22) (.tmp 23)),o 25 (.load 1 false (.tmp 24)),o 26 (.move (.tmp 5)),o 27 (.iaddr 5 (.tmp 25) (.tmp 26)),o 28 (.load 5 true (.tmp 27)),o 6 (.alloc [.int .u8 0,(.str []),.int .i64 0,.int .i64 0,.int .i64 0]),⟨none,.store 5 (.tmp 6) (.tmp 28),none⟩]) (.seq (.region [o 29 (.faddr 0 (.tmp 6)),o 30 (.load 1 false (.tmp 29)),o 31 (.iop .eql (.tmp 30) (.const (.int .u8 4))),o 32 (.move (.tmp 31)),⟨some 33,.move (.tmp 3),some (32,true)⟩,⟨some 34,.faddr 3 (.tmp 6),some (32,true)⟩,⟨some 35,.load 2 true (.tmp 34),some (32,true)⟩,⟨some 36,.call .shared 63 [.tmp 33,.tmp 35],some (32,true)⟩,⟨some 37,.not (.tmp 36),some (32,true)⟩,o 38 (.pick (.tmp 32) (.tmp 37) (.const (.bool false)))]) (.cond (.tmp 38) (.region [o 39 (.move (.tmp 3)),o 40 (.faddr 3 (.tmp 6)),o 41 (.load 2 true (.tmp 40)),o 42 (.lit 2 [.int .i64 0,.int .i64 0] true 1 [(0,(.tmp 41))]),o 43 (.append 2 16 (.tmp 39) (.tmp 42)),o 3 (.move (.tmp 43))]) .skip)))) (.region [o 20 (.move (.tmp 5)),o 21 (.iop .add (.tmp 20) (.const (.int .i64 1))),o 5 (.move (.tmp 21))]))))))) (.region [o 11 (.move (.tmp 4)),o 12 (.iop .add (.tmp 11) (.const (.int .i64 1))),o 4 (.move (.tmp 12))])))))) (.seq (.region [o 44 (.move (.tmp 3)),o 2 (.move (.tmp 44))]) .ret)))),[.tmp 2]⟩
def a67 : AFunc := ⟨131,(.seq (.region [o 2 (.move (.const (.bool false)))]) (.seq (.seq (.region [o 3 (.move (.const (.int .i64 0)))]) (.block 0 (.loop [0,3] (.seq (.seq (.region [o 12 (.move (.tmp 3)),o 13 (.move (.tmp 0)),o 14 (.nilCheck (.tmp 13)),o 15 (.faddr 0 (.tmp 14)),o 16 (.load 1 false (.tmp 15)),o 17 (.lenS (.tmp 16)),o 18 (.iop .lss (.tmp 12) (.tmp 17))]) (.cond (.tmp 18) .skip (.exit 0))) (.seq (.block 1 (.seq (.region [o 4 (.move (.const (.int .i64 0)))]) (.block 2 (.loop [0,3,4] (.seq (.seq (.region [o 21 (.move (.tmp 4)),o 22 (.move (.tmp 0)),o 23 (.nilCheck (.tmp 22)),o 24 (.faddr 0 (.tmp 23)),o 25 (.load 1 false (.tmp 24)),o 26 (.move (.tmp 3)),o 27 (.iaddr 1 (.tmp 25) (.tmp 26)),o 28 (.load 1 false (.tmp 27)),o 29 (.lenS (.tmp 28)),o 30 (.iop .lss (.tmp 21) (.tmp 29))]) (.cond (.tmp 30) .skip (.exit 2))) (.seq (.block 3 (.region [o 33 (.move (.tmp 0)),o 34 (.nilCheck (.tmp 33)),o 35 (.faddr 0 (.tmp 34)),o 36 (.load 1 false (.tmp 35)),o 37 (.move (.tmp 3)),o 38 (.iaddr 1 (.tmp 36) (.tmp 37)),o 39 (.load 1 false (.tmp 38)),o 40 (.move (.tmp 4)),o 41 (.move (.tmp 3)),o 42 (.iop .rem (.tmp 41) (.const (.int .i64 200))),o 43 (.iop .add (.const (.int .i64 48)) (.tmp 42)),o 44 (.convI .u8 (.tmp 43)),o 45 (.iaddr 1 (.tmp 39) (.tmp 40)),⟨none,.store 1 (.tmp 45) (.tmp 44),none⟩])) (.region [o 31 (.move (.tmp 4)),o 32 (.iop .add (.tmp 31) (.const (.int .i64 1))),o 4 (.move (.tmp 32))]))))))) (.region [o 19 (.move (.tmp 3)),o 20 (.iop .add (.tmp 19) (.const (.int .i64 1))),o 3 (.move (.tmp 20))])))))) (.seq (.region [o 5 (.move (.const .nilslice))]) (.seq (.seq (.region [o 6 (.move (.const (.int .i64 0)))]) (.block 4 (.loop [0,5,6] (.seq (.seq (.region [o 46 (.move (.tmp 6)),o 47 (.move (.tmp 0)),o 48 (.nilCheck (.tmp 47)),o 49 (.faddr 0 (.tmp 48)),o 50 (.load 1 false (.tmp 49)),o 51 (.lenS (.tmp 50)),o 52 (.iop .lss (.tmp 46) (.tmp 51))]) (.cond (.tmp 52) .skip (.exit 4))) (.seq (.block 5 (.seq (.region [o 55 (.move (.tmp 0)),o 56 (.nilCheck (.tmp 55)),o 57 (.faddr 0 (.tmp 56)),o 58 (.load 1 false (.tmp 57)),o 59 (.move (.tmp 6)),o 60 (.iaddr 1 (.tmp 58) (.tmp 59)),o 61 (.load 1 false (.tmp 60)),o 7 (.move (.tmp 61))]) (.seq (.seq (.region [o 8 (.move (.const (.int .i64 0)))]) (.block 6 (.loop [0,5,6,7,8] (.seq (.seq (.region [o 62 (.move (.tmp 8)),o 63 (.iop .lss (.tmp 62) (.const (.int .i64 20)))]) (.cond (.tmp 63) .skip (.exit 6))) (.seq (.block 7 (.region [o 66 (.move (.tmp 7)),o 67 (.move (.tmp 6)),o 68 (.iop .rem (.tmp 67) (.const (.int .i64 200))),o 69 (.iop .add (.const (.int .i64 48)) (.tmp 68)),o 70 (.convI .u8 (.tmp 69)),o 71 (.lit 1 [.int .u8 0] false 1 [(0,(.tmp 70))]),o 72 (.append 1 1 (.tmp 66) (.tmp 71)),o 7 (.move (.tmp 72))])) (.region [o 64 (.move (.tmp 8)),o 65 (.iop .add (.tmp 64) (.const (.int .i64 1))),o 8 (.move (.tmp 65))])))))) (.region [o 73 (.move (.tmp 5)),o 74 (.move (.tmp 7)),o 75 (.lit 1 [.nilslice] false 1 [(0,(.tmp 74))]),o 76 (.append 1 24 (.tmp 73) (.tmp 75)),o 5 (.move (.tmp 76))])))) (.region [o 53 (.move (.tmp 6)),o 54 (.iop .add (.tmp 53) (.const (.int .i64 1))),o 6 (.move (.tmp 54))])))))) (.seq (.seq (.region [o 9 (.move (.const (.int .i64 0)))]) (.block 8 (.loop [0,5,9] (.seq (.seq (.region [o 77 (.move (.tmp 9)),o 78 (.move (.tmp 5)),o 79 (.lenS (.tmp 78)),o 80 (.iop .lss (.tmp 77) (.tmp 79))]) (.cond (.tmp 80) .skip (.exit 8))) (.seq (.block 9 (.seq (.seq (.region [o 10 (.move (.const (.int .i64 0)))]) (.block 10 (.loop [0,5,9,10] (.seq (.seq (.region [o 83 (.move (.tmp 10)),o 84 (.move (.tmp 5)),o 85 (.move (.tmp 9)),o 86 (.iaddr 1 (.tmp 84) (.tmp 85)),o 87 (.load 1 false (.tmp 86)),o 88 (.lenS (.tmp 87)),o 89 (.iop .lss (.tmp 83) (.tmp 88))]) (.cond (.tmp 89) .skip (.exit 10))) (.seq (.block 11 (.seq (.region [o 92 (.move (.tmp 5)),o 93 (.move (.tmp 9)),o 94 (.iaddr 1 (.tmp 92) (.tmp 93)),o 95 (.load 1 false (.tmp 94)),o 96 (.move (.tmp 10)),o 97 (.iaddr 1 (.tmp 95) (.tmp 96)),o 98 (.load 1 false (.tmp 97)),o 99 (.move (.tmp 9)),o 100 (.iop .rem (.tmp 99) (.const (.int .i64 200))),o 101 (.iop .add (.const (.int .i64 48)) (.tmp 100)),o 102 (.convI .u8 (.tmp 101)),o 103 (.iop .neq (.tmp 98) (.tmp 102))]) (.cond (.tmp 103) (.seq (.region [o 2 (.move (.const (.bool false)))]) .ret) .skip))) (.region [o 90 (.move (.tmp 10)),o 91 (.iop .add (.tmp 90) (.const (.int .i64 1))),o 10 (.move (.tmp 91))])))))) (.seq (.region [o 11 (.move (.const (.int .i64 0)))]) (.block 12 (.loop [0,5,9,11] (.seq (.seq (.region [o 104 (.move (.tmp 11)),o 105 (.move (.tmp 0)),o 106 (.nilCheck (.tmp 105)),o 107 (.faddr 0 (.tmp 106)),o 108 (.load 1 false (.tmp 107)),o 109 (.move (.tmp 9)),o 110 (.iaddr 1 (.tmp 108) (.tmp 109)),o 111 (.load 1 false (.tmp 110)),o 112 (.lenS (.tmp 111)),o 113 (.iop .lss (.tmp 104) (.tmp 112))]) (.cond (.tmp 113) .skip (.exit 12))) (.seq (.block 13 (.seq (.region [o 116 (.move (.tmp 0)),o 117 (.nilCheck (.tmp 116)),o 118 (.faddr 0 (.tmp 117)),o 119 (.load 1 false (.tmp 118)),o 120 (.move (.tmp 9)),o 121 (.iaddr 1 (.tmp 119) (.tmp 120)),o 122 (.load 1 false (.tmp 121)),o 123 (.move (.tmp 11)),o 124 (.iaddr 1 (.tmp 122) (.tmp 123)),o 125 (.load 1 false (.tmp 124)),o 126 (.move (.tmp 9)),o 127 (.iop .rem (.tmp 126) (.const (.int .i64 200))),o 128 (.iop .add (.const (.int .i64 48)) (.tmp 127)),o 129 (.convI .u8 (.tmp 128)),o 130 (.iop .neq (.tmp 125) (.tmp 129))]) (.cond (.tmp 130) (.seq (.region [o 2 (.move (.const (.bool false)))]) .ret) .skip))) (.region [o 114 (.move (.tmp 11)),o 115 (.iop .add (.tmp 114) (.const (.int .i64 1))),o 11 (.move (.tmp 115))])))))))) (.region [o 81 (.move (.tmp 9)),o 82 (.iop .add (.tmp 81) (.const (.int .i64 1))),o 9 (.move (.tmp 82))])))))) (.seq (.region [o 2 (.move (.const (.bool true)))]) .ret)))))),[.tmp 2]⟩
def a68 : AFunc := ⟨123,(.seq (.region [o 2 (.move (.const (.bool false)))]) (.seq (.seq (.region [o 3 (.move (.const (.int .i64 0)))]) (.block 0 (.loop [0,3] (.seq (.seq (.region [o 12 (.move (.tmp 3)),o 13 (.move (.tmp 0)),o 14 (.nilCheck (.tmp 13)),o 15 (.faddr 1 (.tmp 14)),o 16 (.load 1 false (.tmp 15)),o 17 (.lenS (.tmp 16)),o 18 (.iop .lss (.tmp 12) (.tmp 17))]) (.cond (.tmp 18) .skip (.exit 0))) (.seq (.block 1 (.seq (.region [o 4 (.move (.const (.int .i64 0)))]) (.block 2 (.loop [0,3,4] (.seq (.seq (.region [o 21 (.move (.tmp 4)),o 22 (.move (.tmp 0)),o 23 (.nilCheck (.tmp 22)),o 24 (.faddr 1 (.tmp 23)),o 25 (.load 1 false (.tmp 24)),o 26 (.move (.tmp 3)),o 27 (.iaddr 1 (.tmp 25) (.tmp 26)),o 28 (.load 1 false (.tmp 27)),o 29 (.lenS (.tmp 28)),o 30 (.iop .lss (.tmp 21) (.tmp 29))]) (.cond (.tmp 30) .skip (.exit 2))) (.seq (.block 3 (.drawn [o 33 (.move (.tmp 0)),o 34 (.nilCheck (.tmp 33)),o 35 (.faddr 1 (.tmp 34)),o 36 (.load 1 false (.tmp 35)),o 37 (.move (.tmp 3)),o 38 (.iaddr 1 (.tmp 36) (.tmp 37)),o 39 (.load 1 false (.tmp 38)),o 40 (.move (.tmp 4)),o 41 (.move (.tmp 3)),o 42 (.call .shared 121 [.tmp 41]),o 43 (.iaddr 1 (.tmp 39) (.tmp 40)),⟨none,.store 1 (.tmp 43) (.tmp 42),none⟩] [(3,9),(6,9)])) (.region [o 31 (.move (.tmp 4)),o 32 (.iop .add (.tmp 31) (.const (.int .i64 1))),o 4 (.move (.tmp 32))]))))))) (.region [o 19 (.move (.tmp 3)),o 20 (.iop .add (.tmp 19) (.const (.int .i64 1))),o 3 (.move (.tmp 20))])))))) (.seq (.region [o 5 (.move (.const .nilslice))]) (.seq (.seq (.region [o 6 (.move (.const (.int .i64 0)))]) (.block 4 (.loop [0,5,6] (.seq (.seq (.region [o 44 (.move (.tmp 6)),o 45 (.move (.tmp 0)),o 46 (.nilCheck (.tmp 45)),o 47 (.faddr 1 (.tmp 46)),o 48 (.load 1 false (.tmp 47)),o 49 (.lenS (.tmp 48)),o 50 (.iop .lss (.tmp 44) (.tmp 49))]) (.cond (.tmp 50) .skip (.exit 4))) (.seq (.block 5 (.seq (.region [o 53 (.move (.tmp 0)),o 54 (.nilCheck (.tmp 53)),o 55 (.faddr 1 (.tmp 54)),o 56 (.load 1 false (.tmp 55)),o 57 (.move (.tmp 6)),o 58 (.iaddr 1 (.tmp 56) (.tmp 57)),o 59 (.load 1 false (.tmp 58)),o 7 (.move (.tmp 59))]) (.seq (.seq (.region [o 8 (.move (.const (.int .i64 0)))]) (.block 6 (.loop [0,5,6,7,8] (.seq (.seq (.region [o 60 (.move (.tmp 8)),o 61 (.iop .lss (.tmp 60) (.const (.int .i64 20)))]) (.cond (.tmp 61) .skip (.exit 6))) (.seq (.block 7 (.region [o 64 (.move (.tmp 7)),o 65 (.move (.tmp 6)),o 66 (.call .shared 121 [.tmp 65]),o 67 (.lit 1 [(.str [])] false 1 [(0,(.tmp 66))]),o 68 (.append 1 16 (.tmp 64) (.tmp 67)),o 7 (.move (.tmp 68))])) (.region [o 62 (.move (.tmp 8)),o 63 (.iop .add (.tmp 62) (.const (.int .i64 1))),o 8 (.move (.tmp 63))])))))) (.region [o 69 (.move (.tmp 5)),o 70 (.move (.tmp 7)),o 71 (.lit 1 [.nilslice] false 1 [(0,(.tmp 70))]),o 72 (.append 1 24 (.tmp 69) (.tmp 71)),o 5 (.move (.tmp 72))])))) (.region [o 51 (.move (.tmp 6)),o 52 (.iop .add (.tmp 51) (.const (.int .i64 1))),o 6 (.move (.tmp 52))])))))) (.seq (.seq (.region [o 9 (.move (.const (.int .i64 0)))]) (.block 8 (.loop [0,5,9] (.seq (.seq (.region [o 73 (.move (.tmp 9)),o 74 (.move (.tmp 5)),o 75 (.lenS (.tmp 74)),o 76 (.iop .lss (.tmp 73) (.tmp 75))]) (.cond (.tmp 76) .skip (.exit 8))) (.seq (.block 9 (.seq (.seq (.region [o 10 (.move (.const (.int .i64 0)))]) (.block 10 (.loop [0,5,9,10] (.seq (.seq (.region [o 79 (.move (.tmp 10)),o 80 (.move (.tmp 5)),o 81 (.move (.tmp 9)),o 82 (.iaddr 1 (.tmp 80) (.tmp 81)),o 83 (.load 1 false (.tmp 82)),o 84 (.lenS (.tmp 83)),o 85 (.iop .lss (.tmp 79) (.tmp 84))]) (.cond (.tmp 85) .skip (.exit 10))) (.seq (.block 11 (.seq (.drawn [o 88 (.move (.tmp 5)),o 89 (.move (.tmp 9)),o 90 (.iaddr 1 (.tmp 88) (.tmp 89)),o 91 (.load 1 false (.tmp 90)),o 92 (.move (.tmp 10)),o 93 (.iaddr 1 (.tmp 91) (.tmp 92)),o 94 (.load 1 false (.tmp 93)),o 95 (.move (.tmp 9)),o 96 (.call .shared 121 [.tmp 95]),o 97 (.sop .neq (.tmp 94) (.tmp 96))] [(3,8),(6,8)]) (.cond (.tmp 97) (.seq (.region [o 2 (.move (.const (.bool false)))]) .ret) .skip))) (.region [o 86 (.move (.tmp 10)),o 87 (.iop .add (.tmp 86) (.const (.int .i64 1))),o 10 (.move (.tmp 87))])))))) (.seq (.region [o 11 (.move (.const (.int .i64 0)))]) (.block 12 (.loop [0,5,9,11] (.seq (.seq (.region [o 98 (.move (.tmp 11)),o 99 (.move (.tmp 0)),o 100 (.nilCheck (.tmp 99)),o 101 (.faddr 1 (.tmp 100)),o 102 (.load 1 false (.tmp 101)),o 103 (.move (.tmp 9)),o 104 (.iaddr 1 (.tmp 102) (.tmp 103)),o 105 (.load 1 false (.tmp 104)),o 106 (.lenS (.tmp 105)),o 107 (.iop .lss (.tmp 98) (.tmp 106))]) (.cond (.tmp 107) .skip (.exit 12))) (.seq (.block 13 (.seq (.drawn [o 110 (.move (.tmp 0)),o 111 (.nilCheck (.tmp 110)),o 112 (.faddr 1 (.tmp 111)),o 113 (.load 1 false (.tmp 112)),o 114 (.move (.tmp 9)),o 115 (.iaddr 1 (.tmp 113) (.tmp 114)),o 116 (.load 1 false (.tmp 115)),o 117 (.move (.tmp 11)),o 118 (.iaddr 1 (.tmp 116) (.tmp 117)),o 119 (.load 1 false (.tmp 118)),o 120 (.move (.tmp 9)),o 121 (.call .shared 121 [.tmp 120]),o 122 (.sop .neq (.tmp 119) (.tmp 121))] [(3,11),(6,11),(9,11)]) (.cond (.tmp 122) (.seq (.region [o 2 (.move (.const (.bool false)))]) .ret) .skip))) (.region [o 108 (.move (.tmp 11)),o 109 (.iop .add (.tmp 108) (.const (.int .i64 1))),o 11 (.move (.tmp 109))])))))))) (.region [o 77 (.move (.tmp 9)),o 78 (.iop .add (.tmp 77) (.const (.int .i64 1))),o 9 (.move (.tmp 78))])))))) (.seq (.region [o 2 (.move (.const (.bool true)))]) .ret)))))),[.tmp 2]⟩
def a69 : AFunc := ⟨123,(.seq (.region [o 2 (.move (.const (.bool false)))]) (.seq (.seq (.region [o 3 (.move (.const (.int .i64 0)))]) (.block 0 (.loop [0,3] (.seq (.seq (.region [o 12 (.move (.tmp 3)),o 13 (.move (.tmp 0)),o 14 (.nilCheck (.tmp 13)),o 15 (.faddr 2 (.tmp 14)),o 16 (.load 1 false (.tmp 15)),o 17 (.lenS (.tmp 16)),o 18 (.iop .lss (.tmp 12) (.tmp 17))]) (.cond (.tmp 18) .skip (.exit 0))) (.seq (.block 1 (.seq (.region [o 4 (.move (.const (.int .i64 0)))]) (.block 2 (.loop [0,3,4] (.seq (.seq (.region [o 21 (.move (.tmp 4)),o 22 (.move (.tmp 0)),o 23 (.nilCheck (.tmp 22)),o 24 (.faddr 2 (.tmp 23)),o 25 (.load 1 false (.tmp 24)),o 26 (.move (.tmp 3)),o 27 (.iaddr 1 (.tmp 25) (.tmp 26)),o 28 (.load 1 false (.tmp 27)),o 29 (.lenS (.tmp 28)),o 30 (.iop .lss (.tmp 21) (.tmp 29))]) (.cond (.tmp 30) .skip (.exit 2))) (.seq (.block 3 (.region [o 33 (.move (.tmp 0)),o 34 (.nilCheck (.tmp 33)),o 35 (.faddr 2 (.tmp 34)),o 36 (.load 1 false (.tmp 35)),o 37 (.move (.tmp 3)),o 38 (.iaddr 1 (.tmp 36) (.tmp 37)),o 39 (.load 1 false (.tmp 38)),o 40 (.move (.tmp 4)),o 41 (.move (.tmp 3)),o 42 (.iop .sub (.const (.int .i64 (-9000))) (.tmp 41)),o 43 (.iaddr 1 (.tmp 39) (.tmp 40)),⟨none,.store 1 (.tmp 43) (.tmp 42),none⟩])) (.region [o 31 (.move (.tmp 4)),o 32 (.iop .add (.tmp 31) (.const (.int .i64 1))),o 4 (.move (.tmp 32))]))))))) (.region [o 19 (.move (.tmp 3)),o 20 (.iop .add (.tmp 19) (.const (.int .i64 1))),o 3 (.move (.tmp 20))])))))) (.seq (.region [o 5 (.move (.const .nilslice))]) (.seq (.seq (.region [o 6 (.move (.const (.int .i64 0)))]) (.block 4 (.loop [0,5,6] (.seq (.seq (.region [o 44 (.move (.tmp 6)),o 45 (.move (.tmp 0)),o 46 (.nilCheck (.tmp 45)),o 47 (.faddr 2 (.tmp 46)),o 48 (.load 1 false (.tmp 47)),o 49 (.lenS (.tmp 48)),o 50 (.iop .lss (.tmp 44) (.tmp 49))]) (.cond (.tmp 50) .skip (.exit 4))) (.seq (.block 5 (.seq (.region [o 53 (.move (.tmp 0)),o 54 (.nilCheck (.tmp 53)),o 55 (.faddr 2 (.tmp 54)),o 56 (.load 1 false (.tmp 55)),o 57 (.move (.tmp 6)),o 58 (.iaddr 1 (.tmp 56) (.tmp 57)),o 59 (.load 1 false (.tmp 58)),o 7 (.move (.tmp 59))]) (.seq (.seq (.region [o 8 (.move (.const (.int .i64 0)))]) (.block 6 (.loop [0,5,6,7,8] (.seq (.seq (.region [o 60 (.move (.tmp 8)),o 61 (.iop .lss (.tmp 60) (.const (.int .i64 20)))]) (.cond (.tmp 61) .skip (.exit 6))) (.seq (.block 7 (.region [o 64 (.move (.tmp 7)),o 65 (.move (.tmp 6)),o 66 (.iop .sub (.const (.int .i64 (-9000))) (.tmp 65)),o 67 (.lit 1 [.int .i64 0] false 1 [(0,(.tmp 66))]),o 68 (.append 1 8 (.tmp 64) (.tmp 67)),o 7 (.move (.tmp 68))])) (.region [o 62 (.move (.tmp 8)),o 63 (.iop .add (.tmp 62) (.const (.int .i64 1))),o 8 (.move (.tmp 63))])))))) (.region [o 69 (.move (.tmp 5)),o 70 (.move (.tmp 7)),o 71 (.lit 1 [.nilslice] false 1 [(0,(.tmp 70))]),o 72 (.append 1 24 (.tmp 69) (.tmp 71)),o 5 (.move (.tmp 72))])))) (.region [o 51 (.move (.tmp 6)),o 52 (.iop .add (.tmp 51) (.const (.int .i64 1))),o 6 (.move (.tmp 52))])))))) (.seq (.seq (.region [o 9 (.move (.const (.int .i64 0)))]) (.block 8 (.loop [0,5,9] (.seq (.seq (.region [o 73 (.move (.tmp 9)),o 74 (.move (.tmp 5)),o 75 (.lenS (.tmp 74)),o 76 (.iop .lss (.tmp 73) (.tmp 75))]) (.cond (.tmp 76) .skip (.exit 8))) (.seq (.block 9 (.seq (.seq (.region [o 10 (.move (.const (.int .i64 0)))]) (.block 10 (.loop [0,5,9,10] (.seq (.seq (.region [o 79 (.move (.tmp 10)),o 80 (.move (.tmp 5)),o 81 (.move (.tmp 9)),o 82 (.iaddr 1 (.tmp 80) (.tmp 81)),o 83 (.load 1 false (.tmp 82)),o 84 (.lenS (.tmp 83)),o 85 (.iop .lss (.tmp 79) (.tmp 84))]) (.cond (.tmp 85) .skip (.exit 10))) (.seq (.block 11 (.seq (.region [o 88 (.move (.tmp 5)),o 89 (.move (.tmp 9)),o 90 (.iaddr 1 (.tmp 88) (.tmp 89)),o 91 (.load 1 false (.tmp 90)),o 92 (.move (.tmp 10)),o 93 (.iaddr 1 (.tmp 91) (.tmp 92)),o 94 (.load 1 false (.tmp 93)),o 95 (.move (.tmp 9)),o 96 (.iop .sub (.const (.int .i64 (-9000))) (.tmp 95)),o 97 (.iop .neq (.tmp 94) (.tmp 96))]) (.cond (.tmp 97) (.seq (.region [o 2 (.move (.const (.bool false)))]) .ret) .skip))) (.region [o 86 (.move (.tmp 10)),o 87 (.iop .add (.tmp 86) (.const (.int .i64 1))),o 10 (.move (.tmp 87))])))))) (.seq (.region [o 11 (.move (.const (.int .i64 0)))]) (.block 12 (.loop [0,5,9,11] (.seq (.seq (.region [o 98 (.move (.tmp 11)),o 99 (.move (.tmp 0)),o 100 (.nilCheck (.tmp 99)),o 101 (.faddr 2 (.tmp 100)),o 102 (.load 1 false (.tmp 101)),o 103 (.move (.tmp 9)),o 104 (.iaddr 1 (.tmp 102) (.tmp 103)),o 105 (.load 1 false (.tmp 104)),o 106 (.lenS (.tmp 105)),o 107 (.iop .lss (.tmp 98) (.tmp 106))]) (.cond (.tmp 107) .skip (.exit 12))) (.seq (.block 13 (.seq (.region [o 110 (.move (.tmp 0)),o 111 (.nilCheck (.tmp 110)),o 112 (.faddr 2 (.tmp 111)),o 113 (.load 1 false (.tmp 112)),o 114 (.move (.tmp 9)),o 115 (.iaddr 1 (.tmp 113) (.tmp 114)),o 116 (.load 1 false (.tmp 115)),o 117 (.move (.tmp 11)),o 118 (.iaddr 1 (.tmp 116) (.tmp 117)),o 119 (.load 1 false (.tmp 118)),o 120 (.move (.tmp 9)),o 121 (.iop .sub (.const (.int .i64 (-9000))) (.tmp 120)),o 122 (.iop .neq (.tmp 119) (.tmp 121))]) (.cond (.tmp 122) (.seq (.region [o 2 (.move (.const (.bool false)))]) .ret) .skip))) (.region [o 108 (.move (.tmp 11)),o 109 (.iop .add (.tmp 108) (.const (.int .i64 1))),o 11 (.move (.tmp 109))])))))))) (.region [o 77 (.move (.tmp 9)),o 78 (.iop .add (.tmp 77) (.const (.int .i64 1))),o 9 (.move (.tmp 78))])))))) (.seq (.region [o 2 (.move (.const (.bool true)))]) .ret)))))),[.tmp 2]⟩
def a70 : AFunc := ⟨127,(.seq (.region [o 2 (.move (.const (.bool false)))]) (.seq (.seq (.region [o 3 (.move (.const (.int .i64 0)))]) (.block 0 (.loop [0,3] (.seq (.seq (.region [o 12 (.move (.tmp 3)),o 13 (.move (.tmp 0)),o 14 (.nilCheck (.tmp 13)),o 15 (.faddr 3 (.tmp 14)),o 16 (.load 1 false (.tmp 15)),o 17 (.lenS (.tmp 16)),o 18 (.iop .lss (.tmp 12) (.tmp 17))]) (.cond (.tmp 18) .skip (.exit 0))) (.seq (.block 1 (.seq (.region [o 4 (.move (.const (.int .i64 0)))]) (.block 2 (.loop [0,3,4] (.seq (.seq (.region [o 21 (.move (.tmp 4)),o 22 (.move (.tmp 0)),o 23 (.nilCheck (.tmp 22)),o 24 (.faddr 3 (.tmp 23)),o 25 (.load 1 false (.tmp 24)),o 26 (.move (.tmp 3)),o 27 (.iaddr 1 (.tmp 25) (.tmp 26)),o 28 (.load 1 false (.tmp 27)),o 29 (.lenS (.tmp 28)),o 30 (.iop .lss (.tmp 21) (.tmp 29))]) (.cond (.tmp 30) .skip (.exit 2))) (.seq (.block 3 (.region [o 33 (.move (.tmp 0)),o 34 (.nilCheck (.tmp 33)),o 35 (.faddr 3 (.tmp 34)),o 36 (.load 1 false (.tmp 35)),o 37 (.move (.tmp 3)),o 38 (.iaddr 1 (.tmp 36) (.tmp 37)),o 39 (.load 1 false (.tmp 38)),o 40 (.move (.tmp 4)),o 41 (.move (.tmp 3)),o 42 (.iop .sub (.const (.int .i64 (-9000))) (.tmp 41)),o 43 (.build [.int .u8 0,(.str []),.int .i64 0,.int .i64 0,.int .i64 0] [(2,1,(.tmp 42))]),o 44 (.iaddr 5 (.tmp 39) (.tmp 40)),⟨none,.store 5 (.tmp 44) (.tmp 43),none⟩])) (.region [o 31 (.move (.tmp 4)),o 32 (.iop .add (.tmp 31) (.const (.int .i64 1))),o 4 (.move (.tmp 32))]))))))) (.region [o 19 (.move (.tmp 3)),o 20 (.iop .add (.tmp 19) (.const (.int .i64 1))),o 3 (.move (.tmp 20))])))))) (.seq (.region [o 5 (.move (.const .nilslice))]) (.seq (.seq (.region [o 6 (.move (.const (.int .i64 0)))]) (.block 4 (.loop [0,5,6] (.seq (.seq (.region [o 45 (.move (.tmp 6)),o 46 (.move (.tmp 0)),o 47 (.nilCheck (.tmp 46)),o 48 (.faddr 3 (.tmp 47)),o 49 (.load 1 false (.tmp 48)),o 50 (.lenS (.tmp 49)),o 51 (.iop .lss (.tmp 45) (.tmp 50))]) (.cond (.tmp 51) .skip (.exit 4))) (.seq (.block 5 (.seq (.region [o 54 (.move (.tmp 0)),o 55 (.nilCheck (.tmp 54)),o 56 (.faddr 3 (.tmp 55)),o 57 (.load 1 false (.tmp 56)),o 58 (.move (.tmp 6)),o 59 (.iaddr 1 (.tmp 57) (.tmp 58)),o 60 (.load 1 false (.tmp 59)),o 7 (.move (.tmp 60))]) (.seq (.seq (.region [o 8 (.move (.const (.int .i64 0)))]) (.block 6 (.loop [0,5,6,7,8] (.seq (.seq (.region [o 61 (.move (.tmp 8)),o 62 (.iop .lss (.tmp 61) (.const (.int .i64 20)))]) (.cond (.tmp 62) .skip (.exit 6))) (.seq (.block 7 (.region [o 65 (.move (.tmp 7)),o 66 (.move (.tmp 6)),o 67 (.iop .sub (.const (.int .i64 (-9000))) (.tmp 66)),o 68 (.build [.int .u8 0,(.str []),.int .i64 0,.int .i64 0,.int .i64 0] [(2,1,(.tmp 67))]),o 69 (.lit 5 [.int .u8 0,(.str []),.int .i64 0,.int .i64 0,.int .i64 0] true 1 [(0,(.tmp 68))]),o 70 (.append 5 48 (.tmp 65) (.tmp 69)),o 7 (.move (.tmp 70))])) (.region [o 63 (.move (.tmp 8)),o 64 (.iop .add (.tmp 63) (.const (.int .i64 1))),o 8 (.move (.tmp 64))])))))) (.region [o 71 (.move (.tmp 5)),o 72 (.move (.tmp 7)),o 73 (.lit 1 [.nilslice] false 1 [(0,(.tmp 72))]),o 74 (.append 1 24 (.tmp 71) (.tmp 73)),o 5 (.move (.tmp 74))])))) (.region [o 52 (.move (.tmp 6)),o 53 (.iop .add (.tmp 52) (.const (.int .i64 1))),o 6 (.move (.tmp 53))])))))) (.seq (.seq (.region [o 9 (.move (.const (.int .i64 0)))]) (.block 8 (.loop [0,5,9] (.seq (.seq (.region [o 75 (.move (.tmp 9)),o 76 (.move (.tmp 5)),o 77 (.lenS (.tmp 76)),o 78 (.iop .lss (.tmp 75) (.tmp 77))]) (.cond (.tmp 78) .skip (.exit 8))) (.seq (.block 9 (.seq (.seq (.region [o 10 (.move (.const (.int .i64 0)))]) (.block 10 (.loop [0,5,9,10] (.seq (.seq (.region [o 81 (.move (.tmp 10)),o 82 (.move (.tmp 5)),o 83 (.move (.tmp 9)),o 84 (.iaddr 1 (.tmp 82) (.tmp 83)),o 85 (.load 1 false (.tmp 84)),o 86 (.lenS (.tmp 85)),o 87 (.iop .lss (.tmp 81) (.tmp 86))]) (.cond (.tmp 87) .skip (.exit 10))) (.seq (.block 11 (.seq (.region [o 90 (.move (.tmp 5)),o 91 (.move (.tmp 9)),o 92 (.iaddr 1 (.tmp 90) (.tmp 91)),o 93 (.load 1 false (.tmp 92)),o 94 (.move (.tmp 10)),o 95 (.iaddr 5 (.tmp 93) (.tmp 94)),o 96 (.load 5 true (.tmp 95)),o 97 (.move (.tmp 9)),o 98 (.iop .sub (.const (.int .i64 (-9000))) (.tmp 97)),o 99 (.build [.int .u8 0,(.str []),.int .i64 0,.int .i64 0,.int .i64 0] [(2,1,(.tmp 98))]),o 100 (.eqs true [.i,.s,.i,.i,.i] (.tmp 96) (.tmp 99))]) (.cond (.tmp 100) (.seq (.region [o 2 (.move (.const (.bool false)))]) .ret) .skip))) (.region [o 88 (.move (.tmp 10)),o 89 (.iop .add (.tmp 88) (.const (.int .i64 1))),o 10 (.move (.tmp 89))])))))) (.seq (.region [o 11 (.move (.const (.int .i64 0)))]) (.block 12 (.loop [0,5,9,11] (.seq (.seq (.region [o 101 (.move (.tmp 11)),o 102 (.move (.tmp 0)),o 103 (.nilCheck (.tmp 102)),o 104 (.faddr 3 (.tmp 103)),o 105 (.load 1 false (.tmp 104)),o 106 (.move (.tmp 9)),o 107 (.iaddr 1 (.tmp 105) (.tmp 106)),o 108 (.load 1 false (.tmp 107)),o 109 (.lenS (.tmp 108)),o 110 (.iop .lss (.tmp 101) (.tmp 109))]) (.cond (.tmp 110) .skip (.exit 12))) (.seq (.block 13 (.seq (.region [o 113 (.move (.tmp 0)),o 114 (.nilCheck (.tmp 113)),o 115 (.faddr 3 (.tmp 114)),o 116 (.load 1 false (.tmp 115)),o 117 (.move (.tmp 9)),o 118 (.iaddr 1 (.tmp 116) (.tmp 117)),o 119 (.load 1 false (.tmp 118)),o 120 (.move (.tmp 11)),o 121 (.iaddr 5 (.tmp 119) (.tmp 120)),o 122 (.load 5 true (.tmp 121)),o 123 (.move (.tmp 9)),o 124 (.iop .sub (.const (.int .i64 (-9000))) (.tmp 123)),o 125 (.build [.int .u8 0,(.str []),.int .i64 0,.int .i64 0,.int .i64 0] [(2,1,(.tmp 124))]),o 126 (.eqs true [.i,.s,.i,.i,.i] (.tmp 122) (.tmp 125))]) (.cond (.tmp 126) (.seq (.region [o 2 (.move (.const (.bool false)))]) .ret) .skip))) (.region [o 111 (.move (.tmp 11)),o 112 (.iop .add (.tmp 111) (.const (.int .i64 1))),o 11 (.move (.tmp 112))])))))))) (.region [o 79 (.move (.tmp 9)),o 80 (.iop .add (.tmp 79) (.const (.int .i64 1))),o 9 (.move (.tmp 80))])))))) (.seq (.region [o 2 (.move (.const (.bool true)))]) .ret)))))),[.tmp 2]⟩
def a71 : AFunc := ⟨127,(.seq (.region [o 2 (.move (.const (.bool false)))]) (.seq (.seq (.region [o 3 (.move (.const (.int .i64 0)))]) (.block 0 (.loop [0,3] (.seq (.seq (.region [o 12 (.move (.tmp 3)),o 13 (.move (.tmp 0)),o 14 (.nilCheck (.tmp 13)),o 15 (.faddr 4 (.tmp 14)),o 16 (.load 1 false (.tmp 15)),o 17 (.lenS (.tmp 16)),o 18 (.iop .lss (.tmp 12) (.tmp 17))]) (.cond (.tmp 18) .skip (.exit 0))) (.seq (.block 1 (.seq (.region [o 4 (.move (.const (.int .i64 0)))]) (.block 2 (.loop [0,3,4] (.seq (.seq (.region [o 21 (.move (.tmp 4)),o 22 (.move (.tmp 0)),o 23 (.nilCheck (.tmp 22)),o 24 (.faddr 4 (.tmp 23)),o 25 (.load 1 false (.tmp 24)),o 26 (.move (.tmp 3)),o 27 (.iaddr 1 (.tmp 25) (.tmp 26)),o 28 (.load 1 false (.tmp 27)),o 29 (.lenS (.tmp 28)),o 30 (.iop .lss (.tmp 21) (.tmp 29))]) (.cond (.tmp 30) .skip (.exit 2))) (.seq (.block 3 (.region [o 33 (.move (.tmp 0)),o 34 (.nilCheck (.tmp 33)),o 35 (.faddr 4 (.tmp 34)),o 36 (.load 1 false (.tmp 35)),o 37 (.move (.tmp 3)),o 38 (.iaddr 1 (.tmp 36) (.tmp 37)),o 39 (.load 1 false (.tmp 38)),o 40 (.move (.tmp 4)),o 41 (.move (.tmp 3)),o 42 (.iop .sub (.const (.int .i64 (-9000))) (.tmp 41)),o 43 (.build [.int .i64 0,.int .i64 0] [(0,1,(.tmp 42))]),o 44 (.iaddr 2 (.tmp 39) (.tmp 40)),⟨none,.store 2 (.tmp 44) (.tmp 43),none⟩])) (.region [o 31 (.move (.tmp 4)),o 32 (.iop .add (.tmp 31) (.const (.int .i64 1))),o 4 (.move (.tmp 32))]))))))) (.region [o 19 (.move (.tmp 3)),o 20 (.iop .add (.tmp 19) (.const (.int .i64 1))),o 3 (.move (.tmp 20))])))))) (.seq (.region [o 5 (.move (.const .nilslice))]) (.seq (.seq (.region [o 6 (.move (.const (.int .i64 0)))]) (.block 4 (.loop [0,5,6] (.seq (.seq (.region [o 45 (.move (.tmp 6)),o 46 (.move (.tmp 0)),o 47 (.nilCheck (.tmp 46)),o 48 (.faddr 4 (.tmp 47)),o 49 (.load 1 false (.tmp 48)),o 50 (.lenS (.tmp 49)),o 51 (.iop .lss (.tmp 45) (.tmp 50))]) (.cond (.tmp 51) .skip (.exit 4))) (.seq (.block 5 (.seq (.region [o 54 (.move (.tmp 0)),o 55 (.nilCheck (.tmp 54)),o 56 (.faddr 4 (.tmp 55)),o 57 (.load 1 false (.tmp 56)),o 58 (.move (.tmp 6)),o 59 (.iaddr 1 (.tmp 57) (.tmp 58)),o 60 (.load 1 false (.tmp 59)),o 7 (.move (.tmp 60))]) (.seq (.seq (.region [o 8 (.move (.const (.int .i64 0)))]) (.block 6 (.loop [0,5,6,7,8] (.seq (.seq (.region [o 61 (.move (.tmp 8)),o 62 (.iop .lss (.tmp 61) (.const (.int .i64 20)))]) (.cond (.tmp 62) .skip (.exit 6))) (.seq (.block 7 (.region [o 65 (.move (.tmp 7)),o 66 (.move (.tmp 6)),o 67 (.iop .sub (.const (.int .i64 (-9000))) (.tmp 66)),o 68 (.build [.int .i64 0,.int .i64 0] [(0,1,(.tmp 67))]),o 69 (.lit 2 [.int .i64 0,.int .i64 0] true 1 [(0,(.tmp 68))]),o 70 (.append 2 16 (.tmp 65) (.tmp 69)),o 7 (.move (.tmp 70))])) (.region [o 63 (.move (.tmp 8)),o 64 (.iop .add (.tmp 63) (.const (.int .i64 1))),o 8 (.move (.tmp 64))])))))) (.region [o 71 (.move (.tmp 5)),o 72 (.move (.tmp 7)),o 73 (.lit 1 [.nilslice] false 1 [(0,(.tmp 72))]),o 74 (.append 1 24 (.tmp 71) (.tmp 73)),o 5 (.move (.tmp 74))])))) (.region [o 52 (.move (.tmp 6)),o 53 (.iop .add (.tmp 52) (.const (.int .i64 1))),o 6 (.move (.tmp 53))])))))) (.seq (.seq (.region [o 9 (.move (.const (.int .i64 0)))]) (.block 8 (.loop [0,5,9] (.seq (.seq (.region [o 75 (.move (.tmp 9)),o 76 (.move (.tmp 5)),o 77 (.lenS (.tmp 76)),o 78 (.iop .lss (.tmp 75) (.tmp 77))]) (.cond (.tmp 78) .skip (.exit 8))) (.seq (.block 9 (.seq (.seq (.region [o 10 (.move (.const (.int .i64 0)))]) (.block 10 (.loop [0,5,9,10] (.seq (.seq (.region [o 81 (.move (.tmp 10)),o 82 (.move (.tmp 5)),o 83 (.move (.tmp 9)),o 84 (.iaddr 1 (.tmp 82) (.tmp 83)),o 85 (.load 1 false (.tmp 84)),o 86 (.lenS (.tmp 85)),o 87 (.iop .lss (.tmp 81) (.tmp 86))]) (.cond (.tmp 87) .skip (.exit 10))) (.seq (.block 11 (.seq (.region [o 90 (.move (.tmp 5)),o 91 (.move (.tmp 9)),o 92 (.iaddr 1 (.tmp 90) (.tmp 91)),o 93 (.load 1 false (.tmp 92)),o 94 (.move (.tmp 10)),o 95 (.iaddr 2 (.tmp 93) (.tmp 94)),o 96 (.load 2 true (.tmp 95)),o 97 (.move (.tmp 9)),o 98 (.iop .sub (.const (.int .i64 (-9000))) (.tmp 97)),o 99 (.build [.int .i64 0,.int .i64 0] [(0,1,(.tmp 98))]),o 100 (.eqs true [.i,.i] (.tmp 96) (.tmp 99))]) (.cond (.tmp 100) (.seq (.region [o 2 (.move (.const (.bool false)))]) .ret) .skip))) (.region [o 88 (.move (.tmp 10)),o 89 (.iop .add (.tmp 88) (.const (.int .i64 1))),o 10 (.move (.tmp 89))])))))) (.seq (.region [o 11 (.move (.const (.int .i64 0)))]) (.block 12 (.loop [0,5,9,11] (.seq (.seq (.region [o 101 (.move (.tmp 11)),o 102 (.move (.tmp 0)),o 103 (.nilCheck (.tmp 102)),o 104 (.faddr 4 (.tmp 103)),o 105 (.load 1 false (.tmp 104)),o 106 (.move (.tmp 9)),o 107 (.iaddr 1 (.tmp 105) (.tmp 106)),o 108 (.load 1 false (.tmp 107)),o 109 (.lenS (.tmp 108)),o 110 (.iop .lss (.tmp 101) (.tmp 109))]) (.cond (.tmp 110) .skip (.exit 12))) (.seq (.block 13 (.seq (.region [o 113 (.move (.tmp 0)),o 114 (.nilCheck (.tmp 113)),o 115 (.faddr 4 (.tmp 114)),o 116 (.load 1 false (.tmp 115)),o 117 (.move (.tmp 9)),o 118 (.iaddr 1 (.tmp 116) (.tmp 117)),o 119 (.load 1 false (.tmp 118)),o 120 (.move (.tmp 11)),o 121 (.iaddr 2 (.tmp 119) (.tmp 120)),o 122 (.load 2 true (.tmp 121)),o 123 (.move (.tmp 9)),o 124 (.iop .sub (.const (.int .i64 (-9000))) (.tmp 123)),o 125 (.build [.int .i64 0,.int .i64 0] [(0,1,(.tmp 124))]),o 126 (.eqs true [.i,.i] (.tmp 122) (.tmp 125))]) (.cond (.tmp 126) (.seq (.region [o 2 (.move (.const (.bool false)))]) .ret) .skip))) (.region [o 111 (.move (.tmp 11)),o 112 (.iop .add (.tmp 111) (.const (.int .i64 1))),o 11 (.move (.tmp 112))])))))))) (.region [o 79 (.move (.tmp 9)),o 80 (.iop .add (.tmp 79) (.const (.int .i64 1))),o 9 (.move (.tmp 80))])))))) (.seq (.region [o 2 (.move (.const (.bool true)))]) .ret)))))),[.tmp 2]⟩
def a73 : AFunc := ⟨28,(.seq (.region [o 4 (.move (.tmp 0)),o 5 (.lenS (.tmp 4)),o 6 (.iop .sub (.tmp 5) (.const (.int .i64 1))),o 2 (.move (.const (.int .i64 0))),o 3 (.move (.tmp 6))]) (.block 0 (.loop [0,2,3] (.seq (.seq (.region [o 7 (.move (.tmp 2)),o 8 (.move (.tmp 3)),o 9 (.iop .lss (.tmp 7) (.tmp 8))]) (.cond (.tmp 9) .skip (.exit 0))) (.seq (.block 1 (.region [o 14 (.move (.tmp 0)),o 15 (.move (.tmp 2)),o 16 (.move (.tmp 0)),o 17 (.move (.tmp 3)),o 18 (.move (.tmp 0)),o 19 (.move (.tmp 3)),o 20 (.iaddr 2 (.tmp 18) (.tmp 19)),o 21 (.load 2 true (.tmp 20)),o 22 (.move (.tmp 0)),o 23 (.move (.tmp 2)),o 24 (.iaddr 2 (.tmp 22) (.tmp 23)),o 25 (.load 2 true (.tmp 24)),o 26 (.iaddr 2 (.tmp 14) (.tmp 15)),⟨none,.store 2 (.tmp 26) (.tmp 21),none⟩,o 27 (.iaddr 2 (.tmp 16) (.tmp 17)),⟨none,.store 2 (.tmp 27) (.tmp 25),none⟩])) (.region [o 10 (.move (.tmp 2)),o 11 (.iop .add (.tmp 10) (.const (.int .i64 1))),o 12 (.move (.tmp 3)),o 13 (.iop .sub (.tmp 12) (.const (.int .i64 1))),o 2 (.move (.tmp 11)),o 3 (.move (.tmp 13))])))))),[]⟩
def a74 : AFunc := ⟨42,(.seq (.region [o 4 (.move (.const .nilslice))]) (.seq (.region [o 8 (.move (.tmp 0)),o 9 (.move (.tmp 1)),o 10 (.call .shared 122 [.tmp 8,.tmp 9]),o 5 (.move (.tmp 10))]) (.seq (.seq (.region [o 11 (.move (.tmp 5)),o 12 (.iop .eql (.tmp 11) (.const (.int .i64 (-1))))]) (.cond (.tmp 12) (.seq (.region [o 13 (.move (.tmp 0)),o 4 (.move (.tmp 13))]) .ret) .skip)) (.seq (.seq (.region [o 14 (.move (.tmp 5)),o 15 (.iop .add (.tmp 14) (.const (.int .i64 1))),o 6 (.move (.tmp 15))]) (.block 0 (.loop [0,1,5,6] (.seq (.seq (.region [o 16 (.move (.tmp 6)),o 17 (.move (.tmp 0)),o 18 (.lenS (.tmp 17)),o 19 (.iop .lss (.tmp 16) (.tmp 18))]) (.cond (.tmp 19) .skip (.exit 0))) (.seq (.block 1 (.seq (.region [o 22 (.move (.tmp 0)),o 23 (.move (.tmp 6)),o 24 (.iaddr 2 (.tmp 22) (.tmp 23)),o 25 (.load 2 true (.tmp 24)),o 7 (.alloc [.int .i64 0,.int .i64 0]),⟨none,.store 2 (.tmp 7) (.tmp 25),none⟩]) (.seq (.region [o 26 (.move (.tmp 1)),o 27 (.load 2 true (.tmp 7)),o 28 (.callv .shared (.tmp 26) [.tmp 27]),o 29 (.not (.tmp 28))]) (.cond (.tmp 29) (.seq (.region [o 30 (.move (.tmp 0)),o 31 (.move (.tmp 5)),o 32 (.load 2 true (.tmp 7)),o 33 (.iaddr 2 (.tmp 30) (.tmp 31)),⟨none,.store 2 (.tmp 33) (.tmp 32),none⟩]) (.region [o 34 (.move (.tmp 5)),o 35 (.iop .add (.tmp 34) (.const (.int .i64 1))),o 5 (.move (.tmp 35))])) .skip)))) (.region [o 20 (.move (.tmp 6)),o 21 (.iop .add (.tmp 20) (.const (.int .i64 1))),o 6 (.move (.tmp 21))])))))) (.seq (.region [o 36 (.move (.tmp 0)),o 37 (.move (.tmp 5)),o 38 (.sliceOp 2 (.tmp 36) (some (.tmp 37)) none none),⟨none,.clr 2 [.int .i64 0,.int .i64 0] true (.tmp 38),none⟩]) (.seq (.region [o 39 (.move (.tmp 0)),o 40 (.move (.tmp 5)),o 41 (.sliceOp 2 (.tmp 39) none (some (.tmp 40)) none),o 4 (.move (.tmp 41))]) .ret)))))),[.tmp 4]⟩
def a75 : AFunc := ⟨8,(.seq (.region [o 2 (.move (.const .nilslice))]) (.seq (.seq (.region [o 3 (.move (.tmp 0)),o 4 (.eqnil false .s (.tmp 3))]) (.cond (.tmp 4) (.seq (.region [o 2 (.move (.const .nilslice))]) .ret) .skip)) (.seq (.region [o 5 (.lit 2 [.int .i64 0,.int .i64 0] true 0 []),o 6 (.move (.tmp 0)),o 7 (.append 2 16 (.tmp 5) (.tmp 6)),o 2 (.move (.tmp 7))]) .ret))),[.tmp 2]⟩
def a76 : AFunc := ⟨8,(.seq (.region [o 2 (.box (.tmp 0)),o 3 (.move (.const (.bool false)))]) (.seq (.region [o 4 (.faddr 0 (.tmp 2)),o 5 (.load 1 false (.tmp 4)),o 6 (.load 1 false (.tmp 1)),o 7 (.iop .eql (.tmp 5) (.tmp 6)),o 3 (.move (.tmp 7))]) .ret)),[.tmp 3]⟩
def a77 : AFunc := ⟨16,(.seq (.region [o 3 (.box (.tmp 1)),o 4 (.move (.const .nilslice))]) (.seq (.region [o 8 (.move (.tmp 0)),o 9 (.load 2 true (.tmp 3)),o 10 (.call .shared 123 [.tmp 8,.tmp 9]),o 7 (.move (.tmp 10)),o 11 (.extract (.tmp 7) 0),o 12 (.extract (.tmp 7) 1),o 5 (.move (.tmp 11)),o 6 (.move (.tmp 12))]) (.seq (.region [o 13 (.move (.tmp 5)),o 14 (.lit 1 [.nilslice] false 1 [(0,(.tmp 13))]),o 15 (.call .shared 62 [.tmp 14]),o 4 (.move (.tmp 15))]) .ret))),[.tmp 4]⟩
def a78 : AFunc := ⟨9,(.seq (.region [o 3 (.box (.tmp 1)),o 4 (.move (.const (.bool false)))]) (.seq (.region [o 5 (.move (.tmp 0)),o 6 (.load 2 true (.tmp 3)),o 7 (.call .shared 124 [.tmp 5,.tmp 6]),o 8 (.iop .geq (.tmp 7) (.const (.int .i64 0))),o 4 (.move (.tmp 8))]) .ret)),[.tmp 4]⟩
def a79 : AFunc := ⟨10,(.seq (.region [o 2 (.move (.const (.bool false)))]) (.seq (.region [o 3 (.move (.tmp 0)),o 4 (.call .shared 125 [.tmp 3]),o 5 (.move (.tmp 4)),⟨some 6,.move (.tmp 0),some (5,true)⟩,⟨some 7,.call .shared 126 [.tmp 6,(.const (.func 127 [] []))],some (5,true)⟩,⟨some 8,.not (.tmp 7),some (5,true)⟩,o 9 (.pick (.tmp 5) (.tmp 8) (.const (.bool false))),o 2 (.move (.tmp 9))]) .ret)),[.tmp 2]⟩
def a81 : AFunc := ⟨24,(.seq (.region [o 2 (.box (.tmp 0)),o 3 (.box (.tmp 1)),o 4 (.move (.const (.bool false)))]) (.seq (.region [o 5 (.faddr 0 (.tmp 2)),o 6 (.load 1 false (.tmp 5)),o 7 (.faddr 0 (.tmp 3)),o 8 (.load 1 false (.tmp 7)),o 9 (.iop .lss (.tmp 6) (.tmp 8)),o 10 (.move (.tmp 9)),⟨some 11,.faddr 0 (.tmp 2),some (10,false)⟩,⟨some 12,.load 1 false (.tmp 11),some (10,false)⟩,⟨some 13,.faddr 0 (.tmp 3),some (10,false)⟩,⟨some 14,.load 1 false (.tmp 13),some (10,false)⟩,⟨some 15,.iop .eql (.tmp 12) (.tmp 14),some (10,false)⟩,⟨some 16,.move (.tmp 15),some (10,false)⟩,⟨some 17,.faddr 1 (.tmp 2),some (16,true)⟩,⟨some 18,.load 1 false (.tmp 17),some (16,true)⟩,⟨some 19,.faddr 1 (.tmp 3),some (16,true)⟩,⟨some 20,.load 1 false (.tmp 19),some (16,true)⟩,⟨some 21,.iop .lss (.tmp 18) (.tmp 20),some (16,true)⟩,⟨some 22,.pick (.tmp 16) (.tmp 21) (.const (.bool false)),some (10,false)⟩,o 23 (.pick (.tmp 10) (.const (.bool true)) (.tmp 22)),o 4 (.move (.tmp 23))]) .ret)),[.tmp 4]⟩
def a82 : AFunc := ⟨8,(.seq (.region [o 2 (.move (.const .nilslice))]) (.seq (.seq (.region [o 3 (.move (.tmp 0)),o 4 (.eqnil false .s (.tmp 3))]) (.cond (.tmp 4) (.seq (.region [o 2 (.move (.const .nilslice))]) .ret) .skip)) (.seq (.region [o 5 (.lit 5 [.int .u8 0,(.str []),.int .i64 0,.int .i64 0,.int .i64 0] true 0 []),o 6 (.move (.tmp 0)),o 7 (.append 5 48 (.tmp 5) (.tmp 6)),o 2 (.move (.tmp 7))]) .ret))),[.tmp 2]⟩
def a87 : AFunc := ⟨28,(.seq (.region [o 2 (.move (.const (.bool false)))]) (.seq (.seq (.region [o 4 (.move (.tmp 0)),o 5 (.call .shared 134 [.tmp 4]),o 6 (.not (.tmp 5))]) (.cond (.tmp 6) (.seq (.region [o 2 (.move (.const (.bool false)))]) .ret) .skip)) (.seq (.seq (.region [o 3 (.move (.const (.int .i64 0)))]) (.block 0 (.loop [0,3] (.seq (.seq (.region [o 7 (.move (.tmp 3)),o 8 (.move (.tmp 0)),o 9 (.lenS (.tmp 8)),o 10 (.iop .lss (.tmp 7) (.tmp 9))]) (.cond (.tmp 10) .skip (.exit 0))) (.seq (.block 1 (.seq (.region [o 13 (.move (.tmp 0)),o 14 (.move (.tmp 3)),o 15 (.iaddr 5 (.tmp 13) (.tmp 14)),o 16 (.faddr 0 (.tmp 15)),o 17 (.load 1 false (.tmp 16)),o 18 (.iop .eql (.tmp 17) (.const (.int .u8 4))),o 19 (.move (.tmp 18)),⟨some 20,.move (.tmp 0),some (19,true)⟩,⟨some 21,.move (.tmp 3),some (19,true)⟩,⟨some 22,.iaddr 5 (.tmp 20) (.tmp 21),some (19,true)⟩,⟨some 23,.faddr 3 (.tmp 22),some (19,true)⟩,⟨some 24,.faddr 0 (.tmp 23),some (19,true)⟩,⟨some 25,.load 1 false (.tmp 24),some (19,true)⟩,⟨some 26,.iop .lss (.tmp 25) (.const (.int .i64 0)),some (19,true)⟩,o 27 (.pick (.tmp 19) (.tmp 26) (.const (.bool false)))]) (.cond (.tmp 27) (.seq (.region [o 2 (.move (.const (.bool false)))]) .ret) .skip))) (.region [o 11 (.move (.tmp 3)),o 12 (.iop .add (.tmp 11) (.const (.int .i64 1))),o 3 (.move (.tmp 12))])))))) (.seq (.region [o 2 (.move (.const (.bool true)))]) .ret)))),[.tmp 2]⟩
def a89 : AFunc := ⟨24,(.seq (.region [o 2 (.box (.tmp 0)),o 3 (.box (.tmp 1)),o 4 (.move (.const (.bool false)))]) (.seq (.region [o 5 (.faddr 0 (.tmp 2)),o 6 (.load 1 false (.tmp 5)),o 7 (.faddr 0 (.tmp 3)),o 8 (.load 1 false (.tmp 7)),o 9 (.iop .lss (.tmp 6) (.tmp 8)),o 10 (.move (.tmp 9)),⟨some 11,.faddr 0 (.tmp 2),some (10,false)⟩,⟨some 12,.load 1 false (.tmp 11),some (10,false)⟩,⟨some 13,.faddr 0 (.tmp 3),some (10,false)⟩,⟨some 14,.load 1 false (.tmp 13),some (10,false)⟩,⟨some 15,.iop .eql (.tmp 12) (.tmp 14),some (10,false)⟩,⟨some 16,.move (.tmp 15),some (10,false)⟩,⟨some 17,.faddr 1 (.tmp 2),some (16,true)⟩,⟨some 18,.load 1 false (.tmp 17),some (16,true)⟩,⟨some 19,.faddr 1 (.tmp 3),some (16,true)⟩,⟨some 20,.load 1 false (.tmp 19),some (16,true)⟩,⟨some 21,.iop .lss (.tmp 18) (.tmp 20),some (16,true)⟩,⟨some 22,.pick (.tmp 16) (.tmp 21) (.const (.bool false)),some (10,false)⟩,o 23 (.pick (.tmp 10) (.const (.bool true)) (.tmp 22)),o 4 (.move (.tmp 23))]) .ret)),[.tmp 4]⟩
def a94 : AFunc := ⟨4,(.seq (.region [o 1 (.box (.tmp 0)),o 2 (.move (.const .nilfunc))]) (.seq (.region [o 3 (.mkfunc 140 [] [.tmp 1]),o 2 (.move (.tmp 3))]) .ret)),[.tmp 2]⟩
def a95 : AFunc := ⟨13,(.seq (.region [o 2 (.box (.tmp 0)),o 3 (.box (.tmp 1)),o 4 (.move (.const (.int .i64 0)))]) (.seq (.block 0 (.seq (.region [o 6 (.load 2 true (.tmp 2)),o 7 (.load 2 true (.tmp 3)),o 8 (.call .shared 81 [.tmp 6,.tmp 7]),o 5 (.move (.tmp 8))]) (.cond (.tmp 5) (.seq (.region [o 4 (.move (.const (.int .i64 (-1))))]) .ret) (.seq (.region [o 10 (.load 2 true (.tmp 2)),o 11 (.load 2 true (.tmp 3)),o 12 (.eqs false [.i,.i] (.tmp 10) (.tmp 11)),o 9 (.move (.tmp 12))]) (.cond (.tmp 9) (.seq (.region [o 4 (.move (.const (.int .i64 0)))]) .ret) .skip))))) (.seq (.region [o 4 (.move (.const (.int .i64 1)))]) .ret))),[.tmp 4]⟩
def a112 : AFunc := ⟨6,(.seq (.region [o 1 (.box (.tmp 0)),o 2 (.move (.const .nilslice))]) (.seq (.region [o 3 (.load 2 true (.tmp 1)),o 4 (.build [.int .u8 0,(.str []),.int .i64 0,.int .i64 0,.int .i64 0] [(0,1,(.const (.int .u8 4))),(3,2,(.tmp 3))]),o 5 (.call .shared 155 [.tmp 4]),o 2 (.move (.tmp 5))]) .ret)),[.tmp 2]⟩
def a113 : AFunc := ⟨6,(.seq (.region [o 1 (.box (.tmp 0)),o 2 (.move (.const .nilslice))]) (.seq (.region [o 3 (.load 2 true (.tmp 1)),o 4 (.build [.int .u8 0,(.str []),.int .i64 0,.int .i64 0,.int .i64 0] [(0,1,(.const (.int .u8 4))),(3,2,(.tmp 3))]),o 5 (.call .shared 156 [.tmp 4]),o 2 (.move (.tmp 5))]) .ret)),[.tmp 2]⟩
def a114 : AFunc := ⟨30,(.seq (.region [o 3 (.box (.tmp 1)),o 4 (.move (.const (.int .i64 0)))]) (.seq (.seq (.region [o 5 (.move (.const (.int .i64 0)))]) (.block 0 (.loop [0,3,5] (.seq (.seq (.region [o 6 (.move (.tmp 0)),o 7 (.eqnil true .p (.tmp 6)),o 8 (.move (.tmp 7)),⟨some 9,.move (.tmp 5),some (8,true)⟩,⟨some 10,.move (.tmp 0),some (8,true)⟩,⟨some 11,.nilCheck (.tmp 10),some (8,true)⟩,⟨some 12,.faddr 0 (.tmp 11),some (8,true)⟩,⟨some 13,.load 1 false (.tmp 12),some (8,true)⟩,⟨some 14,.lenS (.tmp 13),some (8,true)⟩,⟨some 15,.iop .lss (.tmp 9) (.tmp 14),some (8,true)⟩,o 16 (.pick (.tmp 8) (.tmp 15) (.const (.bool false)))]) (.cond (.tmp 16) .skip (.exit 0))) (.seq (.block 1 (.seq (.region [o 19 (.move (.tmp 0)),o 20 (.nilCheck (.tmp 19)),o 21 (.faddr 0 (.tmp 20)),o 22 (.load 1 false (.tmp 21)),o 23 (.move (.tmp 5)),o 24 (.iaddr 3 (.tmp 22) (.tmp 23)),o 25 (.faddr 0 (.tmp 24)),o 26 (.load 2 true (.tmp 25)),o 27 (.load 2 true (.tmp 3)),o 28 (.eqs false [.i,.i] (.tmp 26) (.tmp 27))]) (.cond (.tmp 28) (.seq (.region [o 29 (.move (.tmp 5)),o 4 (.move (.tmp 29))]) .ret) .skip))) (.region [o 17 (.move (.tmp 5)),o 18 (.iop .add (.tmp 17) (.const (.int .i64 1))),o 5 (.move (.tmp 18))])))))) (.seq (.region [o 4 (.move (.const (.int .i64 (-1))))]) .ret))),[.tmp 4]⟩
def a115 : AFunc := ⟨23,(.seq (.region [o 4 (.box (.tmp 0)),o 5 (.box (.tmp 1))]) (.seq (.region [o 9 (.load 1 false (.tmp 2)),o 10 (.load 2 true (.tmp 4)),o 11 (.lookup true [.i,.i] (.agg [.int .i64 0,.int .i64 0]) (.tmp 9) (.tmp 10) true),o 8 (.move (.tmp 11)),o 12 (.extract (.tmp 8) 0),o 13 (.extract (.tmp 8) 1),o 6 (.alloc [.int .i64 0,.int .i64 0]),⟨none,.store 2 (.tmp 6) (.tmp 12),none⟩,o 7 (.move (.tmp 13))]) (.seq (.region [o 14 (.move (.tmp 7)),o 15 (.not (.tmp 14))]) (.cond (.tmp 15) (.seq (.region [o 16 (.load 1 false (.tmp 2)),o 17 (.load 2 true (.tmp 4)),o 18 (.load 2 true (.tmp 5)),⟨none,.mapset true [.i,.i] (.tmp 16) (.tmp 17) (.tmp 18),none⟩]) (.region [o 19 (.load 1 false (.tmp 3)),o 20 (.load 2 true (.tmp 4)),o 21 (.lit 2 [.int .i64 0,.int .i64 0] true 1 [(0,(.tmp 20))]),o 22 (.append 2 16 (.tmp 19) (.tmp 21)),⟨none,.store 1 (.tmp 3) (.tmp 22),none⟩])) .skip)))),[]⟩
def a117 : AFunc := ⟨13,(.seq (.region [o 2 (.box (.tmp 0)),o 3 (.box (.tmp 1)),o 4 (.move (.const (.int .i64 0)))]) (.seq (.block 0 (.seq (.region [o 6 (.load 2 true (.tmp 2)),o 7 (.load 2 true (.tmp 3)),o 8 (.call .shared 81 [.tmp 6,.tmp 7]),o 5 (.move (.tmp 8))]) (.cond (.tmp 5) (.seq (.region [o 4 (.move (.const (.int .i64 (-1))))]) .ret) (.seq (.region [o 10 (.load 2 true (.tmp 2)),o 11 (.load 2 true (.tmp 3)),o 12 (.eqs false [.i,.i] (.tmp 10) (.tmp 11)),o 9 (.move (.tmp 12))]) (.cond (.tmp 9) (.seq (.region [o 4 (.move (.const (.int .i64 0)))]) .ret) .skip))))) (.seq (.region [o 4 (.move (.const (.int .i64 1)))]) .ret))),[.tmp 4]⟩
def a118 : AFunc := ⟨61,(.seq (.region [o 2 (.move (.const .nilslice))]) (.seq (.seq (.region [o 6 (.move (.tmp 0)),o 7 (.lenS (.tmp 6)),o 8 (.iop .lss (.tmp 7) (.const (.int .i64 2)))]) (.cond (.tmp 8) (.seq (.region [o 9 (.move (.tmp 0)),o 2 (.move (.tmp 9))]) .ret) .skip)) (.seq (.seq (.region [o 3 (.move (.const (.int .i64 1)))]) (.block 0 (.loop [0,3] (.seq (.seq (.region [o 10 (.move (.tmp 3)),o 11 (.move (.tmp 0)),o 12 (.lenS (.tmp 11)),o 13 (.iop .lss (.tmp 10) (.tmp 12))]) (.cond (.tmp 13) .skip (.exit 0))) (.seq (.block 1 (.seq (.region [o 16 (.move (.tmp 0)),o 17 (.move (.tmp 3)),o 18 (.iaddr 2 (.tmp 16) (.tmp 17)),o 19 (.load 2 true (.tmp 18)),o 20 (.move (.tmp 0)),o 21 (.move (.tmp 3)),o 22 (.iop .sub (.tmp 21) (.const (.int .i64 1))),o 23 (.iaddr 2 (.tmp 20) (.tmp 22)),o 24 (.load 2 true (.tmp 23)),o 25 (.eqs false [.i,.i] (.tmp 19) (.tmp 24))]) (.cond (.tmp 25) (.seq (.region [o 26 (.move (.tmp 0)),o 27 (.move (.tmp 3)),o 28 (.sliceOp 2 (.tmp 26) (some (.tmp 27)) none none),o 4 (.move (.tmp 28))]) (.seq (.seq (.region [o 5 (.move (.const (.int .i64 1)))]) (.block 2 (.loop [0,3,4,5] (.seq (.seq (.region [o 29 (.move (.tmp 5)),o 30 (.move (.tmp 4)),o 31 (.lenS (.tmp 30)),o 32 (.iop .lss (.tmp 29) (.tmp 31))]) (.cond (.tmp 32) .skip (.exit 2))) (.seq (.block 3 (.seq (.region [o 35 (.move (.tmp 4)),o 36 (.move (.tmp 5)),o 37 (.iaddr 2 (.tmp 35) (.tmp 36)),o 38 (.load 2 true (.tmp 37)),o 39 (.move (.tmp 4)),o 40 (.move (.tmp 5)),o 41 (.iop .sub (.tmp 40) (.const (.int .i64 1))),o 42 (.iaddr 2 (.tmp 39) (.tmp 41)),o 43 (.load 2 true (.tmp 42)),o 44 (.eqs true [.i,.i] (.tmp 38) (.tmp 43))]) (.cond (.tmp 44) (.seq (.region [o 45 (.move (.tmp 0)),o 46 (.move (.tmp 3)),o 47 (.move (.tmp 4)),o 48 (.move (.tmp 5)),o 49 (.iaddr 2 (.tmp 47) (.tmp 48)),o 50 (.load 2 true (.tmp 49)),o 51 (.iaddr 2 (.tmp 45) (.tmp 46)),⟨none,.store 2 (.tmp 51) (.tmp 50),none⟩]) (.region [o 52 (.move (.tmp 3)),o 53 (.iop .add (.tmp 52) (.const (.int .i64 1))),o 3 (.move (.tmp 53))])) .skip))) (.region [o 33 (.move (.tmp 5)),o 34 (.iop .add (.tmp 33) (.const (.int .i64 1))),o 5 (.move (.tmp 34))])))))) (.seq (.region [o 54 (.move (.tmp 0)),o 55 (.move (.tmp 3)),o 56 (.sliceOp 2 (.tmp 54) (some (.tmp 55)) none none),⟨none,.clr 2 [.int .i64 0,.int .i64 0] true (.tmp 56),none⟩]) (.seq (.region [o 57 (.move (.tmp 0)),o 58 (.move (.tmp 3)),o 59 (.sliceOp 2 (.tmp 57) none (some (.tmp 58)) none),o 2 (.move (.tmp 59))]) .ret)))) .skip))) (.region [o 14 (.move (.tmp 3)),o 15 (.iop .add (.tmp 14) (.const (.int .i64 1))),o 3 (.move (.tmp 15))])))))) (.seq (.region [o 60 (.move (.tmp 0)),o 2 (.move (.tmp 60))]) .ret)))),[.tmp 2]⟩
def a119 : AFunc := ⟨20,(.seq (.region [o 3 (.box (.tmp 1)),o 4 (.move (.const .nilslice)),o 5 (.move (.const (.bool false)))]) (.seq (.region [o 7 (.move (.tmp 0)),o 8 (.load 2 true (.tmp 3)),o 9 (.call .shared 114 [.tmp 7,.tmp 8]),o 6 (.move (.tmp 9))]) (.seq (.seq (.region [o 10 (.move (.tmp 6)),o 11 (.iop .lss (.tmp 10) (.const (.int .i64 0)))]) (.cond (.tmp 11) (.seq (.region [o 4 (.move (.const .nilslice)),o 5 (.move (.const (.bool false)))]) .ret) .skip)) (.seq (.region [o 12 (.move (.tmp 0)),o 13 (.nilCheck (.tmp 12)),o 14 (.faddr 0 (.tmp 13)),o 15 (.load 1 false (.tmp 14)),o 16 (.move (.tmp 6)),o 17 (.iaddr 3 (.tmp 15) (.tmp 16)),o 18 (.faddr 2 (.tmp 17)),o 19 (.load 1 false (.tmp 18)),o 4 (.move (.tmp 19)),o 5 (.move (.const (.bool true)))]) .ret)))),[.tmp 4,.tmp 5]⟩
def a120 : AFunc := ⟨6,(.seq (.region [o 2 (.move (.const .nilslice))]) (.seq (.region [o 3 (.move (.tmp 0)),o 4 (.lit 1 [.nilslice] false 1 [(0,(.tmp 3))]),o 5 (.call .shared 66 [.tmp 4]),o 2 (.move (.tmp 5))]) .ret)),[.tmp 2]⟩
def a121 : AFunc := ⟨20,(.seq (.region [o 2 (.move (.const (.str [])))]) (.seq (.region [o 3 (.move (.tmp 0)),o 4 (.iop .rem (.tmp 3) (.const (.int .i64 26))),o 5 (.iop .add (.const (.int .i64 97)) (.tmp 4)),o 6 (.convI .u8 (.tmp 5)),o 7 (.move (.tmp 0)),o 8 (.iop .quo (.tmp 7) (.const (.int .i64 26))),o 9 (.iop .rem (.tmp 8) (.const (.int .i64 26))),o 10 (.iop .add (.const (.int .i64 97)) (.tmp 9)),o 11 (.convI .u8 (.tmp 10)),o 12 (.move (.tmp 0)),o 13 (.iop .quo (.tmp 12) (.const (.int .i64 676))),o 14 (.iop .rem (.tmp 13) (.const (.int .i64 26))),o 15 (.iop .add (.const (.int .i64 97)) (.tmp 14)),o 16 (.convI .u8 (.tmp 15)),o 17 (.lit 1 [.int .u8 0] false 3 [(0,(.tmp 6)),(1,(.tmp 11)),(2,(.tmp 16))]),o 18 .fail,o 19 (.sop .add (.const (.str [109,97,114,107,32])) (.tmp 18)),o 2 (.move (.tmp 19))]) .ret)),[.tmp 2]⟩
def a122 : AFunc := ⟨19,(.seq (.region [o 4 (.move (.const (.int .i64 0)))]) (.seq (.seq (.region [o 6 (.move (.tmp 0)),o 7 (.lenS (.tmp 6)),o 8 (.move (.const (.int .i64 0)))]) (.block 0 (.loop [0,1,7,8] (.seq (.region [o 9 (.iop .lss (.tmp 8) (.tmp 7))]) (.seq (.cond (.tmp 9) .skip (.exit 0)) (.seq (.block 1 (.seq (.region [o 10 (.move (.tmp 8)),o 5 (.move (.tmp 10))]) (.seq (.region [o 11 (.move (.tmp 1)),o 12 (.move (.tmp 0)),o 13 (.move (.tmp 5)),o 14 (.iaddr 2 (.tmp 12) (.tmp 13)),o 15 (.load 2 true (.tmp 14)),o 16 (.callv .shared (.tmp 11) [.tmp 15])]) (.cond (.tmp 16) (.seq (.region [o 17 (.move (.tmp 5)),o 4 (.move (.tmp 17))]) .ret) .skip)))) (.region [o 18 (.iop .add (.tmp 8) (.const (.int .i64 1))),o 8 (.move (.tmp 18))]))))))) (.seq (.region [o 4 (.move (.const (.int .i64 (-1))))]) .ret))),[.tmp 4]⟩
def a123 : AFunc := ⟨17,(.seq (.region [o 3 (.box (.tmp 1)),o 4 (.move (.const .nilslice)),o 5 (.move (.const (.bool false)))]) (.seq (.region [o 9 (.move (.tmp 0)),o 10 (.load 2 true (.tmp 3)),o 11 (.call .shared 159 [.tmp 9,.tmp 10]),o 8 (.move (.tmp 11)),o 12 (.extract (.tmp 8) 0),o 13 (.extract (.tmp 8) 1),o 6 (.move (.tmp 12)),o 7 (.move (.tmp 13))]) (.seq (.region [o 14 (.move (.tmp 6)),o 15 (.call .shared 82 [.tmp 14]),o 16 (.move (.tmp 7)),o 4 (.move (.tmp 15)),o 5 (.move (.tmp 16))]) .ret))),[.tmp 4,.tmp 5]⟩
def a124 : AFunc := ⟨19,(.seq (.region [o 3 (.box (.tmp 1)),o 4 (.move (.const (.int .i64 0)))]) (.seq (.seq (.region [o 6 (.move (.tmp 0)),o 7 (.lenS (.tmp 6)),o 8 (.move (.const (.int .i64 0)))]) (.block 0 (.loop [0,3,7,8] (.seq (.region [o 9 (.iop .lss (.tmp 8) (.tmp 7))]) (.seq (.cond (.tmp 9) .skip (.exit 0)) (.seq (.block 1 (.seq (.region [o 10 (.move (.tmp 8)),o 5 (.move (.tmp 10))]) (.seq (.region [o 11 (.load 2 true (.tmp 3)),o 12 (.move (.tmp 0)),o 13 (.move (.tmp 5)),o 14 (.iaddr 2 (.tmp 12) (.tmp 13)),o 15 (.load 2 true (.tmp 14)),o 16 (.eqs false [.i,.i] (.tmp 11) (.tmp 15))]) (.cond (.tmp 16) (.seq (.region [o 17 (.move (.tmp 5)),o 4 (.move (.tmp 17))]) .ret) .skip)))) (.region [o 18 (.iop .add (.tmp 8) (.const (.int .i64 1))),o 8 (.move (.tmp 18))]))))))) (.seq (.region [o 4 (.move (.const (.int .i64 (-1))))]) .ret))),[.tmp 4]⟩
def a125 : AFunc := ⟨21,(.seq (.region [o 2 (.move (.const (.bool false)))]) (.seq (.seq (.region [o 3 (.move (.tmp 0)),o 4 (.lenS (.tmp 3)),o 5 (.iop .eql (.tmp 4) (.const (.int .i64 0))),o 6 (.move (.tmp 5)),⟨some 7,.move (.tmp 0),some (6,false)⟩,⟨some 8,.lenS (.tmp 7),some (6,false)⟩,⟨some 9,.iop .gtr (.tmp 8) (.const (.int .i64 256)),some (6,false)⟩,o 10 (.pick (.tmp 6) (.const (.bool true)) (.tmp 9)),o 11 (.move (.tmp 10)),⟨some 12,.move (.tmp 0),some (11,false)⟩,⟨some 13,.call .shared 129 [.tmp 12,(.const (.int .i64 0))],some (11,false)⟩,⟨some 14,.move (.tmp 0),some (11,false)⟩,⟨some 15,.lenS (.tmp 14),some (11,false)⟩,⟨some 16,.iop .neq (.tmp 13) (.tmp 15),some (11,false)⟩,o 17 (.pick (.tmp 11) (.const (.bool true)) (.tmp 16))]) (.cond (.tmp 17) (.seq (.region [o 2 (.move (.const (.bool false)))]) .ret) .skip)) (.seq (.region [o 18 (.move (.tmp 0)),o 19 (.call .shared 126 [.tmp 18,(.const (.func 160 [] []))]),o 20 (.not (.tmp 19)),o 2 (.move (.tmp 20))]) .ret))),[.tmp 2]⟩
def a126 : AFunc := ⟨9,(.seq (.region [o 4 (.move (.const (.bool false)))]) (.seq (.region [o 5 (.move (.tmp 0)),o 6 (.move (.tmp 1)),o 7 (.call .shared 161 [.tmp 5,.tmp 6]),o 8 (.iop .geq (.tmp 7) (.const (.int .i64 0))),o 4 (.move (.tmp 8))]) .ret)),[.tmp 4]⟩
def a127 : AFunc := ⟨12,(.seq (.region [o 1 (.box (.tmp 0)),o 2 (.move (.const (.bool false)))]) (.seq (.region [o 3 (.faddr 0 (.tmp 1)),o 4 (.load 1 false (.tmp 3)),o 5 (.iop .eql (.tmp 4) (.const (.int .u8 4))),o 6 (.move (.tmp 5)),⟨some 7,.faddr 3 (.tmp 1),some (6,true)⟩,⟨some 8,.faddr 0 (.tmp 7),some (6,true)⟩,⟨some 9,.load 1 false (.tmp 8),some (6,true)⟩,⟨some 10,.iop .eql (.tmp 9) (.const (.int .i64 (-1))),some (6,true)⟩,o 11 (.pick (.tmp 6) (.tmp 10) (.const (.bool false))),o 2 (.move (.tmp 11))]) .ret)),[.tmp 2]⟩
def a129 : AFunc := ⟨41,(.seq (.region [o 4 (.move (.const (.int .i64 0)))]) (.seq (.seq (.region [o 6 (.move (.tmp 1)),o 7 (.iop .lss (.tmp 6) (.const (.int .i64 0))),o 8 (.move (.tmp 7)),⟨some 9,.move (.tmp 1),some (8,false)⟩,⟨some 10,.move (.tmp 0),some (8,false)⟩,⟨some 11,.lenS (.tmp 10),some (8,false)⟩,⟨some 12,.iop .geq (.tmp 9) (.tmp 11),some (8,false)⟩,o 13 (.pick (.tmp 8) (.const (.bool true)) (.tmp 12))]) (.cond (.tmp 13) (.seq (.region [o 4 (.move (.const (.int .i64 0)))]) .ret) .skip)) (.seq (.seq (.region [o 5 (.move (.const (.int .i64 1)))]) (.block 0 (.loop [0,1,5] (.seq (.seq (.region [o 14 (.move (.tmp 5)),o 15 (.iop .gtr (.tmp 14) (.const (.int .i64 0)))]) (.cond (.tmp 15) .skip (.exit 0))) (.seq (.block 1 (.seq (.seq (.region [o 18 (.move (.tmp 1)),o 19 (.move (.tmp 0)),o 20 (.lenS (.tmp 19)),o 21 (.iop .eql (.tmp 18) (.tmp 20)),o 22 (.move (.tmp 21)),⟨some 23,.move (.tmp 0),some (22,false)⟩,⟨some 24,.move (.tmp 1),some (22,false)⟩,⟨some 25,.iaddr 5 (.tmp 23) (.tmp 24),some (22,false)⟩,⟨some 26,.load 5 true (.tmp 25),some (22,false)⟩,⟨some 27,.call .shared 163 [.tmp 26],some (22,false)⟩,⟨some 28,.move (.tmp 0),some (22,false)⟩,⟨some 29,.lenS (.tmp 28),some (22,false)⟩,⟨some 30,.iop .gtr (.tmp 27) (.tmp 29),some (22,false)⟩,o 31 (.pick (.tmp 22) (.const (.bool true)) (.tmp 30))]) (.cond (.tmp 31) (.seq (.region [o 4 (.move (.const (.int .i64 0)))]) .ret) .skip)) (.region [o 32 (.move (.tmp 5)),o 33 (.move (.tmp 0)),o 34 (.move (.tmp 1)),o 35 (.iaddr 5 (.tmp 33) (.tmp 34)),o 36 (.load 5 true (.tmp 35)),o 37 (.call .shared 163 [.tmp 36]),o 38 (.iop .sub (.tmp 37) (.const (.int .i64 1))),o 39 (.iop .add (.tmp 32) (.tmp 38)),o 5 (.move (.tmp 39))]))) (.region [o 16 (.move (.tmp 1)),o 17 (.iop .add (.tmp 16) (.const (.int .i64 1))),o 1 (.move (.tmp 17))])))))) (.seq (.region [o 40 (.move (.tmp 1)),o 4 (.move (.tmp 40))]) .ret)))),[.tmp 4]⟩
def a130 : AFunc := ⟨20,(.seq (.region [o 2 (.alloc [.nilfunc])]) (.seq (.region [o 4 (.build [.nilfunc] [(0,1,(.const (.func 164 [] [])))]),o 5 (.build [.nilfunc] [(0,1,(.const (.func 166 [] [])))]),o 6 (.build [.nilfunc] [(0,1,(.const (.func 168 [] [])))]),o 7 (.build [.nilfunc] [(0,1,(.const (.func 170 [] [])))]),o 8 (.build [.nilfunc,.nilfunc,.nilfunc,.nilfunc,.nilfunc] [(1,1,(.tmp 4)),(2,1,(.tmp 5)),(3,1,(.tmp 6)),(4,1,(.tmp 7))]),o 3 (.alloc [.nilfunc,.nilfunc,.nilfunc,.nilfunc,.nilfunc]),⟨none,.store 5 (.tmp 3) (.tmp 8),none⟩]) (.seq (.seq (.region [o 9 (.move (.tmp 0)),o 10 (.iop .lss (.tmp 9) (.const (.int .u8 1))),o 11 (.move (.tmp 10)),⟨some 12,.move (.tmp 0),some (11,false)⟩,⟨some 13,.convI .i64 (.tmp 12),some (11,false)⟩,⟨some 14,.iop .geq (.tmp 13) (.const (.int .i64 5)),some (11,false)⟩,o 15 (.pick (.tmp 11) (.const (.bool true)) (.tmp 14))]) (.cond (.tmp 15) (.seq (.region [o 16 (.build [.nilfunc] [(0,1,(.const (.func 171 [] [])))]),⟨none,.store 1 (.tmp 2) (.tmp 16),none⟩]) .ret) .skip)) (.seq (.region [o 17 (.move (.tmp 0)),o 18 (.aaddr 5 1 (.tmp 3) (.tmp 17)),o 19 (.load 1 true (.tmp 18)),⟨none,.store 1 (.tmp 2) (.tmp 19),none⟩]) .ret)))),[.cell 2 1 true]⟩
def a134 : AFunc := ⟨29,(.seq (.region [o 2 (.move (.const (.bool false)))]) (.seq (.seq (.region [o 4 (.move (.tmp 0)),o 5 (.lenS (.tmp 4)),o 6 (.iop .lss (.tmp 5) (.const (.int .i64 1))),o 7 (.move (.tmp 6)),⟨some 8,.move (.tmp 0),some (7,false)⟩,⟨some 9,.lenS (.tmp 8),some (7,false)⟩,⟨some 10,.iop .gtr (.tmp 9) (.const (.int .i64 256)),some (7,false)⟩,o 11 (.pick (.tmp 7) (.const (.bool true)) (.tmp 10))]) (.cond (.tmp 11) (.seq (.region [o 2 (.move (.const (.bool false)))]) .ret) .skip)) (.seq (.seq (.region [o 3 (.move (.const (.int .i64 0)))]) (.block 0 (.loop [0,3] (.seq (.seq (.region [o 12 (.move (.tmp 3)),o 13 (.move (.tmp 0)),o 14 (.lenS (.tmp 13)),o 15 (.iop .lss (.tmp 12) (.tmp 14))]) (.cond (.tmp 15) .skip (.exit 0))) (.seq (.block 1 (.seq (.region [o 18 (.move (.tmp 0)),o 19 (.move (.tmp 3)),o 20 (.iaddr 5 (.tmp 18) (.tmp 19)),o 21 (.load 5 true (.tmp 20)),o 22 (.call .shared 135 [.tmp 21]),o 23 (.not (.tmp 22))]) (.cond (.tmp 23) (.seq (.region [o 2 (.move (.const (.bool false)))]) .ret) .skip))) (.region [o 16 (.move (.tmp 3)),o 17 (.iop .add (.tmp 16) (.const (.int .i64 1))),o 3 (.move (.tmp 17))])))))) (.seq (.region [o 24 (.move (.tmp 0)),o 25 (.call .shared 137 [.tmp 24,(.const (.int .i64 0))]),o 26 (.move (.tmp 0)),o 27 (.lenS (.tmp 26)),o 28 (.iop .eql (.tmp 25) (.tmp 27)),o 2 (.move (.tmp 28))]) .ret)))),[.tmp 2]⟩
def a135 : AFunc := ⟨97,(.seq (.region [o 1 (.box (.tmp 0)),o 2 (.move (.const (.bool false)))]) (.seq (.region [o 4 (.faddr 3 (.tmp 1)),o 5 (.load 2 true (.tmp 4)),o 6 (.build [.int .i64 0,.int .i64 0] []),o 7 (.eqs false [.i,.i] (.tmp 5) (.tmp 6)),o 3 (.move (.tmp 7))]) (.seq (.seq (.region [o 8 (.faddr 0 (.tmp 1)),o 9 (.load 1 false (.tmp 8))]) (.block 0 (.seq (.region [o 11 (.iop .eql (.tmp 9) (.const (.int .u8 1))),o 10 (.move (.tmp 11))]) (.cond (.tmp 10) (.seq (.region [o 12 (.faddr 1 (.tmp 1)),o 13 (.load 1 false (.tmp 12)),o 14 (.sop .eql (.tmp 13) (.const (.str []))),o 15 (.move (.tmp 14)),⟨some 16,.move (.tmp 3),some (15,true)⟩,o 17 (.pick (.tmp 15) (.tmp 16) (.const (.bool false))),o 18 (.move (.tmp 17)),⟨some 19,.faddr 2 (.tmp 1),some (18,true)⟩,⟨some 20,.load 1 false (.tmp 19),some (18,true)⟩,⟨some 21,.iop .geq (.tmp 20) (.const (.int .i64 (-2147483648))),some (18,true)⟩,o 22 (.pick (.tmp 18) (.tmp 21) (.const (.bool false))),o 23 (.move (.tmp 22)),⟨some 24,.faddr 2 (.tmp 1),some (23,true)⟩,⟨some 25,.load 1 false (.tmp 24),some (23,true)⟩,⟨some 26,.iop .leq (.tmp 25) (.const (.int .i64 2147483648)),some (23,true)⟩,o 27 (.pick (.tmp 23) (.tmp 26) (.const (.bool false))),o 2 (.move (.tmp 27))]) .ret) (.seq (.region [o 29 (.iop .eql (.tmp 9) (.const (.int .u8 2))),o 28 (.move (.tmp 29))]) (.cond (.tmp 28) (.seq (.region [o 30 (.faddr 1 (.tmp 1)),o 31 (.load 1 false (.tmp 30)),o 32 (.call .shared 174 [.tmp 31]),o 33 (.move (.tmp 32)),⟨some 34,.move (.tmp 3),some (33,true)⟩,o 35 (.pick (.tmp 33) (.tmp 34) (.const (.bool false))),o 36 (.move (.tmp 35)),⟨some 37,.faddr 2 (.tmp 1),some (36,true)⟩,⟨some 38,.load 1 false (.tmp 37),some (36,true)⟩,⟨some 39,.iop .eql (.tmp 38) (.const (.int .i64 0)),some (36,true)⟩,o 40 (.pick (.tmp 36) (.tmp 39) (.const (.bool false))),o 2 (.move (.tmp 40))]) .ret) (.seq (.region [o 42 (.iop .eql (.tmp 9) (.const (.int .u8 3))),o 41 (.move (.tmp 42))]) (.cond (.tmp 41) (.seq (.region [o 43 (.move (.tmp 3)),o 44 (.move (.tmp 43)),⟨some 45,.faddr 1 (.tmp 1),some (44,true)⟩,⟨some 46,.load 1 false (.tmp 45),some (44,true)⟩,⟨some 47,.call .shared 174 [.tmp 46],some (44,true)⟩,⟨some 48,.move (.tmp 47),some (44,true)⟩,⟨some 49,.faddr 2 (.tmp 1),some (48,true)⟩,⟨some 50,.load 1 false (.tmp 49),some (48,true)⟩,⟨some 51,.iop .geq (.tmp 50) (.const (.int .i64 1)),some (48,true)⟩,⟨some 52,.pick (.tmp 48) (.tmp 51) (.const (.bool false)),some (44,true)⟩,⟨some 53,.move (.tmp 52),some (44,true)⟩,⟨some 54,.faddr 2 (.tmp 1),some (53,true)⟩,⟨some 55,.load 1 false (.tmp 54),some (53,true)⟩,⟨some 56,.iop .leq (.tmp 55) (.const (.int .i64 8)),some (53,true)⟩,⟨some 57,.pick (.tmp 53) (.tmp 56) (.const (.bool false)),some (44,true)⟩,⟨some 58,.move (.tmp 57),some (44,true)⟩,⟨some 59,.faddr 1 (.tmp 1),some (58,false)⟩,⟨some 60,.load 1 false (.tmp 59),some (58,false)⟩,⟨some 61,.call .shared 175 [.tmp 60],some (58,false)⟩,⟨some 62,.move (.tmp 61),some (58,false)⟩,⟨some 63,.faddr 2 (.tmp 1),some (62,true)⟩,⟨some 64,.load 1 false (.tmp 63),some (62,true)⟩,⟨some 65,.iop .eql (.tmp 64) (.const (.int .i64 2)),some (62,true)⟩,⟨some 66,.pick (.tmp 62) (.tmp 65) (.const (.bool false)),some (58,false)⟩,⟨some 67,.pick (.tmp 58) (.const (.bool true)) (.tmp 66),some (44,true)⟩,o 68 (.pick (.tmp 44) (.tmp 67) (.const (.bool false))),o 2 (.move (.tmp 68))]) .ret) (.seq (.region [o 70 (.iop .eql (.tmp 9) (.const (.int .u8 4))),o 69 (.move (.tmp 70))]) (.cond (.tmp 69) (.seq (.region [o 71 (.faddr 1 (.tmp 1)),o 72 (.load 1 false (.tmp 71)),o 73 (.sop .eql (.tmp 72) (.const (.str []))),o 74 (.move (.tmp 73)),⟨some 75,.faddr 2 (.tmp 1),some (74,true)⟩,⟨some 76,.load 1 false (.tmp 75),some (74,true)⟩,⟨some 77,.iop .eql (.tmp 76) (.const (.int .i64 0)),some (74,true)⟩,o 78 (.pick (.tmp 74) (.tmp 77) (.const (.bool false))),o 79 (.move (.tmp 78)),⟨some 80,.faddr 3 (.tmp 1),some (79,true)⟩,⟨some 81,.faddr 0 (.tmp 80),some (79,true)⟩,⟨some 82,.load 1 false (.tmp 81),some (79,true)⟩,⟨some 83,.iop .geq (.tmp 82) (.const (.int .i64 (-1))),some (79,true)⟩,o 84 (.pick (.tmp 79) (.tmp 83) (.const (.bool false))),o 85 (.move (.tmp 84)),⟨some 86,.faddr 3 (.tmp 1),some (85,true)⟩,⟨some 87,.faddr 0 (.tmp 86),some (85,true)⟩,⟨some 88,.load 1 false (.tmp 87),some (85,true)⟩,⟨some 89,.iop .leq (.tmp 88) (.const (.int .i64 3)),some (85,true)⟩,o 90 (.pick (.tmp 85) (.tmp 89) (.const (.bool false))),o 91 (.move (.tmp 90)),⟨some 92,.faddr 3 (.tmp 1),some (91,true)⟩,⟨some 93,.faddr 1 (.tmp 92),some (91,true)⟩,⟨some 94,.load 1 false (.tmp 93),some (91,true)⟩,⟨some 95,.iop .geq (.tmp 94) (.const (.int .i64 0)),some (91,true)⟩,o 96 (.pick (.tmp 91) (.tmp 95) (.const (.bool false))),o 2 (.move (.tmp 96))]) .ret) .skip)))))))))) (.seq (.region [o 2 (.move (.const (.bool false)))]) .ret)))),[.tmp 2]⟩
def a137 : AFunc := ⟨54,(.seq (.region [o 4 (.move (.const (.int .i64 0)))]) (.seq (.seq (.region [o 6 (.move (.tmp 1)),o 7 (.iop .lss (.tmp 6) (.const (.int .i64 0))),o 8 (.move (.tmp 7)),⟨some 9,.move (.tmp 1),some (8,false)⟩,⟨some 10,.move (.tmp 0),some (8,false)⟩,⟨some 11,.lenS (.tmp 10),some (8,false)⟩,⟨some 12,.iop .geq (.tmp 9) (.tmp 11),some (8,false)⟩,o 13 (.pick (.tmp 8) (.const (.bool true)) (.tmp 12))]) (.cond (.tmp 13) (.seq (.region [o 4 (.move (.const (.int .i64 0)))]) .ret) .skip)) (.seq (.region [o 5 (.move (.const (.int .i64 1)))]) (.seq (.block 0 (.loop [0,1,5] (.seq (.seq (.region [o 14 (.move (.tmp 5)),o 15 (.iop .gtr (.tmp 14) (.const (.int .i64 0)))]) (.cond (.tmp 15) .skip (.exit 0))) (.block 1 (.seq (.seq (.region [o 16 (.move (.tmp 1)),o 17 (.move (.tmp 0)),o 18 (.lenS (.tmp 17)),o 19 (.iop .geq (.tmp 16) (.tmp 18))]) (.cond (.tmp 19) (.seq (.region [o 4 (.move (.const (.int .i64 0)))]) .ret) .skip)) (.seq (.region [o 20 (.move (.tmp 5)),o 21 (.iop .sub (.tmp 20) (.const (.int .i64 1))),o 5 (.move (.tmp 21))]) (.seq (.seq (.region [o 22 (.move (.tmp 0)),o 23 (.move (.tmp 1)),o 24 (.iaddr 5 (.tmp 22) (.tmp 23)),o 25 (.faddr 0 (.tmp 24)),o 26 (.load 1 false (.tmp 25)),o 27 (.iop .eql (.tmp 26) (.const (.int .u8 3))),o 28 (.move (.tmp 27)),⟨some 29,.move (.tmp 0),some (28,true)⟩,⟨some 30,.move (.tmp 1),some (28,true)⟩,⟨some 31,.iaddr 5 (.tmp 29) (.tmp 30),some (28,true)⟩,⟨some 32,.faddr 2 (.tmp 31),some (28,true)⟩,⟨some 33,.load 1 false (.tmp 32),some (28,true)⟩,⟨some 34,.iop .gtr (.tmp 33) (.const (.int .i64 0)),some (28,true)⟩,o 35 (.pick (.tmp 28) (.tmp 34) (.const (.bool false)))]) (.cond (.tmp 35) (.seq (.seq (.region [o 36 (.move (.tmp 0)),o 37 (.move (.tmp 1)),o 38 (.iaddr 5 (.tmp 36) (.tmp 37)),o 39 (.faddr 2 (.tmp 38)),o 40 (.load 1 false (.tmp 39)),o 41 (.move (.tmp 0)),o 42 (.lenS (.tmp 41)),o 43 (.iop .gtr (.tmp 40) (.tmp 42))]) (.cond (.tmp 43) (.seq (.region [o 4 (.move (.const (.int .i64 0)))]) .ret) .skip)) (.region [o 44 (.move (.tmp 5)),o 45 (.move (.tmp 0)),o 46 (.move (.tmp 1)),o 47 (.iaddr 5 (.tmp 45) (.tmp 46)),o 48 (.faddr 2 (.tmp 47)),o 49 (.load 1 false (.tmp 48)),o 50 (.iop .add (.tmp 44) (.tmp 49)),o 5 (.move (.tmp 50))])) .skip)) (.region [o 51 (.move (.tmp 1)),o 52 (.iop .add (.tmp 51) (.const (.int .i64 1))),o 1 (.move (.tmp 52))])))))))) (.seq (.region [o 53 (.move (.tmp 1)),o 4 (.move (.tmp 53))]) .ret))))),[.tmp 4]⟩
def a140 : AFunc := ⟨14,(.seq (.region [o 4 (.load 1 false (.tmp 1)),o 5 .fail]) (.block 0 (.loop [0] (.seq (.region [o 6 .fail,o 7 (.extract (.tmp 6) 0)]) (.seq (.cond (.tmp 7) .skip (.exit 0)) (.block 1 (.seq (.region [o 8 .fail,o 9 (.extract (.tmp 8) 0),o 3 (.alloc [.int .i64 0,.int .i64 0]),⟨none,.store 2 (.tmp 3) (.tmp 9),none⟩]) (.seq (.region [o 10 (.move (.tmp 0)),o 11 (.load 2 true (.tmp 3)),o 12 (.callv .shared (.tmp 10) [.tmp 11]),o 13 (.not (.tmp 12))]) (.cond (.tmp 13) .ret .skip))))))))),[]⟩
def a155 : AFunc := ⟨9,(.seq (.region [o 1 (.box (.tmp 0)),o 2 (.move (.const .nilslice))]) (.seq (.seq (.region [o 4 (.load 5 true (.tmp 1)),o 5 (.lit 5 [.int .u8 0,(.str []),.int .i64 0,.int .i64 0,.int .i64 0] true 1 [(0,(.tmp 4))]),o 3 (.move (.tmp 5))]) (.seq (.region [o 6 (.move (.tmp 3)),o 7 (.call .shared 125 [.tmp 6])]) (.cond (.tmp 7) (.seq (.region [o 8 (.move (.tmp 3)),o 2 (.move (.tmp 8))]) .ret) .skip))) (.seq (.region [o 2 (.move (.const .nilslice))]) .ret))),[.tmp 2]⟩
def a156 : AFunc := ⟨8,(.seq (.region [o 1 (.box (.tmp 0)),o 2 (.move (.const .nilslice))]) (.seq (.seq (.region [o 3 (.load 5 true (.tmp 1)),o 4 (.call .shared 135 [.tmp 3]),o 5 (.not (.tmp 4))]) (.cond (.tmp 5) (.seq (.region [o 2 (.move (.const .nilslice))]) .ret) .skip)) (.seq (.region [o 6 (.load 5 true (.tmp 1)),o 7 (.lit 5 [.int .u8 0,(.str []),.int .i64 0,.int .i64 0,.int .i64 0] true 1 [(0,(.tmp 6))]),o 2 (.move (.tmp 7))]) .ret))),[.tmp 2]⟩
def a159 : AFunc := ⟨21,(.seq (.region [o 3 (.box (.tmp 1)),o 4 (.move (.const .nilslice)),o 5 (.move (.const (.bool false)))]) (.seq (.seq (.region [o 8 (.move (.tmp 0)),o 9 (.eqnil false .p (.tmp 8))]) (.cond (.tmp 9) (.seq (.region [o 4 (.move (.const .nilslice)),o 5 (.move (.const (.bool false)))]) .ret) .skip)) (.seq (.region [o 11 (.move (.tmp 0)),o 12 (.nilCheck (.tmp 11)),o 13 (.faddr 0 (.tmp 12)),o 14 (.load 1 false (.tmp 13)),o 15 (.load 2 true (.tmp 3)),o 16 (.lookup true [.i,.i] .nilslice (.tmp 14) (.tmp 15) true),o 10 (.move (.tmp 16)),o 17 (.extract (.tmp 10) 0),o 18 (.extract (.tmp 10) 1),o 6 (.move (.tmp 17)),o 7 (.move (.tmp 18))]) (.seq (.region [o 19 (.move (.tmp 6)),o 20 (.move (.tmp 7)),o 4 (.move (.tmp 19)),o 5 (.move (.tmp 20))]) .ret)))),[.tmp 4,.tmp 5]⟩
def a160 : AFunc := ⟨10,(.seq (.region [o 1 (.box (.tmp 0)),o 2 (.move (.const (.bool false)))]) (.seq (.drawn [o 3 (.faddr 0 (.tmp 1)),o 4 (.load 1 false (.tmp 3)),o 5 (.call .shared 130 [.tmp 4]),o 6 (.field 0 1 false (.tmp 5)),o 7 (.load 5 true (.tmp 1)),o 8 (.callv .shared (.tmp 6) [.tmp 7]),o 9 (.not (.tmp 8)),o 2 (.move (.tmp 9))] [(4,2)]) .ret)),[.tmp 2]⟩
def a161 : AFunc := ⟨19,(.seq (.region [o 4 (.move (.const (.int .i64 0)))]) (.seq (.seq (.region [o 6 (.move (.tmp 0)),o 7 (.lenS (.tmp 6)),o 8 (.move (.const (.int .i64 0)))]) (.block 0 (.loop [0,1,7,8] (.seq (.region [o 9 (.iop .lss (.tmp 8) (.tmp 7))]) (.seq (.cond (.tmp 9) .skip (.exit 0)) (.seq (.block 1 (.seq (.region [o 10 (.move (.tmp 8)),o 5 (.move (.tmp 10))]) (.seq (.region [o 11 (.move (.tmp 1)),o 12 (.move (.tmp 0)),o 13 (.move (.tmp 5)),o 14 (.iaddr 5 (.tmp 12) (.tmp 13)),o 15 (.load 5 true (.tmp 14)),o 16 (.callv .shared (.tmp 11) [.tmp 15])]) (.cond (.tmp 16) (.seq (.region [o 17 (.move (.tmp 5)),o 4 (.move (.tmp 17))]) .ret) .skip)))) (.region [o 18 (.iop .add (.tmp 8) (.const (.int .i64 1))),o 8 (.move (.tmp 18))]))))))) (.seq (.region [o 4 (.move (.const (.int .i64 (-1))))]) .ret))),[.tmp 4]⟩
def a163 : AFunc := ⟨9,(.seq (.region [o 1 (.box (.tmp 0)),o 2 (.move (.const (.int .i64 0)))]) (.seq (.seq (.region [o 3 (.faddr 0 (.tmp 1)),o 4 (.load 1 false (.tmp 3)),o 5 (.iop .neq (.tmp 4) (.const (.int .u8 3)))]) (.cond (.tmp 5) (.seq (.region [o 2 (.move (.const (.int .i64 0)))]) .ret) .skip)) (.seq (.region [o 6 (.faddr 2 (.tmp 1)),o 7 (.load 1 false (.tmp 6)),o 8 (.maxI [.tmp 7,(.const (.int .i64 0))]),o 2 (.move (.tmp 8))]) .ret))),[.tmp 2]⟩
def a164 : AFunc := ⟨18,(.seq (.region [o 1 (.box (.tmp 0)),o 2 (.move (.const (.bool false)))]) (.seq (.region [o 3 (.faddr 2 (.tmp 1)),o 4 (.load 1 false (.tmp 3)),o 5 (.iop .geq (.tmp 4) (.const (.int .i64 (-2147483648)))),o 6 (.move (.tmp 5)),⟨some 7,.faddr 2 (.tmp 1),some (6,true)⟩,⟨some 8,.load 1 false (.tmp 7),some (6,true)⟩,⟨some 9,.iop .leq (.tmp 8) (.const (.int .i64 2147483648)),some (6,true)⟩,o 10 (.pick (.tmp 6) (.tmp 9) (.const (.bool false))),o 11 (.move (.tmp 10)),⟨some 12,.load 5 true (.tmp 1),some (11,true)⟩,⟨some 13,.faddr 2 (.tmp 1),some (11,true)⟩,⟨some 14,.load 1 false (.tmp 13),some (11,true)⟩,⟨some 15,.build [.int .u8 0,(.str []),.int .i64 0,.int .i64 0,.int .i64 0] [(0,1,(.const (.int .u8 1))),(2,1,(.tmp 14))],some (11,true)⟩,⟨some 16,.call .shared 165 [.tmp 12,.tmp 15],some (11,true)⟩,o 17 (.pick (.tmp 11) (.tmp 16) (.const (.bool false))),o 2 (.move (.tmp 17))]) .ret)),[.tmp 2]⟩
def a165 : AFunc := ⟨8,(.seq (.region [o 2 (.box (.tmp 0)),o 3 (.box (.tmp 1)),o 4 (.move (.const (.bool false)))]) (.seq (.region [o 5 (.load 5 true (.tmp 2)),o 6 (.load 5 true (.tmp 3)),o 7 (.eqs false [.i,.s,.i,.i,.i] (.tmp 5) (.tmp 6)),o 4 (.move (.tmp 7))]) .ret)),[.tmp 4]⟩
def a166 : AFunc := ⟨13,(.seq (.region [o 1 (.box (.tmp 0)),o 2 (.move (.const (.bool false)))]) (.seq (.region [o 3 (.faddr 1 (.tmp 1)),o 4 (.load 1 false (.tmp 3)),o 5 (.call .shared 167 [.tmp 4]),o 6 (.move (.tmp 5)),⟨some 7,.load 5 true (.tmp 1),some (6,true)⟩,⟨some 8,.faddr 1 (.tmp 1),some (6,true)⟩,⟨some 9,.load 1 false (.tmp 8),some (6,true)⟩,⟨some 10,.build [.int .u8 0,(.str []),.int .i64 0,.int .i64 0,.int .i64 0] [(0,1,(.const (.int .u8 2))),(1,1,(.tmp 9))],some (6,true)⟩,⟨some 11,.call .shared 165 [.tmp 7,.tmp 10],some (6,true)⟩,o 12 (.pick (.tmp 6) (.tmp 11) (.const (.bool false))),o 2 (.move (.tmp 12))]) .ret)),[.tmp 2]⟩
def a167 : AFunc := ⟨54,(.seq (.region [o 2 (.move (.const (.bool false)))]) (.seq (.seq (.region [o 6 (.move (.tmp 0)),o 7 (.lenStr (.tmp 6)),o 8 (.move (.const (.int .i64 0)))]) (.block 0 (.loop [0,7,8] (.seq (.region [o 9 (.iop .lss (.tmp 8) (.tmp 7))]) (.seq (.cond (.tmp 9) .skip (.exit 0)) (.seq (.block 1 (.seq (.region [o 10 (.move (.tmp 8)),o 3 (.move (.tmp 10))]) (.seq (.region [o 11 (.move (.tmp 0)),o 12 (.move (.tmp 3)),o 13 (.strIdx (.tmp 11) (.tmp 12)),o 4 (.move (.tmp 13))]) (.seq (.region [o 14 (.move (.tmp 4)),o 15 (.iop .geq (.tmp 14) (.const (.int .u8 97))),o 16 (.move (.tmp 15)),⟨some 17,.move (.tmp 4),some (16,true)⟩,⟨some 18,.iop .leq (.tmp 17) (.const (.int .u8 122)),some (16,true)⟩,o 19 (.pick (.tmp 16) (.tmp 18) (.const (.bool false))),o 5 (.move (.tmp 19))]) (.seq (.region [o 20 (.move (.tmp 5)),o 21 (.not (.tmp 20)),o 22 (.move (.tmp 21)),⟨some 23,.move (.tmp 3),some (22,true)⟩,⟨some 24,.iop .eql (.tmp 23) (.const (.int .i64 0)),some (22,true)⟩,⟨some 25,.move (.tmp 24),some (22,true)⟩,⟨some 26,.move (.tmp 4),some (25,false)⟩,⟨some 27,.iop .lss (.tmp 26) (.const (.int .u8 65)),some (25,false)⟩,⟨some 28,.move (.tmp 27),some (25,false)⟩,⟨some 29,.move (.tmp 4),some (28,false)⟩,⟨some 30,.iop .gtr (.tmp 29) (.const (.int .u8 90)),some (28,false)⟩,⟨some 31,.pick (.tmp 28) (.const (.bool true)) (.tmp 30),some (25,false)⟩,⟨some 32,.move (.tmp 31),some (25,false)⟩,⟨some 33,.move (.tmp 4),some (32,true)⟩,⟨some 34,.iop .lss (.tmp 33) (.const (.int .u8 48)),some (32,true)⟩,⟨some 35,.move (.tmp 34),some (32,true)⟩,⟨some 36,.move (.tmp 4),some (35,false)⟩,⟨some 37,.iop .gtr (.tmp 36) (.const (.int .u8 57)),some (35,false)⟩,⟨some 38,.pick (.tmp 35) (.const (.bool true)) (.tmp 37),some (32,true)⟩,⟨some 39,.pick (.tmp 32) (.tmp 38) (.const (.bool false)),some (25,false)⟩,⟨some 40,.move (.tmp 39),some (25,false)⟩,⟨some 41,.move (.tmp 4),some (40,true)⟩,⟨some 42,.iop .neq (.tmp 41) (.const (.int .u8 95)),some (40,true)⟩,⟨some 43,.pick (.tmp 40) (.tmp 42) (.const (.bool false)),some (25,false)⟩,⟨some 44,.pick (.tmp 25) (.const (.bool true)) (.tmp 43),some (22,true)⟩,o 45 (.pick (.tmp 22) (.tmp 44) (.const (.bool false)))]) (.cond (.tmp 45) (.seq (.region [o 2 (.move (.const (.bool false)))]) .ret) .skip)))))) (.region [o 46 (.iop .add (.tmp 8) (.const (.int .i64 1))),o 8 (.move (.tmp 46))]))))))) (.seq (.region [o 47 (.move (.tmp 0)),o 48 (.sop .neq (.tmp 47) (.const (.str []))),o 49 (.move (.tmp 48)),⟨some 50,.move (.tmp 0),some (49,true)⟩,⟨some 51,.lenStr (.tmp 50),some (49,true)⟩,⟨some 52,.iop .leq (.tmp 51) (.const (.int .i64 16)),some (49,true)⟩,o 53 (.pick (.tmp 49) (.tmp 52) (.const (.bool false))),o 2 (.move (.tmp 53))]) .ret))),[.tmp 2]⟩
def a168 : AFunc := ⟨38,(.seq (.region [o 1 (.box (.tmp 0)),o 2 (.move (.const (.bool false)))]) (.seq (.region [o 4 (.faddr 1 (.tmp 1)),o 5 (.load 1 false (.tmp 4)),o 6 (.call .shared 167 [.tmp 5]),o 7 (.move (.tmp 6)),⟨some 8,.faddr 2 (.tmp 1),some (7,true)⟩,⟨some 9,.load 1 false (.tmp 8),some (7,true)⟩,⟨some 10,.iop .geq (.tmp 9) (.const (.int .i64 1)),some (7,true)⟩,o 11 (.pick (.tmp 7) (.tmp 10) (.const (.bool false))),o 12 (.move (.tmp 11)),⟨some 13,.faddr 2 (.tmp 1),some (12,true)⟩,⟨some 14,.load 1 false (.tmp 13),some (12,true)⟩,⟨some 15,.iop .leq (.tmp 14) (.const (.int .i64 8)),some (12,true)⟩,o 16 (.pick (.tmp 12) (.tmp 15) (.const (.bool false))),o 17 (.move (.tmp 16)),⟨some 18,.gslice 12 (.glob 0),some (17,false)⟩,⟨some 19,.faddr 1 (.tmp 1),some (17,false)⟩,⟨some 20,.load 1 false (.tmp 19),some (17,false)⟩,⟨some 21,.call .shared 169 [.tmp 18,.tmp 20],some (17,false)⟩,⟨some 22,.move (.tmp 21),some (17,false)⟩,⟨some 23,.faddr 2 (.tmp 1),some (22,true)⟩,⟨some 24,.load 1 false (.tmp 23),some (22,true)⟩,⟨some 25,.iop .eql (.tmp 24) (.const (.int .i64 2)),some (22,true)⟩,⟨some 26,.pick (.tmp 22) (.tmp 25) (.const (.bool false)),some (17,false)⟩,o 27 (.pick (.tmp 17) (.const (.bool true)) (.tmp 26)),o 3 (.move (.tmp 27))]) (.seq (.region [o 28 (.move (.tmp 3)),o 29 (.move (.tmp 28)),⟨some 30,.load 5 true (.tmp 1),some (29,true)⟩,⟨some 31,.faddr 1 (.tmp 1),some (29,true)⟩,⟨some 32,.load 1 false (.tmp 31),some (29,true)⟩,⟨some 33,.faddr 2 (.tmp 1),some (29,true)⟩,⟨some 34,.load 1 false (.tmp 33),some (29,true)⟩,⟨some 35,.build [.int .u8 0,(.str []),.int .i64 0,.int .i64 0,.int .i64 0] [(0,1,(.const (.int .u8 3))),(1,1,(.tmp 32)),(2,1,(.tmp 34))],some (29,true)⟩,⟨some 36,.call .shared 165 [.tmp 30,.tmp 35],some (29,true)⟩,o 37 (.pick (.tmp 29) (.tmp 36) (.const (.bool false))),o 2 (.move (.tmp 37))]) .ret))),[.tmp 2]⟩
def a169 : AFunc := ⟨9,(.seq (.region [o 4 (.move (.const (.bool false)))]) (.seq (.region [o 5 (.move (.tmp 0)),o 6 (.move (.tmp 1)),o 7 (.call .shared 197 [.tmp 5,.tmp 6]),o 8 (.iop .geq (.tmp 7) (.const (.int .i64 0))),o 4 (.move (.tmp 8))]) .ret)),[.tmp 4]⟩
def a170 : AFunc := ⟨26,(.seq (.region [o 1 (.box (.tmp 0)),o 2 (.move (.const (.bool false)))]) (.seq (.region [o 3 (.faddr 3 (.tmp 1)),o 4 (.faddr 0 (.tmp 3)),o 5 (.load 1 false (.tmp 4)),o 6 (.iop .geq (.tmp 5) (.const (.int .i64 (-1)))),o 7 (.move (.tmp 6)),⟨some 8,.faddr 3 (.tmp 1),some (7,true)⟩,⟨some 9,.faddr 0 (.tmp 8),some (7,true)⟩,⟨some 10,.load 1 false (.tmp 9),some (7,true)⟩,⟨some 11,.iop .lss (.tmp 10) (.const (.int .i64 4)),some (7,true)⟩,o 12 (.pick (.tmp 7) (.tmp 11) (.const (.bool false))),o 13 (.move (.tmp 12)),⟨some 14,.faddr 3 (.tmp 1),some (13,true)⟩,⟨some 15,.faddr 1 (.tmp 14),some (13,true)⟩,⟨some 16,.load 1 false (.tmp 15),some (13,true)⟩,⟨some 17,.iop .geq (.tmp 16) (.const (.int .i64 0)),some (13,true)⟩,o 18 (.pick (.tmp 13) (.tmp 17) (.const (.bool false))),o 19 (.move (.tmp 18)),⟨some 20,.load 5 true (.tmp 1),some (19,true)⟩,⟨some 21,.faddr 3 (.tmp 1),some (19,true)⟩,⟨some 22,.load 2 true (.tmp 21),some (19,true)⟩,⟨some 23,.build [.int .u8 0,(.str []),.int .i64 0,.int .i64 0,.int .i64 0] [(0,1,(.const (.int .u8 4))),(3,2,(.tmp 22))],some (19,true)⟩,⟨some 24,.call .shared 165 [.tmp 20,.tmp 23],some (19,true)⟩,o 25 (.pick (.tmp 19) (.tmp 24) (.const (.bool false))),o 2 (.move (.tmp 25))]) .ret)),[.tmp 2]⟩
def a171 : AFunc := ⟨3,(.seq (.region [o 1 (.box (.tmp 0)),o 2 (.move (.const (.bool false)))]) (.seq (.region [o 2 (.move (.const (.bool false)))]) .ret)),[.tmp 2]⟩
def a174 : AFunc := ⟨59,(.seq (.region [o 2 (.move (.const (.bool false)))]) (.seq (.seq (.region [o 5 (.move (.tmp 0)),o 6 (.lenStr (.tmp 5)),o 7 (.iop .lss (.tmp 6) (.const (.int .i64 1))),o 8 (.move (.tmp 7)),⟨some 9,.move (.tmp 0),some (8,false)⟩,⟨some 10,.lenStr (.tmp 9),some (8,false)⟩,⟨some 11,.iop .gtr (.tmp 10) (.const (.int .i64 16)),some (8,false)⟩,o 12 (.pick (.tmp 8) (.const (.bool true)) (.tmp 11)),o 13 (.move (.tmp 12)),⟨some 14,.move (.tmp 0),some (13,false)⟩,⟨some 15,.strIdx (.tmp 14) (.const (.int .i64 0)),some (13,false)⟩,⟨some 16,.iop .lss (.tmp 15) (.const (.int .u8 97)),some (13,false)⟩,o 17 (.pick (.tmp 13) (.const (.bool true)) (.tmp 16)),o 18 (.move (.tmp 17)),⟨some 19,.move (.tmp 0),some (18,false)⟩,⟨some 20,.strIdx (.tmp 19) (.const (.int .i64 0)),some (18,false)⟩,⟨some 21,.iop .gtr (.tmp 20) (.const (.int .u8 122)),some (18,false)⟩,o 22 (.pick (.tmp 18) (.const (.bool true)) (.tmp 21))]) (.cond (.tmp 22) (.seq (.region [o 2 (.move (.const (.bool false)))]) .ret) .skip)) (.seq (.seq (.region [o 3 (.move (.const (.int .i64 0)))]) (.block 0 (.loop [0,3] (.seq (.seq (.region [o 23 (.move (.tmp 3)),o 24 (.move (.tmp 0)),o 25 (.lenStr (.tmp 24)),o 26 (.iop .lss (.tmp 23) (.tmp 25))]) (.cond (.tmp 26) .skip (.exit 0))) (.seq (.block 1 (.seq (.region [o 29 (.move (.tmp 0)),o 30 (.move (.tmp 3)),o 31 (.strIdx (.tmp 29) (.tmp 30)),o 4 (.move (.tmp 31))]) (.seq (.region [o 32 (.move (.tmp 4)),o 33 (.iop .geq (.tmp 32) (.const (.int .u8 97))),o 34 (.move (.tmp 33)),⟨some 35,.move (.tmp 4),some (34,true)⟩,⟨some 36,.iop .leq (.tmp 35) (.const (.int .u8 122)),some (34,true)⟩,o 37 (.pick (.tmp 34) (.tmp 36) (.const (.bool false))),o 38 (.move (.tmp 37)),⟨some 39,.move (.tmp 4),some (38,false)⟩,⟨some 40,.iop .geq (.tmp 39) (.const (.int .u8 65)),some (38,false)⟩,⟨some 41,.move (.tmp 40),some (38,false)⟩,⟨some 42,.move (.tmp 4),some (41,true)⟩,⟨some 43,.iop .leq (.tmp 42) (.const (.int .u8 90)),some (41,true)⟩,⟨some 44,.pick (.tmp 41) (.tmp 43) (.const (.bool false)),some (38,false)⟩,o 45 (.pick (.tmp 38) (.const (.bool true)) (.tmp 44)),o 46 (.move (.tmp 45)),⟨some 47,.move (.tmp 4),some (46,false)⟩,⟨some 48,.iop .geq (.tmp 47) (.const (.int .u8 48)),some (46,false)⟩,⟨some 49,.move (.tmp 48),some (46,false)⟩,⟨some 50,.move (.tmp 4),some (49,true)⟩,⟨some 51,.iop .leq (.tmp 50) (.const (.int .u8 57)),some (49,true)⟩,⟨some 52,.pick (.tmp 49) (.tmp 51) (.const (.bool false)),some (46,false)⟩,o 53 (.pick (.tmp 46) (.const (.bool true)) (.tmp 52)),o 54 (.move (.tmp 53)),⟨some 55,.move (.tmp 4),some (54,false)⟩,⟨some 56,.iop .eql (.tmp 55) (.const (.int .u8 95)),some (54,false)⟩,o 57 (.pick (.tmp 54) (.const (.bool true)) (.tmp 56)),o 58 (.not (.tmp 57))]) (.cond (.tmp 58) (.seq (.region [o 2 (.move (.const (.bool false)))]) .ret) .skip)))) (.region [o 27 (.move (.tmp 3)),o 28 (.iop .add (.tmp 27) (.const (.int .i64 1))),o 3 (.move (.tmp 28))])))))) (.seq (.region [o 2 (.move (.const (.bool true)))]) .ret)))),[.tmp 2]⟩
def a175 : AFunc := ⟨15,(.seq (.region [o 2 (.move (.const (.bool false)))]) (.seq (.region [o 5 (.build [(.str []),(.str []),(.str []),(.str []),(.str []),(.str []),(.str []),(.str []),(.str []),(.str []),(.str []),(.str [])] [(0,1,(.const (.str [61]))),(1,1,(.const (.str [58,61]))),(2,1,(.const (.str [64]))),(3,1,(.const (.str [43]))),(4,1,(.const (.str [45]))),(5,1,(.const (.str [42]))),(6,1,(.const (.str [60]))),(7,1,(.const (.str [61,60]))),(8,1,(.const (.str [62]))),(9,1,(.const (.str [62,61]))),(10,1,(.const (.str [61,58,61]))),(11,1,(.const (.str [61,92,61])))]),o 3 (.alloc [(.str []),(.str []),(.str []),(.str []),(.str []),(.str []),(.str []),(.str []),(.str []),(.str []),(.str []),(.str [])]),⟨none,.store 12 (.tmp 3) (.tmp 5),none⟩]) (.seq (.seq (.region [o 4 (.move (.const (.int .i64 0)))]) (.block 0 (.loop [0,3,4] (.seq (.seq (.region [o 6 (.move (.tmp 4)),o 7 (.iop .lss (.tmp 6) (.const (.int .i64 12)))]) (.cond (.tmp 7) .skip (.exit 0))) (.seq (.block 1 (.seq (.region [o 10 (.move (.tmp 0)),o 11 (.move (.tmp 4)),o 12 (.aaddr 12 1 (.tmp 3) (.tmp 11)),o 13 (.load 1 false (.tmp 12)),o 14 (.sop .eql (.tmp 10) (.tmp 13))]) (.cond (.tmp 14) (.seq (.region [o 2 (.move (.const (.bool true)))]) .ret) .skip))) (.region [o 8 (.move (.tmp 4)),o 9 (.iop .add (.tmp 8) (.const (.int .i64 1))),o 4 (.move (.tmp 9))])))))) (.seq (.region [o 2 (.move (.const (.bool false)))]) .ret)))),[.tmp 2]⟩
def a197 : AFunc := ⟨19,(.seq (.region [o 4 (.move (.const (.int .i64 0)))]) (.seq (.seq (.region [o 6 (.move (.tmp 0)),o 7 (.lenS (.tmp 6)),o 8 (.move (.const (.int .i64 0)))]) (.block 0 (.loop [0,1,7,8] (.seq (.region [o 9 (.iop .lss (.tmp 8) (.tmp 7))]) (.seq (.cond (.tmp 9) .skip (.exit 0)) (.seq (.block 1 (.seq (.region [o 10 (.move (.tmp 8)),o 5 (.move (.tmp 10))]) (.seq (.region [o 11 (.move (.tmp 1)),o 12 (.move (.tmp 0)),o 13 (.move (.tmp 5)),o 14 (.iaddr 1 (.tmp 12) (.tmp 13)),o 15 (.load 1 false (.tmp 14)),o 16 (.sop .eql (.tmp 11) (.tmp 15))]) (.cond (.tmp 16) (.seq (.region [o 17 (.move (.tmp 5)),o 4 (.move (.tmp 17))]) .ret) .skip)))) (.region [o 18 (.iop .add (.tmp 8) (.const (.int .i64 1))),o 8 (.move (.tmp 18))]))))))) (.seq (.region [o 4 (.move (.const (.int .i64 (-1))))]) .ret))),[.tmp 4]⟩
def ir0 : FuncId → Option AFunc
 | 4 => some a4
 | 8 => some a8
 | 11 => some a11
 | 12 => some a12
 | 14 => some a14
 | 15 => some a15
 | 16 => some a16
 | 19 => some a19
 | 20 => some a20
 | 23 => some a23
 | 24 => some a24
 | 25 => some a25
 | 26 => some a26
 | 27 => some a27
 | 28 => some a28
 | 40 => some a40
 | 55 => some a55
 | 56 => some a56
 | 57 => some a57
 | 58 => some a58
 | 60 => some a60
 | 61 => some a61
 | 62 => some a62
 | 63 => some a63
 | 64 => some a64
 | 65 => some a65
 | 66 => some a66
 | 67 => some a67
 | 68 => some a68
 | 69 => some a69
 | 70 => some a70
 | 71 => some a71
 | 73 => some a73
 | 74 => some a74
 | 75 => some a75
 | 76 => some a76
 | 77 => some a77
 | 78 => some a78
 | 79 => some a79
 | 81 => some a81
 | _ => none
def ir1 : FuncId → Option AFunc
 | 82 => some a82
 | 87 => some a87
 | 89 => some a89
 | 94 => some a94
 | 95 => some a95
 | 112 => some a112
 | 113 => some a113
 | 114 => some a114
 | 115 => some a115
 | 117 => some a117
 | 118 => some a118
 | 119 => some a119
 | 120 => some a120
 | 121 => some a121
 | 122 => some a122
 | 123 => some a123
 | 124 => some a124
 | 125 => some a125
 | 126 => some a126
 | 127 => some a127
 | 129 => some a129
 | 130 => some a130
 | 134 => some a134
 | 135 => some a135
 | 137 => some a137
 | 140 => some a140
 | 155 => some a155
 | 156 => some a156
 | 159 => some a159
 | 160 => some a160
 | 161 => some a161
 | 163 => some a163
 | 164 => some a164
 | 165 => some a165
 | 166 => some a166
 | 167 => some a167
 | 168 => some a168
 | 169 => some a169
 | 170 => some a170
 | 171 => some a171
 | _ => none
def ir2 : FuncId → Option AFunc
 | 174 => some a174
 | 175 => some a175
 | 197 => some a197
 | _ => none
def orF (a b : Option AFunc) : Option AFunc := match a with | some x => some x | none => b
def ir (f : FuncId) : Option AFunc := orF (ir0 f) (orF (ir1 f) (ir2 f))
def cfg : Cfg := ⟨ir,fun f => f,fun g => if g = 0 then some [.str [61],.str [58,61],.str [64],.str [43],.str [45],.str [42],.str [60],.str [61,60],.str [62],.str [62,61],.str [61,58,61],.str [61,92,61]] else none,fun f => match f with | 93 => some (natSF 140 95) | 142 => some natMC | 116 => some (natSO 117) | _ => none⟩
end Go.Proofs.YtelpjaejmneplaaGreatDoor.Am.CU
namespace Go.Proofs.YtelpjaejmneplaaGreatDoor.Am
open Go
theorem load_cells {σ : Store} {id : Nat} {cs : List AVal} (h : σ[id]? = some (.cells cs)) (off : Nat) : loadV σ 1 false (.ptr id off) = cs[off]? := by
 simp [loadV,behind,h]
theorem store_cells {σ : Store} {id : Nat} {cs : List AVal} (h : σ[id]? = some (.cells cs)) {off : Nat} (ho : off < cs.length) {v : AVal} (hv : v.one = true) : storeV σ 1 (.ptr id off) v = some (σ.set id (.cells (cs.set off v))) := by
 have hc : v.cells = [v] := by cases v <;> simp_all [AVal.one]
 have e : splice cs off [v] = cs.set off v := by
  rw [List.set_eq_take_append_cons_drop,if_pos ho]; simp [splice]
 simp only [storeV,hc,h,e,List.length_singleton,List.all_cons,List.all_nil,hv,Bool.and_true,and_self,if_true]
 rw [if_pos (by omega)]
theorem faddr_ptr (o id off : Nat) : faddrV o (.ptr id off) = some (.ptr id (off + o)) := rfl
theorem isnil_ptr (id off : Nat) : isNil .p (.ptr id off) = some false := rfl
theorem get_set {σ : Store} {id : Nat} {o o' : AObj} (h : σ[id]? = some o) : (σ.set id o')[id]? = some o' := List.getElem?_set_self (List.getElem?_eq_some_iff.1 h).1
theorem cells_agg (cs : List AVal) : (AVal.agg cs).cells = cs := rfl
theorem Own.one {σ : Store} {sz : Nat} {v : AVal} {es : List AVal} (h : Own σ sz v es) : v.one = true := h.sl.one
theorem SlOf.isnil {σ : Store} {sz : Nat} {v : AVal} {es : List AVal} (h : SlOf σ sz v es) : ∃ b,isNil .s v = some b ∧ (b = true → v = .nilslice ∧ es = []) := by
 rcases h.cases with ⟨rfl,rfl⟩ | ⟨t,full,rfl⟩ | ⟨id,ep,off,cap,sz',xs,epo,fl,rfl,_⟩
 ·exact ⟨true,rfl,fun _ => ⟨rfl,rfl⟩⟩
 ·exact ⟨false,rfl,fun h => by cases h⟩
 ·exact ⟨false,rfl,fun h => by cases h⟩
theorem arr_store1 {σ : Store} {id ep fl i : Nat} {es : List AVal} (h : σ[id]? = some (.arr 1 es ep fl)) (hi : i < es.length) {x : AVal} (hx : x.one = true) (he : (es[i]).one = true) :
  storeV σ 1 (.eptr id ep i 0) x = some (σ.set id (.arr 1 (es.set i x) ep ep)) := by
 have hc : x.cells = [x] := by cases x <;> simp_all [AVal.one]
 have hc2 : (es[i]).cells = [es[i]] := by generalize es[i] = y at he; cases y <;> simp_all [AVal.one]
 have hr : (es[i]).reform [x] = x := by generalize es[i] = y at he; cases y <;> simp_all [AVal.one,AVal.reform]
 simp only [storeV,hc,List.length_singleton,List.all_cons,List.all_nil,hx,Bool.and_true,and_self,if_true,h,List.getElem?_eq_getElem hi,hc2,splice,List.take_zero,List.nil_append,Nat.zero_add,List.drop_one,List.tail_cons,List.append_nil,hr]
 rw [if_pos ⟨trivial,Nat.le_refl _⟩]
theorem arr_load1 {σ : Store} {id ep epo fl i : Nat} {es : List AVal} (h : σ[id]? = some (.arr 1 es epo fl)) (hf : fl ≤ ep) (hi : i < es.length) (he : (es[i]).one = true) : loadV σ 1 false (.eptr id ep i 0) = some es[i] := by
 have hc2 : (es[i]).cells = [es[i]] := by generalize es[i] = y at he; cases y <;> simp_all [AVal.one]
 simp only [loadV,behind,h,hf,if_true,List.getElem?_eq_getElem hi,Option.map_some,hc2,ld]; rfl
theorem take_set_succ {α : Type} {l y : List α} {k : Nat} (hk : k < l.length) (hy : k < y.length) (h : l.take k = y.take k) : (l.set k y[k]).take (k + 1) = y.take (k + 1) := by
 refine List.ext_getElem? fun i => ?_
 rw [List.getElem?_take,List.getElem?_take,List.getElem?_set]
 split
 ·rename_i hi
  by_cases e : k = i
  ·subst e; simp [hk,List.getElem?_eq_getElem hy]
  ·rw [if_neg e]
   have := congrArg (fun z => z[i]?) h
   simp only [List.getElem?_take] at this
   rwa [if_pos (by omega),if_pos (by omega)] at this
 ·rfl
theorem Own.noCell {σ : Store} {sz : Nat} {v : AVal} {es cs : List AVal} {id : Nat} (h : Own σ sz v es) (ho : σ[id]? = some (.cells cs)) : v.sid ≠ some id := by
 intro hs
 rcases h.own with ⟨rfl,_⟩ | ⟨t,rfl⟩ | ⟨id',ep,off,cap,xs,epo,fl,rfl,h1,_⟩
 ·cases hs
 ·cases hs
 ·injection hs with hs; subst hs; rw [ho] at h1; cases h1
theorem SlOf.noCell {σ : Store} {sz : Nat} {v : AVal} {es cs : List AVal} {id : Nat} (h : SlOf σ sz v es) (ho : σ[id]? = some (.cells cs)) : v.sid ≠ some id := by
 intro hs
 rcases h.cases with ⟨rfl,_⟩ | ⟨t,f,rfl⟩ | ⟨id',ep,off,cap,sz',xs,epo,fl,rfl,h1,_⟩
 ·cases hs
 ·cases hs
 ·injection hs with hs; subst hs; rw [ho] at h1; cases h1
theorem Own.sizes {σ : Store} {sz sz' : Nat} {u v : AVal} {a b : List AVal} (h : Own σ sz u a) (h' : Own σ sz' v b) (hn : sz ≠ sz') {i : Nat} (hu : u.sid = some i) : v.sid ≠ some i := by
 intro hv
 rcases h.own with ⟨rfl,_⟩ | ⟨t,rfl⟩ | ⟨id,ep,off,cap,xs,epo,fl,rfl,h1,_⟩
 ·cases hu
 ·cases hu
 ·rcases h'.own with ⟨rfl,_⟩ | ⟨t,rfl⟩ | ⟨id',ep',off',cap',xs',epo',fl',rfl,h2,_⟩
  ·cases hv
  ·cases hv
  ·injection hu with hu; injection hv with hv
   subst hu; subst hv
   rw [h1] at h2; injection h2 with h2; injection h2 with h2; exact hn h2
theorem loadN_cells {σ : Store} {id : Nat} {cs : List AVal} (h : σ[id]? = some (.cells cs)) {n : Nat} (hn : cs.length = n) : loadV σ n true (.ptr id 0) = some (.agg cs) := by
 subst hn; simp [loadV,behind,h]
theorem storeN_cells {σ : Store} {id : Nat} {cs cs' : List AVal} (h : σ[id]? = some (.cells cs)) {n : Nat} (hn : cs.length = n) (hn' : cs'.length = n) (h1 : cs'.all AVal.one = true) : storeV σ n (.ptr id 0) (.agg cs') = some (σ.set id (.cells cs')) := by
 have e : splice cs 0 cs' = cs' := by
  simp only [splice,List.take_zero,List.nil_append,Nat.zero_add]
  rw [List.drop_eq_nil_of_le (by omega),List.append_nil]
 simp only [storeV,AVal.cells,hn',h1,h,e,Nat.zero_add,hn,Nat.le_refl,and_self,if_true]
theorem set_last (σ : Store) (o o' : AObj) : (σ ++ [o]).set σ.length o' = σ ++ [o'] := by simp
theorem faddr_load {σ : Store} {p : AVal} {cs : List AVal} {off : Nat} (h : behind σ p = some (cs,off)) (o : Nat) : ∃ q,faddrV o p = some q ∧ loadV σ 1 false q = cs[off + o]? := by
 cases p with
 | ptr i k =>
  simp only [behind] at h
  split at h
  ·rename_i cs' ho
   injection h with h; injection h with h1 h2; subst h1; subst h2
   exact ⟨.ptr i (k + o),rfl,load_cells ho _⟩
  ·cases h
 | eptr i ep j k =>
  simp only [behind] at h
  split at h
  ·rename_i sz es epo fl ho
   split at h
   ·rename_i hf
    rw [Option.map_eq_some_iff] at h
    obtain ⟨e,he,h⟩ := h
    injection h with h1 h2; subst h1; subst h2
    exact ⟨.eptr i ep j (k + o),rfl,by simp only [loadV,behind,ho,if_pos hf,he,Option.map_some]; rfl⟩
   ·cases h
  ·cases h
 | fptr t cs' k =>
  simp only [behind,Option.some.injEq,Prod.mk.injEq] at h
  obtain ⟨rfl,rfl⟩ := h
  exact ⟨.fptr t cs' (k + o),rfl,by simp [loadV,behind]⟩
 | _ => simp [behind] at h
end Go.Proofs.YtelpjaejmneplaaGreatDoor.Am
namespace Go.Proofs.YtelpjaejmneplaaGreatDoor.Am
open Go
def condV (g : Bool) (v : AVal) : AVal := if g then v else .tuple []
theorem condV_true (v : AVal) : condV true v = v := rfl
theorem condV_false (v : AVal) : condV false v = .tuple [] := rfl
theorem condV_twice (g : Bool) (v : AVal) : condV g (condV g v) = condV g v := by cases g <;> rfl
theorem wantV_cond (b g c : Bool) : wantV b (condV g (.bool c)) = some (g && (c == b)) := by cases g <;> rfl
section
variable {cfg : Cfg} {d : Nat} {fr : List AVal} {σ : Store} {K : PostF}
def gstepP (g : Bool) (x : Option AVal) (fr : List AVal) (σ : Store) (K : List AVal → Store → AVal → Prop) (w : Wit K) : Prop := if g then stepP x fr σ K .mk else K fr σ (.tuple [])
theorem gstepP_some (g : Bool) (v : AVal) (fr : List AVal) (σ : Store) (R : List AVal → Store → AVal → Prop) (w : Wit R) : gstepP g (some v) fr σ R w = R fr σ (condV g v) := by
 cases g
 ·rfl
 ·simp only [gstepP,if_true,stepP_some,condV]
theorem gstepP_as {g : Bool} {x y : Option AVal} (h : g = true → x = y) (fr : List AVal) (σ : Store) (R : List AVal → Store → AVal → Prop) (w : Wit R) : gstepP g x fr σ R w = gstepP g y fr σ R w := by
 cases g
 ·rfl
 ·rw [h rfl]
theorem gp_of {o : Option Nat} {op : AOp} {os : List AOper} {x : Option AVal} (h : ∀ K,wpOs cfg d (⟨o,op,none⟩ :: os) fr σ K = stepP x fr σ (fun fr σ v => wpOs cfg d os (put fr o v) σ K) .mk) {g : Bool} {w : Wit (fun K => wpOs cfg d (⟨o,op,none⟩ :: os) fr σ K)} {w' : Wit (fun K => wpOs cfg d os (put fr o (.tuple [])) σ K)} {w'' : Wit K} :
  guardP (some g) (fun K => wpOs cfg d (⟨o,op,none⟩ :: os) fr σ K) (fun K => wpOs cfg d os (put fr o (.tuple [])) σ K) K w w' w'' = gstepP g x fr σ (fun fr σ v => wpOs cfg d os (put fr o v) σ K) .mk := by
 cases g
 ·rw [guardP_false]; rfl
 ·rw [guardP_true,h]; rfl
theorem gpO_move (o : Option Nat) (os : List AOper) (x : Opnd) {g : Bool} {w : Wit (fun K => wpOs cfg d (⟨o,.move x,none⟩ :: os) fr σ K)} {w1 : Wit (fun K => wpOs cfg d os (put fr o (.tuple [])) σ K)} {w2 : Wit K} : guardP (some g) (fun K => wpOs cfg d (⟨o,.move x,none⟩ :: os) fr σ K) (fun K => wpOs cfg d os (put fr o (.tuple [])) σ K) K w w1 w2 = gstepP g (some (ev cfg fr x)) fr σ (fun fr σ v => wpOs cfg d os (put fr o v) σ K) .mk :=
 gp_of fun K => wpO_move o os x
theorem gpO_pick (o : Option Nat) (os : List AOper) (c a b : Opnd) {g : Bool} {w : Wit (fun K => wpOs cfg d (⟨o,.pick c a b,none⟩ :: os) fr σ K)} {w1 : Wit (fun K => wpOs cfg d os (put fr o (.tuple [])) σ K)} {w2 : Wit K} : guardP (some g) (fun K => wpOs cfg d (⟨o,.pick c a b,none⟩ :: os) fr σ K) (fun K => wpOs cfg d os (put fr o (.tuple [])) σ K) K w w1 w2 = gstepP g (pickV (ev cfg fr c) (ev cfg fr a) (ev cfg fr b)) fr σ (fun fr σ v => wpOs cfg d os (put fr o v) σ K) .mk :=
 gp_of fun K => wpO_pick o os c a b
theorem gpO_iop (o : Option Nat) (os : List AOper) (op : BinOp) (x y : Opnd) {g : Bool} {w : Wit (fun K => wpOs cfg d (⟨o,.iop op x y,none⟩ :: os) fr σ K)} {w1 : Wit (fun K => wpOs cfg d os (put fr o (.tuple [])) σ K)} {w2 : Wit K} : guardP (some g) (fun K => wpOs cfg d (⟨o,.iop op x y,none⟩ :: os) fr σ K) (fun K => wpOs cfg d os (put fr o (.tuple [])) σ K) K w w1 w2 = gstepP g (iopV op (ev cfg fr x) (ev cfg fr y)) fr σ (fun fr σ v => wpOs cfg d os (put fr o v) σ K) .mk :=
 gp_of fun K => wpO_iop o os op x y
theorem gpO_sop (o : Option Nat) (os : List AOper) (op : BinOp) (x y : Opnd) {g : Bool} {w : Wit (fun K => wpOs cfg d (⟨o,.sop op x y,none⟩ :: os) fr σ K)} {w1 : Wit (fun K => wpOs cfg d os (put fr o (.tuple [])) σ K)} {w2 : Wit K} : guardP (some g) (fun K => wpOs cfg d (⟨o,.sop op x y,none⟩ :: os) fr σ K) (fun K => wpOs cfg d os (put fr o (.tuple [])) σ K) K w w1 w2 = gstepP g (sopV op (ev cfg fr x) (ev cfg fr y)) fr σ (fun fr σ v => wpOs cfg d os (put fr o v) σ K) .mk :=
 gp_of fun K => wpO_sop o os op x y
theorem gpO_bop (o : Option Nat) (os : List AOper) (neg : Bool) (x y : Opnd) {g : Bool} {w : Wit (fun K => wpOs cfg d (⟨o,.bop neg x y,none⟩ :: os) fr σ K)} {w1 : Wit (fun K => wpOs cfg d os (put fr o (.tuple [])) σ K)} {w2 : Wit K} : guardP (some g) (fun K => wpOs cfg d (⟨o,.bop neg x y,none⟩ :: os) fr σ K) (fun K => wpOs cfg d os (put fr o (.tuple [])) σ K) K w w1 w2 = gstepP g (bopV neg (ev cfg fr x) (ev cfg fr y)) fr σ (fun fr σ v => wpOs cfg d os (put fr o v) σ K) .mk :=
 gp_of fun K => wpO_bop o os neg x y
theorem gpO_eqs (o : Option Nat) (os : List AOper) (neg : Bool) (ks : List EK) (x y : Opnd) {g : Bool} {w : Wit (fun K => wpOs cfg d (⟨o,.eqs neg ks x y,none⟩ :: os) fr σ K)} {w1 : Wit (fun K => wpOs cfg d os (put fr o (.tuple [])) σ K)} {w2 : Wit K} : guardP (some g) (fun K => wpOs cfg d (⟨o,.eqs neg ks x y,none⟩ :: os) fr σ K) (fun K => wpOs cfg d os (put fr o (.tuple [])) σ K) K w w1 w2 = gstepP g ((eqsV ks (ev cfg fr x) (ev cfg fr y)).map fun (b : Bool) => (.bool (if neg then !b else b))) fr σ (fun fr σ v => wpOs cfg d os (put fr o v) σ K) .mk :=
 gp_of fun K => (wpO_eqs o os neg ks x y).trans (by cases eqsV ks (ev cfg fr x) (ev cfg fr y) <;> unfold stepP <;> rfl)
theorem gpO_eqnil (o : Option Nat) (os : List AOper) (neg : Bool) (k : NK) (x : Opnd) {g : Bool} {w : Wit (fun K => wpOs cfg d (⟨o,.eqnil neg k x,none⟩ :: os) fr σ K)} {w1 : Wit (fun K => wpOs cfg d os (put fr o (.tuple [])) σ K)} {w2 : Wit K} : guardP (some g) (fun K => wpOs cfg d (⟨o,.eqnil neg k x,none⟩ :: os) fr σ K) (fun K => wpOs cfg d os (put fr o (.tuple [])) σ K) K w w1 w2 = gstepP g ((isNil k (ev cfg fr x)).map fun (b : Bool) => (.bool (if neg then !b else b))) fr σ (fun fr σ v => wpOs cfg d os (put fr o v) σ K) .mk :=
 gp_of fun K => (wpO_eqnil o os neg k x).trans (by cases isNil k (ev cfg fr x) <;> unfold stepP <;> rfl)
theorem gpO_not (o : Option Nat) (os : List AOper) (x : Opnd) {g : Bool} {w : Wit (fun K => wpOs cfg d (⟨o,.not x,none⟩ :: os) fr σ K)} {w1 : Wit (fun K => wpOs cfg d os (put fr o (.tuple [])) σ K)} {w2 : Wit K} : guardP (some g) (fun K => wpOs cfg d (⟨o,.not x,none⟩ :: os) fr σ K) (fun K => wpOs cfg d os (put fr o (.tuple [])) σ K) K w w1 w2 = gstepP g (notV (ev cfg fr x)) fr σ (fun fr σ v => wpOs cfg d os (put fr o v) σ K) .mk :=
 gp_of fun K => wpO_not o os x
theorem gpO_convI (o : Option Nat) (os : List AOper) (k : IntKind) (x : Opnd) {g : Bool} {w : Wit (fun K => wpOs cfg d (⟨o,.convI k x,none⟩ :: os) fr σ K)} {w1 : Wit (fun K => wpOs cfg d os (put fr o (.tuple [])) σ K)} {w2 : Wit K} : guardP (some g) (fun K => wpOs cfg d (⟨o,.convI k x,none⟩ :: os) fr σ K) (fun K => wpOs cfg d os (put fr o (.tuple [])) σ K) K w w1 w2 = gstepP g (convV k (ev cfg fr x)) fr σ (fun fr σ v => wpOs cfg d os (put fr o v) σ K) .mk :=
 gp_of fun K => wpO_convI o os k x
theorem gpO_faddr (o : Option Nat) (os : List AOper) (off : Nat) (x : Opnd) {g : Bool} {w : Wit (fun K => wpOs cfg d (⟨o,.faddr off x,none⟩ :: os) fr σ K)} {w1 : Wit (fun K => wpOs cfg d os (put fr o (.tuple [])) σ K)} {w2 : Wit K} : guardP (some g) (fun K => wpOs cfg d (⟨o,.faddr off x,none⟩ :: os) fr σ K) (fun K => wpOs cfg d os (put fr o (.tuple [])) σ K) K w w1 w2 = gstepP g (faddrV off (ev cfg fr x)) fr σ (fun fr σ v => wpOs cfg d os (put fr o v) σ K) .mk :=
 gp_of fun K => wpO_faddr o os off x
theorem gpO_field (o : Option Nat) (os : List AOper) (off n : Nat) (agg : Bool) (x : Opnd) {g : Bool} {w : Wit (fun K => wpOs cfg d (⟨o,.field off n agg x,none⟩ :: os) fr σ K)} {w1 : Wit (fun K => wpOs cfg d os (put fr o (.tuple [])) σ K)} {w2 : Wit K} : guardP (some g) (fun K => wpOs cfg d (⟨o,.field off n agg x,none⟩ :: os) fr σ K) (fun K => wpOs cfg d os (put fr o (.tuple [])) σ K) K w w1 w2 = gstepP g (fieldV off n agg (ev cfg fr x)) fr σ (fun fr σ v => wpOs cfg d os (put fr o v) σ K) .mk :=
 gp_of fun K => wpO_field o os off n agg x
theorem gpO_iaddr (o : Option Nat) (os : List AOper) (sz : Nat) (x i : Opnd) {g : Bool} {w : Wit (fun K => wpOs cfg d (⟨o,.iaddr sz x i,none⟩ :: os) fr σ K)} {w1 : Wit (fun K => wpOs cfg d os (put fr o (.tuple [])) σ K)} {w2 : Wit K} : guardP (some g) (fun K => wpOs cfg d (⟨o,.iaddr sz x i,none⟩ :: os) fr σ K) (fun K => wpOs cfg d os (put fr o (.tuple [])) σ K) K w w1 w2 = gstepP g (iaddrV sz (ev cfg fr x) (ev cfg fr i)) fr σ (fun fr σ v => wpOs cfg d os (put fr o v) σ K) .mk :=
 gp_of fun K => wpO_iaddr o os sz x i
theorem gpO_aaddr (o : Option Nat) (os : List AOper) (len sz : Nat) (x i : Opnd) {g : Bool} {w : Wit (fun K => wpOs cfg d (⟨o,.aaddr len sz x i,none⟩ :: os) fr σ K)} {w1 : Wit (fun K => wpOs cfg d os (put fr o (.tuple [])) σ K)} {w2 : Wit K} : guardP (some g) (fun K => wpOs cfg d (⟨o,.aaddr len sz x i,none⟩ :: os) fr σ K) (fun K => wpOs cfg d os (put fr o (.tuple [])) σ K) K w w1 w2 = gstepP g (aaddrV len sz (ev cfg fr x) (ev cfg fr i)) fr σ (fun fr σ v => wpOs cfg d os (put fr o v) σ K) .mk :=
 gp_of fun K => wpO_aaddr o os len sz x i
theorem gpO_strIdx (o : Option Nat) (os : List AOper) (x i : Opnd) {g : Bool} {w : Wit (fun K => wpOs cfg d (⟨o,.strIdx x i,none⟩ :: os) fr σ K)} {w1 : Wit (fun K => wpOs cfg d os (put fr o (.tuple [])) σ K)} {w2 : Wit K} : guardP (some g) (fun K => wpOs cfg d (⟨o,.strIdx x i,none⟩ :: os) fr σ K) (fun K => wpOs cfg d os (put fr o (.tuple [])) σ K) K w w1 w2 = gstepP g (strIdxV (ev cfg fr x) (ev cfg fr i)) fr σ (fun fr σ v => wpOs cfg d os (put fr o v) σ K) .mk :=
 gp_of fun K => wpO_strIdx o os x i
theorem gpO_arrIdx (o : Option Nat) (os : List AOper) (len sz : Nat) (agg : Bool) (x i : Opnd) {g : Bool} {w : Wit (fun K => wpOs cfg d (⟨o,.arrIdx len sz agg x i,none⟩ :: os) fr σ K)} {w1 : Wit (fun K => wpOs cfg d os (put fr o (.tuple [])) σ K)} {w2 : Wit K} : guardP (some g) (fun K => wpOs cfg d (⟨o,.arrIdx len sz agg x i,none⟩ :: os) fr σ K) (fun K => wpOs cfg d os (put fr o (.tuple [])) σ K) K w w1 w2 = gstepP g (arrIdxV len sz agg (ev cfg fr x) (ev cfg fr i)) fr σ (fun fr σ v => wpOs cfg d os (put fr o v) σ K) .mk :=
 gp_of fun K => wpO_arrIdx o os len sz agg x i
theorem gpO_load (o : Option Nat) (os : List AOper) (n : Nat) (agg : Bool) (a : Opnd) {g : Bool} {w : Wit (fun K => wpOs cfg d (⟨o,.load n agg a,none⟩ :: os) fr σ K)} {w1 : Wit (fun K => wpOs cfg d os (put fr o (.tuple [])) σ K)} {w2 : Wit K} : guardP (some g) (fun K => wpOs cfg d (⟨o,.load n agg a,none⟩ :: os) fr σ K) (fun K => wpOs cfg d os (put fr o (.tuple [])) σ K) K w w1 w2 = gstepP g (loadV σ n agg (ev cfg fr a)) fr σ (fun fr σ v => wpOs cfg d os (put fr o v) σ K) .mk :=
 gp_of fun K => wpO_load o os n agg a
theorem gpO_sliceOp (o : Option Nat) (os : List AOper) (sz : Nat) (x : Opnd) (lo hi mx : Option Opnd) {g : Bool} {w : Wit (fun K => wpOs cfg d (⟨o,.sliceOp sz x lo hi mx,none⟩ :: os) fr σ K)} {w1 : Wit (fun K => wpOs cfg d os (put fr o (.tuple [])) σ K)} {w2 : Wit K} : guardP (some g) (fun K => wpOs cfg d (⟨o,.sliceOp sz x lo hi mx,none⟩ :: os) fr σ K) (fun K => wpOs cfg d os (put fr o (.tuple [])) σ K) K w w1 w2 = gstepP g (sliceV sz (ev cfg fr x) (oev cfg fr lo) (oev cfg fr hi) (oev cfg fr mx)) fr σ (fun fr σ v => wpOs cfg d os (put fr o v) σ K) .mk :=
 gp_of fun K => wpO_sliceOp o os sz x lo hi mx
theorem gpO_lenS (o : Option Nat) (os : List AOper) (x : Opnd) {g : Bool} {w : Wit (fun K => wpOs cfg d (⟨o,.lenS x,none⟩ :: os) fr σ K)} {w1 : Wit (fun K => wpOs cfg d os (put fr o (.tuple [])) σ K)} {w2 : Wit K} : guardP (some g) (fun K => wpOs cfg d (⟨o,.lenS x,none⟩ :: os) fr σ K) (fun K => wpOs cfg d os (put fr o (.tuple [])) σ K) K w w1 w2 = gstepP g ((lenSV (ev cfg fr x)).map fun (n : Nat) => (.int .i64 n)) fr σ (fun fr σ v => wpOs cfg d os (put fr o v) σ K) .mk :=
 gp_of fun K => (wpO_lenS o os x).trans (by cases lenSV (ev cfg fr x) <;> unfold stepP <;> rfl)
theorem gpO_lenStr (o : Option Nat) (os : List AOper) (x : Opnd) {g : Bool} {w : Wit (fun K => wpOs cfg d (⟨o,.lenStr x,none⟩ :: os) fr σ K)} {w1 : Wit (fun K => wpOs cfg d os (put fr o (.tuple [])) σ K)} {w2 : Wit K} : guardP (some g) (fun K => wpOs cfg d (⟨o,.lenStr x,none⟩ :: os) fr σ K) (fun K => wpOs cfg d os (put fr o (.tuple [])) σ K) K w w1 w2 = gstepP g ((lenStrV (ev cfg fr x)).map fun (n : Nat) => (.int .i64 n)) fr σ (fun fr σ v => wpOs cfg d os (put fr o v) σ K) .mk :=
 gp_of fun K => (wpO_lenStr o os x).trans (by cases lenStrV (ev cfg fr x) <;> unfold stepP <;> rfl)
theorem gs_iopV_l (g : Bool) (op : BinOp) (a b : AVal) (fr : List AVal) (σ : Store) (R : List AVal → Store → AVal → Prop) (w : Wit R) : gstepP g (iopV op (condV g a) b) fr σ R w = gstepP g (iopV op a b) fr σ R w := gstepP_as (fun h => by subst h; rfl) _ _ _ _
theorem gs_iopV_l2 (g c : Bool) (op : BinOp) (a b : AVal) (fr : List AVal) (σ : Store) (R : List AVal → Store → AVal → Prop) (w : Wit R) : gstepP (g && c) (iopV op (condV g a) b) fr σ R w = gstepP (g && c) (iopV op a b) fr σ R w := gstepP_as (fun h => by have := (Bool.and_eq_true _ _ ▸ h : g = true ∧ c = true).1; subst this; rfl) _ _ _ _
theorem gs_iopV_r (g : Bool) (op : BinOp) (a b : AVal) (fr : List AVal) (σ : Store) (R : List AVal → Store → AVal → Prop) (w : Wit R) : gstepP g (iopV op a (condV g b)) fr σ R w = gstepP g (iopV op a b) fr σ R w := gstepP_as (fun h => by subst h; rfl) _ _ _ _
theorem gs_iopV_r2 (g c : Bool) (op : BinOp) (a b : AVal) (fr : List AVal) (σ : Store) (R : List AVal → Store → AVal → Prop) (w : Wit R) : gstepP (g && c) (iopV op a (condV g b)) fr σ R w = gstepP (g && c) (iopV op a b) fr σ R w := gstepP_as (fun h => by have := (Bool.and_eq_true _ _ ▸ h : g = true ∧ c = true).1; subst this; rfl) _ _ _ _
theorem gs_sopV_l (g : Bool) (op : BinOp) (a b : AVal) (fr : List AVal) (σ : Store) (R : List AVal → Store → AVal → Prop) (w : Wit R) : gstepP g (sopV op (condV g a) b) fr σ R w = gstepP g (sopV op a b) fr σ R w := gstepP_as (fun h => by subst h; rfl) _ _ _ _
theorem gs_sopV_l2 (g c : Bool) (op : BinOp) (a b : AVal) (fr : List AVal) (σ : Store) (R : List AVal → Store → AVal → Prop) (w : Wit R) : gstepP (g && c) (sopV op (condV g a) b) fr σ R w = gstepP (g && c) (sopV op a b) fr σ R w := gstepP_as (fun h => by have := (Bool.and_eq_true _ _ ▸ h : g = true ∧ c = true).1; subst this; rfl) _ _ _ _
theorem gs_sopV_r (g : Bool) (op : BinOp) (a b : AVal) (fr : List AVal) (σ : Store) (R : List AVal → Store → AVal → Prop) (w : Wit R) : gstepP g (sopV op a (condV g b)) fr σ R w = gstepP g (sopV op a b) fr σ R w := gstepP_as (fun h => by subst h; rfl) _ _ _ _
theorem gs_sopV_r2 (g c : Bool) (op : BinOp) (a b : AVal) (fr : List AVal) (σ : Store) (R : List AVal → Store → AVal → Prop) (w : Wit R) : gstepP (g && c) (sopV op a (condV g b)) fr σ R w = gstepP (g && c) (sopV op a b) fr σ R w := gstepP_as (fun h => by have := (Bool.and_eq_true _ _ ▸ h : g = true ∧ c = true).1; subst this; rfl) _ _ _ _
theorem gs_strIdx_l (g : Bool) (a b : AVal) (fr : List AVal) (σ : Store) (R : List AVal → Store → AVal → Prop) (w : Wit R) : gstepP g (strIdxV (condV g a) b) fr σ R w = gstepP g (strIdxV a b) fr σ R w := gstepP_as (fun h => by subst h; rfl) _ _ _ _
theorem gs_strIdx_l2 (g c : Bool) (a b : AVal) (fr : List AVal) (σ : Store) (R : List AVal → Store → AVal → Prop) (w : Wit R) : gstepP (g && c) (strIdxV (condV g a) b) fr σ R w = gstepP (g && c) (strIdxV a b) fr σ R w := gstepP_as (fun h => by have := (Bool.and_eq_true _ _ ▸ h : g = true ∧ c = true).1; subst this; rfl) _ _ _ _
theorem gs_strIdx_r (g : Bool) (a b : AVal) (fr : List AVal) (σ : Store) (R : List AVal → Store → AVal → Prop) (w : Wit R) : gstepP g (strIdxV a (condV g b)) fr σ R w = gstepP g (strIdxV a b) fr σ R w := gstepP_as (fun h => by subst h; rfl) _ _ _ _
theorem gs_strIdx_r2 (g c : Bool) (a b : AVal) (fr : List AVal) (σ : Store) (R : List AVal → Store → AVal → Prop) (w : Wit R) : gstepP (g && c) (strIdxV a (condV g b)) fr σ R w = gstepP (g && c) (strIdxV a b) fr σ R w := gstepP_as (fun h => by have := (Bool.and_eq_true _ _ ▸ h : g = true ∧ c = true).1; subst this; rfl) _ _ _ _
theorem gs_iaddr_l (g : Bool) (sz : Nat) (a b : AVal) (fr : List AVal) (σ : Store) (R : List AVal → Store → AVal → Prop) (w : Wit R) : gstepP g (iaddrV sz (condV g a) b) fr σ R w = gstepP g (iaddrV sz a b) fr σ R w := gstepP_as (fun h => by subst h; rfl) _ _ _ _
theorem gs_iaddr_l2 (g c : Bool) (sz : Nat) (a b : AVal) (fr : List AVal) (σ : Store) (R : List AVal → Store → AVal → Prop) (w : Wit R) : gstepP (g && c) (iaddrV sz (condV g a) b) fr σ R w = gstepP (g && c) (iaddrV sz a b) fr σ R w := gstepP_as (fun h => by have := (Bool.and_eq_true _ _ ▸ h : g = true ∧ c = true).1; subst this; rfl) _ _ _ _
theorem gs_iaddr_r (g : Bool) (sz : Nat) (a b : AVal) (fr : List AVal) (σ : Store) (R : List AVal → Store → AVal → Prop) (w : Wit R) : gstepP g (iaddrV sz a (condV g b)) fr σ R w = gstepP g (iaddrV sz a b) fr σ R w := gstepP_as (fun h => by subst h; rfl) _ _ _ _
theorem gs_iaddr_r2 (g c : Bool) (sz : Nat) (a b : AVal) (fr : List AVal) (σ : Store) (R : List AVal → Store → AVal → Prop) (w : Wit R) : gstepP (g && c) (iaddrV sz a (condV g b)) fr σ R w = gstepP (g && c) (iaddrV sz a b) fr σ R w := gstepP_as (fun h => by have := (Bool.and_eq_true _ _ ▸ h : g = true ∧ c = true).1; subst this; rfl) _ _ _ _
theorem gs_load (g : Bool) (τ : Store) (n : Nat) (agg : Bool) (a : AVal) (fr : List AVal) (σ : Store) (R : List AVal → Store → AVal → Prop) (w : Wit R) : gstepP g (loadV τ n agg (condV g a)) fr σ R w = gstepP g (loadV τ n agg a) fr σ R w := gstepP_as (fun h => by subst h; rfl) _ _ _ _
theorem gs_load2 (g c : Bool) (τ : Store) (n : Nat) (agg : Bool) (a : AVal) (fr : List AVal) (σ : Store) (R : List AVal → Store → AVal → Prop) (w : Wit R) : gstepP (g && c) (loadV τ n agg (condV g a)) fr σ R w = gstepP (g && c) (loadV τ n agg a) fr σ R w := gstepP_as (fun h => by have := (Bool.and_eq_true _ _ ▸ h : g = true ∧ c = true).1; subst this; rfl) _ _ _ _
theorem gs_faddr (g : Bool) (k : Nat) (a : AVal) (fr : List AVal) (σ : Store) (R : List AVal → Store → AVal → Prop) (w : Wit R) : gstepP g (faddrV k (condV g a)) fr σ R w = gstepP g (faddrV k a) fr σ R w := gstepP_as (fun h => by subst h; rfl) _ _ _ _
theorem gs_faddr2 (g c : Bool) (k : Nat) (a : AVal) (fr : List AVal) (σ : Store) (R : List AVal → Store → AVal → Prop) (w : Wit R) : gstepP (g && c) (faddrV k (condV g a)) fr σ R w = gstepP (g && c) (faddrV k a) fr σ R w := gstepP_as (fun h => by have := (Bool.and_eq_true _ _ ▸ h : g = true ∧ c = true).1; subst this; rfl) _ _ _ _
theorem gs_field (g : Bool) (k n : Nat) (agg : Bool) (a : AVal) (fr : List AVal) (σ : Store) (R : List AVal → Store → AVal → Prop) (w : Wit R) : gstepP g (fieldV k n agg (condV g a)) fr σ R w = gstepP g (fieldV k n agg a) fr σ R w := gstepP_as (fun h => by subst h; rfl) _ _ _ _
theorem gs_field2 (g c : Bool) (k n : Nat) (agg : Bool) (a : AVal) (fr : List AVal) (σ : Store) (R : List AVal → Store → AVal → Prop) (w : Wit R) : gstepP (g && c) (fieldV k n agg (condV g a)) fr σ R w = gstepP (g && c) (fieldV k n agg a) fr σ R w := gstepP_as (fun h => by have := (Bool.and_eq_true _ _ ▸ h : g = true ∧ c = true).1; subst this; rfl) _ _ _ _
theorem gs_conv (g : Bool) (k : IntKind) (a : AVal) (fr : List AVal) (σ : Store) (R : List AVal → Store → AVal → Prop) (w : Wit R) : gstepP g (convV k (condV g a)) fr σ R w = gstepP g (convV k a) fr σ R w := gstepP_as (fun h => by subst h; rfl) _ _ _ _
theorem gs_conv2 (g c : Bool) (k : IntKind) (a : AVal) (fr : List AVal) (σ : Store) (R : List AVal → Store → AVal → Prop) (w : Wit R) : gstepP (g && c) (convV k (condV g a)) fr σ R w = gstepP (g && c) (convV k a) fr σ R w := gstepP_as (fun h => by have := (Bool.and_eq_true _ _ ▸ h : g = true ∧ c = true).1; subst this; rfl) _ _ _ _
theorem gs_not (g : Bool) (a : AVal) (fr : List AVal) (σ : Store) (R : List AVal → Store → AVal → Prop) (w : Wit R) : gstepP g (notV (condV g a)) fr σ R w = gstepP g (notV a) fr σ R w := gstepP_as (fun h => by subst h; rfl) _ _ _ _
theorem gs_not2 (g c : Bool) (a : AVal) (fr : List AVal) (σ : Store) (R : List AVal → Store → AVal → Prop) (w : Wit R) : gstepP (g && c) (notV (condV g a)) fr σ R w = gstepP (g && c) (notV a) fr σ R w := gstepP_as (fun h => by have := (Bool.and_eq_true _ _ ▸ h : g = true ∧ c = true).1; subst this; rfl) _ _ _ _
theorem gs_pick_c (g : Bool) (c0 a b : AVal) (fr : List AVal) (σ : Store) (R : List AVal → Store → AVal → Prop) (w : Wit R) : gstepP g (pickV (condV g c0) a b) fr σ R w = gstepP g (pickV c0 a b) fr σ R w := gstepP_as (fun h => by subst h; rfl) _ _ _ _
theorem gs_pick_c2 (g c : Bool) (c0 a b : AVal) (fr : List AVal) (σ : Store) (R : List AVal → Store → AVal → Prop) (w : Wit R) : gstepP (g && c) (pickV (condV g c0) a b) fr σ R w = gstepP (g && c) (pickV c0 a b) fr σ R w := gstepP_as (fun h => by have := (Bool.and_eq_true _ _ ▸ h : g = true ∧ c = true).1; subst this; rfl) _ _ _ _
theorem gs_lenStr (g : Bool) (a : AVal) (f : Nat → AVal) (fr : List AVal) (σ : Store) (R : List AVal → Store → AVal → Prop) (w : Wit R) : gstepP g ((lenStrV (condV g a)).map f) fr σ R w = gstepP g ((lenStrV a).map f) fr σ R w := gstepP_as (fun h => by subst h; rfl) _ _ _ _
theorem gs_lenStr2 (g c : Bool) (a : AVal) (f : Nat → AVal) (fr : List AVal) (σ : Store) (R : List AVal → Store → AVal → Prop) (w : Wit R) : gstepP (g && c) ((lenStrV (condV g a)).map f) fr σ R w = gstepP (g && c) ((lenStrV a).map f) fr σ R w := gstepP_as (fun h => by have := (Bool.and_eq_true _ _ ▸ h : g = true ∧ c = true).1; subst this; rfl) _ _ _ _
theorem gs_lenS (g : Bool) (a : AVal) (f : Nat → AVal) (fr : List AVal) (σ : Store) (R : List AVal → Store → AVal → Prop) (w : Wit R) : gstepP g ((lenSV (condV g a)).map f) fr σ R w = gstepP g ((lenSV a).map f) fr σ R w := gstepP_as (fun h => by subst h; rfl) _ _ _ _
theorem gs_lenS2 (g c : Bool) (a : AVal) (f : Nat → AVal) (fr : List AVal) (σ : Store) (R : List AVal → Store → AVal → Prop) (w : Wit R) : gstepP (g && c) ((lenSV (condV g a)).map f) fr σ R w = gstepP (g && c) ((lenSV a).map f) fr σ R w := gstepP_as (fun h => by have := (Bool.and_eq_true _ _ ▸ h : g = true ∧ c = true).1; subst this; rfl) _ _ _ _
theorem gstepP_false (x : Option AVal) (fr : List AVal) (σ : Store) (R : List AVal → Store → AVal → Prop) (w : Wit R) : gstepP false x fr σ R w = R fr σ (.tuple []) := rfl
theorem gstepP_true (x : Option AVal) (fr : List AVal) (σ : Store) (R : List AVal → Store → AVal → Prop) (w : Wit R) : gstepP true x fr σ R w = stepP x fr σ R .mk := rfl
theorem omap_some {α : Type} (f : α → AVal) (a : α) : (some a).map f = some (f a) := rfl
theorem pickV_or (t y : Bool) : pickV (.bool t) (.bool true) (condV (t == false) (.bool y)) = some (.bool (t || y)) := by cases t <;> rfl
theorem pickV_and (t y : Bool) : pickV (.bool t) (condV (t == true) (.bool y)) (.bool false) = some (.bool (t && y)) := by cases t <;> rfl
theorem gs_pick_or (g t y : Bool) (fr : List AVal) (σ : Store) (R : List AVal → Store → AVal → Prop) (w : Wit R) : gstepP g (pickV (.bool t) (.bool true) (condV (g && (t == false)) (.bool y))) fr σ R w = R fr σ (condV g (.bool (t || y))) := by
 cases g
 ·rfl
 ·cases t <;> simp only [gstepP,if_true,pickV_bool,stepP_some,condV,Bool.true_and,beq_self_eq_true,bq_tf,bq_ft,Bool.false_eq_true,if_false,Bool.true_or,Bool.false_or]
theorem gs_pick_and (g t y : Bool) (fr : List AVal) (σ : Store) (R : List AVal → Store → AVal → Prop) (w : Wit R) : gstepP g (pickV (.bool t) (condV (g && (t == true)) (.bool y)) (.bool false)) fr σ R w = R fr σ (condV g (.bool (t && y))) := by
 cases g
 ·rfl
 ·cases t <;> simp only [gstepP,if_true,pickV_bool,stepP_some,condV,Bool.true_and,beq_self_eq_true,bq_tf,bq_ft,Bool.false_eq_true,if_false,Bool.true_and,Bool.false_and]
theorem ite_and (t y : Bool) : (if t = true then condV (t == true) (.bool y) else AVal.bool false) = .bool (t && y) := by cases t <;> rfl
theorem ite_or (t y : Bool) : (if t = true then AVal.bool true else condV (t == false) (.bool y)) = .bool (t || y) := by cases t <;> rfl
theorem ite_gand (g t y : Bool) : condV g (if t = true then condV (g && (t == true)) (.bool y) else AVal.bool false) = condV g (.bool (t && y)) := by cases g <;> cases t <;> rfl
theorem ite_gor (g t y : Bool) : condV g (if t = true then AVal.bool true else condV (g && (t == false)) (.bool y)) = condV g (.bool (t || y)) := by cases g <;> cases t <;> rfl
end
attribute [irreducible] gstepP condV
theorem WPm : type_of% (And.intro (And.intro (And.intro (And.intro (And.intro (And.intro @gpO_move @gpO_pick) (And.intro @gpO_iop @gpO_sop)) (And.intro (And.intro @gpO_bop @gpO_eqs) (And.intro @gpO_eqnil @gpO_not))) (And.intro (And.intro (And.intro @gpO_convI @gpO_faddr) (And.intro @gpO_field @gpO_iaddr)) (And.intro (And.intro @gpO_aaddr @gpO_strIdx) (And.intro @gpO_arrIdx @gpO_load)))) (And.intro (And.intro (And.intro (And.intro @gpO_sliceOp @gpO_lenS) (And.intro @gpO_lenStr @gs_iopV_l)) (And.intro (And.intro @gs_iopV_l2 @gs_iopV_r) (And.intro @gs_iopV_r2 @gs_sopV_l))) (And.intro (And.intro (And.intro @gs_sopV_l2 @gs_sopV_r) (And.intro @gs_sopV_r2 @gs_strIdx_l)) (And.intro (And.intro @gs_strIdx_l2 @gs_strIdx_r) (And.intro @gs_strIdx_r2 (And.intro @gs_iaddr_l @gs_iaddr_l2)))))) (And.intro (And.intro (And.intro (And.intro (And.intro @gs_iaddr_r @gs_iaddr_r2) (And.intro @gs_load @gs_load2)) (And.intro (And.intro @gs_faddr @gs_faddr2) (And.intro @gs_field @gs_field2))) (And.intro (And.intro (And.intro @gs_conv @gs_conv2) (And.intro @gs_not @gs_not2)) (And.intro (And.intro @gs_pick_c @gs_pick_c2) (And.intro @gs_lenStr (And.intro @gs_lenStr2 @gs_lenS))))) (And.intro (And.intro (And.intro (And.intro @gs_lenS2 @gstepP_false) (And.intro @gstepP_true @omap_some)) (And.intro (And.intro @gs_pick_or @gs_pick_and) (And.intro @pickV_or @pickV_and))) (And.intro (And.intro (And.intro @ite_and @ite_or) (And.intro @ite_gand @ite_gor)) (And.intro (And.intro @gstepP_some @condV_true) (And.intro @condV_false (And.intro @condV_twice @wantV_cond))))))) := (And.intro (And.intro (And.intro (And.intro (And.intro (And.intro @gpO_move @gpO_pick) (And.intro @gpO_iop @gpO_sop)) (And.intro (And.intro @gpO_bop @gpO_eqs) (And.intro @gpO_eqnil @gpO_not))) (And.intro (And.intro (And.intro @gpO_convI @gpO_faddr) (And.intro @gpO_field @gpO_iaddr)) (And.intro (And.intro @gpO_aaddr @gpO_strIdx) (And.intro @gpO_arrIdx @gpO_load)))) (And.intro (And.intro (And.intro (And.intro @gpO_sliceOp @gpO_lenS) (And.intro @gpO_lenStr @gs_iopV_l)) (And.intro (And.intro @gs_iopV_l2 @gs_iopV_r) (And.intro @gs_iopV_r2 @gs_sopV_l))) (And.intro (And.intro (And.intro @gs_sopV_l2 @gs_sopV_r) (And.intro @gs_sopV_r2 @gs_strIdx_l)) (And.intro (And.intro @gs_strIdx_l2 @gs_strIdx_r) (And.intro @gs_strIdx_r2 (And.intro @gs_iaddr_l @gs_iaddr_l2)))))) (And.intro (And.intro (And.intro (And.intro (And.intro @gs_iaddr_r @gs_iaddr_r2) (And.intro @gs_load @gs_load2)) (And.intro (And.intro @gs_faddr @gs_faddr2) (And.intro @gs_field @gs_field2))) (And.intro (And.intro (And.intro @gs_conv @gs_conv2) (And.intro @gs_not @gs_not2)) (And.intro (And.intro @gs_pick_c @gs_pick_c2) (And.intro @gs_lenStr (And.intro @gs_lenStr2 @gs_lenS))))) (And.intro (And.intro (And.intro (And.intro @gs_lenS2 @gstepP_false) (And.intro @gstepP_true @omap_some)) (And.intro (And.intro @gs_pick_or @gs_pick_and) (And.intro @pickV_or @pickV_and))) (And.intro (And.intro (And.intro @ite_and @ite_or) (And.intro @ite_gand @ite_gor)) (And.intro (And.intro @gstepP_some @condV_true) (And.intro @condV_false (And.intro @condV_twice @wantV_cond)))))))
end Go.Proofs.YtelpjaejmneplaaGreatDoor.Am
namespace Go.Proofs.YtelpjaejmneplaaGreatDoor.Am
open Go
theorem strIdx_ok {s : List UInt8} {k : Nat} (h : k < s.length) : strIdxV (.str s) (.int .i64 k) = some (.int .u8 ((s[k]).toNat : Int)) := by
 have e : (0 : Int) ≤ (k : Int) ∧ (k : Int) < (s.length : Int) := by omega
 simp [strIdxV,e,List.getElem?_eq_getElem h]
def chk (k : Nat) (c : UInt8) : Bool := smallC c || (decide (k ≠ 0) && wordC c)
theorem isName_not {s : List UInt8} {k : Nat} (hk : k < s.length) (h : chk k s[k] = false) : isName s = false := by
 simp only [chk,Bool.or_eq_false_iff] at h
 cases s with
 | nil => rfl
 | cons c r =>
  cases k with
  | zero => simp only [List.getElem_cons_zero] at h; simp [isName,h.1]
  | succ k =>
   simp only [List.getElem_cons_succ] at h
   have h2 : wordC (r[k]'(by simpa using hk)) = false := by simpa using h.2
   have : r.all wordC = false := by
    rw [List.all_eq_false]
    exact ⟨_,List.getElem_mem (by simpa using hk),by simp [h2]⟩
   simp [isName,this]
theorem word_small {c : UInt8} (h : smallC c = true) : wordC c = true := by simp [wordC,h]
theorem isName_yes {s : List UInt8} (h : ∀ (k : Nat) (hk : k < s.length),chk k s[k] = true) : isName s = (decide (s ≠ []) && decide (s.length ≤ 16)) := by
 cases s with
 | nil => rfl
 | cons c r =>
  have h0 := h 0 (by simp)
  simp only [List.getElem_cons_zero,chk,ne_eq,not_true_eq_false,decide_false,Bool.false_and,Bool.or_false] at h0
  have h1 : r.all wordC = true := by
   rw [List.all_eq_true]
   intro x hx
   obtain ⟨k,hk,rfl⟩ := List.getElem_of_mem hx
   have := h (k + 1) (by simpa using hk)
   simp only [List.getElem_cons_succ,chk,Bool.or_eq_true,Bool.and_eq_true] at this
   rcases this with h | h
   ·exact word_small h
   ·exact h.2
  simp [isName,h0,h1]
  omega
section
variable (d : Nat) (σ : Store)
theorem isname_ok (s : List UInt8) (hs : s.length < 2 ^ 40) : Called CU.cfg d 167 [.str s] σ fun v σ' => v = .bool (isName s) ∧ σ' = σ := by
 refine called_of (fn := CU.a167) rfl (Nat.le_of_ble_eq_true rfl) ?_
 simp only [CU.a167, CU.o]
 simp -dsimp only [↓WPd,↓Zm,↓Zn,WPu,Za,Zb,Zc,Zd,Ze,Zf,Zg,Zh,Nat.reduceEqDiff,Nat.reduceLT,Zi,Zj,Zk,Zl,Nat.reduceBEq,lenStrV_str]
 refine loop_rule2 (fun m vs σ' => ∃ k,k ≤ s.length ∧ m = s.length - k ∧ vs = [.str s,.int .i64 s.length,.int .i64 k] ∧ σ' = σ ∧ ∀ (j : Nat) (hj : j < s.length),j < k → chk j s[j] = true) [0,2]
  (fun e vs σ' => σ' = σ ∧ ((e = .exit 0 ∧ (∃ x,vs = [.str s,x]) ∧ ∀ (j : Nat) (hj : j < s.length),chk j s[j] = true) ∨ (e = .ret ∧ (∃ x,vs = [x,.bool false]) ∧ isName s = false))) s.length ⟨0,Nat.zero_le _,rfl,?_,rfl,fun j _ h => by omega⟩ ?_ ?_
 ·simp -dsimp only [↓WPd,↓Zm,↓Zn,WPu,Za,Zb,Zc,Zd,Ze,Zf,Zg,Zh,Nat.reduceEqDiff,Nat.reduceLT,Zi,Zj,Zk,Zl,Nat.reduceBEq]; rfl
 ·rintro m vs σ' ⟨k,hk,rfl,rfl,rfl,hall⟩
  simp -dsimp only [↓WPd,↓Zm,↓Zn,WPu,Za,Zb,Zc,Zd,Ze,Zf,Zg,Zh,Nat.reduceEqDiff,Nat.reduceLT,Zi,Zj,Zk,Zl,Nat.reduceBEq]
  refine condP_dec (fun h => ?_) (fun h => ?_)
  ·have hk' : k < s.length := by omega
   simp -dsimp only [↓WPd,↓Zm,↓Zn,WPu,Za,Zb,Zc,Zd,Ze,Zf,Zg,Zh,Nat.reduceEqDiff,Nat.reduceLT,Zi,Zj,Zk,Zl,Nat.reduceBEq,WPm,strIdx_ok hk']
   have key : (!(decide (((s[k]).toNat : Int) ≥ 97) && decide (((s[k]).toNat : Int) ≤ 122)) && (((k : Int) == 0) || (decide (((s[k]).toNat : Int) < 65) || decide (((s[k]).toNat : Int) > 90)) && (decide (((s[k]).toNat : Int) < 48) || decide (((s[k]).toNat : Int) > 57)) && (((s[k]).toNat : Int) != 95))) = !chk k s[k] := by
    generalize s[k] = c
    rw [Bool.eq_iff_iff]
    simp [chk,wordC,smallC]
    omega
   rw [key]
   refine condP_intro (fun h => ?_) (fun h => ?_)
   ·simp -dsimp only [↓WPd,↓Zm,↓Zn,WPu,Za,Zb,Zc,Zd,Ze,Zf,Zg,Zh,Nat.reduceEqDiff,Nat.reduceLT,Zi,Zj,Zk,Zl,Nat.reduceBEq]
    exact .inr ⟨⟨_,rfl⟩,isName_not hk' (by simpa using h)⟩
   ·simp -dsimp only [↓WPd,↓Zm,↓Zn,WPu,Za,Zb,Zc,Zd,Ze,Zf,Zg,Zh,Nat.reduceEqDiff,Nat.reduceLT,Zi,Zj,Zk,Zl,Nat.reduceBEq]
    refine ⟨s.length - (k + 1),by omega,k + 1,by omega,rfl,by rw [wrap_i64 (by omega) (by omega),Int.natCast_add,Int.natCast_one],fun j hj hjk => ?_⟩
    by_cases e : j = k
    ·subst e; simpa using h
    ·exact hall j hj (by omega)
  ·simp -dsimp only [↓WPd,↓Zm,↓Zn,WPu,Za,Zb,Zc,Zd,Ze,Zf,Zg,Zh,Nat.reduceEqDiff,Nat.reduceLT,Zi,Zj,Zk,Zl,Nat.reduceBEq]
   exact .inl ⟨⟨_,rfl⟩,fun j hj => hall j hj (by omega)⟩
 ·rintro e σ' env ⟨rfl,⟨rfl,⟨x,hv⟩,hall⟩ | ⟨rfl,⟨x,hv⟩,hno⟩⟩
  ·simp only [List.map_cons,List.map_nil,List.cons.injEq,and_true] at hv
   have e1 : sopV .neq (.str s) (.str []) = some (.bool (decide (s ≠ []))) := by cases s <;> simp [sopV]
   simp -dsimp only [↓WPd,↓Zm,↓Zn,WPu,Za,Zb,Zc,Zd,Ze,Zf,Zg,Zh,Nat.reduceEqDiff,Nat.reduceLT,Zi,Zj,Zk,Zl,Nat.reduceBEq,WPm,hv,e1]
   rw [isName_yes hall]
   have e2 : decide ((s.length : Int) ≤ 16) = decide (s.length ≤ 16) := decide_eq_decide.2 (by omega)
   rw [e2]
   exact ⟨rfl,trivial⟩
  ·simp only [List.map_cons,List.map_nil,List.cons.injEq,and_true] at hv
   simp -dsimp only [↓WPd,↓Zm,↓Zn,WPu,Za,Zb,Zc,Zd,Ze,Zf,Zg,Zh,Nat.reduceEqDiff,Nat.reduceLT,Zi,Zj,Zk,Zl,Nat.reduceBEq,hv,hno]
theorem isName_word {s : List UInt8} {k : Nat} (hk : k < s.length) (h : wordC s[k] = false) : isName s = false := by
 refine isName_not hk ?_
 simp only [chk,h,Bool.and_false,Bool.or_false]
 cases hq : smallC s[k] with
 | false => rfl
 | true => rw [word_small hq] at h; cases h
set_option maxHeartbeats 400000 in
theorem risname_ok (s : List UInt8) : Called CU.cfg d 174 [.str s] σ fun v σ' => v = .bool (isName s) ∧ σ' = σ := by
 refine called_of (fn := CU.a174) rfl (Nat.le_of_ble_eq_true rfl) ?_
 simp only [CU.a174, CU.o]
 cases s with
 | nil =>
  have e : decide (((0 : Nat) : Int) < 1) = true := rfl
  simp -dsimp only [↓WPd,↓Zm,↓Zn,WPu,Za,Zb,Zc,Zd,Ze,Zf,Zg,Zh,Nat.reduceEqDiff,Nat.reduceLT,Zi,Zj,Zk,Zl,Nat.reduceBEq,WPm,lenStrV_str,List.length_nil,e,bq_tf,Bool.true_or]
  exact ⟨rfl,trivial⟩
 | cons c r =>
  have e0 : strIdxV (.str (c :: r)) (.int .i64 0) = some (.int .u8 (c.toNat : Int)) := strIdx_ok (s := c :: r) (k := 0) (by simp)
  simp -dsimp only [↓WPd,↓Zm,↓Zn,WPu,Za,Zb,Zc,Zd,Ze,Zf,Zg,Zh,Nat.reduceEqDiff,Nat.reduceLT,Zi,Zj,Zk,Zl,Nat.reduceBEq,WPm,lenStrV_str,e0]
  have key : (((decide ((((c :: r).length : Nat) : Int) < 1) || decide ((((c :: r).length : Nat) : Int) > 16)) || decide ((c.toNat : Int) < 97)) || decide ((c.toNat : Int) > 122)) = !(decide (r.length < 16) && smallC c) := by
   rw [Bool.eq_iff_iff]
   simp [smallC]
   omega
  rw [key]
  refine condP_intro (fun h => ?_) (fun h => ?_)
  ·have : isName (c :: r) = false := by
    simp only [Bool.not_eq_true',Bool.and_eq_false_iff] at h
    rcases h with h | h <;> simp [isName,h]
   simp -dsimp only [↓WPd,↓Zm,↓Zn,WPu,Za,Zb,Zc,Zd,Ze,Zf,Zg,Zh,Nat.reduceEqDiff,Nat.reduceLT,Zi,Zj,Zk,Zl,Nat.reduceBEq,this]
  ·have h2 : isName (c :: r) = r.all wordC := by
    simp only [Bool.not_eq_false',Bool.and_eq_true] at h
    simp [isName,h]
   have hl : (c :: r).length ≤ 16 := by
    simp only [Bool.not_eq_false',Bool.and_eq_true,decide_eq_true_eq] at h
    simp only [List.length_cons]; omega
   have h3 : smallC c = true := by
    simp only [Bool.not_eq_false',Bool.and_eq_true] at h
    exact h.2
   simp -dsimp only [↓WPd,↓Zm,↓Zn,WPu,Za,Zb,Zc,Zd,Ze,Zf,Zg,Zh,Nat.reduceEqDiff,Nat.reduceLT,Zi,Zj,Zk,Zl,Nat.reduceBEq]
   refine loop_rule2 (fun m vs σ' => ∃ k,k ≤ (c :: r).length ∧ m = (c :: r).length - k ∧ vs = [.str (c :: r),.int .i64 k] ∧ σ' = σ ∧ ∀ (j : Nat) (hj : j < (c :: r).length),j < k → wordC (c :: r)[j] = true) [0,2]
    (fun e vs σ' => σ' = σ ∧ ((e = .exit 0 ∧ ∀ (j : Nat) (hj : j < (c :: r).length),wordC (c :: r)[j] = true) ∨ (e = .ret ∧ (∃ x,vs = [x,.bool false]) ∧ isName (c :: r) = false))) (c :: r).length ⟨0,Nat.zero_le _,rfl,?_,rfl,fun j _ h => by omega⟩ ?_ ?_
   ·simp -dsimp only [↓WPd,↓Zm,↓Zn,WPu,Za,Zb,Zc,Zd,Ze,Zf,Zg,Zh,Nat.reduceEqDiff,Nat.reduceLT,Zi,Zj,Zk,Zl,Nat.reduceBEq]; rfl
   ·rintro m vs σ' ⟨k,hk,rfl,rfl,rfl,hall⟩
    simp -dsimp only [↓WPd,↓Zm,↓Zn,WPu,Za,Zb,Zc,Zd,Ze,Zf,Zg,Zh,Nat.reduceEqDiff,Nat.reduceLT,Zi,Zj,Zk,Zl,Nat.reduceBEq,lenStrV_str]
    refine condP_dec (fun h => ?_) (fun h => ?_)
    ·have hk' : k < (c :: r).length := by omega
     simp -dsimp only [↓WPd,↓Zm,↓Zn,WPu,Za,Zb,Zc,Zd,Ze,Zf,Zg,Zh,Nat.reduceEqDiff,Nat.reduceLT,Zi,Zj,Zk,Zl,Nat.reduceBEq,WPm,strIdx_ok hk']
     have key : (!((decide ((((c :: r)[k]).toNat : Int) ≥ 97) && decide ((((c :: r)[k]).toNat : Int) ≤ 122) || decide ((((c :: r)[k]).toNat : Int) ≥ 65) && decide ((((c :: r)[k]).toNat : Int) ≤ 90) || decide ((((c :: r)[k]).toNat : Int) ≥ 48) && decide ((((c :: r)[k]).toNat : Int) ≤ 57)) || ((((c :: r)[k]).toNat : Int) == 95))) = !wordC (c :: r)[k] := by
      generalize (c :: r)[k] = x
      rw [Bool.eq_iff_iff]
      simp [wordC,smallC]
      omega
     rw [key]
     refine condP_intro (fun h => ?_) (fun h => ?_)
     ·simp -dsimp only [↓WPd,↓Zm,↓Zn,WPu,Za,Zb,Zc,Zd,Ze,Zf,Zg,Zh,Nat.reduceEqDiff,Nat.reduceLT,Zi,Zj,Zk,Zl,Nat.reduceBEq]
      exact .inr ⟨⟨_,rfl⟩,isName_word hk' (by simpa using h)⟩
     ·simp -dsimp only [↓WPd,↓Zm,↓Zn,WPu,Za,Zb,Zc,Zd,Ze,Zf,Zg,Zh,Nat.reduceEqDiff,Nat.reduceLT,Zi,Zj,Zk,Zl,Nat.reduceBEq]
      refine ⟨(c :: r).length - (k + 1),by omega,k + 1,by omega,rfl,by rw [wrap_i64 (by omega) (by omega),Int.natCast_add,Int.natCast_one],fun j hj hjk => ?_⟩
      by_cases e : j = k
      ·subst e; simpa using h
      ·exact hall j hj (by omega)
    ·simp -dsimp only [↓WPd,↓Zm,↓Zn,WPu,Za,Zb,Zc,Zd,Ze,Zf,Zg,Zh,Nat.reduceEqDiff,Nat.reduceLT,Zi,Zj,Zk,Zl,Nat.reduceBEq]
     exact .inl fun j hj => hall j hj (by omega)
   ·rintro e σ' env ⟨rfl,⟨rfl,hall⟩ | ⟨rfl,⟨x,hv⟩,hno⟩⟩
    ·simp -dsimp only [↓WPd,↓Zm,↓Zn,WPu,Za,Zb,Zc,Zd,Ze,Zf,Zg,Zh,Nat.reduceEqDiff,Nat.reduceLT,Zi,Zj,Zk,Zl,Nat.reduceBEq]
     rw [isName_yes fun j hj => ?_]
     ·simp only [List.length_cons] at hl
      simp; omega
     ·simp only [chk,Bool.or_eq_true,Bool.and_eq_true,hall j hj,and_true]
      cases j with
      | zero => left; simpa using h3
      | succ j => right; simp
    ·simp only [List.map_cons,List.map_nil,List.cons.injEq,and_true] at hv
     simp -dsimp only [↓WPd,↓Zm,↓Zn,WPu,Za,Zb,Zc,Zd,Ze,Zf,Zg,Zh,Nat.reduceEqDiff,Nat.reduceLT,Zi,Zj,Zk,Zl,Nat.reduceBEq,hv,hno]
def SS (l : List (List UInt8)) : List AVal := l.map AVal.str
theorem SS_len (l : List (List UInt8)) : (SS l).length = l.length := by simp [SS]
theorem SS_get (l : List (List UInt8)) (i : Nat) (h : i < (SS l).length) : (SS l)[i] = .str (l[i]'(by simpa [SS] using h)) := by simp [SS]
theorem sop_eql (a b : List UInt8) : sopV .eql (.str a) (.str b) = some (.bool (a == b)) := rfl
theorem sindex_ok (l : AVal) (x : List (List UInt8)) (s : List UInt8) (hx : x.length < 2 ^ 40) (hl : SlOf σ 1 l (SS x)) : Called CU.cfg d 197 [l,.str s] σ fun v σ' => (∃ i : Int,v = .int .i64 i ∧ (decide (0 ≤ i)) = x.contains s) ∧ σ' = σ := by
 refine called_of (fn := CU.a197) rfl (Nat.le_of_ble_eq_true rfl) ?_
 have ll := hl.len
 rw [SS_len] at ll
 simp only [CU.a197, CU.o]
 simp -dsimp only [↓WPd,↓Zm,↓Zn,WPu,Za,Zb,Zc,Zd,Ze,Zf,Zg,Zh,Nat.reduceEqDiff,Nat.reduceLT,Zi,Zj,Zk,Zl,Nat.reduceBEq,ll]
 refine loop_rule2 (fun m vs σ' => ∃ k,k ≤ x.length ∧ m = x.length - k ∧ vs = [l,.str s,.int .i64 x.length,.int .i64 k] ∧ σ' = σ ∧ ∀ (j : Nat) (hj : j < x.length),j < k → x[j] ≠ s) [4]
  (fun e vs σ' => σ' = σ ∧ ((e = .exit 0 ∧ x.contains s = false) ∨ (e = .ret ∧ x.contains s = true ∧ ∃ k : Nat,vs = [.int .i64 k]))) x.length ⟨0,Nat.zero_le _,rfl,?_,rfl,fun j _ h => by omega⟩ ?_ ?_
 ·simp -dsimp only [↓WPd,↓Zm,↓Zn,WPu,Za,Zb,Zc,Zd,Ze,Zf,Zg,Zh,Nat.reduceEqDiff,Nat.reduceLT,Zi,Zj,Zk,Zl,Nat.reduceBEq]; rfl
 ·rintro m vs σ' ⟨k,hk,rfl,rfl,rfl,hall⟩
  simp -dsimp only [↓WPd,↓Zm,↓Zn,WPu,Za,Zb,Zc,Zd,Ze,Zf,Zg,Zh,Nat.reduceEqDiff,Nat.reduceLT,Zi,Zj,Zk,Zl,Nat.reduceBEq]
  refine condP_dec (fun h => ?_) (fun h => ?_)
  ·have hk' : k < x.length := by omega
   have hi : k < (SS x).length := by rw [SS_len]; exact hk'
   simp -dsimp only [↓WPd,↓Zm,↓Zn,WPu,Za,Zb,Zc,Zd,Ze,Zf,Zg,Zh,Nat.reduceEqDiff,Nat.reduceLT,Zi,Zj,Zk,Zl,Nat.reduceBEq,hl.iaddr hi,hl.load1 hi (by rw [SS_get]; rfl),SS_get,sop_eql]
   refine condP_intro (fun h => ?_) (fun h => ?_)
   ·simp -dsimp only [↓WPd,↓Zm,↓Zn,WPu,Za,Zb,Zc,Zd,Ze,Zf,Zg,Zh,Nat.reduceEqDiff,Nat.reduceLT,Zi,Zj,Zk,Zl,Nat.reduceBEq]
    have e : s = x[k] := by simpa using h
    exact .inr ⟨by rw [e]; simp,k,rfl⟩
   ·simp -dsimp only [↓WPd,↓Zm,↓Zn,WPu,Za,Zb,Zc,Zd,Ze,Zf,Zg,Zh,Nat.reduceEqDiff,Nat.reduceLT,Zi,Zj,Zk,Zl,Nat.reduceBEq]
    refine ⟨x.length - (k + 1),by omega,k + 1,by omega,rfl,by rw [wrap_i64 (by omega) (by omega),Int.natCast_add,Int.natCast_one],fun j hj hjk => ?_⟩
    by_cases e : j = k
    ·subst e
     intro e; rw [e] at h; simp at h
    ·exact hall j hj (by omega)
  ·simp -dsimp only [↓WPd,↓Zm,↓Zn,WPu,Za,Zb,Zc,Zd,Ze,Zf,Zg,Zh,Nat.reduceEqDiff,Nat.reduceLT,Zi,Zj,Zk,Zl,Nat.reduceBEq]
   refine .inl ?_
   cases hc : x.contains s with
   | false => rfl
   | true =>
    exfalso
    rw [List.contains_iff_mem] at hc
    obtain ⟨j,hj,e⟩ := List.getElem_of_mem hc
    exact hall j hj (by omega) e
 ·rintro e σ' env ⟨rfl,⟨rfl,hno⟩ | ⟨rfl,hyes,k,hv⟩⟩
  ·simp -dsimp only [↓WPd,↓Zm,↓Zn,WPu,Za,Zb,Zc,Zd,Ze,Zf,Zg,Zh,Nat.reduceEqDiff,Nat.reduceLT,Zi,Zj,Zk,Zl,Nat.reduceBEq]
   exact ⟨⟨_,rfl,by rw [hno]; rfl⟩,trivial⟩
  ·simp only [List.map_cons,List.map_nil,List.cons.injEq,and_true] at hv
   simp -dsimp only [↓WPd,↓Zm,↓Zn,WPu,Za,Zb,Zc,Zd,Ze,Zf,Zg,Zh,Nat.reduceEqDiff,Nat.reduceLT,Zi,Zj,Zk,Zl,Nat.reduceBEq,hv]
   exact ⟨⟨_,rfl,by rw [hyes]; simp⟩,trivial⟩
theorem scontains_ok (l : AVal) (x : List (List UInt8)) (s : List UInt8) (hx : x.length < 2 ^ 40) (hl : SlOf σ 1 l (SS x)) : Called CU.cfg d 169 [l,.str s] σ fun v σ' => v = .bool (x.contains s) ∧ σ' = σ := by
 refine called_of (fn := CU.a169) rfl (Nat.le_of_ble_eq_true rfl) ?_
 simp only [CU.a169, CU.o]
 simp -dsimp only [↓WPd,↓Zm,↓Zn,WPu,Za,Zb,Zc,Zd,Ze,Zf,Zg,Zh,Nat.reduceEqDiff,Nat.reduceLT,Zi,Zj,Zk,Zl,Nat.reduceBEq]
 refine calledW_of (sindex_ok d σ l x s hx hl) ?_
 rintro v σ1 ⟨⟨i,rfl,hi⟩,rfl⟩
 simp -dsimp only [↓WPd,↓Zm,↓Zn,WPu,Za,Zb,Zc,Zd,Ze,Zf,Zg,Zh,Nat.reduceEqDiff,Nat.reduceLT,Zi,Zj,Zk,Zl,Nat.reduceBEq]
 have : decide (i ≥ 0) = x.contains s := hi
 rw [this]
 exact ⟨rfl,trivial⟩
theorem issign_ok (s : List UInt8) : Called CU.cfg d 175 [.str s] σ fun v σ' => v = .bool (signsL.contains s) ∧ Grows σ σ' := by
 refine called_of (fn := CU.a175) rfl (Nat.le_of_ble_eq_true rfl) ?_
 simp only [CU.a175, CU.o]
 have hf : fillA [AVal.str [],AVal.str [],AVal.str [],AVal.str [],AVal.str [],AVal.str [],AVal.str [],AVal.str [],AVal.str [],AVal.str [],AVal.str [],AVal.str []] [(0,1,AVal.str [61]),(1,1,AVal.str [58,61]),(2,1,AVal.str [64]),(3,1,AVal.str [43]),(4,1,AVal.str [45]),(5,1,AVal.str [42]),(6,1,AVal.str [60]),(7,1,AVal.str [61,60]),(8,1,AVal.str [62]),(9,1,AVal.str [62,61]),(10,1,AVal.str [61,58,61]),(11,1,AVal.str [61,92,61])] = some (SS signsL) := rfl
 have hl : (σ ++ [AObj.cells (List.replicate 12 (.str []))])[σ.length]? = some (.cells (List.replicate 12 (.str []))) := by simp
 have hs := storeN_cells hl (n := 12) rfl (cs' := SS signsL) rfl rfl
 rw [set_last] at hs
 have hst : storeV (σ ++ [AObj.cells [AVal.str [],AVal.str [],AVal.str [],AVal.str [],AVal.str [],AVal.str [],AVal.str [],AVal.str [],AVal.str [],AVal.str [],AVal.str [],AVal.str []]]) 12 (.ptr σ.length 0) (.agg (SS signsL)) = some (σ ++ [.cells (SS signsL)]) := hs
 simp -dsimp only [↓WPd,↓Zm,↓Zn,WPu,Za,Zb,Zc,Zd,Ze,Zf,Zg,Zh,Nat.reduceEqDiff,Nat.reduceLT,Zi,Zj,Zk,Zl,Nat.reduceBEq,hf,hst]
 have ho : (σ ++ [AObj.cells (SS signsL)])[σ.length]? = some (.cells (SS signsL)) := by simp
 refine loop_rule2 (fun m vs σ' => ∃ k,k ≤ 12 ∧ m = 12 - k ∧ vs = [.str s,.ptr σ.length 0,.int .i64 k] ∧ σ' = σ ++ [AObj.cells (SS signsL)] ∧ ∀ (j : Nat) (hj : j < signsL.length),j < k → s ≠ signsL[j]) [2]
  (fun e vs σ' => σ' = σ ++ [AObj.cells (SS signsL)] ∧ ((e = .exit 0 ∧ signsL.contains s = false) ∨ (e = .ret ∧ signsL.contains s = true ∧ vs = [.bool true]))) 12 ⟨0,Nat.zero_le _,rfl,?_,rfl,fun j _ h => by omega⟩ ?_ ?_
 ·simp -dsimp only [↓WPd,↓Zm,↓Zn,WPu,Za,Zb,Zc,Zd,Ze,Zf,Zg,Zh,Nat.reduceEqDiff,Nat.reduceLT,Zi,Zj,Zk,Zl,Nat.reduceBEq]; rfl
 ·rintro m vs σ' ⟨k,hk,rfl,rfl,rfl,hall⟩
  simp -dsimp only [↓WPd,↓Zm,↓Zn,WPu,Za,Zb,Zc,Zd,Ze,Zf,Zg,Zh,Nat.reduceEqDiff,Nat.reduceLT,Zi,Zj,Zk,Zl,Nat.reduceBEq]
  refine condP_dec (fun h => ?_) (fun h => ?_)
  ·have hk' : k < 12 := by omega
   have ha : aaddrV 12 1 (.ptr σ.length 0) (.int .i64 k) = some (.ptr σ.length k) := by
    have e : (0 : Int) ≤ (k : Int) ∧ (k : Int) < 12 := by omega
    simp [aaddrV,e]
   have hg : (SS signsL)[k]? = some (.str (signsL[k]'hk')) := by
    have hi : k < (SS signsL).length := hk'
    rw [List.getElem?_eq_getElem hi,SS_get]; rfl
   simp -dsimp only [↓WPd,↓Zm,↓Zn,WPu,Za,Zb,Zc,Zd,Ze,Zf,Zg,Zh,Nat.reduceEqDiff,Nat.reduceLT,Zi,Zj,Zk,Zl,Nat.reduceBEq,ha,load_cells ho,hg,sop_eql]
   refine condP_intro (fun h => ?_) (fun h => ?_)
   ·simp -dsimp only [↓WPd,↓Zm,↓Zn,WPu,Za,Zb,Zc,Zd,Ze,Zf,Zg,Zh,Nat.reduceEqDiff,Nat.reduceLT,Zi,Zj,Zk,Zl,Nat.reduceBEq]
    have e : s = signsL[k] := by simpa using h
    refine .inr ?_
    rw [e,List.contains_iff_mem]
    exact ⟨List.getElem_mem _,trivial⟩
   ·simp -dsimp only [↓WPd,↓Zm,↓Zn,WPu,Za,Zb,Zc,Zd,Ze,Zf,Zg,Zh,Nat.reduceEqDiff,Nat.reduceLT,Zi,Zj,Zk,Zl,Nat.reduceBEq]
    refine ⟨12 - (k + 1),by omega,k + 1,by omega,rfl,by rw [wrap_i64 (by omega) (by omega),Int.natCast_add,Int.natCast_one],fun j hj hjk => ?_⟩
    by_cases e : j = k
    ·subst e
     intro e2
     have h2 : (s == signsL[j]'hk') = true := by rw [e2]; exact beq_self_eq_true _
     rw [h2] at h; cases h
    ·exact hall j hj (by omega)
  ·simp -dsimp only [↓WPd,↓Zm,↓Zn,WPu,Za,Zb,Zc,Zd,Ze,Zf,Zg,Zh,Nat.reduceEqDiff,Nat.reduceLT,Zi,Zj,Zk,Zl,Nat.reduceBEq]
   refine .inl ?_
   cases hc : signsL.contains s with
   | false => rfl
   | true =>
    exfalso
    rw [List.contains_iff_mem] at hc
    obtain ⟨j,hj,e⟩ := List.getElem_of_mem hc
    have : signsL.length = 12 := rfl
    exact hall j hj (by omega) e.symm
 ·rintro e σ' env ⟨rfl,⟨rfl,hno⟩ | ⟨rfl,hyes,hv⟩⟩
  ·simp -dsimp only [↓WPd,↓Zm,↓Zn,WPu,Za,Zb,Zc,Zd,Ze,Zf,Zg,Zh,Nat.reduceEqDiff,Nat.reduceLT,Zi,Zj,Zk,Zl,Nat.reduceBEq,hno]
   exact Grows.app _ _
  ·simp only [List.map_cons,List.map_nil,List.cons.injEq,and_true] at hv
   simp -dsimp only [↓WPd,↓Zm,↓Zn,WPu,Za,Zb,Zc,Zd,Ze,Zf,Zg,Zh,Nat.reduceEqDiff,Nat.reduceLT,Zi,Zj,Zk,Zl,Nat.reduceBEq,hv,hyes]
   exact Grows.app _ _
end
theorem Cel.one (c : Cel) : c.cs.all AVal.one = true := rfl
theorem Cel.cells (c : Cel) : c.val.cells = c.cs := rfl
theorem Cel.g0 (c : Cel) : c.cs[0]? = some (.int .u8 c.k) := rfl
theorem Cel.g1 (c : Cel) : c.cs[1]? = some (.str c.s) := rfl
theorem Cel.g2 (c : Cel) : c.cs[2]? = some (.int .i64 c.n) := rfl
theorem Cel.g3 (c : Cel) : c.cs[3]? = some (.int .i64 c.v.1) := rfl
theorem Cel.g4 (c : Cel) : c.cs[4]? = some (.int .i64 c.v.2) := rfl
theorem Cel.eqs (a b : Cel) : eqsV [.i,.s,.i,.i,.i] a.val b.val = some (decide (a = b)) := by
 obtain ⟨k,s,n,v,w⟩ := a
 obtain ⟨k',s',n',v',w'⟩ := b
 simp [eqsV,cellsEq,Cel.val,Cel.cs]
 rw [Bool.eq_iff_iff]
 simp
 omega
section
variable (d : Nat) (σ : Store)
theorem only_ok (a b : Cel) : Called CU.cfg d 165 [a.val,b.val] σ fun v σ' => v = .bool (decide (a = b)) ∧ Grows σ σ' := by
 refine called_of (fn := CU.a165) rfl (Nat.le_of_ble_eq_true rfl) ?_
 simp only [CU.a165, CU.o]
 simp -dsimp only [↓WPd,↓Zm,↓Zn,WPu,Za,Zb,Zc,Zd,Ze,Zf,Zg,Zh,Nat.reduceEqDiff,Nat.reduceLT,Zi,Zj,Zk,Zl,Nat.reduceBEq,Cel.cells,Cel.one]
 have h1 : (σ ++ [AObj.cells a.cs] ++ [AObj.cells b.cs])[σ.length]? = some (.cells a.cs) := by simp
 have h2 : (σ ++ [AObj.cells a.cs] ++ [AObj.cells b.cs])[(σ ++ [AObj.cells a.cs]).length]? = some (.cells b.cs) := by simp
 have l1 : loadV (σ ++ [AObj.cells a.cs] ++ [AObj.cells b.cs]) 5 true (.ptr σ.length 0) = some a.val := loadN_cells h1 rfl
 have l2 : loadV (σ ++ [AObj.cells a.cs] ++ [AObj.cells b.cs]) 5 true (.ptr (σ ++ [AObj.cells a.cs]).length 0) = some b.val := loadN_cells h2 rfl
 simp -dsimp only [↓WPd,↓Zm,↓Zn,WPu,Za,Zb,Zc,Zd,Ze,Zf,Zg,Zh,Nat.reduceEqDiff,Nat.reduceLT,Zi,Zj,Zk,Zl,Nat.reduceBEq,l1,l2,Cel.eqs]
 exact (Grows.app _ _).trans (Grows.app _ _)
theorem cell_load {c : Cel} {σ' : Store} {i : Nat} (h : σ'[i]? = some (.cells c.cs)) : loadV σ' 5 true (.ptr i 0) = some c.val := loadN_cells h rfl
theorem rule1_ok (c : Cel) : Called CU.cfg d 164 [c.val] σ fun v σ' => v = .bool (decide (c.k = 1) && c.ok) ∧ Grows σ σ' := by
 refine called_of (fn := CU.a164) rfl (Nat.le_of_ble_eq_true rfl) ?_
 simp only [CU.a164, CU.o]
 simp -dsimp only [↓WPd,↓Zm,↓Zn,WPu,Za,Zb,Zc,Zd,Ze,Zf,Zg,Zh,Nat.reduceEqDiff,Nat.reduceLT,Zi,Zj,Zk,Zl,Nat.reduceBEq,Cel.cells,Cel.one]
 have ho : (σ ++ [AObj.cells c.cs])[σ.length]? = some (.cells c.cs) := by simp
 have g0 : Grows σ (σ ++ [AObj.cells c.cs]) := Grows.app _ _
 generalize σ ++ [AObj.cells c.cs] = σ1 at ho g0
 simp -dsimp only [↓WPd,↓Zm,↓Zn,WPu,Za,Zb,Zc,Zd,Ze,Zf,Zg,Zh,Nat.reduceEqDiff,Nat.reduceLT,Zi,Zj,Zk,Zl,Nat.reduceBEq,WPm,faddr_ptr,load_cells ho,Cel.g0,Cel.g1,Cel.g2,Cel.g3,Cel.g4,cell_load ho]
 generalize hb : (decide (c.n ≥ -2147483648) && decide (c.n ≤ 2147483648)) = b
 have hok : (decide (c.k = 1) && c.ok) = (b && decide (c = ⟨1,[],c.n,(0,0)⟩)) := by
  rw [← hb]
  obtain ⟨k,s,n,v⟩ := c
  by_cases h1 : k = 1
  ·subst h1
   rw [Bool.eq_iff_iff]
   simp [Cel.ok]
   constructor <;> intro h <;> simp_all
  ·simp [h1]
 have hf : fillA [AVal.int IntKind.u8 0,AVal.str [],AVal.int IntKind.i64 0,AVal.int IntKind.i64 0,AVal.int IntKind.i64 0] [(0,1,AVal.int IntKind.u8 1),(2,1,AVal.int IntKind.i64 c.n)] = some (Cel.cs ⟨1,[],c.n,(0,0)⟩) := rfl
 cases b
 ·simp -dsimp only [↓WPd,↓Zm,↓Zn,WPu,Za,Zb,Zc,Zd,Ze,Zf,Zg,Zh,Nat.reduceEqDiff,Nat.reduceLT,Zi,Zj,Zk,Zl,Nat.reduceBEq,WPm,hok,Bool.false_and]
  exact g0
 ·simp -dsimp only [↓WPd,↓Zm,↓Zn,WPu,Za,Zb,Zc,Zd,Ze,Zf,Zg,Zh,Nat.reduceEqDiff,Nat.reduceLT,Zi,Zj,Zk,Zl,Nat.reduceBEq,WPm,hf]
  refine calledW_of (only_ok d σ1 c ⟨1,[],c.n,(0,0)⟩) ?_
  rintro v σ2 ⟨rfl,g2⟩
  simp -dsimp only [↓WPd,↓Zm,↓Zn,WPu,Za,Zb,Zc,Zd,Ze,Zf,Zg,Zh,Nat.reduceEqDiff,Nat.reduceLT,Zi,Zj,Zk,Zl,Nat.reduceBEq,hok,Bool.true_and]
  exact g0.trans g2
theorem rule2_ok (c : Cel) (hs : c.s.length < 2 ^ 40) : Called CU.cfg d 166 [c.val] σ fun v σ' => v = .bool (decide (c.k = 2) && c.ok) ∧ Grows σ σ' := by
 refine called_of (fn := CU.a166) rfl (Nat.le_of_ble_eq_true rfl) ?_
 simp only [CU.a166, CU.o]
 simp -dsimp only [↓WPd,↓Zm,↓Zn,WPu,Za,Zb,Zc,Zd,Ze,Zf,Zg,Zh,Nat.reduceEqDiff,Nat.reduceLT,Zi,Zj,Zk,Zl,Nat.reduceBEq,Cel.cells,Cel.one]
 have ho : (σ ++ [AObj.cells c.cs])[σ.length]? = some (.cells c.cs) := by simp
 have g0 : Grows σ (σ ++ [AObj.cells c.cs]) := Grows.app _ _
 generalize σ ++ [AObj.cells c.cs] = σ1 at ho g0
 simp -dsimp only [↓WPd,↓Zm,↓Zn,WPu,Za,Zb,Zc,Zd,Ze,Zf,Zg,Zh,Nat.reduceEqDiff,Nat.reduceLT,Zi,Zj,Zk,Zl,Nat.reduceBEq,WPm,faddr_ptr,load_cells ho,Cel.g0,Cel.g1,Cel.g2,Cel.g3,Cel.g4,cell_load ho]
 refine calledW_of (isname_ok d σ1 c.s hs) ?_
 rintro v σ2 ⟨rfl,rfl⟩
 have hok : (decide (c.k = 2) && c.ok) = (isName c.s && decide (c = ⟨2,c.s,0,(0,0)⟩)) := by
  obtain ⟨k,s,n,v⟩ := c
  by_cases h1 : k = 2
  ·subst h1
   rw [Bool.eq_iff_iff]
   simp [Cel.ok]
   constructor <;> intro h <;> simp_all
  ·simp [h1]
 have hf : fillA [AVal.int IntKind.u8 0,AVal.str [],AVal.int IntKind.i64 0,AVal.int IntKind.i64 0,AVal.int IntKind.i64 0] [(0,1,AVal.int IntKind.u8 2),(1,1,AVal.str c.s)] = some (Cel.cs ⟨2,c.s,0,(0,0)⟩) := rfl
 generalize hb : isName c.s = b at hok
 cases b
 ·simp -dsimp only [↓WPd,↓Zm,↓Zn,WPu,Za,Zb,Zc,Zd,Ze,Zf,Zg,Zh,Nat.reduceEqDiff,Nat.reduceLT,Zi,Zj,Zk,Zl,Nat.reduceBEq,WPm,hok,Bool.false_and]
  exact g0
 ·simp -dsimp only [↓WPd,↓Zm,↓Zn,WPu,Za,Zb,Zc,Zd,Ze,Zf,Zg,Zh,Nat.reduceEqDiff,Nat.reduceLT,Zi,Zj,Zk,Zl,Nat.reduceBEq,WPm,faddr_ptr,load_cells ho,Cel.g0,Cel.g1,Cel.g2,Cel.g3,Cel.g4,cell_load ho,hf]
  refine calledW_of (only_ok d σ2 c ⟨2,c.s,0,(0,0)⟩) ?_
  rintro v σ3 ⟨rfl,g2⟩
  simp -dsimp only [↓WPd,↓Zm,↓Zn,WPu,Za,Zb,Zc,Zd,Ze,Zf,Zg,Zh,Nat.reduceEqDiff,Nat.reduceLT,Zi,Zj,Zk,Zl,Nat.reduceBEq,hok,Bool.true_and]
  exact g0.trans g2
theorem rule4_ok (c : Cel) : Called CU.cfg d 170 [c.val] σ fun v σ' => v = .bool (decide (c.k = 4) && c.ok) ∧ Grows σ σ' := by
 refine called_of (fn := CU.a170) rfl (Nat.le_of_ble_eq_true rfl) ?_
 simp only [CU.a170, CU.o]
 simp -dsimp only [↓WPd,↓Zm,↓Zn,WPu,Za,Zb,Zc,Zd,Ze,Zf,Zg,Zh,Nat.reduceEqDiff,Nat.reduceLT,Zi,Zj,Zk,Zl,Nat.reduceBEq,Cel.cells,Cel.one]
 have ho : (σ ++ [AObj.cells c.cs])[σ.length]? = some (.cells c.cs) := by simp
 have g0 : Grows σ (σ ++ [AObj.cells c.cs]) := Grows.app _ _
 generalize σ ++ [AObj.cells c.cs] = σ1 at ho g0
 have l2 : loadV σ1 2 true (.ptr σ.length 3) = some (.agg [.int .i64 c.v.1,.int .i64 c.v.2]) := by simp [loadV,behind,ho,Cel.cs]
 simp -dsimp only [↓WPd,↓Zm,↓Zn,WPu,Za,Zb,Zc,Zd,Ze,Zf,Zg,Zh,Nat.reduceEqDiff,Nat.reduceLT,Zi,Zj,Zk,Zl,Nat.reduceBEq,WPm,faddr_ptr,Nat.reduceAdd,Nat.add_zero,load_cells ho,Cel.g0,Cel.g1,Cel.g2,Cel.g3,Cel.g4,cell_load ho,l2]
 generalize hb : (decide (c.v.1 ≥ -1) && decide (c.v.1 < 4) && decide (c.v.2 ≥ 0)) = b
 have hok : (decide (c.k = 4) && c.ok) = (b && decide (c = ⟨4,[],0,c.v⟩)) := by
  rw [← hb]
  obtain ⟨k,s,n,v,w⟩ := c
  by_cases h1 : k = 4
  ·subst h1
   rw [Bool.eq_iff_iff]
   simp [Cel.ok]
   constructor
   ·intro h; simp_all; omega
   ·intro h; simp_all; omega
  ·simp [h1]
 have hf : fillA [AVal.int IntKind.u8 0,AVal.str [],AVal.int IntKind.i64 0,AVal.int IntKind.i64 0,AVal.int IntKind.i64 0] [(0,1,AVal.int IntKind.u8 4),(3,2,AVal.agg [.int .i64 c.v.1,.int .i64 c.v.2])] = some (Cel.cs ⟨4,[],0,c.v⟩) := rfl
 cases b
 ·simp -dsimp only [↓WPd,↓Zm,↓Zn,WPu,Za,Zb,Zc,Zd,Ze,Zf,Zg,Zh,Nat.reduceEqDiff,Nat.reduceLT,Zi,Zj,Zk,Zl,Nat.reduceBEq,WPm,hok,Bool.false_and]
  exact g0
 ·simp -dsimp only [↓WPd,↓Zm,↓Zn,WPu,Za,Zb,Zc,Zd,Ze,Zf,Zg,Zh,Nat.reduceEqDiff,Nat.reduceLT,Zi,Zj,Zk,Zl,Nat.reduceBEq,WPm,hf]
  refine calledW_of (only_ok d σ1 c ⟨4,[],0,c.v⟩) ?_
  rintro v σ2 ⟨rfl,g2⟩
  simp -dsimp only [↓WPd,↓Zm,↓Zn,WPu,Za,Zb,Zc,Zd,Ze,Zf,Zg,Zh,Nat.reduceEqDiff,Nat.reduceLT,Zi,Zj,Zk,Zl,Nat.reduceBEq,hok,Bool.true_and]
  exact g0.trans g2
theorem rule5_ok (c : Cel) : Called CU.cfg d 171 [c.val] σ fun v σ' => v = .bool false ∧ Grows σ σ' := by
 refine called_of (fn := CU.a171) rfl (Nat.le_of_ble_eq_true rfl) ?_
 simp only [CU.a171, CU.o]
 simp -dsimp only [↓WPd,↓Zm,↓Zn,WPu,Za,Zb,Zc,Zd,Ze,Zf,Zg,Zh,Nat.reduceEqDiff,Nat.reduceLT,Zi,Zj,Zk,Zl,Nat.reduceBEq,Cel.cells,Cel.one]
 exact Grows.app _ _
theorem ev_signs (fr : List AVal) : ev CU.cfg fr (.glob 0) = .fptr 0 (SS signsL) 0 := rfl
theorem gslice_signs : gsliceV 12 (.fptr 0 (SS signsL) 0) = some (.fslice 0 true 1 (SS signsL)) := rfl
theorem rule3_ok (c : Cel) (hs : c.s.length < 2 ^ 40) : Called CU.cfg d 168 [c.val] σ fun v σ' => v = .bool (decide (c.k = 3) && c.ok) ∧ Grows σ σ' := by
 refine called_of (fn := CU.a168) rfl (Nat.le_of_ble_eq_true rfl) ?_
 simp only [CU.a168, CU.o]
 simp -dsimp only [↓WPd,↓Zm,↓Zn,WPu,Za,Zb,Zc,Zd,Ze,Zf,Zg,Zh,Nat.reduceEqDiff,Nat.reduceLT,Zi,Zj,Zk,Zl,Nat.reduceBEq,Cel.cells,Cel.one]
 have ho : (σ ++ [AObj.cells c.cs])[σ.length]? = some (.cells c.cs) := by simp
 have g0 : Grows σ (σ ++ [AObj.cells c.cs]) := Grows.app _ _
 generalize σ ++ [AObj.cells c.cs] = σ1 at ho g0
 simp -dsimp only [↓WPd,↓Zm,↓Zn,WPu,Za,Zb,Zc,Zd,Ze,Zf,Zg,Zh,Nat.reduceEqDiff,Nat.reduceLT,Zi,Zj,Zk,Zl,Nat.reduceBEq,WPm,faddr_ptr,load_cells ho,Cel.g0,Cel.g1,Cel.g2,Cel.g3,Cel.g4,cell_load ho]
 refine calledW_of (isname_ok d σ1 c.s hs) ?_
 rintro v σ2 ⟨rfl,rfl⟩
 simp -dsimp only [↓WPd,↓Zm,↓Zn,WPu,Za,Zb,Zc,Zd,Ze,Zf,Zg,Zh,Nat.reduceEqDiff,Nat.reduceLT,Zi,Zj,Zk,Zl,Nat.reduceBEq,WPm,faddr_ptr,load_cells ho,Cel.g0,Cel.g1,Cel.g2,Cel.g3,Cel.g4,cell_load ho]
 generalize hb : (isName c.s && decide (c.n ≥ 1) && decide (c.n ≤ 8)) = b
 have hf : fillA [AVal.int IntKind.u8 0,AVal.str [],AVal.int IntKind.i64 0,AVal.int IntKind.i64 0,AVal.int IntKind.i64 0] [(0,1,AVal.int IntKind.u8 3),(1,1,AVal.str c.s),(2,1,AVal.int IntKind.i64 c.n)] = some (Cel.cs ⟨3,c.s,c.n,(0,0)⟩) := rfl
 have hok : (decide (c.k = 3) && c.ok) = ((b || (signsL.contains c.s && (c.n == 2))) && decide (c = ⟨3,c.s,c.n,(0,0)⟩)) := by
  rw [← hb]
  obtain ⟨k,s,n,v⟩ := c
  by_cases h1 : k = 3
  ·subst h1
   rw [Bool.eq_iff_iff]
   simp only [Cel.ok]
   simp
   constructor
   ·intro h; simp_all
   ·intro h; simp_all
  ·simp [h1]
 have fin : ∀ (q : Bool) (σ3 : Store),Grows σ σ3 → σ3[σ.length]? = some (.cells c.cs) → (b || (signsL.contains c.s && (c.n == 2))) = q → q = true → Called CU.cfg d 165 [c.val,.agg (Cel.cs ⟨3,c.s,c.n,(0,0)⟩)] σ3 fun v σ' => v = .bool (decide (c.k = 3) && c.ok) ∧ Grows σ σ' := by
  intro q σ3 g3 h3 hq hq1
  refine (only_ok d σ3 c ⟨3,c.s,c.n,(0,0)⟩).mono ?_
  rintro v σ4 ⟨rfl,g4⟩
  rw [hok,hq,hq1,Bool.true_and]
  exact ⟨rfl,g3.trans g4⟩
 cases b
 ·simp -dsimp only [↓WPd,↓Zm,↓Zn,WPu,Za,Zb,Zc,Zd,Ze,Zf,Zg,Zh,Nat.reduceEqDiff,Nat.reduceLT,Zi,Zj,Zk,Zl,Nat.reduceBEq,WPm,ev_signs,gslice_signs,faddr_ptr,load_cells ho,Cel.g0,Cel.g1,Cel.g2,Cel.g3,Cel.g4,cell_load ho]
  refine calledW_of (scontains_ok d σ2 _ signsL c.s (by decide) (SlOf.fs _ _ _ _ _)) ?_
  rintro v σ3 ⟨rfl,rfl⟩
  simp -dsimp only [↓WPd,↓Zm,↓Zn,WPu,Za,Zb,Zc,Zd,Ze,Zf,Zg,Zh,Nat.reduceEqDiff,Nat.reduceLT,Zi,Zj,Zk,Zl,Nat.reduceBEq,WPm,faddr_ptr,load_cells ho,Cel.g0,Cel.g1,Cel.g2,Cel.g3,Cel.g4,cell_load ho]
  generalize hq : (signsL.contains c.s && (c.n == 2)) = q at hok fin
  cases q
  ·simp -dsimp only [↓WPd,↓Zm,↓Zn,WPu,Za,Zb,Zc,Zd,Ze,Zf,Zg,Zh,Nat.reduceEqDiff,Nat.reduceLT,Zi,Zj,Zk,Zl,Nat.reduceBEq,WPm,hok,Bool.false_or,Bool.false_and]
   exact g0
  ·simp -dsimp only [↓WPd,↓Zm,↓Zn,WPu,Za,Zb,Zc,Zd,Ze,Zf,Zg,Zh,Nat.reduceEqDiff,Nat.reduceLT,Zi,Zj,Zk,Zl,Nat.reduceBEq,WPm,Bool.false_or,faddr_ptr,load_cells ho,Cel.g0,Cel.g1,Cel.g2,Cel.g3,Cel.g4,cell_load ho,hf]
   refine calledW_of (fin _ _ g0 ho rfl rfl) ?_
   rintro v σ4 ⟨rfl,g4⟩
   simp -dsimp only [↓WPd,↓Zm,↓Zn,WPu,Za,Zb,Zc,Zd,Ze,Zf,Zg,Zh,Nat.reduceEqDiff,Nat.reduceLT,Zi,Zj,Zk,Zl,Nat.reduceBEq]
   exact g4
 ·simp -dsimp only [↓WPd,↓Zm,↓Zn,WPu,Za,Zb,Zc,Zd,Ze,Zf,Zg,Zh,Nat.reduceEqDiff,Nat.reduceLT,Zi,Zj,Zk,Zl,Nat.reduceBEq,WPm,Bool.true_or,faddr_ptr,load_cells ho,Cel.g0,Cel.g1,Cel.g2,Cel.g3,Cel.g4,cell_load ho,hf]
  refine calledW_of (fin _ _ g0 ho rfl rfl) ?_
  rintro v σ4 ⟨rfl,g4⟩
  simp -dsimp only [↓WPd,↓Zm,↓Zn,WPu,Za,Zb,Zc,Zd,Ze,Zf,Zg,Zh,Nat.reduceEqDiff,Nat.reduceLT,Zi,Zj,Zk,Zl,Nat.reduceBEq]
  exact g4
end
def ruleF (k : Nat) : FuncId := if k = 1 then 164 else if k = 2 then 166 else if k = 3 then 168 else if k = 4 then 170 else 171
def rulesL : List AVal := [.nilfunc,.func 164 [] [],.func 166 [] [],.func 168 [] [],.func 170 [] []]
section
variable (d : Nat) (σ : Store)
theorem rule_ok (k : Nat) (hk8 : k < 256) : Called CU.cfg d 130 [.int .u8 k] σ fun v σ' => v = .agg [.func (ruleF k) [] []] ∧ Grows σ σ' := by
 refine called_of (fn := CU.a130) rfl (Nat.le_of_ble_eq_true rfl) ?_
 simp only [CU.a130, CU.o]
 have b1 : ∀ f : FuncId,fillA [AVal.nilfunc] [(0,1,.func f [] [])] = some [.func f [] []] := fun f => rfl
 have b2 : ∀ a b c e : FuncId,fillA [AVal.nilfunc,.nilfunc,.nilfunc,.nilfunc,.nilfunc] [(1,1,.agg [.func a [] []]),(2,1,.agg [.func b [] []]),(3,1,.agg [.func c [] []]),(4,1,.agg [.func e [] []])] = some [.nilfunc,.func a [] [],.func b [] [],.func c [] [],.func e [] []] := fun a b c e => rfl
 have h5 : (σ ++ [AObj.cells [AVal.nilfunc]] ++ [AObj.cells [AVal.nilfunc,AVal.nilfunc,AVal.nilfunc,AVal.nilfunc,AVal.nilfunc]])[(σ ++ [AObj.cells [AVal.nilfunc]]).length]? = some (.cells [AVal.nilfunc,AVal.nilfunc,AVal.nilfunc,AVal.nilfunc,AVal.nilfunc]) := by simp
 have s5 := storeN_cells h5 (n := 5) rfl (cs' := rulesL) rfl rfl
 rw [set_last] at s5
 have s5' : storeV (σ ++ [AObj.cells [AVal.nilfunc]] ++ [AObj.cells [AVal.nilfunc,AVal.nilfunc,AVal.nilfunc,AVal.nilfunc,AVal.nilfunc]]) 5 (.ptr (σ ++ [AObj.cells [AVal.nilfunc]]).length 0) (.agg [.nilfunc,.func 164 [] [],.func 166 [] [],.func 168 [] [],.func 170 [] []]) = some (σ ++ [AObj.cells [AVal.nilfunc]] ++ [AObj.cells rulesL]) := s5
 have g0 : Grows σ (σ ++ [AObj.cells [AVal.nilfunc]] ++ [AObj.cells rulesL]) := (Grows.app _ _).trans (Grows.app _ _)
 have h1 : (σ ++ [AObj.cells [AVal.nilfunc]] ++ [AObj.cells rulesL])[σ.length]? = some (.cells [.nilfunc]) := by simp
 have h2 : (σ ++ [AObj.cells [AVal.nilfunc]] ++ [AObj.cells rulesL])[(σ ++ [AObj.cells [AVal.nilfunc]]).length]? = some (.cells rulesL) := by simp
 have cv : convV .i64 (.int .u8 (k : Int)) = some (.int .i64 (k : Int)) := by rw [convV_int,wrap_i64 (by omega) (by omega)]
 simp -dsimp only [↓WPd,↓Zm,↓Zn,WPu,Za,Zb,Zc,Zd,Ze,Zf,Zg,Zh,Nat.reduceEqDiff,Nat.reduceLT,Zi,Zj,Zk,Zl,Nat.reduceBEq,WPm,b1,b2,s5',cv]
 generalize (σ ++ [AObj.cells [AVal.nilfunc]]).length = i5 at *
 generalize σ ++ [AObj.cells [AVal.nilfunc]] ++ [AObj.cells rulesL] = σ1 at *
 have fin : ∀ f : FuncId,ruleF k = f → storeV σ1 1 (.ptr σ.length 0) (.agg [.func f [] []]) = some (σ1.set σ.length (.cells [.func f [] []])) ∧ loadV (σ1.set σ.length (.cells [.func f [] []])) 1 true (.ptr σ.length 0) = some (.agg [.func (ruleF k) [] []]) ∧ Grows σ (σ1.set σ.length (.cells [.func f [] []])) := by
  intro f hf
  refine ⟨storeN_cells h1 (n := 1) rfl rfl rfl,?_,?_⟩
  ·rw [hf]; exact loadN_cells (get_set h1) rfl
  ·exact Keeps.trans g0 (Keeps.set _ _ _) fun i hi e => by omega
 have key : (decide ((k : Int) < 1) || decide ((k : Int) ≥ 5)) = !(decide (1 ≤ k) && decide (k < 5)) := by
  rw [Bool.eq_iff_iff]; simp; omega
 rw [key]
 refine condP_intro (fun h => ?_) (fun h => ?_)
 ·have hk : ruleF k = 171 := by
   simp only [Bool.not_eq_true',Bool.and_eq_false_iff,decide_eq_false_iff_not] at h
   simp only [ruleF]
   rw [if_neg (by omega),if_neg (by omega),if_neg (by omega),if_neg (by omega)]
  obtain ⟨f1,f2,f3⟩ := fin _ hk
  simp -dsimp only [↓WPd,↓Zm,↓Zn,WPu,Za,Zb,Zc,Zd,Ze,Zf,Zg,Zh,Nat.reduceEqDiff,Nat.reduceLT,Zi,Zj,Zk,Zl,Nat.reduceBEq,b1,f1,f2]
  exact f3
 ·simp only [Bool.not_eq_false',Bool.and_eq_true,decide_eq_true_eq] at h
  have ha : aaddrV 5 1 (.ptr i5 0) (.int .u8 k) = some (.ptr i5 k) := by
   have e : (0 : Int) ≤ (k : Int) ∧ (k : Int) < 5 := by omega
   simp [aaddrV,e]
  have hl : loadV σ1 1 true (.ptr i5 k) = some (.agg [.func (ruleF k) [] []]) := by
   have : k = 1 ∨ k = 2 ∨ k = 3 ∨ k = 4 := by omega
   rcases this with rfl | rfl | rfl | rfl <;> simp [loadV,behind,h2,rulesL,ruleF]
  obtain ⟨f1,f2,f3⟩ := fin _ rfl
  simp -dsimp only [↓WPd,↓Zm,↓Zn,WPu,Za,Zb,Zc,Zd,Ze,Zf,Zg,Zh,Nat.reduceEqDiff,Nat.reduceLT,Zi,Zj,Zk,Zl,Nat.reduceBEq,ha,hl,f1,f2]
  exact f3
theorem law_ok (c : Cel) (hs : c.s.length < 2 ^ 40) : Called CU.cfg d (ruleF c.k) [c.val] σ fun v σ' => v = .bool c.ok ∧ Grows σ σ' := by
 have q : ∀ {j : Nat} {f : FuncId},c.k = j → ruleF c.k = f → Called CU.cfg d f [c.val] σ (fun v σ' => v = .bool (decide (c.k = j) && c.ok) ∧ Grows σ σ') → Called CU.cfg d (ruleF c.k) [c.val] σ fun v σ' => v = .bool c.ok ∧ Grows σ σ' := by
  intro j f hj hf h
  rw [hf]
  refine h.mono ?_
  rintro v σ' ⟨rfl,g⟩
  rw [hj,decide_eq_true rfl,Bool.true_and]
  exact ⟨rfl,g⟩
 by_cases h1 : c.k = 1
 ·exact q h1 (by simp [ruleF,h1]) (rule1_ok d σ c)
 by_cases h2 : c.k = 2
 ·exact q h2 (by simp [ruleF,h2]) (rule2_ok d σ c hs)
 by_cases h3 : c.k = 3
 ·exact q h3 (by simp [ruleF,h3]) (rule3_ok d σ c hs)
 by_cases h4 : c.k = 4
 ·exact q h4 (by simp [ruleF,h4]) (rule4_ok d σ c)
 have e1 : ruleF c.k = 171 := by simp [ruleF,h1,h2,h3,h4]
 have e2 : c.ok = false := by simp [Cel.ok,h1,h2,h3,h4]
 rw [e1,e2]
 exact rule5_ok d σ c
theorem wrong_ok (c : Cel) (hk8 : c.k < 256) (hs : c.s.length < 2 ^ 40) : Called CU.cfg d 160 [c.val] σ fun v σ' => v = .bool (!c.ok) ∧ Grows σ σ' := by
 refine called_of (fn := CU.a160) rfl (Nat.le_of_ble_eq_true rfl) ?_
 simp only [CU.a160, CU.o]
 simp -dsimp only [↓WPd,↓Zm,↓Zn,WPu,Za,Zb,Zc,Zd,Ze,Zf,Zg,Zh,Nat.reduceEqDiff,Nat.reduceLT,Zi,Zj,Zk,Zl,Nat.reduceBEq,Cel.cells,Cel.one]
 have ho : (σ ++ [AObj.cells c.cs])[σ.length]? = some (.cells c.cs) := by simp
 have g0 : Grows σ (σ ++ [AObj.cells c.cs]) := Grows.app _ _
 generalize σ ++ [AObj.cells c.cs] = σ1 at ho g0
 refine drawnP_of rfl ?_
 simp -dsimp only [↓WPd,↓Zm,↓Zn,WPu,Za,Zb,Zc,Zd,Ze,Zf,Zg,Zh,Nat.reduceEqDiff,Nat.reduceLT,Zi,Zj,Zk,Zl,Nat.reduceBEq,↓WPed,WPeu,Nat.reduceAdd,and_self,faddr_ptr,load_cells ho,Cel.g0]
 refine calledW_of (rule_ok d σ1 c.k hk8) ?_
 rintro v σ2 ⟨rfl,g1⟩
 have ho2 := g1.get ho
 have fv : ∀ f : FuncId,fieldV 0 1 false (.agg [.func f [] []]) = some (.func f [] []) := fun f => rfl
 simp -dsimp only [↓WPd,↓Zm,↓Zn,WPu,Za,Zb,Zc,Zd,Ze,Zf,Zg,Zh,Nat.reduceEqDiff,Nat.reduceLT,Zi,Zj,Zk,Zl,Nat.reduceBEq,↓WPed,WPeu,Nat.reduceAdd,and_self,fv,cell_load ho,cell_load ho2]
 refine calledW_of (law_ok d σ2 c hs) ?_
 rintro v σ3 ⟨rfl,g3⟩
 simp -dsimp only [↓WPd,↓Zm,↓Zn,WPu,Za,Zb,Zc,Zd,Ze,Zf,Zg,Zh,Nat.reduceEqDiff,Nat.reduceLT,Zi,Zj,Zk,Zl,Nat.reduceBEq,↓WPed,WPeu,Nat.reduceAdd,and_self]
 exact (g0.trans g1).trans g3
theorem cel_get (t : List Cel) (i : Nat) (h : i < (t.map Cel.val).length) : (t.map Cel.val)[i] = (t[i]'(by simpa using h)).val := by simp
theorem cindex_ok (f : FuncId) (p : Cel → Bool) (l : AVal) (t : List Cel) (hx : t.length < 2 ^ 40) (hl : SlOf σ 5 l (t.map Cel.val)) (hf : ∀ (c : Cel) (σ' : Store),c ∈ t → Called CU.cfg d f [c.val] σ' fun v σ'' => v = .bool (p c) ∧ Grows σ' σ'') :
  Called CU.cfg d 161 [l,.func f [] []] σ fun v σ' => (∃ i : Int,v = .int .i64 i ∧ (decide (0 ≤ i)) = t.any p) ∧ Grows σ σ' := by
 refine called_of (fn := CU.a161) rfl (Nat.le_of_ble_eq_true rfl) ?_
 have ll := hl.len
 rw [List.length_map] at ll
 simp only [CU.a161, CU.o]
 simp -dsimp only [↓WPd,↓Zm,↓Zn,WPu,Za,Zb,Zc,Zd,Ze,Zf,Zg,Zh,Nat.reduceEqDiff,Nat.reduceLT,Zi,Zj,Zk,Zl,Nat.reduceBEq,ll]
 refine loop_rule2 (fun m vs σ' => ∃ k,k ≤ t.length ∧ m = t.length - k ∧ vs = [l,.func f [] [],.int .i64 t.length,.int .i64 k] ∧ Grows σ σ' ∧ ∀ (j : Nat) (hj : j < t.length),j < k → p t[j] = false) [4]
  (fun e vs σ' => Grows σ σ' ∧ ((e = .exit 0 ∧ t.any p = false) ∨ (e = .ret ∧ t.any p = true ∧ ∃ k : Nat,vs = [.int .i64 k]))) t.length ⟨0,Nat.zero_le _,rfl,?_,Keeps.refl _ _,fun j _ h => by omega⟩ ?_ ?_
 ·simp -dsimp only [↓WPd,↓Zm,↓Zn,WPu,Za,Zb,Zc,Zd,Ze,Zf,Zg,Zh,Nat.reduceEqDiff,Nat.reduceLT,Zi,Zj,Zk,Zl,Nat.reduceBEq]; rfl
 ·rintro m vs σ' ⟨k,hk,rfl,rfl,g,hall⟩
  simp -dsimp only [↓WPd,↓Zm,↓Zn,WPu,Za,Zb,Zc,Zd,Ze,Zf,Zg,Zh,Nat.reduceEqDiff,Nat.reduceLT,Zi,Zj,Zk,Zl,Nat.reduceBEq]
  refine condP_dec (fun h => ?_) (fun h => ?_)
  ·have hk' : k < t.length := by omega
   have hi : k < (t.map Cel.val).length := by rw [List.length_map]; exact hk'
   have hl' := hl.grow g
   have ha := hl'.loadA hi (cs := (t[k]).cs) (by rw [cel_get]; rfl)
   have ha5 : loadV σ' 5 true (addrOf 5 l k) = some (t[k]).val := ha
   simp -dsimp only [↓WPd,↓Zm,↓Zn,WPu,Za,Zb,Zc,Zd,Ze,Zf,Zg,Zh,Nat.reduceEqDiff,Nat.reduceLT,Zi,Zj,Zk,Zl,Nat.reduceBEq,hl'.iaddr hi,ha5]
   refine calledW_of (hf t[k] σ' (List.getElem_mem _)) ?_
   rintro v σ'' ⟨rfl,g2⟩
   simp -dsimp only [↓WPd,↓Zm,↓Zn,WPu,Za,Zb,Zc,Zd,Ze,Zf,Zg,Zh,Nat.reduceEqDiff,Nat.reduceLT,Zi,Zj,Zk,Zl,Nat.reduceBEq]
   refine condP_intro (fun h => ?_) (fun h => ?_)
   ·simp -dsimp only [↓WPd,↓Zm,↓Zn,WPu,Za,Zb,Zc,Zd,Ze,Zf,Zg,Zh,Nat.reduceEqDiff,Nat.reduceLT,Zi,Zj,Zk,Zl,Nat.reduceBEq]
    exact ⟨g.trans g2,.inr ⟨by rw [List.any_eq_true]; exact ⟨_,List.getElem_mem _,h⟩,k,rfl⟩⟩
   ·simp -dsimp only [↓WPd,↓Zm,↓Zn,WPu,Za,Zb,Zc,Zd,Ze,Zf,Zg,Zh,Nat.reduceEqDiff,Nat.reduceLT,Zi,Zj,Zk,Zl,Nat.reduceBEq]
    refine ⟨t.length - (k + 1),by omega,k + 1,by omega,rfl,by rw [wrap_i64 (by omega) (by omega),Int.natCast_add,Int.natCast_one],g.trans g2,fun j hj hjk => ?_⟩
    by_cases e : j = k
    ·subst e; exact h
    ·exact hall j hj (by omega)
  ·simp -dsimp only [↓WPd,↓Zm,↓Zn,WPu,Za,Zb,Zc,Zd,Ze,Zf,Zg,Zh,Nat.reduceEqDiff,Nat.reduceLT,Zi,Zj,Zk,Zl,Nat.reduceBEq]
   refine ⟨g,.inl ?_⟩
   rw [List.any_eq_false]
   intro x hx
   obtain ⟨j,hj,rfl⟩ := List.getElem_of_mem hx
   rw [hall j hj (by omega)]; simp
 ·rintro e σ' env ⟨g,⟨rfl,hno⟩ | ⟨rfl,hyes,k,hv⟩⟩
  ·simp -dsimp only [↓WPd,↓Zm,↓Zn,WPu,Za,Zb,Zc,Zd,Ze,Zf,Zg,Zh,Nat.reduceEqDiff,Nat.reduceLT,Zi,Zj,Zk,Zl,Nat.reduceBEq]
   exact ⟨⟨_,rfl,by rw [hno]; rfl⟩,g⟩
  ·simp only [List.map_cons,List.map_nil,List.cons.injEq,and_true] at hv
   simp -dsimp only [↓WPd,↓Zm,↓Zn,WPu,Za,Zb,Zc,Zd,Ze,Zf,Zg,Zh,Nat.reduceEqDiff,Nat.reduceLT,Zi,Zj,Zk,Zl,Nat.reduceBEq,hv]
   exact ⟨⟨_,rfl,by rw [hyes]; simp⟩,g⟩
theorem ccontains_ok (f : FuncId) (p : Cel → Bool) (l : AVal) (t : List Cel) (hx : t.length < 2 ^ 40) (hl : SlOf σ 5 l (t.map Cel.val)) (hf : ∀ (c : Cel) (σ' : Store),c ∈ t → Called CU.cfg d f [c.val] σ' fun v σ'' => v = .bool (p c) ∧ Grows σ' σ'') :
  Called CU.cfg d 126 [l,.func f [] []] σ fun v σ' => v = .bool (t.any p) ∧ Grows σ σ' := by
 refine called_of (fn := CU.a126) rfl (Nat.le_of_ble_eq_true rfl) ?_
 simp only [CU.a126, CU.o]
 simp -dsimp only [↓WPd,↓Zm,↓Zn,WPu,Za,Zb,Zc,Zd,Ze,Zf,Zg,Zh,Nat.reduceEqDiff,Nat.reduceLT,Zi,Zj,Zk,Zl,Nat.reduceBEq]
 refine calledW_of (cindex_ok d σ f p l t hx hl hf) ?_
 rintro v σ1 ⟨⟨i,rfl,hi⟩,g⟩
 simp -dsimp only [↓WPd,↓Zm,↓Zn,WPu,Za,Zb,Zc,Zd,Ze,Zf,Zg,Zh,Nat.reduceEqDiff,Nat.reduceLT,Zi,Zj,Zk,Zl,Nat.reduceBEq]
 have : decide (i ≥ 0) = t.any p := hi
 rw [this]
 exact ⟨rfl,g⟩
end
def endT (t : List Cel) (a : Nat) : Nat := if a < t.length then endAt t.length (t.drop a) 1 a else 0
theorem endAt_get {L : Nat} {t : List Cel} {a o : Nat} (h : a < t.length) : endAt L (t.drop a) (o + 1) a = if L < (t[a]).parts then 0 else endAt L (t.drop (a + 1)) (o + (t[a]).parts) (a + 1) := by
 rw [List.drop_eq_getElem_cons h,endAt_cons]
theorem endAt_out {L : Nat} {t : List Cel} {a o : Nat} (h : t.length ≤ a) : endAt L (t.drop a) (o + 1) a = 0 := by
 rw [List.drop_eq_nil_of_le h,endAt_nil]
section
variable (d : Nat) (σ : Store)
theorem parts_ok (c : Cel) : Called CU.cfg d 163 [c.val] σ fun v σ' => v = .int .i64 (c.parts : Int) ∧ Grows σ σ' := by
 refine called_of (fn := CU.a163) rfl (Nat.le_of_ble_eq_true rfl) ?_
 simp only [CU.a163, CU.o]
 simp -dsimp only [↓WPd,↓Zm,↓Zn,WPu,Za,Zb,Zc,Zd,Ze,Zf,Zg,Zh,Nat.reduceEqDiff,Nat.reduceLT,Zi,Zj,Zk,Zl,Nat.reduceBEq,Cel.cells,Cel.one]
 have ho : (σ ++ [AObj.cells c.cs])[σ.length]? = some (.cells c.cs) := by simp
 have g0 : Grows σ (σ ++ [AObj.cells c.cs]) := Grows.app _ _
 generalize σ ++ [AObj.cells c.cs] = σ1 at ho g0
 have hm : foldV maxV (.int .i64 c.n) [.int .i64 0] = some (.int .i64 (c.n.toNat : Int)) := by
  by_cases h : c.n < 0
  ·simp [foldV,maxV]; omega
  ·simp [foldV,maxV]; omega
 have key : ((c.k : Int) != 3) = !decide (c.k = 3) := by
  by_cases h : c.k = 3 <;> simp [h,bne] <;> omega
 simp -dsimp only [↓WPd,↓Zm,↓Zn,WPu,Za,Zb,Zc,Zd,Ze,Zf,Zg,Zh,Nat.reduceEqDiff,Nat.reduceLT,Zi,Zj,Zk,Zl,Nat.reduceBEq,WPm,faddr_ptr,load_cells ho,Cel.g0,Cel.g2,key]
 refine condP_intro (fun h => ?_) (fun h => ?_)
 ·have : c.parts = 0 := by simp only [Bool.not_eq_true',decide_eq_false_iff_not] at h; simp [Cel.parts,h]
  simp -dsimp only [↓WPd,↓Zm,↓Zn,WPu,Za,Zb,Zc,Zd,Ze,Zf,Zg,Zh,Nat.reduceEqDiff,Nat.reduceLT,Zi,Zj,Zk,Zl,Nat.reduceBEq,this]
  exact ⟨rfl,g0⟩
 ·have : c.parts = c.n.toNat := by simp only [Bool.not_eq_false',decide_eq_true_eq] at h; simp [Cel.parts,h]
  simp -dsimp only [↓WPd,↓Zm,↓Zn,WPu,Za,Zb,Zc,Zd,Ze,Zf,Zg,Zh,Nat.reduceEqDiff,Nat.reduceLT,Zi,Zj,Zk,Zl,Nat.reduceBEq,faddr_ptr,load_cells ho,Cel.g0,Cel.g2,this,hm]
  exact g0
theorem end_ok (l : AVal) (t : List Cel) (a : Nat) (hx : t.length < 2 ^ 30) (hl : SlOf σ 5 l (t.map Cel.val)) : Called CU.cfg d 129 [l,.int .i64 a] σ fun v σ' => v = .int .i64 (endT t a : Int) ∧ Grows σ σ' := by
 refine called_of (fn := CU.a129) rfl (Nat.le_of_ble_eq_true rfl) ?_
 have ll := hl.len
 rw [List.length_map] at ll
 simp only [CU.a129, CU.o]
 have w0 : lenSV l = some t.length := ll
 simp -dsimp only [↓WPd,↓Zm,↓Zn,WPu,Za,Zb,Zc,Zd,Ze,Zf,Zg,Zh,Nat.reduceEqDiff,Nat.reduceLT,Zi,Zj,Zk,Zl,Nat.reduceBEq,WPm,ll]
 have key : (decide ((a : Int) < 0) || decide ((a : Int) ≥ (t.length : Int))) = !decide (a < t.length) := by
  rw [Bool.eq_iff_iff]; simp; omega
 rw [key]
 refine condP_intro (fun h => ?_) (fun h => ?_)
 ·have : endT t a = 0 := by simp only [Bool.not_eq_true',decide_eq_false_iff_not] at h; simp [endT,h]
  simp -dsimp only [↓WPd,↓Zm,↓Zn,WPu,Za,Zb,Zc,Zd,Ze,Zf,Zg,Zh,Nat.reduceEqDiff,Nat.reduceLT,Zi,Zj,Zk,Zl,Nat.reduceBEq,this]
  exact ⟨rfl,Keeps.refl _ _⟩
 ·simp only [Bool.not_eq_false',decide_eq_true_eq] at h
  have hend : endT t a = endAt t.length (t.drop a) 1 a := by simp [endT,h]
  simp -dsimp only [↓WPd,↓Zm,↓Zn,WPu,Za,Zb,Zc,Zd,Ze,Zf,Zg,Zh,Nat.reduceEqDiff,Nat.reduceLT,Zi,Zj,Zk,Zl,Nat.reduceBEq]
  refine loop_rule2 (fun m vs σ' => ∃ k o : Nat,k ≤ t.length ∧ m = t.length + 1 - k ∧ vs = [l,.int .i64 k,.int .i64 o] ∧ Grows σ σ' ∧ endAt t.length (t.drop k) o k = endT t a ∧ o ≤ 1 + k * t.length ∧ 0 < k + o) [1,4]
   (fun e vs σ' => Grows σ σ' ∧ ((e = .exit 0 ∧ ∃ x,vs = [.int .i64 (endT t a : Int),x]) ∨ (e = .ret ∧ (∃ x,vs = [x,.int .i64 (endT t a : Int)])))) (t.length + 1 - a) ⟨a,1,by omega,rfl,?_,Keeps.refl _ _,hend.symm,by omega,by omega⟩ ?_ ?_
  ·simp -dsimp only [↓WPd,↓Zm,↓Zn,WPu,Za,Zb,Zc,Zd,Ze,Zf,Zg,Zh,Nat.reduceEqDiff,Nat.reduceLT,Zi,Zj,Zk,Zl,Nat.reduceBEq]; rfl
  ·rintro m vs σ' ⟨k,o,hk,rfl,rfl,g,he,ho,hko⟩
   have hmul : k * t.length ≤ 2 ^ 60 := by
    calc k * t.length ≤ 2 ^ 30 * 2 ^ 30 := Nat.mul_le_mul (by omega) (by omega)
     _ = 2 ^ 60 := by decide
   simp -dsimp only [↓WPd,↓Zm,↓Zn,WPu,Za,Zb,Zc,Zd,Ze,Zf,Zg,Zh,Nat.reduceEqDiff,Nat.reduceLT,Zi,Zj,Zk,Zl,Nat.reduceBEq]
   refine condP_dec (fun h => ?_) (fun h => ?_)
   ·obtain ⟨o,rfl⟩ : ∃ o',o = o' + 1 := ⟨o - 1,by omega⟩
    have ke : ((k : Int) == (t.length : Int)) = decide (k = t.length) := by
     by_cases h : k = t.length <;> simp [h] <;> omega
    have ll' := (hl.grow g).len
    rw [List.length_map] at ll'
    simp -dsimp only [↓WPd,↓Zm,↓Zn,WPu,Za,Zb,Zc,Zd,Ze,Zf,Zg,Zh,Nat.reduceEqDiff,Nat.reduceLT,Zi,Zj,Zk,Zl,Nat.reduceBEq,ll',ke]
    by_cases hkl : k = t.length
    ·have hz : endT t a = 0 := by rw [← he,endAt_out (by omega)]
     simp -dsimp only [↓WPd,↓Zm,↓Zn,WPu,Za,Zb,Zc,Zd,Ze,Zf,Zg,Zh,Nat.reduceEqDiff,Nat.reduceLT,Zi,Zj,Zk,Zl,Nat.reduceBEq,WPm,decide_eq_true hkl]
     exact ⟨g,.inr ⟨_,by rw [hz]; rfl⟩⟩
    ·have hk' : k < t.length := by omega
     have hi : k < (t.map Cel.val).length := by rw [List.length_map]; exact hk'
     have hl' := hl.grow g
     have ha5 : loadV σ' 5 true (addrOf 5 l k) = some (t[k]).val := hl'.loadA hi (cs := (t[k]).cs) (by rw [cel_get]; rfl)
     simp -dsimp only [↓WPd,↓Zm,↓Zn,WPu,Za,Zb,Zc,Zd,Ze,Zf,Zg,Zh,Nat.reduceEqDiff,Nat.reduceLT,Zi,Zj,Zk,Zl,Nat.reduceBEq,decide_eq_false hkl,hl'.iaddr hi,ha5]
     refine calledW_of (parts_ok d σ' t[k]) ?_
     rintro v σ2 ⟨rfl,g2⟩
     have ll2 := (hl'.grow g2).len
     rw [List.length_map] at ll2
     have hl2 := hl'.grow g2
     have ha2 : loadV σ2 5 true (addrOf 5 l k) = some (t[k]).val := hl2.loadA hi (cs := (t[k]).cs) (by rw [cel_get]; rfl)
     simp -dsimp only [↓WPd,↓Zm,↓Zn,WPu,Za,Zb,Zc,Zd,Ze,Zf,Zg,Zh,Nat.reduceEqDiff,Nat.reduceLT,Zi,Zj,Zk,Zl,Nat.reduceBEq,ll2]
     rw [endAt_get hk'] at he
     refine condP_dec (fun h2 => ?_) (fun h2 => ?_)
     ·rw [if_pos (by omega)] at he
      simp -dsimp only [↓WPd,↓Zm,↓Zn,WPu,Za,Zb,Zc,Zd,Ze,Zf,Zg,Zh,Nat.reduceEqDiff,Nat.reduceLT,Zi,Zj,Zk,Zl,Nat.reduceBEq]
      exact ⟨g.trans g2,.inr ⟨_,by rw [← he]; rfl⟩⟩
     ·rw [if_neg (by omega)] at he
      simp -dsimp only [↓WPd,↓Zm,↓Zn,WPu,Za,Zb,Zc,Zd,Ze,Zf,Zg,Zh,Nat.reduceEqDiff,Nat.reduceLT,Zi,Zj,Zk,Zl,Nat.reduceBEq,hl2.iaddr hi,ha2]
      refine calledW_of (parts_ok d σ2 t[k]) ?_
      rintro v σ3 ⟨rfl,g3⟩
      have hp : (t[k]).parts ≤ t.length := by omega
      have hm2 : (k + 1) * t.length = k * t.length + t.length := by rw [Nat.add_mul,Nat.one_mul]
      have w1 : IntKind.i64.wrap (((t[k]).parts : Int) - 1) = ((t[k]).parts : Int) - 1 := wrap_i64 (by omega) (by omega)
      have w2 : IntKind.i64.wrap (((o + 1 : Nat) : Int) + (((t[k]).parts : Int) - 1)) = ((o + (t[k]).parts : Nat) : Int) := by rw [wrap_i64 (by omega) (by omega)]; omega
      have w3 : IntKind.i64.wrap ((k : Int) + 1) = ((k + 1 : Nat) : Int) := by rw [wrap_i64 (by omega) (by omega)]; omega
      simp -dsimp only [↓WPd,↓Zm,↓Zn,WPu,Za,Zb,Zc,Zd,Ze,Zf,Zg,Zh,Nat.reduceEqDiff,Nat.reduceLT,Zi,Zj,Zk,Zl,Nat.reduceBEq,w1,w2,w3]
      exact ⟨t.length + 1 - (k + 1),by omega,k + 1,o + (t[k]).parts,by omega,rfl,rfl,(g.trans g2).trans g3,he,by omega,by omega⟩
   ·have : o = 0 := by omega
    subst this
    rw [endAt_zero] at he
    simp -dsimp only [↓WPd,↓Zm,↓Zn,WPu,Za,Zb,Zc,Zd,Ze,Zf,Zg,Zh,Nat.reduceEqDiff,Nat.reduceLT,Zi,Zj,Zk,Zl,Nat.reduceBEq]
    exact ⟨g,.inl ⟨_,by rw [← he]⟩⟩
  ·rintro e σ' env ⟨g,⟨rfl,x,hv⟩ | ⟨rfl,x,hv⟩⟩
   ·simp only [List.map_cons,List.map_nil,List.cons.injEq,and_true] at hv
    simp -dsimp only [↓WPd,↓Zm,↓Zn,WPu,Za,Zb,Zc,Zd,Ze,Zf,Zg,Zh,Nat.reduceEqDiff,Nat.reduceLT,Zi,Zj,Zk,Zl,Nat.reduceBEq,hv]
    exact g
   ·simp only [List.map_cons,List.map_nil,List.cons.injEq,and_true] at hv
    simp -dsimp only [↓WPd,↓Zm,↓Zn,WPu,Za,Zb,Zc,Zd,Ze,Zf,Zg,Zh,Nat.reduceEqDiff,Nat.reduceLT,Zi,Zj,Zk,Zl,Nat.reduceBEq,hv]
    exact g
theorem endT_zero {t : List Cel} (h : t ≠ []) : endT t 0 = endAt t.length t 1 0 := by
 have := List.length_pos_iff.2 h
 simp [endT,this]
theorem right_eq (t : List Cel) : right t = (!(decide (t.length = 0) || decide (256 < t.length) || decide (endT t 0 ≠ t.length)) && !(t.any fun c => !c.ok)) := by
 cases t with
 | nil => rfl
 | cons c r =>
  rw [endT_zero (by simp),Bool.eq_iff_iff]
  simp [right]
  first
   | done
   | (intros; omega)
   | (constructor <;> intro h <;> simp_all <;> omega)
theorem right_ok (l : AVal) (t : List Cel) (hx : t.length < 2 ^ 30) (hi : ∀ c ∈ t,c.k < 256 ∧ c.s.length < 2 ^ 40) (hl : SlOf σ 5 l (t.map Cel.val)) : Called CU.cfg d 125 [l] σ fun v σ' => v = .bool (right t) ∧ Grows σ σ' := by
 refine called_of (fn := CU.a125) rfl (Nat.le_of_ble_eq_true rfl) ?_
 have ll := hl.len
 rw [List.length_map] at ll
 simp only [CU.a125, CU.o]
 have k0 : ((t.length : Int) == 0) = decide (t.length = 0) := by by_cases h : t.length = 0 <;> simp [h]
 have k1 : decide ((t.length : Int) > 256) = decide (256 < t.length) := decide_eq_decide.2 (by omega)
 simp -dsimp only [↓WPd,↓Zm,↓Zn,WPu,Za,Zb,Zc,Zd,Ze,Zf,Zg,Zh,Nat.reduceEqDiff,Nat.reduceLT,Zi,Zj,Zk,Zl,Nat.reduceBEq,WPm,ll,k0,k1]
 rw [right_eq]
 generalize hb : (decide (t.length = 0) || decide (256 < t.length)) = b
 cases b
 ·simp -dsimp only [↓WPd,↓Zm,↓Zn,WPu,Za,Zb,Zc,Zd,Ze,Zf,Zg,Zh,Nat.reduceEqDiff,Nat.reduceLT,Zi,Zj,Zk,Zl,Nat.reduceBEq,WPm]
  refine calledW_of (end_ok d σ l t 0 hx hl) ?_
  rintro v σ1 ⟨rfl,g⟩
  have hl1 := hl.grow g
  have ll1 := hl1.len
  rw [List.length_map] at ll1
  have k2 : (((endT t 0 : Nat) : Int) != (t.length : Int)) = decide (endT t 0 ≠ t.length) := by by_cases h : endT t 0 = t.length <;> simp [h,bne] <;> omega
  simp -dsimp only [↓WPd,↓Zm,↓Zn,WPu,Za,Zb,Zc,Zd,Ze,Zf,Zg,Zh,Nat.reduceEqDiff,Nat.reduceLT,Zi,Zj,Zk,Zl,Nat.reduceBEq,WPm,ll1,k2]
  generalize hq : decide (endT t 0 ≠ t.length) = q
  cases q
  ·simp -dsimp only [↓WPd,↓Zm,↓Zn,WPu,Za,Zb,Zc,Zd,Ze,Zf,Zg,Zh,Nat.reduceEqDiff,Nat.reduceLT,Zi,Zj,Zk,Zl,Nat.reduceBEq,WPm]
   refine calledW_of (ccontains_ok d σ1 _ (fun c => !c.ok) l t (by omega) hl1 fun c σ' hc => wrong_ok d σ' c (hi c hc).1 (hi c hc).2) ?_
   rintro v σ2 ⟨rfl,g2⟩
   simp -dsimp only [↓WPd,↓Zm,↓Zn,WPu,Za,Zb,Zc,Zd,Ze,Zf,Zg,Zh,Nat.reduceEqDiff,Nat.reduceLT,Zi,Zj,Zk,Zl,Nat.reduceBEq,WPm,Bool.or_false,Bool.true_and]
   exact g.trans g2
  ·simp -dsimp only [↓WPd,↓Zm,↓Zn,WPu,Za,Zb,Zc,Zd,Ze,Zf,Zg,Zh,Nat.reduceEqDiff,Nat.reduceLT,Zi,Zj,Zk,Zl,Nat.reduceBEq,WPm,Bool.or_true,Bool.false_and]
   exact g
 ·simp -dsimp only [↓WPd,↓Zm,↓Zn,WPu,Za,Zb,Zc,Zd,Ze,Zf,Zg,Zh,Nat.reduceEqDiff,Nat.reduceLT,Zi,Zj,Zk,Zl,Nat.reduceBEq,WPm,Bool.true_or,Bool.false_and]
  exact Keeps.refl _ _
end
end Go.Proofs.YtelpjaejmneplaaGreatDoor.Am
