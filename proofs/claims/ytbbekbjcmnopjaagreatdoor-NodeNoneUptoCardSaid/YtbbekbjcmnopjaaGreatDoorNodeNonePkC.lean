/-
  The abstract machine and the functions of the law, 3: texts put together.
-/
import Derived.Test.YtbbekbjcmnopjaaGreatDoorNodeNonePkB
import Derived.Test.YtbbekbjcmnopjaaGreatDoorRows
import Derived.Test.YtbbekbjcmnopjaaGreatDoorNodeNonePkA
set_option linter.unusedVariables false
set_option linter.unusedSimpArgs false
set_option linter.unusedSectionVars false
set_option maxRecDepth 100000
namespace Go.Proofs.YtbbekbjcmnopjaaGreatDoor.Am
open Go Go.RowKit Go.ChangeShapes Go.WideShapes Go.ChangeAt Go.Proofs.YtbbekbjcmnopjaaGreatDoor.Rows
def argV {H : Type} (P : Program) (n : Nat) (t : TypeId) (d : DataW H) : AVal := elv P t (dec P n t d)
section
variable {P : Program} {cf : FuncId → FuncId} {W : World} {H : Type} {enc : TypeId × Value → H} {base : Nat}
theorem arg_read {n : Nat} {t : TypeId} {v : Value} {d : DataW H} {ps : List MemPlace} (hr : rdT P n t = true) (hval : Value.okWide P W .any base t v) (h : DataW.Trod enc P W 0 (fun _ => true) true t v d ps) :
  (startK W).V startE cf (argV P n t d) v ∧ Typed P n t d := by
 obtain ⟨fuel,hf⟩ := h
 obtain ⟨g,gt⟩ := read_dec (cf := cf) n hr hf
 refine ⟨?_,gt⟩
 have up : ∀ {a : AVal} {c : Value},VRel cf W.heap ((startK W).safe startE) noIds a c → (startK W).V startE cf a c := fun h => VRel.mono (fun _ _ h => ⟨h,rfl⟩) (noIds_le _) h
 unfold argV elv
 cases ha : aggB P t with
 | true =>
  have hag : ∃ cs,v = .agg cs := by
   unfold Value.okWide at hval
   unfold aggB at ha
   split at hval
   ·obtain ⟨cs,h,_⟩ := hval; exact ⟨cs,h⟩
   ·obtain ⟨cs,h,_⟩ := hval; exact ⟨cs,h⟩
   ·rename_i h1 h2
    split at ha
    ·rename_i fs hfs; exact absurd hfs (h1 fs)
    ·rename_i m e hm; exact absurd hm (h2 m e)
    ·cases ha
  obtain ⟨cs,rfl⟩ := hag
  simp only [if_true]
  have := VRel.agg (cf := cf) (h := W.heap) (S := (startK W).safe startE) noIds _ _ g.rel g.one
  rw [Array.toArray_toList] at this
  exact up this
 | false =>
  simp only [Bool.false_eq_true,if_false]
  have hl : (dec P n t d).length = 1 := by rw [g.len,rdT_len hr ha]
  have hc : v.cells.toList = [v] := by
   have hcell : Cell.okWide P W .any base t v := by
    unfold Value.okWide at hval
    unfold aggB at ha
    split at hval
    ·rename_i fs hfs; rw [hfs] at ha; cases ha
    ·rename_i m e hm; rw [hm] at ha; cases ha
    ·exact hval
   cases n with
   | zero => simp [rdT] at hr
   | succ n =>
    cases v with
    | agg cs =>
     exfalso
     unfold rdT at hr
     unfold Cell.okWide Cell.ok at hcell
     unfold aggB at ha
     split at hr
     ·rename_i k hu; simp only [hu] at hcell
     ·rename_i hu; simp only [hu] at hcell
     ·rename_i hu; simp only [hu] at hcell
     ·rename_i e hu; simp only [hu] at hcell
     ·rename_i fs hu; simp only [hu] at ha; cases ha
     ·rename_i m e hu; simp only [hu] at ha; cases ha
     ·cases hr
    | _ => rfl
  have gr := g.rel
  rw [hc] at gr
  match hd : dec P n t d,hl with
  | [x],_ =>
   rw [hd] at gr
   cases gr with
   | cons _ _ _ _ _ hx _ => exact up hx
end
end Go.Proofs.YtbbekbjcmnopjaaGreatDoor.Am
namespace Go.Proofs.YtbbekbjcmnopjaaGreatDoor.Am
open Go
structure Cel where
 k : Nat
 s : List UInt8
 n : Int
 v : Int × Int
 deriving DecidableEq,Inhabited
def Cel.cs (c : Cel) : List AVal := [.int .u8 c.k,.str c.s,.int .i64 c.n,.int .i64 c.v.1,.int .i64 c.v.2]
def Cel.val (c : Cel) : AVal := .agg c.cs
abbrev CC (l : List Cel) : List AVal := l.map Cel.val
abbrev Nm := Int × Int
def nmV (v : Nm) : AVal := .agg [.int .i64 v.1,.int .i64 v.2]
def Cel.parts (c : Cel) : Nat := if c.k = 3 then c.n.toNat else 0
def endAt (L : Nat) : List Cel → Nat → Nat → Nat
 | _,0,at_ => at_
 | [],_ + 1,_ => 0
 | c :: r,o + 1,at_ => if L < c.parts then 0 else endAt L r (o + c.parts) (at_ + 1)
def smallC (c : UInt8) : Bool := decide (97 ≤ c.toNat) && decide (c.toNat ≤ 122)
def wordC (c : UInt8) : Bool := smallC c || (decide (65 ≤ c.toNat) && decide (c.toNat ≤ 90)) || (decide (48 ≤ c.toNat) && decide (c.toNat ≤ 57)) || decide (c.toNat = 95)
def isName : List UInt8 → Bool
 | [] => false
 | c :: r => decide (r.length < 16) && smallC c && r.all wordC
def signsL : List (List UInt8) := [[61],[58,61],[64],[43],[45],[42],[60],[61,60],[62],[62,61],[61,58,61],[61,92,61]]
def Cel.ok (c : Cel) : Bool :=
 if c.k = 1 then decide (c.s = []) && decide (c.v = (0,0)) && decide (-2147483648 ≤ c.n) && decide (c.n ≤ 2147483648)
 else if c.k = 2 then isName c.s && decide (c.v = (0,0)) && decide (c.n = 0)
 else if c.k = 3 then decide (c.v = (0,0)) && ((isName c.s && decide (1 ≤ c.n) && decide (c.n ≤ 8)) || (signsL.contains c.s && decide (c.n = 2)))
 else if c.k = 4 then decide (c.s = []) && decide (c.n = 0) && decide (-1 ≤ c.v.1) && decide (c.v.1 ≤ 3) && decide (0 ≤ c.v.2)
 else false
def right (t : List Cel) : Bool := decide (1 ≤ t.length) && decide (t.length ≤ 256) && decide (endAt t.length t 1 0 = t.length) && t.all Cel.ok
def argsFrom (L : Nat) : Nat → List Cel → Nat → List (List Cel)
 | 0,_,_ => []
 | f + 1,r,a => if r = [] then [] else r.take (endAt L r 1 a - a) :: argsFrom L f (r.drop (endAt L r 1 a - a)) (endAt L r 1 a)
def args (t : List Cel) : List (List Cel) := if right t && decide ((t.headD default).k = 3) then argsFrom t.length t.length (t.drop 1) 1 else []
end Go.Proofs.YtbbekbjcmnopjaaGreatDoor.Am
namespace Go.Proofs.YtbbekbjcmnopjaaGreatDoor.Am
open Go Go.RowKit Go.ChangeShapes Go.WideShapes Go.ChangeAt Go.Proofs.YtbbekbjcmnopjaaGreatDoor.Rows
section
variable {P : Program} {cf : FuncId → FuncId} {W : World} {H : Type} {enc : TypeId × Value → H} {base : Nat}
end
end Go.Proofs.YtbbekbjcmnopjaaGreatDoor.Am
namespace Go.Proofs.YtbbekbjcmnopjaaGreatDoor.Am
open Go
section
variable {cfg : Cfg} {d : Nat}
def wpD (cfg : Cfg) (d : Nat) (ops : List AOper) (pairs : List (Nat × Nat)) : List AOper → List FS → List AVal → Store → PostF → Prop
 | [],hist,fr,σ,Q => (∀ p ∈ pairs,steady cfg noCall d ops (hist ++ [(fr,σ)]) p = true) ∧ Q fr σ
 | o :: os,hist,fr,σ,Q => wpOs cfg d [o] fr σ (fun fr' σ' => wpD cfg d ops pairs os (hist ++ [(fr,σ)]) fr' σ' Q)
end
attribute [irreducible] wpD
end Go.Proofs.YtbbekbjcmnopjaaGreatDoor.Am
namespace Go.Proofs.YtbbekbjcmnopjaaGreatDoor.Am
open Go
def heldP (C : Prop) (fr : List AVal) (σ : Store) (K : List AVal → Store → Prop) (w : Wit K) : Prop := C ∧ K fr σ
def hupd (h : Nat → Store) (k : Nat) (σ : Store) : Nat → Store := fun t => if t = k then σ else h t
def ksOf : List (Nat × Nat) → Nat → List Nat
 | [],_ => []
 | (a,k) :: ps,i => if a = i then (if k < i then k :: ksOf ps i else ksOf ps i) else ksOf ps i
def addP (P : Store → Prop) : List (Nat × Nat) → Nat → List (Nat × (Store → Prop)) → List (Nat × (Store → Prop))
 | [],_,pe => pe
 | (a,k) :: ps,i,pe => if a = i then (if i < k then (k,P) :: addP P ps i pe else addP P ps i pe) else addP P ps i pe
def dueP (i : Nat) (σ : Store) : List (Nat × (Store → Prop)) → Prop
 | [] => True
 | (k,P) :: r => (if k = i then P σ else True) ∧ dueP i σ r
def guardS (g : Option Bool) (P : Prop) : Prop := match g with
 | some true => P
 | _ => True
section
variable {cfg : Cfg} {d : Nat}
def sameP (cfg : Cfg) (d : Nat) (o : AOper) (fr : List AVal) (σ τ : Store) : Prop := guardS (wantedA fr o.guard) (match o.op with
 | .load n agg a => loadV τ n agg (ev cfg fr a) = loadV σ n agg (ev cfg fr a)
 | op => ∃ v σ1 σ2,opStep cfg noCall d fr σ op = some (v,σ1) ∧ opStep cfg noCall d fr τ op = some (v,σ2))
def sameAll (cfg : Cfg) (d : Nat) (o : AOper) (fr : List AVal) (σ : Store) (H : Nat → Store) : List Nat → Prop
 | [] => True
 | k :: ks => sameP cfg d o fr σ (H k) ∧ sameAll cfg d o fr σ H ks
def wpE (cfg : Cfg) (d : Nat) (pairs : List (Nat × Nat)) : Nat → List AOper → (Nat → Store) → List (Nat × (Store → Prop)) → List AVal → Store → PostF → Prop
 | _,[],_,_,fr,σ,Q => Q fr σ
 | i,o :: os,H,pe,fr,σ,Q => heldP (sameAll cfg d o fr σ H (ksOf pairs i)) fr σ (fun fr σ => wpOs cfg d [o] fr σ (fun fr' σ' => heldP (dueP i σ' (addP (sameP cfg d o fr σ) pairs i pe)) fr' σ' (fun fr' σ' => wpE cfg d pairs (i + 1) os (hupd H i σ) (addP (sameP cfg d o fr σ) pairs i pe) fr' σ' Q) .mk)) .mk
end
attribute [irreducible] wpE heldP sameAll guardS hupd ksOf sameP addP dueP
end Go.Proofs.YtbbekbjcmnopjaaGreatDoor.Am
namespace Go.Proofs.YtbbekbjcmnopjaaGreatDoor.Am
open Go
section
variable {cfg : Cfg} {d : Nat}
end
theorem Zm : type_of% (@wpC_block) := @wpC_block
theorem Zn : type_of% (@wpC_cond) := @wpC_cond
theorem WPd : type_of% (And.intro (And.intro (And.intro (And.intro (And.intro (And.intro @wpC_skip @wpC_region) (And.intro @wpC_drawn @wpC_ahead)) (And.intro (And.intro @wpC_seq @wpC_loop) (And.intro @wpC_exit @wpC_ret))) (And.intro (And.intro (And.intro @wpOs_nil @wpOs_guard) (And.intro @seqQ_normal @seqQ_exit)) (And.intro (And.intro @seqQ_ret @blockQ_normal) (And.intro @blockQ_hit (And.intro @blockQ_miss @blockQ_ret))))) (And.intro (And.intro (And.intro (And.intro @endQ_normal @endQ_ret) (And.intro @loopQ_exit @loopQ_ret)) (And.intro (And.intro @wpO_move @wpO_pick) (And.intro @wpO_alloc @wpO_box))) (And.intro (And.intro (And.intro @wpO_build @wpO_lit) (And.intro @wpO_litA @wpO_load)) (And.intro (And.intro @wpO_store @wpO_nilCheck) (And.intro @wpO_iop (And.intro @wpO_sop @wpO_bop)))))) (And.intro (And.intro (And.intro (And.intro (And.intro @wpO_eqs @wpO_eqnil) (And.intro @wpO_not @wpO_neg)) (And.intro (And.intro @wpO_convI @wpO_sliceOp) (And.intro @wpO_substr @wpO_gslice))) (And.intro (And.intro (And.intro @wpO_faddr @wpO_field) (And.intro @wpO_iaddr @wpO_aaddr)) (And.intro (And.intro @wpO_strIdx @wpO_arrIdx) (And.intro @wpO_lenS (And.intro @wpO_lenStr @wpO_lenM))))) (And.intro (And.intro (And.intro (And.intro @wpO_lenA @wpO_capS) (And.intro @wpO_minI @wpO_maxI)) (And.intro (And.intro @wpO_append @wpO_appendz) (And.intro @wpO_mkslice (And.intro @wpO_extract @wpO_mkfunc)))) (And.intro (And.intro (And.intro @wpO_mkmap @wpO_lookup) (And.intro @wpO_mapset @wpO_mapdel)) (And.intro (And.intro @wpO_clr @wpO_mkiface) (And.intro @wpO_callS (And.intro @wpO_callI @wpO_callv))))))) := (And.intro (And.intro (And.intro (And.intro (And.intro (And.intro @wpC_skip @wpC_region) (And.intro @wpC_drawn @wpC_ahead)) (And.intro (And.intro @wpC_seq @wpC_loop) (And.intro @wpC_exit @wpC_ret))) (And.intro (And.intro (And.intro @wpOs_nil @wpOs_guard) (And.intro @seqQ_normal @seqQ_exit)) (And.intro (And.intro @seqQ_ret @blockQ_normal) (And.intro @blockQ_hit (And.intro @blockQ_miss @blockQ_ret))))) (And.intro (And.intro (And.intro (And.intro @endQ_normal @endQ_ret) (And.intro @loopQ_exit @loopQ_ret)) (And.intro (And.intro @wpO_move @wpO_pick) (And.intro @wpO_alloc @wpO_box))) (And.intro (And.intro (And.intro @wpO_build @wpO_lit) (And.intro @wpO_litA @wpO_load)) (And.intro (And.intro @wpO_store @wpO_nilCheck) (And.intro @wpO_iop (And.intro @wpO_sop @wpO_bop)))))) (And.intro (And.intro (And.intro (And.intro (And.intro @wpO_eqs @wpO_eqnil) (And.intro @wpO_not @wpO_neg)) (And.intro (And.intro @wpO_convI @wpO_sliceOp) (And.intro @wpO_substr @wpO_gslice))) (And.intro (And.intro (And.intro @wpO_faddr @wpO_field) (And.intro @wpO_iaddr @wpO_aaddr)) (And.intro (And.intro @wpO_strIdx @wpO_arrIdx) (And.intro @wpO_lenS (And.intro @wpO_lenStr @wpO_lenM))))) (And.intro (And.intro (And.intro (And.intro @wpO_lenA @wpO_capS) (And.intro @wpO_minI @wpO_maxI)) (And.intro (And.intro @wpO_append @wpO_appendz) (And.intro @wpO_mkslice (And.intro @wpO_extract @wpO_mkfunc)))) (And.intro (And.intro (And.intro @wpO_mkmap @wpO_lookup) (And.intro @wpO_mapset @wpO_mapdel)) (And.intro (And.intro @wpO_clr @wpO_mkiface) (And.intro @wpO_callS (And.intro @wpO_callI @wpO_callv)))))))
theorem WPu : type_of% (And.intro (And.intro (And.intro (And.intro (And.intro @wantedA_eq (And.intro @wantV_bool @wantV_hole)) (And.intro @bq_tt (And.intro @bq_ff @bq_tf))) (And.intro (And.intro @bq_ft (And.intro @loopQ_normal @res_one)) (And.intro @res2_tmp (And.intro @res3_tmp @res4_tmp)))) (And.intro (And.intro (And.intro @res_tmp (And.intro @res_cell @pickV_bool)) (And.intro @ncV_ptr (And.intro @ncV_eptr @ncV_fptr))) (And.intro (And.intro @ncV_func (And.intro @bopV_bool @notV_bool)) (And.intro (And.intro @negV_int @fieldV_agg) (And.intro @lenStrV_str @extrV_tuple))))) (And.intro (And.intro (And.intro (And.intro @callvP_func (And.intro @iop_add @iop_sub)) (And.intro @iop_eql (And.intro @iop_neq @iop_lss))) (And.intro (And.intro @iop_leq (And.intro @iop_gtr @iop_geq)) (And.intro (And.intro @Fr_ev @Fr_get) (And.intro @Fr_put @Fr_len)))) (And.intro (And.intro (And.intro @put_none (And.intro @ev_const @upd_apply)) (And.intro @argE_zero (And.intro @argE_succ @argE_nil))) (And.intro (And.intro @liveE_cons (And.intro @stepP_some @optP_some)) (And.intro (And.intro @guardP_true @guardP_false) (And.intro @condP_true @condP_false)))))) := (And.intro (And.intro (And.intro (And.intro (And.intro @wantedA_eq (And.intro @wantV_bool @wantV_hole)) (And.intro @bq_tt (And.intro @bq_ff @bq_tf))) (And.intro (And.intro @bq_ft (And.intro @loopQ_normal @res_one)) (And.intro @res2_tmp (And.intro @res3_tmp @res4_tmp)))) (And.intro (And.intro (And.intro @res_tmp (And.intro @res_cell @pickV_bool)) (And.intro @ncV_ptr (And.intro @ncV_eptr @ncV_fptr))) (And.intro (And.intro @ncV_func (And.intro @bopV_bool @notV_bool)) (And.intro (And.intro @negV_int @fieldV_agg) (And.intro @lenStrV_str @extrV_tuple))))) (And.intro (And.intro (And.intro (And.intro @callvP_func (And.intro @iop_add @iop_sub)) (And.intro @iop_eql (And.intro @iop_neq @iop_lss))) (And.intro (And.intro @iop_leq (And.intro @iop_gtr @iop_geq)) (And.intro (And.intro @Fr_ev @Fr_get) (And.intro @Fr_put @Fr_len)))) (And.intro (And.intro (And.intro @put_none (And.intro @ev_const @upd_apply)) (And.intro @argE_zero (And.intro @argE_succ @argE_nil))) (And.intro (And.intro @liveE_cons (And.intro @stepP_some @optP_some)) (And.intro (And.intro @guardP_true @guardP_false) (And.intro @condP_true @condP_false))))))
inductive Two {α β : Type} (R : α → β → Prop) : List α → List β → Prop
 | nil : Two R [] []
 | cons {a : α} {b : β} {us : List α} {ws : List β} (h : R a b) (t : Two R us ws) : Two R (a :: us) (b :: ws)
section
variable {α β : Type} {R R' : α → β → Prop} {us vs : List α} {ws ys : List β}
theorem Two.len (h : Two R us ws) : us.length = ws.length := by
 induction h with
 | nil => rfl
 | cons _ _ ih => simp [ih]
theorem Two.get (h : Two R us ws) : ∀ {i : Nat} (hi : i < ws.length),∃ a,us[i]? = some a ∧ R a ws[i] := by
 induction h with
 | nil => intro i hi; simp at hi
 | cons h t ih =>
  intro i hi
  cases i with
  | zero => exact ⟨_,rfl,h⟩
  | succ i => obtain ⟨a,h1,h2⟩ := ih (i := i) (by simpa using hi); exact ⟨a,by simpa using h1,by simpa using h2⟩
theorem Two.at (h : Two R us ws) {i : Nat} {a : α} {b : β} (ha : us[i]? = some a) (hb : ws[i]? = some b) : R a b := by
 obtain ⟨hi,rfl⟩ := List.getElem?_eq_some_iff.1 hb
 obtain ⟨a',h1,h2⟩ := h.get hi
 rw [ha] at h1; injection h1 with h1; subst h1; exact h2
theorem Two.mono (h : Two R us ws) (hm : ∀ a b,R a b → R' a b) : Two R' us ws := by
 induction h with
 | nil => exact .nil
 | cons h _ ih => exact .cons (hm _ _ h) ih
theorem Two.append (h : Two R us ws) (h' : Two R vs ys) : Two R (us ++ vs) (ws ++ ys) := by
 induction h with
 | nil => exact h'
 | cons h _ ih => exact .cons h ih
theorem Two.one {a : α} {b : β} (h : R a b) : Two R [a] [b] := .cons h .nil
theorem Two.push (h : Two R us ws) {a : α} {b : β} (h' : R a b) : Two R (us ++ [a]) (ws ++ [b]) := h.append (.one h')
theorem Two.take (h : Two R us ws) : ∀ (n : Nat),Two R (us.take n) (ws.take n) := by
 induction h with
 | nil => intro n; simp; exact .nil
 | cons h _ ih =>
  intro n
  cases n with
  | zero => exact .nil
  | succ n => exact .cons h (ih n)
theorem Two.drop (h : Two R us ws) : ∀ (n : Nat),Two R (us.drop n) (ws.drop n) := by
 induction h with
 | nil => intro n; simp; exact .nil
 | cons h t ih =>
  intro n
  cases n with
  | zero => exact .cons h t
  | succ n => exact ih n
end
def nless (a b : Nm) : Bool := decide (a.1 < b.1) || (decide (a.1 = b.1) && decide (a.2 < b.2))
theorem nless_irrefl (a : Nm) : nless a a = false := by simp [nless]
theorem nless_trans {a b c : Nm} (h : nless a b = true) (h' : nless b c = true) : nless a c = true := by
 simp only [nless,Bool.or_eq_true,Bool.and_eq_true,decide_eq_true_eq] at *; omega
theorem nless_not {a b : Nm} (h : nless a b = false) (hn : a ≠ b) : nless b a = true := by
 obtain ⟨a1,a2⟩ := a; obtain ⟨b1,b2⟩ := b
 have : ¬ (a1 = b1 ∧ a2 = b2) := fun e => hn (by rw [e.1,e.2])
 simp only [nless,Bool.or_eq_true,Bool.and_eq_true,decide_eq_true_eq,Bool.or_eq_false_iff,decide_eq_false_iff_not,Bool.and_eq_false_iff] at *; omega
theorem nless_asymm {a b : Nm} (h : nless a b = true) : nless b a = false := by
 cases hb : nless b a with
 | false => rfl
 | true => have := nless_trans h hb; rw [nless_irrefl] at this; cases this
def glob (t : List Cel) : Bool := right t && t.all fun c => !(decide (c.k = 4) && decide (c.v.1 < 0))
def vCel (v : Nm) : Cel := ⟨4,[],0,v⟩
def okVar (v : Nm) : Bool := (vCel v).ok
abbrev Hp := List (Nm × List Cel)
def lk : Hp → Nm → Option (List Cel)
 | [],_ => none
 | p :: r,v => if p.1 = v then some p.2 else lk r v
theorem lk_mem : ∀ {H : Hp} {v : Nm} {t : List Cel},lk H v = some t → (v,t) ∈ H
 | [],_,_,h => by cases h
 | p :: r,v,t,h => by
  simp only [lk] at h
  split at h
  ·rename_i e; injection h with h; rw [← e,← h]; exact List.mem_cons_self
  ·exact List.mem_cons_of_mem _ (lk_mem h)
theorem lk_none : ∀ {H : Hp} {v : Nm},lk H v = none ↔ v ∉ H.map (·.1)
 | [],_ => by simp [lk]
 | p :: r,v => by
  simp only [lk,List.map_cons,List.mem_cons,not_or]
  split
  ·rename_i e; simp [e]
  ·rename_i e; rw [lk_none (H := r)]; exact ⟨fun h => ⟨fun e' => e e'.symm,h⟩,fun h => h.2⟩
theorem lk_of_mem : ∀ {H : Hp},(H.map (·.1)).Nodup → ∀ {v : Nm} {t : List Cel},(v,t) ∈ H → lk H v = some t
 | [],_,_,_,h => by cases h
 | p :: r,hn,v,t,h => by
  simp only [List.map_cons,List.nodup_cons] at hn
  rcases List.mem_cons.1 h with rfl | h
  ·simp [lk]
  ·have : p.1 ≠ v := fun e => hn.1 (by rw [e]; exact List.mem_map.2 ⟨_,h,rfl⟩)
   rw [lk,if_neg this]; exact lk_of_mem hn.2 h
theorem lk_perm {H R : Hp} (hn : (H.map (·.1)).Nodup) (hp : H.Perm R) (v : Nm) : lk H v = lk R v := by
 have hn' : (R.map (·.1)).Nodup := (hp.map _).nodup_iff.1 hn
 cases h : lk H v with
 | some t => exact (lk_of_mem hn' (hp.mem_iff.1 (lk_mem h))).symm
 | none =>
  rw [lk_none] at h
  exact (lk_none.2 fun hm => h ((hp.map _).mem_iff.2 hm)).symm
def bindE (H : Hp) (v : Nm) (t : List Cel) : Int :=
 if (decide (v.1 < 0) || !okVar v) || !glob t then 6
 else if (lk H v).isSome then 70
 else if decide ((t.headD default).k = 4) && !nless (t.headD default).v v then 71
 else 0
def bindH (H : Hp) (v : Nm) (t : List Cel) : Hp := if bindE H v t = 0 then H ++ [(v,t)] else H
def okB (p : Nm × List Cel) : Prop := 0 ≤ p.1.1 ∧ okVar p.1 = true ∧ glob p.2 = true ∧ ((p.2.headD default).k = 4 → nless (p.2.headD default).v p.1 = true)
structure WF (H : Hp) : Prop where
 keys : (H.map (·.1)).Nodup
 ok : ∀ p ∈ H,okB p
theorem WF.nil : WF [] := ⟨List.nodup_nil,fun p h => by cases h⟩
theorem bindE_zero {H : Hp} {v : Nm} {t : List Cel} (h : bindE H v t = 0) : okB (v,t) ∧ lk H v = none := by
 unfold bindE at h
 split at h
 ·cases h
 ·rename_i h1
  split at h
  ·cases h
  ·rename_i h2
   split at h
   ·cases h
   ·rename_i h3
    simp only [Bool.or_eq_true,decide_eq_true_eq,Bool.not_eq_true',not_or,Bool.not_eq_false] at h1
    refine ⟨⟨by simp only; omega,h1.1.2,h1.2,fun hk => ?_⟩,by simpa using h2⟩
    simp only [Bool.and_eq_true,decide_eq_true_eq,Bool.not_eq_true',not_and,Bool.not_eq_false] at h3
    exact h3 hk
theorem bindE_of {H : Hp} {v : Nm} {t : List Cel} (h : okB (v,t)) (hl : lk H v = none) : bindE H v t = 0 := by
 obtain ⟨h1,h2,h3,h4⟩ := h
 simp only at h1 h2 h3 h4
 unfold bindE
 rw [if_neg,if_neg,if_neg]
 ·simp only [Bool.and_eq_true,decide_eq_true_eq,Bool.not_eq_true',not_and,Bool.not_eq_false]; exact h4
 ·simp [hl]
 ·simp only [Bool.or_eq_true,decide_eq_true_eq,Bool.not_eq_true',h2,h3]; simp; omega
theorem WF.bind {H : Hp} (h : WF H) (v : Nm) (t : List Cel) : WF (bindH H v t) := by
 unfold bindH
 split
 ·rename_i e
  obtain ⟨h1,h2⟩ := bindE_zero e
  refine ⟨?_,fun p hp => ?_⟩
  ·rw [List.map_append,List.nodup_append]
   refine ⟨h.keys,by simp,fun a ha b hb e => ?_⟩
   simp at hb
   rw [lk_none] at h2
   exact h2 (by rw [← hb,← e]; exact ha)
  ·rcases List.mem_append.1 hp with hp | hp
   ·exact h.ok p hp
   ·simp at hp; subst hp; exact h1
 ·exact h
def insR (x : Nm × List Cel) : Hp → Hp
 | [] => [x]
 | y :: r => if nless x.1 y.1 then x :: y :: r else y :: insR x r
def bindR (R : Hp) (v : Nm) (t : List Cel) : Hp := if bindE R v t = 0 then insR (v,t) R else R
def Rising (R : Hp) : Prop := R.Pairwise fun a b => nless a.1 b.1 = true
theorem insR_perm (x : Nm × List Cel) : ∀ R : Hp,(insR x R).Perm (x :: R)
 | [] => List.Perm.refl _
 | y :: r => by
  simp only [insR]
  split
  ·exact List.Perm.refl _
  ·exact ((insR_perm x r).cons y).trans (List.Perm.swap x y r)
theorem Rising.ins {x : Nm × List Cel} : ∀ {R : Hp},Rising R → lk R x.1 = none → Rising (insR x R)
 | [],_,_ => by simp [insR,Rising]
 | y :: r,h,hn => by
  have h' := h
  simp only [Rising,List.pairwise_cons] at h
  obtain ⟨h1,h2⟩ := h
  simp only [lk] at hn
  split at hn
  ·cases hn
  ·rename_i hne
   simp only [insR]
   split
   ·rename_i hl
    refine List.pairwise_cons.2 ⟨fun z hz => ?_,h'⟩
    rcases List.mem_cons.1 hz with rfl | hz
    ·exact hl
    ·exact nless_trans hl (h1 z hz)
   ·rename_i hl
    refine List.pairwise_cons.2 ⟨fun z hz => ?_,Rising.ins h2 hn⟩
    rcases List.mem_cons.1 ((insR_perm x r).mem_iff.1 hz) with rfl | hz
    ·exact nless_not (by simpa using hl) (fun e => hne e.symm)
    ·exact h1 z hz
structure Same (H R : Hp) : Prop where
 wf : WF H
 perm : H.Perm R
 rise : Rising R
theorem Same.nil : Same [] [] := ⟨WF.nil,List.Perm.refl _,List.Pairwise.nil⟩
theorem Same.lk {H R : Hp} (h : Same H R) (v : Nm) : lk H v = lk R v := lk_perm h.wf.keys h.perm v
theorem Same.bindE {H R : Hp} (h : Same H R) (v : Nm) (t : List Cel) : bindE H v t = bindE R v t := by simp only [Am.bindE,h.lk]
theorem Same.bind {H R : Hp} (h : Same H R) (v : Nm) (t : List Cel) : Same (bindH H v t) (bindR R v t) := by
 refine ⟨h.wf.bind v t,?_,?_⟩
 ·unfold bindH bindR
  rw [h.bindE]
  split
  ·exact ((List.perm_append_comm).trans (List.Perm.cons _ h.perm)).trans (insR_perm _ _).symm
  ·exact h.perm
 ·unfold bindR
  split
  ·rename_i e
   exact h.rise.ins (bindE_zero e).2
  ·exact h.rise
def hnext (H : Hp) (t : List Cel) : Option (List Cel) := if t.length = 1 ∧ (t.headD default).k = 4 then lk H (t.headD default).v else none
theorem WF.perm {H R : Hp} (h : WF H) (hp : H.Perm R) : WF R := ⟨(hp.map _).nodup_iff.1 h.keys,fun p hm => h.ok p (hp.mem_iff.2 hm)⟩
theorem Same.len {H R : Hp} (h : Same H R) : R.length = H.length := h.perm.length_eq.symm
abbrev UpN (l : List Nm) : Prop := l.Pairwise fun a b => nless b a = false
theorem Rising.up {R : Hp} (h : Rising R) : UpN (R.map (·.1)) := by
 simp only [Rising] at h
 exact List.pairwise_map.2 (h.imp fun h => nless_asymm h)
section
variable {P : Program} {cf : FuncId → FuncId} {E : Env} {κ : K}
def kvOf (σ : Store) : AVal → Option (List AVal × List AVal)
 | .map id => match σ[id]? with
  | some (.map ks vs) => some (ks,vs)
  | _ => none
 | .fmap _ ks vs => some (ks,vs)
 | _ => none
theorem kvOf_ok (hR : κ.R E cf) {x : AVal} {cx : Value} {ks vs : List AVal} (hx : κ.V E cf x cx) (h : kvOf κ.σ x = some (ks,vs)) :
  ∃ b es clock,cx = .map (some b) ∧ κ.h[b]? = some (.map es clock) ∧ κ.VL E cf ks (es.toList.map (·.key)) ∧ κ.VL E cf vs (es.toList.map (·.val)) ∧ Born es clock := by
 unfold kvOf at h
 split at h
 ·rename_i id
  split at h
  ·rename_i ks' vs' hid
   simp at h
   obtain ⟨rfl,rfl⟩ := h
   cases hx with
   | map _ _ b hp =>
   obtain ⟨⟨_,hpd⟩,rfl⟩ := hp
   obtain ⟨es,clock,hb,h1,h2,h3⟩ := hR.obj id _ hid hpd
   exact ⟨_,es,clock,rfl,hb,h1,h2,h3⟩
  ·simp at h
 ·simp at h
  obtain ⟨rfl,rfl⟩ := h
  cases hx with
  | fmap _ t _ _ b clock es h1 h2 h3 h4 h5 h6 h7 =>
  exact ⟨b,es,clock,rfl,h2,VRelL.mono (fun _ _ h => ⟨h,rfl⟩) (noIds_le _) h3,VRelL.mono (fun _ _ h => ⟨h,rfl⟩) (noIds_le _) h4,h7⟩
 ·simp at h
def natMC : List AVal → Store → Option (AVal × Store)
 | [m],σ => match kvOf σ m with
  | some (ks,vs) => some (.map σ.length,σ ++ [.map ks vs])
  | none => none
 | _,_ => none
theorem natMC_cases {args : List AVal} {σ σ' : Store} {v : AVal} (h : natMC args σ = some (v,σ')) : ∃ m ks vs,args = [m] ∧ kvOf σ m = some (ks,vs) ∧ v = .map σ.length ∧ σ' = σ ++ [.map ks vs] := by
 unfold natMC at h
 split at h
 ·split at h
  ·rename_i ks vs hk
   injection h with h
   injection h with h1 h2
   exact ⟨_,ks,vs,rfl,hk,h1.symm,h2.symm⟩
  ·cases h
 ·cases h
end
end Go.Proofs.YtbbekbjcmnopjaaGreatDoor.Am
namespace Go.Proofs.YtbbekbjcmnopjaaGreatDoor.Am.CU
open Go Go.Proofs.YtbbekbjcmnopjaaGreatDoor.Am
abbrev o (d : Nat) (x : AOp) : AOper := ⟨some d,x,none⟩
def a3 : AFunc := ⟨82,(.seq (.region [o 1 (.box (.tmp 0)),o 2 (.move (.const (.bool false)))]) (.seq (.region [o 3 (.move (.const .nilptr))]) (.seq (.region [o 7 (.move (.tmp 3)),o 8 (.call .shared 4 [.tmp 7]),o 6 (.move (.tmp 8)),o 9 (.extract (.tmp 6) 0),o 10 (.extract (.tmp 6) 1),o 4 (.alloc [.int .i64 0,.nilslice]),⟨none,.store 2 (.tmp 4) (.tmp 9),none⟩,o 5 (.move (.tmp 10))]) (.seq (.region [o 11 (.call .iso 5 []),o 12 (.move (.tmp 11)),⟨some 13,.move (.tmp 3),some (12,true)⟩,⟨some 14,.load 4 true (.tmp 1),some (12,true)⟩,⟨some 15,.call .shared 6 [.tmp 13,.tmp 14],some (12,true)⟩,⟨some 16,.field 0 1 false (.tmp 15),some (12,true)⟩,⟨some 17,.iop .eql (.tmp 16) (.const (.int .i64 1)),some (12,true)⟩,o 18 (.pick (.tmp 12) (.tmp 17) (.const (.bool false))),o 19 (.move (.tmp 18)),⟨some 20,.move (.tmp 3),some (19,true)⟩,⟨some 21,.call .shared 7 [.tmp 20],some (19,true)⟩,⟨some 22,.lenS (.tmp 21),some (19,true)⟩,⟨some 23,.iop .eql (.tmp 22) (.const (.int .i64 0)),some (19,true)⟩,o 24 (.pick (.tmp 19) (.tmp 23) (.const (.bool false))),o 25 (.move (.tmp 24)),⟨some 26,.move (.tmp 3),some (25,true)⟩,⟨some 27,.call .shared 8 [.tmp 26],some (25,true)⟩,⟨some 28,.lenS (.tmp 27),some (25,true)⟩,⟨some 29,.iop .eql (.tmp 28) (.const (.int .i64 0)),some (25,true)⟩,o 30 (.pick (.tmp 25) (.tmp 29) (.const (.bool false))),o 31 (.move (.tmp 30)),⟨some 32,.move (.tmp 3),some (31,true)⟩,⟨some 33,.call .shared 9 [.tmp 32],some (31,true)⟩,⟨some 34,.eqnil false .p (.tmp 33),some (31,true)⟩,o 35 (.pick (.tmp 31) (.tmp 34) (.const (.bool false))),o 36 (.move (.tmp 35)),⟨some 37,.move (.tmp 3),some (36,true)⟩,⟨some 38,.call .shared 10 [.tmp 37],some (36,true)⟩,⟨some 39,.lenS (.tmp 38),some (36,true)⟩,⟨some 40,.iop .eql (.tmp 39) (.const (.int .i64 0)),some (36,true)⟩,o 41 (.pick (.tmp 36) (.tmp 40) (.const (.bool false))),o 42 (.move (.tmp 41)),⟨some 43,.move (.tmp 3),some (42,true)⟩,⟨some 44,.call .shared 11 [.tmp 43],some (42,true)⟩,⟨some 45,.lenS (.tmp 44),some (42,true)⟩,⟨some 46,.iop .eql (.tmp 45) (.const (.int .i64 0)),some (42,true)⟩,o 47 (.pick (.tmp 42) (.tmp 46) (.const (.bool false))),o 48 (.move (.tmp 47)),⟨some 49,.move (.tmp 3),some (48,true)⟩,⟨some 50,.call .shared 13 [.tmp 49],some (48,true)⟩,⟨some 51,.call .shared 12 [.tmp 50],some (48,true)⟩,o 52 (.pick (.tmp 48) (.tmp 51) (.const (.bool false))),o 53 (.move (.tmp 52)),⟨some 54,.load 2 true (.tmp 4),some (53,true)⟩,⟨some 55,.call .shared 12 [.tmp 54],some (53,true)⟩,o 56 (.pick (.tmp 53) (.tmp 55) (.const (.bool false))),o 57 (.move (.tmp 56)),⟨some 58,.move (.tmp 5),some (57,true)⟩,⟨some 59,.iop .eql (.tmp 58) (.const (.int .i64 0)),some (57,true)⟩,o 60 (.pick (.tmp 57) (.tmp 59) (.const (.bool false))),o 61 (.move (.tmp 60)),⟨some 62,.move (.tmp 3),some (61,true)⟩,⟨some 63,.call .shared 14 [.tmp 62],some (61,true)⟩,⟨some 64,.iop .eql (.tmp 63) (.const (.int .u8 0)),some (61,true)⟩,o 65 (.pick (.tmp 61) (.tmp 64) (.const (.bool false))),o 66 (.move (.tmp 65)),⟨some 67,.move (.tmp 3),some (66,true)⟩,⟨some 68,.call .shared 15 [.tmp 67],some (66,true)⟩,⟨some 69,.iop .eql (.tmp 68) (.const (.int .i64 0)),some (66,true)⟩,o 70 (.pick (.tmp 66) (.tmp 69) (.const (.bool false))),o 71 (.move (.tmp 70)),⟨some 72,.move (.tmp 3),some (71,true)⟩,⟨some 73,.call .shared 16 [.tmp 72],some (71,true)⟩,⟨some 74,.lenS (.tmp 73),some (71,true)⟩,⟨some 75,.iop .eql (.tmp 74) (.const (.int .i64 0)),some (71,true)⟩,o 76 (.pick (.tmp 71) (.tmp 75) (.const (.bool false))),o 77 (.move (.tmp 76)),⟨some 78,.move (.tmp 3),some (77,true)⟩,⟨some 79,.call .shared 17 [.tmp 78],some (77,true)⟩,⟨some 80,.eqnil false .p (.tmp 79),some (77,true)⟩,o 81 (.pick (.tmp 77) (.tmp 80) (.const (.bool false))),o 2 (.move (.tmp 81))]) .ret)))),[.tmp 2]⟩
def a4 : AFunc := ⟨22,(.seq (.region [o 2 (.alloc [.int .i64 0,.nilslice]),o 3 (.move (.const (.int .i64 0)))]) (.seq (.seq (.region [o 4 (.move (.tmp 0)),o 5 (.eqnil false .p (.tmp 4))]) (.cond (.tmp 5) (.seq (.region [o 6 (.build [.int .i64 0,.nilslice] []),⟨none,.store 2 (.tmp 2) (.tmp 6),none⟩,o 3 (.move (.const (.int .i64 0)))]) .ret) .skip)) (.seq (.drawn [o 7 (.move (.tmp 0)),o 8 (.nilCheck (.tmp 7)),o 9 (.faddr 0 (.tmp 8)),o 10 (.load 1 false (.tmp 9)),o 11 (.nilCheck (.tmp 10)),o 12 (.faddr 15 (.tmp 11)),o 13 (.load 2 true (.tmp 12)),o 14 (.call .shared 18 [.tmp 13]),o 15 (.move (.tmp 0)),o 16 (.nilCheck (.tmp 15)),o 17 (.faddr 0 (.tmp 16)),o 18 (.load 1 false (.tmp 17)),o 19 (.nilCheck (.tmp 18)),o 20 (.faddr 14 (.tmp 19)),o 21 (.load 1 false (.tmp 20)),⟨none,.store 2 (.tmp 2) (.tmp 14),none⟩,o 3 (.move (.tmp 21))] [(11,7),(14,7),(11,15),(14,15)]) .ret))),[.cell 2 2 true,.tmp 3]⟩
def a5 : AFunc := ⟨63,(.seq (.region [o 0 (.move (.const (.bool false)))]) (.seq (.region [o 8 (.call .shared 19 [.const .nilslice,(.const (.int .i64 0)),(.const (.int .i64 1)),(.const (.int .i64 5))]),o 7 (.move (.tmp 8)),o 9 (.extract (.tmp 7) 0),o 10 (.extract (.tmp 7) 1),o 1 (.move (.tmp 9)),o 2 (.move (.tmp 10))]) (.seq (.seq (.region [o 11 (.move (.tmp 2)),o 12 (.iop .neq (.tmp 11) (.const (.int .i64 0))),o 13 (.move (.tmp 12)),⟨some 14,.move (.tmp 1),some (13,false)⟩,⟨some 15,.eqnil false .p (.tmp 14),some (13,false)⟩,o 16 (.pick (.tmp 13) (.const (.bool true)) (.tmp 15))]) (.cond (.tmp 16) (.seq (.region [o 0 (.move (.const (.bool false)))]) .ret) .skip)) (.seq (.region [o 17 (.move (.tmp 1)),o 18 (.build [.int .u8 0,(.str []),.int .i64 0,.int .i64 0,.int .i64 0] [(0,1,(.const (.int .u8 2))),(1,1,(.const (.str [116,114,117,101])))]),o 19 (.lit 5 [.int .u8 0,(.str []),.int .i64 0,.int .i64 0,.int .i64 0] true 1 [(0,(.tmp 18))]),o 20 (.build [.int .u8 0,.int .i64 0,.nilslice,.nilslice] [(0,1,(.const (.int .u8 3))),(3,1,(.tmp 19))]),o 21 (.call .shared 6 [.tmp 17,.tmp 20]),o 3 (.alloc [.int .i64 0,.nilslice,.nilslice]),⟨none,.store 3 (.tmp 3) (.tmp 21),none⟩]) (.seq (.region [o 22 (.move (.tmp 1)),o 23 (.call .shared 14 [.tmp 22]),o 4 (.move (.tmp 23))]) (.seq (.region [o 24 (.move (.tmp 1)),o 25 (.build [.int .u8 0,.int .i64 0,.nilslice,.nilslice] [(0,1,(.const (.int .u8 1)))]),o 26 (.call .shared 6 [.tmp 24,.tmp 25]),o 5 (.alloc [.int .i64 0,.nilslice,.nilslice]),⟨none,.store 3 (.tmp 5) (.tmp 26),none⟩]) (.seq (.region [o 27 (.move (.tmp 1)),o 28 (.build [.int .u8 0,.int .i64 0,.nilslice,.nilslice] [(0,1,(.const (.int .u8 1)))]),o 29 (.call .shared 6 [.tmp 27,.tmp 28]),o 6 (.alloc [.int .i64 0,.nilslice,.nilslice]),⟨none,.store 3 (.tmp 6) (.tmp 29),none⟩]) (.seq (.region [o 30 (.faddr 0 (.tmp 3)),o 31 (.load 1 false (.tmp 30)),o 32 (.iop .eql (.tmp 31) (.const (.int .i64 0))),o 33 (.move (.tmp 32)),⟨some 34,.move (.tmp 4),some (33,true)⟩,⟨some 35,.iop .eql (.tmp 34) (.const (.int .u8 0)),some (33,true)⟩,o 36 (.pick (.tmp 33) (.tmp 35) (.const (.bool false))),o 37 (.move (.tmp 36)),⟨some 38,.faddr 0 (.tmp 5),some (37,true)⟩,⟨some 39,.load 1 false (.tmp 38),some (37,true)⟩,⟨some 40,.iop .eql (.tmp 39) (.const (.int .i64 0)),some (37,true)⟩,o 41 (.pick (.tmp 37) (.tmp 40) (.const (.bool false))),o 42 (.move (.tmp 41)),⟨some 43,.faddr 1 (.tmp 5),some (42,true)⟩,⟨some 44,.load 1 false (.tmp 43),some (42,true)⟩,⟨some 45,.lenS (.tmp 44),some (42,true)⟩,⟨some 46,.iop .eql (.tmp 45) (.const (.int .i64 1)),some (42,true)⟩,o 47 (.pick (.tmp 42) (.tmp 46) (.const (.bool false))),o 48 (.move (.tmp 47)),⟨some 49,.move (.tmp 1),some (48,true)⟩,⟨some 50,.call .shared 14 [.tmp 49],some (48,true)⟩,⟨some 51,.iop .eql (.tmp 50) (.const (.int .u8 3)),some (48,true)⟩,o 52 (.pick (.tmp 48) (.tmp 51) (.const (.bool false))),o 53 (.move (.tmp 52)),⟨some 54,.faddr 0 (.tmp 6),some (53,true)⟩,⟨some 55,.load 1 false (.tmp 54),some (53,true)⟩,⟨some 56,.iop .eql (.tmp 55) (.const (.int .i64 202)),some (53,true)⟩,o 57 (.pick (.tmp 53) (.tmp 56) (.const (.bool false))),o 58 (.move (.tmp 57)),⟨some 59,.move (.tmp 1),some (58,true)⟩,⟨some 60,.call .shared 15 [.tmp 59],some (58,true)⟩,⟨some 61,.iop .eql (.tmp 60) (.const (.int .i64 4)),some (58,true)⟩,o 62 (.pick (.tmp 58) (.tmp 61) (.const (.bool false))),o 0 (.move (.tmp 62))]) .ret)))))))),[.tmp 0]⟩
def a6 : AFunc := ⟨88,(.seq (.region [o 3 (.box (.tmp 1)),o 4 (.alloc [.int .i64 0,.nilslice,.nilslice])]) (.seq (.seq (.region [o 9 (.move (.tmp 0)),o 10 (.eqnil false .p (.tmp 9))]) (.cond (.tmp 10) (.seq (.region [o 11 (.build [.int .i64 0,.nilslice,.nilslice] [(0,1,(.const (.int .i64 1)))]),⟨none,.store 3 (.tmp 4) (.tmp 11),none⟩]) .ret) .skip)) (.seq (.region [o 12 (.build [.nilfunc,.bool false,.bool false] [(0,1,(.const (.func 20 [] []))),(1,1,(.const (.bool true))),(2,1,(.const (.bool true)))]),o 13 (.build [.nilfunc,.bool false,.bool false] [(0,1,(.const (.func 22 [] []))),(1,1,(.const (.bool true))),(2,1,(.const (.bool true)))]),o 14 (.build [.nilfunc,.bool false,.bool false] [(0,1,(.const (.func 23 [] []))),(1,1,(.const (.bool true)))]),o 15 (.build [.nilfunc,.bool false,.bool false] [(0,1,(.const (.func 24 [] [])))]),o 16 (.build [.nilfunc,.bool false,.bool false,.nilfunc,.bool false,.bool false,.nilfunc,.bool false,.bool false,.nilfunc,.bool false,.bool false,.nilfunc,.bool false,.bool false] [(3,3,(.tmp 12)),(6,3,(.tmp 13)),(9,3,(.tmp 14)),(12,3,(.tmp 15))]),o 5 (.alloc [.nilfunc,.bool false,.bool false,.nilfunc,.bool false,.bool false,.nilfunc,.bool false,.bool false,.nilfunc,.bool false,.bool false,.nilfunc,.bool false,.bool false]),⟨none,.store 15 (.tmp 5) (.tmp 16),none⟩]) (.seq (.seq (.region [o 17 (.faddr 0 (.tmp 3)),o 18 (.load 1 false (.tmp 17)),o 19 (.iop .lss (.tmp 18) (.const (.int .u8 1))),o 20 (.move (.tmp 19)),⟨some 21,.faddr 0 (.tmp 3),some (20,false)⟩,⟨some 22,.load 1 false (.tmp 21),some (20,false)⟩,⟨some 23,.convI .i64 (.tmp 22),some (20,false)⟩,⟨some 24,.iop .geq (.tmp 23) (.const (.int .i64 5)),some (20,false)⟩,o 25 (.pick (.tmp 20) (.const (.bool true)) (.tmp 24))]) (.cond (.tmp 25) (.seq (.region [o 26 (.build [.int .i64 0,.nilslice,.nilslice] [(0,1,(.const (.int .i64 6)))]),⟨none,.store 3 (.tmp 4) (.tmp 26),none⟩]) .ret) .skip)) (.seq (.region [o 27 (.faddr 0 (.tmp 3)),o 28 (.load 1 false (.tmp 27)),o 29 (.aaddr 5 3 (.tmp 5) (.tmp 28)),o 30 (.load 3 true (.tmp 29)),o 6 (.alloc [.nilfunc,.bool false,.bool false]),⟨none,.store 3 (.tmp 6) (.tmp 30),none⟩]) (.seq (.region [o 31 (.move (.tmp 0)),o 32 (.nilCheck (.tmp 31)),o 33 (.faddr 0 (.tmp 32)),o 34 (.load 1 false (.tmp 33)),o 35 (.call .shared 26 [.tmp 34]),o 36 (.build [.nilptr,.nilslice,.nilslice] [(0,1,(.tmp 35))]),o 37 (.box (.tmp 36)),o 7 (.move (.tmp 37))]) (.seq (.seq (.region [o 38 (.faddr 0 (.tmp 6)),o 39 (.load 1 false (.tmp 38)),o 40 (.move (.tmp 7)),o 41 (.load 4 true (.tmp 3)),o 42 (.callv .shared (.tmp 39) [.tmp 40,.tmp 41]),o 8 (.move (.tmp 42))]) (.seq (.region [o 43 (.move (.tmp 8)),o 44 (.iop .neq (.tmp 43) (.const (.int .i64 0)))]) (.cond (.tmp 44) (.seq (.region [o 45 (.move (.tmp 8)),o 46 (.build [.int .i64 0,.nilslice,.nilslice] [(0,1,(.tmp 45))]),⟨none,.store 3 (.tmp 4) (.tmp 46),none⟩]) .ret) .skip))) (.seq (.seq (.region [o 47 (.faddr 2 (.tmp 6)),o 48 (.load 1 false (.tmp 47)),o 49 (.move (.tmp 48)),⟨some 50,.move (.tmp 7),some (49,true)⟩,⟨some 51,.nilCheck (.tmp 50),some (49,true)⟩,⟨some 52,.faddr 0 (.tmp 51),some (49,true)⟩,⟨some 53,.load 1 false (.tmp 52),some (49,true)⟩,⟨some 54,.nilCheck (.tmp 53),some (49,true)⟩,⟨some 55,.faddr 6 (.tmp 54),some (49,true)⟩,⟨some 56,.load 1 false (.tmp 55),some (49,true)⟩,⟨some 57,.move (.tmp 0),some (49,true)⟩,⟨some 58,.nilCheck (.tmp 57),some (49,true)⟩,⟨some 59,.faddr 0 (.tmp 58),some (49,true)⟩,⟨some 60,.load 1 false (.tmp 59),some (49,true)⟩,⟨some 61,.nilCheck (.tmp 60),some (49,true)⟩,⟨some 62,.faddr 6 (.tmp 61),some (49,true)⟩,⟨some 63,.load 1 false (.tmp 62),some (49,true)⟩,⟨some 64,.call .shared 27 [.tmp 56,.tmp 63],some (49,true)⟩,⟨some 65,.not (.tmp 64),some (49,true)⟩,o 66 (.pick (.tmp 49) (.tmp 65) (.const (.bool false)))]) (.cond (.tmp 66) (.seq (.region [o 67 (.build [.int .i64 0,.nilslice,.nilslice] [(0,1,(.const (.int .i64 204)))]),⟨none,.store 3 (.tmp 4) (.tmp 67),none⟩]) .ret) .skip)) (.seq (.seq (.region [o 68 (.faddr 1 (.tmp 6)),o 69 (.load 1 false (.tmp 68))]) (.cond (.tmp 69) (.region [o 70 (.move (.tmp 7)),o 71 (.call .shared 28 [.tmp 70])]) .skip)) (.seq (.region [o 72 (.move (.tmp 0)),o 73 (.move (.tmp 7)),o 74 (.nilCheck (.tmp 73)),o 75 (.faddr 0 (.tmp 74)),o 76 (.load 1 false (.tmp 75)),o 77 (.nilCheck (.tmp 72)),o 78 (.faddr 0 (.tmp 77)),⟨none,.store 1 (.tmp 78) (.tmp 76),none⟩]) (.seq (.region [o 79 (.move (.tmp 7)),o 80 (.nilCheck (.tmp 79)),o 81 (.faddr 2 (.tmp 80)),o 82 (.load 1 false (.tmp 81)),o 83 (.move (.tmp 7)),o 84 (.nilCheck (.tmp 83)),o 85 (.faddr 1 (.tmp 84)),o 86 (.load 1 false (.tmp 85)),o 87 (.build [.int .i64 0,.nilslice,.nilslice] [(1,1,(.tmp 82)),(2,1,(.tmp 86))]),⟨none,.store 3 (.tmp 4) (.tmp 87),none⟩]) .ret))))))))))),[.cell 4 3 true]⟩
def a7 : AFunc := ⟨13,(.seq (.region [o 2 (.move (.const .nilslice))]) (.seq (.seq (.region [o 3 (.move (.tmp 0)),o 4 (.eqnil false .p (.tmp 3))]) (.cond (.tmp 4) (.seq (.region [o 2 (.move (.const .nilslice))]) .ret) .skip)) (.seq (.region [o 5 (.move (.tmp 0)),o 6 (.nilCheck (.tmp 5)),o 7 (.faddr 0 (.tmp 6)),o 8 (.load 1 false (.tmp 7)),o 9 (.nilCheck (.tmp 8)),o 10 (.faddr 3 (.tmp 9)),o 11 (.load 1 false (.tmp 10)),o 12 (.call .shared 29 [.tmp 11]),o 2 (.move (.tmp 12))]) .ret))),[.tmp 2]⟩
def a8 : AFunc := ⟨13,(.seq (.region [o 2 (.move (.const .nilslice))]) (.seq (.seq (.region [o 3 (.move (.tmp 0)),o 4 (.eqnil false .p (.tmp 3))]) (.cond (.tmp 4) (.seq (.region [o 2 (.move (.const .nilslice))]) .ret) .skip)) (.seq (.region [o 5 (.move (.tmp 0)),o 6 (.nilCheck (.tmp 5)),o 7 (.faddr 0 (.tmp 6)),o 8 (.load 1 false (.tmp 7)),o 9 (.nilCheck (.tmp 8)),o 10 (.faddr 3 (.tmp 9)),o 11 (.load 1 false (.tmp 10)),o 12 (.call .shared 30 [.tmp 11]),o 2 (.move (.tmp 12))]) .ret))),[.tmp 2]⟩
def a9 : AFunc := ⟨13,(.seq (.region [o 2 (.move (.const .nilptr))]) (.seq (.seq (.region [o 3 (.move (.tmp 0)),o 4 (.eqnil false .p (.tmp 3))]) (.cond (.tmp 4) (.seq (.region [o 2 (.move (.const .nilptr))]) .ret) .skip)) (.seq (.region [o 5 (.move (.tmp 0)),o 6 (.nilCheck (.tmp 5)),o 7 (.faddr 0 (.tmp 6)),o 8 (.load 1 false (.tmp 7)),o 9 (.nilCheck (.tmp 8)),o 10 (.faddr 4 (.tmp 9)),o 11 (.load 1 false (.tmp 10)),o 12 (.call .shared 31 [.tmp 11]),o 2 (.move (.tmp 12))]) .ret))),[.tmp 2]⟩
def a10 : AFunc := ⟨14,(.seq (.region [o 2 (.move (.const .nilslice))]) (.seq (.seq (.region [o 3 (.move (.tmp 0)),o 4 (.eqnil false .p (.tmp 3))]) (.cond (.tmp 4) (.seq (.region [o 2 (.move (.const .nilslice))]) .ret) .skip)) (.seq (.region [o 5 (.move (.tmp 0)),o 6 (.nilCheck (.tmp 5)),o 7 (.faddr 0 (.tmp 6)),o 8 (.load 1 false (.tmp 7)),o 9 (.nilCheck (.tmp 8)),o 10 (.faddr 6 (.tmp 9)),o 11 (.load 1 false (.tmp 10)),o 12 (.call .shared 33 [.tmp 11]),o 13 (.call .shared 32 [.tmp 12]),o 2 (.move (.tmp 13))]) .ret))),[.tmp 2]⟩
def a11 : AFunc := ⟨14,(.seq (.region [o 2 (.move (.const .nilslice))]) (.seq (.seq (.region [o 3 (.move (.tmp 0)),o 4 (.eqnil false .p (.tmp 3))]) (.cond (.tmp 4) (.seq (.region [o 2 (.move (.const .nilslice))]) .ret) .skip)) (.seq (.region [o 5 (.move (.tmp 0)),o 6 (.nilCheck (.tmp 5)),o 7 (.faddr 0 (.tmp 6)),o 8 (.load 1 false (.tmp 7)),o 9 (.nilCheck (.tmp 8)),o 10 (.faddr 6 (.tmp 9)),o 11 (.load 1 false (.tmp 10)),o 12 (.call .shared 34 [.tmp 11]),o 13 (.call .shared 32 [.tmp 12]),o 2 (.move (.tmp 13))]) .ret))),[.tmp 2]⟩
def a12 : AFunc := ⟨12,(.seq (.region [o 1 (.box (.tmp 0)),o 2 (.move (.const (.bool false)))]) (.seq (.region [o 3 (.faddr 0 (.tmp 1)),o 4 (.load 1 false (.tmp 3)),o 5 (.iop .eql (.tmp 4) (.const (.int .i64 0))),o 6 (.move (.tmp 5)),⟨some 7,.faddr 1 (.tmp 1),some (6,true)⟩,⟨some 8,.load 1 false (.tmp 7),some (6,true)⟩,⟨some 9,.lenS (.tmp 8),some (6,true)⟩,⟨some 10,.iop .eql (.tmp 9) (.const (.int .i64 0)),some (6,true)⟩,o 11 (.pick (.tmp 6) (.tmp 10) (.const (.bool false))),o 2 (.move (.tmp 11))]) .ret)),[.tmp 2]⟩
def a13 : AFunc := ⟨14,(.seq (.region [o 2 (.alloc [.int .i64 0,.nilslice])]) (.seq (.seq (.region [o 3 (.move (.tmp 0)),o 4 (.eqnil false .p (.tmp 3))]) (.cond (.tmp 4) (.seq (.region [o 5 (.build [.int .i64 0,.nilslice] []),⟨none,.store 2 (.tmp 2) (.tmp 5),none⟩]) .ret) .skip)) (.seq (.region [o 6 (.move (.tmp 0)),o 7 (.nilCheck (.tmp 6)),o 8 (.faddr 0 (.tmp 7)),o 9 (.load 1 false (.tmp 8)),o 10 (.nilCheck (.tmp 9)),o 11 (.faddr 12 (.tmp 10)),o 12 (.load 2 true (.tmp 11)),o 13 (.call .shared 18 [.tmp 12]),⟨none,.store 2 (.tmp 2) (.tmp 13),none⟩]) .ret))),[.cell 2 2 true]⟩
def a14 : AFunc := ⟨92,(.seq (.region [o 2 (.move (.const (.int .u8 0)))]) (.seq (.block 0 (.seq (.region [o 4 (.move (.tmp 0)),o 5 (.eqnil false .p (.tmp 4)),o 6 (.move (.tmp 5)),⟨some 7,.move (.tmp 0),some (6,false)⟩,⟨some 8,.nilCheck (.tmp 7),some (6,false)⟩,⟨some 9,.faddr 0 (.tmp 8),some (6,false)⟩,⟨some 10,.load 1 false (.tmp 9),some (6,false)⟩,⟨some 11,.nilCheck (.tmp 10),some (6,false)⟩,⟨some 12,.faddr 1 (.tmp 11),some (6,false)⟩,⟨some 13,.load 1 false (.tmp 12),some (6,false)⟩,⟨some 14,.iop .neq (.tmp 13) (.const (.int .i64 0)),some (6,false)⟩,o 15 (.pick (.tmp 6) (.const (.bool true)) (.tmp 14)),o 3 (.move (.tmp 15))]) (.cond (.tmp 3) (.seq (.region [o 2 (.move (.const (.int .u8 0)))]) .ret) (.seq (.region [o 17 (.move (.tmp 0)),o 18 (.nilCheck (.tmp 17)),o 19 (.faddr 0 (.tmp 18)),o 20 (.load 1 false (.tmp 19)),o 21 (.nilCheck (.tmp 20)),o 22 (.faddr 10 (.tmp 21)),o 23 (.load 1 false (.tmp 22)),o 24 (.move (.tmp 23)),⟨some 25,.move (.tmp 0),some (24,false)⟩,⟨some 26,.call .shared 35 [.tmp 25,(.const (.int .i64 1))],some (24,false)⟩,o 27 (.pick (.tmp 24) (.const (.bool true)) (.tmp 26)),o 16 (.move (.tmp 27))]) (.cond (.tmp 16) (.seq (.region [o 2 (.move (.const (.int .u8 1)))]) .ret) (.seq (.drawn [o 29 (.move (.tmp 0)),o 30 (.nilCheck (.tmp 29)),o 31 (.faddr 0 (.tmp 30)),o 32 (.load 1 false (.tmp 31)),o 33 (.nilCheck (.tmp 32)),o 34 (.faddr 15 (.tmp 33)),o 35 (.load 2 true (.tmp 34)),o 36 (.move (.tmp 0)),o 37 (.nilCheck (.tmp 36)),o 38 (.faddr 0 (.tmp 37)),o 39 (.load 1 false (.tmp 38)),o 40 (.nilCheck (.tmp 39)),o 41 (.faddr 14 (.tmp 40)),o 42 (.load 1 false (.tmp 41)),o 43 (.call .shared 37 [.tmp 42]),o 44 (.call .shared 36 [.tmp 35,.tmp 43]),o 45 (.iop .neq (.tmp 44) (.const (.int .i64 0))),o 46 (.move (.tmp 45)),⟨some 47,.move (.tmp 0),some (46,false)⟩,⟨some 48,.nilCheck (.tmp 47),some (46,false)⟩,⟨some 49,.faddr 0 (.tmp 48),some (46,false)⟩,⟨some 50,.load 1 false (.tmp 49),some (46,false)⟩,⟨some 51,.call .shared 38 [.tmp 50],some (46,false)⟩,⟨some 52,.iop .gtr (.tmp 51) (.const (.int .i64 0)),some (46,false)⟩,⟨some 53,.move (.tmp 52),some (46,false)⟩,⟨some 54,.move (.tmp 0),some (53,true)⟩,⟨some 55,.nilCheck (.tmp 54),some (53,true)⟩,⟨some 56,.faddr 0 (.tmp 55),some (53,true)⟩,⟨some 57,.load 1 false (.tmp 56),some (53,true)⟩,⟨some 58,.nilCheck (.tmp 57),some (53,true)⟩,⟨some 59,.faddr 9 (.tmp 58),some (53,true)⟩,⟨some 60,.load 1 false (.tmp 59),some (53,true)⟩,⟨some 61,.iop .gtr (.tmp 60) (.const (.int .i64 0)),some (53,true)⟩,⟨some 62,.pick (.tmp 53) (.tmp 61) (.const (.bool false)),some (46,false)⟩,o 63 (.pick (.tmp 46) (.const (.bool true)) (.tmp 62)),o 28 (.move (.tmp 63))] [(3,14),(6,14)]) (.cond (.tmp 28) (.seq (.region [o 2 (.move (.const (.int .u8 0)))]) .ret) (.seq (.region [o 65 (.move (.tmp 0)),o 66 (.nilCheck (.tmp 65)),o 67 (.faddr 0 (.tmp 66)),o 68 (.load 1 false (.tmp 67)),o 69 (.call .shared 38 [.tmp 68]),o 70 (.iop .gtr (.tmp 69) (.const (.int .i64 0))),o 71 (.move (.tmp 70)),⟨some 72,.move (.tmp 0),some (71,false)⟩,⟨some 73,.call .shared 35 [.tmp 72,(.const (.int .i64 2))],some (71,false)⟩,o 74 (.pick (.tmp 71) (.const (.bool true)) (.tmp 73)),o 64 (.move (.tmp 74))]) (.cond (.tmp 64) (.seq (.region [o 2 (.move (.const (.int .u8 2)))]) .ret) (.seq (.region [o 76 (.move (.tmp 0)),o 77 (.nilCheck (.tmp 76)),o 78 (.faddr 0 (.tmp 77)),o 79 (.load 1 false (.tmp 78)),o 80 (.call .shared 39 [.tmp 79]),o 81 (.iop .gtr (.tmp 80) (.const (.int .i64 0))),o 82 (.move (.tmp 81)),⟨some 83,.move (.tmp 0),some (82,false)⟩,⟨some 84,.nilCheck (.tmp 83),some (82,false)⟩,⟨some 85,.faddr 0 (.tmp 84),some (82,false)⟩,⟨some 86,.load 1 false (.tmp 85),some (82,false)⟩,⟨some 87,.nilCheck (.tmp 86),some (82,false)⟩,⟨some 88,.faddr 17 (.tmp 87),some (82,false)⟩,⟨some 89,.gslice 4 2 (.tmp 88),some (82,false)⟩,⟨some 90,.call .shared 40 [.tmp 89,(.const (.func 41 [] []))],some (82,false)⟩,o 91 (.pick (.tmp 82) (.const (.bool true)) (.tmp 90)),o 75 (.move (.tmp 91))]) (.cond (.tmp 75) (.seq (.region [o 2 (.move (.const (.int .u8 4)))]) .ret) .skip))))))))))) (.seq (.region [o 2 (.move (.const (.int .u8 3)))]) .ret))),[.tmp 2]⟩
def a15 : AFunc := ⟨12,(.seq (.region [o 2 (.move (.const (.int .i64 0)))]) (.seq (.seq (.region [o 3 (.move (.tmp 0)),o 4 (.eqnil false .p (.tmp 3))]) (.cond (.tmp 4) (.seq (.region [o 2 (.move (.const (.int .i64 0)))]) .ret) .skip)) (.seq (.region [o 5 (.move (.tmp 0)),o 6 (.nilCheck (.tmp 5)),o 7 (.faddr 0 (.tmp 6)),o 8 (.load 1 false (.tmp 7)),o 9 (.nilCheck (.tmp 8)),o 10 (.faddr 9 (.tmp 9)),o 11 (.load 1 false (.tmp 10)),o 2 (.move (.tmp 11))]) .ret))),[.tmp 2]⟩
def a16 : AFunc := ⟨13,(.seq (.region [o 2 (.move (.const .nilslice))]) (.seq (.seq (.region [o 3 (.move (.tmp 0)),o 4 (.eqnil false .p (.tmp 3))]) (.cond (.tmp 4) (.seq (.region [o 2 (.move (.const .nilslice))]) .ret) .skip)) (.seq (.region [o 5 (.move (.tmp 0)),o 6 (.nilCheck (.tmp 5)),o 7 (.faddr 0 (.tmp 6)),o 8 (.load 1 false (.tmp 7)),o 9 (.nilCheck (.tmp 8)),o 10 (.faddr 11 (.tmp 9)),o 11 (.load 1 false (.tmp 10)),o 12 (.call .shared 42 [.tmp 11]),o 2 (.move (.tmp 12))]) .ret))),[.tmp 2]⟩
def a17 : AFunc := ⟨12,(.seq (.region [o 2 (.move (.const .nilptr))]) (.seq (.seq (.region [o 3 (.move (.tmp 0)),o 4 (.eqnil false .p (.tmp 3))]) (.cond (.tmp 4) (.seq (.region [o 2 (.move (.const .nilptr))]) .ret) .skip)) (.seq (.region [o 5 (.move (.tmp 0)),o 6 (.nilCheck (.tmp 5)),o 7 (.faddr 0 (.tmp 6)),o 8 (.load 1 false (.tmp 7)),o 9 (.call .shared 26 [.tmp 8]),o 10 (.build [.nilptr] [(0,1,(.tmp 9))]),o 11 (.box (.tmp 10)),o 2 (.move (.tmp 11))]) .ret))),[.tmp 2]⟩
def a19 : AFunc := ⟨75,(.seq (.region [o 8 (.move (.const .nilptr)),o 9 (.move (.const (.int .i64 0)))]) (.seq (.seq (.region [o 16 (.move (.tmp 0)),o 17 (.call .shared 44 [.tmp 16]),o 10 (.move (.tmp 17))]) (.seq (.region [o 18 (.move (.tmp 10)),o 19 (.iop .neq (.tmp 18) (.const (.int .i64 0)))]) (.cond (.tmp 19) (.seq (.region [o 20 (.move (.tmp 10)),o 8 (.move (.const .nilptr)),o 9 (.move (.tmp 20))]) .ret) .skip))) (.seq (.region [o 22 (.move (.tmp 1)),o 23 (.move (.tmp 2)),o 24 (.call .shared 45 [.tmp 22,.tmp 23]),o 21 (.move (.tmp 24)),o 25 (.extract (.tmp 21) 0),o 26 (.extract (.tmp 21) 1),o 11 (.move (.tmp 25)),o 12 (.move (.tmp 26))]) (.seq (.seq (.region [o 27 (.move (.tmp 12)),o 28 (.iop .neq (.tmp 27) (.const (.int .i64 0))),o 29 (.move (.tmp 28)),⟨some 30,.move (.tmp 3),some (29,false)⟩,⟨some 31,.iop .lss (.tmp 30) (.const (.int .i64 0)),some (29,false)⟩,o 32 (.pick (.tmp 29) (.const (.bool true)) (.tmp 31)),o 33 (.move (.tmp 32)),⟨some 34,.move (.tmp 3),some (33,false)⟩,⟨some 35,.iop .gtr (.tmp 34) (.const (.int .i64 1048576)),some (33,false)⟩,o 36 (.pick (.tmp 33) (.const (.bool true)) (.tmp 35))]) (.cond (.tmp 36) (.seq (.region [o 8 (.move (.const .nilptr)),o 9 (.move (.const (.int .i64 2)))]) .ret) .skip)) (.seq (.region [o 37 (.move (.tmp 0)),o 38 (.lenS (.tmp 37)),o 39 (.mkslice 4 80 [.nilslice,.nilslice,.nilslice,.int .i64 0] true (.tmp 38) (.tmp 38)),o 13 (.move (.tmp 39))]) (.seq (.seq (.region [o 40 (.move (.tmp 0)),o 41 (.lenS (.tmp 40)),o 42 (.move (.const (.int .i64 0)))]) (.block 0 (.loop [1,2,3,11,13,40,41,42] (.seq (.region [o 43 (.iop .lss (.tmp 42) (.tmp 41))]) (.seq (.cond (.tmp 43) .skip (.exit 0)) (.seq (.block 1 (.seq (.region [o 44 (.move (.tmp 42)),o 45 (.iaddr 4 (.tmp 40) (.tmp 42)),o 46 (.load 4 true (.tmp 45)),o 15 (.alloc [.nilslice,.nilslice,.nilslice,.int .i64 0]),o 14 (.move (.tmp 44)),⟨none,.store 4 (.tmp 15) (.tmp 46),none⟩]) (.drawn [o 47 (.move (.tmp 13)),o 48 (.move (.tmp 14)),o 49 (.faddr 0 (.tmp 15)),o 50 (.load 1 false (.tmp 49)),o 51 (.call .shared 46 [.tmp 50]),o 52 (.faddr 1 (.tmp 15)),o 53 (.load 1 false (.tmp 52)),o 54 (.call .shared 47 [.tmp 53]),o 55 (.faddr 2 (.tmp 15)),o 56 (.load 1 false (.tmp 55)),o 57 (.call .shared 47 [.tmp 56]),o 58 (.faddr 3 (.tmp 15)),o 59 (.load 1 false (.tmp 58)),o 60 (.build [.nilslice,.nilslice,.nilslice,.int .i64 0] [(0,1,(.tmp 51)),(1,1,(.tmp 54)),(2,1,(.tmp 57)),(3,1,(.tmp 59))]),o 61 (.iaddr 4 (.tmp 47) (.tmp 48)),⟨none,.store 4 (.tmp 61) (.tmp 60),none⟩] [(6,4),(9,4),(9,7),(12,4),(12,7),(12,10)]))) (.region [o 62 (.iop .add (.tmp 42) (.const (.int .i64 1))),o 42 (.move (.tmp 62))]))))))) (.seq (.region [o 63 (.move (.tmp 13)),o 64 (.move (.tmp 1)),o 65 (.move (.tmp 2)),o 66 (.call .shared 48 []),o 67 (.call .shared 49 []),o 68 (.call .shared 50 []),o 69 (.move (.tmp 11)),o 70 (.move (.tmp 3)),o 71 (.build [.nilslice,.int .i64 0,.int .i64 0,.nilptr,.nilptr,.nilptr,.nilptr,.int .i64 0,.int .i64 0,.int .i64 0,.bool false,.nilslice,.int .i64 0,.nilslice,.int .i64 0,.int .i64 0,.nilslice,.int .i64 0,.int .i64 0,.int .i64 0,.int .i64 0,.int .i64 0,.int .i64 0,.int .i64 0,.int .i64 0] [(0,1,(.tmp 63)),(1,1,(.tmp 64)),(2,1,(.tmp 65)),(3,1,(.tmp 66)),(4,1,(.tmp 67)),(5,1,(.tmp 68)),(6,1,(.tmp 69)),(9,1,(.tmp 70))]),o 72 (.box (.tmp 71)),o 73 (.build [.nilptr] [(0,1,(.tmp 72))]),o 74 (.box (.tmp 73)),o 8 (.move (.tmp 74)),o 9 (.move (.const (.int .i64 0)))]) .ret))))))),[.tmp 8,.tmp 9]⟩
def a20 : AFunc := ⟨7,(.seq (.region [o 3 (.box (.tmp 1)),o 4 (.move (.const (.int .i64 0)))]) (.seq (.region [o 5 (.move (.tmp 0)),o 6 (.call .shared 21 [.tmp 5]),o 4 (.move (.tmp 6))]) .ret)),[.tmp 4]⟩
def a21 : AFunc := ⟨95,(.seq (.region [o 2 (.move (.const (.int .i64 0)))]) (.seq (.seq (.region [o 6 (.move (.tmp 0)),o 7 (.nilCheck (.tmp 6)),o 8 (.faddr 0 (.tmp 7)),o 9 (.load 1 false (.tmp 8)),o 10 (.call .shared 38 [.tmp 9]),o 11 (.iop .eql (.tmp 10) (.const (.int .i64 0)))]) (.cond (.tmp 11) (.seq (.region [o 2 (.move (.const (.int .i64 202)))]) .ret) .skip)) (.seq (.seq (.region [o 12 (.move (.tmp 0)),o 13 (.nilCheck (.tmp 12)),o 14 (.faddr 0 (.tmp 13)),o 15 (.load 1 false (.tmp 14)),o 16 (.nilCheck (.tmp 15)),o 17 (.faddr 9 (.tmp 16)),o 18 (.load 1 false (.tmp 17)),o 19 (.iop .eql (.tmp 18) (.const (.int .i64 0)))]) (.cond (.tmp 19) (.seq (.region [o 2 (.move (.const (.int .i64 203)))]) .ret) .skip)) (.seq (.region [o 21 (.move (.tmp 0)),o 22 (.nilCheck (.tmp 21)),o 23 (.faddr 0 (.tmp 22)),o 24 (.load 1 false (.tmp 23)),o 25 (.nilCheck (.tmp 24)),o 26 (.faddr 3 (.tmp 25)),o 27 (.load 1 false (.tmp 26)),o 28 (.call .shared 51 [.tmp 27]),o 20 (.move (.tmp 28)),o 29 (.extract (.tmp 20) 0),o 30 (.extract (.tmp 20) 1),o 3 (.alloc [.int .i64 0,.int .i64 0,.nilslice]),⟨none,.store 3 (.tmp 3) (.tmp 29),none⟩,o 4 (.move (.tmp 30))]) (.seq (.region [o 31 (.move (.tmp 0)),o 32 (.nilCheck (.tmp 31)),o 33 (.faddr 0 (.tmp 32)),o 34 (.load 1 false (.tmp 33)),o 35 (.nilCheck (.tmp 34)),o 36 (.faddr 4 (.tmp 35)),o 37 (.load 1 false (.tmp 36)),o 38 (.faddr 2 (.tmp 3)),o 39 (.load 1 false (.tmp 38)),o 40 (.call .shared 52 [.tmp 37,.tmp 39]),o 5 (.move (.tmp 40))]) (.seq (.block 0 (.seq (.region [o 46 (.move (.tmp 5)),o 47 (.iaddr 5 (.tmp 46) (.const (.int .i64 0))),o 48 (.faddr 0 (.tmp 47)),o 49 (.load 1 false (.tmp 48)),o 50 (.iop .eql (.tmp 49) (.const (.int .u8 4))),o 45 (.move (.tmp 50))]) (.cond (.tmp 45) (.region [o 51 (.move (.tmp 0)),o 52 (.load 3 true (.tmp 3)),o 53 (.move (.tmp 5)),o 54 (.iaddr 5 (.tmp 53) (.const (.int .i64 0))),o 55 (.faddr 3 (.tmp 54)),o 56 (.load 2 true (.tmp 55)),o 57 (.lit 2 [.int .i64 0,.int .i64 0] true 1 [(0,(.tmp 56))]),o 58 (.call .shared 53 [.tmp 51,.tmp 52,.tmp 57])]) (.seq (.region [o 60 (.move (.tmp 5)),o 61 (.iaddr 5 (.tmp 60) (.const (.int .i64 0))),o 62 (.faddr 0 (.tmp 61)),o 63 (.load 1 false (.tmp 62)),o 64 (.iop .eql (.tmp 63) (.const (.int .u8 1))),o 59 (.move (.tmp 64))]) (.cond (.tmp 59) (.region [o 65 (.move (.tmp 0)),o 66 (.load 3 true (.tmp 3)),o 67 (.call .shared 54 [.tmp 65,.tmp 66,(.const (.func 55 [] []))])]) (.seq (.region [o 69 (.move (.tmp 5)),o 70 (.call .shared 56 [.tmp 69,(.const (.str [116,114,117,101])),(.const (.int .i64 0))]),o 68 (.move (.tmp 70))]) (.cond (.tmp 68) (.region [o 71 (.move (.tmp 0)),o 72 (.load 3 true (.tmp 3)),o 73 (.call .shared 54 [.tmp 71,.tmp 72,(.const (.func 57 [] []))])]) (.seq (.region [o 75 (.move (.tmp 5)),o 76 (.call .shared 56 [.tmp 75,(.const (.str [61])),(.const (.int .i64 2))]),o 74 (.move (.tmp 76))]) (.cond (.tmp 74) (.region [o 77 (.move (.tmp 0)),o 78 (.load 3 true (.tmp 3)),o 79 (.move (.tmp 5)),o 80 (.call .shared 58 [.tmp 77,.tmp 78,.tmp 79])]) (.seq (.region [o 82 (.move (.tmp 5)),o 83 (.call .shared 56 [.tmp 82,(.const (.str [58,61])),(.const (.int .i64 2))]),o 81 (.move (.tmp 83))]) (.cond (.tmp 81) (.region [o 84 (.move (.tmp 0)),o 85 (.load 3 true (.tmp 3)),o 86 (.move (.tmp 5)),o 87 (.call .shared 59 [.tmp 84,.tmp 85,.tmp 86])]) (.seq (.region [o 89 (.move (.tmp 5)),o 90 (.call .shared 56 [.tmp 89,(.const (.str [64])),(.const (.int .i64 2))]),o 88 (.move (.tmp 90))]) (.cond (.tmp 88) (.region [o 91 (.move (.tmp 0)),o 92 (.load 3 true (.tmp 3)),o 93 (.move (.tmp 5)),o 94 (.call .shared 60 [.tmp 91,.tmp 92,.tmp 93])]) (.region [o 41 (.move (.tmp 0)),o 42 (.load 3 true (.tmp 3)),o 43 (.move (.tmp 5)),o 44 (.call .shared 61 [.tmp 41,.tmp 42,.tmp 43])])))))))))))))) (.seq (.region [o 2 (.move (.const (.int .i64 0)))]) .ret))))))),[.tmp 2]⟩
def a23 : AFunc := ⟨162,(.seq (.region [o 3 (.box (.tmp 1)),o 4 (.move (.const (.int .i64 0)))]) (.seq (.seq (.region [o 15 (.move (.tmp 0)),o 16 (.nilCheck (.tmp 15)),o 17 (.faddr 0 (.tmp 16)),o 18 (.load 1 false (.tmp 17)),o 19 (.nilCheck (.tmp 18)),o 20 (.faddr 1 (.tmp 19)),o 21 (.load 1 false (.tmp 20)),o 22 (.iop .neq (.tmp 21) (.const (.int .i64 0)))]) (.cond (.tmp 22) (.seq (.region [o 4 (.move (.const (.int .i64 2)))]) .ret) .skip)) (.seq (.region [o 23 (.faddr 3 (.tmp 3)),o 24 (.load 1 false (.tmp 23)),o 25 (.lit 1 [.nilslice] false 1 [(0,(.tmp 24))]),o 26 (.call .shared 70 [.tmp 25]),o 5 (.move (.tmp 26))]) (.seq (.region [o 6 (.move (.const (.bool true)))]) (.seq (.seq (.region [o 27 (.move (.tmp 5)),o 28 (.lenS (.tmp 27)),o 29 (.move (.const (.int .i64 0)))]) (.block 0 (.loop [0,3,5,6,27,28,29] (.seq (.region [o 30 (.iop .lss (.tmp 29) (.tmp 28))]) (.seq (.cond (.tmp 30) .skip (.exit 0)) (.seq (.block 1 (.seq (.region [o 31 (.move (.tmp 29)),o 32 (.iaddr 2 (.tmp 27) (.tmp 29)),o 33 (.load 2 true (.tmp 32)),o 8 (.alloc [.int .i64 0,.int .i64 0]),o 7 (.move (.tmp 31)),⟨none,.store 2 (.tmp 8) (.tmp 33),none⟩]) (.region [o 34 (.move (.tmp 6)),o 35 (.move (.tmp 34)),⟨some 36,.load 2 true (.tmp 8),some (35,true)⟩,⟨some 37,.move (.tmp 7),some (35,true)⟩,⟨some 38,.build [.int .i64 0,.int .i64 0] [(0,1,(.const (.int .i64 (-1)))),(1,1,(.tmp 37))],some (35,true)⟩,⟨some 39,.eqs false [.i,.i] (.tmp 36) (.tmp 38),some (35,true)⟩,o 40 (.pick (.tmp 35) (.tmp 39) (.const (.bool false))),o 6 (.move (.tmp 40))]))) (.region [o 41 (.iop .add (.tmp 29) (.const (.int .i64 1))),o 29 (.move (.tmp 41))]))))))) (.seq (.seq (.region [o 42 (.faddr 3 (.tmp 3)),o 43 (.load 1 false (.tmp 42)),o 44 (.call .shared 71 [.tmp 43]),o 45 (.not (.tmp 44)),o 46 (.move (.tmp 45)),⟨some 47,.move (.tmp 6),some (46,false)⟩,⟨some 48,.not (.tmp 47),some (46,false)⟩,o 49 (.pick (.tmp 46) (.const (.bool true)) (.tmp 48))]) (.cond (.tmp 49) (.seq (.region [o 4 (.move (.const (.int .i64 6)))]) .ret) .skip)) (.seq (.ahead [o 51 (.move (.tmp 0)),o 52 (.nilCheck (.tmp 51)),o 53 (.faddr 0 (.tmp 52)),o 54 (.load 1 false (.tmp 53)),o 55 (.nilCheck (.tmp 54)),o 56 (.faddr 12 (.tmp 55)),o 57 (.load 2 true (.tmp 56)),o 58 (.call .shared 37 [(.const (.int .i64 1))]),o 59 (.lit 2 [.int .i64 0,.nilslice] true 2 [(0,(.tmp 57)),(1,(.tmp 58))]),o 60 (.call .shared 66 [.tmp 59]),o 50 (.move (.tmp 60)),o 61 (.extract (.tmp 50) 0),o 62 (.extract (.tmp 50) 1),o 9 (.alloc [.int .i64 0,.nilslice]),⟨none,.store 2 (.tmp 9) (.tmp 61),none⟩,o 10 (.move (.tmp 62))] [(3,7),(6,7)]) (.seq (.seq (.region [o 63 (.move (.tmp 0)),o 64 (.nilCheck (.tmp 63)),o 65 (.faddr 0 (.tmp 64)),o 66 (.load 1 false (.tmp 65)),o 67 (.nilCheck (.tmp 66)),o 68 (.faddr 14 (.tmp 67)),o 69 (.load 1 false (.tmp 68)),o 70 (.iop .eql (.tmp 69) (.const (.int .i64 2147483647))),o 71 (.move (.tmp 70)),⟨some 72,.move (.tmp 10),some (71,false)⟩,⟨some 73,.iop .neq (.tmp 72) (.const (.int .i64 0)),some (71,false)⟩,o 74 (.pick (.tmp 71) (.const (.bool true)) (.tmp 73))]) (.cond (.tmp 74) (.seq (.region [o 4 (.move (.const (.int .i64 3)))]) .ret) .skip)) (.seq (.region [o 75 (.move (.tmp 0)),o 76 (.nilCheck (.tmp 75)),o 77 (.faddr 0 (.tmp 76)),o 78 (.load 1 false (.tmp 77)),o 79 (.nilCheck (.tmp 78)),o 80 (.faddr 14 (.tmp 79)),o 81 (.load 1 false (.tmp 80)),o 82 (.iop .add (.tmp 81) (.const (.int .i64 1))),o 83 (.nilCheck (.tmp 78)),o 84 (.faddr 14 (.tmp 83)),⟨none,.store 1 (.tmp 84) (.tmp 82),none⟩]) (.seq (.region [o 85 (.move (.tmp 0)),o 86 (.nilCheck (.tmp 85)),o 87 (.faddr 0 (.tmp 86)),o 88 (.load 1 false (.tmp 87)),o 89 (.load 2 true (.tmp 9)),o 90 (.nilCheck (.tmp 88)),o 91 (.faddr 12 (.tmp 90)),⟨none,.store 2 (.tmp 91) (.tmp 89),none⟩]) (.seq (.region [o 11 (.move (.const .nilslice))]) (.seq (.seq (.region [o 92 (.move (.tmp 5)),o 93 (.lenS (.tmp 92)),o 94 (.move (.const (.int .i64 0)))]) (.block 2 (.loop [0,3,11,93,94] (.seq (.region [o 95 (.iop .lss (.tmp 94) (.tmp 93))]) (.seq (.cond (.tmp 95) .skip (.exit 2)) (.seq (.block 3 (.seq (.drawn [o 96 (.move (.tmp 0)),o 97 (.nilCheck (.tmp 96)),o 98 (.faddr 0 (.tmp 97)),o 99 (.load 1 false (.tmp 98)),o 100 (.nilCheck (.tmp 99)),o 101 (.faddr 1 (.tmp 100)),o 102 (.load 1 false (.tmp 101)),o 103 (.move (.tmp 0)),o 104 (.nilCheck (.tmp 103)),o 105 (.faddr 0 (.tmp 104)),o 106 (.load 1 false (.tmp 105)),o 107 (.nilCheck (.tmp 106)),o 108 (.faddr 8 (.tmp 107)),o 109 (.load 1 false (.tmp 108)),o 110 (.build [.int .i64 0,.int .i64 0] [(0,1,(.tmp 102)),(1,1,(.tmp 109))]),o 12 (.alloc [.int .i64 0,.int .i64 0]),⟨none,.store 2 (.tmp 12) (.tmp 110),none⟩] [(3,15),(6,15),(10,15),(13,15)]) (.seq (.region [o 111 (.move (.tmp 0)),o 112 (.nilCheck (.tmp 111)),o 113 (.faddr 0 (.tmp 112)),o 114 (.load 1 false (.tmp 113)),o 115 (.nilCheck (.tmp 114)),o 116 (.faddr 8 (.tmp 115)),o 117 (.load 1 false (.tmp 116)),o 118 (.iop .add (.tmp 117) (.const (.int .i64 1))),o 119 (.nilCheck (.tmp 114)),o 120 (.faddr 8 (.tmp 119)),⟨none,.store 1 (.tmp 120) (.tmp 118),none⟩]) (.seq (.drawn [o 121 (.move (.tmp 0)),o 122 (.nilCheck (.tmp 121)),o 123 (.faddr 0 (.tmp 122)),o 124 (.load 1 false (.tmp 123)),o 125 (.move (.tmp 0)),o 126 (.nilCheck (.tmp 125)),o 127 (.faddr 0 (.tmp 126)),o 128 (.load 1 false (.tmp 127)),o 129 (.nilCheck (.tmp 128)),o 130 (.faddr 11 (.tmp 129)),o 131 (.load 1 false (.tmp 130)),o 132 (.load 2 true (.tmp 12)),o 133 (.lit 2 [.int .i64 0,.int .i64 0] true 1 [(0,(.tmp 132))]),o 134 (.append 2 16 (.tmp 131) (.tmp 133)),o 135 (.nilCheck (.tmp 124)),o 136 (.faddr 11 (.tmp 135)),⟨none,.store 1 (.tmp 136) (.tmp 134),none⟩] [(3,13)]) (.region [o 137 (.move (.tmp 11)),o 138 (.load 2 true (.tmp 12)),o 139 (.call .shared 72 [.tmp 138]),o 140 (.lit 1 [.nilslice] false 1 [(0,(.tmp 139))]),o 141 (.append 1 24 (.tmp 137) (.tmp 140)),o 11 (.move (.tmp 141))]))))) (.region [o 142 (.iop .add (.tmp 94) (.const (.int .i64 1))),o 94 (.move (.tmp 142))]))))))) (.seq (.region [o 144 (.faddr 3 (.tmp 3)),o 145 (.load 1 false (.tmp 144)),o 146 (.move (.tmp 11)),o 147 (.call .shared 73 [.tmp 145,.tmp 146]),o 143 (.move (.tmp 147)),o 148 (.extract (.tmp 143) 0),o 149 (.extract (.tmp 143) 1),o 13 (.move (.tmp 148)),o 14 (.move (.tmp 149))]) (.seq (.drawn [o 150 (.move (.tmp 0)),o 151 (.nilCheck (.tmp 150)),o 152 (.faddr 0 (.tmp 151)),o 153 (.load 1 false (.tmp 152)),o 154 (.nilCheck (.tmp 153)),o 155 (.faddr 3 (.tmp 154)),o 156 (.load 1 false (.tmp 155)),o 157 (.move (.tmp 0)),o 158 (.move (.tmp 13)),o 159 (.lit 1 [.nilslice] false 1 [(0,(.tmp 158))]),o 160 (.call .shared 75 [.tmp 157,.tmp 159]),o 161 (.call .shared 74 [.tmp 156,.tmp 160])] [(3,10),(6,10)]) (.seq (.region [o 4 (.move (.const (.int .i64 0)))]) .ret))))))))))))))),[.tmp 4]⟩
def a26 : AFunc := ⟨37,(.seq (.region [o 2 (.move (.const .nilptr))]) (.seq (.region [o 4 (.move (.tmp 0)),o 5 (.nilCheck (.tmp 4)),o 6 (.load 25 true (.tmp 5)),o 3 (.alloc [.nilslice,.int .i64 0,.int .i64 0,.nilptr,.nilptr,.nilptr,.nilptr,.int .i64 0,.int .i64 0,.int .i64 0,.bool false,.nilslice,.int .i64 0,.nilslice,.int .i64 0,.int .i64 0,.nilslice,.int .i64 0,.int .i64 0,.int .i64 0,.int .i64 0,.int .i64 0,.int .i64 0,.int .i64 0,.int .i64 0]),⟨none,.store 25 (.tmp 3) (.tmp 6),none⟩]) (.seq (.drawn [o 7 (.move (.tmp 0)),o 8 (.nilCheck (.tmp 7)),o 9 (.faddr 3 (.tmp 8)),o 10 (.load 1 false (.tmp 9)),o 11 (.call .shared 85 [.tmp 10]),o 12 (.move (.tmp 0)),o 13 (.nilCheck (.tmp 12)),o 14 (.faddr 4 (.tmp 13)),o 15 (.load 1 false (.tmp 14)),o 16 (.call .shared 31 [.tmp 15]),o 17 (.move (.tmp 0)),o 18 (.nilCheck (.tmp 17)),o 19 (.faddr 5 (.tmp 18)),o 20 (.load 1 false (.tmp 19)),o 21 (.call .shared 86 [.tmp 20]),o 22 (.move (.tmp 0)),o 23 (.nilCheck (.tmp 22)),o 24 (.faddr 6 (.tmp 23)),o 25 (.load 1 false (.tmp 24)),o 26 (.call .shared 87 [.tmp 25]),o 27 (.faddr 3 (.tmp 3)),⟨none,.store 1 (.tmp 27) (.tmp 11),none⟩,o 28 (.faddr 4 (.tmp 3)),⟨none,.store 1 (.tmp 28) (.tmp 16),none⟩,o 29 (.faddr 5 (.tmp 3)),⟨none,.store 1 (.tmp 29) (.tmp 21),none⟩,o 30 (.faddr 6 (.tmp 3)),⟨none,.store 1 (.tmp 30) (.tmp 26),none⟩] [(8,4),(13,4),(13,9),(18,4),(18,9),(18,14)]) (.seq (.region [o 31 (.move (.tmp 0)),o 32 (.nilCheck (.tmp 31)),o 33 (.faddr 11 (.tmp 32)),o 34 (.load 1 false (.tmp 33)),o 35 (.call .shared 42 [.tmp 34]),o 36 (.faddr 11 (.tmp 3)),⟨none,.store 1 (.tmp 36) (.tmp 35),none⟩]) (.seq (.region [o 2 (.move (.tmp 3))]) .ret))))),[.tmp 2]⟩
def a27 : AFunc := ⟨26,(.seq (.region [o 4 (.move (.const (.bool false)))]) (.seq (.region [o 10 (.move (.tmp 0)),o 11 (.call .shared 88 [.tmp 10]),o 9 (.move (.tmp 11)),o 12 (.extract (.tmp 9) 0),o 13 (.extract (.tmp 9) 1),o 5 (.move (.tmp 12)),o 6 (.move (.tmp 13))]) (.seq (.region [o 15 (.move (.tmp 1)),o 16 (.call .shared 88 [.tmp 15]),o 14 (.move (.tmp 16)),o 17 (.extract (.tmp 14) 0),o 18 (.extract (.tmp 14) 1),o 7 (.move (.tmp 17)),o 8 (.move (.tmp 18))]) (.seq (.region [o 19 (.move (.tmp 5)),o 20 (.iop .leq (.tmp 19) (.const (.int .i64 64))),o 21 (.move (.tmp 20)),⟨some 22,.move (.tmp 5),some (21,false)⟩,⟨some 23,.move (.tmp 7),some (21,false)⟩,⟨some 24,.iop .leq (.tmp 22) (.tmp 23),some (21,false)⟩,o 25 (.pick (.tmp 21) (.const (.bool true)) (.tmp 24)),o 4 (.move (.tmp 25))]) .ret)))),[.tmp 4]⟩
def a28 : AFunc := ⟨99,(.seq (.seq (.region [o 4 (.move (.tmp 0)),o 5 (.nilCheck (.tmp 4)),o 6 (.faddr 0 (.tmp 5)),o 7 (.load 1 false (.tmp 6)),o 8 (.call .shared 38 [.tmp 7]),o 9 (.iop .gtr (.tmp 8) (.const (.int .i64 0))),o 10 (.move (.tmp 9)),⟨some 11,.move (.tmp 0),some (10,true)⟩,⟨some 12,.nilCheck (.tmp 11),some (10,true)⟩,⟨some 13,.faddr 0 (.tmp 12),some (10,true)⟩,⟨some 14,.load 1 false (.tmp 13),some (10,true)⟩,⟨some 15,.nilCheck (.tmp 14),some (10,true)⟩,⟨some 16,.faddr 9 (.tmp 15),some (10,true)⟩,⟨some 17,.load 1 false (.tmp 16),some (10,true)⟩,⟨some 18,.iop .gtr (.tmp 17) (.const (.int .i64 0)),some (10,true)⟩,o 19 (.pick (.tmp 10) (.tmp 18) (.const (.bool false))),o 20 (.move (.tmp 19)),⟨some 21,.move (.tmp 0),some (20,false)⟩,⟨some 22,.nilCheck (.tmp 21),some (20,false)⟩,⟨some 23,.faddr 0 (.tmp 22),some (20,false)⟩,⟨some 24,.load 1 false (.tmp 23),some (20,false)⟩,⟨some 25,.nilCheck (.tmp 24),some (20,false)⟩,⟨some 26,.faddr 12 (.tmp 25),some (20,false)⟩,⟨some 27,.load 2 true (.tmp 26),some (20,false)⟩,⟨some 28,.call .shared 89 [.tmp 27],some (20,false)⟩,o 29 (.pick (.tmp 20) (.const (.bool true)) (.tmp 28))]) (.cond (.tmp 29) .ret .skip)) (.seq (.region [o 30 (.move (.tmp 0)),o 31 (.nilCheck (.tmp 30)),o 32 (.faddr 0 (.tmp 31)),o 33 (.load 1 false (.tmp 32)),o 34 (.nilCheck (.tmp 33)),o 35 (.faddr 12 (.tmp 34)),o 36 (.load 2 true (.tmp 35)),o 2 (.alloc [.int .i64 0,.nilslice]),⟨none,.store 2 (.tmp 2) (.tmp 36),none⟩]) (.seq (.region [o 37 (.move (.tmp 0)),o 38 (.nilCheck (.tmp 37)),o 39 (.faddr 0 (.tmp 38)),o 40 (.load 1 false (.tmp 39)),o 41 (.build [.int .i64 0,.nilslice] []),o 42 (.nilCheck (.tmp 40)),o 43 (.faddr 12 (.tmp 42)),⟨none,.store 2 (.tmp 43) (.tmp 41),none⟩]) (.seq (.seq (.region [o 44 (.move (.tmp 0)),o 45 (.nilCheck (.tmp 44)),o 46 (.faddr 0 (.tmp 45)),o 47 (.load 1 false (.tmp 46)),o 48 (.nilCheck (.tmp 47)),o 49 (.faddr 1 (.tmp 48)),o 50 (.load 1 false (.tmp 49)),o 51 (.iop .eql (.tmp 50) (.const (.int .i64 0)))]) (.cond (.tmp 51) (.seq (.drawn [o 53 (.move (.tmp 0)),o 54 (.nilCheck (.tmp 53)),o 55 (.faddr 0 (.tmp 54)),o 56 (.load 1 false (.tmp 55)),o 57 (.move (.tmp 0)),o 58 (.nilCheck (.tmp 57)),o 59 (.faddr 0 (.tmp 58)),o 60 (.load 1 false (.tmp 59)),o 61 (.nilCheck (.tmp 60)),o 62 (.faddr 15 (.tmp 61)),o 63 (.load 2 true (.tmp 62)),o 64 (.load 2 true (.tmp 2)),o 65 (.lit 2 [.int .i64 0,.nilslice] true 2 [(0,(.tmp 63)),(1,(.tmp 64))]),o 66 (.call .shared 66 [.tmp 65]),o 52 (.move (.tmp 66)),o 67 (.extract (.tmp 52) 0),o 68 (.extract (.tmp 52) 1),o 69 (.nilCheck (.tmp 56)),o 70 (.faddr 15 (.tmp 69)),⟨none,.store 2 (.tmp 70) (.tmp 67),none⟩] [(3,13)]) .ret) .skip)) (.seq (.ahead [o 71 (.move (.tmp 0)),o 72 (.nilCheck (.tmp 71)),o 73 (.faddr 0 (.tmp 72)),o 74 (.load 1 false (.tmp 73)),o 75 (.call .shared 39 [.tmp 74]),o 76 (.load 2 true (.tmp 2)),o 77 (.build [.int .u8 0,.int .i64 0,.int .i64 0,.int .i64 0,.int .i64 0,.nilslice,.int .i64 0,.int .i64 0,.int .i64 0,.nilslice] [(0,1,(.const (.int .u8 6))),(6,1,(.tmp 75)),(8,2,(.tmp 76))]),o 3 (.alloc [.int .u8 0,.int .i64 0,.int .i64 0,.int .i64 0,.int .i64 0,.nilslice,.int .i64 0,.int .i64 0,.int .i64 0,.nilslice]),⟨none,.store 10 (.tmp 3) (.tmp 77),none⟩] [(5,4)]) (.seq (.seq (.region [o 78 (.move (.tmp 0)),o 79 (.nilCheck (.tmp 78)),o 80 (.faddr 0 (.tmp 79)),o 81 (.load 1 false (.tmp 80)),o 82 (.nilCheck (.tmp 81)),o 83 (.faddr 10 (.tmp 82)),o 84 (.load 1 false (.tmp 83))]) (.cond (.tmp 84) (.region [o 85 (.faddr 7 (.tmp 3)),⟨none,.store 1 (.tmp 85) (.const (.int .i64 1)),none⟩]) .skip)) (.seq (.seq (.region [o 86 (.move (.tmp 0)),o 87 (.nilCheck (.tmp 86)),o 88 (.faddr 0 (.tmp 87)),o 89 (.load 1 false (.tmp 88)),o 90 (.call .shared 38 [.tmp 89]),o 91 (.iop .gtr (.tmp 90) (.const (.int .i64 0)))]) (.cond (.tmp 91) (.region [o 92 (.faddr 7 (.tmp 3)),o 93 (.load 1 false (.tmp 92)),o 94 (.iop .or (.tmp 93) (.const (.int .i64 2))),o 95 (.faddr 7 (.tmp 3)),⟨none,.store 1 (.tmp 95) (.tmp 94),none⟩]) .skip)) (.region [o 96 (.move (.tmp 0)),o 97 (.load 10 true (.tmp 3)),o 98 (.call .shared 79 [.tmp 96,(.const (.int .i64 0)),.tmp 97])])))))))),[]⟩
def a31 : AFunc := ⟨12,(.seq (.region [o 2 (.move (.const .nilptr))]) (.seq (.seq (.region [o 3 (.move (.tmp 0)),o 4 (.eqnil false .p (.tmp 3))]) (.cond (.tmp 4) (.seq (.region [o 2 (.move (.const .nilptr))]) .ret) .skip)) (.seq (.region [o 5 (.move (.tmp 0)),o 6 (.nilCheck (.tmp 5)),o 7 (.faddr 0 (.tmp 6)),o 8 (.load 1 false (.tmp 7)),o 9 (.call .shared 92 [.tmp 8]),o 10 (.build [.nilmap] [(0,1,(.tmp 9))]),o 11 (.box (.tmp 10)),o 2 (.move (.tmp 11))]) .ret))),[.tmp 2]⟩
def a35 : AFunc := ⟨14,(.seq (.region [o 3 (.box (.tmp 1)),o 4 (.move (.const (.bool false)))]) (.seq (.region [o 5 (.move (.tmp 0)),o 6 (.nilCheck (.tmp 5)),o 7 (.faddr 0 (.tmp 6)),o 8 (.load 1 false (.tmp 7)),o 9 (.nilCheck (.tmp 8)),o 10 (.faddr 17 (.tmp 9)),o 11 (.gslice 4 2 (.tmp 10)),o 12 (.mkfunc 94 [] [.tmp 3]),o 13 (.call .shared 40 [.tmp 11,.tmp 12]),o 4 (.move (.tmp 13))]) .ret)),[.tmp 4]⟩
def a36 : AFunc := ⟨25,(.seq (.region [o 2 (.box (.tmp 0)),o 3 (.box (.tmp 1)),o 4 (.move (.const (.int .i64 0)))]) (.seq (.seq (.region [o 5 (.load 2 true (.tmp 2)),o 6 (.call .shared 95 [.tmp 5]),o 7 (.not (.tmp 6)),o 8 (.move (.tmp 7)),⟨some 9,.load 2 true (.tmp 3),some (8,false)⟩,⟨some 10,.call .shared 95 [.tmp 9],some (8,false)⟩,⟨some 11,.not (.tmp 10),some (8,false)⟩,o 12 (.pick (.tmp 8) (.const (.bool true)) (.tmp 11))]) (.cond (.tmp 12) (.seq (.region [o 4 (.move (.const (.int .i64 0)))]) .ret) .skip)) (.seq (.drawn [o 13 (.faddr 0 (.tmp 2)),o 14 (.load 1 false (.tmp 13)),o 15 (.faddr 0 (.tmp 3)),o 16 (.load 1 false (.tmp 15)),o 17 (.call .shared 97 [.tmp 14,.tmp 16]),o 18 (.faddr 1 (.tmp 2)),o 19 (.load 1 false (.tmp 18)),o 20 (.faddr 1 (.tmp 3)),o 21 (.load 1 false (.tmp 20)),o 22 (.call .shared 98 [.tmp 19,.tmp 21]),o 23 (.lit 1 [.int .i64 0] false 2 [(0,(.tmp 17)),(1,(.tmp 22))]),o 24 (.call .shared 96 [.tmp 23]),o 4 (.move (.tmp 24))] [(6,4),(8,4)]) .ret))),[.tmp 4]⟩
def a37 : AFunc := ⟨12,(.seq (.region [o 2 (.alloc [.int .i64 0,.nilslice])]) (.seq (.seq (.region [o 3 (.move (.tmp 0)),o 4 (.iop .lss (.tmp 3) (.const (.int .i64 0))),o 5 (.move (.tmp 4)),⟨some 6,.move (.tmp 0),some (5,false)⟩,⟨some 7,.iop .gtr (.tmp 6) (.const (.int .i64 2147483647)),some (5,false)⟩,o 8 (.pick (.tmp 5) (.const (.bool true)) (.tmp 7))]) (.cond (.tmp 8) (.seq (.region [o 9 (.build [.int .i64 0,.nilslice] []),⟨none,.store 2 (.tmp 2) (.tmp 9),none⟩]) .ret) .skip)) (.seq (.region [o 10 (.move (.tmp 0)),o 11 (.build [.int .i64 0,.nilslice] [(0,1,(.tmp 10))]),⟨none,.store 2 (.tmp 2) (.tmp 11),none⟩]) .ret))),[.cell 2 2 true]⟩
def a38 : AFunc := ⟨14,(.seq (.region [o 2 (.move (.const (.int .i64 0)))]) (.seq (.region [o 6 (.move (.tmp 0)),o 7 (.nilCheck (.tmp 6)),o 8 (.faddr 3 (.tmp 7)),o 9 (.load 1 false (.tmp 8)),o 10 (.call .shared 99 [.tmp 9]),o 5 (.move (.tmp 10)),o 11 (.extract (.tmp 5) 0),o 12 (.extract (.tmp 5) 1),o 3 (.move (.tmp 11)),o 4 (.move (.tmp 12))]) (.seq (.region [o 13 (.move (.tmp 3)),o 2 (.move (.tmp 13))]) .ret))),[.tmp 2]⟩
def a39 : AFunc := ⟨14,(.seq (.region [o 2 (.move (.const (.int .i64 0)))]) (.seq (.region [o 6 (.move (.tmp 0)),o 7 (.nilCheck (.tmp 6)),o 8 (.faddr 3 (.tmp 7)),o 9 (.load 1 false (.tmp 8)),o 10 (.call .shared 99 [.tmp 9]),o 5 (.move (.tmp 10)),o 11 (.extract (.tmp 5) 0),o 12 (.extract (.tmp 5) 1),o 3 (.move (.tmp 11)),o 4 (.move (.tmp 12))]) (.seq (.region [o 13 (.move (.tmp 4)),o 2 (.move (.tmp 13))]) .ret))),[.tmp 2]⟩
def a40 : AFunc := ⟨9,(.seq (.region [o 4 (.move (.const (.bool false)))]) (.seq (.region [o 5 (.move (.tmp 0)),o 6 (.move (.tmp 1)),o 7 (.call .shared 100 [.tmp 5,.tmp 6]),o 8 (.iop .geq (.tmp 7) (.const (.int .i64 0))),o 4 (.move (.tmp 8))]) .ret)),[.tmp 4]⟩
def a41 : AFunc := ⟨6,(.seq (.region [o 1 (.box (.tmp 0)),o 2 (.move (.const (.bool false)))]) (.seq (.region [o 3 (.faddr 0 (.tmp 1)),o 4 (.load 1 false (.tmp 3)),o 5 (.iop .gtr (.tmp 4) (.const (.int .i64 0))),o 2 (.move (.tmp 5))]) .ret)),[.tmp 2]⟩
def a42 : AFunc := ⟨8,(.seq (.region [o 2 (.move (.const .nilslice))]) (.seq (.seq (.region [o 3 (.move (.tmp 0)),o 4 (.eqnil false .s (.tmp 3))]) (.cond (.tmp 4) (.seq (.region [o 2 (.move (.const .nilslice))]) .ret) .skip)) (.seq (.region [o 5 (.lit 2 [.int .i64 0,.int .i64 0] true 0 []),o 6 (.move (.tmp 0)),o 7 (.append 2 16 (.tmp 5) (.tmp 6)),o 2 (.move (.tmp 7))]) .ret))),[.tmp 2]⟩
def a44 : AFunc := ⟨11,(.seq (.region [o 2 (.move (.const (.int .i64 0)))]) (.seq (.region [o 6 (.move (.tmp 0)),o 7 (.call .shared 101 [.tmp 6]),o 5 (.move (.tmp 7)),o 8 (.extract (.tmp 5) 0),o 9 (.extract (.tmp 5) 1),o 3 (.move (.tmp 8)),o 4 (.move (.tmp 9))]) (.seq (.region [o 10 (.move (.tmp 4)),o 2 (.move (.tmp 10))]) .ret))),[.tmp 2]⟩
def a45 : AFunc := ⟨27,(.seq (.region [o 4 (.move (.const .nilptr)),o 5 (.move (.const (.int .i64 0)))]) (.seq (.region [o 7 (.move (.tmp 0)),o 8 (.move (.tmp 1)),o 9 (.build [.int .i64 0,.int .i64 0] [(0,1,(.tmp 7)),(1,1,(.tmp 8))]),o 6 (.alloc [.int .i64 0,.int .i64 0]),⟨none,.store 2 (.tmp 6) (.tmp 9),none⟩]) (.seq (.seq (.region [o 10 (.move (.tmp 1)),o 11 (.iop .lss (.tmp 10) (.const (.int .i64 1))),o 12 (.move (.tmp 11)),⟨some 13,.move (.tmp 1),some (12,false)⟩,⟨some 14,.iop .gtr (.tmp 13) (.const (.int .i64 4)),some (12,false)⟩,o 15 (.pick (.tmp 12) (.const (.bool true)) (.tmp 14)),o 16 (.move (.tmp 15)),⟨some 17,.load 2 true (.tmp 6),some (16,false)⟩,⟨some 18,.move (.tmp 0),some (16,false)⟩,⟨some 19,.call .shared 102 [.tmp 17,.tmp 18],some (16,false)⟩,⟨some 20,.not (.tmp 19),some (16,false)⟩,o 21 (.pick (.tmp 16) (.const (.bool true)) (.tmp 20))]) (.cond (.tmp 21) (.seq (.region [o 4 (.move (.const .nilptr)),o 5 (.move (.const (.int .i64 2)))]) .ret) .skip)) (.seq (.region [o 22 (.load 2 true (.tmp 6)),o 23 .mkmap,o 24 .mkmap,o 25 (.build [.int .i64 0,.int .i64 0,.nilmap,.nilmap] [(0,2,(.tmp 22)),(2,1,(.tmp 23)),(3,1,(.tmp 24))]),o 26 (.box (.tmp 25)),o 4 (.move (.tmp 26)),o 5 (.move (.const (.int .i64 0)))]) .ret)))),[.tmp 4,.tmp 5]⟩
def a46 : AFunc := ⟨8,(.seq (.region [o 2 (.move (.const .nilslice))]) (.seq (.seq (.region [o 3 (.move (.tmp 0)),o 4 (.eqnil false .s (.tmp 3))]) (.cond (.tmp 4) (.seq (.region [o 2 (.move (.const .nilslice))]) .ret) .skip)) (.seq (.region [o 5 (.lit 5 [.int .u8 0,(.str []),.int .i64 0,.int .i64 0,.int .i64 0] true 0 []),o 6 (.move (.tmp 0)),o 7 (.append 5 48 (.tmp 5) (.tmp 6)),o 2 (.move (.tmp 7))]) .ret))),[.tmp 2]⟩
def a48 : AFunc := ⟨3,(.seq (.region [o 0 (.move (.const .nilptr))]) (.seq (.region [o 1 (.build [.nilslice,.nilslice] []),o 2 (.box (.tmp 1)),o 0 (.move (.tmp 2))]) .ret)),[.tmp 0]⟩
def a49 : AFunc := ⟨4,(.seq (.region [o 0 (.move (.const .nilptr))]) (.seq (.region [o 1 .mkmap,o 2 (.build [.nilmap] [(0,1,(.tmp 1))]),o 3 (.box (.tmp 2)),o 0 (.move (.tmp 3))]) .ret)),[.tmp 0]⟩
def a50 : AFunc := ⟨5,(.seq (.region [o 0 (.move (.const .nilptr))]) (.seq (.region [o 1 .mkmap,o 2 .mkmap,o 3 (.build [.nilmap,.nilmap] [(0,1,(.tmp 1)),(1,1,(.tmp 2))]),o 4 (.box (.tmp 3)),o 0 (.move (.tmp 4))]) .ret)),[.tmp 0]⟩
def a51 : AFunc := ⟨22,(.seq (.region [o 2 (.alloc [.int .i64 0,.int .i64 0,.nilslice]),o 3 (.move (.const (.bool false)))]) (.seq (.region [o 7 (.move (.tmp 0)),o 8 (.call .shared 103 [.tmp 7]),o 6 (.move (.tmp 8)),o 9 (.extract (.tmp 6) 0),o 10 (.extract (.tmp 6) 1),o 4 (.alloc [.int .i64 0,.int .i64 0,.nilslice]),⟨none,.store 3 (.tmp 4) (.tmp 9),none⟩,o 5 (.move (.tmp 10))]) (.seq (.seq (.region [o 11 (.move (.tmp 5))]) (.cond (.tmp 11) (.region [o 12 (.move (.tmp 0)),o 13 (.move (.tmp 0)),o 14 (.nilCheck (.tmp 13)),o 15 (.faddr 0 (.tmp 14)),o 16 (.load 1 false (.tmp 15)),o 17 (.sliceOp 3 (.tmp 16) (some (.const (.int .i64 1))) none none),o 18 (.nilCheck (.tmp 12)),o 19 (.faddr 0 (.tmp 18)),⟨none,.store 1 (.tmp 19) (.tmp 17),none⟩]) .skip)) (.seq (.region [o 20 (.load 3 true (.tmp 4)),o 21 (.move (.tmp 5)),⟨none,.store 3 (.tmp 2) (.tmp 20),none⟩,o 3 (.move (.tmp 21))]) .ret)))),[.cell 2 3 true,.tmp 3]⟩
def a52 : AFunc := ⟨9,(.seq (.region [o 4 (.move (.const .nilslice))]) (.seq (.region [o 5 (.move (.tmp 0)),o 6 (.move (.tmp 1)),o 7 (.call .shared 104 [.tmp 5,.tmp 6]),o 8 (.call .shared 46 [.tmp 7]),o 4 (.move (.tmp 8))]) .ret)),[.tmp 4]⟩
def a54 : AFunc := ⟨55,(.seq (.region [o 4 (.box (.tmp 1))]) (.seq (.drawn [o 7 (.move (.tmp 0)),o 8 (.nilCheck (.tmp 7)),o 9 (.faddr 0 (.tmp 8)),o 10 (.load 1 false (.tmp 9)),o 11 (.nilCheck (.tmp 10)),o 12 (.faddr 1 (.tmp 11)),o 13 (.load 1 false (.tmp 12)),o 14 (.load 3 true (.tmp 4)),o 15 (.build [.int .i64 0,.int .i64 0,.int .i64 0,.nilslice,.bool false,.int .i64 0,.nilslice,.nilslice,.nilslice] [(0,1,(.tmp 13)),(1,3,(.tmp 14)),(5,1,(.const (.int .i64 (-1))))]),o 6 (.alloc [.int .i64 0,.int .i64 0,.int .i64 0,.nilslice,.bool false,.int .i64 0,.nilslice,.nilslice,.nilslice]),⟨none,.store 9 (.tmp 6) (.tmp 15),none⟩] [(3,9),(6,9),(7,9)]) (.seq (.region [o 16 (.move (.tmp 0)),o 17 (.nilCheck (.tmp 16)),o 18 (.faddr 0 (.tmp 17)),o 19 (.load 1 false (.tmp 18)),o 20 (.nilCheck (.tmp 19)),o 21 (.faddr 9 (.tmp 20)),o 22 (.load 1 false (.tmp 21)),o 23 (.iop .sub (.tmp 22) (.const (.int .i64 1))),o 24 (.nilCheck (.tmp 19)),o 25 (.faddr 9 (.tmp 24)),⟨none,.store 1 (.tmp 25) (.tmp 23),none⟩]) (.seq (.region [o 26 (.move (.tmp 2)),o 27 (.callv .shared (.tmp 26) [.tmp 6])]) (.seq (.region [o 28 (.move (.tmp 0)),o 29 (.nilCheck (.tmp 28)),o 30 (.faddr 0 (.tmp 29)),o 31 (.load 1 false (.tmp 30)),o 32 (.move (.tmp 0)),o 33 (.nilCheck (.tmp 32)),o 34 (.faddr 0 (.tmp 33)),o 35 (.load 1 false (.tmp 34)),o 36 (.nilCheck (.tmp 35)),o 37 (.faddr 10 (.tmp 36)),o 38 (.load 1 false (.tmp 37)),o 39 (.move (.tmp 38)),⟨some 40,.faddr 4 (.tmp 6),some (39,false)⟩,⟨some 41,.load 1 false (.tmp 40),some (39,false)⟩,o 42 (.pick (.tmp 39) (.const (.bool true)) (.tmp 41)),o 43 (.nilCheck (.tmp 31)),o 44 (.faddr 10 (.tmp 43)),⟨none,.store 1 (.tmp 44) (.tmp 42),none⟩]) (.region [o 45 (.move (.tmp 0)),o 46 (.move (.tmp 0)),o 47 (.nilCheck (.tmp 46)),o 48 (.faddr 2 (.tmp 47)),o 49 (.load 1 false (.tmp 48)),o 50 (.load 9 true (.tmp 6)),o 51 (.lit 9 [.int .i64 0,.int .i64 0,.int .i64 0,.nilslice,.bool false,.int .i64 0,.nilslice,.nilslice,.nilslice] true 1 [(0,(.tmp 50))]),o 52 (.append 9 136 (.tmp 49) (.tmp 51)),o 53 (.nilCheck (.tmp 45)),o 54 (.faddr 2 (.tmp 53)),⟨none,.store 1 (.tmp 54) (.tmp 52),none⟩])))))),[]⟩
def a56 : AFunc := ⟨42,(.seq (.region [o 6 (.move (.const (.bool false)))]) (.seq (.seq (.region [o 7 (.move (.tmp 0)),o 8 (.lenS (.tmp 7)),o 9 (.iop .eql (.tmp 8) (.const (.int .i64 0))),o 10 (.move (.tmp 9)),⟨some 11,.move (.tmp 0),some (10,false)⟩,⟨some 12,.iaddr 5 (.tmp 11) (.const (.int .i64 0)),some (10,false)⟩,⟨some 13,.faddr 1 (.tmp 12),some (10,false)⟩,⟨some 14,.load 1 false (.tmp 13),some (10,false)⟩,⟨some 15,.move (.tmp 1),some (10,false)⟩,⟨some 16,.sop .neq (.tmp 14) (.tmp 15),some (10,false)⟩,o 17 (.pick (.tmp 10) (.const (.bool true)) (.tmp 16))]) (.cond (.tmp 17) (.seq (.region [o 6 (.move (.const (.bool false)))]) .ret) .skip)) (.seq (.region [o 18 (.move (.tmp 0)),o 19 (.iaddr 5 (.tmp 18) (.const (.int .i64 0))),o 20 (.faddr 0 (.tmp 19)),o 21 (.load 1 false (.tmp 20)),o 22 (.iop .eql (.tmp 21) (.const (.int .u8 3))),o 23 (.move (.tmp 22)),⟨some 24,.move (.tmp 0),some (23,true)⟩,⟨some 25,.iaddr 5 (.tmp 24) (.const (.int .i64 0)),some (23,true)⟩,⟨some 26,.faddr 2 (.tmp 25),some (23,true)⟩,⟨some 27,.load 1 false (.tmp 26),some (23,true)⟩,⟨some 28,.move (.tmp 2),some (23,true)⟩,⟨some 29,.iop .eql (.tmp 27) (.tmp 28),some (23,true)⟩,o 30 (.pick (.tmp 23) (.tmp 29) (.const (.bool false))),o 31 (.move (.tmp 30)),⟨some 32,.move (.tmp 2),some (31,false)⟩,⟨some 33,.iop .eql (.tmp 32) (.const (.int .i64 0)),some (31,false)⟩,⟨some 34,.move (.tmp 33),some (31,false)⟩,⟨some 35,.move (.tmp 0),some (34,true)⟩,⟨some 36,.iaddr 5 (.tmp 35) (.const (.int .i64 0)),some (34,true)⟩,⟨some 37,.faddr 0 (.tmp 36),some (34,true)⟩,⟨some 38,.load 1 false (.tmp 37),some (34,true)⟩,⟨some 39,.iop .eql (.tmp 38) (.const (.int .u8 2)),some (34,true)⟩,⟨some 40,.pick (.tmp 34) (.tmp 39) (.const (.bool false)),some (31,false)⟩,o 41 (.pick (.tmp 31) (.const (.bool true)) (.tmp 40)),o 6 (.move (.tmp 41))]) .ret))),[.tmp 6]⟩
def a57 : AFunc := ⟨2,.skip,[]⟩
def a66 : AFunc := ⟨41,(.seq (.region [o 2 (.alloc [.int .i64 0,.nilslice]),o 3 (.move (.const (.int .i64 0)))]) (.seq (.seq (.region [o 9 (.move (.tmp 0)),o 10 (.call .shared 126 [.tmp 9,(.const (.func 127 [] []))])]) (.cond (.tmp 10) (.seq (.region [o 11 (.build [.int .i64 0,.nilslice] []),⟨none,.store 2 (.tmp 2) (.tmp 11),none⟩,o 3 (.move (.const (.int .i64 6)))]) .ret) .skip)) (.seq (.region [o 4 (.alloc [.int .i64 0,.nilslice])]) (.seq (.seq (.region [o 12 (.move (.tmp 0)),o 13 (.lenS (.tmp 12)),o 14 (.move (.const (.int .i64 0)))]) (.block 0 (.loop [2,4,12,13,14] (.seq (.region [o 15 (.iop .lss (.tmp 14) (.tmp 13))]) (.seq (.cond (.tmp 15) .skip (.exit 0)) (.seq (.block 1 (.seq (.region [o 16 (.iaddr 2 (.tmp 12) (.tmp 14)),o 17 (.load 2 true (.tmp 16)),o 6 (.alloc [.int .i64 0,.nilslice]),⟨none,.store 2 (.tmp 6) (.tmp 17),none⟩]) (.seq (.region [o 18 (.faddr 0 (.tmp 4)),o 19 (.load 1 false (.tmp 18)),o 20 (.faddr 0 (.tmp 6)),o 21 (.load 1 false (.tmp 20)),o 22 (.iop .add (.tmp 19) (.tmp 21)),o 23 (.faddr 0 (.tmp 4)),⟨none,.store 1 (.tmp 23) (.tmp 22),none⟩]) (.seq (.region [o 24 (.faddr 1 (.tmp 6)),o 25 (.load 1 false (.tmp 24)),o 26 (.lenS (.tmp 25)),o 27 (.move (.const (.int .i64 0)))]) (.block 2 (.loop [2,4,12,13,14,25,26,27] (.seq (.region [o 28 (.iop .lss (.tmp 27) (.tmp 26))]) (.seq (.cond (.tmp 28) .skip (.exit 2)) (.seq (.block 3 (.seq (.region [o 29 (.iaddr 1 (.tmp 25) (.tmp 27)),o 30 (.load 1 false (.tmp 29)),o 8 (.move (.tmp 30))]) (.region [o 31 (.load 2 true (.tmp 4)),o 32 (.move (.tmp 8)),o 33 (.call .shared 128 [.tmp 31,.tmp 32]),⟨none,.store 2 (.tmp 4) (.tmp 33),none⟩]))) (.region [o 34 (.iop .add (.tmp 27) (.const (.int .i64 1))),o 27 (.move (.tmp 34))])))))))))) (.region [o 35 (.iop .add (.tmp 14) (.const (.int .i64 1))),o 14 (.move (.tmp 35))]))))))) (.seq (.seq (.region [o 36 (.faddr 0 (.tmp 4)),o 37 (.load 1 false (.tmp 36)),o 38 (.iop .gtr (.tmp 37) (.const (.int .i64 2147483647)))]) (.cond (.tmp 38) (.seq (.region [o 39 (.build [.int .i64 0,.nilslice] []),⟨none,.store 2 (.tmp 2) (.tmp 39),none⟩,o 3 (.move (.const (.int .i64 3)))]) .ret) .skip)) (.seq (.region [o 40 (.load 2 true (.tmp 4)),⟨none,.store 2 (.tmp 2) (.tmp 40),none⟩,o 3 (.move (.const (.int .i64 0)))]) .ret)))))),[.cell 2 2 true,.tmp 3]⟩
def a70 : AFunc := ⟨38,(.seq (.region [o 2 (.move (.const .nilslice))]) (.seq (.region [o 3 (.move (.const .nilslice))]) (.seq (.seq (.region [o 8 (.move (.tmp 0)),o 9 (.lenS (.tmp 8)),o 10 (.move (.const (.int .i64 0)))]) (.block 0 (.loop [3,8,9,10] (.seq (.region [o 11 (.iop .lss (.tmp 10) (.tmp 9))]) (.seq (.cond (.tmp 11) .skip (.exit 0)) (.seq (.block 1 (.seq (.region [o 12 (.iaddr 1 (.tmp 8) (.tmp 10)),o 13 (.load 1 false (.tmp 12)),o 5 (.move (.tmp 13))]) (.seq (.region [o 14 (.move (.tmp 5)),o 15 (.lenS (.tmp 14)),o 16 (.move (.const (.int .i64 0)))]) (.block 2 (.loop [3,8,9,10,14,15,16] (.seq (.region [o 17 (.iop .lss (.tmp 16) (.tmp 15))]) (.seq (.cond (.tmp 17) .skip (.exit 2)) (.seq (.block 3 (.seq (.region [o 18 (.iaddr 5 (.tmp 14) (.tmp 16)),o 19 (.load 5 true (.tmp 18)),o 7 (.alloc [.int .u8 0,(.str []),.int .i64 0,.int .i64 0,.int .i64 0]),⟨none,.store 5 (.tmp 7) (.tmp 19),none⟩]) (.seq (.region [o 20 (.faddr 0 (.tmp 7)),o 21 (.load 1 false (.tmp 20)),o 22 (.iop .eql (.tmp 21) (.const (.int .u8 4))),o 23 (.move (.tmp 22)),⟨some 24,.move (.tmp 3),some (23,true)⟩,⟨some 25,.faddr 3 (.tmp 7),some (23,true)⟩,⟨some 26,.load 2 true (.tmp 25),some (23,true)⟩,⟨some 27,.call .shared 78 [.tmp 24,.tmp 26],some (23,true)⟩,⟨some 28,.not (.tmp 27),some (23,true)⟩,o 29 (.pick (.tmp 23) (.tmp 28) (.const (.bool false)))]) (.cond (.tmp 29) (.region [o 30 (.move (.tmp 3)),o 31 (.faddr 3 (.tmp 7)),o 32 (.load 2 true (.tmp 31)),o 33 (.lit 2 [.int .i64 0,.int .i64 0] true 1 [(0,(.tmp 32))]),o 34 (.append 2 16 (.tmp 30) (.tmp 33)),o 3 (.move (.tmp 34))]) .skip)))) (.region [o 35 (.iop .add (.tmp 16) (.const (.int .i64 1))),o 16 (.move (.tmp 35))]))))))))) (.region [o 36 (.iop .add (.tmp 10) (.const (.int .i64 1))),o 10 (.move (.tmp 36))]))))))) (.seq (.region [o 37 (.move (.tmp 3)),o 2 (.move (.tmp 37))]) .ret)))),[.tmp 2]⟩
def a71 : AFunc := ⟨19,(.seq (.region [o 2 (.move (.const (.bool false)))]) (.seq (.region [o 3 (.move (.tmp 0)),o 4 (.call .shared 137 [.tmp 3]),o 5 (.move (.tmp 4)),⟨some 6,.move (.tmp 0),some (5,true)⟩,⟨some 7,.iaddr 5 (.tmp 6) (.const (.int .i64 0)),some (5,true)⟩,⟨some 8,.faddr 0 (.tmp 7),some (5,true)⟩,⟨some 9,.load 1 false (.tmp 8),some (5,true)⟩,⟨some 10,.iop .eql (.tmp 9) (.const (.int .u8 2)),some (5,true)⟩,⟨some 11,.move (.tmp 10),some (5,true)⟩,⟨some 12,.move (.tmp 0),some (11,false)⟩,⟨some 13,.iaddr 5 (.tmp 12) (.const (.int .i64 0)),some (11,false)⟩,⟨some 14,.faddr 0 (.tmp 13),some (11,false)⟩,⟨some 15,.load 1 false (.tmp 14),some (11,false)⟩,⟨some 16,.iop .eql (.tmp 15) (.const (.int .u8 3)),some (11,false)⟩,⟨some 17,.pick (.tmp 11) (.const (.bool true)) (.tmp 16),some (5,true)⟩,o 18 (.pick (.tmp 5) (.tmp 17) (.const (.bool false))),o 2 (.move (.tmp 18))]) .ret)),[.tmp 2]⟩
def a73 : AFunc := ⟨80,(.seq (.region [o 4 (.move (.const .nilslice)),o 5 (.move (.const (.int .i64 0)))]) (.seq (.region [o 6 (.move (.const (.func 139 [] [])))]) (.seq (.seq (.region [o 12 (.move (.tmp 0)),o 13 (.call .shared 137 [.tmp 12]),o 14 (.not (.tmp 13)),o 15 (.move (.tmp 14)),⟨some 16,.move (.tmp 1),some (15,false)⟩,⟨some 17,.move (.tmp 6),some (15,false)⟩,⟨some 18,.call .shared 140 [.tmp 16,.tmp 17],some (15,false)⟩,o 19 (.pick (.tmp 15) (.const (.bool true)) (.tmp 18))]) (.cond (.tmp 19) (.seq (.region [o 4 (.move (.const .nilslice)),o 5 (.move (.const (.int .i64 6)))]) .ret) .skip)) (.seq (.seq (.region [o 20 (.move (.tmp 0)),o 21 (.lit 1 [.nilslice] false 1 [(0,(.tmp 20))]),o 22 (.call .shared 70 [.tmp 21]),o 23 (.lenS (.tmp 22)),o 24 (.move (.const (.int .i64 0)))]) (.block 0 (.loop [0,1,22,23,24] (.seq (.region [o 25 (.iop .lss (.tmp 24) (.tmp 23))]) (.seq (.cond (.tmp 25) .skip (.exit 0)) (.seq (.block 1 (.seq (.region [o 26 (.iaddr 2 (.tmp 22) (.tmp 24)),o 27 (.load 2 true (.tmp 26)),o 8 (.alloc [.int .i64 0,.int .i64 0]),⟨none,.store 2 (.tmp 8) (.tmp 27),none⟩]) (.seq (.region [o 28 (.faddr 0 (.tmp 8)),o 29 (.load 1 false (.tmp 28)),o 30 (.iop .eql (.tmp 29) (.const (.int .i64 (-1)))),o 31 (.move (.tmp 30)),⟨some 32,.faddr 1 (.tmp 8),some (31,true)⟩,⟨some 33,.load 1 false (.tmp 32),some (31,true)⟩,⟨some 34,.move (.tmp 1),some (31,true)⟩,⟨some 35,.lenS (.tmp 34),some (31,true)⟩,⟨some 36,.iop .geq (.tmp 33) (.tmp 35),some (31,true)⟩,⟨some 37,.move (.tmp 36),some (31,true)⟩,⟨some 38,.move (.tmp 1),some (37,false)⟩,⟨some 39,.faddr 1 (.tmp 8),some (37,false)⟩,⟨some 40,.load 1 false (.tmp 39),some (37,false)⟩,⟨some 41,.iaddr 1 (.tmp 38) (.tmp 40),some (37,false)⟩,⟨some 42,.load 1 false (.tmp 41),some (37,false)⟩,⟨some 43,.lenS (.tmp 42),some (37,false)⟩,⟨some 44,.iop .eql (.tmp 43) (.const (.int .i64 0)),some (37,false)⟩,⟨some 45,.pick (.tmp 37) (.const (.bool true)) (.tmp 44),some (31,true)⟩,o 46 (.pick (.tmp 31) (.tmp 45) (.const (.bool false)))]) (.cond (.tmp 46) (.seq (.region [o 4 (.move (.const .nilslice)),o 5 (.move (.const (.int .i64 4)))]) .ret) .skip)))) (.region [o 47 (.iop .add (.tmp 24) (.const (.int .i64 1))),o 24 (.move (.tmp 47))]))))))) (.seq (.region [o 9 (.move (.const .nilslice))]) (.seq (.seq (.region [o 48 (.move (.tmp 0)),o 49 (.lenS (.tmp 48)),o 50 (.move (.const (.int .i64 0)))]) (.block 2 (.loop [1,9,48,49,50] (.seq (.region [o 51 (.iop .lss (.tmp 50) (.tmp 49))]) (.seq (.cond (.tmp 51) .skip (.exit 2)) (.seq (.block 3 (.seq (.region [o 52 (.iaddr 5 (.tmp 48) (.tmp 50)),o 53 (.load 5 true (.tmp 52)),o 11 (.alloc [.int .u8 0,(.str []),.int .i64 0,.int .i64 0,.int .i64 0]),⟨none,.store 5 (.tmp 11) (.tmp 53),none⟩]) (.seq (.region [o 54 (.faddr 0 (.tmp 11)),o 55 (.load 1 false (.tmp 54)),o 56 (.iop .eql (.tmp 55) (.const (.int .u8 4))),o 57 (.move (.tmp 56)),⟨some 58,.faddr 3 (.tmp 11),some (57,true)⟩,⟨some 59,.faddr 0 (.tmp 58),some (57,true)⟩,⟨some 60,.load 1 false (.tmp 59),some (57,true)⟩,⟨some 61,.iop .eql (.tmp 60) (.const (.int .i64 (-1))),some (57,true)⟩,o 62 (.pick (.tmp 57) (.tmp 61) (.const (.bool false)))]) (.cond (.tmp 62) (.region [o 63 (.move (.tmp 9)),o 64 (.move (.tmp 1)),o 65 (.faddr 3 (.tmp 11)),o 66 (.faddr 1 (.tmp 65)),o 67 (.load 1 false (.tmp 66)),o 68 (.iaddr 1 (.tmp 64) (.tmp 67)),o 69 (.load 1 false (.tmp 68)),o 70 (.append 5 48 (.tmp 63) (.tmp 69)),o 9 (.move (.tmp 70))]) (.region [o 71 (.move (.tmp 9)),o 72 (.load 5 true (.tmp 11)),o 73 (.lit 5 [.int .u8 0,(.str []),.int .i64 0,.int .i64 0,.int .i64 0] true 1 [(0,(.tmp 72))]),o 74 (.append 5 48 (.tmp 71) (.tmp 73)),o 9 (.move (.tmp 74))]))))) (.region [o 75 (.iop .add (.tmp 50) (.const (.int .i64 1))),o 50 (.move (.tmp 75))]))))))) (.seq (.seq (.region [o 76 (.move (.tmp 9)),o 77 (.lenS (.tmp 76)),o 78 (.iop .gtr (.tmp 77) (.const (.int .i64 256)))]) (.cond (.tmp 78) (.seq (.region [o 4 (.move (.const .nilslice)),o 5 (.move (.const (.int .i64 5)))]) .ret) .skip)) (.seq (.region [o 79 (.move (.tmp 9)),o 4 (.move (.tmp 79)),o 5 (.move (.const (.int .i64 0)))]) .ret)))))))),[.tmp 4,.tmp 5]⟩
def a74 : AFunc := ⟨17,(.seq (.region [o 4 (.move (.const (.int .i64 0)))]) (.seq (.seq (.region [o 5 (.move (.tmp 0)),o 6 (.eqnil false .p (.tmp 5))]) (.cond (.tmp 6) (.seq (.region [o 4 (.move (.const (.int .i64 1)))]) .ret) .skip)) (.seq (.drawn [o 7 (.move (.tmp 0)),o 8 (.move (.tmp 0)),o 9 (.nilCheck (.tmp 8)),o 10 (.faddr 0 (.tmp 9)),o 11 (.load 1 false (.tmp 10)),o 12 (.move (.tmp 1)),o 13 (.call .shared 90 [.tmp 12]),o 14 (.append 3 40 (.tmp 11) (.tmp 13)),o 15 (.nilCheck (.tmp 7)),o 16 (.faddr 0 (.tmp 15)),⟨none,.store 1 (.tmp 16) (.tmp 14),none⟩] [(4,6)]) (.seq (.region [o 4 (.move (.const (.int .i64 0)))]) .ret)))),[.tmp 4]⟩
def a75 : AFunc := ⟨46,(.seq (.region [o 4 (.move (.const .nilslice))]) (.seq (.region [o 5 (.move (.const .nilslice))]) (.seq (.seq (.region [o 8 (.move (.tmp 1)),o 9 (.lenS (.tmp 8)),o 10 (.move (.const (.int .i64 0)))]) (.block 0 (.loop [0,5,8,9,10] (.seq (.region [o 11 (.iop .lss (.tmp 10) (.tmp 9))]) (.seq (.cond (.tmp 11) .skip (.exit 0)) (.seq (.block 1 (.seq (.region [o 12 (.iaddr 1 (.tmp 8) (.tmp 10)),o 13 (.load 1 false (.tmp 12)),o 7 (.move (.tmp 13))]) (.seq (.region [o 14 (.move (.tmp 5)),o 15 (.move (.tmp 0)),o 16 (.nilCheck (.tmp 15)),o 17 (.faddr 0 (.tmp 16)),o 18 (.load 1 false (.tmp 17)),o 19 (.nilCheck (.tmp 18)),o 20 (.faddr 1 (.tmp 19)),o 21 (.load 1 false (.tmp 20)),o 22 (.move (.tmp 0)),o 23 (.nilCheck (.tmp 22)),o 24 (.faddr 0 (.tmp 23)),o 25 (.load 1 false (.tmp 24)),o 26 (.nilCheck (.tmp 25)),o 27 (.faddr 7 (.tmp 26)),o 28 (.load 1 false (.tmp 27)),o 29 (.build [.int .i64 0,.int .i64 0] [(0,1,(.tmp 21)),(1,1,(.tmp 28))]),o 30 (.move (.tmp 7)),o 31 (.build [.int .i64 0,.int .i64 0,.nilslice] [(0,2,(.tmp 29)),(2,1,(.tmp 30))]),o 32 (.lit 3 [.int .i64 0,.int .i64 0,.nilslice] true 1 [(0,(.tmp 31))]),o 33 (.append 3 40 (.tmp 14) (.tmp 32)),o 5 (.move (.tmp 33))]) (.region [o 34 (.move (.tmp 0)),o 35 (.nilCheck (.tmp 34)),o 36 (.faddr 0 (.tmp 35)),o 37 (.load 1 false (.tmp 36)),o 38 (.nilCheck (.tmp 37)),o 39 (.faddr 7 (.tmp 38)),o 40 (.load 1 false (.tmp 39)),o 41 (.iop .add (.tmp 40) (.const (.int .i64 1))),o 42 (.nilCheck (.tmp 37)),o 43 (.faddr 7 (.tmp 42)),⟨none,.store 1 (.tmp 43) (.tmp 41),none⟩])))) (.region [o 44 (.iop .add (.tmp 10) (.const (.int .i64 1))),o 10 (.move (.tmp 44))]))))))) (.seq (.region [o 45 (.move (.tmp 5)),o 4 (.move (.tmp 45))]) .ret)))),[.tmp 4]⟩
def a85 : AFunc := ⟨17,(.seq (.region [o 2 (.move (.const .nilptr))]) (.seq (.seq (.region [o 3 (.move (.tmp 0)),o 4 (.eqnil false .p (.tmp 3))]) (.cond (.tmp 4) (.seq (.region [o 2 (.move (.const .nilptr))]) .ret) .skip)) (.seq (.drawn [o 5 (.move (.tmp 0)),o 6 (.nilCheck (.tmp 5)),o 7 (.faddr 0 (.tmp 6)),o 8 (.load 1 false (.tmp 7)),o 9 (.call .shared 150 [.tmp 8]),o 10 (.move (.tmp 0)),o 11 (.nilCheck (.tmp 10)),o 12 (.faddr 1 (.tmp 11)),o 13 (.load 1 false (.tmp 12)),o 14 (.call .shared 151 [.tmp 13]),o 15 (.build [.nilslice,.nilslice] [(0,1,(.tmp 9)),(1,1,(.tmp 14))]),o 16 (.box (.tmp 15)),o 2 (.move (.tmp 16))] [(8,4)]) .ret))),[.tmp 2]⟩
def a86 : AFunc := ⟨35,(.seq (.region [o 2 (.move (.const .nilptr))]) (.seq (.seq (.region [o 5 (.move (.tmp 0)),o 6 (.eqnil false .p (.tmp 5))]) (.cond (.tmp 6) (.seq (.region [o 2 (.move (.const .nilptr))]) .ret) .skip)) (.seq (.region [o 7 (.call .shared 50 []),o 3 (.move (.tmp 7))]) (.seq (.seq (.region [o 8 (.move (.tmp 0)),o 9 (.nilCheck (.tmp 8)),o 10 (.faddr 0 (.tmp 9)),o 11 (.load 1 false (.tmp 10)),o 12 (.rangeM (.tmp 11))]) (.block 0 (.loop [0,3,12] (.seq (.region [o 13 (.nextM (.tmp 12)),o 14 (.extract (.tmp 13) 0)]) (.seq (.cond (.tmp 14) .skip (.exit 0)) (.block 1 (.seq (.region [o 15 .fail,o 16 (.extract (.tmp 15) 0),o 4 (.alloc [.int .i64 0,.int .i64 0]),⟨none,.store 2 (.tmp 4) (.tmp 16),none⟩]) (.drawn [o 17 (.move (.tmp 3)),o 18 (.nilCheck (.tmp 17)),o 19 (.faddr 0 (.tmp 18)),o 20 (.load 1 false (.tmp 19)),o 21 (.load 2 true (.tmp 4)),o 22 (.move (.tmp 0)),o 23 (.load 2 true (.tmp 4)),o 24 (.call .shared 152 [.tmp 22,.tmp 23]),⟨none,.mapset true [.i,.i] (.tmp 20) (.tmp 21) (.tmp 24),none⟩] [(3,7),(4,7)])))))))) (.seq (.region [o 25 (.move (.tmp 3)),o 26 (.nilCheck (.tmp 25)),o 27 (.faddr 1 (.tmp 26)),o 28 (.load 1 false (.tmp 27)),o 29 (.move (.tmp 0)),o 30 (.nilCheck (.tmp 29)),o 31 (.faddr 1 (.tmp 30)),o 32 (.load 1 false (.tmp 31)),o 33 (.call .shared 153 [.tmp 28,.tmp 32])]) (.seq (.region [o 34 (.move (.tmp 3)),o 2 (.move (.tmp 34))]) .ret)))))),[.tmp 2]⟩
def a87 : AFunc := ⟨21,(.seq (.region [o 2 (.move (.const .nilptr))]) (.seq (.seq (.region [o 3 (.move (.tmp 0)),o 4 (.eqnil false .p (.tmp 3))]) (.cond (.tmp 4) (.seq (.region [o 2 (.move (.const .nilptr))]) .ret) .skip)) (.seq (.drawn [o 5 (.move (.tmp 0)),o 6 (.nilCheck (.tmp 5)),o 7 (.faddr 0 (.tmp 6)),o 8 (.load 2 true (.tmp 7)),o 9 (.move (.tmp 0)),o 10 (.nilCheck (.tmp 9)),o 11 (.faddr 2 (.tmp 10)),o 12 (.load 1 false (.tmp 11)),o 13 (.call .shared 154 [.tmp 12]),o 14 (.move (.tmp 0)),o 15 (.nilCheck (.tmp 14)),o 16 (.faddr 3 (.tmp 15)),o 17 (.load 1 false (.tmp 16)),o 18 (.call .shared 154 [.tmp 17]),o 19 (.build [.int .i64 0,.int .i64 0,.nilmap,.nilmap] [(0,2,(.tmp 8)),(2,1,(.tmp 13)),(3,1,(.tmp 18))]),o 20 (.box (.tmp 19)),o 2 (.move (.tmp 20))] [(3,8),(12,8),(3,13)]) .ret))),[.tmp 2]⟩
def a88 : AFunc := ⟨16,(.seq (.region [o 2 (.move (.const (.int .i64 0))),o 3 (.move (.const (.int .i64 0)))]) (.seq (.seq (.region [o 4 (.move (.tmp 0)),o 5 (.eqnil false .p (.tmp 4))]) (.cond (.tmp 5) (.seq (.region [o 2 (.move (.const (.int .i64 0))),o 3 (.move (.const (.int .i64 0)))]) .ret) .skip)) (.seq (.drawn [o 6 (.move (.tmp 0)),o 7 (.nilCheck (.tmp 6)),o 8 (.faddr 2 (.tmp 7)),o 9 (.load 1 false (.tmp 8)),o 10 (.call .shared 155 [.tmp 9]),o 11 (.move (.tmp 0)),o 12 (.nilCheck (.tmp 11)),o 13 (.faddr 3 (.tmp 12)),o 14 (.load 1 false (.tmp 13)),o 15 (.call .shared 155 [.tmp 14]),o 2 (.move (.tmp 10)),o 3 (.move (.tmp 15))] [(8,4)]) .ret))),[.tmp 2,.tmp 3]⟩
def a89 : AFunc := ⟨12,(.seq (.region [o 1 (.box (.tmp 0)),o 2 (.move (.const (.bool false)))]) (.seq (.region [o 3 (.faddr 0 (.tmp 1)),o 4 (.load 1 false (.tmp 3)),o 5 (.iop .eql (.tmp 4) (.const (.int .i64 0))),o 6 (.move (.tmp 5)),⟨some 7,.faddr 1 (.tmp 1),some (6,true)⟩,⟨some 8,.load 1 false (.tmp 7),some (6,true)⟩,⟨some 9,.lenS (.tmp 8),some (6,true)⟩,⟨some 10,.iop .eql (.tmp 9) (.const (.int .i64 0)),some (6,true)⟩,o 11 (.pick (.tmp 6) (.tmp 10) (.const (.bool false))),o 2 (.move (.tmp 11))]) .ret)),[.tmp 2]⟩
def a90 : AFunc := ⟨19,(.seq (.region [o 2 (.move (.const .nilslice))]) (.seq (.region [o 3 (.move (.const .nilslice))]) (.seq (.seq (.region [o 6 (.move (.tmp 0)),o 7 (.lenS (.tmp 6)),o 8 (.move (.const (.int .i64 0)))]) (.block 0 (.loop [3,6,7,8] (.seq (.region [o 9 (.iop .lss (.tmp 8) (.tmp 7))]) (.seq (.cond (.tmp 9) .skip (.exit 0)) (.seq (.block 1 (.seq (.region [o 10 (.iaddr 3 (.tmp 6) (.tmp 8)),o 11 (.load 3 true (.tmp 10)),o 5 (.alloc [.int .i64 0,.int .i64 0,.nilslice]),⟨none,.store 3 (.tmp 5) (.tmp 11),none⟩]) (.region [o 12 (.move (.tmp 3)),o 13 (.load 3 true (.tmp 5)),o 14 (.call .shared 91 [.tmp 13]),o 15 (.lit 3 [.int .i64 0,.int .i64 0,.nilslice] true 1 [(0,(.tmp 14))]),o 16 (.append 3 40 (.tmp 12) (.tmp 15)),o 3 (.move (.tmp 16))]))) (.region [o 17 (.iop .add (.tmp 8) (.const (.int .i64 1))),o 8 (.move (.tmp 17))]))))))) (.seq (.region [o 18 (.move (.tmp 3)),o 2 (.move (.tmp 18))]) .ret)))),[.tmp 2]⟩
def a91 : AFunc := ⟨9,(.seq (.region [o 1 (.box (.tmp 0)),o 2 (.alloc [.int .i64 0,.int .i64 0,.nilslice])]) (.seq (.drawn [o 3 (.faddr 0 (.tmp 1)),o 4 (.load 2 true (.tmp 3)),o 5 (.faddr 2 (.tmp 1)),o 6 (.load 1 false (.tmp 5)),o 7 (.call .shared 46 [.tmp 6]),o 8 (.build [.int .i64 0,.int .i64 0,.nilslice] [(0,2,(.tmp 4)),(2,1,(.tmp 7))]),⟨none,.store 3 (.tmp 2) (.tmp 8),none⟩] [(1,4)]) .ret)),[.cell 2 3 true]⟩
def a93 : AFunc := ⟨25,(.seq (.region [o 2 (.move (.const .nilslice))]) (.seq (.region [o 3 (.move (.const .nilslice))]) (.seq (.seq (.region [o 6 (.move (.tmp 0)),o 7 (.rangeM (.tmp 6))]) (.block 0 (.loop [3,7] (.seq (.region [o 8 (.nextM (.tmp 7)),o 9 (.extract (.tmp 8) 0)]) (.seq (.cond (.tmp 9) .skip (.exit 0)) (.block 1 (.seq (.region [o 10 .fail,o 11 (.extract (.tmp 10) 0),o 12 (.extract (.tmp 10) 1),o 4 (.alloc [.int .i64 0,.int .i64 0,.int .i64 0]),⟨none,.store 3 (.tmp 4) (.tmp 11),none⟩,o 5 (.move (.tmp 12))]) (.region [o 13 (.move (.tmp 3)),o 14 (.faddr 0 (.tmp 4)),o 15 (.load 2 true (.tmp 14)),o 16 (.faddr 2 (.tmp 4)),o 17 (.load 1 false (.tmp 16)),o 18 (.move (.tmp 5)),o 19 (.build [.int .i64 0,.int .i64 0,.int .i64 0,.int .i64 0] [(0,2,(.tmp 15)),(2,1,(.tmp 17)),(3,1,(.tmp 18))]),o 20 (.lit 4 [.int .i64 0,.int .i64 0,.int .i64 0,.int .i64 0] true 1 [(0,(.tmp 19))]),o 21 (.append 4 32 (.tmp 13) (.tmp 20)),o 3 (.move (.tmp 21))])))))))) (.seq (.region [o 22 (.move (.tmp 3)),o 23 (.call .shared 157 [.tmp 22,(.const (.func 158 [] []))])]) (.seq (.region [o 24 (.move (.tmp 3)),o 2 (.move (.tmp 24))]) .ret))))),[.tmp 2]⟩
def a94 : AFunc := ⟨9,(.seq (.region [o 2 (.box (.tmp 0)),o 3 (.move (.const (.bool false)))]) (.seq (.region [o 4 (.faddr 1 (.tmp 2)),o 5 (.load 1 false (.tmp 4)),o 6 (.load 1 false (.tmp 1)),o 7 (.iop .and (.tmp 5) (.tmp 6)),o 8 (.iop .neq (.tmp 7) (.const (.int .i64 0))),o 3 (.move (.tmp 8))]) .ret)),[.tmp 3]⟩
def a95 : AFunc := ⟨30,(.seq (.region [o 1 (.box (.tmp 0)),o 2 (.move (.const (.bool false)))]) (.seq (.region [o 3 (.move (.const (.int .i64 0)))]) (.seq (.seq (.region [o 6 (.faddr 1 (.tmp 1)),o 7 (.load 1 false (.tmp 6)),o 8 (.lenS (.tmp 7)),o 9 (.move (.const (.int .i64 0)))]) (.block 0 (.loop [1,3,7,8,9] (.seq (.region [o 10 (.iop .lss (.tmp 9) (.tmp 8))]) (.seq (.cond (.tmp 10) .skip (.exit 0)) (.seq (.block 1 (.seq (.region [o 11 (.iaddr 1 (.tmp 7) (.tmp 9)),o 12 (.load 1 false (.tmp 11)),o 5 (.move (.tmp 12))]) (.seq (.seq (.region [o 13 (.move (.tmp 5)),o 14 (.move (.tmp 3)),o 15 (.iop .leq (.tmp 13) (.tmp 14)),o 16 (.move (.tmp 15)),⟨some 17,.move (.tmp 5),some (16,false)⟩,⟨some 18,.iop .gtr (.tmp 17) (.const (.int .i64 1048576)),some (16,false)⟩,o 19 (.pick (.tmp 16) (.const (.bool true)) (.tmp 18))]) (.cond (.tmp 19) (.seq (.region [o 2 (.move (.const (.bool false)))]) .ret) .skip)) (.region [o 20 (.move (.tmp 5)),o 3 (.move (.tmp 20))])))) (.region [o 21 (.iop .add (.tmp 9) (.const (.int .i64 1))),o 9 (.move (.tmp 21))]))))))) (.seq (.region [o 22 (.faddr 0 (.tmp 1)),o 23 (.load 1 false (.tmp 22)),o 24 (.iop .geq (.tmp 23) (.const (.int .i64 0))),o 25 (.move (.tmp 24)),⟨some 26,.faddr 0 (.tmp 1),some (25,true)⟩,⟨some 27,.load 1 false (.tmp 26),some (25,true)⟩,⟨some 28,.iop .leq (.tmp 27) (.const (.int .i64 2147483647)),some (25,true)⟩,o 29 (.pick (.tmp 25) (.tmp 28) (.const (.bool false))),o 2 (.move (.tmp 29))]) .ret)))),[.tmp 2]⟩
def a96 : AFunc := ⟨18,(.seq (.region [o 2 (.move (.const (.int .i64 0)))]) (.seq (.region [o 3 (.move (.const (.int .i64 0)))]) (.seq (.seq (.region [o 6 (.move (.tmp 0)),o 7 (.lenS (.tmp 6)),o 8 (.move (.const (.int .i64 0)))]) (.block 0 (.loop [3,6,7,8] (.seq (.region [o 9 (.iop .lss (.tmp 8) (.tmp 7))]) (.seq (.cond (.tmp 9) .skip (.exit 0)) (.seq (.block 1 (.seq (.region [o 10 (.iaddr 1 (.tmp 6) (.tmp 8)),o 11 (.load 1 false (.tmp 10)),o 5 (.move (.tmp 11))]) (.seq (.region [o 12 (.move (.tmp 5)),o 13 (.move (.tmp 3)),o 14 (.iop .neq (.tmp 12) (.tmp 13))]) (.cond (.tmp 14) (.seq (.region [o 15 (.move (.tmp 5)),o 2 (.move (.tmp 15))]) .ret) .skip)))) (.region [o 16 (.iop .add (.tmp 8) (.const (.int .i64 1))),o 8 (.move (.tmp 16))]))))))) (.seq (.region [o 17 (.move (.tmp 3)),o 2 (.move (.tmp 17))]) .ret)))),[.tmp 2]⟩
def a97 : AFunc := ⟨20,(.seq (.region [o 4 (.move (.const (.int .i64 0)))]) (.seq (.region [o 7 (.move (.tmp 0)),o 8 (.call .shared 159 [.tmp 7]),o 5 (.move (.tmp 8))]) (.seq (.region [o 9 (.move (.tmp 1)),o 10 (.call .shared 159 [.tmp 9]),o 6 (.move (.tmp 10))]) (.seq (.seq (.region [o 11 (.move (.tmp 5))]) (.cond (.tmp 11) (.seq (.seq (.region [o 12 (.move (.tmp 6))]) (.cond (.tmp 12) (.seq (.region [o 4 (.move (.const (.int .i64 0)))]) .ret) .skip)) (.seq (.region [o 4 (.move (.const (.int .i64 (-1))))]) .ret)) .skip)) (.seq (.seq (.region [o 13 (.move (.tmp 6))]) (.cond (.tmp 13) (.seq (.region [o 4 (.move (.const (.int .i64 1)))]) .ret) .skip)) (.seq (.seq (.region [o 14 (.move (.tmp 0)),o 15 (.move (.tmp 1)),o 16 (.iop .lss (.tmp 14) (.tmp 15))]) (.cond (.tmp 16) (.seq (.region [o 4 (.move (.const (.int .i64 (-1))))]) .ret) .skip)) (.seq (.seq (.region [o 17 (.move (.tmp 0)),o 18 (.move (.tmp 1)),o 19 (.iop .gtr (.tmp 17) (.tmp 18))]) (.cond (.tmp 19) (.seq (.region [o 4 (.move (.const (.int .i64 1)))]) .ret) .skip)) (.seq (.region [o 4 (.move (.const (.int .i64 0)))]) .ret)))))))),[.tmp 4]⟩
def a98 : AFunc := ⟨33,(.seq (.region [o 4 (.move (.const (.int .i64 0)))]) (.seq (.seq (.region [o 7 (.move (.tmp 0)),o 8 (.lenS (.tmp 7)),o 9 (.move (.tmp 1)),o 10 (.lenS (.tmp 9)),o 11 (.minI [.tmp 8,.tmp 10]),o 12 (.move (.const (.int .i64 0)))]) (.block 0 (.loop [0,1,11,12] (.seq (.region [o 13 (.iop .lss (.tmp 12) (.tmp 11))]) (.seq (.cond (.tmp 13) .skip (.exit 0)) (.seq (.block 1 (.seq (.region [o 14 (.move (.tmp 12)),o 5 (.move (.tmp 14))]) (.seq (.region [o 15 (.move (.tmp 1)),o 16 (.move (.tmp 5)),o 17 (.iaddr 1 (.tmp 15) (.tmp 16)),o 18 (.load 1 false (.tmp 17)),o 19 (.move (.tmp 0)),o 20 (.move (.tmp 5)),o 21 (.iaddr 1 (.tmp 19) (.tmp 20)),o 22 (.load 1 false (.tmp 21)),o 23 (.call .shared 97 [.tmp 18,.tmp 22]),o 6 (.move (.tmp 23))]) (.seq (.region [o 24 (.move (.tmp 6)),o 25 (.iop .neq (.tmp 24) (.const (.int .i64 0)))]) (.cond (.tmp 25) (.seq (.region [o 26 (.move (.tmp 6)),o 4 (.move (.tmp 26))]) .ret) .skip))))) (.region [o 27 (.iop .add (.tmp 12) (.const (.int .i64 1))),o 12 (.move (.tmp 27))]))))))) (.seq (.region [o 28 (.move (.tmp 0)),o 29 (.lenS (.tmp 28)),o 30 (.move (.tmp 1)),o 31 (.lenS (.tmp 30)),o 32 (.call .shared 97 [.tmp 29,.tmp 31]),o 4 (.move (.tmp 32))]) .ret))),[.tmp 4]⟩
def a99 : AFunc := ⟨16,(.seq (.region [o 2 (.move (.const (.int .i64 0))),o 3 (.move (.const (.int .i64 0)))]) (.seq (.seq (.region [o 4 (.move (.tmp 0)),o 5 (.eqnil false .p (.tmp 4))]) (.cond (.tmp 5) (.seq (.region [o 2 (.move (.const (.int .i64 0))),o 3 (.move (.const (.int .i64 0)))]) .ret) .skip)) (.seq (.region [o 6 (.move (.tmp 0)),o 7 (.nilCheck (.tmp 6)),o 8 (.faddr 0 (.tmp 7)),o 9 (.load 1 false (.tmp 8)),o 10 (.lenS (.tmp 9)),o 11 (.move (.tmp 0)),o 12 (.nilCheck (.tmp 11)),o 13 (.faddr 1 (.tmp 12)),o 14 (.load 1 false (.tmp 13)),o 15 (.lenS (.tmp 14)),o 2 (.move (.tmp 10)),o 3 (.move (.tmp 15))]) .ret))),[.tmp 2,.tmp 3]⟩
def a100 : AFunc := ⟨19,(.seq (.region [o 4 (.move (.const (.int .i64 0)))]) (.seq (.seq (.region [o 6 (.move (.tmp 0)),o 7 (.lenS (.tmp 6)),o 8 (.move (.const (.int .i64 0)))]) (.block 0 (.loop [0,1,7,8] (.seq (.region [o 9 (.iop .lss (.tmp 8) (.tmp 7))]) (.seq (.cond (.tmp 9) .skip (.exit 0)) (.seq (.block 1 (.seq (.region [o 10 (.move (.tmp 8)),o 5 (.move (.tmp 10))]) (.seq (.region [o 11 (.move (.tmp 1)),o 12 (.move (.tmp 0)),o 13 (.move (.tmp 5)),o 14 (.iaddr 2 (.tmp 12) (.tmp 13)),o 15 (.load 2 true (.tmp 14)),o 16 (.callv .shared (.tmp 11) [.tmp 15])]) (.cond (.tmp 16) (.seq (.region [o 17 (.move (.tmp 5)),o 4 (.move (.tmp 17))]) .ret) .skip)))) (.region [o 18 (.iop .add (.tmp 8) (.const (.int .i64 1))),o 8 (.move (.tmp 18))]))))))) (.seq (.region [o 4 (.move (.const (.int .i64 (-1))))]) .ret))),[.tmp 4]⟩
def a101 : AFunc := ⟨41,(.seq (.region [o 2 (.move (.const (.int .i64 0))),o 3 (.move (.const (.int .i64 0)))]) (.seq (.seq (.region [o 10 (.move (.tmp 0)),o 11 (.lenS (.tmp 10)),o 12 (.iop .gtr (.tmp 11) (.const (.int .i64 64)))]) (.cond (.tmp 12) (.seq (.region [o 2 (.move (.const (.int .i64 0))),o 3 (.move (.const (.int .i64 5)))]) .ret) .skip)) (.seq (.region [o 13 (.move (.tmp 0)),o 14 (.lit 1 [.nilslice] false 1 [(0,(.tmp 13))]),o 15 (.call .shared 160 [.tmp 14]),o 4 (.alloc [.nilslice]),⟨none,.store 1 (.tmp 4) (.tmp 15),none⟩]) (.seq (.region [o 16 (.mkfunc 161 [] [.tmp 4]),o 5 (.move (.tmp 16))]) (.seq (.region [o 17 (.build [.nilfunc,.int .i64 0] [(0,1,(.const (.func 166 [] []))),(1,1,(.const (.int .i64 5)))]),o 18 (.build [.nilfunc,.int .i64 0] [(0,1,(.const (.func 167 [] []))),(1,1,(.const (.int .i64 6)))]),o 19 (.build [.nilfunc,.int .i64 0] [(0,1,(.const (.func 168 [] []))),(1,1,(.const (.int .i64 40)))]),o 20 (.build [.nilfunc,.int .i64 0] [(0,1,(.const (.func 169 [] []))),(1,1,(.const (.int .i64 41)))]),o 21 (.build [.nilfunc,.int .i64 0] [(0,1,(.const (.func 170 [] []))),(1,1,(.const (.int .i64 42)))]),o 22 (.move (.tmp 5)),o 23 (.build [.nilfunc,.int .i64 0] [(0,1,(.tmp 22)),(1,1,(.const (.int .i64 43)))]),o 24 (.lit 2 [.nilfunc,.int .i64 0] true 6 [(0,(.tmp 17)),(1,(.tmp 18)),(2,(.tmp 19)),(3,(.tmp 20)),(4,(.tmp 21)),(5,(.tmp 23))]),o 6 (.move (.tmp 24))]) (.seq (.seq (.region [o 25 (.move (.tmp 6)),o 26 (.lenS (.tmp 25)),o 27 (.move (.const (.int .i64 0)))]) (.block 0 (.loop [0,25,26,27] (.seq (.region [o 28 (.iop .lss (.tmp 27) (.tmp 26))]) (.seq (.cond (.tmp 28) .skip (.exit 0)) (.seq (.block 1 (.seq (.region [o 29 (.iaddr 2 (.tmp 25) (.tmp 27)),o 30 (.load 2 true (.tmp 29)),o 8 (.alloc [.nilfunc,.int .i64 0]),⟨none,.store 2 (.tmp 8) (.tmp 30),none⟩]) (.seq (.region [o 31 (.move (.tmp 0)),o 32 (.faddr 0 (.tmp 8)),o 33 (.load 1 false (.tmp 32)),o 34 (.call .shared 171 [.tmp 31,.tmp 33]),o 9 (.move (.tmp 34))]) (.seq (.region [o 35 (.move (.tmp 9)),o 36 (.iop .geq (.tmp 35) (.const (.int .i64 0)))]) (.cond (.tmp 36) (.seq (.region [o 37 (.move (.tmp 9)),o 38 (.faddr 1 (.tmp 8)),o 39 (.load 1 false (.tmp 38)),o 2 (.move (.tmp 37)),o 3 (.move (.tmp 39))]) .ret) .skip))))) (.region [o 40 (.iop .add (.tmp 27) (.const (.int .i64 1))),o 27 (.move (.tmp 40))]))))))) (.seq (.region [o 2 (.move (.const (.int .i64 0))),o 3 (.move (.const (.int .i64 0)))]) .ret))))))),[.tmp 2,.tmp 3]⟩
def a102 : AFunc := ⟨13,(.seq (.region [o 2 (.box (.tmp 0)),o 4 (.move (.const (.bool false)))]) (.seq (.region [o 5 (.move (.tmp 1)),o 6 (.iop .geq (.tmp 5) (.const (.int .i64 0))),o 7 (.move (.tmp 6)),⟨some 8,.move (.tmp 1),some (7,true)⟩,⟨some 9,.faddr 1 (.tmp 2),some (7,true)⟩,⟨some 10,.load 1 false (.tmp 9),some (7,true)⟩,⟨some 11,.iop .lss (.tmp 8) (.tmp 10),some (7,true)⟩,o 12 (.pick (.tmp 7) (.tmp 11) (.const (.bool false))),o 4 (.move (.tmp 12))]) .ret)),[.tmp 4]⟩
def a103 : AFunc := ⟨22,(.seq (.region [o 2 (.alloc [.int .i64 0,.int .i64 0,.nilslice]),o 3 (.move (.const (.bool false)))]) (.seq (.seq (.region [o 4 (.move (.tmp 0)),o 5 (.eqnil false .p (.tmp 4)),o 6 (.move (.tmp 5)),⟨some 7,.move (.tmp 0),some (6,false)⟩,⟨some 8,.nilCheck (.tmp 7),some (6,false)⟩,⟨some 9,.faddr 0 (.tmp 8),some (6,false)⟩,⟨some 10,.load 1 false (.tmp 9),some (6,false)⟩,⟨some 11,.lenS (.tmp 10),some (6,false)⟩,⟨some 12,.iop .eql (.tmp 11) (.const (.int .i64 0)),some (6,false)⟩,o 13 (.pick (.tmp 6) (.const (.bool true)) (.tmp 12))]) (.cond (.tmp 13) (.seq (.region [o 14 (.build [.int .i64 0,.int .i64 0,.nilslice] []),⟨none,.store 3 (.tmp 2) (.tmp 14),none⟩,o 3 (.move (.const (.bool false)))]) .ret) .skip)) (.seq (.region [o 15 (.move (.tmp 0)),o 16 (.nilCheck (.tmp 15)),o 17 (.faddr 0 (.tmp 16)),o 18 (.load 1 false (.tmp 17)),o 19 (.iaddr 3 (.tmp 18) (.const (.int .i64 0))),o 20 (.load 3 true (.tmp 19)),o 21 (.call .shared 91 [.tmp 20]),⟨none,.store 3 (.tmp 2) (.tmp 21),none⟩,o 3 (.move (.const (.bool true)))]) .ret))),[.cell 2 3 true,.tmp 3]⟩
def a104 : AFunc := ⟨22,(.seq (.region [o 4 (.move (.const .nilslice))]) (.seq (.seq (.region [o 8 (.move (.tmp 0)),o 9 (.move (.tmp 1)),o 10 (.call .shared 172 [.tmp 8,.tmp 9]),o 7 (.move (.tmp 10)),o 11 (.extract (.tmp 7) 0),o 12 (.extract (.tmp 7) 1),o 5 (.move (.tmp 11)),o 6 (.move (.tmp 12))]) (.block 0 (.loop [0,1,5,6] (.seq (.seq (.region [o 13 (.move (.tmp 6))]) (.cond (.tmp 13) .skip (.exit 0))) (.seq (.block 1 (.region [o 20 (.move (.tmp 5)),o 1 (.move (.tmp 20))])) (.region [o 15 (.move (.tmp 0)),o 16 (.move (.tmp 1)),o 17 (.call .shared 172 [.tmp 15,.tmp 16]),o 14 (.move (.tmp 17)),o 18 (.extract (.tmp 14) 0),o 19 (.extract (.tmp 14) 1),o 5 (.move (.tmp 18)),o 6 (.move (.tmp 19))])))))) (.seq (.region [o 21 (.move (.tmp 1)),o 4 (.move (.tmp 21))]) .ret))),[.tmp 4]⟩
def a126 : AFunc := ⟨9,(.seq (.region [o 4 (.move (.const (.bool false)))]) (.seq (.region [o 5 (.move (.tmp 0)),o 6 (.move (.tmp 1)),o 7 (.call .shared 197 [.tmp 5,.tmp 6]),o 8 (.iop .geq (.tmp 7) (.const (.int .i64 0))),o 4 (.move (.tmp 8))]) .ret)),[.tmp 4]⟩
def a127 : AFunc := ⟨6,(.seq (.region [o 1 (.box (.tmp 0)),o 2 (.move (.const (.bool false)))]) (.seq (.region [o 3 (.load 2 true (.tmp 1)),o 4 (.call .shared 95 [.tmp 3]),o 5 (.not (.tmp 4)),o 2 (.move (.tmp 5))]) .ret)),[.tmp 2]⟩
def a137 : AFunc := ⟨21,(.seq (.region [o 2 (.move (.const (.bool false)))]) (.seq (.seq (.region [o 3 (.move (.tmp 0)),o 4 (.lenS (.tmp 3)),o 5 (.iop .eql (.tmp 4) (.const (.int .i64 0))),o 6 (.move (.tmp 5)),⟨some 7,.move (.tmp 0),some (6,false)⟩,⟨some 8,.lenS (.tmp 7),some (6,false)⟩,⟨some 9,.iop .gtr (.tmp 8) (.const (.int .i64 256)),some (6,false)⟩,o 10 (.pick (.tmp 6) (.const (.bool true)) (.tmp 9)),o 11 (.move (.tmp 10)),⟨some 12,.move (.tmp 0),some (11,false)⟩,⟨some 13,.call .shared 174 [.tmp 12,(.const (.int .i64 0))],some (11,false)⟩,⟨some 14,.move (.tmp 0),some (11,false)⟩,⟨some 15,.lenS (.tmp 14),some (11,false)⟩,⟨some 16,.iop .neq (.tmp 13) (.tmp 15),some (11,false)⟩,o 17 (.pick (.tmp 11) (.const (.bool true)) (.tmp 16))]) (.cond (.tmp 17) (.seq (.region [o 2 (.move (.const (.bool false)))]) .ret) .skip)) (.seq (.region [o 18 (.move (.tmp 0)),o 19 (.call .shared 201 [.tmp 18,(.const (.func 208 [] []))]),o 20 (.not (.tmp 19)),o 2 (.move (.tmp 20))]) .ret))),[.tmp 2]⟩
def a140 : AFunc := ⟨9,(.seq (.region [o 4 (.move (.const (.bool false)))]) (.seq (.region [o 5 (.move (.tmp 0)),o 6 (.move (.tmp 1)),o 7 (.call .shared 209 [.tmp 5,.tmp 6]),o 8 (.iop .geq (.tmp 7) (.const (.int .i64 0))),o 4 (.move (.tmp 8))]) .ret)),[.tmp 4]⟩
def a150 : AFunc := ⟨8,(.seq (.region [o 2 (.move (.const .nilslice))]) (.seq (.seq (.region [o 3 (.move (.tmp 0)),o 4 (.eqnil false .s (.tmp 3))]) (.cond (.tmp 4) (.seq (.region [o 2 (.move (.const .nilslice))]) .ret) .skip)) (.seq (.region [o 5 (.lit 3 [.int .i64 0,.int .i64 0,.nilslice] true 0 []),o 6 (.move (.tmp 0)),o 7 (.append 3 40 (.tmp 5) (.tmp 6)),o 2 (.move (.tmp 7))]) .ret))),[.tmp 2]⟩
def a151 : AFunc := ⟨8,(.seq (.region [o 2 (.move (.const .nilslice))]) (.seq (.seq (.region [o 3 (.move (.tmp 0)),o 4 (.eqnil false .s (.tmp 3))]) (.cond (.tmp 4) (.seq (.region [o 2 (.move (.const .nilslice))]) .ret) .skip)) (.seq (.region [o 5 (.lit 4 [.int .i64 0,.int .i64 0,.nilslice,.nilslice] true 0 []),o 6 (.move (.tmp 0)),o 7 (.append 4 64 (.tmp 5) (.tmp 6)),o 2 (.move (.tmp 7))]) .ret))),[.tmp 2]⟩
def a153 : AFunc := ⟨16,(.seq (.region [o 6 (.move (.tmp 1)),o 7 (.rangeM (.tmp 6))]) (.block 0 (.loop [0,7] (.seq (.region [o 8 (.nextM (.tmp 7)),o 9 (.extract (.tmp 8) 0)]) (.seq (.cond (.tmp 9) .skip (.exit 0)) (.block 1 (.seq (.region [o 10 .fail,o 11 (.extract (.tmp 10) 0),o 12 (.extract (.tmp 10) 1),o 4 (.alloc [.int .i64 0,.int .i64 0]),⟨none,.store 2 (.tmp 4) (.tmp 11),none⟩,o 5 (.move (.tmp 12))]) (.region [o 13 (.move (.tmp 0)),o 14 (.load 2 true (.tmp 4)),o 15 (.move (.tmp 5)),⟨none,.mapset true [.i,.i] (.tmp 13) (.tmp 14) (.tmp 15),none⟩])))))))),[]⟩
def a155 : AFunc := ⟨9,(.seq (.region [o 2 (.move (.const (.int .i64 0)))]) (.seq (.region [o 4 (.move (.tmp 0)),o 5 (.call .shared 93 [.tmp 4]),o 3 (.move (.tmp 5))]) (.seq (.region [o 6 (.move (.tmp 3)),o 7 (.call .shared 219 [.tmp 6,(.const (.func 220 [] []))]),o 8 (.lenS (.tmp 7)),o 2 (.move (.tmp 8))]) .ret))),[.tmp 2]⟩
def a157 : AFunc := ⟨14,(.seq (.region [o 5 (.move (.tmp 0)),o 6 (.lenS (.tmp 5)),o 4 (.move (.tmp 6))]) (.region [o 7 (.move (.tmp 0)),o 8 (.move (.tmp 4)),o 9 (.move (.tmp 4)),o 10 (.convI .u64 (.tmp 9)),o 11 (.call .shared 222 [.tmp 10]),o 12 (.move (.tmp 1)),o 13 (.call .shared 221 [.tmp 7,(.const (.int .i64 0)),.tmp 8,.tmp 11,.tmp 12])])),[]⟩
def a159 : AFunc := ⟨6,(.seq (.region [o 2 (.move (.const (.bool false)))]) (.seq (.region [o 3 (.move (.tmp 0)),o 4 (.move (.tmp 0)),o 5 (.iop .neq (.tmp 3) (.tmp 4)),o 2 (.move (.tmp 5))]) .ret)),[.tmp 2]⟩
def a160 : AFunc := ⟨42,(.seq (.region [o 2 (.move (.const .nilslice))]) (.seq (.region [o 3 (.move (.const .nilslice))]) (.seq (.seq (.region [o 10 (.move (.tmp 0)),o 11 (.lenS (.tmp 10)),o 12 (.move (.const (.int .i64 0)))]) (.block 0 (.loop [3,10,11,12] (.seq (.region [o 13 (.iop .lss (.tmp 12) (.tmp 11))]) (.seq (.cond (.tmp 13) .skip (.exit 0)) (.seq (.block 1 (.seq (.region [o 14 (.iaddr 1 (.tmp 10) (.tmp 12)),o 15 (.load 1 false (.tmp 14)),o 5 (.move (.tmp 15))]) (.seq (.region [o 16 (.move (.tmp 5)),o 17 (.lenS (.tmp 16)),o 18 (.move (.const (.int .i64 0)))]) (.block 2 (.loop [3,10,11,12,16,17,18] (.seq (.region [o 19 (.iop .lss (.tmp 18) (.tmp 17))]) (.seq (.cond (.tmp 19) .skip (.exit 2)) (.seq (.block 3 (.seq (.region [o 20 (.iaddr 4 (.tmp 16) (.tmp 18)),o 21 (.load 4 true (.tmp 20)),o 7 (.alloc [.nilslice,.nilslice,.nilslice,.int .i64 0]),⟨none,.store 4 (.tmp 7) (.tmp 21),none⟩]) (.seq (.region [o 23 (.faddr 0 (.tmp 7)),o 24 (.load 1 false (.tmp 23)),o 25 (.call .shared 223 [.tmp 24]),o 22 (.move (.tmp 25)),o 26 (.extract (.tmp 22) 0),o 27 (.extract (.tmp 22) 1),o 8 (.alloc [(.str []),.int .i64 0]),⟨none,.store 2 (.tmp 8) (.tmp 26),none⟩,o 9 (.move (.tmp 27))]) (.seq (.region [o 28 (.move (.tmp 9)),o 29 (.move (.tmp 28)),⟨some 30,.move (.tmp 3),some (29,true)⟩,⟨some 31,.load 2 true (.tmp 8),some (29,true)⟩,⟨some 32,.call .shared 165 [.tmp 30,.tmp 31],some (29,true)⟩,⟨some 33,.not (.tmp 32),some (29,true)⟩,o 34 (.pick (.tmp 29) (.tmp 33) (.const (.bool false)))]) (.cond (.tmp 34) (.region [o 35 (.move (.tmp 3)),o 36 (.load 2 true (.tmp 8)),o 37 (.lit 2 [(.str []),.int .i64 0] true 1 [(0,(.tmp 36))]),o 38 (.append 2 24 (.tmp 35) (.tmp 37)),o 3 (.move (.tmp 38))]) .skip))))) (.region [o 39 (.iop .add (.tmp 18) (.const (.int .i64 1))),o 18 (.move (.tmp 39))]))))))))) (.region [o 40 (.iop .add (.tmp 12) (.const (.int .i64 1))),o 12 (.move (.tmp 40))]))))))) (.seq (.region [o 41 (.move (.tmp 3)),o 2 (.move (.tmp 41))]) .ret)))),[.tmp 2]⟩
def a171 : AFunc := ⟨19,(.seq (.region [o 4 (.move (.const (.int .i64 0)))]) (.seq (.seq (.region [o 6 (.move (.tmp 0)),o 7 (.lenS (.tmp 6)),o 8 (.move (.const (.int .i64 0)))]) (.block 0 (.loop [0,1,7,8] (.seq (.region [o 9 (.iop .lss (.tmp 8) (.tmp 7))]) (.seq (.cond (.tmp 9) .skip (.exit 0)) (.seq (.block 1 (.seq (.region [o 10 (.move (.tmp 8)),o 5 (.move (.tmp 10))]) (.seq (.region [o 11 (.move (.tmp 1)),o 12 (.move (.tmp 0)),o 13 (.move (.tmp 5)),o 14 (.iaddr 4 (.tmp 12) (.tmp 13)),o 15 (.load 4 true (.tmp 14)),o 16 (.callv .shared (.tmp 11) [.tmp 15])]) (.cond (.tmp 16) (.seq (.region [o 17 (.move (.tmp 5)),o 4 (.move (.tmp 17))]) .ret) .skip)))) (.region [o 18 (.iop .add (.tmp 8) (.const (.int .i64 1))),o 8 (.move (.tmp 18))]))))))) (.seq (.region [o 4 (.move (.const (.int .i64 (-1))))]) .ret))),[.tmp 4]⟩
def a172 : AFunc := ⟨24,(.seq (.region [o 4 (.move (.const .nilslice)),o 5 (.move (.const (.bool false)))]) (.seq (.seq (.region [o 6 (.move (.tmp 1)),o 7 (.lenS (.tmp 6)),o 8 (.iop .neq (.tmp 7) (.const (.int .i64 1))),o 9 (.move (.tmp 8)),⟨some 10,.move (.tmp 1),some (9,false)⟩,⟨some 11,.iaddr 5 (.tmp 10) (.const (.int .i64 0)),some (9,false)⟩,⟨some 12,.faddr 0 (.tmp 11),some (9,false)⟩,⟨some 13,.load 1 false (.tmp 12),some (9,false)⟩,⟨some 14,.iop .neq (.tmp 13) (.const (.int .u8 4)),some (9,false)⟩,o 15 (.pick (.tmp 9) (.const (.bool true)) (.tmp 14))]) (.cond (.tmp 15) (.seq (.region [o 4 (.move (.const .nilslice)),o 5 (.move (.const (.bool false)))]) .ret) .skip)) (.seq (.region [o 16 (.move (.tmp 0)),o 17 (.move (.tmp 1)),o 18 (.iaddr 5 (.tmp 17) (.const (.int .i64 0))),o 19 (.faddr 3 (.tmp 18)),o 20 (.load 2 true (.tmp 19)),o 21 (.call .shared 129 [.tmp 16,.tmp 20]),o 22 (.extract (.tmp 21) 0),o 23 (.extract (.tmp 21) 1),o 4 (.move (.tmp 22)),o 5 (.move (.tmp 23))]) .ret))),[.tmp 4,.tmp 5]⟩
def a174 : AFunc := ⟨41,(.seq (.region [o 4 (.move (.const (.int .i64 0)))]) (.seq (.seq (.region [o 6 (.move (.tmp 1)),o 7 (.iop .lss (.tmp 6) (.const (.int .i64 0))),o 8 (.move (.tmp 7)),⟨some 9,.move (.tmp 1),some (8,false)⟩,⟨some 10,.move (.tmp 0),some (8,false)⟩,⟨some 11,.lenS (.tmp 10),some (8,false)⟩,⟨some 12,.iop .geq (.tmp 9) (.tmp 11),some (8,false)⟩,o 13 (.pick (.tmp 8) (.const (.bool true)) (.tmp 12))]) (.cond (.tmp 13) (.seq (.region [o 4 (.move (.const (.int .i64 0)))]) .ret) .skip)) (.seq (.seq (.region [o 5 (.move (.const (.int .i64 1)))]) (.block 0 (.loop [0,1,5] (.seq (.seq (.region [o 14 (.move (.tmp 5)),o 15 (.iop .gtr (.tmp 14) (.const (.int .i64 0)))]) (.cond (.tmp 15) .skip (.exit 0))) (.seq (.block 1 (.seq (.seq (.region [o 18 (.move (.tmp 1)),o 19 (.move (.tmp 0)),o 20 (.lenS (.tmp 19)),o 21 (.iop .eql (.tmp 18) (.tmp 20)),o 22 (.move (.tmp 21)),⟨some 23,.move (.tmp 0),some (22,false)⟩,⟨some 24,.move (.tmp 1),some (22,false)⟩,⟨some 25,.iaddr 5 (.tmp 23) (.tmp 24),some (22,false)⟩,⟨some 26,.load 5 true (.tmp 25),some (22,false)⟩,⟨some 27,.call .shared 235 [.tmp 26],some (22,false)⟩,⟨some 28,.move (.tmp 0),some (22,false)⟩,⟨some 29,.lenS (.tmp 28),some (22,false)⟩,⟨some 30,.iop .gtr (.tmp 27) (.tmp 29),some (22,false)⟩,o 31 (.pick (.tmp 22) (.const (.bool true)) (.tmp 30))]) (.cond (.tmp 31) (.seq (.region [o 4 (.move (.const (.int .i64 0)))]) .ret) .skip)) (.region [o 32 (.move (.tmp 5)),o 33 (.move (.tmp 0)),o 34 (.move (.tmp 1)),o 35 (.iaddr 5 (.tmp 33) (.tmp 34)),o 36 (.load 5 true (.tmp 35)),o 37 (.call .shared 235 [.tmp 36]),o 38 (.iop .sub (.tmp 37) (.const (.int .i64 1))),o 39 (.iop .add (.tmp 32) (.tmp 38)),o 5 (.move (.tmp 39))]))) (.region [o 16 (.move (.tmp 1)),o 17 (.iop .add (.tmp 16) (.const (.int .i64 1))),o 1 (.move (.tmp 17))])))))) (.seq (.region [o 40 (.move (.tmp 1)),o 4 (.move (.tmp 40))]) .ret)))),[.tmp 4]⟩
def a181 : AFunc := ⟨20,(.seq (.region [o 2 (.alloc [.nilfunc])]) (.seq (.region [o 4 (.build [.nilfunc] [(0,1,(.const (.func 241 [] [])))]),o 5 (.build [.nilfunc] [(0,1,(.const (.func 243 [] [])))]),o 6 (.build [.nilfunc] [(0,1,(.const (.func 245 [] [])))]),o 7 (.build [.nilfunc] [(0,1,(.const (.func 247 [] [])))]),o 8 (.build [.nilfunc,.nilfunc,.nilfunc,.nilfunc,.nilfunc] [(1,1,(.tmp 4)),(2,1,(.tmp 5)),(3,1,(.tmp 6)),(4,1,(.tmp 7))]),o 3 (.alloc [.nilfunc,.nilfunc,.nilfunc,.nilfunc,.nilfunc]),⟨none,.store 5 (.tmp 3) (.tmp 8),none⟩]) (.seq (.seq (.region [o 9 (.move (.tmp 0)),o 10 (.iop .lss (.tmp 9) (.const (.int .u8 1))),o 11 (.move (.tmp 10)),⟨some 12,.move (.tmp 0),some (11,false)⟩,⟨some 13,.convI .i64 (.tmp 12),some (11,false)⟩,⟨some 14,.iop .geq (.tmp 13) (.const (.int .i64 5)),some (11,false)⟩,o 15 (.pick (.tmp 11) (.const (.bool true)) (.tmp 14))]) (.cond (.tmp 15) (.seq (.region [o 16 (.build [.nilfunc] [(0,1,(.const (.func 248 [] [])))]),⟨none,.store 1 (.tmp 2) (.tmp 16),none⟩]) .ret) .skip)) (.seq (.region [o 17 (.move (.tmp 0)),o 18 (.aaddr 5 1 (.tmp 3) (.tmp 17)),o 19 (.load 1 true (.tmp 18)),⟨none,.store 1 (.tmp 2) (.tmp 19),none⟩]) .ret)))),[.cell 2 1 true]⟩
def a197 : AFunc := ⟨19,(.seq (.region [o 4 (.move (.const (.int .i64 0)))]) (.seq (.seq (.region [o 6 (.move (.tmp 0)),o 7 (.lenS (.tmp 6)),o 8 (.move (.const (.int .i64 0)))]) (.block 0 (.loop [0,1,7,8] (.seq (.region [o 9 (.iop .lss (.tmp 8) (.tmp 7))]) (.seq (.cond (.tmp 9) .skip (.exit 0)) (.seq (.block 1 (.seq (.region [o 10 (.move (.tmp 8)),o 5 (.move (.tmp 10))]) (.seq (.region [o 11 (.move (.tmp 1)),o 12 (.move (.tmp 0)),o 13 (.move (.tmp 5)),o 14 (.iaddr 2 (.tmp 12) (.tmp 13)),o 15 (.load 2 true (.tmp 14)),o 16 (.callv .shared (.tmp 11) [.tmp 15])]) (.cond (.tmp 16) (.seq (.region [o 17 (.move (.tmp 5)),o 4 (.move (.tmp 17))]) .ret) .skip)))) (.region [o 18 (.iop .add (.tmp 8) (.const (.int .i64 1))),o 8 (.move (.tmp 18))]))))))) (.seq (.region [o 4 (.move (.const (.int .i64 (-1))))]) .ret))),[.tmp 4]⟩
def a201 : AFunc := ⟨9,(.seq (.region [o 4 (.move (.const (.bool false)))]) (.seq (.region [o 5 (.move (.tmp 0)),o 6 (.move (.tmp 1)),o 7 (.call .shared 258 [.tmp 5,.tmp 6]),o 8 (.iop .geq (.tmp 7) (.const (.int .i64 0))),o 4 (.move (.tmp 8))]) .ret)),[.tmp 4]⟩
def a208 : AFunc := ⟨10,(.seq (.region [o 1 (.box (.tmp 0)),o 2 (.move (.const (.bool false)))]) (.seq (.drawn [o 3 (.faddr 0 (.tmp 1)),o 4 (.load 1 false (.tmp 3)),o 5 (.call .shared 181 [.tmp 4]),o 6 (.field 0 1 false (.tmp 5)),o 7 (.load 5 true (.tmp 1)),o 8 (.callv .shared (.tmp 6) [.tmp 7]),o 9 (.not (.tmp 8)),o 2 (.move (.tmp 9))] [(4,2)]) .ret)),[.tmp 2]⟩
def a209 : AFunc := ⟨19,(.seq (.region [o 4 (.move (.const (.int .i64 0)))]) (.seq (.seq (.region [o 6 (.move (.tmp 0)),o 7 (.lenS (.tmp 6)),o 8 (.move (.const (.int .i64 0)))]) (.block 0 (.loop [0,1,7,8] (.seq (.region [o 9 (.iop .lss (.tmp 8) (.tmp 7))]) (.seq (.cond (.tmp 9) .skip (.exit 0)) (.seq (.block 1 (.seq (.region [o 10 (.move (.tmp 8)),o 5 (.move (.tmp 10))]) (.seq (.region [o 11 (.move (.tmp 1)),o 12 (.move (.tmp 0)),o 13 (.move (.tmp 5)),o 14 (.iaddr 1 (.tmp 12) (.tmp 13)),o 15 (.load 1 false (.tmp 14)),o 16 (.callv .shared (.tmp 11) [.tmp 15])]) (.cond (.tmp 16) (.seq (.region [o 17 (.move (.tmp 5)),o 4 (.move (.tmp 17))]) .ret) .skip)))) (.region [o 18 (.iop .add (.tmp 8) (.const (.int .i64 1))),o 8 (.move (.tmp 18))]))))))) (.seq (.region [o 4 (.move (.const (.int .i64 (-1))))]) .ret))),[.tmp 4]⟩
def a219 : AFunc := ⟨66,(.seq (.region [o 4 (.move (.const .nilslice))]) (.seq (.seq (.region [o 8 (.move (.tmp 0)),o 9 (.lenS (.tmp 8)),o 10 (.iop .lss (.tmp 9) (.const (.int .i64 2)))]) (.cond (.tmp 10) (.seq (.region [o 11 (.move (.tmp 0)),o 4 (.move (.tmp 11))]) .ret) .skip)) (.seq (.seq (.region [o 5 (.move (.const (.int .i64 1)))]) (.block 0 (.loop [0,1,5] (.seq (.seq (.region [o 12 (.move (.tmp 5)),o 13 (.move (.tmp 0)),o 14 (.lenS (.tmp 13)),o 15 (.iop .lss (.tmp 12) (.tmp 14))]) (.cond (.tmp 15) .skip (.exit 0))) (.seq (.block 1 (.seq (.region [o 18 (.move (.tmp 1)),o 19 (.move (.tmp 0)),o 20 (.move (.tmp 5)),o 21 (.iaddr 4 (.tmp 19) (.tmp 20)),o 22 (.load 4 true (.tmp 21)),o 23 (.move (.tmp 0)),o 24 (.move (.tmp 5)),o 25 (.iop .sub (.tmp 24) (.const (.int .i64 1))),o 26 (.iaddr 4 (.tmp 23) (.tmp 25)),o 27 (.load 4 true (.tmp 26)),o 28 (.callv .shared (.tmp 18) [.tmp 22,.tmp 27])]) (.cond (.tmp 28) (.seq (.region [o 29 (.move (.tmp 0)),o 30 (.move (.tmp 5)),o 31 (.sliceOp 4 (.tmp 29) (some (.tmp 30)) none none),o 6 (.move (.tmp 31))]) (.seq (.seq (.region [o 7 (.move (.const (.int .i64 1)))]) (.block 2 (.loop [0,1,5,6,7] (.seq (.seq (.region [o 32 (.move (.tmp 7)),o 33 (.move (.tmp 6)),o 34 (.lenS (.tmp 33)),o 35 (.iop .lss (.tmp 32) (.tmp 34))]) (.cond (.tmp 35) .skip (.exit 2))) (.seq (.block 3 (.seq (.region [o 38 (.move (.tmp 1)),o 39 (.move (.tmp 6)),o 40 (.move (.tmp 7)),o 41 (.iaddr 4 (.tmp 39) (.tmp 40)),o 42 (.load 4 true (.tmp 41)),o 43 (.move (.tmp 6)),o 44 (.move (.tmp 7)),o 45 (.iop .sub (.tmp 44) (.const (.int .i64 1))),o 46 (.iaddr 4 (.tmp 43) (.tmp 45)),o 47 (.load 4 true (.tmp 46)),o 48 (.callv .shared (.tmp 38) [.tmp 42,.tmp 47]),o 49 (.not (.tmp 48))]) (.cond (.tmp 49) (.seq (.region [o 50 (.move (.tmp 0)),o 51 (.move (.tmp 5)),o 52 (.move (.tmp 6)),o 53 (.move (.tmp 7)),o 54 (.iaddr 4 (.tmp 52) (.tmp 53)),o 55 (.load 4 true (.tmp 54)),o 56 (.iaddr 4 (.tmp 50) (.tmp 51)),⟨none,.store 4 (.tmp 56) (.tmp 55),none⟩]) (.region [o 57 (.move (.tmp 5)),o 58 (.iop .add (.tmp 57) (.const (.int .i64 1))),o 5 (.move (.tmp 58))])) .skip))) (.region [o 36 (.move (.tmp 7)),o 37 (.iop .add (.tmp 36) (.const (.int .i64 1))),o 7 (.move (.tmp 37))])))))) (.seq (.region [o 59 (.move (.tmp 0)),o 60 (.move (.tmp 5)),o 61 (.sliceOp 4 (.tmp 59) (some (.tmp 60)) none none),⟨none,.clr 4 [.int .i64 0,.int .i64 0,.int .i64 0,.int .i64 0] true (.tmp 61),none⟩]) (.seq (.region [o 62 (.move (.tmp 0)),o 63 (.move (.tmp 5)),o 64 (.sliceOp 4 (.tmp 62) none (some (.tmp 63)) none),o 4 (.move (.tmp 64))]) .ret)))) .skip))) (.region [o 16 (.move (.tmp 5)),o 17 (.iop .add (.tmp 16) (.const (.int .i64 1))),o 5 (.move (.tmp 17))])))))) (.seq (.region [o 65 (.move (.tmp 0)),o 4 (.move (.tmp 65))]) .ret)))),[.tmp 4]⟩
def a221 : AFunc := ⟨148,(.seq (.region [o 10 (.move (.const (.bool true)))]) (.seq (.region [o 11 (.move (.const (.bool true)))]) (.block 0 (.loop [0,1,2,3,4,10,11] (.block 1 (.seq (.region [o 21 (.move (.tmp 2)),o 22 (.move (.tmp 1)),o 23 (.iop .sub (.tmp 21) (.tmp 22)),o 12 (.move (.tmp 23))]) (.seq (.seq (.region [o 24 (.move (.tmp 12)),o 25 (.iop .leq (.tmp 24) (.const (.int .i64 12)))]) (.cond (.tmp 25) (.seq (.region [o 26 (.move (.tmp 0)),o 27 (.move (.tmp 1)),o 28 (.move (.tmp 2)),o 29 (.move (.tmp 4)),o 30 (.call .shared 266 [.tmp 26,.tmp 27,.tmp 28,.tmp 29])]) .ret) .skip)) (.seq (.seq (.region [o 31 (.move (.tmp 3)),o 32 (.iop .eql (.tmp 31) (.const (.int .i64 0)))]) (.cond (.tmp 32) (.seq (.region [o 33 (.move (.tmp 0)),o 34 (.move (.tmp 1)),o 35 (.move (.tmp 2)),o 36 (.move (.tmp 4)),o 37 (.call .shared 267 [.tmp 33,.tmp 34,.tmp 35,.tmp 36])]) .ret) .skip)) (.seq (.seq (.region [o 38 (.move (.tmp 10)),o 39 (.not (.tmp 38))]) (.cond (.tmp 39) (.seq (.region [o 40 (.move (.tmp 0)),o 41 (.move (.tmp 1)),o 42 (.move (.tmp 2)),o 43 (.move (.tmp 4)),o 44 (.call .shared 268 [.tmp 40,.tmp 41,.tmp 42,.tmp 43])]) (.region [o 45 (.move (.tmp 3)),o 46 (.iop .sub (.tmp 45) (.const (.int .i64 1))),o 3 (.move (.tmp 46))])) .skip)) (.seq (.region [o 48 (.move (.tmp 0)),o 49 (.move (.tmp 1)),o 50 (.move (.tmp 2)),o 51 (.move (.tmp 4)),o 52 (.call .shared 269 [.tmp 48,.tmp 49,.tmp 50,.tmp 51]),o 47 (.move (.tmp 52)),o 53 (.extract (.tmp 47) 0),o 54 (.extract (.tmp 47) 1),o 13 (.move (.tmp 53)),o 14 (.move (.tmp 54))]) (.seq (.seq (.region [o 55 (.move (.tmp 14)),o 56 (.iop .eql (.tmp 55) (.const (.int .i64 2)))]) (.cond (.tmp 56) (.seq (.region [o 57 (.move (.tmp 0)),o 58 (.move (.tmp 1)),o 59 (.move (.tmp 2)),o 60 (.move (.tmp 4)),o 61 (.call .shared 270 [.tmp 57,.tmp 58,.tmp 59,.tmp 60])]) (.seq (.region [o 62 (.move (.tmp 2)),o 63 (.iop .sub (.tmp 62) (.const (.int .i64 1))),o 64 (.move (.tmp 13)),o 65 (.move (.tmp 1)),o 66 (.iop .sub (.tmp 64) (.tmp 65)),o 67 (.iop .sub (.tmp 63) (.tmp 66)),o 13 (.move (.tmp 67))]) (.region [o 14 (.move (.const (.int .i64 1)))]))) .skip)) (.seq (.seq (.region [o 68 (.move (.tmp 10)),o 69 (.move (.tmp 68)),⟨some 70,.move (.tmp 11),some (69,true)⟩,o 71 (.pick (.tmp 69) (.tmp 70) (.const (.bool false))),o 72 (.move (.tmp 71)),⟨some 73,.move (.tmp 14),some (72,true)⟩,⟨some 74,.iop .eql (.tmp 73) (.const (.int .i64 1)),some (72,true)⟩,o 75 (.pick (.tmp 72) (.tmp 74) (.const (.bool false)))]) (.cond (.tmp 75) (.seq (.region [o 76 (.move (.tmp 0)),o 77 (.move (.tmp 1)),o 78 (.move (.tmp 2)),o 79 (.move (.tmp 4)),o 80 (.call .shared 271 [.tmp 76,.tmp 77,.tmp 78,.tmp 79])]) (.cond (.tmp 80) .ret .skip)) .skip)) (.seq (.seq (.region [o 81 (.move (.tmp 1)),o 82 (.iop .gtr (.tmp 81) (.const (.int .i64 0))),o 83 (.move (.tmp 82)),⟨some 84,.move (.tmp 4),some (83,true)⟩,⟨some 85,.move (.tmp 0),some (83,true)⟩,⟨some 86,.move (.tmp 1),some (83,true)⟩,⟨some 87,.iop .sub (.tmp 86) (.const (.int .i64 1)),some (83,true)⟩,⟨some 88,.iaddr 4 (.tmp 85) (.tmp 87),some (83,true)⟩,⟨some 89,.load 4 true (.tmp 88),some (83,true)⟩,⟨some 90,.move (.tmp 0),some (83,true)⟩,⟨some 91,.move (.tmp 13),some (83,true)⟩,⟨some 92,.iaddr 4 (.tmp 90) (.tmp 91),some (83,true)⟩,⟨some 93,.load 4 true (.tmp 92),some (83,true)⟩,⟨some 94,.callv .shared (.tmp 84) [.tmp 89,.tmp 93],some (83,true)⟩,⟨some 95,.iop .lss (.tmp 94) (.const (.int .i64 0)),some (83,true)⟩,⟨some 96,.not (.tmp 95),some (83,true)⟩,o 97 (.pick (.tmp 83) (.tmp 96) (.const (.bool false)))]) (.cond (.tmp 97) (.seq (.region [o 98 (.move (.tmp 0)),o 99 (.move (.tmp 1)),o 100 (.move (.tmp 2)),o 101 (.move (.tmp 13)),o 102 (.move (.tmp 4)),o 103 (.call .shared 272 [.tmp 98,.tmp 99,.tmp 100,.tmp 101,.tmp 102]),o 15 (.move (.tmp 103))]) (.seq (.region [o 104 (.move (.tmp 15)),o 1 (.move (.tmp 104))]) (.exit 1))) .skip)) (.seq (.region [o 106 (.move (.tmp 0)),o 107 (.move (.tmp 1)),o 108 (.move (.tmp 2)),o 109 (.move (.tmp 13)),o 110 (.move (.tmp 4)),o 111 (.call .shared 273 [.tmp 106,.tmp 107,.tmp 108,.tmp 109,.tmp 110]),o 105 (.move (.tmp 111)),o 112 (.extract (.tmp 105) 0),o 113 (.extract (.tmp 105) 1),o 16 (.move (.tmp 112)),o 17 (.move (.tmp 113))]) (.seq (.region [o 114 (.move (.tmp 17)),o 11 (.move (.tmp 114))]) (.seq (.region [o 115 (.move (.tmp 16)),o 116 (.move (.tmp 1)),o 117 (.iop .sub (.tmp 115) (.tmp 116)),o 118 (.move (.tmp 2)),o 119 (.move (.tmp 16)),o 120 (.iop .sub (.tmp 118) (.tmp 119)),o 18 (.move (.tmp 117)),o 19 (.move (.tmp 120))]) (.seq (.region [o 121 (.move (.tmp 12)),o 122 (.iop .quo (.tmp 121) (.const (.int .i64 8))),o 20 (.move (.tmp 122))]) (.seq (.region [o 123 (.move (.tmp 18)),o 124 (.move (.tmp 19)),o 125 (.iop .lss (.tmp 123) (.tmp 124))]) (.cond (.tmp 125) (.seq (.region [o 126 (.move (.tmp 18)),o 127 (.move (.tmp 20)),o 128 (.iop .geq (.tmp 126) (.tmp 127)),o 10 (.move (.tmp 128))]) (.seq (.region [o 129 (.move (.tmp 0)),o 130 (.move (.tmp 1)),o 131 (.move (.tmp 16)),o 132 (.move (.tmp 3)),o 133 (.move (.tmp 4)),o 134 (.call .shared 221 [.tmp 129,.tmp 130,.tmp 131,.tmp 132,.tmp 133])]) (.region [o 135 (.move (.tmp 16)),o 136 (.iop .add (.tmp 135) (.const (.int .i64 1))),o 1 (.move (.tmp 136))]))) (.seq (.region [o 137 (.move (.tmp 19)),o 138 (.move (.tmp 20)),o 139 (.iop .geq (.tmp 137) (.tmp 138)),o 10 (.move (.tmp 139))]) (.seq (.region [o 140 (.move (.tmp 0)),o 141 (.move (.tmp 16)),o 142 (.iop .add (.tmp 141) (.const (.int .i64 1))),o 143 (.move (.tmp 2)),o 144 (.move (.tmp 3)),o 145 (.move (.tmp 4)),o 146 (.call .shared 221 [.tmp 140,.tmp 142,.tmp 143,.tmp 144,.tmp 145])]) (.region [o 147 (.move (.tmp 16)),o 2 (.move (.tmp 147))])))))))))))))))))))))),[]⟩
def a222 : AFunc := ⟨8,(.seq (.region [o 2 (.move (.const (.int .i64 0)))]) (.seq (.cond (.const (.bool false)) (.seq (.region [o 3 (.move (.tmp 0)),o 4 (.convI .u32 (.tmp 3)),o 5 (.call .shared 274 [.tmp 4]),o 2 (.move (.tmp 5))]) .ret) .skip) (.seq (.region [o 6 (.move (.tmp 0)),o 7 (.call .shared 275 [.tmp 6]),o 2 (.move (.tmp 7))]) .ret))),[.tmp 2]⟩
def a235 : AFunc := ⟨9,(.seq (.region [o 1 (.box (.tmp 0)),o 2 (.move (.const (.int .i64 0)))]) (.seq (.seq (.region [o 3 (.faddr 0 (.tmp 1)),o 4 (.load 1 false (.tmp 3)),o 5 (.iop .neq (.tmp 4) (.const (.int .u8 3)))]) (.cond (.tmp 5) (.seq (.region [o 2 (.move (.const (.int .i64 0)))]) .ret) .skip)) (.seq (.region [o 6 (.faddr 2 (.tmp 1)),o 7 (.load 1 false (.tmp 6)),o 8 (.maxI [.tmp 7,(.const (.int .i64 0))]),o 2 (.move (.tmp 8))]) .ret))),[.tmp 2]⟩
def a242 : AFunc := ⟨8,(.seq (.region [o 2 (.box (.tmp 0)),o 3 (.box (.tmp 1)),o 4 (.move (.const (.bool false)))]) (.seq (.region [o 5 (.load 5 true (.tmp 2)),o 6 (.load 5 true (.tmp 3)),o 7 (.eqs false [.i,.s,.i,.i,.i] (.tmp 5) (.tmp 6)),o 4 (.move (.tmp 7))]) .ret)),[.tmp 4]⟩
def a243 : AFunc := ⟨13,(.seq (.region [o 1 (.box (.tmp 0)),o 2 (.move (.const (.bool false)))]) (.seq (.region [o 3 (.faddr 1 (.tmp 1)),o 4 (.load 1 false (.tmp 3)),o 5 (.call .shared 244 [.tmp 4]),o 6 (.move (.tmp 5)),⟨some 7,.load 5 true (.tmp 1),some (6,true)⟩,⟨some 8,.faddr 1 (.tmp 1),some (6,true)⟩,⟨some 9,.load 1 false (.tmp 8),some (6,true)⟩,⟨some 10,.build [.int .u8 0,(.str []),.int .i64 0,.int .i64 0,.int .i64 0] [(0,1,(.const (.int .u8 2))),(1,1,(.tmp 9))],some (6,true)⟩,⟨some 11,.call .shared 242 [.tmp 7,.tmp 10],some (6,true)⟩,o 12 (.pick (.tmp 6) (.tmp 11) (.const (.bool false))),o 2 (.move (.tmp 12))]) .ret)),[.tmp 2]⟩
def a244 : AFunc := ⟨54,(.seq (.region [o 2 (.move (.const (.bool false)))]) (.seq (.seq (.region [o 6 (.move (.tmp 0)),o 7 (.lenStr (.tmp 6)),o 8 (.move (.const (.int .i64 0)))]) (.block 0 (.loop [0,7,8] (.seq (.region [o 9 (.iop .lss (.tmp 8) (.tmp 7))]) (.seq (.cond (.tmp 9) .skip (.exit 0)) (.seq (.block 1 (.seq (.region [o 10 (.move (.tmp 8)),o 3 (.move (.tmp 10))]) (.seq (.region [o 11 (.move (.tmp 0)),o 12 (.move (.tmp 3)),o 13 (.strIdx (.tmp 11) (.tmp 12)),o 4 (.move (.tmp 13))]) (.seq (.region [o 14 (.move (.tmp 4)),o 15 (.iop .geq (.tmp 14) (.const (.int .u8 97))),o 16 (.move (.tmp 15)),⟨some 17,.move (.tmp 4),some (16,true)⟩,⟨some 18,.iop .leq (.tmp 17) (.const (.int .u8 122)),some (16,true)⟩,o 19 (.pick (.tmp 16) (.tmp 18) (.const (.bool false))),o 5 (.move (.tmp 19))]) (.seq (.region [o 20 (.move (.tmp 5)),o 21 (.not (.tmp 20)),o 22 (.move (.tmp 21)),⟨some 23,.move (.tmp 3),some (22,true)⟩,⟨some 24,.iop .eql (.tmp 23) (.const (.int .i64 0)),some (22,true)⟩,⟨some 25,.move (.tmp 24),some (22,true)⟩,⟨some 26,.move (.tmp 4),some (25,false)⟩,⟨some 27,.iop .lss (.tmp 26) (.const (.int .u8 65)),some (25,false)⟩,⟨some 28,.move (.tmp 27),some (25,false)⟩,⟨some 29,.move (.tmp 4),some (28,false)⟩,⟨some 30,.iop .gtr (.tmp 29) (.const (.int .u8 90)),some (28,false)⟩,⟨some 31,.pick (.tmp 28) (.const (.bool true)) (.tmp 30),some (25,false)⟩,⟨some 32,.move (.tmp 31),some (25,false)⟩,⟨some 33,.move (.tmp 4),some (32,true)⟩,⟨some 34,.iop .lss (.tmp 33) (.const (.int .u8 48)),some (32,true)⟩,⟨some 35,.move (.tmp 34),some (32,true)⟩,⟨some 36,.move (.tmp 4),some (35,false)⟩,⟨some 37,.iop .gtr (.tmp 36) (.const (.int .u8 57)),some (35,false)⟩,⟨some 38,.pick (.tmp 35) (.const (.bool true)) (.tmp 37),some (32,true)⟩,⟨some 39,.pick (.tmp 32) (.tmp 38) (.const (.bool false)),some (25,false)⟩,⟨some 40,.move (.tmp 39),some (25,false)⟩,⟨some 41,.move (.tmp 4),some (40,true)⟩,⟨some 42,.iop .neq (.tmp 41) (.const (.int .u8 95)),some (40,true)⟩,⟨some 43,.pick (.tmp 40) (.tmp 42) (.const (.bool false)),some (25,false)⟩,⟨some 44,.pick (.tmp 25) (.const (.bool true)) (.tmp 43),some (22,true)⟩,o 45 (.pick (.tmp 22) (.tmp 44) (.const (.bool false)))]) (.cond (.tmp 45) (.seq (.region [o 2 (.move (.const (.bool false)))]) .ret) .skip)))))) (.region [o 46 (.iop .add (.tmp 8) (.const (.int .i64 1))),o 8 (.move (.tmp 46))]))))))) (.seq (.region [o 47 (.move (.tmp 0)),o 48 (.sop .neq (.tmp 47) (.const (.str []))),o 49 (.move (.tmp 48)),⟨some 50,.move (.tmp 0),some (49,true)⟩,⟨some 51,.lenStr (.tmp 50),some (49,true)⟩,⟨some 52,.iop .leq (.tmp 51) (.const (.int .i64 16)),some (49,true)⟩,o 53 (.pick (.tmp 49) (.tmp 52) (.const (.bool false))),o 2 (.move (.tmp 53))]) .ret))),[.tmp 2]⟩
def a258 : AFunc := ⟨19,(.seq (.region [o 4 (.move (.const (.int .i64 0)))]) (.seq (.seq (.region [o 6 (.move (.tmp 0)),o 7 (.lenS (.tmp 6)),o 8 (.move (.const (.int .i64 0)))]) (.block 0 (.loop [0,1,7,8] (.seq (.region [o 9 (.iop .lss (.tmp 8) (.tmp 7))]) (.seq (.cond (.tmp 9) .skip (.exit 0)) (.seq (.block 1 (.seq (.region [o 10 (.move (.tmp 8)),o 5 (.move (.tmp 10))]) (.seq (.region [o 11 (.move (.tmp 1)),o 12 (.move (.tmp 0)),o 13 (.move (.tmp 5)),o 14 (.iaddr 5 (.tmp 12) (.tmp 13)),o 15 (.load 5 true (.tmp 14)),o 16 (.callv .shared (.tmp 11) [.tmp 15])]) (.cond (.tmp 16) (.seq (.region [o 17 (.move (.tmp 5)),o 4 (.move (.tmp 17))]) .ret) .skip)))) (.region [o 18 (.iop .add (.tmp 8) (.const (.int .i64 1))),o 8 (.move (.tmp 18))]))))))) (.seq (.region [o 4 (.move (.const (.int .i64 (-1))))]) .ret))),[.tmp 4]⟩
def a266 : AFunc := ⟨53,(.seq (.region [o 10 (.move (.tmp 1)),o 11 (.iop .add (.tmp 10) (.const (.int .i64 1))),o 8 (.move (.tmp 11))]) (.block 0 (.loop [0,1,2,3,8] (.seq (.seq (.region [o 12 (.move (.tmp 8)),o 13 (.move (.tmp 2)),o 14 (.iop .lss (.tmp 12) (.tmp 13))]) (.cond (.tmp 14) .skip (.exit 0))) (.seq (.block 1 (.seq (.region [o 17 (.move (.tmp 8)),o 9 (.move (.tmp 17))]) (.block 2 (.loop [0,1,2,3,8,9] (.seq (.seq (.region [o 18 (.move (.tmp 9)),o 19 (.move (.tmp 1)),o 20 (.iop .gtr (.tmp 18) (.tmp 19)),o 21 (.move (.tmp 20)),⟨some 22,.move (.tmp 3),some (21,true)⟩,⟨some 23,.move (.tmp 0),some (21,true)⟩,⟨some 24,.move (.tmp 9),some (21,true)⟩,⟨some 25,.iaddr 4 (.tmp 23) (.tmp 24),some (21,true)⟩,⟨some 26,.load 4 true (.tmp 25),some (21,true)⟩,⟨some 27,.move (.tmp 0),some (21,true)⟩,⟨some 28,.move (.tmp 9),some (21,true)⟩,⟨some 29,.iop .sub (.tmp 28) (.const (.int .i64 1)),some (21,true)⟩,⟨some 30,.iaddr 4 (.tmp 27) (.tmp 29),some (21,true)⟩,⟨some 31,.load 4 true (.tmp 30),some (21,true)⟩,⟨some 32,.callv .shared (.tmp 22) [.tmp 26,.tmp 31],some (21,true)⟩,⟨some 33,.iop .lss (.tmp 32) (.const (.int .i64 0)),some (21,true)⟩,o 34 (.pick (.tmp 21) (.tmp 33) (.const (.bool false)))]) (.cond (.tmp 34) .skip (.exit 2))) (.seq (.block 3 (.region [o 37 (.move (.tmp 0)),o 38 (.move (.tmp 9)),o 39 (.move (.tmp 0)),o 40 (.move (.tmp 9)),o 41 (.iop .sub (.tmp 40) (.const (.int .i64 1))),o 42 (.move (.tmp 0)),o 43 (.move (.tmp 9)),o 44 (.iop .sub (.tmp 43) (.const (.int .i64 1))),o 45 (.iaddr 4 (.tmp 42) (.tmp 44)),o 46 (.load 4 true (.tmp 45)),o 47 (.move (.tmp 0)),o 48 (.move (.tmp 9)),o 49 (.iaddr 4 (.tmp 47) (.tmp 48)),o 50 (.load 4 true (.tmp 49)),o 51 (.iaddr 4 (.tmp 37) (.tmp 38)),⟨none,.store 4 (.tmp 51) (.tmp 46),none⟩,o 52 (.iaddr 4 (.tmp 39) (.tmp 41)),⟨none,.store 4 (.tmp 52) (.tmp 50),none⟩])) (.region [o 35 (.move (.tmp 9)),o 36 (.iop .sub (.tmp 35) (.const (.int .i64 1))),o 9 (.move (.tmp 36))]))))))) (.region [o 15 (.move (.tmp 8)),o 16 (.iop .add (.tmp 15) (.const (.int .i64 1))),o 8 (.move (.tmp 16))])))))),[]⟩
def a275 : AFunc := ⟨25,(.seq (.region [o 2 (.move (.const (.int .i64 0)))]) (.seq (.seq (.region [o 3 (.move (.tmp 0)),o 4 (.iop .geq (.tmp 3) (.const (.int .u64 4294967296)))]) (.cond (.tmp 4) (.seq (.region [o 5 (.move (.tmp 0)),o 6 (.iop .shr (.tmp 5) (.const (.int .u64 32))),o 0 (.move (.tmp 6))]) (.region [o 2 (.move (.const (.int .i64 32)))])) .skip)) (.seq (.seq (.region [o 7 (.move (.tmp 0)),o 8 (.iop .geq (.tmp 7) (.const (.int .u64 65536)))]) (.cond (.tmp 8) (.seq (.region [o 9 (.move (.tmp 0)),o 10 (.iop .shr (.tmp 9) (.const (.int .u64 16))),o 0 (.move (.tmp 10))]) (.region [o 11 (.move (.tmp 2)),o 12 (.iop .add (.tmp 11) (.const (.int .i64 16))),o 2 (.move (.tmp 12))])) .skip)) (.seq (.seq (.region [o 13 (.move (.tmp 0)),o 14 (.iop .geq (.tmp 13) (.const (.int .u64 256)))]) (.cond (.tmp 14) (.seq (.region [o 15 (.move (.tmp 0)),o 16 (.iop .shr (.tmp 15) (.const (.int .u64 8))),o 0 (.move (.tmp 16))]) (.region [o 17 (.move (.tmp 2)),o 18 (.iop .add (.tmp 17) (.const (.int .i64 8))),o 2 (.move (.tmp 18))])) .skip)) (.seq (.region [o 19 (.move (.tmp 2)),o 20 (.move (.tmp 0)),o 21 (.convI .u8 (.tmp 20)),o 22 (.strIdx (.const (.str [0,1,2,2,3,3,3,3,4,4,4,4,4,4,4,4,5,5,5,5,5,5,5,5,5,5,5,5,5,5,5,5,6,6,6,6,6,6,6,6,6,6,6,6,6,6,6,6,6,6,6,6,6,6,6,6,6,6,6,6,6,6,6,6,7,7,7,7,7,7,7,7,7,7,7,7,7,7,7,7,7,7,7,7,7,7,7,7,7,7,7,7,7,7,7,7,7,7,7,7,7,7,7,7,7,7,7,7,7,7,7,7,7,7,7,7,7,7,7,7,7,7,7,7,7,7,7,7,8,8,8,8,8,8,8,8,8,8,8,8,8,8,8,8,8,8,8,8,8,8,8,8,8,8,8,8,8,8,8,8,8,8,8,8,8,8,8,8,8,8,8,8,8,8,8,8,8,8,8,8,8,8,8,8,8,8,8,8,8,8,8,8,8,8,8,8,8,8,8,8,8,8,8,8,8,8,8,8,8,8,8,8,8,8,8,8,8,8,8,8,8,8,8,8,8,8,8,8,8,8,8,8,8,8,8,8,8,8,8,8,8,8,8,8,8,8,8,8,8,8,8,8,8,8,8,8])) (.tmp 21)),o 23 (.convI .i64 (.tmp 22)),o 24 (.iop .add (.tmp 19) (.tmp 23)),o 2 (.move (.tmp 24))]) .ret))))),[.tmp 2]⟩
def ir0 : FuncId → Option AFunc
 | 3 => some a3
 | 4 => some a4
 | 5 => some a5
 | 6 => some a6
 | 7 => some a7
 | 8 => some a8
 | 9 => some a9
 | 10 => some a10
 | 11 => some a11
 | 12 => some a12
 | 13 => some a13
 | 14 => some a14
 | 15 => some a15
 | 16 => some a16
 | 17 => some a17
 | 19 => some a19
 | 20 => some a20
 | 21 => some a21
 | 23 => some a23
 | 26 => some a26
 | 27 => some a27
 | 28 => some a28
 | 31 => some a31
 | 35 => some a35
 | 36 => some a36
 | 37 => some a37
 | 38 => some a38
 | 39 => some a39
 | 40 => some a40
 | 41 => some a41
 | 42 => some a42
 | 44 => some a44
 | 45 => some a45
 | 46 => some a46
 | 48 => some a48
 | 49 => some a49
 | 50 => some a50
 | 51 => some a51
 | 52 => some a52
 | 54 => some a54
 | _ => none
def ir1 : FuncId → Option AFunc
 | 56 => some a56
 | 57 => some a57
 | 66 => some a66
 | 70 => some a70
 | 71 => some a71
 | 73 => some a73
 | 74 => some a74
 | 75 => some a75
 | 85 => some a85
 | 86 => some a86
 | 87 => some a87
 | 88 => some a88
 | 89 => some a89
 | 90 => some a90
 | 91 => some a91
 | 93 => some a93
 | 94 => some a94
 | 95 => some a95
 | 96 => some a96
 | 97 => some a97
 | 98 => some a98
 | 99 => some a99
 | 100 => some a100
 | 101 => some a101
 | 102 => some a102
 | 103 => some a103
 | 104 => some a104
 | 126 => some a126
 | 127 => some a127
 | 137 => some a137
 | 140 => some a140
 | 150 => some a150
 | 151 => some a151
 | 153 => some a153
 | 155 => some a155
 | 157 => some a157
 | 159 => some a159
 | 160 => some a160
 | 171 => some a171
 | 172 => some a172
 | _ => none
def ir2 : FuncId → Option AFunc
 | 174 => some a174
 | 181 => some a181
 | 197 => some a197
 | 201 => some a201
 | 208 => some a208
 | 209 => some a209
 | 219 => some a219
 | 221 => some a221
 | 222 => some a222
 | 235 => some a235
 | 242 => some a242
 | 243 => some a243
 | 244 => some a244
 | 258 => some a258
 | 266 => some a266
 | 275 => some a275
 | _ => none
def orF (a b : Option AFunc) : Option AFunc := match a with | some x => some x | none => b
def ir (f : FuncId) : Option AFunc := orF (ir0 f) (orF (ir1 f) (ir2 f))
def cfg : Cfg := ⟨ir,fun f => f,fun g => if g = 0 then some [.str [61],.str [58,61],.str [64],.str [43],.str [45],.str [42],.str [60],.str [61,60],.str [62],.str [62,61],.str [61,58,61],.str [61,92,61]] else none,fun f => match f with | 92 => some natMC | 154 => some natMC | _ => none⟩
end Go.Proofs.YtbbekbjcmnopjaaGreatDoor.Am.CU
namespace Go.Proofs.YtbbekbjcmnopjaaGreatDoor.Am
open Go
theorem load_cells {σ : Store} {id : Nat} {cs : List AVal} (h : σ[id]? = some (.cells cs)) (off : Nat) : loadV σ 1 false (.ptr id off) = cs[off]? := by
 simp [loadV,behind,h]
theorem faddr_ptr (o id off : Nat) : faddrV o (.ptr id off) = some (.ptr id (off + o)) := rfl
theorem set_same {σ : Store} {id : Nat} {o : AObj} (h : σ[id]? = some o) : σ.set id o = σ := by
 refine List.ext_getElem? fun i => ?_
 rw [List.getElem?_set]
 split
 ·rename_i hi; subst hi
  have := (List.getElem?_eq_some_iff.1 h).1
  rw [if_pos this,h]
 ·rfl
theorem get_set {σ : Store} {id : Nat} {o o' : AObj} (h : σ[id]? = some o) : (σ.set id o')[id]? = some o' := List.getElem?_set_self (List.getElem?_eq_some_iff.1 h).1
theorem Own.one {σ : Store} {sz : Nat} {v : AVal} {es : List AVal} (h : Own σ sz v es) : v.one = true := h.sl.one
theorem Own.noCell {σ : Store} {sz : Nat} {v : AVal} {es cs : List AVal} {id : Nat} (h : Own σ sz v es) (ho : σ[id]? = some (.cells cs)) : v.sid ≠ some id := by
 intro hs
 rcases h.own with ⟨rfl,_⟩ | ⟨t,rfl⟩ | ⟨id',ep,off,cap,xs,epo,fl,rfl,h1,_⟩
 ·cases hs
 ·cases hs
 ·injection hs with hs; subst hs; rw [ho] at h1; cases h1
theorem SlOf.noCell {σ : Store} {sz : Nat} {v : AVal} {es cs : List AVal} {id : Nat} (h : SlOf σ sz v es) (ho : σ[id]? = some (.cells cs)) : v.sid ≠ some id := by
 intro hs
 rcases h.cases with ⟨rfl,_⟩ | ⟨t,f,rfl⟩ | ⟨id',ep,off,cap,sz',xs,epo,fl,rfl,h1,_⟩
 ·cases hs
 ·cases hs
 ·injection hs with hs; subst hs; rw [ho] at h1; cases h1
theorem loadN_cells {σ : Store} {id : Nat} {cs : List AVal} (h : σ[id]? = some (.cells cs)) {n : Nat} (hn : cs.length = n) : loadV σ n true (.ptr id 0) = some (.agg cs) := by
 subst hn; simp [loadV,behind,h]
theorem storeN_cells {σ : Store} {id : Nat} {cs cs' : List AVal} (h : σ[id]? = some (.cells cs)) {n : Nat} (hn : cs.length = n) (hn' : cs'.length = n) (h1 : cs'.all AVal.one = true) : storeV σ n (.ptr id 0) (.agg cs') = some (σ.set id (.cells cs')) := by
 have e : splice cs 0 cs' = cs' := by
  simp only [splice,List.take_zero,List.nil_append,Nat.zero_add]
  rw [List.drop_eq_nil_of_le (by omega),List.append_nil]
 simp only [storeV,AVal.cells,hn',h1,h,e,Nat.zero_add,hn,Nat.le_refl,and_self,if_true]
end Go.Proofs.YtbbekbjcmnopjaaGreatDoor.Am
namespace Go.Proofs.YtbbekbjcmnopjaaGreatDoor.Am
open Go
def condV (g : Bool) (v : AVal) : AVal := if g then v else .tuple []
theorem condV_true (v : AVal) : condV true v = v := rfl
theorem condV_false (v : AVal) : condV false v = .tuple [] := rfl
theorem condV_twice (g : Bool) (v : AVal) : condV g (condV g v) = condV g v := by cases g <;> rfl
theorem wantV_cond (b g c : Bool) : wantV b (condV g (.bool c)) = some (g && (c == b)) := by cases g <;> rfl
section
variable {cfg : Cfg} {d : Nat} {fr : List AVal} {σ : Store} {K : PostF}
def gstepP (g : Bool) (x : Option AVal) (fr : List AVal) (σ : Store) (K : List AVal → Store → AVal → Prop) (w : Wit K) : Prop := if g then stepP x fr σ K .mk else K fr σ (.tuple [])
theorem gstepP_some (g : Bool) (v : AVal) (fr : List AVal) (σ : Store) (R : List AVal → Store → AVal → Prop) (w : Wit R) : gstepP g (some v) fr σ R w = R fr σ (condV g v) := by
 cases g
 ·rfl
 ·simp only [gstepP,if_true,stepP_some,condV]
theorem gstepP_as {g : Bool} {x y : Option AVal} (h : g = true → x = y) (fr : List AVal) (σ : Store) (R : List AVal → Store → AVal → Prop) (w : Wit R) : gstepP g x fr σ R w = gstepP g y fr σ R w := by
 cases g
 ·rfl
 ·rw [h rfl]
theorem gp_of {o : Option Nat} {op : AOp} {os : List AOper} {x : Option AVal} (h : ∀ K,wpOs cfg d (⟨o,op,none⟩ :: os) fr σ K = stepP x fr σ (fun fr σ v => wpOs cfg d os (put fr o v) σ K) .mk) {g : Bool} {w : Wit (fun K => wpOs cfg d (⟨o,op,none⟩ :: os) fr σ K)} {w' : Wit (fun K => wpOs cfg d os (put fr o (.tuple [])) σ K)} {w'' : Wit K} :
  guardP (some g) (fun K => wpOs cfg d (⟨o,op,none⟩ :: os) fr σ K) (fun K => wpOs cfg d os (put fr o (.tuple [])) σ K) K w w' w'' = gstepP g x fr σ (fun fr σ v => wpOs cfg d os (put fr o v) σ K) .mk := by
 cases g
 ·rw [guardP_false]; rfl
 ·rw [guardP_true,h]; rfl
theorem gpO_move (o : Option Nat) (os : List AOper) (x : Opnd) {g : Bool} {w : Wit (fun K => wpOs cfg d (⟨o,.move x,none⟩ :: os) fr σ K)} {w1 : Wit (fun K => wpOs cfg d os (put fr o (.tuple [])) σ K)} {w2 : Wit K} : guardP (some g) (fun K => wpOs cfg d (⟨o,.move x,none⟩ :: os) fr σ K) (fun K => wpOs cfg d os (put fr o (.tuple [])) σ K) K w w1 w2 = gstepP g (some (ev cfg fr x)) fr σ (fun fr σ v => wpOs cfg d os (put fr o v) σ K) .mk :=
 gp_of fun K => wpO_move o os x
theorem gpO_pick (o : Option Nat) (os : List AOper) (c a b : Opnd) {g : Bool} {w : Wit (fun K => wpOs cfg d (⟨o,.pick c a b,none⟩ :: os) fr σ K)} {w1 : Wit (fun K => wpOs cfg d os (put fr o (.tuple [])) σ K)} {w2 : Wit K} : guardP (some g) (fun K => wpOs cfg d (⟨o,.pick c a b,none⟩ :: os) fr σ K) (fun K => wpOs cfg d os (put fr o (.tuple [])) σ K) K w w1 w2 = gstepP g (pickV (ev cfg fr c) (ev cfg fr a) (ev cfg fr b)) fr σ (fun fr σ v => wpOs cfg d os (put fr o v) σ K) .mk :=
 gp_of fun K => wpO_pick o os c a b
theorem gpO_iop (o : Option Nat) (os : List AOper) (op : BinOp) (x y : Opnd) {g : Bool} {w : Wit (fun K => wpOs cfg d (⟨o,.iop op x y,none⟩ :: os) fr σ K)} {w1 : Wit (fun K => wpOs cfg d os (put fr o (.tuple [])) σ K)} {w2 : Wit K} : guardP (some g) (fun K => wpOs cfg d (⟨o,.iop op x y,none⟩ :: os) fr σ K) (fun K => wpOs cfg d os (put fr o (.tuple [])) σ K) K w w1 w2 = gstepP g (iopV op (ev cfg fr x) (ev cfg fr y)) fr σ (fun fr σ v => wpOs cfg d os (put fr o v) σ K) .mk :=
 gp_of fun K => wpO_iop o os op x y
theorem gpO_sop (o : Option Nat) (os : List AOper) (op : BinOp) (x y : Opnd) {g : Bool} {w : Wit (fun K => wpOs cfg d (⟨o,.sop op x y,none⟩ :: os) fr σ K)} {w1 : Wit (fun K => wpOs cfg d os (put fr o (.tuple [])) σ K)} {w2 : Wit K} : guardP (some g) (fun K => wpOs cfg d (⟨o,.sop op x y,none⟩ :: os) fr σ K) (fun K => wpOs cfg d os (put fr o (.tuple [])) σ K) K w w1 w2 = gstepP g (sopV op (ev cfg fr x) (ev cfg fr y)) fr σ (fun fr σ v => wpOs cfg d os (put fr o v) σ K) .mk :=
 gp_of fun K => wpO_sop o os op x y
theorem gpO_bop (o : Option Nat) (os : List AOper) (neg : Bool) (x y : Opnd) {g : Bool} {w : Wit (fun K => wpOs cfg d (⟨o,.bop neg x y,none⟩ :: os) fr σ K)} {w1 : Wit (fun K => wpOs cfg d os (put fr o (.tuple [])) σ K)} {w2 : Wit K} : guardP (some g) (fun K => wpOs cfg d (⟨o,.bop neg x y,none⟩ :: os) fr σ K) (fun K => wpOs cfg d os (put fr o (.tuple [])) σ K) K w w1 w2 = gstepP g (bopV neg (ev cfg fr x) (ev cfg fr y)) fr σ (fun fr σ v => wpOs cfg d os (put fr o v) σ K) .mk :=
 gp_of fun K => wpO_bop o os neg x y
theorem gpO_eqs (o : Option Nat) (os : List AOper) (neg : Bool) (ks : List EK) (x y : Opnd) {g : Bool} {w : Wit (fun K => wpOs cfg d (⟨o,.eqs neg ks x y,none⟩ :: os) fr σ K)} {w1 : Wit (fun K => wpOs cfg d os (put fr o (.tuple [])) σ K)} {w2 : Wit K} : guardP (some g) (fun K => wpOs cfg d (⟨o,.eqs neg ks x y,none⟩ :: os) fr σ K) (fun K => wpOs cfg d os (put fr o (.tuple [])) σ K) K w w1 w2 = gstepP g ((eqsV ks (ev cfg fr x) (ev cfg fr y)).map fun (b : Bool) => (.bool (if neg then !b else b))) fr σ (fun fr σ v => wpOs cfg d os (put fr o v) σ K) .mk :=
 gp_of fun K => (wpO_eqs o os neg ks x y).trans (by cases eqsV ks (ev cfg fr x) (ev cfg fr y) <;> unfold stepP <;> rfl)
theorem gpO_eqnil (o : Option Nat) (os : List AOper) (neg : Bool) (k : NK) (x : Opnd) {g : Bool} {w : Wit (fun K => wpOs cfg d (⟨o,.eqnil neg k x,none⟩ :: os) fr σ K)} {w1 : Wit (fun K => wpOs cfg d os (put fr o (.tuple [])) σ K)} {w2 : Wit K} : guardP (some g) (fun K => wpOs cfg d (⟨o,.eqnil neg k x,none⟩ :: os) fr σ K) (fun K => wpOs cfg d os (put fr o (.tuple [])) σ K) K w w1 w2 = gstepP g ((isNil k (ev cfg fr x)).map fun (b : Bool) => (.bool (if neg then !b else b))) fr σ (fun fr σ v => wpOs cfg d os (put fr o v) σ K) .mk :=
 gp_of fun K => (wpO_eqnil o os neg k x).trans (by cases isNil k (ev cfg fr x) <;> unfold stepP <;> rfl)
theorem gpO_not (o : Option Nat) (os : List AOper) (x : Opnd) {g : Bool} {w : Wit (fun K => wpOs cfg d (⟨o,.not x,none⟩ :: os) fr σ K)} {w1 : Wit (fun K => wpOs cfg d os (put fr o (.tuple [])) σ K)} {w2 : Wit K} : guardP (some g) (fun K => wpOs cfg d (⟨o,.not x,none⟩ :: os) fr σ K) (fun K => wpOs cfg d os (put fr o (.tuple [])) σ K) K w w1 w2 = gstepP g (notV (ev cfg fr x)) fr σ (fun fr σ v => wpOs cfg d os (put fr o v) σ K) .mk :=
 gp_of fun K => wpO_not o os x
theorem gpO_convI (o : Option Nat) (os : List AOper) (k : IntKind) (x : Opnd) {g : Bool} {w : Wit (fun K => wpOs cfg d (⟨o,.convI k x,none⟩ :: os) fr σ K)} {w1 : Wit (fun K => wpOs cfg d os (put fr o (.tuple [])) σ K)} {w2 : Wit K} : guardP (some g) (fun K => wpOs cfg d (⟨o,.convI k x,none⟩ :: os) fr σ K) (fun K => wpOs cfg d os (put fr o (.tuple [])) σ K) K w w1 w2 = gstepP g (convV k (ev cfg fr x)) fr σ (fun fr σ v => wpOs cfg d os (put fr o v) σ K) .mk :=
 gp_of fun K => wpO_convI o os k x
theorem gpO_faddr (o : Option Nat) (os : List AOper) (off : Nat) (x : Opnd) {g : Bool} {w : Wit (fun K => wpOs cfg d (⟨o,.faddr off x,none⟩ :: os) fr σ K)} {w1 : Wit (fun K => wpOs cfg d os (put fr o (.tuple [])) σ K)} {w2 : Wit K} : guardP (some g) (fun K => wpOs cfg d (⟨o,.faddr off x,none⟩ :: os) fr σ K) (fun K => wpOs cfg d os (put fr o (.tuple [])) σ K) K w w1 w2 = gstepP g (faddrV off (ev cfg fr x)) fr σ (fun fr σ v => wpOs cfg d os (put fr o v) σ K) .mk :=
 gp_of fun K => wpO_faddr o os off x
theorem gpO_field (o : Option Nat) (os : List AOper) (off n : Nat) (agg : Bool) (x : Opnd) {g : Bool} {w : Wit (fun K => wpOs cfg d (⟨o,.field off n agg x,none⟩ :: os) fr σ K)} {w1 : Wit (fun K => wpOs cfg d os (put fr o (.tuple [])) σ K)} {w2 : Wit K} : guardP (some g) (fun K => wpOs cfg d (⟨o,.field off n agg x,none⟩ :: os) fr σ K) (fun K => wpOs cfg d os (put fr o (.tuple [])) σ K) K w w1 w2 = gstepP g (fieldV off n agg (ev cfg fr x)) fr σ (fun fr σ v => wpOs cfg d os (put fr o v) σ K) .mk :=
 gp_of fun K => wpO_field o os off n agg x
theorem gpO_iaddr (o : Option Nat) (os : List AOper) (sz : Nat) (x i : Opnd) {g : Bool} {w : Wit (fun K => wpOs cfg d (⟨o,.iaddr sz x i,none⟩ :: os) fr σ K)} {w1 : Wit (fun K => wpOs cfg d os (put fr o (.tuple [])) σ K)} {w2 : Wit K} : guardP (some g) (fun K => wpOs cfg d (⟨o,.iaddr sz x i,none⟩ :: os) fr σ K) (fun K => wpOs cfg d os (put fr o (.tuple [])) σ K) K w w1 w2 = gstepP g (iaddrV sz (ev cfg fr x) (ev cfg fr i)) fr σ (fun fr σ v => wpOs cfg d os (put fr o v) σ K) .mk :=
 gp_of fun K => wpO_iaddr o os sz x i
theorem gpO_aaddr (o : Option Nat) (os : List AOper) (len sz : Nat) (x i : Opnd) {g : Bool} {w : Wit (fun K => wpOs cfg d (⟨o,.aaddr len sz x i,none⟩ :: os) fr σ K)} {w1 : Wit (fun K => wpOs cfg d os (put fr o (.tuple [])) σ K)} {w2 : Wit K} : guardP (some g) (fun K => wpOs cfg d (⟨o,.aaddr len sz x i,none⟩ :: os) fr σ K) (fun K => wpOs cfg d os (put fr o (.tuple [])) σ K) K w w1 w2 = gstepP g (aaddrV len sz (ev cfg fr x) (ev cfg fr i)) fr σ (fun fr σ v => wpOs cfg d os (put fr o v) σ K) .mk :=
 gp_of fun K => wpO_aaddr o os len sz x i
theorem gpO_strIdx (o : Option Nat) (os : List AOper) (x i : Opnd) {g : Bool} {w : Wit (fun K => wpOs cfg d (⟨o,.strIdx x i,none⟩ :: os) fr σ K)} {w1 : Wit (fun K => wpOs cfg d os (put fr o (.tuple [])) σ K)} {w2 : Wit K} : guardP (some g) (fun K => wpOs cfg d (⟨o,.strIdx x i,none⟩ :: os) fr σ K) (fun K => wpOs cfg d os (put fr o (.tuple [])) σ K) K w w1 w2 = gstepP g (strIdxV (ev cfg fr x) (ev cfg fr i)) fr σ (fun fr σ v => wpOs cfg d os (put fr o v) σ K) .mk :=
 gp_of fun K => wpO_strIdx o os x i
theorem gpO_arrIdx (o : Option Nat) (os : List AOper) (len sz : Nat) (agg : Bool) (x i : Opnd) {g : Bool} {w : Wit (fun K => wpOs cfg d (⟨o,.arrIdx len sz agg x i,none⟩ :: os) fr σ K)} {w1 : Wit (fun K => wpOs cfg d os (put fr o (.tuple [])) σ K)} {w2 : Wit K} : guardP (some g) (fun K => wpOs cfg d (⟨o,.arrIdx len sz agg x i,none⟩ :: os) fr σ K) (fun K => wpOs cfg d os (put fr o (.tuple [])) σ K) K w w1 w2 = gstepP g (arrIdxV len sz agg (ev cfg fr x) (ev cfg fr i)) fr σ (fun fr σ v => wpOs cfg d os (put fr o v) σ K) .mk :=
 gp_of fun K => wpO_arrIdx o os len sz agg x i
theorem gpO_load (o : Option Nat) (os : List AOper) (n : Nat) (agg : Bool) (a : Opnd) {g : Bool} {w : Wit (fun K => wpOs cfg d (⟨o,.load n agg a,none⟩ :: os) fr σ K)} {w1 : Wit (fun K => wpOs cfg d os (put fr o (.tuple [])) σ K)} {w2 : Wit K} : guardP (some g) (fun K => wpOs cfg d (⟨o,.load n agg a,none⟩ :: os) fr σ K) (fun K => wpOs cfg d os (put fr o (.tuple [])) σ K) K w w1 w2 = gstepP g (loadV σ n agg (ev cfg fr a)) fr σ (fun fr σ v => wpOs cfg d os (put fr o v) σ K) .mk :=
 gp_of fun K => wpO_load o os n agg a
theorem gpO_sliceOp (o : Option Nat) (os : List AOper) (sz : Nat) (x : Opnd) (lo hi mx : Option Opnd) {g : Bool} {w : Wit (fun K => wpOs cfg d (⟨o,.sliceOp sz x lo hi mx,none⟩ :: os) fr σ K)} {w1 : Wit (fun K => wpOs cfg d os (put fr o (.tuple [])) σ K)} {w2 : Wit K} : guardP (some g) (fun K => wpOs cfg d (⟨o,.sliceOp sz x lo hi mx,none⟩ :: os) fr σ K) (fun K => wpOs cfg d os (put fr o (.tuple [])) σ K) K w w1 w2 = gstepP g (sliceV sz (ev cfg fr x) (oev cfg fr lo) (oev cfg fr hi) (oev cfg fr mx)) fr σ (fun fr σ v => wpOs cfg d os (put fr o v) σ K) .mk :=
 gp_of fun K => wpO_sliceOp o os sz x lo hi mx
theorem gpO_lenS (o : Option Nat) (os : List AOper) (x : Opnd) {g : Bool} {w : Wit (fun K => wpOs cfg d (⟨o,.lenS x,none⟩ :: os) fr σ K)} {w1 : Wit (fun K => wpOs cfg d os (put fr o (.tuple [])) σ K)} {w2 : Wit K} : guardP (some g) (fun K => wpOs cfg d (⟨o,.lenS x,none⟩ :: os) fr σ K) (fun K => wpOs cfg d os (put fr o (.tuple [])) σ K) K w w1 w2 = gstepP g ((lenSV (ev cfg fr x)).map fun (n : Nat) => (.int .i64 n)) fr σ (fun fr σ v => wpOs cfg d os (put fr o v) σ K) .mk :=
 gp_of fun K => (wpO_lenS o os x).trans (by cases lenSV (ev cfg fr x) <;> unfold stepP <;> rfl)
theorem gpO_lenStr (o : Option Nat) (os : List AOper) (x : Opnd) {g : Bool} {w : Wit (fun K => wpOs cfg d (⟨o,.lenStr x,none⟩ :: os) fr σ K)} {w1 : Wit (fun K => wpOs cfg d os (put fr o (.tuple [])) σ K)} {w2 : Wit K} : guardP (some g) (fun K => wpOs cfg d (⟨o,.lenStr x,none⟩ :: os) fr σ K) (fun K => wpOs cfg d os (put fr o (.tuple [])) σ K) K w w1 w2 = gstepP g ((lenStrV (ev cfg fr x)).map fun (n : Nat) => (.int .i64 n)) fr σ (fun fr σ v => wpOs cfg d os (put fr o v) σ K) .mk :=
 gp_of fun K => (wpO_lenStr o os x).trans (by cases lenStrV (ev cfg fr x) <;> unfold stepP <;> rfl)
theorem gs_iopV_l (g : Bool) (op : BinOp) (a b : AVal) (fr : List AVal) (σ : Store) (R : List AVal → Store → AVal → Prop) (w : Wit R) : gstepP g (iopV op (condV g a) b) fr σ R w = gstepP g (iopV op a b) fr σ R w := gstepP_as (fun h => by subst h; rfl) _ _ _ _
theorem gs_iopV_l2 (g c : Bool) (op : BinOp) (a b : AVal) (fr : List AVal) (σ : Store) (R : List AVal → Store → AVal → Prop) (w : Wit R) : gstepP (g && c) (iopV op (condV g a) b) fr σ R w = gstepP (g && c) (iopV op a b) fr σ R w := gstepP_as (fun h => by have := (Bool.and_eq_true _ _ ▸ h : g = true ∧ c = true).1; subst this; rfl) _ _ _ _
theorem gs_iopV_r (g : Bool) (op : BinOp) (a b : AVal) (fr : List AVal) (σ : Store) (R : List AVal → Store → AVal → Prop) (w : Wit R) : gstepP g (iopV op a (condV g b)) fr σ R w = gstepP g (iopV op a b) fr σ R w := gstepP_as (fun h => by subst h; rfl) _ _ _ _
theorem gs_iopV_r2 (g c : Bool) (op : BinOp) (a b : AVal) (fr : List AVal) (σ : Store) (R : List AVal → Store → AVal → Prop) (w : Wit R) : gstepP (g && c) (iopV op a (condV g b)) fr σ R w = gstepP (g && c) (iopV op a b) fr σ R w := gstepP_as (fun h => by have := (Bool.and_eq_true _ _ ▸ h : g = true ∧ c = true).1; subst this; rfl) _ _ _ _
theorem gs_sopV_l (g : Bool) (op : BinOp) (a b : AVal) (fr : List AVal) (σ : Store) (R : List AVal → Store → AVal → Prop) (w : Wit R) : gstepP g (sopV op (condV g a) b) fr σ R w = gstepP g (sopV op a b) fr σ R w := gstepP_as (fun h => by subst h; rfl) _ _ _ _
theorem gs_sopV_l2 (g c : Bool) (op : BinOp) (a b : AVal) (fr : List AVal) (σ : Store) (R : List AVal → Store → AVal → Prop) (w : Wit R) : gstepP (g && c) (sopV op (condV g a) b) fr σ R w = gstepP (g && c) (sopV op a b) fr σ R w := gstepP_as (fun h => by have := (Bool.and_eq_true _ _ ▸ h : g = true ∧ c = true).1; subst this; rfl) _ _ _ _
theorem gs_sopV_r (g : Bool) (op : BinOp) (a b : AVal) (fr : List AVal) (σ : Store) (R : List AVal → Store → AVal → Prop) (w : Wit R) : gstepP g (sopV op a (condV g b)) fr σ R w = gstepP g (sopV op a b) fr σ R w := gstepP_as (fun h => by subst h; rfl) _ _ _ _
theorem gs_sopV_r2 (g c : Bool) (op : BinOp) (a b : AVal) (fr : List AVal) (σ : Store) (R : List AVal → Store → AVal → Prop) (w : Wit R) : gstepP (g && c) (sopV op a (condV g b)) fr σ R w = gstepP (g && c) (sopV op a b) fr σ R w := gstepP_as (fun h => by have := (Bool.and_eq_true _ _ ▸ h : g = true ∧ c = true).1; subst this; rfl) _ _ _ _
theorem gs_strIdx_l (g : Bool) (a b : AVal) (fr : List AVal) (σ : Store) (R : List AVal → Store → AVal → Prop) (w : Wit R) : gstepP g (strIdxV (condV g a) b) fr σ R w = gstepP g (strIdxV a b) fr σ R w := gstepP_as (fun h => by subst h; rfl) _ _ _ _
theorem gs_strIdx_l2 (g c : Bool) (a b : AVal) (fr : List AVal) (σ : Store) (R : List AVal → Store → AVal → Prop) (w : Wit R) : gstepP (g && c) (strIdxV (condV g a) b) fr σ R w = gstepP (g && c) (strIdxV a b) fr σ R w := gstepP_as (fun h => by have := (Bool.and_eq_true _ _ ▸ h : g = true ∧ c = true).1; subst this; rfl) _ _ _ _
theorem gs_strIdx_r (g : Bool) (a b : AVal) (fr : List AVal) (σ : Store) (R : List AVal → Store → AVal → Prop) (w : Wit R) : gstepP g (strIdxV a (condV g b)) fr σ R w = gstepP g (strIdxV a b) fr σ R w := gstepP_as (fun h => by subst h; rfl) _ _ _ _
theorem gs_strIdx_r2 (g c : Bool) (a b : AVal) (fr : List AVal) (σ : Store) (R : List AVal → Store → AVal → Prop) (w : Wit R) : gstepP (g && c) (strIdxV a (condV g b)) fr σ R w = gstepP (g && c) (strIdxV a b) fr σ R w := gstepP_as (fun h => by have := (Bool.and_eq_true _ _ ▸ h : g = true ∧ c = true).1; subst this; rfl) _ _ _ _
theorem gs_iaddr_l (g : Bool) (sz : Nat) (a b : AVal) (fr : List AVal) (σ : Store) (R : List AVal → Store → AVal → Prop) (w : Wit R) : gstepP g (iaddrV sz (condV g a) b) fr σ R w = gstepP g (iaddrV sz a b) fr σ R w := gstepP_as (fun h => by subst h; rfl) _ _ _ _
theorem gs_iaddr_l2 (g c : Bool) (sz : Nat) (a b : AVal) (fr : List AVal) (σ : Store) (R : List AVal → Store → AVal → Prop) (w : Wit R) : gstepP (g && c) (iaddrV sz (condV g a) b) fr σ R w = gstepP (g && c) (iaddrV sz a b) fr σ R w := gstepP_as (fun h => by have := (Bool.and_eq_true _ _ ▸ h : g = true ∧ c = true).1; subst this; rfl) _ _ _ _
theorem gs_iaddr_r (g : Bool) (sz : Nat) (a b : AVal) (fr : List AVal) (σ : Store) (R : List AVal → Store → AVal → Prop) (w : Wit R) : gstepP g (iaddrV sz a (condV g b)) fr σ R w = gstepP g (iaddrV sz a b) fr σ R w := gstepP_as (fun h => by subst h; rfl) _ _ _ _
theorem gs_iaddr_r2 (g c : Bool) (sz : Nat) (a b : AVal) (fr : List AVal) (σ : Store) (R : List AVal → Store → AVal → Prop) (w : Wit R) : gstepP (g && c) (iaddrV sz a (condV g b)) fr σ R w = gstepP (g && c) (iaddrV sz a b) fr σ R w := gstepP_as (fun h => by have := (Bool.and_eq_true _ _ ▸ h : g = true ∧ c = true).1; subst this; rfl) _ _ _ _
theorem gs_load (g : Bool) (τ : Store) (n : Nat) (agg : Bool) (a : AVal) (fr : List AVal) (σ : Store) (R : List AVal → Store → AVal → Prop) (w : Wit R) : gstepP g (loadV τ n agg (condV g a)) fr σ R w = gstepP g (loadV τ n agg a) fr σ R w := gstepP_as (fun h => by subst h; rfl) _ _ _ _
theorem gs_load2 (g c : Bool) (τ : Store) (n : Nat) (agg : Bool) (a : AVal) (fr : List AVal) (σ : Store) (R : List AVal → Store → AVal → Prop) (w : Wit R) : gstepP (g && c) (loadV τ n agg (condV g a)) fr σ R w = gstepP (g && c) (loadV τ n agg a) fr σ R w := gstepP_as (fun h => by have := (Bool.and_eq_true _ _ ▸ h : g = true ∧ c = true).1; subst this; rfl) _ _ _ _
theorem gs_faddr (g : Bool) (k : Nat) (a : AVal) (fr : List AVal) (σ : Store) (R : List AVal → Store → AVal → Prop) (w : Wit R) : gstepP g (faddrV k (condV g a)) fr σ R w = gstepP g (faddrV k a) fr σ R w := gstepP_as (fun h => by subst h; rfl) _ _ _ _
theorem gs_faddr2 (g c : Bool) (k : Nat) (a : AVal) (fr : List AVal) (σ : Store) (R : List AVal → Store → AVal → Prop) (w : Wit R) : gstepP (g && c) (faddrV k (condV g a)) fr σ R w = gstepP (g && c) (faddrV k a) fr σ R w := gstepP_as (fun h => by have := (Bool.and_eq_true _ _ ▸ h : g = true ∧ c = true).1; subst this; rfl) _ _ _ _
theorem gs_field (g : Bool) (k n : Nat) (agg : Bool) (a : AVal) (fr : List AVal) (σ : Store) (R : List AVal → Store → AVal → Prop) (w : Wit R) : gstepP g (fieldV k n agg (condV g a)) fr σ R w = gstepP g (fieldV k n agg a) fr σ R w := gstepP_as (fun h => by subst h; rfl) _ _ _ _
theorem gs_field2 (g c : Bool) (k n : Nat) (agg : Bool) (a : AVal) (fr : List AVal) (σ : Store) (R : List AVal → Store → AVal → Prop) (w : Wit R) : gstepP (g && c) (fieldV k n agg (condV g a)) fr σ R w = gstepP (g && c) (fieldV k n agg a) fr σ R w := gstepP_as (fun h => by have := (Bool.and_eq_true _ _ ▸ h : g = true ∧ c = true).1; subst this; rfl) _ _ _ _
theorem gs_conv (g : Bool) (k : IntKind) (a : AVal) (fr : List AVal) (σ : Store) (R : List AVal → Store → AVal → Prop) (w : Wit R) : gstepP g (convV k (condV g a)) fr σ R w = gstepP g (convV k a) fr σ R w := gstepP_as (fun h => by subst h; rfl) _ _ _ _
theorem gs_conv2 (g c : Bool) (k : IntKind) (a : AVal) (fr : List AVal) (σ : Store) (R : List AVal → Store → AVal → Prop) (w : Wit R) : gstepP (g && c) (convV k (condV g a)) fr σ R w = gstepP (g && c) (convV k a) fr σ R w := gstepP_as (fun h => by have := (Bool.and_eq_true _ _ ▸ h : g = true ∧ c = true).1; subst this; rfl) _ _ _ _
theorem gs_not (g : Bool) (a : AVal) (fr : List AVal) (σ : Store) (R : List AVal → Store → AVal → Prop) (w : Wit R) : gstepP g (notV (condV g a)) fr σ R w = gstepP g (notV a) fr σ R w := gstepP_as (fun h => by subst h; rfl) _ _ _ _
theorem gs_not2 (g c : Bool) (a : AVal) (fr : List AVal) (σ : Store) (R : List AVal → Store → AVal → Prop) (w : Wit R) : gstepP (g && c) (notV (condV g a)) fr σ R w = gstepP (g && c) (notV a) fr σ R w := gstepP_as (fun h => by have := (Bool.and_eq_true _ _ ▸ h : g = true ∧ c = true).1; subst this; rfl) _ _ _ _
theorem gs_pick_c (g : Bool) (c0 a b : AVal) (fr : List AVal) (σ : Store) (R : List AVal → Store → AVal → Prop) (w : Wit R) : gstepP g (pickV (condV g c0) a b) fr σ R w = gstepP g (pickV c0 a b) fr σ R w := gstepP_as (fun h => by subst h; rfl) _ _ _ _
theorem gs_pick_c2 (g c : Bool) (c0 a b : AVal) (fr : List AVal) (σ : Store) (R : List AVal → Store → AVal → Prop) (w : Wit R) : gstepP (g && c) (pickV (condV g c0) a b) fr σ R w = gstepP (g && c) (pickV c0 a b) fr σ R w := gstepP_as (fun h => by have := (Bool.and_eq_true _ _ ▸ h : g = true ∧ c = true).1; subst this; rfl) _ _ _ _
theorem gs_lenStr (g : Bool) (a : AVal) (f : Nat → AVal) (fr : List AVal) (σ : Store) (R : List AVal → Store → AVal → Prop) (w : Wit R) : gstepP g ((lenStrV (condV g a)).map f) fr σ R w = gstepP g ((lenStrV a).map f) fr σ R w := gstepP_as (fun h => by subst h; rfl) _ _ _ _
theorem gs_lenStr2 (g c : Bool) (a : AVal) (f : Nat → AVal) (fr : List AVal) (σ : Store) (R : List AVal → Store → AVal → Prop) (w : Wit R) : gstepP (g && c) ((lenStrV (condV g a)).map f) fr σ R w = gstepP (g && c) ((lenStrV a).map f) fr σ R w := gstepP_as (fun h => by have := (Bool.and_eq_true _ _ ▸ h : g = true ∧ c = true).1; subst this; rfl) _ _ _ _
theorem gs_lenS (g : Bool) (a : AVal) (f : Nat → AVal) (fr : List AVal) (σ : Store) (R : List AVal → Store → AVal → Prop) (w : Wit R) : gstepP g ((lenSV (condV g a)).map f) fr σ R w = gstepP g ((lenSV a).map f) fr σ R w := gstepP_as (fun h => by subst h; rfl) _ _ _ _
theorem gs_lenS2 (g c : Bool) (a : AVal) (f : Nat → AVal) (fr : List AVal) (σ : Store) (R : List AVal → Store → AVal → Prop) (w : Wit R) : gstepP (g && c) ((lenSV (condV g a)).map f) fr σ R w = gstepP (g && c) ((lenSV a).map f) fr σ R w := gstepP_as (fun h => by have := (Bool.and_eq_true _ _ ▸ h : g = true ∧ c = true).1; subst this; rfl) _ _ _ _
theorem gstepP_false (x : Option AVal) (fr : List AVal) (σ : Store) (R : List AVal → Store → AVal → Prop) (w : Wit R) : gstepP false x fr σ R w = R fr σ (.tuple []) := rfl
theorem gstepP_true (x : Option AVal) (fr : List AVal) (σ : Store) (R : List AVal → Store → AVal → Prop) (w : Wit R) : gstepP true x fr σ R w = stepP x fr σ R .mk := rfl
theorem omap_some {α : Type} (f : α → AVal) (a : α) : (some a).map f = some (f a) := rfl
theorem pickV_or (t y : Bool) : pickV (.bool t) (.bool true) (condV (t == false) (.bool y)) = some (.bool (t || y)) := by cases t <;> rfl
theorem pickV_and (t y : Bool) : pickV (.bool t) (condV (t == true) (.bool y)) (.bool false) = some (.bool (t && y)) := by cases t <;> rfl
theorem gs_pick_or (g t y : Bool) (fr : List AVal) (σ : Store) (R : List AVal → Store → AVal → Prop) (w : Wit R) : gstepP g (pickV (.bool t) (.bool true) (condV (g && (t == false)) (.bool y))) fr σ R w = R fr σ (condV g (.bool (t || y))) := by
 cases g
 ·rfl
 ·cases t <;> simp only [gstepP,if_true,pickV_bool,stepP_some,condV,Bool.true_and,beq_self_eq_true,bq_tf,bq_ft,Bool.false_eq_true,if_false,Bool.true_or,Bool.false_or]
theorem gs_pick_and (g t y : Bool) (fr : List AVal) (σ : Store) (R : List AVal → Store → AVal → Prop) (w : Wit R) : gstepP g (pickV (.bool t) (condV (g && (t == true)) (.bool y)) (.bool false)) fr σ R w = R fr σ (condV g (.bool (t && y))) := by
 cases g
 ·rfl
 ·cases t <;> simp only [gstepP,if_true,pickV_bool,stepP_some,condV,Bool.true_and,beq_self_eq_true,bq_tf,bq_ft,Bool.false_eq_true,if_false,Bool.true_and,Bool.false_and]
theorem ite_and (t y : Bool) : (if t = true then condV (t == true) (.bool y) else AVal.bool false) = .bool (t && y) := by cases t <;> rfl
theorem ite_or (t y : Bool) : (if t = true then AVal.bool true else condV (t == false) (.bool y)) = .bool (t || y) := by cases t <;> rfl
theorem ite_gand (g t y : Bool) : condV g (if t = true then condV (g && (t == true)) (.bool y) else AVal.bool false) = condV g (.bool (t && y)) := by cases g <;> cases t <;> rfl
theorem ite_gor (g t y : Bool) : condV g (if t = true then AVal.bool true else condV (g && (t == false)) (.bool y)) = condV g (.bool (t || y)) := by cases g <;> cases t <;> rfl
end
attribute [irreducible] gstepP condV
theorem WPm : type_of% (And.intro (And.intro (And.intro (And.intro (And.intro (And.intro @gpO_move @gpO_pick) (And.intro @gpO_iop @gpO_sop)) (And.intro (And.intro @gpO_bop @gpO_eqs) (And.intro @gpO_eqnil @gpO_not))) (And.intro (And.intro (And.intro @gpO_convI @gpO_faddr) (And.intro @gpO_field @gpO_iaddr)) (And.intro (And.intro @gpO_aaddr @gpO_strIdx) (And.intro @gpO_arrIdx @gpO_load)))) (And.intro (And.intro (And.intro (And.intro @gpO_sliceOp @gpO_lenS) (And.intro @gpO_lenStr @gs_iopV_l)) (And.intro (And.intro @gs_iopV_l2 @gs_iopV_r) (And.intro @gs_iopV_r2 @gs_sopV_l))) (And.intro (And.intro (And.intro @gs_sopV_l2 @gs_sopV_r) (And.intro @gs_sopV_r2 @gs_strIdx_l)) (And.intro (And.intro @gs_strIdx_l2 @gs_strIdx_r) (And.intro @gs_strIdx_r2 (And.intro @gs_iaddr_l @gs_iaddr_l2)))))) (And.intro (And.intro (And.intro (And.intro (And.intro @gs_iaddr_r @gs_iaddr_r2) (And.intro @gs_load @gs_load2)) (And.intro (And.intro @gs_faddr @gs_faddr2) (And.intro @gs_field @gs_field2))) (And.intro (And.intro (And.intro @gs_conv @gs_conv2) (And.intro @gs_not @gs_not2)) (And.intro (And.intro @gs_pick_c @gs_pick_c2) (And.intro @gs_lenStr (And.intro @gs_lenStr2 @gs_lenS))))) (And.intro (And.intro (And.intro (And.intro @gs_lenS2 @gstepP_false) (And.intro @gstepP_true @omap_some)) (And.intro (And.intro @gs_pick_or @gs_pick_and) (And.intro @pickV_or @pickV_and))) (And.intro (And.intro (And.intro @ite_and @ite_or) (And.intro @ite_gand @ite_gor)) (And.intro (And.intro @gstepP_some @condV_true) (And.intro @condV_false (And.intro @condV_twice @wantV_cond))))))) := (And.intro (And.intro (And.intro (And.intro (And.intro (And.intro @gpO_move @gpO_pick) (And.intro @gpO_iop @gpO_sop)) (And.intro (And.intro @gpO_bop @gpO_eqs) (And.intro @gpO_eqnil @gpO_not))) (And.intro (And.intro (And.intro @gpO_convI @gpO_faddr) (And.intro @gpO_field @gpO_iaddr)) (And.intro (And.intro @gpO_aaddr @gpO_strIdx) (And.intro @gpO_arrIdx @gpO_load)))) (And.intro (And.intro (And.intro (And.intro @gpO_sliceOp @gpO_lenS) (And.intro @gpO_lenStr @gs_iopV_l)) (And.intro (And.intro @gs_iopV_l2 @gs_iopV_r) (And.intro @gs_iopV_r2 @gs_sopV_l))) (And.intro (And.intro (And.intro @gs_sopV_l2 @gs_sopV_r) (And.intro @gs_sopV_r2 @gs_strIdx_l)) (And.intro (And.intro @gs_strIdx_l2 @gs_strIdx_r) (And.intro @gs_strIdx_r2 (And.intro @gs_iaddr_l @gs_iaddr_l2)))))) (And.intro (And.intro (And.intro (And.intro (And.intro @gs_iaddr_r @gs_iaddr_r2) (And.intro @gs_load @gs_load2)) (And.intro (And.intro @gs_faddr @gs_faddr2) (And.intro @gs_field @gs_field2))) (And.intro (And.intro (And.intro @gs_conv @gs_conv2) (And.intro @gs_not @gs_not2)) (And.intro (And.intro @gs_pick_c @gs_pick_c2) (And.intro @gs_lenStr (And.intro @gs_lenStr2 @gs_lenS))))) (And.intro (And.intro (And.intro (And.intro @gs_lenS2 @gstepP_false) (And.intro @gstepP_true @omap_some)) (And.intro (And.intro @gs_pick_or @gs_pick_and) (And.intro @pickV_or @pickV_and))) (And.intro (And.intro (And.intro @ite_and @ite_or) (And.intro @ite_gand @ite_gor)) (And.intro (And.intro @gstepP_some @condV_true) (And.intro @condV_false (And.intro @condV_twice @wantV_cond)))))))
end Go.Proofs.YtbbekbjcmnopjaaGreatDoor.Am
namespace Go.Proofs.YtbbekbjcmnopjaaGreatDoor.Am
open Go
section
variable (d : Nat) (σ : Store)
end
theorem Cel.one (c : Cel) : c.cs.all AVal.one = true := rfl
theorem Cel.cells (c : Cel) : c.val.cells = c.cs := rfl
theorem Cel.g0 (c : Cel) : c.cs[0]? = some (.int .u8 c.k) := rfl
theorem Cel.g1 (c : Cel) : c.cs[1]? = some (.str c.s) := rfl
theorem Cel.g2 (c : Cel) : c.cs[2]? = some (.int .i64 c.n) := rfl
theorem Cel.g3 (c : Cel) : c.cs[3]? = some (.int .i64 c.v.1) := rfl
theorem Cel.g4 (c : Cel) : c.cs[4]? = some (.int .i64 c.v.2) := rfl
theorem Cel.eqs (a b : Cel) : eqsV [.i,.s,.i,.i,.i] a.val b.val = some (decide (a = b)) := by
 obtain ⟨k,s,n,v,w⟩ := a
 obtain ⟨k',s',n',v',w'⟩ := b
 simp [eqsV,cellsEq,Cel.val,Cel.cs]
 rw [Bool.eq_iff_iff]
 simp
 omega
section
variable (d : Nat) (σ : Store)
end
section
variable (d : Nat) (σ : Store)
end
section
variable (d : Nat) (σ : Store)
end
section
variable (d : Nat) (σ : Store)
end
section
variable (d : Nat) (σ : Store)
def isT (t : List Cel) (s : List UInt8) (n : Int) : Bool := match t with
 | [] => false
 | c :: _ => decide (c.s = s) && ((decide (c.k = 3) && decide (c.n = n)) || (decide (n = 0) && decide (c.k = 2)))
end
theorem faddr_at {σ : Store} {p : AVal} {cs : List AVal} {off : Nat} (h : behind σ p = some (cs,off)) (o : Nat) : ∃ q,faddrV o p = some q ∧ behind σ q = some (cs,off + o) := by
 cases p with
 | ptr i k =>
  simp only [behind] at h
  split at h
  ·rename_i cs' ho
   injection h with h; injection h with h1 h2; subst h1; subst h2
   exact ⟨.ptr i (k + o),rfl,by simp only [behind,ho]⟩
  ·cases h
 | eptr i ep j k =>
  simp only [behind] at h
  split at h
  ·rename_i sz es epo fl ho
   split at h
   ·rename_i hf
    rw [Option.map_eq_some_iff] at h
    obtain ⟨e,he,h⟩ := h
    injection h with h1 h2; subst h1; subst h2
    exact ⟨.eptr i ep j (k + o),rfl,by simp only [behind,ho,if_pos hf,he,Option.map_some]⟩
   ·cases h
  ·cases h
 | fptr t cs' k =>
  simp only [behind,Option.some.injEq,Prod.mk.injEq] at h
  obtain ⟨rfl,rfl⟩ := h
  exact ⟨.fptr t cs' (k + o),rfl,by simp [behind]⟩
 | _ => simp [behind] at h
theorem load_at {σ : Store} {q : AVal} {cs : List AVal} {off : Nat} (h : behind σ q = some (cs,off)) : loadV σ 1 false q = cs[off]? := by simp only [loadV,h]; rfl
theorem loadN_at {σ : Store} {q : AVal} {cs : List AVal} {off : Nat} (h : behind σ q = some (cs,off)) {n : Nat} (hn : off + n ≤ cs.length) : loadV σ n true q = some (.agg ((cs.drop off).take n)) := by
 simp only [loadV,h,ld,if_true,hn]
theorem nm_eqs (a b : Nm) : eqsV [.i,.i] (nmV a) (nmV b) = some (decide (a = b)) := by
 obtain ⟨a1,a2⟩ := a; obtain ⟨b1,b2⟩ := b
 simp only [nmV,eqsV,cellsEq,cellEq,if_true,Bool.and_true]
 congr 1
 rw [Bool.eq_iff_iff]
 simp [Prod.ext_iff]
theorem nm_keyEq (a b : Nm) : keyEq true [.i,.i] (nmV a) (nmV b) = some (decide (a = b)) := nm_eqs a b
theorem find_nm (v : Nm) : ∀ (H : Hp),∃ o : Option Nat,findK true [.i,.i] (nmV v) (H.map fun p => nmV p.1) = some o ∧ (match o with | some i => ∃ p,H[i]? = some p ∧ p.1 = v ∧ lk H v = some p.2 | none => lk H v = none)
 | [] => ⟨none,rfl,rfl⟩
 | p :: r => by
  obtain ⟨o,h1,h2⟩ := find_nm v r
  by_cases e : v = p.1
  ·refine ⟨some 0,?_,p,rfl,e.symm,?_⟩
   ·simp only [List.map_cons,findK,nm_keyEq,decide_eq_true e]
   ·simp [lk,e]
  ·have hk : lk (p :: r) v = lk r v := by simp only [lk]; rw [if_neg fun h => e h.symm]
   refine ⟨o.map (· + 1),?_,?_⟩
   ·simp only [List.map_cons,findK,nm_keyEq,decide_eq_false e,h1]
    cases o <;> rfl
   ·cases o with
    | none => simp only [Option.map_none]; rw [hk]; exact h2
    | some i =>
     obtain ⟨q,q1,q2,q3⟩ := h2
     simp only [Option.map_some]
     exact ⟨q,by simpa using q1,q2,by rw [hk]; exact q3⟩
abbrev Told (u : AVal) (t : List Cel) : Prop := ∀ σ' : Store,SlOf σ' 5 u (CC t)
theorem Told.nil : Told .nilslice [] := fun σ' => SlOf.nil σ' 5
structure HeapP (σ : Store) (id mid : Nat) (vs : List AVal) (H : Hp) : Prop where
 obj : σ[id]? = some (.cells [.map mid])
 map : σ[mid]? = some (.map (H.map fun p => nmV p.1) vs)
 vals : Two (fun u p => Told u p.2) vs H
 wf : WF H
theorem HeapP.keeps {σ σ' : Store} {id mid : Nat} {vs : List AVal} {H : Hp} (h : HeapP σ id mid vs H) {M : Nat → Prop} (hk : Keeps M σ σ') (h1 : ¬ M id) (h2 : ¬ M mid) : HeapP σ' id mid vs H :=
 ⟨hk.get h.obj h1,hk.get h.map h2,h.vals,h.wf⟩
theorem HeapP.grow {σ σ' : Store} {id mid : Nat} {vs : List AVal} {H : Hp} (h : HeapP σ id mid vs H) (hk : Grows σ σ') : HeapP σ' id mid vs H := h.keeps hk (fun h => h) (fun h => h)
theorem HeapP.set {σ : Store} {id mid : Nat} {vs : List AVal} {H : Hp} (h : HeapP σ id mid vs H) {v : Nm} {u : AVal} {t : List Cel} (hl : lk H v = none) (hu : Told u t) (hok : okB (v,t)) :
  ∃ σ',mapsetV σ true [.i,.i] (.map mid) (nmV v) u = some σ' ∧ HeapP σ' id mid (vs ++ [u]) (H ++ [(v,t)]) ∧ Keeps (fun i => i = mid) σ σ' := by
 obtain ⟨o,h1,h2⟩ := find_nm v H
 have hk : keyEq true [.i,.i] (nmV v) (nmV v) = some true := by rw [nm_keyEq,decide_eq_true rfl]
 have hf : findKK true [.i,.i] (nmV v) (H.map fun p => nmV p.1) = some o := by simp only [findKK,hk,Option.isSome_some,if_true,h1]
 have hmo := h.map
 have ho : o = none := by
  cases o with
  | none => rfl
  | some i => obtain ⟨p,_,_,p3⟩ := h2; rw [hl] at p3; cases p3
 subst ho
 have hne : id ≠ mid := fun e => by have h1 := h.obj; rw [e,h.map] at h1; cases h1
 refine ⟨σ.set mid (.map ((H.map fun p => nmV p.1) ++ [nmV v]) (vs ++ [u])),by simp only [mapsetV,hmo,hf],⟨?_,?_,h.vals.push hu,?_⟩,Keeps.set _ _ _⟩
 ·rw [List.getElem?_set_ne (fun e => hne e.symm)]; exact h.obj
 ·rw [get_set h.map]; simp
 ·have := h.wf.bind v t
  rwa [bindH,if_pos (bindE_of hok hl)] at this
def HeapV (σ : Store) (hv : AVal) (H : Hp) : Prop := (hv = .nilptr ∧ H = []) ∨ ∃ id mid vs,hv = .ptr id 0 ∧ HeapP σ id mid vs H
theorem HeapV.wf {σ : Store} {hv : AVal} {H : Hp} (h : HeapV σ hv H) : WF H := by
 rcases h with ⟨_,rfl⟩ | ⟨_,_,_,_,h⟩
 ·exact WF.nil
 ·exact h.wf
theorem HeapV.grow {σ σ' : Store} {hv : AVal} {H : Hp} (h : HeapV σ hv H) (g : Grows σ σ') : HeapV σ' hv H := by
 rcases h with h | ⟨id,mid,vs,e,h⟩
 ·exact .inl h
 ·exact .inr ⟨id,mid,vs,e,h.grow g⟩
theorem HeapP.v {σ : Store} {id mid : Nat} {vs : List AVal} {H : Hp} (h : HeapP σ id mid vs H) : HeapV σ (.ptr id 0) H := .inr ⟨id,mid,vs,rfl,h⟩
section
variable (d : Nat) (σ : Store)
end
def Small (t : List Cel) : Prop := t.length < 2 ^ 30 ∧ ∀ c ∈ t,c.k < 256 ∧ c.s.length < 2 ^ 40
section
variable (d : Nat) (σ : Store)
end
theorem Told.lit (tg : Nat) (full : Bool) (t : List Cel) : Told (.fslice tg full 5 (CC t)) t := fun σ' => SlOf.fs _ _ _ _ _
section
variable (d : Nat) (σ : Store)
end
def bdV (v : Nm) (u : AVal) : AVal := .agg [.int .i64 v.1,.int .i64 v.2,u]
def bdC (v : Nm) (u : AVal) : List AVal := [.int .i64 v.1,.int .i64 v.2,u]
def BdRel (σ : Store) (A : Nat → Prop) (e : AVal) (p : Nm × List Cel) : Prop := ∃ u,e = bdV p.1 u ∧ SlOf σ 5 u (CC p.2) ∧ ∀ i,u.sid = some i → A i
theorem BdRel.keeps {σ σ' : Store} {A B M : Nat → Prop} {e : AVal} {p : Nm × List Cel} (h : BdRel σ A e p) (hk : Keeps M σ σ') (ha : ∀ i,i < σ.length → A i → B i ∧ ¬ M i) : BdRel σ' B e p := by
 obtain ⟨u,h1,h2,h3⟩ := h
 exact ⟨u,h1,h2.keeps hk fun i hi => (ha i (h2.lt hi) (h3 i hi)).2,fun i hi => (ha i (h2.lt hi) (h3 i hi)).1⟩
def RefP (σ : Store) (A : Nat → Prop) (id : Nat) (R : Hp) : Prop := ∃ w es,σ[id]? = some (.cells [w]) ∧ SlOf σ 3 w es ∧ (∀ i,w.sid = some i → A i) ∧ Two (BdRel σ A) es R
theorem RefP.keeps {σ σ' : Store} {A B M : Nat → Prop} {id : Nat} {R : Hp} (h : RefP σ A id R) (hk : Keeps M σ σ') (hi : ¬ M id) (ha : ∀ i,i < σ.length → A i → B i ∧ ¬ M i) : RefP σ' B id R := by
 obtain ⟨w,es,h1,h2,h3,h4⟩ := h
 exact ⟨w,es,hk.get h1 hi,h2.keeps hk fun i hw => (ha i (h2.lt hw) (h3 i hw)).2,fun i hw => (ha i (h2.lt hw) (h3 i hw)).1,h4.mono fun e p he => he.keeps hk ha⟩
theorem RefP.grow {σ σ' : Store} {A : Nat → Prop} {id : Nat} {R : Hp} (h : RefP σ A id R) (g : Grows σ σ') : RefP σ' A id R := h.keeps g (fun h => h) fun i _ a => ⟨a,fun h => h⟩
def RefV (σ : Store) (rv : AVal) (R : Hp) : Prop := (rv = .nilptr ∧ R = []) ∨ ∃ id A,rv = .ptr id 0 ∧ RefP σ A id R
theorem RefV.grow {σ σ' : Store} {rv : AVal} {R : Hp} (h : RefV σ rv R) (g : Grows σ σ') : RefV σ' rv R := by
 rcases h with h | ⟨id,A,e,h⟩
 ·exact .inl h
 ·exact .inr ⟨id,A,e,h.grow g⟩
theorem RefP.v {σ : Store} {A : Nat → Prop} {id : Nat} {R : Hp} (h : RefP σ A id R) : RefV σ (.ptr id 0) R := .inr ⟨id,A,rfl,h⟩
section
variable (d : Nat) (σ : Store)
end
section
variable (d : Nat) (σ : Store)
end
def Terms (σ : Store) (l : AVal) (ts : List (List Cel)) : Prop := ∃ es,SlOf σ 1 l es ∧ Two (fun e t => SlOf σ 5 e (CC t)) es ts
theorem Terms.grow {σ σ' : Store} {l : AVal} {ts : List (List Cel)} (h : Terms σ l ts) (g : Grows σ σ') : Terms σ' l ts := by
 obtain ⟨es,h1,h2⟩ := h
 exact ⟨es,h1.grow g,h2.mono fun e t he => he.grow g⟩
theorem Terms.len {σ : Store} {l : AVal} {ts : List (List Cel)} (h : Terms σ l ts) : lenSV l = some ts.length := by
 obtain ⟨es,h1,h2⟩ := h
 rw [← h2.len]; exact h1.len
theorem Terms.at {σ : Store} {l : AVal} {ts : List (List Cel)} (h : Terms σ l ts) {i : Nat} (hi : i < ts.length) : ∃ e,iaddrV 1 l (.int .i64 i) = some (addrOf 1 l i) ∧ loadV σ 1 false (addrOf 1 l i) = some e ∧ SlOf σ 5 e (CC ts[i]) := by
 obtain ⟨es,h1,h2⟩ := h
 have hl : i < es.length := by rw [h2.len]; exact hi
 obtain ⟨e,e1,e2⟩ := h2.get hi
 have he : es[i] = e := by rw [List.getElem?_eq_getElem hl] at e1; exact Option.some.inj e1
 have := h1.load1 hl (by rw [he]; exact e2.one) 1
 rw [he] at this
 exact ⟨e,h1.iaddr hl .i64,this,e2⟩
theorem Terms.nil (σ : Store) : Terms σ .nilslice [] := ⟨[],SlOf.nil _ _,.nil⟩
section
variable (d : Nat) (σ : Store)
end
theorem CC_len (l : List Cel) : (CC l).length = l.length := by simp
def mkC (n : Int) : Cel := ⟨0,[],n,(0,0)⟩
def cmarks : List Cel := (List.range 9).map fun j : Nat => mkC (-700 - (j : Int))
structure HandedC (σ : Store) (v : AVal) (x : List Cel) (id : Nat) : Prop where
 val : v = .slice 5 id 0 0 x.length (some (x.length + 9))
 obj : σ[id]? = some (.arr 5 (CC (x ++ cmarks)) 0 0)
theorem HandedC.sl {σ : Store} {v : AVal} {x : List Cel} {id : Nat} (h : HandedC σ v x id) : SlOf σ 5 v (CC x) := by
 obtain ⟨rfl,ho⟩ := h
 refine ⟨?_,by simp [lenSV,CC_len],fun s id' ep off len c hc => ?_⟩
 ·simp [elems,ho]
 ·injection hc with _ _ _ _ e5 e6; injection e6 with e6; omega
theorem HandedC.keep {σ σ' : Store} {v : AVal} {x : List Cel} {id : Nat} (h : HandedC σ v x id) {M : Nat → Prop} (hk : Keeps M σ σ') (hm : ¬ M id) : HandedC σ' v x id := ⟨h.val,hk.get h.obj hm⟩
section
variable (d : Nat) (σ : Store)
end
def sCel (s : List UInt8) (n : Nat) : Cel := ⟨3,s,n,(0,0)⟩
def makeE (s : List UInt8) (ts : List (List Cel)) : Int := if !(sCel s ts.length).ok || ts.any (fun t => !right t) then 6 else if 256 < 1 + ts.flatten.length then 5 else 0
def makeT (s : List UInt8) (ts : List (List Cel)) : List Cel := if makeE s ts = 0 then sCel s ts.length :: ts.flatten else []
section
variable (d : Nat) (σ : Store)
end
section
variable (d : Nat) (σ : Store)
end
section
variable (d : Nat) (σ : Store)
end
def isEqT (t : List Cel) : Bool := right t && isT t [61] 2
def EqR (σ σ' : Store) (t : List Cel) (a b : AVal) : Prop := Grows σ σ' ∧ match isEqT t with
 | true => ∃ x y,args t = [x,y] ∧ Own σ' 5 a (CC x) ∧ Own σ' 5 b (CC y) ∧ Fresh σ.length a ∧ Fresh σ.length b ∧ NoLit a ∧ NoLit b ∧ ∀ j,a.sid = some j → b.sid ≠ some j
 | false => a = .nilslice ∧ b = .nilslice
section
variable (d : Nat) (σ : Store)
end
theorem ORows.cell {σ σ' : Store} {lo sz : Nat} {l : AVal} {es : List AVal} {ps : List (List AVal)} {id : Nat} {cs : List AVal} (h : ORows σ lo sz l es ps) (ho : σ[id]? = some (.cells cs)) (hk : Keeps (fun i => i = id) σ σ') : ORows σ' lo sz l es ps :=
 ⟨h.row.keeps hk fun i hi e => h.row.noCell ho (by rw [← e]; exact hi),h.len,fun i e p h1 h2 => (h.one i e p h1 h2).keeps hk fun j hj e' => (h.one i e p h1 h2).noCell ho (by rw [← e']; exact hj),h.frs,h.frl,h.apart,h.off,h.lit,h.litl⟩
section
variable (d : Nat) (σ : Store)
end
section
variable (d : Nat) (σ : Store)
end
end Go.Proofs.YtbbekbjcmnopjaaGreatDoor.Am
