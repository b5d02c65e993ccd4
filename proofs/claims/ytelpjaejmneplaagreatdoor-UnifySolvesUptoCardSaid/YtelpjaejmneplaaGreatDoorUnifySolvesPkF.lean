/-
  The abstract machine and the functions of the law, 6: texts put together.
-/
import Derived.Test.YtelpjaejmneplaaGreatDoorUnifySolvesPkD
import Derived.Test.YtelpjaejmneplaaGreatDoorUnifySolvesPkE
import Derived.Test.YtelpjaejmneplaaGreatDoorProg
import Derived.Test.YtelpjaejmneplaaGreatDoorUnifySolvesPkC
import Derived.Test.YtelpjaejmneplaaGreatDoorUnifySolvesPkB
import Derived.ChangeArms
import Derived.OpenShut
import Derived.LaidMore
import Derived.Sort.MapsRangeIn
import Derived.Maps.RangeRun
import Derived.Test.YtelpjaejmneplaaGreatDoorUnifySolvesPkA
import Derived.Shelf.SlIter.Collect
import Derived.RangeFuncBox
import Derived.Shelf.SlSortCmp.WholeK
import Derived.Shelf.SlMaps.Clone
import Derived.Shelf.SlSortCmp.NoneTotal
import Derived.RangeFuncBound
set_option linter.unusedVariables false
set_option linter.unusedSimpArgs false
set_option linter.unusedSectionVars false
set_option maxRecDepth 100000
namespace Go.Proofs.YtelpjaejmneplaaGreatDoor.Am
open Go
def sides (t : List Cel) : List Cel × List Cel := if isEqT t then ((args t).getD 0 [],(args t).getD 1 []) else ([],[])
theorem EqR.own {σ σ' : Store} {t : List Cel} {a b : AVal} (h : EqR σ σ' t a b) : Grows σ σ' ∧ Own σ' 5 a (CC (sides t).1) ∧ Own σ' 5 b (CC (sides t).2) ∧ Fresh σ.length a ∧ Fresh σ.length b ∧ NoLit a ∧ NoLit b ∧ ∀ j,a.sid = some j → b.sid ≠ some j := by
 obtain ⟨g,h⟩ := h
 refine ⟨g,?_⟩
 unfold sides
 cases he : isEqT t with
 | false =>
  rw [he] at h
  obtain ⟨rfl,rfl⟩ := h
  exact ⟨Own.nil _ _,Own.nil _ _,Fresh.nil _,Fresh.nil _,trivial,trivial,fun j h => by cases h⟩
 | true =>
  rw [he] at h
  obtain ⟨x,y,h1,h2,h3,h4⟩ := h
  rw [h1]
  exact ⟨h2,h3,h4⟩
theorem args_part {L : Nat} : ∀ {f : Nat} {r : List Cel} {a : Nat} {x : List Cel},x ∈ argsFrom L f r a → x.length ≤ r.length
 | 0,_,_,_,h => by simp [argsFrom] at h
 | f + 1,r,a,x,h => by
  simp only [argsFrom] at h
  split at h
  ·simp at h
  ·rcases List.mem_cons.1 h with rfl | h
   ·simp [List.length_take]; omega
   ·have := args_part h
    simp only [List.length_drop] at this
    omega
theorem args_short {t x : List Cel} (h : x ∈ args t) : x.length ≤ t.length := by
 unfold args at h
 split at h
 ·have := args_part h; simp only [List.length_drop] at this; omega
 ·simp at h
section
variable (d : Nat) (σ : Store)
theorem alonec_ok (lo id : Nat) (w : AVal) (es : List AVal) (qs : List (List Cel)) (h : BookC .nilslice .nilslice .nilslice .nilslice lo σ id w es qs) (hn : qs.length < 2 ^ 28) (hq : ∀ q ∈ qs,q.length < 2 ^ 28) :
  Called CU.cfg d 20 [.ptr id 0] σ fun r σ' => r = .bool true ∧ Keeps (fun j => j = id ∨ ∃ (i : Nat) (e : AVal),es[i]? = some e ∧ e.sid = some j) σ σ' := by
 refine called_of (fn := CU.a20) rfl (Nat.le_of_ble_eq_true rfl) ?_
 have e1 : fillA [AVal.nilslice,.nilslice,.nilslice,.nilslice,.nilslice] [] = some [AVal.nilslice,.nilslice,.nilslice,.nilslice,.nilslice] := rfl
 simp only [CU.a20, CU.o]
 simp -dsimp only [↓WPd,↓Zm,↓Zn,WPu,Za,Zb,Zc,Zd,Ze,Zf,Zg,Zh,Nat.reduceEqDiff,Nat.reduceLT,Zi,Zj,Zk,Zl,Nat.reduceBEq]
 refine calledW_of (alonebytes_ok d σ id _ _ _ _ _ h.obj rfl) ?_
 rintro r σ1 ⟨rfl,rfl⟩
 simp -dsimp only [↓WPd,↓Zm,↓Zn,WPu,Za,Zb,Zc,Zd,Ze,Zf,Zg,Zh,Nat.reduceEqDiff,Nat.reduceLT,Zi,Zj,Zk,Zl,Nat.reduceBEq]
 refine calledW_of (alonetexts_ok d σ1 id _ _ _ _ _ h.obj rfl) ?_
 rintro r σ2 ⟨rfl,rfl⟩
 simp -dsimp only [↓WPd,↓Zm,↓Zn,WPu,Za,Zb,Zc,Zd,Ze,Zf,Zg,Zh,Nat.reduceEqDiff,Nat.reduceLT,Zi,Zj,Zk,Zl,Nat.reduceBEq]
 refine calledW_of (aloneints_ok d σ2 id _ _ _ _ _ h.obj rfl) ?_
 rintro r σ3 ⟨rfl,rfl⟩
 simp -dsimp only [↓WPd,↓Zm,↓Zn,WPu,Za,Zb,Zc,Zd,Ze,Zf,Zg,Zh,Nat.reduceEqDiff,Nat.reduceLT,Zi,Zj,Zk,Zl,Nat.reduceBEq]
 refine calledW_of (alonecells_ok d σ3 _ _ _ _ lo id w es qs h hn hq) ?_
 rintro r σ4 ⟨rfl,o1,k1⟩
 simp -dsimp only [↓WPd,↓Zm,↓Zn,WPu,Za,Zb,Zc,Zd,Ze,Zf,Zg,Zh,Nat.reduceEqDiff,Nat.reduceLT,Zi,Zj,Zk,Zl,Nat.reduceBEq]
 refine calledW_of (alonenames_ok d σ4 id _ _ _ _ _ o1 rfl) ?_
 rintro r σ5 ⟨rfl,rfl⟩
 simp -dsimp only [↓WPd,↓Zm,↓Zn,WPu,Za,Zb,Zc,Zd,Ze,Zf,Zg,Zh,Nat.reduceEqDiff,Nat.reduceLT,Zi,Zj,Zk,Zl,Nat.reduceBEq,e1,store5 o1 rfl]
 exact Keeps.trans (k1.mono fun i _ h => .inr h) (Keeps.set _ _ _) fun i hi e => .inl e
end
theorem endAt_app {L L' : Nat} (hL : L ≤ L') {s : List Cel} {m : Nat} : ∀ {r : List Cel} {o a b : Nat},endAt L r o a = a + r.length → 0 < a + r.length → endAt L' (r ++ s) (o + m) b = endAt L' s m (b + r.length)
 | [],0,a,b,_,_ => by simp
 | [],o + 1,a,b,h,h0 => by rw [endAt_nil] at h; omega
 | c :: r,0,a,b,h,h0 => by rw [endAt_zero] at h; simp at h
 | c :: r,o + 1,a,b,h,h0 => by
  rw [endAt_cons] at h
  simp only [List.length_cons] at h h0 ⊢
  split at h
  ·omega
  ·rename_i hp
   have ih := endAt_app hL (s := s) (m := m) (r := r) (o := o + c.parts) (a := a + 1) (b := b + 1) (by omega) (by omega)
   rw [List.cons_append,show o + 1 + m = o + m + 1 by omega,endAt_cons,if_neg (by omega),show o + m + c.parts = o + c.parts + m by omega,ih]
   congr 1
   omega
theorem right_end {t : List Cel} (h : right t = true) : endAt t.length t 1 0 = 0 + t.length := by
 simp only [right,Bool.and_eq_true,decide_eq_true_eq] at h
 rw [h.1.2]; omega
theorem endAt_right {L : Nat} {t s : List Cel} (h : right t = true) (hL : t.length ≤ L) (m b : Nat) : endAt L (t ++ s) (1 + m) b = endAt L s m (b + t.length) :=
 endAt_app hL (right_end h) (by have := (right_len h).1; omega)
theorem endAt_rights {L : Nat} {s : List Cel} : ∀ {ts : List (List Cel)},(∀ t ∈ ts,right t = true ∧ t.length ≤ L) → ∀ b,endAt L (ts.flatten ++ s) ts.length b = b + ts.flatten.length
 | [],_,b => by simp [endAt_zero]
 | t :: ts,h,b => by
  obtain ⟨h1,h2⟩ := h t List.mem_cons_self
  rw [List.flatten_cons,List.append_assoc,List.length_cons,Nat.add_comm ts.length 1,endAt_right h1 h2,endAt_rights (fun t ht => h t (List.mem_cons_of_mem _ ht))]
  simp only [List.length_append]; omega
theorem argsFrom_rights {L : Nat} : ∀ {ts : List (List Cel)} {f : Nat} {a : Nat},(∀ t ∈ ts,right t = true ∧ t.length ≤ L) → ts.flatten.length ≤ f → argsFrom L f ts.flatten a = ts
 | [],f,a,_,_ => by cases f <;> simp [argsFrom]
 | t :: ts,f,a,h,hf => by
  obtain ⟨h1,h2⟩ := h t List.mem_cons_self
  have hl := right_len h1
  simp only [List.flatten_cons,List.length_append] at hf
  obtain ⟨f',rfl⟩ : ∃ f',f = f' + 1 := ⟨f - 1,by omega⟩
  have hne : t ++ ts.flatten ≠ [] := by
   intro e; have h := congrArg List.length e; simp only [List.length_append,List.length_nil] at h; omega
  have he : endAt L (t ++ ts.flatten) 1 a = a + t.length := by
   have := endAt_right (s := ts.flatten) h1 h2 0 a
   rwa [endAt_zero] at this
  simp only [List.flatten_cons,argsFrom,if_neg hne,he]
  rw [show a + t.length - a = t.length by omega,List.take_left,List.drop_left,argsFrom_rights (f := f') (fun t ht => h t (List.mem_cons_of_mem _ ht)) (by omega)]
theorem makeT_right {s : List UInt8} {ts : List (List Cel)} (h : makeE s ts = 0) : right (makeT s ts) = true := by
 obtain ⟨h1,h2,h3,h4,h5,h6⟩ := makeE_sum (s := s) (ts := ts) (by rw [h]; decide)
 have hlen : 1 + ts.flatten.length ≤ 256 := by
  unfold makeE at h
  split at h
  ·cases h
  ·split at h
   ·cases h
   ·omega
 have hle : ∀ t ∈ ts,right t = true ∧ t.length ≤ (sCel s ts.length :: ts.flatten).length := fun t ht => ⟨h2 t ht,by
  have : t.length ≤ ts.flatten.length := by
   obtain ⟨a,b,rfl⟩ := List.append_of_mem ht
   simp only [List.flatten_append,List.flatten_cons,List.length_append]; omega
  simp only [List.length_cons]; omega⟩
 have he : endAt (sCel s ts.length :: ts.flatten).length (sCel s ts.length :: ts.flatten) 1 0 = (sCel s ts.length :: ts.flatten).length := by
  have hp : (sCel s ts.length).parts = ts.length := sCel_parts s ts.length
  have hfl : ts.length ≤ ts.flatten.length := by
   have : ∀ ts : List (List Cel),(∀ t ∈ ts,right t = true) → ts.length ≤ ts.flatten.length := by
    intro ts
    induction ts with
    | nil => intro _; simp
    | cons t r ih =>
     intro h
     have := ih fun t ht => h t (List.mem_cons_of_mem _ ht)
     have := (right_len (h t List.mem_cons_self)).1
     simp only [List.length_cons,List.flatten_cons,List.length_append]; omega
   exact this ts h2
  have hr := endAt_rights (L := (sCel s ts.length :: ts.flatten).length) (s := []) hle (0 + 1)
  rw [List.append_nil] at hr
  rw [show (1 : Nat) = 0 + 1 from rfl,endAt_cons,if_neg (by rw [hp]; simp only [List.length_cons]; omega),hp,Nat.zero_add,show ts.length = ts.length from rfl]
  rw [hr]
  simp only [List.length_cons]; omega
 rw [makeT,if_pos h]
 unfold right
 rw [he,decide_eq_true rfl]
 simp only [List.length_cons,Bool.and_true,Bool.and_eq_true,decide_eq_true_eq,List.all_cons,List.all_eq_true]
 refine ⟨⟨by omega,by omega⟩,h1,fun c hc => ?_⟩
 obtain ⟨t,ht,hct⟩ := List.mem_flatten.1 hc
 exact right_ok_mem (h2 t ht) hct
theorem args_make {s : List UInt8} {ts : List (List Cel)} (h : makeE s ts = 0) : args (makeT s ts) = ts := by
 have hr := makeT_right h
 obtain ⟨h1,h2,h3,h4,h5,h6⟩ := makeE_sum (s := s) (ts := ts) (by rw [h]; decide)
 rw [makeT,if_pos h] at hr ⊢
 have hk : ((sCel s ts.length :: ts.flatten).headD default).k = 3 := rfl
 simp only [args,hr,hk,decide_true,Bool.and_self,if_true,List.drop_succ_cons,List.drop_zero]
 refine argsFrom_rights (fun t ht => ⟨h2 t ht,?_⟩) (by simp)
 have : t.length ≤ ts.flatten.length := by
  obtain ⟨a,b,rfl⟩ := List.append_of_mem ht
  simp only [List.flatten_append,List.flatten_cons,List.length_append]; omega
 simp only [List.length_cons]; omega
theorem isEq_make {p q : List Cel} (h : makeE [61] [p,q] = 0) : isEqT (makeT [61] [p,q]) = true := by
 have hr := makeT_right h
 unfold isEqT
 rw [hr,makeT,if_pos h]
 rfl
theorem sides_make {p q : List Cel} (h : makeE [61] [p,q] = 0) : sides (makeT [61] [p,q]) = (p,q) := by
 unfold sides
 rw [isEq_make h,args_make h]; rfl
def pairs : List (List Cel) → List (List Cel) → Option (List (List Cel))
 | p :: ps,q :: qs => if makeE [61] [p,q] = 0 then (pairs ps qs).map (makeT [61] [p,q] :: ·) else none
 | _,_ => some []
structure StepR where
 k : Nat
 v : Nm
 t : List Cel
 ps : List (List Cel)
def sClash : StepR := ⟨4,(0,0),[],[]⟩
def sDone : StepR := ⟨1,(0,0),[],[]⟩
def sBinds (v : Nm) (t : List Cel) : StepR := ⟨2,v,t,[]⟩
def stepT (x y : List Cel) : StepR :=
 let c := x.headD default
 let e := y.headD default
 if c = e ∧ c.k ≠ 3 then sDone
 else if c.k = 4 ∧ (e.k ≠ 4 ∨ nless e.v c.v = true) then sBinds c.v y
 else if e.k = 4 then sBinds e.v x
 else if c ≠ e then sClash
 else match pairs (args x) (args y) with
  | some ps => ⟨3,(0,0),[],ps⟩
  | none => sClash
def stepL (H : Hp) (a b : List Cel) : StepR := if glob a && glob b then stepT (deref H a) (deref H b) else sClash
theorem args_right {t x : List Cel} (h : x ∈ args t) : Small x ∧ x.length ≤ 256 ∧ ∀ c ∈ x,c.ok = true := by
 have hr : right t = true := by
  unfold args at h
  split at h
  ·rename_i hc; simp only [Bool.and_eq_true] at hc; exact hc.1
  ·simp at h
 have hl := args_short h
 have := (right_len hr).2
 have sub : ∀ {f : Nat} {r : List Cel} {a : Nat} {x : List Cel},x ∈ argsFrom t.length f r a → ∀ c ∈ x,c ∈ r := by
  intro f
  induction f with
  | zero => intro r a x h; simp [argsFrom] at h
  | succ f ih =>
   intro r a x h c hc
   simp only [argsFrom] at h
   split at h
   ·simp at h
   ·rcases List.mem_cons.1 h with rfl | h
    ·exact List.mem_of_mem_take hc
    ·exact List.mem_of_mem_drop (ih h c hc)
 have hmem : ∀ c ∈ x,c ∈ t := by
  intro c hc
  unfold args at h
  split at h
  ·exact List.mem_of_mem_drop (sub h c hc)
  ·simp at h
 exact ⟨⟨by omega,fun c hc => ok_small (right_ok_mem hr (hmem c hc))⟩,by omega,fun c hc => right_ok_mem hr (hmem c hc)⟩
theorem ORows.terms {σ : Store} {lo : Nat} {l : AVal} {es : List AVal} {ts : List (List Cel)} (h : ORows σ lo 5 l es (ts.map CC)) : Terms σ l ts :=
 ⟨es,h.row.sl,Two.of_get (by rw [h.len,List.length_map]) fun i a b ha hb => (h.one i a (CC b) ha (by rw [List.getElem?_map,hb]; rfl)).sl⟩
theorem ORows.lo {σ : Store} {lo lo' sz : Nat} {l : AVal} {es : List AVal} {ps : List (List AVal)} (h : ORows σ lo sz l es ps) (hl : lo' ≤ lo) : ORows σ lo' sz l es ps :=
 ⟨h.row,h.len,h.one,fun i e he => (h.frs i e he).le hl,h.frl.le hl,h.apart,h.off,h.lit,h.litl⟩
def stepC (r : StepR) (tv pv : AVal) : List AVal := [.int .u8 r.k,.int .i64 r.v.1,.int .i64 r.v.2,tv,pv]
structure StepOk (σ σ' : Store) (r : StepR) (v : AVal) : Prop where
 grow : Grows σ σ'
 res : ∃ tv pv es,v = .agg (stepC r tv pv) ∧ Own σ' 5 tv (CC r.t) ∧ Fresh σ.length tv ∧ NoLit tv ∧ ORows σ' σ.length 5 pv es (r.ps.map CC) ∧ (tv = .nilslice ∨ (pv = .nilslice ∧ es = []))
theorem deref_small {H : Hp} (hw : WF H) {t : List Cel} (h : glob t = true) : Small (deref H t) := right_small (glob_right (deref_glob hw h))
theorem stepC_one {r : StepR} {tv pv : AVal} (h1 : tv.one = true) (h2 : pv.one = true) : (stepC r tv pv).all AVal.one = true := by
 simp only [stepC,List.all_cons,List.all_nil,h1,h2]; rfl
theorem lit2_ok {a b : AVal} (ha : a.one = true) (hb : b.one = true) : fillL 1 false (List.replicate 2 (zel [AVal.nilslice] false)) [(0,a),(1,b)] = some [a,b] := by
 have hc : a.cells = [a] := by cases a <;> simp_all [AVal.one]
 have hc2 : b.cells = [b] := by cases b <;> simp_all [AVal.one]
 have h1 : [a].all AVal.one = true := by simp only [List.all_cons,List.all_nil,ha]; rfl
 have h1' : [b].all AVal.one = true := by simp only [List.all_cons,List.all_nil,hb]; rfl
 have h2 : isAggV a = false := by cases a <;> first | (cases ha; done) | rfl
 have h2' : isAggV b = false := by cases b <;> first | (cases hb; done) | rfl
 simp only [fillL,hc,hc2,h1,h1',h2,h2']
 rfl
theorem lit1_ok {a : AVal} (ha : a.one = true) : fillL 1 false (List.replicate 1 (zel [AVal.nilslice] false)) [(0,a)] = some [a] := by
 have hc : a.cells = [a] := by cases a <;> simp_all [AVal.one]
 have h1 : [a].all AVal.one = true := by simp only [List.all_cons,List.all_nil,ha]; rfl
 have h2 : isAggV a = false := by cases a <;> first | (cases ha; done) | rfl
 simp only [fillL,hc,h1,h2]
 rfl
theorem pairs_len : ∀ {ps qs : List (List Cel)},ps.length = qs.length → (∀ (i : Nat) (hp : i < ps.length) (hq : i < qs.length),makeE [61] [ps[i],qs[i]] = 0) → pairs ps qs = some (List.zipWith (fun p q => makeT [61] [p,q]) ps qs)
 | [],[],_,_ => rfl
 | [],_ :: _,h,_ => by simp at h
 | _ :: _,[],h,_ => by simp at h
 | p :: ps,q :: qs,h,h0 => by
  have e0 := h0 0 (by simp) (by simp)
  simp only [List.getElem_cons_zero] at e0
  simp only [pairs,e0,if_true,List.zipWith_cons_cons]
  rw [pairs_len (by simpa using h) (fun i hp hq => by have := h0 (i + 1) (by simpa using hp) (by simpa using hq); simpa using this)]
  rfl
theorem pairs_bad : ∀ {ps qs : List (List Cel)} (i : Nat) (hp : i < ps.length) (hq : i < qs.length),makeE [61] [ps[i],qs[i]] ≠ 0 → pairs ps qs = none
 | [],_,i,hp,_,_ => by simp at hp
 | _ :: _,[],i,_,hq,_ => by simp at hq
 | p :: ps,q :: qs,0,_,_,h => by simp only [List.getElem_cons_zero] at h; simp only [pairs,if_neg h]
 | p :: ps,q :: qs,i + 1,hp,hq,h => by
  simp only [List.getElem_cons_succ] at h
  simp only [pairs]
  split
  ·rw [pairs_bad i (by simpa using hp) (by simpa using hq) h]; rfl
  ·rfl
theorem celvar_load {c : Cel} {σ : Store} {i : Nat} (h : σ[i]? = some (.cells c.cs)) : loadV σ 2 true (.ptr i 3) = some (nmV c.v) := by
 have : behind σ (.ptr i 3) = some (c.cs,3) := by simp only [behind,h]
 exact loadN_at this (by simp [Cel.cs])
theorem bindsC (v : Nm) (t : List Cel) (u : AVal) (hu : u.one = true) : fillA [AVal.int IntKind.u8 0,AVal.int IntKind.i64 0,AVal.int IntKind.i64 0,AVal.nilslice,AVal.nilslice] [(0,1,AVal.int IntKind.u8 2),(1,2,nmV v),(3,1,u)] = some (stepC (sBinds v t) u .nilslice) := by
 have hc : u.cells = [u] := by cases u <;> simp_all [AVal.one]
 have h1 : [u].all AVal.one = true := by simp only [List.all_cons,List.all_nil,hu]; rfl
 have h2 : [AVal.int .i64 v.1,.int .i64 v.2].all AVal.one = true := rfl
 simp only [fillA,nm_cells,nmC,hc,h1,h2]
 rfl
theorem partsC (ps : List (List Cel)) (u : AVal) (hu : u.one = true) : fillA [AVal.int IntKind.u8 0,AVal.int IntKind.i64 0,AVal.int IntKind.i64 0,AVal.nilslice,AVal.nilslice] [(0,1,AVal.int IntKind.u8 3),(4,1,u)] = some (stepC ⟨3,(0,0),[],ps⟩ .nilslice u) := by
 have hc : u.cells = [u] := by cases u <;> simp_all [AVal.one]
 have h1 : [u].all AVal.one = true := by simp only [List.all_cons,List.all_nil,hu]; rfl
 simp only [fillA,hc,h1]
 rfl
section
variable (d : Nat) (σ : Store)
set_option maxHeartbeats 2000000 in
theorem step_ok (hv av bv : AVal) (H : Hp) (a b : List Cel) (h : HeapV σ hv H) (hsa : Small a) (hsb : Small b) (ha : SlOf σ 5 av (CC a)) (hb : SlOf σ 5 bv (CC b)) :
  Called CU.cfg d 31 [hv,av,bv] σ fun v σ' => StepOk σ σ' (stepL H a b) v := by
 refine called_of (fn := CU.a31) rfl (Nat.le_of_ble_eq_true rfl) ?_
 have hw := h.wf
 have bld4 : fillA [AVal.int IntKind.u8 0,AVal.int IntKind.i64 0,AVal.int IntKind.i64 0,AVal.nilslice,AVal.nilslice] [(0,1,AVal.int IntKind.u8 4)] = some (stepC sClash .nilslice .nilslice) := rfl
 have bld1 : fillA [AVal.int IntKind.u8 0,AVal.int IntKind.i64 0,AVal.int IntKind.i64 0,AVal.nilslice,AVal.nilslice] [(0,1,AVal.int IntKind.u8 1)] = some (stepC sDone .nilslice .nilslice) := rfl
 simp only [CU.a31, CU.o]
 simp -dsimp only [↓WPd,↓Zm,↓Zn,WPu,Za,Zb,Zc,Zd,Ze,Zf,Zg,Zh,Nat.reduceEqDiff,Nat.reduceLT,Zi,Zj,Zk,Zl,Nat.reduceBEq,WPm]
 have ho : (σ ++ [AObj.cells [.int .u8 0,.int .i64 0,.int .i64 0,.nilslice,.nilslice]])[σ.length]? = some (.cells [.int .u8 0,.int .i64 0,.int .i64 0,.nilslice,.nilslice]) := by simp
 have g0 : Grows σ (σ ++ [AObj.cells [.int .u8 0,.int .i64 0,.int .i64 0,.nilslice,.nilslice]]) := Grows.app _ _
 generalize σ ++ [AObj.cells [.int .u8 0,.int .i64 0,.int .i64 0,.nilslice,.nilslice]] = σ1 at ho g0
 generalize hq : σ.length = i1 at ho
 have h1 := h.grow g0
 have ha1 := ha.grow g0
 have hb1 := hb.grow g0
 have plain : ∀ {σ' : Store} (r : StepR) (hr : r.t = [] ∧ r.ps = []),Grows σ σ' → σ'[i1]? = some (.cells [.int .u8 0,.int .i64 0,.int .i64 0,.nilslice,.nilslice]) → stepL H a b = r →
   storeV σ' 5 (.ptr i1 0) (.agg (stepC r .nilslice .nilslice)) = some (σ'.set i1 (.cells (stepC r .nilslice .nilslice))) ∧ loadV (σ'.set i1 (.cells (stepC r .nilslice .nilslice))) 5 true (.ptr i1 0) = some (.agg (stepC r .nilslice .nilslice)) ∧ StepOk σ (σ'.set i1 (.cells (stepC r .nilslice .nilslice))) (stepL H a b) (.agg (stepC r .nilslice .nilslice)) := by
  intro σ' r hr g ho' he
  refine ⟨storeN_cells ho' rfl rfl rfl,loadN_cells (get_set ho') rfl,⟨Keeps.trans g (Keeps.set _ _ _) fun i hi e => by omega,.nilslice,.nilslice,[],by rw [he],?_,Fresh.nil _,trivial,?_,.inl rfl⟩⟩
  ·rw [he,hr.1]; exact Own.nil _ _
  ·rw [he,hr.2]; exact ORows.nil _ _ _
 refine calledW_of (global_ok d σ1 av a hsa ha1) ?_
 rintro r σ2 ⟨rfl,g2⟩
 have g02 := g0.trans g2
 cases hga : glob a with
 | false =>
  obtain ⟨p1,p2,p3⟩ := plain sClash ⟨rfl,rfl⟩ g02 (g2.get ho) (by simp [stepL,hga])
  simp -dsimp only [↓WPd,↓Zm,↓Zn,WPu,Za,Zb,Zc,Zd,Ze,Zf,Zg,Zh,Nat.reduceEqDiff,Nat.reduceLT,Zi,Zj,Zk,Zl,Nat.reduceBEq,WPm,bld4,p1,p2]
  exact p3
 | true =>
  simp -dsimp only [↓WPd,↓Zm,↓Zn,WPu,Za,Zb,Zc,Zd,Ze,Zf,Zg,Zh,Nat.reduceEqDiff,Nat.reduceLT,Zi,Zj,Zk,Zl,Nat.reduceBEq,WPm]
  refine calledW_of (global_ok d σ2 bv b hsb (hb1.grow g2)) ?_
  rintro r σ3 ⟨rfl,g3⟩
  have g03 := g02.trans g3
  have ho3 := g3.get (g2.get ho)
  cases hgb : glob b with
  | false =>
   obtain ⟨p1,p2,p3⟩ := plain sClash ⟨rfl,rfl⟩ g03 ho3 (by simp [stepL,hgb])
   simp -dsimp only [↓WPd,↓Zm,↓Zn,WPu,Za,Zb,Zc,Zd,Ze,Zf,Zg,Zh,Nat.reduceEqDiff,Nat.reduceLT,Zi,Zj,Zk,Zl,Nat.reduceBEq,WPm,bld4,p1,p2]
   exact p3
  | true =>
   have hstep : stepL H a b = stepT (deref H a) (deref H b) := by simp [stepL,hga,hgb]
   have sx := deref_small hw hga
   have sy := deref_small hw hgb
   have gx := deref_glob hw hga
   have gy := deref_glob hw hgb
   simp -dsimp only [↓WPd,↓Zm,↓Zn,WPu,Za,Zb,Zc,Zd,Ze,Zf,Zg,Zh,Nat.reduceEqDiff,Nat.reduceLT,Zi,Zj,Zk,Zl,Nat.reduceBEq,WPm]
   refine calledW_of (hderef_ok d σ3 hv av H a (h.grow g03) (ha.grow g03) sx.1) ?_
   rintro xv σ4 ⟨g4,ox,fx,nx⟩
   have g04 := g03.trans g4
   simp -dsimp only [↓WPd,↓Zm,↓Zn,WPu,Za,Zb,Zc,Zd,Ze,Zf,Zg,Zh,Nat.reduceEqDiff,Nat.reduceLT,Zi,Zj,Zk,Zl,Nat.reduceBEq,WPm]
   refine calledW_of (hderef_ok d σ4 hv bv H b (h.grow g04) (hb.grow g04) sy.1) ?_
   rintro yv σ5 ⟨g5,oy,fy,ny⟩
   have g05 := g04.trans g5
   have ox5 := ox.grow g5
   have ho5 := g5.get (g4.get ho3)
   generalize deref H a = x at *
   generalize deref H b = y at *
   obtain ⟨c,s,hcx⟩ : ∃ c s,x = c :: s := List.exists_cons_of_ne_nil (right_ne (glob_right gx))
   obtain ⟨e,s',hey⟩ : ∃ c s,y = c :: s := List.exists_cons_of_ne_nil (right_ne (glob_right gy))
   have hix : 0 < (CC x).length := by rw [hcx]; simp
   have hiy : 0 < (CC y).length := by rw [hey]; simp
   have iax : iaddrV 5 xv (.int .i64 0) = some (addrOf 5 xv 0) := ox5.sl.iaddr hix .i64
   have iay : iaddrV 5 yv (.int .i64 0) = some (addrOf 5 yv 0) := oy.sl.iaddr hiy .i64
   have lx : ∀ {σ' : Store},Grows σ5 σ' → loadV σ' 5 true (addrOf 5 xv 0) = some c.val := fun g => (ox5.grow g).sl.loadA hix (cs := c.cs) (by simp [hcx]; rfl)
   have ly : ∀ {σ' : Store},Grows σ5 σ' → loadV σ' 5 true (addrOf 5 yv 0) = some e.val := fun g => (oy.grow g).sl.loadA hiy (cs := e.cs) (by simp [hey]; rfl)
   simp -dsimp only [↓WPd,↓Zm,↓Zn,WPu,Za,Zb,Zc,Zd,Ze,Zf,Zg,Zh,Nat.reduceEqDiff,Nat.reduceLT,Zi,Zj,Zk,Zl,Nat.reduceBEq,WPm]
   refine drawnP_of rfl ?_
   simp only [aheadO,aheadZ]
   have zz : ∃ σ6,σ6 = σ5 ++ [AObj.cells [.int .u8 0,.str [],.int .i64 0,.int .i64 0,.int .i64 0],AObj.cells [.int .u8 0,.str [],.int .i64 0,.int .i64 0,.int .i64 0]] := ⟨_,rfl⟩
   obtain ⟨σ6,hσ6⟩ := zz
   have g6 : Grows σ5 σ6 := by rw [hσ6]; exact Grows.app _ _
   have oc0 : σ6[σ5.length]? = some (.cells [.int .u8 0,.str [],.int .i64 0,.int .i64 0,.int .i64 0]) := by rw [hσ6]; simp
   have oe0 : σ6[σ5.length + 1]? = some (.cells [.int .u8 0,.str [],.int .i64 0,.int .i64 0,.int .i64 0]) := by rw [hσ6]; simp
   rw [← hσ6]
   have st1 : storeV σ6 5 (.ptr σ5.length 0) c.val = some (σ6.set σ5.length (.cells c.cs)) := storeN_cells (cs' := c.cs) oc0 rfl rfl rfl
   have k1 : Keeps (fun i => i = σ5.length) σ6 (σ6.set σ5.length (.cells c.cs)) := Keeps.set _ _ _
   have oc1 : (σ6.set σ5.length (.cells c.cs))[σ5.length]? = some (.cells c.cs) := get_set oc0
   have oe1 := k1.get oe0 (by omega)
   have g61 : Grows σ5 (σ6.set σ5.length (.cells c.cs)) := Keeps.trans g6 k1 fun i hi e => by omega
   generalize σ6.set σ5.length (.cells c.cs) = σ7 at st1 k1 oc1 oe1 g61
   have st2 : storeV σ7 5 (.ptr (σ5.length + 1) 0) e.val = some (σ7.set (σ5.length + 1) (.cells e.cs)) := storeN_cells (cs' := e.cs) oe1 rfl rfl rfl
   have k2 : Keeps (fun i => i = σ5.length + 1) σ7 (σ7.set (σ5.length + 1) (.cells e.cs)) := Keeps.set _ _ _
   have oe2 : (σ7.set (σ5.length + 1) (.cells e.cs))[σ5.length + 1]? = some (.cells e.cs) := get_set oe1
   have oc2 := k2.get oc1 (by omega)
   have g62 : Grows σ5 (σ7.set (σ5.length + 1) (.cells e.cs)) := Keeps.trans g61 k2 fun i hi e => by omega
   generalize σ7.set (σ5.length + 1) (.cells e.cs) = σ8 at st2 k2 oe2 oc2 g62
   have lyy : loadV σ6 5 true (addrOf 5 yv 0) = some e.val := ly g6
   simp -dsimp only [↓WPd,↓Zm,↓Zn,WPu,Za,Zb,Zc,Zd,Ze,Zf,Zg,Zh,Nat.reduceEqDiff,Nat.reduceLT,Zi,Zj,Zk,Zl,Nat.reduceBEq,↓WPed,WPeu,Nat.reduceAdd,and_self,iax,iay,lx g6,ly g6,ly g61,st1,st2]
   generalize σ5.length + 1 = ie at oe2
   generalize σ5.length = ic at oc2
   have g08 := g05.trans g62
   have ho8 := g62.get ho5
   have kc3 : ((c.k : Int) != 3) = !decide (c.k = 3) := by by_cases h : c.k = 3 <;> simp [h,bne] <;> omega
   have kc4 : ((c.k : Int) == 4) = decide (c.k = 4) := by by_cases h : c.k = 4 <;> simp [h] <;> omega
   have ke4 : ((e.k : Int) == 4) = decide (e.k = 4) := by by_cases h : e.k = 4 <;> simp [h] <;> omega
   have kn4 : ((e.k : Int) != 4) = !decide (e.k = 4) := by by_cases h : e.k = 4 <;> simp [h,bne] <;> omega
   have hx1 : x.headD default = c := by rw [hcx]; rfl
   have hy1 : y.headD default = e := by rw [hey]; rfl
   have binds : ∀ {σ' : Store} (v : Nm) (u : AVal) (t : List Cel),Grows σ σ' → σ'[i1]? = some (.cells [.int .u8 0,.int .i64 0,.int .i64 0,.nilslice,.nilslice]) → Own σ' 5 u (CC t) → Fresh i1 u → NoLit u → stepL H a b = sBinds v t →
     storeV σ' 5 (.ptr i1 0) (.agg (stepC (sBinds v t) u .nilslice)) = some (σ'.set i1 (.cells (stepC (sBinds v t) u .nilslice))) ∧ loadV (σ'.set i1 (.cells (stepC (sBinds v t) u .nilslice))) 5 true (.ptr i1 0) = some (.agg (stepC (sBinds v t) u .nilslice)) ∧ StepOk σ (σ'.set i1 (.cells (stepC (sBinds v t) u .nilslice))) (stepL H a b) (.agg (stepC (sBinds v t) u .nilslice)) := by
    intro σ' v u t g ho' ou fu nu he
    refine ⟨storeN_cells ho' rfl rfl (stepC_one ou.one rfl),loadN_cells (get_set ho') rfl,⟨Keeps.trans g (Keeps.set _ _ _) fun i hi e => by omega,u,.nilslice,[],by rw [he],?_,by rw [hq]; exact fu,nu,?_,.inr ⟨rfl,rfl⟩⟩⟩
    ·rw [he]
     exact ou.keeps (Keeps.set σ' i1 _) fun j hj e => ou.noCell ho' (by rw [← e]; exact hj)
    ·rw [he]; exact ORows.nil _ _ _
   simp -dsimp only [↓WPd,↓Zm,↓Zn,WPu,Za,Zb,Zc,Zd,Ze,Zf,Zg,Zh,Nat.reduceEqDiff,Nat.reduceLT,Zi,Zj,Zk,Zl,Nat.reduceBEq,WPm,cell_load oc2,cell_load oe2,Cel.eqs,faddr_ptr,Nat.add_zero,load_cells oc2,Cel.g0,kc3]
   refine condP_intro (fun hc => ?_) (fun hc => ?_)
   ·simp only [Bool.and_eq_true,decide_eq_true_eq,Bool.not_eq_true',decide_eq_false_iff_not] at hc
    obtain ⟨p1,p2,p3⟩ := plain sDone ⟨rfl,rfl⟩ g08 ho8 (by rw [hstep]; simp only [stepT,hx1,hy1]; rw [if_pos hc])
    simp -dsimp only [↓WPd,↓Zm,↓Zn,WPu,Za,Zb,Zc,Zd,Ze,Zf,Zg,Zh,Nat.reduceEqDiff,Nat.reduceLT,Zi,Zj,Zk,Zl,Nat.reduceBEq,WPm,bld1,p1,p2]
    exact p3
   ·have hnd : ¬ (c = e ∧ c.k ≠ 3) := fun h => by
     rw [decide_eq_true h.1,decide_eq_false h.2] at hc; cases hc
    by_cases hck : c.k = 4
    ·have hdc : decide (c.k = 4) = true := decide_eq_true hck
     by_cases hek : e.k = 4
     ·have hde : decide (e.k = 4) = true := decide_eq_true hek
      simp -dsimp only [↓WPd,↓Zm,↓Zn,WPu,Za,Zb,Zc,Zd,Ze,Zf,Zg,Zh,Nat.reduceEqDiff,Nat.reduceLT,Zi,Zj,Zk,Zl,Nat.reduceBEq,WPm,faddr_ptr,Nat.add_zero,Nat.zero_add,load_cells oc2,load_cells oe2,celvar_load oc2,celvar_load oe2,Cel.g0,kc4,kn4,hdc,hde]
      refine calledW_of (less_ok d σ8 e.v c.v) ?_
      rintro r σ8' ⟨rfl,g89⟩
      have g09 := g08.trans g89
      have ho9 := g89.get ho8
      have oc9 := g89.get oc2
      have oe9 := g89.get oe2
      cases hle : nless e.v c.v with
      | true =>
       simp -dsimp only [↓WPd,↓Zm,↓Zn,WPu,Za,Zb,Zc,Zd,Ze,Zf,Zg,Zh,Nat.reduceEqDiff,Nat.reduceLT,Zi,Zj,Zk,Zl,Nat.reduceBEq,WPm]
       refine drawnP_of rfl ?_
       simp -dsimp only [↓WPd,↓Zm,↓Zn,WPu,Za,Zb,Zc,Zd,Ze,Zf,Zg,Zh,Nat.reduceEqDiff,Nat.reduceLT,Zi,Zj,Zk,Zl,Nat.reduceBEq,↓WPed,WPeu,Nat.reduceAdd,and_self,faddr_ptr,Nat.zero_add,celvar_load oc9]
       refine calledW_of (cclone_ok d σ8' yv _ sy.1 ((oy.grow g62).grow g89).sl) ?_
       rintro u σ9 ⟨g9,ou,fu,nu⟩
       obtain ⟨p1,p2,p3⟩ := binds c.v u y (g09.trans g9) (g9.get ho9) ou (fu.le (by rw [← hq]; exact g09.1)) nu (by rw [hstep]; simp only [stepT,hx1,hy1]; rw [if_neg hnd,if_pos ⟨hck,.inr hle⟩])
       simp -dsimp only [↓WPd,↓Zm,↓Zn,WPu,Za,Zb,Zc,Zd,Ze,Zf,Zg,Zh,Nat.reduceEqDiff,Nat.reduceLT,Zi,Zj,Zk,Zl,Nat.reduceBEq,↓WPed,WPeu,Nat.reduceAdd,and_self,celvar_load oc9,celvar_load (g9.get oc9),bindsC c.v y u ou.one,p1,p2]
       exact p3
      | false =>
       simp -dsimp only [↓WPd,↓Zm,↓Zn,WPu,Za,Zb,Zc,Zd,Ze,Zf,Zg,Zh,Nat.reduceEqDiff,Nat.reduceLT,Zi,Zj,Zk,Zl,Nat.reduceBEq,WPm,faddr_ptr,Nat.add_zero,load_cells oe9,Cel.g0,ke4,hde]
       refine drawnP_of rfl ?_
       simp -dsimp only [↓WPd,↓Zm,↓Zn,WPu,Za,Zb,Zc,Zd,Ze,Zf,Zg,Zh,Nat.reduceEqDiff,Nat.reduceLT,Zi,Zj,Zk,Zl,Nat.reduceBEq,↓WPed,WPeu,Nat.reduceAdd,and_self,faddr_ptr,Nat.zero_add,celvar_load oe9]
       refine calledW_of (cclone_ok d σ8' xv _ sx.1 ((ox5.grow g62).grow g89).sl) ?_
       rintro u σ9 ⟨g9,ou,fu,nu⟩
       obtain ⟨p1,p2,p3⟩ := binds e.v u x (g09.trans g9) (g9.get ho9) ou (fu.le (by rw [← hq]; exact g09.1)) nu (by rw [hstep]; simp only [stepT,hx1,hy1]; rw [if_neg hnd,if_neg (fun h => h.2.elim (fun h' => h' hek) (fun h' => by rw [hle] at h'; cases h')),if_pos hek])
       simp -dsimp only [↓WPd,↓Zm,↓Zn,WPu,Za,Zb,Zc,Zd,Ze,Zf,Zg,Zh,Nat.reduceEqDiff,Nat.reduceLT,Zi,Zj,Zk,Zl,Nat.reduceBEq,↓WPed,WPeu,Nat.reduceAdd,and_self,celvar_load oe9,celvar_load (g9.get oe9),bindsC e.v x u ou.one,p1,p2]
       exact p3
     ·have hde : decide (e.k = 4) = false := decide_eq_false hek
      simp -dsimp only [↓WPd,↓Zm,↓Zn,WPu,Za,Zb,Zc,Zd,Ze,Zf,Zg,Zh,Nat.reduceEqDiff,Nat.reduceLT,Zi,Zj,Zk,Zl,Nat.reduceBEq,WPm,faddr_ptr,Nat.add_zero,load_cells oc2,load_cells oe2,Cel.g0,kc4,kn4,hdc,hde,Bool.not_false]
      refine drawnP_of rfl ?_
      simp -dsimp only [↓WPd,↓Zm,↓Zn,WPu,Za,Zb,Zc,Zd,Ze,Zf,Zg,Zh,Nat.reduceEqDiff,Nat.reduceLT,Zi,Zj,Zk,Zl,Nat.reduceBEq,↓WPed,WPeu,Nat.reduceAdd,and_self,faddr_ptr,Nat.zero_add,celvar_load oc2]
      refine calledW_of (cclone_ok d σ8 yv _ sy.1 (oy.grow g62).sl) ?_
      rintro u σ9 ⟨g9,ou,fu,nu⟩
      obtain ⟨p1,p2,p3⟩ := binds c.v u y (g08.trans g9) (g9.get ho8) ou (fu.le (by rw [← hq]; exact g08.1)) nu (by rw [hstep]; simp only [stepT,hx1,hy1]; rw [if_neg hnd,if_pos ⟨hck,.inl hek⟩])
      simp -dsimp only [↓WPd,↓Zm,↓Zn,WPu,Za,Zb,Zc,Zd,Ze,Zf,Zg,Zh,Nat.reduceEqDiff,Nat.reduceLT,Zi,Zj,Zk,Zl,Nat.reduceBEq,↓WPed,WPeu,Nat.reduceAdd,and_self,celvar_load oc2,celvar_load (g9.get oc2),bindsC c.v y u ou.one,p1,p2]
      exact p3
    ·have hdc : decide (c.k = 4) = false := decide_eq_false hck
     by_cases hek : e.k = 4
     ·have hde : decide (e.k = 4) = true := decide_eq_true hek
      simp -dsimp only [↓WPd,↓Zm,↓Zn,WPu,Za,Zb,Zc,Zd,Ze,Zf,Zg,Zh,Nat.reduceEqDiff,Nat.reduceLT,Zi,Zj,Zk,Zl,Nat.reduceBEq,WPm,faddr_ptr,Nat.add_zero,load_cells oc2,load_cells oe2,Cel.g0,kc4,ke4,hdc,hde]
      refine drawnP_of rfl ?_
      simp -dsimp only [↓WPd,↓Zm,↓Zn,WPu,Za,Zb,Zc,Zd,Ze,Zf,Zg,Zh,Nat.reduceEqDiff,Nat.reduceLT,Zi,Zj,Zk,Zl,Nat.reduceBEq,↓WPed,WPeu,Nat.reduceAdd,and_self,faddr_ptr,Nat.zero_add,celvar_load oe2]
      refine calledW_of (cclone_ok d σ8 xv _ sx.1 (ox5.grow g62).sl) ?_
      rintro u σ9 ⟨g9,ou,fu,nu⟩
      obtain ⟨p1,p2,p3⟩ := binds e.v u x (g08.trans g9) (g9.get ho8) ou (fu.le (by rw [← hq]; exact g08.1)) nu (by rw [hstep]; simp only [stepT,hx1,hy1]; rw [if_neg hnd,if_neg (fun h => hck h.1),if_pos hek])
      simp -dsimp only [↓WPd,↓Zm,↓Zn,WPu,Za,Zb,Zc,Zd,Ze,Zf,Zg,Zh,Nat.reduceEqDiff,Nat.reduceLT,Zi,Zj,Zk,Zl,Nat.reduceBEq,↓WPed,WPeu,Nat.reduceAdd,and_self,celvar_load oe2,celvar_load (g9.get oe2),bindsC e.v x u ou.one,p1,p2]
      exact p3
     ·have hde : decide (e.k = 4) = false := decide_eq_false hek
      simp -dsimp only [↓WPd,↓Zm,↓Zn,WPu,Za,Zb,Zc,Zd,Ze,Zf,Zg,Zh,Nat.reduceEqDiff,Nat.reduceLT,Zi,Zj,Zk,Zl,Nat.reduceBEq,WPm,faddr_ptr,Nat.add_zero,load_cells oc2,load_cells oe2,Cel.g0,kc4,ke4,hdc,hde,cell_load oc2,cell_load oe2,Cel.eqs]
      by_cases hce : c = e
      ·have hdce : decide (c = e) = true := decide_eq_true hce
       simp -dsimp only [↓WPd,↓Zm,↓Zn,WPu,Za,Zb,Zc,Zd,Ze,Zf,Zg,Zh,Nat.reduceEqDiff,Nat.reduceLT,Zi,Zj,Zk,Zl,Nat.reduceBEq,WPm,hdce]
       have hc3 : c.k = 3 := by
        by_cases h3 : c.k = 3
        ·exact h3
        ·exact absurd ⟨hce,h3⟩ hnd
       have hstep2 : stepL H a b = match pairs (args x) (args y) with | some ps => ⟨3,(0,0),[],ps⟩ | none => sClash := by
        rw [hstep]; simp only [stepT,hx1,hy1]; rw [if_neg hnd,if_neg (fun h => hck h.1),if_neg hek,if_neg (fun h => h hce)] <;> rfl
       have hlen : (args x).length = (args y).length := by
        rw [args_len (glob_right gx) (by rw [hx1]; exact hc3),args_len (glob_right gy) (by rw [hy1,← hce]; exact hc3),hx1,hy1,hce]
       have hl8 : (args x).length ≤ 8 := by
        rw [args_len (glob_right gx) (by rw [hx1]; exact hc3),hx1]
        have hok := right_ok_mem (glob_right gx) (c := c) (by rw [hcx]; exact List.mem_cons_self)
        unfold Cel.ok at hok
        rw [if_neg (by omega),if_neg (by omega),if_pos hc3] at hok
        simp only [Bool.and_eq_true,Bool.or_eq_true,decide_eq_true_eq] at hok
        omega
       refine calledW_of (args_ok d σ8 xv x sx.1 sx.2 (ox5.grow g62).sl) ?_
       rintro pv σ9 ⟨g9,es,op⟩
       simp -dsimp only [↓WPd,↓Zm,↓Zn,WPu,Za,Zb,Zc,Zd,Ze,Zf,Zg,Zh,Nat.reduceEqDiff,Nat.reduceLT,Zi,Zj,Zk,Zl,Nat.reduceBEq,WPm]
       refine calledW_of (args_ok d σ9 yv y sy.1 sy.2 ((oy.grow g62).grow g9).sl) ?_
       rintro qv σ10 ⟨g10,fs,oq⟩
       have g810 := g9.trans g10
       have g010 := g08.trans g810
       have tp := (ORows.terms op).grow g10
       have tq := ORows.terms oq
       have ho10 := g810.get ho8
       have lp := tp.len
       simp -dsimp only [↓WPd,↓Zm,↓Zn,WPu,Za,Zb,Zc,Zd,Ze,Zf,Zg,Zh,Nat.reduceEqDiff,Nat.reduceLT,Zi,Zj,Zk,Zl,Nat.reduceBEq,WPm,lp]
       have hi10 : σ.length ≤ σ10.length := g010.1
       refine loop_rule2 (fun m vs σ' => ∃ k o os,k ≤ (args x).length ∧ m = (args x).length - k ∧ vs = [.ptr i1 0,pv,qv,o,.int .i64 (args x).length,.int .i64 k] ∧ Grows σ10 σ' ∧ ORows σ' σ10.length 5 o os (((List.zipWith (fun p q => makeT [61] [p,q]) (args x) (args y)).take k).map CC) ∧
         (∀ (i : Nat) (hp : i < (args x).length) (hq : i < (args y).length),i < k → makeE [61] [(args x)[i],(args y)[i]] = 0))
        [6,11] (fun e vs σ' => (e = .exit 1 ∧ ∃ o os,vs = [.ptr i1 0,o] ∧ Grows σ10 σ' ∧ ORows σ' σ10.length 5 o os ((List.zipWith (fun p q => makeT [61] [p,q]) (args x) (args y)).map CC) ∧ pairs (args x) (args y) = some (List.zipWith (fun p q => makeT [61] [p,q]) (args x) (args y))) ∨
         (e = .ret ∧ ∃ o,vs = [.ptr i1 0,o] ∧ loadV σ' 5 true (.ptr i1 0) = some (.agg (stepC sClash .nilslice .nilslice)) ∧ StepOk σ σ' (stepL H a b) (.agg (stepC sClash .nilslice .nilslice)))) (args x).length
        ⟨0,.nilslice,[],Nat.zero_le _,rfl,?_,Keeps.refl _ _,ORows.nil _ _ _,fun i _ _ h => by omega⟩ ?_ ?_
       ·simp -dsimp only [↓WPd,↓Zm,↓Zn,WPu,Za,Zb,Zc,Zd,Ze,Zf,Zg,Zh,Nat.reduceEqDiff,Nat.reduceLT,Zi,Zj,Zk,Zl,Nat.reduceBEq]; rfl
       ·rintro m vs σ' ⟨k,o,os,hk,rfl,rfl,g,oo,hall⟩
        have hos := oo.len
        rw [List.length_map,List.length_take,List.length_zipWith] at hos
        simp -dsimp only [↓WPd,↓Zm,↓Zn,WPu,Za,Zb,Zc,Zd,Ze,Zf,Zg,Zh,Nat.reduceEqDiff,Nat.reduceLT,Zi,Zj,Zk,Zl,Nat.reduceBEq]
        refine condP_dec (fun h => ?_) (fun h => ?_)
        ·have hk' : k < (args x).length := by omega
         have hk2 : k < (args y).length := by omega
         obtain ⟨pe,pe1,pe2,pe3⟩ := (tp.grow g).at hk'
         obtain ⟨qe,qe1,qe2,qe3⟩ := (tq.grow g).at hk2
         have sp := args_right (List.getElem_mem hk')
         have sq := args_right (List.getElem_mem hk2)
         have tl : ∀ tg,Terms σ' (.fslice tg true 1 [pe,qe]) [(args x)[k],(args y)[k]] := fun tg => ⟨[pe,qe],SlOf.fs _ _ _ _ _,.cons pe3 (.cons qe3 .nil)⟩
         simp -dsimp only [↓WPd,↓Zm,↓Zn,WPu,Za,Zb,Zc,Zd,Ze,Zf,Zg,Zh,Nat.reduceEqDiff,Nat.reduceLT,Zi,Zj,Zk,Zl,Nat.reduceBEq,WPm,pe1,pe2,qe1,qe2,lit2_ok pe3.one qe3.one]
         refine calledW_of (make_ok d σ' [61] _ [(args x)[k],(args y)[k]] (by simp) (by simp) (fun t ht => by
          simp only [List.mem_cons,List.not_mem_nil,or_false] at ht
          rcases ht with rfl | rfl
          ·exact sp.1
          ·exact sq.1) (tl _)) ?_
         rintro r σ'' ⟨u,rfl,g2,ou,fu,nu⟩
         have g12 := Grows.trans g g2
         by_cases hme : makeE [61] [(args x)[k],(args y)[k]] = 0
         ·have ne : ((0 : Int) != 0) = false := rfl
          obtain ⟨o',σ3,c1,c2,c3⟩ := oo.push g.1 g2 ou fu nu 24 (by omega)
          simp -dsimp only [↓WPd,↓Zm,↓Zn,WPu,Za,Zb,Zc,Zd,Ze,Zf,Zg,Zh,Nat.reduceEqDiff,Nat.reduceLT,Zi,Zj,Zk,Zl,Nat.reduceBEq,WPm,List.getElem?_cons_zero,List.getElem?_cons_succ,hme,ne,lit1_ok ou.one,elems1,c1]
          refine ⟨(args x).length - (k + 1),by omega,k + 1,o',os ++ [u],by omega,rfl,by rw [wrap_i64 (by omega) (by omega),Int.natCast_add,Int.natCast_one],Keeps.trans g12 c3 fun i hi e => by omega,?_,fun i hp hq hik => ?_⟩
          ·have hz : k < (List.zipWith (fun p q => makeT [61] [p,q]) (args x) (args y)).length := by rw [List.length_zipWith]; omega
           rw [List.take_succ_eq_append_getElem hz,List.map_append]
           simp only [List.map_cons,List.map_nil,List.getElem_zipWith]
           exact c2
          ·by_cases e : i = k
           ·subst e; exact hme
           ·exact hall i hp hq (by omega)
         ·have ne : (makeE [61] [(args x)[k],(args y)[k]] != 0) = true := by simpa using hme
          obtain ⟨p1,p2,p3⟩ := plain sClash ⟨rfl,rfl⟩ (g010.trans g12) (g12.get ho10) (by rw [hstep2,pairs_bad k hk' hk2 hme])
          simp -dsimp only [↓WPd,↓Zm,↓Zn,WPu,Za,Zb,Zc,Zd,Ze,Zf,Zg,Zh,Nat.reduceEqDiff,Nat.reduceLT,Zi,Zj,Zk,Zl,Nat.reduceBEq,WPm,List.getElem?_cons_zero,List.getElem?_cons_succ,ne,bld4,p1]
          exact .inr ⟨_,rfl,p2,p3⟩
        ·have hk3 : k = (args x).length := by omega
         subst hk3
         simp -dsimp only [↓WPd,↓Zm,↓Zn,WPu,Za,Zb,Zc,Zd,Ze,Zf,Zg,Zh,Nat.reduceEqDiff,Nat.reduceLT,Zi,Zj,Zk,Zl,Nat.reduceBEq]
         have hzl : (List.zipWith (fun p q => makeT [61] [p,q]) (args x) (args y)).length ≤ (args x).length := by rw [List.length_zipWith]; omega
         rw [List.take_of_length_le hzl] at oo
         exact .inl ⟨o,os,rfl,g,oo,pairs_len hlen fun i hp hq => hall i hp hq hp⟩
       ·rintro e' σ' env (⟨rfl,o,os,hv,g,oo,hp⟩ | ⟨rfl,o,hv,p2,p3⟩)
        ·simp only [List.map_cons,List.map_nil,List.cons.injEq,and_true] at hv
         obtain ⟨v6,v11⟩ := hv
         have ho' := g.get ho10
         have g0' := g010.trans g
         have ks := Keeps.set σ' i1 (.cells (stepC ⟨3,(0,0),[],List.zipWith (fun p q => makeT [61] [p,q]) (args x) (args y)⟩ .nilslice o))
         have hs1 : stepL H a b = ⟨3,(0,0),[],List.zipWith (fun p q => makeT [61] [p,q]) (args x) (args y)⟩ := by rw [hstep2,hp]
         have p1 := storeN_cells (n := 5) (cs' := stepC ⟨3,(0,0),[],List.zipWith (fun p q => makeT [61] [p,q]) (args x) (args y)⟩ .nilslice o) ho' rfl rfl (stepC_one rfl oo.row.one)
         have p2 := loadN_cells (n := 5) (get_set (o' := .cells (stepC ⟨3,(0,0),[],List.zipWith (fun p q => makeT [61] [p,q]) (args x) (args y)⟩ .nilslice o)) ho') rfl
         simp -dsimp only [↓WPd,↓Zm,↓Zn,WPu,Za,Zb,Zc,Zd,Ze,Zf,Zg,Zh,Nat.reduceEqDiff,Nat.reduceLT,Zi,Zj,Zk,Zl,Nat.reduceBEq,WPm,v6,v11,partsC (List.zipWith (fun p q => makeT [61] [p,q]) (args x) (args y)) o oo.row.one,p1,p2]
         refine ⟨Keeps.trans g0' ks fun i hi e => by omega,.nilslice,o,os,by rw [hs1],by rw [hs1]; exact Own.nil _ _,Fresh.nil _,trivial,?_,.inl rfl⟩
         rw [hs1]
         exact (oo.cell ho' ks).lo hi10
        ·simp only [List.map_cons,List.map_nil,List.cons.injEq,and_true] at hv
         obtain ⟨v6,v11⟩ := hv
         simp -dsimp only [↓WPd,↓Zm,↓Zn,WPu,Za,Zb,Zc,Zd,Ze,Zf,Zg,Zh,Nat.reduceEqDiff,Nat.reduceLT,Zi,Zj,Zk,Zl,Nat.reduceBEq,WPm,v6,p2]
         exact p3
      ·have hdce : decide (c = e) = false := decide_eq_false hce
       obtain ⟨p1,p2,p3⟩ := plain sClash ⟨rfl,rfl⟩ g08 ho8 (by rw [hstep]; simp only [stepT,hx1,hy1]; rw [if_neg hnd,if_neg (fun h => hck h.1),if_neg hek,if_pos hce])
       simp -dsimp only [↓WPd,↓Zm,↓Zn,WPu,Za,Zb,Zc,Zd,Ze,Zf,Zg,Zh,Nat.reduceEqDiff,Nat.reduceLT,Zi,Zj,Zk,Zl,Nat.reduceBEq,WPm,hdce,bld4,p1,p2]
       exact p3
end
structure BdArg (v : AVal) (bs : Hp) : Prop where
 row : ∃ es,(∀ σ : Store,SlOf σ 3 v es) ∧ Two (fun e p => ∃ u,e = bdV p.1 u ∧ Told u p.2) es bs
 small : ∀ p ∈ bs,Small p.2
 len : bs.length < 2 ^ 26
def bindsH (H : Hp) (bs : Hp) : Hp := bs.foldl (fun H p => bindH H p.1 p.2) H
def bindsR (R : Hp) (bs : Hp) : Hp := bs.foldl (fun R p => bindR R p.1 p.2) R
theorem bindR_len (R : Hp) (v : Nm) (t : List Cel) : (bindR R v t).length ≤ R.length + 1 := by
 unfold bindR; split
 ·have := (insR_perm (v,t) R).length_eq; simp at this; omega
 ·omega
theorem bindsR_len : ∀ (bs R : Hp),(bindsR R bs).length ≤ R.length + bs.length
 | [],R => Nat.le_refl _
 | p :: bs,R => by
  have h1 := bindsR_len bs (bindR R p.1 p.2)
  have h2 := bindR_len R p.1 p.2
  simp only [bindsR,List.foldl_cons,List.length_cons] at h1 ⊢
  omega
theorem Same.binds : ∀ (bs : Hp) {H R : Hp},Same H R → Same (bindsH H bs) (bindsR R bs)
 | [],_,_,h => h
 | p :: bs,_,_,h => Same.binds bs (h.bind p.1 p.2)
theorem bindsH_snoc (H : Hp) (bs : Hp) (p : Nm × List Cel) : bindsH H (bs ++ [p]) = bindH (bindsH H bs) p.1 p.2 := by simp [bindsH]
theorem bindsR_snoc (H : Hp) (bs : Hp) (p : Nm × List Cel) : bindsR H (bs ++ [p]) = bindR (bindsR H bs) p.1 p.2 := by simp [bindsR]
theorem BdArg.len' {v : AVal} {bs : Hp} (h : BdArg v bs) : lenSV v = some bs.length := by
 obtain ⟨es,h1,h2⟩ := h.row
 rw [← h2.len]; exact (h1 []).len
theorem BdArg.at {v : AVal} {bs : Hp} (h : BdArg v bs) {k : Nat} (hk : k < bs.length) (σ : Store) : ∃ q0 q2 u,iaddrV 3 v (.int .i64 k) = some (addrOf 3 v k) ∧ faddrV 0 (addrOf 3 v k) = some q0 ∧ loadV σ 2 true q0 = some (nmV bs[k].1) ∧ faddrV 2 (addrOf 3 v k) = some q2 ∧ loadV σ 1 false q2 = some u ∧ Told u bs[k].2 := by
 obtain ⟨es,h1,h2⟩ := h.row
 have hke : k < es.length := by rw [h2.len]; exact hk
 obtain ⟨e,he1,u,he2,he3⟩ := h2.get hk
 have hee : es[k] = e := by rw [List.getElem?_eq_getElem hke] at he1; exact Option.some.inj he1
 have hb := ((h1 σ).addr hke .i64).2
 rw [hee,he2] at hb
 have hb' : behind σ (addrOf 3 v k) = some (bdC (bs[k]).1 u,0) := hb
 obtain ⟨q0,p0,b0⟩ := faddr_at hb' 0
 obtain ⟨q2,p2,b2⟩ := faddr_at hb' 2
 exact ⟨q0,q2,u,(h1 σ).iaddr hke .i64,p0,loadN_at b0 (by simp [bdC]),p2,load_at b2,he3⟩
section
variable (d : Nat) (σ : Store)
theorem maps_ok (bv : AVal) (bs : Hp) (h : BdArg bv bs) : Called CU.cfg d 29 [bv] σ fun v σ' => ∃ id mid vs rid A,v = .tuple [.ptr id 0,.ptr rid 0] ∧ HeapP σ' id mid vs (bindsH [] bs) ∧ RefP σ' A rid (bindsR [] bs) ∧ Grows σ σ' ∧ (σ.length ≤ id ∧ σ.length ≤ mid ∧ σ.length ≤ rid ∧ ∀ i,A i → σ.length ≤ i) ∧ id ≠ rid ∧ mid ≠ rid ∧ id ≠ mid := by
 refine called_of (fn := CU.a29) rfl (Nat.le_of_ble_eq_true rfl) ?_
 simp only [CU.a29, CU.o]
 have lb := h.len'
 have hlt := h.len
 simp -dsimp only [↓WPd,↓Zm,↓Zn,WPu,Za,Zb,Zc,Zd,Ze,Zf,Zg,Zh,Nat.reduceEqDiff,Nat.reduceLT,Zi,Zj,Zk,Zl,Nat.reduceBEq]
 refine calledW_of (hnew_ok d σ) ?_
 rintro r σ1 ⟨id,mid,rfl,h1,g1,l1,l2,m1,m2⟩
 simp -dsimp only [↓WPd,↓Zm,↓Zn,WPu,Za,Zb,Zc,Zd,Ze,Zf,Zg,Zh,Nat.reduceEqDiff,Nat.reduceLT,Zi,Zj,Zk,Zl,Nat.reduceBEq]
 refine calledW_of (rnew_ok d σ1) ?_
 rintro r σ2 ⟨rid,rfl,r2,g2,l3,m3⟩
 have hm : id ≠ mid := fun e => by have a := h1.obj; rw [e,h1.map] at a; cases a
 simp -dsimp only [↓WPd,↓Zm,↓Zn,WPu,Za,Zb,Zc,Zd,Ze,Zf,Zg,Zh,Nat.reduceEqDiff,Nat.reduceLT,Zi,Zj,Zk,Zl,Nat.reduceBEq]
 refine loop_rule2 (fun m vs σ' => ∃ k ws A,k ≤ bs.length ∧ m = bs.length - k ∧ vs = [bv,.ptr id 0,.ptr rid 0,.int .i64 (k : Nat)] ∧ HeapP σ' id mid ws (bindsH [] (bs.take k)) ∧ RefP σ' A rid (bindsR [] (bs.take k)) ∧ (∀ i,A i → σ2.length ≤ i) ∧ Grows σ σ' ∧ σ2.length ≤ σ'.length)
  [4,5] (fun e vs σ' => e = .exit 0 ∧ ∃ ws A,vs = [.ptr id 0,.ptr rid 0] ∧ HeapP σ' id mid ws (bindsH [] bs) ∧ RefP σ' A rid (bindsR [] bs) ∧ (∀ i,A i → σ2.length ≤ i) ∧ Grows σ σ') bs.length
  ⟨0,[],_,Nat.zero_le _,rfl,?_,h1.grow g2,r2,(fun i h => h.elim),g1.trans g2,Nat.le_refl _⟩ ?_ ?_
 ·simp -dsimp only [↓WPd,↓Zm,↓Zn,WPu,Za,Zb,Zc,Zd,Ze,Zf,Zg,Zh,Nat.reduceEqDiff,Nat.reduceLT,Zi,Zj,Zk,Zl,Nat.reduceBEq]; rfl
 ·rintro m vs σ' ⟨k,ws,A,hk,rfl,rfl,hh,hr,hA,g,hl⟩
  simp -dsimp only [↓WPd,↓Zm,↓Zn,WPu,Za,Zb,Zc,Zd,Ze,Zf,Zg,Zh,Nat.reduceEqDiff,Nat.reduceLT,Zi,Zj,Zk,Zl,Nat.reduceBEq,lb]
  refine condP_dec (fun hc => ?_) (fun hc => ?_)
  ·have hk' : k < bs.length := by omega
   obtain ⟨q0,q2,u,a1,a2,a3,a4,a5,a6⟩ := h.at hk' σ'
   have hsm := h.small _ (List.getElem_mem hk')
   simp -dsimp only [↓WPd,↓Zm,↓Zn,WPu,Za,Zb,Zc,Zd,Ze,Zf,Zg,Zh,Nat.reduceEqDiff,Nat.reduceLT,Zi,Zj,Zk,Zl,Nat.reduceBEq,a1,a2,a3,a4,a5]
   refine calledW_of (hbind_ok d σ' id mid ws _ bs[k].1 u bs[k].2 hh hsm (a6 σ')) ?_
   rintro r3 σ3 ⟨-,⟨ws3,h3⟩,k3⟩
   obtain ⟨q0',q2',u',b1,b2,b3,b4,b5,b6⟩ := h.at hk' σ3
   have hr3 : RefP σ3 A rid (bindsR [] (bs.take k)) := by
    refine hr.keeps k3 (by omega) fun i hi ha => ⟨ha,fun e => ?_⟩
    have := hA i ha
    have := g2.1
    omega
   have hRl := bindsR_len (bs.take k) []
   have htk : (bs.take k).length ≤ bs.length := by simp; omega
   simp -dsimp only [↓WPd,↓Zm,↓Zn,WPu,Za,Zb,Zc,Zd,Ze,Zf,Zg,Zh,Nat.reduceEqDiff,Nat.reduceLT,Zi,Zj,Zk,Zl,Nat.reduceBEq,b1,b2,b3,b4,b5]
   refine calledW_of (rbind_ok d σ3 A rid _ bs[k].1 u' bs[k].2 hr3 (by simp only [List.length_nil] at hRl; omega) hsm.1 (b6 σ3)) ?_
   rintro r4 σ4 ⟨-,r4',k4⟩
   have ht : bs.take (k + 1) = bs.take k ++ [bs[k]] := List.take_succ_eq_append_getElem hk'
   simp -dsimp only [↓WPd,↓Zm,↓Zn,WPu,Za,Zb,Zc,Zd,Ze,Zf,Zg,Zh,Nat.reduceEqDiff,Nat.reduceLT,Zi,Zj,Zk,Zl,Nat.reduceBEq]
   refine ⟨bs.length - (k + 1),by omega,k + 1,ws3,(fun i => A i ∨ σ3.length ≤ i),by omega,rfl,by rw [wrap_i64 (by omega) (by omega),Int.natCast_add,Int.natCast_one],?_,?_,?_,?_,by have := k3.1; have := k4.1; omega⟩
   ·rw [ht,bindsH_snoc]; exact h3.keeps k4 (by omega) (by omega)
   ·rw [ht,bindsR_snoc]; exact r4'
   ·rintro i (ha | ha)
    ·exact hA i ha
    ·have := k3.1; omega
   ·exact Keeps.trans (Keeps.trans g k3 fun i hi e => by omega) k4 fun i hi e => by have := g1.1; omega
  ·have : k = bs.length := by omega
   subst this
   rw [List.take_length] at hh hr
   simp -dsimp only [↓WPd,↓Zm,↓Zn,WPu,Za,Zb,Zc,Zd,Ze,Zf,Zg,Zh,Nat.reduceEqDiff,Nat.reduceLT,Zi,Zj,Zk,Zl,Nat.reduceBEq]
   exact ⟨ws,A,hh,hr,hA,g⟩
 ·rintro e σ' env ⟨rfl,ws,A,hv,hh,hr,hA,g⟩
  simp only [List.map_cons,List.map_nil,List.cons.injEq,and_true] at hv
  obtain ⟨v4,v5⟩ := hv
  simp -dsimp only [↓WPd,↓Zm,↓Zn,WPu,Za,Zb,Zc,Zd,Ze,Zf,Zg,Zh,Nat.reduceEqDiff,Nat.reduceLT,Zi,Zj,Zk,Zl,Nat.reduceBEq,v4,v5]
  have := g1.1
  exact ⟨id,mid,ws,rid,A,rfl,hh,hr,g,⟨m1,m2,by omega,fun i ha => by have := hA i ha; have := g2.1; omega⟩,by omega,by omega,hm⟩
end
structure Turned (r s : StepR) : Prop where
 k : r.k = s.k
 v : r.v = s.v
 t : r.t = s.t
 len : r.ps.length = s.ps.length
 parts : ∀ (i : Nat) (h : i < r.ps.length) (h' : i < s.ps.length),∃ p q,r.ps[i] = makeT [61] [p,q] ∧ s.ps[i] = makeT [61] [q,p] ∧ makeE [61] [p,q] = 0 ∧ makeE [61] [q,p] = 0
theorem Turned.plain {r : StepR} (h : r.ps = []) : Turned r r := ⟨rfl,rfl,rfl,rfl,fun i hi => by rw [h] at hi; simp at hi⟩
theorem var_eq {c e : Cel} (hc : c.ok = true) (he : e.ok = true) (h1 : c.k = 4) (h2 : e.k = 4) (hv : c.v = e.v) : c = e := by
 obtain ⟨a1,a2,-⟩ := ok_var hc h1
 obtain ⟨b1,b2,-⟩ := ok_var he h2
 cases c; cases e; simp_all
theorem args_len8 (t : List Cel) : (args t).length ≤ 8 := by
 by_cases hr : right t = true
 ·by_cases hk : (t.headD default).k = 3
  ·rw [args_len hr hk]
   obtain ⟨c,s,rfl⟩ : ∃ c s,t = c :: s := List.exists_cons_of_ne_nil (right_ne hr)
   have hok := right_ok_mem hr (c := c) List.mem_cons_self
   simp only [List.headD_cons] at hk ⊢
   unfold Cel.ok at hok
   rw [if_neg (by omega),if_neg (by omega),if_pos hk] at hok
   simp only [Bool.and_eq_true,Bool.or_eq_true,decide_eq_true_eq] at hok
   omega
  ·rw [args,if_neg (by rw [decide_eq_false hk]; simp)]; simp
 ·rw [args,if_neg (by simp [hr])]; simp
theorem pairs_le : ∀ {ps qs us : List (List Cel)},pairs ps qs = some us → us.length ≤ ps.length
 | [],_,us,h => by simp [pairs] at h; subst h; simp
 | p :: ps,[],us,h => by simp [pairs] at h; subst h; simp
 | p :: ps,q :: qs,us,h => by
  simp only [pairs] at h
  split at h
  ·rw [Option.map_eq_some_iff] at h
   obtain ⟨us',e1,rfl⟩ := h
   have := pairs_le e1
   simp; omega
  ·cases h
theorem stepL_small {H : Hp} (hw : WF H) (a b : List Cel) : (stepL H a b).t.length ≤ 256 ∧ (stepL H a b).ps.length ≤ 8 := by
 unfold stepL
 split
 ·rename_i hg
  simp only [Bool.and_eq_true] at hg
  have gx := (right_len (glob_right (deref_glob hw hg.1))).2
  have gy := (right_len (glob_right (deref_glob hw hg.2))).2
  generalize deref H a = x at *
  generalize deref H b = y at *
  simp only [stepT]
  split
  ·exact ⟨Nat.zero_le _,Nat.zero_le _⟩
  ·split
   ·exact ⟨gy,Nat.zero_le _⟩
   ·split
    ·exact ⟨gx,Nat.zero_le _⟩
    ·split
     ·exact ⟨Nat.zero_le _,Nat.zero_le _⟩
     ·cases hp : pairs (args x) (args y) with
      | none => exact ⟨Nat.zero_le _,Nat.zero_le _⟩
      | some ps => exact ⟨Nat.zero_le _,Nat.le_trans (pairs_le hp) (args_len8 x)⟩
 ·exact ⟨Nat.zero_le _,Nat.zero_le _⟩
end Go.Proofs.YtelpjaejmneplaaGreatDoor.Am
namespace Go.Proofs.YtelpjaejmneplaaGreatDoor.Am
open Go Go.RowKit Go.ChangeShapes Go.WideShapes Go.ChangeAt Go.Proofs.YtelpjaejmneplaaGreatDoor.Rows
section
variable {H : Type}
theorem name_at {n : Nat} {d : DataW H} (h : Typed Tryz.prog (n + 2) 49 d) : ∃ v : Nm,dec Tryz.prog (n + 2) 49 d = [.int .i64 v.1,.int .i64 v.2] ∧ Nm.In v :=
 name_dec (n := n) Tryz.underlying49 Tryz.underlying3 Tryz.underlying3 h
theorem cel_at {n : Nat} {d : DataW H} (h : Typed Tryz.prog (n + 3) 97 d) : ∃ c : Cel,argV Tryz.prog (n + 3) 97 d = c.val ∧ c.In ∧ c.s.length ≤ uptoBulk d :=
 cel_dec (n := n) Tryz.underlying97 Tryz.underlying95 Tryz.underlying9 Tryz.underlying3 Tryz.underlying49 Tryz.underlying3 Tryz.underlying3 h
theorem term_at {n : Nat} {d : DataW H} (h : Typed Tryz.prog (n + 4) 60 d) :
  ∃ cs : List Cel,(∀ σ,SlOf σ 5 (argV Tryz.prog (n + 4) 60 d) (CC cs)) ∧ (∀ c ∈ cs,c.In) ∧ cs.length ≤ uptoBulk d ∧ (cs.map fun c => c.s.length).sum ≤ uptoBulk d :=
 term_of (n := n + 3) Tryz.underlying60 (by kernel_rfl) (fun d hd => cel_at hd) h
theorem cells_in {cs : List Cel} {b : Nat} (h1 : ∀ c ∈ cs,c.In) (h2 : (cs.map fun c => c.s.length).sum ≤ b) (hb : b < 2 ^ 40) : ∀ c ∈ cs,c.k < 256 ∧ c.s.length < 2 ^ 40 := fun c hc =>
 ⟨(h1 c hc).1,by have := mem_sum (fun c : Cel => c.s.length) hc; omega⟩
theorem term_told {n : Nat} {d : DataW H} (h : Typed Tryz.prog (n + 4) 60 d) (hb : uptoBulk d ≤ 1048576) : ∃ t : List Cel,Told (argV Tryz.prog (n + 4) 60 d) t ∧ Small t ∧ (∀ c ∈ t,c.In) ∧ t.length ≤ uptoBulk d := by
 obtain ⟨cs,h1,h2,h3,h4⟩ := term_at h
 exact ⟨cs,h1,⟨by omega,cells_in h2 h4 (by omega)⟩,h2,h3⟩
theorem bd_at {n : Nat} {d : DataW H} (h : Typed Tryz.prog (n + 5) 108 d) (hb : uptoBulk d ≤ 1048576) : ∃ p : Nm × List Cel,(∃ u,argV Tryz.prog (n + 5) 108 d = bdV p.1 u ∧ Told u p.2) ∧ Small p.2 ∧ Nm.In p.1 ∧ (∀ c ∈ p.2,c.In) ∧ p.2.length ≤ uptoBulk d := by
 obtain ⟨ds,rfl,hl,hty,_,hsum⟩ := struct_of Tryz.underlying108 h
 match ds,hl with
 | [x,y],_ =>
  obtain ⟨v,v1,v2⟩ := name_at (n := n + 2) (hty 0 _ x rfl rfl)
  have hy := hty 1 _ y rfl rfl
  simp only [uptoBulkAll] at hsum
  obtain ⟨t,t1,t2,t3,t4⟩ := term_told (n := n) hy (by omega)
  have dy : dec Tryz.prog (n + 4) 60 y = [argV Tryz.prog (n + 4) 60 y] := dec_one hy (by kernel_rfl)
  refine ⟨(v,t),⟨_,?_,t1⟩,t2,v2,t3,by simp only; omega⟩
  rw [struct_argV Tryz.underlying108,struct_dec Tryz.underlying108]
  simp only [List.zipWith_cons_cons,List.zipWith_nil_left,List.flatten_cons,List.flatten_nil,v1,dy]
  rfl
theorem binds_at {n : Nat} {d : DataW H} (h : Typed Tryz.prog (n + 6) 22 d) (hb : uptoBulk d ≤ 1048576) : ∃ bs : Hp,BdArg (argV Tryz.prog (n + 6) 22 d) bs ∧ (∀ p ∈ bs,Nm.In p.1 ∧ ∀ c ∈ p.2,c.In) ∧ bs.length ≤ uptoBulk d ∧ ∀ p ∈ bs,p.2.length ≤ uptoBulk d := by
 rcases slice_of Tryz.underlying22 h with rfl | ⟨ds,rest,rfl,hd,ha,hb2⟩
 ·exact ⟨[],⟨⟨[],fun σ => by rw [argV_nil Tryz.underlying22]; exact SlOf.nil σ 3,.nil⟩,(fun p hp => by cases hp),by simp⟩,(fun p hp => by cases hp),Nat.zero_le _,fun p hp => by cases hp⟩
 ·have hds : ∀ x ∈ ds,uptoBulk x ≤ uptoBulkAll ds := by
   intro x hx
   clear hd ha hb hb2 h
   induction ds with
   | nil => cases hx
   | cons y ys ih =>
    simp only [uptoBulkAll]
    rcases List.mem_cons.1 hx with rfl | hx
    ·omega
    ·have := ih hx; omega
  have hall : ∀ x ∈ ds,∃ p : Nm × List Cel,(∃ u,argV Tryz.prog (n + 5) 108 x = bdV p.1 u ∧ Told u p.2) ∧ Small p.2 ∧ Nm.In p.1 ∧ (∀ c ∈ p.2,c.In) ∧ p.2.length ≤ uptoBulkAll ds := fun x hx => by
   obtain ⟨p,h1,h2,h3,h4,h5⟩ := bd_at (n := n) (hd x hx) (by have := hds x hx; omega)
   exact ⟨p,h1,h2,h3,h4,by have := hds x hx; omega⟩
  have hln : ds.length ≤ uptoBulkAll ds := by
   clear hd ha hb hb2 h hds hall
   induction ds with
   | nil => simp
   | cons y ys ih =>
    have h3 : 1 ≤ uptoBulk y := by cases y <;> first | (simp only [uptoBulk]; omega) | (rename_i l; cases l <;> simp only [uptoBulk] <;> omega)
    simp only [uptoBulkAll,List.length_cons]; omega
  have key : ∀ (l : List (DataW H)) (B : Nat),(∀ x ∈ l,∃ p : Nm × List Cel,(∃ u,argV Tryz.prog (n + 5) 108 x = bdV p.1 u ∧ Told u p.2) ∧ Small p.2 ∧ Nm.In p.1 ∧ (∀ c ∈ p.2,c.In) ∧ p.2.length ≤ B) →
    ∃ bs : Hp,Two (fun e p => ∃ u,e = bdV p.1 u ∧ Told u p.2) (l.map fun x => argV Tryz.prog (n + 5) 108 x) bs ∧ (∀ p ∈ bs,Small p.2 ∧ Nm.In p.1 ∧ (∀ c ∈ p.2,c.In) ∧ p.2.length ≤ B) := by
   intro l B
   induction l with
   | nil => intro _; exact ⟨[],.nil,fun p hp => by cases hp⟩
   | cons x xs ih =>
    intro hx
    obtain ⟨p,p1,p2⟩ := hx x List.mem_cons_self
    obtain ⟨bs,b1,b2⟩ := ih fun y hy => hx y (List.mem_cons_of_mem _ hy)
    refine ⟨p :: bs,.cons p1 b1,fun q hq => ?_⟩
    rcases List.mem_cons.1 hq with rfl | hq
    ·exact p2
    ·exact b2 q hq
  obtain ⟨bs,b1,b2⟩ := key ds _ hall
  have hlen := b1.len
  rw [List.length_map] at hlen
  refine ⟨bs,⟨⟨_,fun σ => by rw [ha]; exact SlOf.fs _ _ _ _ _,b1⟩,fun p hp => (b2 p hp).1,by omega⟩,fun p hp => ⟨(b2 p hp).2.1,(b2 p hp).2.2.1⟩,by omega,fun p hp => by have := (b2 p hp).2.2.2; omega⟩
end
end Go.Proofs.YtelpjaejmneplaaGreatDoor.Am
namespace Go.Proofs.YtelpjaejmneplaaGreatDoor.Am
open Go Go.RowKit
section
variable {P : Program} {cfg : Cfg} {H : Type} {enc : TypeId × Value → H} {W : World}
theorem texts_read {m base : Nat} {sp : Nat → Bool} {held : Bool} {e : TypeId} (he : P.underlying e = some .string) : ∀ (xs : List (DataW H × List MemPlace)) (cs : List Value),cs.length = xs.length →
  (∀ i,i < xs.length → DataW.trod enc P W base sp held m e ((cs.drop i).take 1) = xs[i]?) → ∃ bs : List ByteArray,cs = bs.map Value.string ∧ xs.map (·.1) = bs.map fun b => .lit (.string b.data.toList)
 | [],cs,hl,_ => ⟨[],by simpa using List.eq_nil_of_length_eq_zero hl,rfl⟩
 | x :: xs,[],hl,_ => by simp at hl
 | x :: xs,c :: cs,hl,h => by
  have h0 := h 0 (by simp)
  simp only [List.drop_zero,List.take_succ_cons,List.take_zero,List.getElem?_cons_zero] at h0
  obtain ⟨s,e1,e2,_⟩ := DataW.trod_string he h0
  obtain ⟨bs,r1,r2⟩ := texts_read he xs cs (by simpa using hl) (fun i hi => by simpa using h (i + 1) (by simpa using hi))
  injection e1 with e1
  exact ⟨s :: bs,by rw [e1,r1]; rfl,by rw [e2,List.map_cons,r2]; rfl⟩
theorem texts_inj : ∀ {ss : List (List UInt8)} {bs : List ByteArray},(ss.map fun s => (DataW.lit (.string s) : DataW H)) = (bs.map fun b => .lit (.string b.data.toList)) → ss = bs.map fun b => b.data.toList
 | [],[],_ => rfl
 | [],_ :: _,h => by simp at h
 | _ :: _,[],h => by simp at h
 | s :: ss,b :: bs,h => by
  simp only [List.map_cons,List.cons.injEq] at h ⊢
  obtain ⟨h1,h2⟩ := h
  injection h1 with h1
  injection h1 with h1
  exact ⟨h1,texts_inj h2⟩
theorem gl_of_laid {name : String} {g : Nat} {t e : TypeId} {n : Nat} {ss : List (List UInt8)} (hg : P.globalNamed name = some g) (ht : (P.globals[g]?).map (·.type) = some t) (hu : P.underlying t = some (.array n e)) (he : P.underlying e = some .string)
  (hce : P.cellsOf e = 1) (hct : P.cellsOf t = n) (hglob : ∀ i cs,cfg.glob i = some cs → i = g ∧ cs = ss.map AVal.str) (h : laidMet P [(name,.agg (ss.map fun s => .lit (.string s)))] W) : Gl cfg startE (startK W) := by
 intro i cs hi
 obtain ⟨rfl,rfl⟩ := hglob i cs hi
 obtain ⟨ps,⟨g',t',cs',fuel,p,q,e1,e2,e3,e4,_,_⟩,_,_⟩ := h
 obtain rfl := Option.some.inj (hg.symm.trans e1)
 obtain rfl := Option.some.inj (ht.symm.trans e2)
 have hb : ∃ ty f,W.heap[i]? = some (.cells cs' ty f) := by
  simp only [World.var?,hg,Option.bind_some] at e3
  split at e3
  ·rename_i c ty f hc
   injection e3 with e3; subst e3
   exact ⟨ty,f,hc⟩
  ·cases e3
 obtain ⟨ty,f,hb⟩ := hb
 obtain ⟨xs,m,rfl,hx,hl,hxl,hel⟩ := DataW.trod_array hu e4
 obtain ⟨bs,r1,r2⟩ := texts_read he xs cs'.toList (by rw [hl,hct,hxl]) (fun i hi => by
  have := hel i (by omega)
  rw [hce,Nat.mul_one] at this
  exact this)
 injection hx with hx _
 injection hx with hx
 have hss := texts_inj (hx.trans r2)
 have hrel : ∀ bs : List ByteArray,VRelL cfg.conc W.heap ((startK W).safe startE) noIds ((bs.map fun b => b.data.toList).map AVal.str) (bs.map Value.string) := by
  intro bs
  induction bs with
  | nil => exact .nil _
  | cons b bs ih => exact .cons _ _ _ _ _ (.str _ b) ih
 have := VRel.fptr (cf := cfg.conc) (h := W.heap) (S := (startK W).safe startE) noIds 0 (ss.map AVal.str) 0 i 0 cs'.toList ⟨(Array.getElem?_eq_some_iff.1 hb).1,start_own W i,fun k _ hk => by simp [startE] at hk⟩
  (by rw [hss,r1]; exact hrel bs) (fun c hc => by obtain ⟨s,_,rfl⟩ := List.mem_map.1 hc; rfl) (fun c hc => by obtain ⟨s,_,rfl⟩ := List.mem_map.1 hc; exact Nat.le_refl _)
  (fun j v hj => by simp only [cellAt,hb,Nat.zero_add]; simpa using hj)
 exact this
end
end Go.Proofs.YtelpjaejmneplaaGreatDoor.Am
namespace Go.Proofs.YtelpjaejmneplaaGreatDoor.Am
open Go Go.ChangeMaps
section
variable {F : Fence} {n : Nat} {P : Program} (w : World) {ops : Array Oper} {rest : List Oper} {o : Oper} {a : Act} {Q : Exit → Act → World → Prop}
theorem range_raw (hg : o.guard = none) (m : Operand) (t : TypeId) (hop : o.op = Op.range t m) (k e : TypeId) (ht : P.underlying t = some (.map k e)) (b : Nat) (es : Array MapEntry) (clock : Nat) (hm : a.eval m = .map (some b)) (hb : w.heap[b]? = some (.map es clock))
  (hK : wpListIn F n P ops Q rest (a.put o.dst (.pointer (some ⟨w.heap.size,0,none⟩))) (w.alloc (.mapIter (some b) clock #[] clock))) :
  wpListIn F n P ops Q (o :: rest) a w := by
 refine wpListIn_plain hg fun K' hK' => ?_
 have hrun := run_range_map (P := P) w t k e b es clock ht hb
 unfold Oper.wpIn
 refine ⟨by simp [Oper.about,hop],?_⟩
 rw [Oper.semAt_plain F _ _ (by rw [hop]; intro c hc'; cases hc')]
 simp [execOp,hop,hm,hrun,Result.andThen]
 exact hK' _ _ hK
theorem next_raw (hg : o.guard = none) (it : Operand) (hop : o.op = Op.next it false) (b r since c0 : Nat) (seen : Array Nat) (es : Array MapEntry) (clock : Nat)
  (hit : a.eval it = .pointer (some ⟨r,0,none⟩)) (hr : w.heap[r]? = some (.mapIter (some b) since seen c0)) (hb : w.heap[b]? = some (.map es clock)) (hold : ∀ x ∈ es.toList,x.born < since) (hsc : since ≤ c0)
  (hDone : (leftOf es seen).size = 0 → wpListIn F n P ops Q rest (a.put o.dst (.tuple #[.bool false])) w)
  (hMore : ∀ (x : MapEntry) (w1 : World),x ∈ (leftOf es seen).toList → (w1 = w ∨ w1 = w.drew) → wpListIn F n P ops Q rest (a.put o.dst (.tuple #[.bool true,x.key,x.val])) (setBlock w1 r (.mapIter (some b) since (seen.push x.born) clock))) :
  wpListIn F n P ops Q (o :: rest) a w := by
 refine wpListIn_plain hg fun K' hK' => ?_
 unfold Oper.wpIn
 refine ⟨by simp [Oper.about,hop],?_⟩
 rw [Oper.semAt_plain F _ _ (by rw [hop]; intro c hc'; cases hc')]
 rcases run_next_at (P := P) w o.type r b since c0 seen es clock hr hb hold hsc with ⟨h0,hrun⟩ | ⟨x,hx,w1,hw1,hrun⟩
 ·simp [execOp,hop,hit,hrun,Result.andThen]
  exact hK' _ _ (hDone h0)
 ·simp [execOp,hop,hit,hrun,Result.andThen]
  exact hK' _ _ (hMore x w1 hx hw1)
end
theorem left_step {es : Array MapEntry} (hB : (es.toList.map (·.born)).Nodup) {seen : Array Nat} {x : MapEntry} (hx : x ∈ (leftOf es seen).toList) : (leftOf es seen).toList.Perm (x :: (leftOf es (seen.push x.born)).toList) := by
 have hn : ((leftOf es seen).toList.map (·.born)).Nodup := by
  have : (leftOf es seen).toList.Sublist es.toList := by simp only [leftOf,Array.toList_filter]; exact List.filter_sublist
  exact (this.map _).nodup hB
 have e : (leftOf es (seen.push x.born)).toList = (leftOf es seen).toList.filter fun y => !(y.born == x.born) := by
  simp only [leftOf,Array.toList_filter,List.filter_filter]
  refine List.filter_congr fun y _ => ?_
  by_cases h : y.born = x.born <;> simp [h]
 rw [e]
 generalize (leftOf es seen).toList = L at hx hn
 clear e
 induction L with
 | nil => cases hx
 | cons y L ih =>
  rw [List.map_cons,List.nodup_cons] at hn
  rcases List.mem_cons.1 hx with rfl | hx
  ·have : L.filter (fun y => !(y.born == x.born)) = L := by
    rw [List.filter_eq_self]
    intro z hz
    have : z.born ≠ x.born := fun e => hn.1 (by rw [← e]; exact List.mem_map.2 ⟨z,hz,rfl⟩)
    simpa using this
   simp [this]
  ·have hne : y.born ≠ x.born := fun e => hn.1 (by rw [e]; exact List.mem_map.2 ⟨x,hx,rfl⟩)
   have := ih hx hn.2
   have hb : (!(y.born == x.born)) = true := by simpa using hne
   rw [List.filter_cons_of_pos (by simpa using hne)]
   exact (this.cons y).trans (List.Perm.swap x y _)
end Go.Proofs.YtelpjaejmneplaaGreatDoor.Am
namespace Go.Proofs.YtelpjaejmneplaaGreatDoor.Am
open Go Go.Proofs Go.RowKit Go.Maps Go.Sort Go.Shelf Go.ChangeMaps
abbrev encNm (v : Int × Int) : Value := .agg #[.int .i64 v.1,.int .i64 v.2]
set_option maxHeartbeats 1000000 in
theorem keys_walk (F : Fence) (n : Nat) (h : F.fn 140) (hro : F.round = none) (hn : 1 ≤ n) (l Bm b : Nat) (es : Array MapEntry) (clock : Nat) (J : List (Int × Int) → World → Prop)
 (hY : ∀ pre x W,J pre W → pre.length < es.size → YieldAt F (n - 1) Tryz.prog l #[encNm x] W fun e W' => e = .returned (.bool true) ∧ J (pre ++ [x]) W' ∧ KeepsWalks W W')
 (W : World) (hJ : AbidesFrom W.heap.size J) (hm : W.cell? ⟨Bm,0,none⟩ = some (.map (some b))) (hb : W.heap[b]? = some (.map es clock)) (hB : (∀ e ∈ es.toList,e.born < clock) ∧ (es.toList.map (·.born)).Nodup) (h0 : J [] W) (hk : ∀ e ∈ es.toList,∃ v : Int × Int,e.key = encNm v) :
 CallsIn F n Tryz.prog 140 #[.func (.yield l) #[] #[],.pointer (some ⟨Bm,0,none⟩)] W fun e W' => (∃ v,e = .returned v) ∧ ∃ ks : List (Int × Int),(ks.map encNm).Perm (es.toList.map (·.key)) ∧ J ks W' := by
 have u126 := run_underlying (P := Tryz.prog) Tryz.underlying134
 have u46 := run_underlying (P := Tryz.prog) Tryz.underlying49
 refine callsIn_of_wp Tryz.func140 rfl h ?_ hro
 simp only [Tryz.f140,List.size_toArray,List.length_cons,List.length_nil,Nat.reduceAdd,Nat.reduceSub,Array.replicate_succ,Array.replicate_zero,List.push_toArray,List.append_toArray,List.nil_append,List.cons_append]
 gi_wp2_with (first
  | (gi_at_range; refine range_raw _ rfl _ 134 rfl _ _ Tryz.underlying134 b es clock rfl hb ?_)
  | gi_in)
 go_frame
 gi_loopw [3] (fun _ wr => ∃ (seen : Array Nat) (c0 : Nat) (ks : List (Int × Int)),wr.heap[W.heap.size]? = some (.mapIter (some b) clock seen c0) ∧ clock ≤ c0 ∧ wr.heap[b]? = some (.map es clock) ∧ (ks.map encNm ++ (leftOf es seen).toList.map (·.key)).Perm (es.toList.map (·.key)) ∧ ks.length + (leftOf es seen).size = es.size ∧ J ks wr)
  (fun _ wr => match wr.heap[W.heap.size]? with | some (.mapIter _ _ seen _) => (leftOf es seen).size | _ => 0)
 case atStart =>
  refine ⟨#[],clock,[],World.alloc_heap_new W _,Nat.le_refl _,(Below.heap_alloc W _ b (Array.getElem?_eq_some_iff.1 hb).1).trans hb,?_,?_,hJ [] W _ none h0 (World.grownBy_alloc W _ none) (fun r e => by cases e)⟩
  ·have : (leftOf es #[]).toList = es.toList := by simp only [leftOf,Array.toList_filter]; exact List.filter_eq_self.2 fun a _ => by simp
   rw [this]; exact List.Perm.refl _
  ·simp [leftOf]
 case round =>
  obtain ⟨seen,c0,ks,hr,hc0,hb1,hperm,hlen,hJs⟩ := hrel
  gi_wp2_with (first
   | (gi_at_next; refine next_raw _ rfl _ rfl b W.heap.size clock c0 seen es clock rfl hr hb1 hB.1 hc0 ?_ ?_)
   | gi_in)
  ·intro h0'
   gi_wp2
   go_end0
   refine ⟨⟨_,rfl⟩,ks,?_,hJs⟩
   have : (leftOf es seen).toList = [] := List.eq_nil_of_length_eq_zero (by simpa using h0')
   rw [this] at hperm; simpa using hperm
  ·intro x w1 hx hw1
   obtain ⟨w2,hw2⟩ : ∃ w2,setBlock w1 W.heap.size (.mapIter (some b) clock (seen.push x.born) clock) = w2 := ⟨_,rfl⟩
   rw [hw2]
   have hxe : x ∈ es.toList := by
    have : (leftOf es seen).toList.Sublist es.toList := by simp only [leftOf,Array.toList_filter]; exact List.filter_sublist
    exact this.subset (by simpa using hx)
   have hwh : w1.heap = wr.heap := by rcases hw1 with rfl | rfl <;> rfl
   have hne : b ≠ W.heap.size := by have := (Array.getElem?_eq_some_iff.1 hb).1; omega
   have hr1 : w1.heap[W.heap.size]? = some (.mapIter (some b) clock seen c0) := by rw [hwh]; exact hr
   have hlt1 := (Array.getElem?_eq_some_iff.1 hr1).1
   have hr2 : w2.heap[W.heap.size]? = some (.mapIter (some b) clock (seen.push x.born) clock) := by rw [← hw2]; simp [setBlock,hlt1]
   have hb2 : w2.heap[b]? = some (.map es clock) := by rw [← hw2]; simp only [setBlock]; rw [Array.getElem?_setIfInBounds_ne (by omega),hwh]; exact hb1
   have hg2 : wr.grownBy w2 (some W.heap.size) := by
    have h1 : wr.grownBy w1 (some W.heap.size) := by rcases hw1 with rfl | rfl <;> exact ⟨rfl,rfl,rfl,Nat.le_refl _,fun _ _ _ => rfl⟩
    refine h1.trans ?_
    rw [← hw2]
    exact ⟨rfl,rfl,rfl,by simp [setBlock],fun i _ hi => by simp only [setBlock]; exact Array.getElem?_setIfInBounds_ne (fun e1 => hi (by rw [e1]))⟩
   have hen := run_entry_at (P := Tryz.prog) w2 W.heap.size b clock seen es clock x hr2 hb2 hxe hB.2
   obtain ⟨v,hv⟩ := hk x hxe
   rw [hv,show encNm v = .agg #[.int .i64 v.1,.int .i64 v.2] from rfl] at hen
   obtain ⟨w3,hw3⟩ : ∃ w3,w2.alloc (.cells #[.int .i64 v.1,.int .i64 v.2] 49) = w3 := ⟨_,rfl⟩
   have hg3 : wr.grownBy w3 (some W.heap.size) := by rw [← hw3]; exact hg2.trans (World.grownBy_alloc _ _ _)
   have hJ3 : J ks w3 := hJ ks wr w3 (some W.heap.size) hJs hg3 (fun r e => by cases e; exact ⟨Nat.le_refl _,_,hr,rfl⟩)
   have hleft := left_step hB.2 (seen := seen) (x := x) (by simpa using hx)
   have hll := hleft.length_eq
   simp only [List.length_cons,Array.length_toList] at hll
   have hperm2 : ((ks ++ [v]).map encNm ++ (leftOf es (seen.push x.born)).toList.map (·.key)).Perm (es.toList.map (·.key)) := by
    refine List.Perm.trans ?_ hperm
    rw [List.map_append,List.append_assoc]
    refine List.Perm.append_left _ ?_
    have := (hleft.map (·.key)).symm
    rw [List.map_cons,hv] at this
    exact this
   obtain ⟨fn,tmps,assign,body,hy,hR⟩ := hY ks v w3 hJ3 (by omega)
   have hr3 : w3.heap[W.heap.size]? = some (.mapIter (some b) clock (seen.push x.born) clock) := by rw [← hw3]; exact (Below.heap_alloc _ _ _ (Array.getElem?_eq_some_iff.1 hr2).1).trans hr2
   have hb3 : w3.heap[b]? = some (.map es clock) := by rw [← hw3]; exact (Below.heap_alloc _ _ _ (Array.getElem?_eq_some_iff.1 hb2).1).trans hb2
   subst hw3
   gi_wp2
   refine hR.mono ?_
   rintro e W3 ⟨rfl,hJ4,hk3⟩
   gi_wp2
   go_roundw
   case rel => exact ⟨_,clock,ks ++ [v],hk3.same _ _ hr3 rfl,Nat.le_refl _,hk3.same _ _ hb3 rfl,hperm2,by simp; omega,hJ4⟩
   case measure =>
    rw [hk3.same _ _ hr3 rfl,hr]
    simp only
    omega
noncomputable def apParts : Code × Code := match (Tryz.f176).body with
 | some (.seq _ (.seq (.seq _ (.block _ (.rangeFunc _ _ a b))) _)) => (a,b)
 | _ => (.skip,.skip)
noncomputable def apRec (fn : FuncId) (sv : Value) (Bs D : Nat) (st : LoopState) (pend : Option Code) : Loop :=
 { state := st,pending := pend,fn,tmps := #[.slice none 0 0,sv,.pointer (some ⟨Bs,0,none⟩),undef,.slice none 0 0,undef,sv,undef,undef,undef,undef,undef,undef],params := #[7],assign := apParts.1,body := apParts.2,defers := D }
structure ApAt (w0 : World) (fn : FuncId) (sv : Value) (Bs l D : Nat) (ss : List (Int × Int)) (W : World) : Prop where
 box : ∃ v,Boxed W Bs 23 v ∧ W.ownsRow w0.heap.size 49 2 v ss.length (ss.flatMap fun p => [.int .i64 p.1,.int .i64 p.2]) ∧ (v = .slice none 0 0 ↔ ss = [])
 L : W.heap[l]? = some (.loop (apRec fn sv Bs D .ready none))
 K : W.heap[D]? = some (.deferred (some []))
 below : Below w0.heap.size w0 W
theorem ap_abides (w0 : World) (fn : FuncId) (sv : Value) (Bs l D B : Nat) (hB : w0.heap.size ≤ B) : AbidesFrom B (ApAt w0 fn sv Bs l D) := fun s W W' row h hg hrow => by
 have hrow' : ∀ r,row = some r → ∃ o : Obj,W.heap[r]? = some o ∧ o.isWalk = true := fun r e => (hrow r e).2
 obtain ⟨v,hv,hr,hn⟩ := h.box
 exact ⟨⟨v,(grownBy_keeps hg hrow' hv rfl).trans hv,ownsRow_abides_a hr hg hrow',hn⟩,(grownBy_keeps hg hrow' h.L rfl).trans h.L,(grownBy_keeps hg hrow' h.K rfl).trans h.K,
  h.below.grown hg h.below.size (fun k e => Nat.le_trans hB (hrow k e).1)⟩
abbrev nmCells (p : Int × Int) : List Value := [.int .i64 p.1,.int .i64 p.2]
theorem new_cells (W : World) (x : Int × Int) : ∀ (j : Nat) (u : Value),([.int .i64 x.1,.int .i64 x.2] : List Value)[j]? = some u → (W.alloc (.cells #[.int .i64 x.1,.int .i64 x.2] 49)).cell? ((⟨W.heap.size,0,none⟩ : Addr).add j) = some u := by
 have h := World.alloc_heap_new W (.cells #[.int .i64 x.1,.int .i64 x.2] 49)
 intro j u hj
 match j,hj with
 | 0,hj => simp at hj; subst hj; rw [show (⟨W.heap.size,0,none⟩ : Addr).add 0 = ⟨W.heap.size,0,none⟩ from rfl]; simp only [World.cell?,h]; rfl
 | 1,hj => simp at hj; subst hj; rw [show (⟨W.heap.size,0,none⟩ : Addr).add 1 = ⟨W.heap.size,1,none⟩ from rfl]; simp only [World.cell?,h]; rfl
 | j + 2,hj => simp at hj
set_option maxHeartbeats 2000000 in
theorem apYield (F : Fence) (m : Nat) (w0 : World) (fn : FuncId) (hfn : F.fn fn) (sv : Value) (Bs l D : Nat) (hBl : Bs ≠ l) (hDl : D ≠ l) (hDB : D ≠ Bs) (h0B : w0.heap.size ≤ Bs) (h0l : w0.heap.size ≤ l)
    (N : Nat) (hN : N ≤ maxLen) (hNb : N * 16 ≤ 140737488355328) (ss : List (Int × Int)) (x : Int × Int) (W : World) (h : ApAt w0 fn sv Bs l D ss W) (hlen : ss.length < N) :
    YieldAt F m Tryz.prog l #[encNm x] W fun e W' => e = .returned (.bool true) ∧ ApAt w0 fn sv Bs l D (ss ++ [x]) W' ∧ KeepsWalks W W' := by
  have u46 := run_underlying (P := Tryz.prog) Tryz.underlying49
  have u54 := run_underlying (P := Tryz.prog) Tryz.underlying23
  obtain ⟨v, hv, hrow, _⟩ := h.box
  refine ⟨fn, #[.slice none 0 0, sv, .pointer (some ⟨Bs, 0, none⟩), undef, .slice none 0 0, undef, sv, encNm x, undef, undef, undef, undef, undef], apParts.1, apParts.2, by simpa [apRec] using run_yield (P := Tryz.prog) (args := #[encNm x]) h.L rfl, roundIn_of_wpIn hfn ?_⟩
  have hl : l < W.heap.size := (Array.getElem?_eq_some_iff.1 h.L).1
  have hBs : Bs < W.heap.size := (Array.getElem?_eq_some_iff.1 hv).1
  have hDs : D < W.heap.size := (Array.getElem?_eq_some_iff.1 h.K).1
  obtain ⟨W1, hW1⟩ : ∃ W1, W.alloc (.cells #[.int .i64 x.1, .int .i64 x.2] 49) = W1 := ⟨_, rfl⟩
  have hL1 : W1.heap[l]? = some (.loop (apRec fn sv Bs D .ready none)) := by rw [← hW1]; exact (Below.heap_alloc _ _ _ hl).trans h.L
  have hbr := run_beginRound (P := Tryz.prog) hL1 rfl
  unfold apParts
  simp only [Tryz.f176]
  gi_wp2_with gi_round_op_a
  obtain ⟨W2, hW2⟩ : ∃ W2, W1.putObj l (.loop { apRec fn sv Bs D .ready none with state := .busy }) = W2 := ⟨_, rfl⟩
  rw [hW2] at hbr
  refine ⟨W2, hbr, ?_⟩
  have hg1 : W.grownBy W1 none := by rw [← hW1]; exact World.grownBy_alloc W _ none
  have hg2 : W1.grownBy W2 (some l) := by rw [← hW2]; exact grownBy_putObj_a _ _ _
  have hl1 : l < W1.heap.size := (Array.getElem?_eq_some_iff.1 hL1).1
  have hv1 : Boxed W1 Bs 23 v := hv.kept hg1 (by simp)
  have hv2 : Boxed W2 Bs 23 v := hv1.kept hg2 (by simpa using hBl)
  have hx1 : W1.heap[W.heap.size]? = some (.cells #[.int .i64 x.1, .int .i64 x.2] 49 (0, 0)) := by rw [← hW1]; exact World.alloc_heap_new W _
  have hx2 : W2.heap[W.heap.size]? = some (.cells #[.int .i64 x.1, .int .i64 x.2] 49 (0, 0)) := (hg2.block _ (Array.getElem?_eq_some_iff.1 hx1).1 (by intro e; injection e with e; omega)).trans hx1
  have hrow1 := hrow.alloc (.cells #[.int .i64 x.1, .int .i64 x.2] 49)
  rw [hW1] at hrow1
  have hrow2 := hrow1.kept hg2 (ownsRow_ne_a hrow1 hL1 (fun cur e => by cases e))
  obtain ⟨hc2, hf2⟩ := cell_of_box_a (show W2.heap[Bs]? = some (.cells #[v] 23 (0, 0)) from hv2)
  have ha2 : W2.cell? ⟨W.heap.size, 0, none⟩ = some (.int .i64 x.1) := by simp [World.cell?, hx2]
  have hb2 : W2.cell? ⟨W.heap.size, 1, none⟩ = some (.int .i64 x.2) := by simp [World.cell?, hx2]
  have hne : (23 : TypeId) ≠ 49 := by decide
  have i46 : (Tryz.prog.info? 49).map (fun i => (i.zero, i.size, i.bytes)) = some (some (.agg #[.int .i64 0, .int .i64 0]), 2, 16) := by kernel_rfl
  obtain ⟨i0, hi, hz0, hz1, hz2⟩ := info_parts i46
  have hb1' : Below w0.heap.size w0 W1 := by rw [← hW1]; exact h.below.alloc h.below.size _
  have hb2' : Below w0.heap.size w0 W2 := hb1'.grown hg2 hb1'.size (fun k e => by cases e; exact h0l)
  gi_wp2_with (first
    | (gi_at_builtin; refine wpListIn_append_own _ rfl _ _ 23 rfl w0.heap.size 49 i0 (.agg #[.int .i64 0, .int .i64 0]) 2 16 Tryz.underlying23 hi hz0 hz1 hz2 rfl (by decide) _ _ _ rfl (hrow2.alloc _) ⟨W2.heap.size, 0, none⟩ 1 1 [.int .i64 x.1, .int .i64 x.2] rfl rfl (new_cells W2 x) (by simp [Value.oneCell']) (by omega) (by omega) (by have := hb2'.size; simp; omega) ?_; intro v' w3 hown' hg3 hnil3
       have hv3 : Boxed w3 Bs 23 v := (hv2.alloc _).kept hg3 (show some Bs ≠ v.ownBlock from hv2.not_row hne hrow2)
       obtain ⟨hc3, hf3⟩ := cell_of_box_a (show w3.heap[Bs]? = some (.cells #[v] 23 (0, 0)) from hv3)
       obtain ⟨g', cap', rfl⟩ := ownsRow_succ hown'
       go_frame)
    | gi_round_op_a)
  have hne' : ∀ {j : Nat} {o : Obj}, W2.heap[j]? = some o → (∀ cur, o ≠ .cells cur 49 (0, 0)) → some j ≠ v.ownBlock := fun hj hno => by
    rcases ownsRow_ne_a hrow2 hj hno with e | e
    · rw [e]; simp
    · exact fun e' => e e'.symm
  have hL2 : W2.heap[l]? = some (.loop { apRec fn sv Bs D .ready none with state := .busy }) := by rw [← hW2]; exact World.putObj_heap_same hl1
  have hK1 : W1.heap[D]? = some (.deferred (some [])) := by rw [← hW1]; exact (Below.heap_alloc _ _ _ hDs).trans h.K
  have hK2 : W2.heap[D]? = some (.deferred (some [])) := by rw [← hW2]; exact (World.putObj_heap_other hDl).trans hK1
  have hg3' : (W2.alloc (.cells #[.int .i64 x.1, .int .i64 x.2] 49)).grownBy w3 v.ownBlock := hg3
  have hl2 : l < W2.heap.size := (Array.getElem?_eq_some_iff.1 hL2).1
  have hDlt : D < W2.heap.size := (Array.getElem?_eq_some_iff.1 hK2).1
  have hL3 : w3.heap[l]? = some (.loop { apRec fn sv Bs D .ready none with state := .busy }) := (hg3'.block l (by simp; omega) (hne' hL2 (fun cur e => by cases e))).trans ((Below.heap_alloc _ _ l hl2).trans hL2)
  have hK3 : w3.heap[D]? = some (.deferred (some [])) := (hg3'.block D (by simp; omega) (hne' hK2 (fun cur e => by cases e))).trans ((Below.heap_alloc _ _ D hDlt).trans hK2)
  have hk2 : KeepsWalks W W2 := by rw [← hW2]; rw [← hW1]; exact (KeepsWalks.alloc _ _).trans (KeepsWalks.putObj _ (by rw [hW1]; exact hL1) rfl)
  obtain ⟨w4, hw4⟩ : ∃ w4, w3.setCell ⟨Bs, 0, none⟩ (.slice (some ⟨g', 0, none⟩) (ss.length + 1) cap') = w4 := ⟨_, rfl⟩
  rw [hw4]
  have hg4 : w3.grownBy w4 (some Bs) := by rw [← hw4]; exact grownBy_setCell0_a _ _ _
  have hv4 : Boxed w4 Bs 23 (.slice (some ⟨g', 0, none⟩) (ss.length + 1) cap') := by rw [← hw4]; exact hv3.set _
  have hL4 : w4.heap[l]? = some (.loop { apRec fn sv Bs D .ready none with state := .busy }) := (hg4.block l (Array.getElem?_eq_some_iff.1 hL3).1 (fun e => hBl (by cases e; rfl))).trans hL3
  have hK4 : w4.heap[D]? = some (.deferred (some [])) := (hg4.block D (Array.getElem?_eq_some_iff.1 hK3).1 (fun e => hDB (by cases e; rfl))).trans hK3
  have hrow4 := hown'.kept hg4 (ownsRow_ne_a hown' (show w3.heap[Bs]? = some (.cells #[v] 23 (0, 0)) from hv3) (fun cur e => hne (Obj.cells.inj e).2.1))
  have hl4 : l < w4.heap.size := (Array.getElem?_eq_some_iff.1 hL4).1
  have hb3 : Below w0.heap.size w0 w3 := (hb2'.alloc hb2'.size _).grown hg3' (by have := hb2'.size; simp; omega) (fun k e => (hrow2.lt k e).1)
  have hb4 : Below w0.heap.size w0 w4 := hb3.grown hg4 hb3.size (fun k e => by cases e; exact h0B)
  have hk4 : KeepsWalks W w4 := ((hk2.trans (KeepsWalks.alloc _ _)).trans (KeepsWalks.of_grownBy hg3' (ownsRow_not_walk_a (hrow2.alloc _)))).trans (by rw [← hw4]; exact KeepsWalks.setCell _ _ _)
  clear hw4
  refine ⟨_, _, run_endRound none hL4, rfl, ⟨⟨_, hv4.kept (grownBy_putObj_a w4 l _) (by simpa using hBl), ?_, by simp⟩, World.putObj_heap_same hl4, (World.putObj_heap_other hDl).trans hK4, hb4.grown (grownBy_putObj_a _ _ _) hb4.size (fun k e => by cases e; exact h0l)⟩, hk4.trans (KeepsWalks.putObj _ hL4 rfl)⟩
  have := hrow4.kept (grownBy_putObj_a w4 l (.loop { { apRec fn sv Bs D .ready none with state := .busy } with state := if (none : Option Code).isNone then .ready else .done, pending := none })) (ownsRow_ne_a hrow4 hL4 (fun cur e => by cases e))
  simpa [List.flatMap_append] using this
set_option maxHeartbeats 2000000 in
theorem appendSeq_nm (F : Fence) (n : Nat) (h11 : F.fn 176) (hro : F.round = none) (hn : 2 ≤ n) (g : Nat) (lb : Array Value) (hFg : F.fn g) (eg : ∀ args w, (callFunc g args).run Tryz.prog w = .ok (.enter g args) w)
    (S : List (Int × Int) → Prop) (N : Nat) (hN : N ≤ maxLen) (hNb : N * 16 ≤ 140737488355328) (w : World) (hseq : SeqGives F (n - 1) Tryz.prog g lb encNm S N w) :
    CallsIn F n Tryz.prog 176 #[.slice none 0 0, .func (.func g) #[] lb] w fun e w' => ∃ (v : Value) (ss : List (Int × Int)), e = .returned v ∧ S ss ∧ w'.ownsRow w.heap.size 49 2 v ss.length (ss.flatMap nmCells) ∧ (v = .slice none 0 0 ↔ ss = []) ∧ Below w.heap.size w w' := by
  have h1 : 1 ≤ n := by omega
  have hne : (23 : TypeId) ≠ 49 := by decide
  have u46 := run_underlying (P := Tryz.prog) Tryz.underlying49
  have u54 := run_underlying (P := Tryz.prog) Tryz.underlying23
  refine callsIn_of_wp_marks Tryz.func176 rfl h11 ?_ hro
  obtain ⟨ap, hap⟩ : ∃ ap, apParts = ap := ⟨_, rfl⟩
  simp only [Tryz.f176, List.size_toArray, List.length_cons, List.length_nil, Nat.reduceAdd, Nat.reduceSub, Array.replicate_succ, Array.replicate_zero, List.push_toArray, List.append_toArray, List.nil_append, List.cons_append]
  gi_wp2
  refine wpIn_rangeFunc ?_
  intro fn hfn
  rw [hro]
  obtain ⟨W0, hW0⟩ : ∃ W0, w.alloc (.cells #[.slice none 0 0] 23) = W0 := ⟨_, rfl⟩
  have hs0 : W0.heap.size = w.heap.size + 1 := by rw [← hW0]; simp
  have hv0 : W0.heap[w.heap.size]? = some (.cells #[.slice none 0 0] 23 (0, 0)) := by rw [← hW0]; exact World.alloc_heap_new w _
  have hb0 : Below w.heap.size w W0 := by rw [← hW0]; exact (Below.refl _ w).alloc (Nat.le_refl _) _
  rw [hW0]
  obtain ⟨W1, hW1⟩ : ∃ W1, (W0.alloc (.deferred (some []))).alloc (.loop (apRec fn (.func (.func g) #[] lb) w.heap.size W0.heap.size .ready none)) = W1 := ⟨_, rfl⟩
  have hold : ∀ k, k < W0.heap.size → W1.heap[k]? = W0.heap[k]? := fun k hk => by
    rw [← hW1]; exact (Below.heap_alloc _ _ k (by simp; omega)).trans (Below.heap_alloc _ _ k hk)
  have hb1 : Below w.heap.size w W1 := by rw [← hW1]; exact (hb0.alloc hb0.size _).alloc (by have := hb0.size; simp; omega) _
  have hs1 : W1.heap.size = W0.heap.size + 2 := by rw [← hW1]; simp
  have hM : ApAt w fn (.func (.func g) #[] lb) w.heap.size (W0.heap.size + 1) W0.heap.size [] W1 :=
    ⟨⟨_, (hold w.heap.size (by omega)).trans hv0, ⟨rfl, .inl ⟨rfl, rfl⟩⟩, by simp⟩,
     by rw [← hW1]; have := World.alloc_heap_new (W0.alloc (.deferred (some []))) (.loop (apRec fn (.func (.func g) #[] lb) w.heap.size W0.heap.size .ready none)); rwa [World.size_alloc] at this,
     by rw [← hW1]; exact (Below.heap_alloc _ _ _ (by simp)).trans (World.alloc_heap_new W0 _), hb1⟩
  refine ⟨W0.heap.size + 1, [{ target := .collected W0.heap.size, args := #[] }], W1, { target := .fn (.func g) lb, args := #[.func (.yield (W0.heap.size + 1)) #[] #[]] }, W1, g,
    #[.func (.yield (W0.heap.size + 1)) #[] #[]] ++ lb, W1, ?_, ?_, ?_, ?_, fun _ => h1, ?_⟩
  · rw [← hW1]; exact run_enterLoop_outer _ _ _ _ _
  · simp [resolve, go_sem]
  · intro f' hf'; simp [Target.leads] at hf'; subst hf'; exact hFg
  · simp [invoke, go_sem, eg]
  · refine (hseq (W0.heap.size + 1) (ApAt w fn (.func (.func g) #[] lb) w.heap.size (W0.heap.size + 1) W0.heap.size) W1 hb1 (ap_abides _ _ _ _ _ _ _ hb1.size)
      (fun pre x W hJ hl => apYield F (n - 1 - 1) w fn hfn _ w.heap.size (W0.heap.size + 1) W0.heap.size (by omega) (by omega) (by omega) (Nat.le_refl _) (by omega) N hN hNb pre x W hJ hl) hM).mono ?_
    rintro e W2 ⟨⟨v0, rfl⟩, ss, hS, h2⟩
    obtain ⟨v, hv, hrow, hnil⟩ := h2.box
    have hend := run_endLoop (P := Tryz.prog) h2.L (by simp [apRec])
    obtain ⟨W3, hW3⟩ : ∃ W3, W2.putObj (W0.heap.size + 1) (.loop { apRec fn (.func (.func g) #[] lb) w.heap.size W0.heap.size .ready none with state := .exhausted }) = W3 := ⟨_, rfl⟩
    rw [hW3] at hend
    have hg3 : W2.grownBy W3 (some (W0.heap.size + 1)) := by rw [← hW3]; exact grownBy_putObj_a _ _ _
    have hv3 : W3.heap[w.heap.size]? = some (.cells #[v] 23 (0, 0)) := by rw [← hW3]; exact (World.putObj_heap_other (by omega)).trans hv
    have hK3 : W3.heap[W0.heap.size]? = some (.deferred (some [])) := by rw [← hW3]; exact (World.putObj_heap_other (by omega)).trans h2.K
    have hrow3 := hrow.kept hg3 (ownsRow_ne_a hrow h2.L (fun cur e => by cases e))
    have hb3 : Below w.heap.size w W3 := h2.below.grown hg3 h2.below.size (fun k e => by cases e; omega)
    obtain ⟨hc3, hf3⟩ := cell_of_box_a hv3
    clear hW3
    refine ⟨none, W3, hend, ?_⟩
    gi_wp2
    rw [← hs0]
    refine ⟨by simp, .inl ⟨_, _, rfl, run_takeDeferred hK3, ?_⟩⟩
    exact ⟨_, results_tmp rfl _ _ _, v, ss, rfl, hS, hrow3.kept (grownBy_putObj_a _ _ _) (ownsRow_ne_a hrow3 hK3 (fun cur e => by cases e)), hnil, hb3.grown (grownBy_putObj_a _ _ _) hb3.size (fun k e => by cases e; omega)⟩
set_option maxHeartbeats 1000000 in
theorem collect_nm (F : Fence) (n : Nat) (h8 : F.fn 139) (h11 : F.fn 176) (hro : F.round = none) (hn : 3 ≤ n) (g : Nat) (lb : Array Value) (hFg : F.fn g) (eg : ∀ args w,(callFunc g args).run Tryz.prog w = .ok (.enter g args) w)
  (S : List (Int × Int) → Prop) (N : Nat) (hN : N ≤ maxLen) (hNb : N * 16 ≤ 140737488355328) (w : World) (hseq : SeqGives F (n - 1 - 1) Tryz.prog g lb encNm S N w) :
  CallsIn F n Tryz.prog 139 #[.func (.func g) #[] lb] w fun e w' => ∃ (v : Value) (ss : List (Int × Int)),e = .returned v ∧ S ss ∧ w'.ownsRow w.heap.size 49 2 v ss.length (ss.flatMap nmCells) ∧ (v = .slice none 0 0 ↔ ss = []) ∧ Below w.heap.size w w' := by
 have h1 : 1 ≤ n := by omega
 have e11 : ∀ args w,(callFunc 176 args).run Tryz.prog w = .ok (.enter 176 args) w := enters_of Tryz.func176 (by kernel_rfl) rfl
 have u46 := run_underlying (P := Tryz.prog) Tryz.underlying49
 have u54 := run_underlying (P := Tryz.prog) Tryz.underlying23
 refine callsIn_of_wp Tryz.func139 rfl h8 ?_ hro
 simp only [Tryz.f139,List.size_toArray,List.length_cons,List.length_nil,Nat.reduceAdd,Nat.reduceSub,Array.replicate_succ,Array.replicate_zero,List.push_toArray,List.append_toArray,List.nil_append,List.cons_append]
 gi_wp2_with (gi_at_fn 176; refine (appendSeq_nm F (n - 1) h11 hro (by omega) g lb hFg eg S N hN hNb _ hseq).mono ?_; rintro e w' ⟨v,ss,rfl,hS,hrow,hnil,hb⟩)
 go_ret
 exact ⟨v,ss,rfl,hS,hrow,hnil,hb⟩
end Go.Proofs.YtelpjaejmneplaaGreatDoor.Am
namespace Go.Proofs.YtelpjaejmneplaaGreatDoor.Am
open Go Go.Proofs Go.Shelf
def sortNm_ren : Go.Shelf.Ren := ⟨fun | 6 => 116 | 15 => 158 | 14 => 157 | 28 => 195 | 29 => 196 | 20 => 187 | 21 => 188 | 22 => 189 | 23 => 190 | 24 => 191 | 25 => 192 | 26 => 193 | 27 => 194 | 46 => 206 | 47 => 207 | 48 => 208 | 49 => 209 | 50 => 210 | 57 => 216 | n => n,fun | 22 => 23 | 24 => 49 | 25 => 137 | 3 => 3 | 39 => 194 | 0 => 0 | 53 => 230 | 55 => 232 | 4 => 4 | 46 => 223 | 45 => 222 | 50 => 227 | 5 => 5 | 9 => 9 | 66 => 241 | 70 => 245 | 76 => 251 | 77 => 252 | n => n,fun | n => n⟩
theorem sortNm : Go.Proofs.SlLaysF0.n6 Tryz.prog sortNm_ren := {
 mixed := by kernel_rfl
 f6 := ⟨Tryz.f116.name,by decide,Tryz.func116.trans (congrArg some (by kernel_rfl))⟩
 f14 := ⟨Tryz.f157.name,by decide,Tryz.func157.trans (congrArg some (by kernel_rfl))⟩
 f15 := Tryz.func158.trans (congrArg some (by kernel_rfl))
 f20 := ⟨Tryz.f187.name,by decide,Tryz.func187.trans (congrArg some (by kernel_rfl))⟩
 f21 := ⟨Tryz.f188.name,by decide,Tryz.func188.trans (congrArg some (by kernel_rfl))⟩
 f22 := ⟨Tryz.f189.name,by decide,Tryz.func189.trans (congrArg some (by kernel_rfl))⟩
 f23 := ⟨Tryz.f190.name,by decide,Tryz.func190.trans (congrArg some (by kernel_rfl))⟩
 f24 := ⟨Tryz.f191.name,by decide,Tryz.func191.trans (congrArg some (by kernel_rfl))⟩
 f25 := ⟨Tryz.f192.name,by decide,Tryz.func192.trans (congrArg some (by kernel_rfl))⟩
 f26 := ⟨Tryz.f193.name,by decide,Tryz.func193.trans (congrArg some (by kernel_rfl))⟩
 f27 := ⟨Tryz.f194.name,by decide,Tryz.func194.trans (congrArg some (by kernel_rfl))⟩
 f28 := Tryz.func195.trans (congrArg some (by kernel_rfl))
 f29 := Tryz.func196.trans (congrArg some (by kernel_rfl))
 f46 := ⟨Tryz.f206.name,by decide,Tryz.func206.trans (congrArg some (by kernel_rfl))⟩
 f47 := Tryz.func207.trans (congrArg some (by kernel_rfl))
 f48 := Tryz.func208.trans (congrArg some (by kernel_rfl))
 f49 := ⟨Tryz.f209.name,by decide,Tryz.func209.trans (congrArg some (by kernel_rfl))⟩
 f50 := ⟨Tryz.f210.name,by decide,Tryz.func210.trans (congrArg some (by kernel_rfl))⟩
 f57 := ⟨Tryz.f216.name,by decide,Tryz.func216.trans (congrArg some (by kernel_rfl))⟩
 t0 := Tryz.underlying0
 a0 := Tryz.isAgg0
 z0 := Tryz.sizeOf0
 v0 := Tryz.zeroValue0
 t3 := Tryz.underlying3
 a3 := Tryz.isAgg3
 z3 := Tryz.sizeOf3
 v3 := Tryz.zeroValue3
 t4 := Tryz.underlying4
 a4 := Tryz.isAgg4
 z4 := Tryz.sizeOf4
 v4 := Tryz.zeroValue4
 t5 := Tryz.underlying5
 a5 := Tryz.isAgg5
 z5 := Tryz.sizeOf5
 v5 := Tryz.zeroValue5
 t9 := Tryz.underlying9
 a9 := Tryz.isAgg9
 z9 := Tryz.sizeOf9
 v9 := Tryz.zeroValue9
 t22 := Tryz.underlying23
 a22 := Tryz.isAgg23
 z22 := Tryz.sizeOf23
 v22 := Tryz.zeroValue23
 t25 := Tryz.underlying137
 a25 := Tryz.isAgg137
 z25 := Tryz.sizeOf137
 v25 := Tryz.zeroValue137
 t39 := Tryz.underlying194
 a39 := Tryz.isAgg194
 z39 := Tryz.sizeOf194
 v39 := Tryz.zeroValue194
 t45 := Tryz.underlying222
 a45 := Tryz.isAgg222
 z45 := Tryz.sizeOf222
 v45 := Tryz.zeroValue222
 t46 := Tryz.underlying223
 a46 := Tryz.isAgg223
 z46 := Tryz.sizeOf223
 v46 := Tryz.zeroValue223
 t50 := Tryz.underlying227
 a50 := Tryz.isAgg227
 z50 := Tryz.sizeOf227
 v50 := Tryz.zeroValue227
 t53 := Tryz.underlying230
 a53 := Tryz.isAgg230
 z53 := Tryz.sizeOf230
 v53 := Tryz.zeroValue230
 t55 := Tryz.underlying232
 a55 := Tryz.isAgg232
 z55 := Tryz.sizeOf232
 v55 := Tryz.zeroValue232
 t66 := Tryz.underlying241
 a66 := Tryz.isAgg241
 z66 := Tryz.sizeOf241
 v66 := Tryz.zeroValue241
 t70 := Tryz.underlying245
 a70 := Tryz.isAgg245
 z70 := Tryz.sizeOf245
 v70 := Tryz.zeroValue245
 t76 := Tryz.underlying251
 a76 := Tryz.isAgg251
 z76 := Tryz.sizeOf251
 v76 := Tryz.zeroValue251
 t77 := Tryz.underlying252
 a77 := Tryz.isAgg252
 z77 := Tryz.sizeOf252
 v77 := Tryz.zeroValue252 }
def cloneNm_ren : Go.Shelf.Ren := ⟨fun | 5 => 142 | 7 => 177 | n => n,fun | 23 => 134 | 25 => 49 | 3 => 60 | 4 => 4 | 20 => 20 | n => n,fun | n => n⟩
theorem cloneNm : Go.Proofs.SlLaysW.n5 Tryz.prog cloneNm_ren := {
 mixed := by kernel_rfl
 f5 := ⟨Tryz.f142.name,by decide,Tryz.func142.trans (congrArg some (by kernel_rfl))⟩
 f7 := Tryz.func177.trans (congrArg some (by kernel_rfl))
 t4 := Tryz.underlying4
 a4 := Tryz.isAgg4
 z4 := Tryz.sizeOf4
 v4 := Tryz.zeroValue4
 t20 := Tryz.underlying20
 a20 := Tryz.isAgg20
 z20 := Tryz.sizeOf20
 v20 := Tryz.zeroValue20
 t23 := Tryz.underlying134
 a23 := Tryz.isAgg134
 z23 := Tryz.sizeOf134
 v23 := Tryz.zeroValue134 }
end Go.Proofs.YtelpjaejmneplaaGreatDoor.Am
namespace Go.Proofs.YtelpjaejmneplaaGreatDoor.Am
open Go Go.Proofs Go.RowKit Go.Maps Go.Sort Go.Shelf Go.ChangeMaps
theorem ordF_ltOf : ltOf ordF = nless := by
 funext x y
 exact ordF_lt x y
theorem ordF_swo : SWO (ltOf ordF) := by
 rw [ordF_ltOf]
 exact ⟨nless_irrefl,fun _ _ _ h h' => nless_trans h h',fun x y z h h' => by
  simp only [nless,Bool.or_eq_false_iff,Bool.and_eq_false_iff,decide_eq_false_iff_not] at *; omega⟩
theorem flatK_nm (d : Array Nm) : (flatK nmCells 2 d).toList = d.toList.flatMap nmCells := by
 have key : ∀ (l : List Nm) (t : Nat),(l.flatMap nmCells)[t]? = if t < l.length * 2 then some ((nmCells (l[t / 2]?.getD default))[t % 2]!) else none := by
  intro l
  induction l with
  | nil => intro t; simp
  | cons x r ih =>
   intro t
   match t with
   | 0 => simp [nmCells]
   | 1 => simp [nmCells]; omega
   | t + 2 =>
    have h1 : ((x :: r).flatMap nmCells)[t + 2]? = (r.flatMap nmCells)[t]? := by simp [nmCells]
    have h2 : (t + 2) / 2 = t / 2 + 1 := by omega
    have h3 : (t + 2) % 2 = t % 2 := by omega
    rw [h1,ih t,h2,h3]
    simp only [List.length_cons,List.getElem?_cons_succ]
    by_cases h : t < r.length * 2
    ·rw [if_pos h,if_pos (by omega)]
    ·rw [if_neg h,if_neg (by omega)]
 apply List.ext_getElem?
 intro t
 rw [key]
 unfold flatK
 simp only [Array.toList_map,List.getElem?_map,Array.toList_range,List.getElem?_range]
 by_cases h : t < d.size * 2
 ·rw [List.getElem?_range h,if_pos (by simpa using h)]
  simp only [Option.map_some]
  have : d[t / 2]! = d.toList[t / 2]?.getD default := by
   have h' : t / 2 < d.size := by omega
   simp [h']
  rw [this]
 ·rw [List.getElem?_eq_none (by simp; omega),if_neg (by simpa using h)]; rfl
theorem holds_nm {w : World} {g : Nat} {cur : Array Value} {e : TypeId} {ss : List Nm} (hb : w.heap[g]? = some (.cells cur e (0,0))) (ht : cur.toList.take (ss.length * 2) = ss.flatMap nmCells) : HoldsK nmCells 2 w g 0 ss.toArray := by
 intro j hj
 rw [size_flatK] at hj
 have hj' : j < ss.length * 2 := by simpa using hj
 refine ⟨?_,by simp [World.frozen?,hb]⟩
 have h1 : (cur.toList.take (ss.length * 2))[j]? = (ss.flatMap nmCells)[j]? := by rw [ht]
 rw [List.getElem?_take_of_lt hj'] at h1
 have h2 : (ss.flatMap nmCells)[j]? = (flatK nmCells 2 ss.toArray)[j]? := by rw [← Array.getElem?_toList,flatK_nm]
 simp only [World.cell?,hb,Nat.zero_add]
 simp only [Option.isSome_none,Bool.false_eq_true,if_false]
 rw [← Array.getElem?_toList,h1,h2]
 have h3 : j < (flatK nmCells 2 ss.toArray).size := by rw [size_flatK]; simpa using hj'
 rw [Array.getElem?_eq_getElem h3,getElem!_pos _ j h3]; rfl
theorem heap_sortedV {w : World} {g n : Nat} {os : Array Obj} {cur : Array Value} {e : TypeId} {fr : Nat × Nat} (d : Array Value) (hb : w.heap[g]? = some (.cells cur e fr)) :
  (grow (putRow id (Sort.ahead w n) g 0 d) os).heap[g]? = some (.cells (putCells id 0 d cur) e fr) := by
 have hg : g < w.heap.size := (Array.getElem?_eq_some_iff.1 hb).1
 rw [heap_grow_old _ _ (by simpa using hg)]
 simp [putRow,mapBlock,Sort.ahead,Array.getElem?_modify,hb,onCells]
theorem grownBy_sortedV {w : World} {g n : Nat} {os : Array Obj} (d : Array Value) : w.grownBy (grow (putRow id (Sort.ahead w n) g 0 d) os) (some g) := by
 refine ⟨rfl,rfl,rfl,by simp,fun k hk hne => ?_⟩
 rw [heap_grow_old _ _ (by simpa using hk)]
 have : g ≠ k := fun e => hne (by rw [e])
 simp [putRow,mapBlock,Sort.ahead,Array.getElem?_modify,this]
theorem take_putCellsV (cur : Array Value) (ts : Array Value) (h : ts.size ≤ cur.size) : (putCells id 0 ts cur).toList.take ts.size = ts.toList := by
 apply List.ext_getElem?
 intro j
 by_cases hj : j < ts.size
 ·rw [List.getElem?_take_of_lt hj,Array.getElem?_toList]
  simp [putCells,hj,show j < cur.size by omega]
 ·rw [List.getElem?_take_eq_none (by omega),List.getElem?_eq_none (by simp; omega)]
theorem ownsRow_sortedV {w : World} {base g cap n : Nat} {e : TypeId} {os : Array Obj} {cur : Array Value} {d : Array Nm} {m : Nat} (hl : d.size = m) (hbase : base ≤ g) (hb : w.heap[g]? = some (.cells cur e (0,0)))
  (h1 : m ≤ cap) (h2 : cap ≤ maxLen) (h3 : cur.size = cap * 2) :
  (sortWorldK nmCells 2 w g 0 n d os).ownsRow base e 2 (.slice (some ⟨g,0,none⟩) m cap) m (d.toList.flatMap nmCells) := by
 subst hl
 refine ⟨by rw [← flatK_nm]; simp,.inr ⟨g,cap,_,rfl,hbase,heap_sortedV _ hb,h1,h2,by simp [putCells,h3],?_⟩⟩
 have := take_putCellsV cur (flatK nmCells 2 d) (by rw [size_flatK,h3]; omega)
 rw [size_flatK,flatK_nm] at this
 exact this
theorem sorted_is {d d' : Array Nm} (hp : PermIn 0 d.size d d') (hs : SortedIn (ltOf ordF) 0 d.size d') : d'.toList = sortN d.toList := by
 obtain ⟨h1,_,h2⟩ := hp
 have hp : d'.toList.Perm d.toList := by
  have e1 : d'.extract 0 d.size = d' := by rw [← h1]; exact Array.extract_size
  have e2 : d.extract 0 d.size = d := Array.extract_size
  rw [e1,e2] at h2; exact h2
 refine (sortN_of ?_ hp.symm).symm
 refine List.pairwise_iff_getElem.2 fun i j hi hj hij => ?_
 have hi' : i < d'.size := by simpa using hi
 have hj' : j < d'.size := by simpa using hj
 have := hs i j (Nat.zero_le _) hij (by omega)
 rw [ordF_ltOf,getElem!_pos d' i hi',getElem!_pos d' j hj'] at this
 simpa using this
theorem less_nm (x y : Nm) (W : World) : Calls Tryz.prog 81 #[encNm x,encNm y] W fun e w' => e = .returned (.bool (nless x y)) ∧ ∃ q os',w' = grow (W.drewN q) os' := by
 go_enter Tryz.func81,Tryz.ntmps81
 go_wp2
 all_goals go_ret
 all_goals refine ⟨?_,0,_,by rw [alloc_eq_grow,alloc_eq_grow,grow_grow]; rfl⟩
 all_goals show Ending.returned (Value.bool _) = Ending.returned (Value.bool _)
 all_goals congr 2
 all_goals simp_all [nless]
theorem cell_grow {w : World} {os : Array Obj} {a : Addr} {v : Value} (h : w.cell? a = some v) (hb : a.block < w.heap.size) : (grow w os).cell? a = some v := by
 have e : (grow w os).heap[a.block]? = w.heap[a.block]? := heap_grow_old _ _ hb
 rw [← h]
 simp only [World.cell?,e]
theorem order_nm (x y : Nm) (W : World) : Calls Tryz.prog 95 #[encNm x,encNm y] W fun e w' => e = .returned (.int .i64 (ordF x y)) ∧ ∃ q os',w' = grow (W.drewN q) os' := by
 have h := less_nm x y
 go_enter Tryz.func95,Tryz.ntmps95
 obtain ⟨W1,hW1⟩ : ∃ W1,(W.alloc (.cells #[.int .i64 x.1,.int .i64 x.2] 49)).alloc (.cells #[.int .i64 y.1,.int .i64 y.2] 49) = W1 := ⟨_,rfl⟩
 have b0 : W.heap.size < W1.heap.size := by rw [← hW1]; simp; omega
 have b1 : W.heap.size + 1 < W1.heap.size := by rw [← hW1]; simp
 have c0 : W1.cell? ⟨W.heap.size,0,none⟩ = some (.int .i64 x.1) := by rw [← hW1]; simp [go_sem]
 have c1 : W1.cell? ⟨W.heap.size,1,none⟩ = some (.int .i64 x.2) := by rw [← hW1]; simp [go_sem]
 have c2 : W1.cell? ⟨W.heap.size + 1,0,none⟩ = some (.int .i64 y.1) := by rw [← hW1]; simp [go_sem]
 have c3 : W1.cell? ⟨W.heap.size + 1,1,none⟩ = some (.int .i64 y.2) := by rw [← hW1]; simp [go_sem]
 go_wp2_with (go_at_call 81; rw [hW1])
 refine (h _).mono ?_
 rintro e w' ⟨rfl,hE⟩
 have d0 : w'.cell? ⟨W.heap.size,0,none⟩ = some (.int .i64 x.1) := by obtain ⟨q,os',rfl⟩ := hE; exact cell_grow (w := W1.drewN q) c0 b0
 have d1 : w'.cell? ⟨W.heap.size,1,none⟩ = some (.int .i64 x.2) := by obtain ⟨q,os',rfl⟩ := hE; exact cell_grow (w := W1.drewN q) c1 b0
 have d2 : w'.cell? ⟨W.heap.size + 1,0,none⟩ = some (.int .i64 y.1) := by obtain ⟨q,os',rfl⟩ := hE; exact cell_grow (w := W1.drewN q) c2 b1
 have d3 : w'.cell? ⟨W.heap.size + 1,1,none⟩ = some (.int .i64 y.2) := by obtain ⟨q,os',rfl⟩ := hE; exact cell_grow (w := W1.drewN q) c3 b1
 have hF : ∃ q os',w' = grow (W.drewN q) os' := by
  obtain ⟨q,os',rfl⟩ := hE
  rw [← hW1,alloc_eq_grow,alloc_eq_grow,grow_grow]
  exact ⟨q,_,(grow_grow (W.drewN q) _ os')⟩
 clear hE hW1
 go_wp2
 all_goals go_ret
 all_goals refine ⟨?_,hF⟩
 all_goals show Ending.returned (Value.int .i64 _) = Ending.returned (Value.int .i64 _)
 all_goals congr 2
 all_goals (unfold ordF; simp [*,Prod.ext_iff])
theorem order_lays (blk off size : Nat) (w : World) : CmpLays Tryz.prog 95 #[] nmCells 2 ordF blk off size w :=
 fun _ _ _ _ x y => order_nm x y _
theorem keys_gives_nm (F : Fence) (n : Nat) (h : F.fn 140) (hro : F.round = none) (hn : 1 ≤ n) (Bm b : Nat) (es : Array MapEntry) (clock : Nat) (w : World) (hBm : Bm < w.heap.size)
  (hm : w.cell? ⟨Bm,0,none⟩ = some (.map (some b))) (hb : w.heap[b]? = some (.map es clock)) (hB : Born es clock) (hk : ∀ e ∈ es.toList,∃ v : Int × Int,e.key = encNm v) :
  SeqGives F n Tryz.prog 140 #[.pointer (some ⟨Bm,0,none⟩)] encNm (fun ks => (ks.map encNm).Perm (es.toList.map (·.key))) es.size w := fun l J W hW hJ hY h0 =>
 keys_walk F n h hro hn l Bm b es clock J hY W hJ ((hW.cell (p := ⟨Bm,0,none⟩) hBm).trans hm) ((hW.block b (Array.getElem?_eq_some_iff.1 hb).1).trans hb) hB h0 hk
set_option maxHeartbeats 1000000 in
theorem sorted_nm (Bm b : Nat) (es : Array MapEntry) (clock : Nat) (w : World) (hBm : Bm < w.heap.size)
  (hm : w.cell? ⟨Bm,0,none⟩ = some (.map (some b))) (hb : w.heap[b]? = some (.map es clock)) (hB : Born es clock) (hk : ∀ e ∈ es.toList,∃ v : Int × Int,e.key = encNm v) (hN : es.size ≤ 8796093022208) :
  Calls Tryz.prog 93 #[.func (.func 140) #[] #[.pointer (some ⟨Bm,0,none⟩)],.func (.func 95) #[] #[]] w fun e w' =>
   ∃ (v : Value) (ns : List Nm),e = .returned v ∧ (ns.map encNm).Perm (es.toList.map (·.key)) ∧ w'.ownsRow w.heap.size 49 2 v ns.length ((sortN ns).flatMap nmCells) ∧ (v = .slice none 0 0 ↔ ns = []) ∧ Below w.heap.size w w' := by
 have ek : ∀ args w,(callFunc 140 args).run Tryz.prog w = .ok (.enter 140 args) w := enters_of Tryz.func140 (by kernel_rfl) rfl
 have eo : ∀ args w,(callFunc 95 args).run Tryz.prog w = .ok (.enter 95 args) w := enters_of Tryz.func95 (by kernel_rfl) rfl
 have hseq := SeqGives.bounded (keys_gives_nm Fence.wide 4 trivial rfl (by omega) Bm b es clock w hBm hm hb hB hk)
 have cC := callsIn_wide.1 (collect_nm Fence.wide 6 trivial trivial rfl (by omega) 140 _ trivial ek _ es.size (by unfold maxLen; omega) (by omega) w hseq)
 have u46 := run_underlying (P := Tryz.prog) Tryz.underlying49
 have u54 := run_underlying (P := Tryz.prog) Tryz.underlying23
 go_enter Tryz.func93,Tryz.ntmps93
 go_wp2_with (go_at_call 139; refine cC.mono ?_; rintro e W ⟨v,ss,rfl,⟨hS,hlen⟩,hrow,hnil,hb⟩)
 rcases hrow.2 with ⟨rfl,hz⟩ | ⟨gb,cap,cur,rfl,hbase,hgb,r1,r2,r3,r4⟩
 ·have hss : ss = [] := List.eq_nil_of_length_eq_zero hz
  subst hss
  refine Calls.mono (show Calls Tryz.prog 116 #[.slice none 0 0,.func (.func 95) #[] #[]] W fun e w' => e = .returned (.tuple #[]) ∧ w' = W from AnyF.slices_SortFunc_none sortNm none 0 _ W) ?_
  rintro e w' ⟨rfl,rfl⟩
  go_wp2
  go_ret
  exact ⟨.slice none 0 0,[],rfl,hS,hrow,by simp,hb⟩
 ·have hH : HoldsK nmCells 2 W gb 0 ss.toArray := holds_nm hgb r4
  have hgl : gb < W.heap.size := (Array.getElem?_eq_some_iff.1 hgb).1
  have hsz : ss.toArray.size < 4611686018427387904 := by simp; omega
  have cS := AnyQ.slices_SortFunc sortNm 2 Tryz.isAgg49 Tryz.sizeOf49 nmCells (fun _ => rfl) (fun x v hv => by simp [nmCells] at hv; rcases hv with rfl | rfl <;> rfl) ordF ordF_swo 95 #[] gb 0 cap ss.toArray W eo (order_lays gb 0 _ W) hH hgl hsz
  change Calls Tryz.prog 116 _ _ _ at cS
  rw [List.size_toArray] at cS
  refine cS.mono ?_
  rintro e w' ⟨rfl,d',n,os,hp,hs,rfl⟩
  have hd := sorted_is (d := ss.toArray) (by simpa using hp) (by simpa using hs)
  have hds : d'.size = ss.length := by have := hp.1; simpa using this
  have ho := ownsRow_sortedV (n := n) (os := os) hds hbase hgb r1 r2 r3
  rw [hd] at ho
  have hbel : Below w.heap.size w (sortWorldK nmCells 2 W gb 0 n d' os) := hb.grown (grownBy_sortedV _) hb.size (fun j hj => by cases hj; exact hbase)
  generalize sortWorldK nmCells 2 W gb 0 n d' os = W' at ho hbel
  go_wp2
  go_ret
  exact ⟨_,ss,rfl,hS,ho,hnil,hbel⟩
end Go.Proofs.YtelpjaejmneplaaGreatDoor.Am
namespace Go.Proofs.YtelpjaejmneplaaGreatDoor.Am
open Go Go.Proofs Go.RowKit Go.Maps Go.Sort Go.Shelf
def decNm : Value → Nm
 | .agg a => match a.toList with
  | [Value.int _ x,Value.int _ y] => (x,y)
  | _ => (0,0)
 | _ => (0,0)
theorem natSF_ok {cfg : Cfg} (hc : ∀ f,cfg.conc f = f) : NatOk Tryz.prog cfg 93 (natSF 140 95) := by
 intro args σ v σ' h
 rw [hc]
 refine ⟨⟨_,Tryz.func93,by decide,rfl⟩,?_⟩
 obtain ⟨id,m,ks,ns,rfl,h1,h2,h3,hlen,h4⟩ := natSF_cases h
 intro E κ cargs hσ hR ha r w hw
 subst hσ
 cases ha with
 | cons _ _ _ _ _ a1 a2 =>
 cases a2 with
 | cons _ _ _ _ _ a2 a3 =>
 cases a3
 cases a2 with
 | func _ _ _ _ us us' b1 b2 =>
 cases b1; cases b2
 cases a1 with
 | func _ _ _ _ us us' b1 b2 =>
 cases b1
 cases b2 with
 | cons _ _ _ _ _ b1 b2 =>
 cases b2
 cases b1 with
 | ptr _ _ _ b hp =>
 obtain ⟨⟨_,hpd⟩,rfl⟩ := hp
 obtain ⟨hc1,vs,e,hb1,hvl⟩ := hR.obj id _ h1 hpd
 obtain ⟨cm,rfl,hm⟩ : ∃ cm,vs = #[cm] ∧ κ.V E cfg.conc m cm := by
  obtain ⟨l⟩ := vs
  cases hvl with
  | cons _ _ _ _ _ hv hl => cases hl; exact ⟨_,rfl,hv⟩
 obtain ⟨mb,es,clock,rfl,hmb,hkeys,hB⟩ := keysOf_ok hR hm h2
 have hks := nmsOf_eq h3
 subst hks
 have hke := nms_V hkeys
 have hel : es.size = ns.length := by
  have := congrArg List.length hke
  simpa using this
 obtain ⟨hwh,hwo,hwu⟩ := hw
 have hloc : κ.loc id < w.heap.size := by rw [hwh]; exact hR.hi id (K.live_of h1 hpd)
 have hcell : w.cell? ⟨κ.loc id,0,none⟩ = some (.map (some mb)) := by rw [cellAt_eq,hwh]; simp [cellAt,hb1]
 have con := sorted_nm (κ.loc id) mb es clock w hloc hcell (by rw [hwh]; exact hmb) hB (fun e he => by
  have : e.key ∈ es.toList.map (·.key) := List.mem_map.2 ⟨e,he,rfl⟩
  rw [hke] at this
  obtain ⟨n,_,hn⟩ := List.mem_map.1 this
  exact ⟨n,hn.symm⟩) (by rw [hel]; exact hlen)
 rw [hc,hc]
 refine Calls.mono con ?_
 rintro e w' ⟨v0,ns',rfl,hperm,hrow,hnil,hbel⟩
 simp only
 have hs : κ.h.size ≤ w'.heap.size := by rw [← hwh]; exact hbel.size
 have hh : ∀ b,b < κ.h.size → w'.heap[b]? = κ.h[b]? := fun b hb => by rw [← hwh]; exact hbel.block b (by rw [hwh]; exact hb)
 have hns : ns'.Perm ns := by
  rw [hke] at hperm
  have h := hperm.map decNm
  have e : ∀ l : List Nm,(l.map encNm).map decNm = l := fun l => by
   rw [List.map_map,show decNm ∘ encNm = _root_.id from funext fun a => rfl,List.map_id]
  have e' : (ns.map fun n => (Value.agg #[.int .i64 n.1,.int .i64 n.2])).map decNm = ns := e ns
  rw [e,e'] at h
  exact h
 rcases h4 with ⟨rfl,rfl,rfl⟩ | ⟨hne,rfl,rfl⟩
 ·have e0 : ns' = [] := List.perm_nil.1 hns
  rw [hnil.2 e0]
  exact ⟨κ.more w'.heap,⟨rfl,hbel.os.trans hwo,hbel.output.trans hwu⟩,rfl,K.more_le hR hs hh,K.more_R hR hs hh,.nilslice _⟩
 ·have hso : sortN ns' = sortN ns := up_one (sortN_up _) (sortN_up _) ((sortN_perm _).trans (hns.trans (sortN_perm _).symm))
  have hl' := hns.length_eq
  rcases hrow.2 with ⟨e1,_⟩ | ⟨g,cap,cur,rfl,hg,hgb,c1,c2,c3,c4⟩
  ·have := hnil.1 e1
   subst this
   exact (hne (List.nil_perm.1 hns)).elim
  ·have htake : cur.toList = (sortN ns).flatMap nmCells ++ cur.toList.drop (ns'.length * 2) := by
    rw [← hso,← c4,List.take_append_drop]
   obtain ⟨k1,k2⟩ := farArr_ok (es := (sortN ns).map nmV) hR hs hh (by rw [← hwh]; exact hg) hgb htake (by decide) (nms_elems _) (nms_VL _) (by simp [sortN_len]; omega) c3
   refine ⟨_,⟨rfl,hbel.os.trans hwo,hbel.output.trans hwu⟩,rfl,K.far_le hR hs hh g (by rw [← hwh]; exact hg) _,k1,?_⟩
   rw [hl']
   simpa [sortN_len] using k2
theorem natMC_ok {cfg : Cfg} (hc : ∀ f,cfg.conc f = f) : NatOk Tryz.prog cfg 142 natMC := by
 intro args σ v σ' h
 rw [hc]
 refine ⟨⟨_,Tryz.func142,by decide,rfl⟩,?_⟩
 obtain ⟨m,ks,vs,rfl,h1,rfl,rfl⟩ := natMC_cases h
 intro E κ cargs hσ hR ha r w hw
 subst hσ
 cases ha with
 | cons _ _ _ _ _ a1 a2 =>
 cases a2
 obtain ⟨b,es,clock,rfl,hb,hk,hv,hB⟩ := kvOf_ok hR a1 h1
 obtain ⟨hwh,hwo,hwu⟩ := hw
 refine Calls.mono (AnyW.maps_Clone cloneNm b es clock w (by rw [hwh]; exact hb)) ?_
 rintro e w' ⟨rfl,rfl⟩
 simp only
 refine ⟨κ.new (.map es clock) (.map ks vs),⟨by simp [World.alloc,K.new,hwh],hwo,hwu⟩,by simp [K.new],K.new_le hR _ _,
  K.new_R hR _ _ ⟨es,clock,by simp [K.new],K.VL.le hR.lb (K.new_le hR _ _) hk,K.VL.le hR.lb (K.new_le hR _ _) hv,hB⟩,?_⟩
 rw [hwh]
 exact .map _ _ _ ⟨⟨⟨ks,vs,by simp [K.new]⟩,hR.fresh⟩,by simp [K.new]⟩
theorem rorder_nm (x y : Nm) (W : World) : Calls Tryz.prog 117 #[encNm x,encNm y] W fun e w' => e = .returned (.int .i64 (ordF x y)) ∧ ∃ q os',w' = grow (W.drewN q) os' := by
 have h := less_nm x y
 go_enter Tryz.func117,Tryz.ntmps117
 obtain ⟨W1,hW1⟩ : ∃ W1,(W.alloc (.cells #[.int .i64 x.1,.int .i64 x.2] 49)).alloc (.cells #[.int .i64 y.1,.int .i64 y.2] 49) = W1 := ⟨_,rfl⟩
 have b0 : W.heap.size < W1.heap.size := by rw [← hW1]; simp; omega
 have b1 : W.heap.size + 1 < W1.heap.size := by rw [← hW1]; simp
 have c0 : W1.cell? ⟨W.heap.size,0,none⟩ = some (.int .i64 x.1) := by rw [← hW1]; simp [go_sem]
 have c1 : W1.cell? ⟨W.heap.size,1,none⟩ = some (.int .i64 x.2) := by rw [← hW1]; simp [go_sem]
 have c2 : W1.cell? ⟨W.heap.size + 1,0,none⟩ = some (.int .i64 y.1) := by rw [← hW1]; simp [go_sem]
 have c3 : W1.cell? ⟨W.heap.size + 1,1,none⟩ = some (.int .i64 y.2) := by rw [← hW1]; simp [go_sem]
 go_wp2_with (go_at_call 81; rw [hW1])
 refine (h _).mono ?_
 rintro e w' ⟨rfl,hE⟩
 have d0 : w'.cell? ⟨W.heap.size,0,none⟩ = some (.int .i64 x.1) := by obtain ⟨q,os',rfl⟩ := hE; exact cell_grow (w := W1.drewN q) c0 b0
 have d1 : w'.cell? ⟨W.heap.size,1,none⟩ = some (.int .i64 x.2) := by obtain ⟨q,os',rfl⟩ := hE; exact cell_grow (w := W1.drewN q) c1 b0
 have d2 : w'.cell? ⟨W.heap.size + 1,0,none⟩ = some (.int .i64 y.1) := by obtain ⟨q,os',rfl⟩ := hE; exact cell_grow (w := W1.drewN q) c2 b1
 have d3 : w'.cell? ⟨W.heap.size + 1,1,none⟩ = some (.int .i64 y.2) := by obtain ⟨q,os',rfl⟩ := hE; exact cell_grow (w := W1.drewN q) c3 b1
 have hF : ∃ q os',w' = grow (W.drewN q) os' := by
  obtain ⟨q,os',rfl⟩ := hE
  rw [← hW1,alloc_eq_grow,alloc_eq_grow,grow_grow]
  exact ⟨q,_,(grow_grow (W.drewN q) _ os')⟩
 clear hE hW1
 go_wp2
 all_goals go_ret
 all_goals refine ⟨?_,hF⟩
 all_goals show Ending.returned (Value.int .i64 _) = Ending.returned (Value.int .i64 _)
 all_goals congr 2
 all_goals (unfold ordF; simp [*,Prod.ext_iff])
theorem nms_us {cf : FuncId → FuncId} {h : Array Obj} {S : Nat → Nat → Prop} {I : Ids} : ∀ {ns : List Nm} {us : List Value},VRelL cf h S I ((ns.map nmV).flatMap AVal.cells) us → us = ns.flatMap nmCells
 | [],_,h => by cases h; rfl
 | n :: r,us,h => by
  rw [List.map_cons,List.flatMap_cons] at h
  have e : (nmV n).cells = [.int .i64 n.1,.int .i64 n.2] := rfl
  rw [e] at h
  simp only [List.cons_append,List.nil_append] at h
  cases h with
  | cons _ _ _ _ _ a h =>
  cases a
  cases h with
  | cons _ _ _ _ _ b h =>
  cases b
  rw [nms_us h]; rfl
theorem natSO_ok {cfg : Cfg} (hc : ∀ f,cfg.conc f = f) : NatOk Tryz.prog cfg 116 (natSO 117) := by
 intro args σ v σ' h
 rw [hc]
 refine ⟨⟨_,Tryz.func116,by decide,rfl⟩,?_⟩
 intro E κ cargs hσ hR ha r w hw
 subst hσ
 have eo : ∀ args w,(callFunc 117 args).run Tryz.prog w = .ok (.enter 117 args) w := enters_of Tryz.func117 (by kernel_rfl) rfl
 obtain ⟨hwh,hwo,hwu⟩ := hw
 rcases natSO_cases h with ⟨id,ep,ns,fl,rfl,h1,hpos,hlen,rfl,rfl⟩ | ⟨rfl,rfl,rfl⟩
 ·cases ha with
  | cons _ _ _ _ _ a1 a2 =>
  cases a2 with
  | cons _ _ _ _ _ a2 a3 =>
  cases a3
  cases a2 with
  | func _ _ _ _ us us' b1 b2 =>
  cases b1; cases b2
  cases a1 with
  | slice _ _ _ _ _ _ _ b o cap hp =>
  obtain ⟨⟨hlc,hpd⟩,-,h0,es,epo,fl',hid,hep,hat⟩ := hp
  rw [h1] at hid
  cases hid
  obtain ⟨q1,q2,q3,vs,e,us,rest,hb,hvs,hl⟩ := hR.obj id _ h1 hpd
  obtain ⟨-,hAt,hwhole⟩ := hat q1
  have hone : b = κ.loc id ∧ o = 0 := by
   rcases hAt with ⟨e1,e2 | e2⟩ | ⟨e1,_⟩
   ·exact ⟨e1,by simpa using e2⟩
   ·omega
   ·omega
  obtain ⟨rfl,rfl⟩ := hone
  have hus := nms_us hl
  subst hus
  have hul : (ns.flatMap nmCells).length = ns.length * 2 := by
   have := flat_length q3
   have e : (ns.map nmV).flatMap AVal.cells = ns.flatMap fun n => (nmV n).cells := by rw [List.flatMap_map]
   have h2 := VL_len hl
   rw [this,List.length_map] at h2
   exact h2.symm
  have hwb : w.heap[κ.loc id]? = some (.cells vs e (0,0)) := by rw [hwh]; exact hb
  have htk : vs.toList.take (ns.length * 2) = ns.flatMap nmCells := by rw [hvs,← hul,List.take_left]
  have hH : HoldsK nmCells 2 w (κ.loc id) 0 ns.toArray := holds_nm hwb htk
  have hgl : κ.loc id < w.heap.size := (Array.getElem?_eq_some_iff.1 hwb).1
  have cS := AnyQ.slices_SortFunc sortNm 2 Tryz.isAgg49 Tryz.sizeOf49 nmCells (fun _ => rfl) (fun x v hv => by simp [nmCells] at hv; rcases hv with rfl | rfl <;> rfl) ordF ordF_swo 117 #[] (κ.loc id) 0 cap ns.toArray w eo (fun _ _ _ _ x y => rorder_nm x y _) hH hgl (by simp; omega)
  change Calls Tryz.prog 116 _ _ _ at cS
  rw [List.size_toArray] at cS
  rw [hc]
  refine cS.mono ?_
  rintro e' w' ⟨rfl,d',n,os,hp,hs,rfl⟩
  simp only
  have hd := sorted_is (d := ns.toArray) (by simpa using hp) (by simpa using hs)
  have hds : d'.size = ns.length := by have := hp.1; simpa using this
  have hfs : (flatK nmCells 2 d').size = ns.length * 2 := by rw [size_flatK,hds]
  have hvsz : ns.length * 2 ≤ vs.size := by rw [← Array.length_toList,hvs,List.length_append,hul]; omega
  have hnew := heap_sortedV (n := n) (os := os) (flatK nmCells 2 d') hwb
  have hgb := grownBy_sortedV (w := w) (g := κ.loc id) (n := n) (os := os) (flatK nmCells 2 d')
  have htake := take_putCellsV vs (flatK nmCells 2 d') (by rw [hfs]; exact hvsz)
  rw [hfs,flatK_nm,hd] at htake
  have hpsz : (putCells _root_.id 0 (flatK nmCells 2 d') vs).size = vs.size := by simp [putCells]
  change (sortWorldK nmCells 2 w (κ.loc id) 0 n d' os).heap[κ.loc id]? = _ at hnew
  change w.grownBy (sortWorldK nmCells 2 w (κ.loc id) 0 n d' os) _ at hgb
  generalize sortWorldK nmCells 2 w (κ.loc id) 0 n d' os = w' at hnew hgb
  generalize putCells _root_.id 0 (flatK nmCells 2 d') vs = vs' at hnew htake hpsz
  have hle : κ.Le (κ.upd id (.cells vs' e (0,0)) (.arr 2 ((sortN ns).map nmV) ep ep)) := by
   refine K.upd_le hR id _ _ _ h1 hpd ⟨_,ep,ep,K.upd_σ id _ _ _ h1,Nat.le_refl _,q1,by simp [sortN_len],fun _ => ⟨rfl,by simp [sortN_len],fun vs2 e2 f2 hv2 => ?_⟩,fun _ h => by omega,fun h => by omega⟩
   rw [K.upd_at hR id _ _ _ h1 hpd] at hv2
   cases hv2
   exact ⟨vs,e,(0,0),hb,hpsz⟩
  have hRu := K.upd_R hR id (.cells vs' e (0,0)) (.arr 2 ((sortN ns).map nmV) ep ep) _ h1 hpd hle ⟨Nat.le_refl _,q2,nms_elems _,vs',e,(sortN ns).flatMap nmCells,vs'.toList.drop (ns.length * 2),K.upd_at hR id _ _ _ h1 hpd,by rw [← htake,List.take_append_drop],nms_VL _⟩
  have hsz : (κ.upd id (.cells vs' e (0,0)) (.arr 2 ((sortN ns).map nmV) ep ep)).h.size = w.heap.size := by simp [K.upd,hwh]
  have hs' : (κ.upd id (.cells vs' e (0,0)) (.arr 2 ((sortN ns).map nmV) ep ep)).h.size ≤ w'.heap.size := by rw [hsz]; exact hgb.size
  have hh : ∀ b,b < (κ.upd id (.cells vs' e (0,0)) (.arr 2 ((sortN ns).map nmV) ep ep)).h.size → w'.heap[b]? = (κ.upd id (.cells vs' e (0,0)) (.arr 2 ((sortN ns).map nmV) ep ep)).h[b]? := fun b hb' => by
   rw [hsz] at hb'
   by_cases hbe : b = κ.loc id
   ·subst hbe
    rw [hnew,K.upd_at hR id _ _ _ h1 hpd]
   ·rw [hgb.block b hb' (fun e => hbe (by injection e))]
    simp only [K.upd]
    rw [Array.getElem?_setIfInBounds_ne (fun e => hbe e.symm),hwh]
  exact ⟨(κ.upd id (.cells vs' e (0,0)) (.arr 2 ((sortN ns).map nmV) ep ep)).more w'.heap,⟨rfl,hgb.os.trans hwo,hgb.output.trans hwu⟩,rfl,K.Le.trans hR.lb hle (K.more_le hRu hs' hh),K.more_R hRu hs' hh,.tuple _ [] [] (.nil _)⟩
 ·cases ha with
  | cons _ _ _ _ _ a1 a2 =>
  cases a2 with
  | cons _ _ _ _ _ a2 a3 =>
  cases a3
  cases a2 with
  | func _ _ _ _ us us' b1 b2 =>
  cases b1; cases b2
  cases a1
  rw [hc]
  refine Calls.mono (show Calls Tryz.prog 116 #[.slice none 0 0,.func (.func 117) #[] #[]] w fun e w' => e = .returned (.tuple #[]) ∧ w' = w from AnyF.slices_SortFunc_none sortNm none 0 _ w) ?_
  rintro e w' ⟨rfl,rfl⟩
  exact ⟨κ,⟨hwh,hwo,hwu⟩,rfl,K.Le.refl _,hR,.tuple _ [] [] (.nil _)⟩
end Go.Proofs.YtelpjaejmneplaaGreatDoor.Am
namespace Go.Proofs.YtelpjaejmneplaaGreatDoor.Am.CU
open Go Go.Proofs.YtelpjaejmneplaaGreatDoor.Am
set_option maxHeartbeats 4000000
theorem ok6 : FnOk cfg Tryz.prog 6 a6 := ⟨⟨Tryz.f6,_,Tryz.func6,by decide,rfl,rfl,by kernel_rfl,by kernel_rfl⟩⟩
theorem ok10 : FnOk cfg Tryz.prog 10 a10 := ⟨⟨Tryz.f10,_,Tryz.func10,by decide,rfl,rfl,by kernel_rfl,by kernel_rfl⟩⟩
theorem ok20 : FnOk cfg Tryz.prog 20 a20 := ⟨⟨Tryz.f20,_,Tryz.func20,by decide,rfl,rfl,by kernel_rfl,by kernel_rfl⟩⟩
theorem ok22 : FnOk cfg Tryz.prog 22 a22 := ⟨⟨Tryz.f22,_,Tryz.func22,by decide,rfl,rfl,by kernel_rfl,by kernel_rfl⟩⟩
theorem ok29 : FnOk cfg Tryz.prog 29 a29 := ⟨⟨Tryz.f29,_,Tryz.func29,by decide,rfl,rfl,by kernel_rfl,by kernel_rfl⟩⟩
theorem ok31 : FnOk cfg Tryz.prog 31 a31 := ⟨⟨Tryz.f31,_,Tryz.func31,by decide,rfl,rfl,by kernel_rfl,by kernel_rfl⟩⟩
theorem ok32 : FnOk cfg Tryz.prog 32 a32 := ⟨⟨Tryz.f32,_,Tryz.func32,by decide,rfl,rfl,by kernel_rfl,by kernel_rfl⟩⟩
theorem ok35 : FnOk cfg Tryz.prog 35 a35 := ⟨⟨Tryz.f35,_,Tryz.func35,by decide,rfl,rfl,by kernel_rfl,by kernel_rfl⟩⟩
theorem ok37 : FnOk cfg Tryz.prog 37 a37 := ⟨⟨Tryz.f37,_,Tryz.func37,by decide,rfl,rfl,by kernel_rfl,by kernel_rfl⟩⟩
theorem ok39 : FnOk cfg Tryz.prog 39 a39 := ⟨⟨Tryz.f39,_,Tryz.func39,by decide,rfl,rfl,by kernel_rfl,by kernel_rfl⟩⟩
theorem ok40 : FnOk cfg Tryz.prog 40 a40 := ⟨⟨Tryz.f40,_,Tryz.func40,by decide,rfl,rfl,by kernel_rfl,by kernel_rfl⟩⟩
theorem ok41 : FnOk cfg Tryz.prog 41 a41 := ⟨⟨Tryz.f41,_,Tryz.func41,by decide,rfl,rfl,by kernel_rfl,by kernel_rfl⟩⟩
theorem ok42 : FnOk cfg Tryz.prog 42 a42 := ⟨⟨Tryz.f42,_,Tryz.func42,by decide,rfl,rfl,by kernel_rfl,by kernel_rfl⟩⟩
theorem ok43 : FnOk cfg Tryz.prog 43 a43 := ⟨⟨Tryz.f43,_,Tryz.func43,by decide,rfl,rfl,by kernel_rfl,by kernel_rfl⟩⟩
theorem ok44 : FnOk cfg Tryz.prog 44 a44 := ⟨⟨Tryz.f44,_,Tryz.func44,by decide,rfl,rfl,by kernel_rfl,by kernel_rfl⟩⟩
theorem ok45 : FnOk cfg Tryz.prog 45 a45 := ⟨⟨Tryz.f45,_,Tryz.func45,by decide,rfl,rfl,by kernel_rfl,by kernel_rfl⟩⟩
theorem ok46 : FnOk cfg Tryz.prog 46 a46 := ⟨⟨Tryz.f46,_,Tryz.func46,by decide,rfl,rfl,by kernel_rfl,by kernel_rfl⟩⟩
theorem ok50 : FnOk cfg Tryz.prog 50 a50 := ⟨⟨Tryz.f50,_,Tryz.func50,by decide,rfl,rfl,by kernel_rfl,by kernel_rfl⟩⟩
theorem ok54 : FnOk cfg Tryz.prog 54 a54 := ⟨⟨Tryz.f54,_,Tryz.func54,by decide,rfl,rfl,by kernel_rfl,by kernel_rfl⟩⟩
theorem ok55 : FnOk cfg Tryz.prog 55 a55 := ⟨⟨Tryz.f55,_,Tryz.func55,by decide,rfl,rfl,by kernel_rfl,by kernel_rfl⟩⟩
theorem ok56 : FnOk cfg Tryz.prog 56 a56 := ⟨⟨Tryz.f56,_,Tryz.func56,by decide,rfl,rfl,by kernel_rfl,by kernel_rfl⟩⟩
theorem ok57 : FnOk cfg Tryz.prog 57 a57 := ⟨⟨Tryz.f57,_,Tryz.func57,by decide,rfl,rfl,by kernel_rfl,by kernel_rfl⟩⟩
theorem ok58 : FnOk cfg Tryz.prog 58 a58 := ⟨⟨Tryz.f58,_,Tryz.func58,by decide,rfl,rfl,by kernel_rfl,by kernel_rfl⟩⟩
theorem ok59 : FnOk cfg Tryz.prog 59 a59 := ⟨⟨Tryz.f59,_,Tryz.func59,by decide,rfl,rfl,by kernel_rfl,by kernel_rfl⟩⟩
theorem ok67 : FnOk cfg Tryz.prog 67 a67 := ⟨⟨Tryz.f67,_,Tryz.func67,by decide,rfl,rfl,by kernel_rfl,by kernel_rfl⟩⟩
theorem ok68 : FnOk cfg Tryz.prog 68 a68 := ⟨⟨Tryz.f68,_,Tryz.func68,by decide,rfl,rfl,by kernel_rfl,by kernel_rfl⟩⟩
theorem ok69 : FnOk cfg Tryz.prog 69 a69 := ⟨⟨Tryz.f69,_,Tryz.func69,by decide,rfl,rfl,by kernel_rfl,by kernel_rfl⟩⟩
theorem ok70 : FnOk cfg Tryz.prog 70 a70 := ⟨⟨Tryz.f70,_,Tryz.func70,by decide,rfl,rfl,by kernel_rfl,by kernel_rfl⟩⟩
theorem ok71 : FnOk cfg Tryz.prog 71 a71 := ⟨⟨Tryz.f71,_,Tryz.func71,by decide,rfl,rfl,by kernel_rfl,by kernel_rfl⟩⟩
theorem ok72 : FnOk cfg Tryz.prog 72 a72 := ⟨⟨Tryz.f72,_,Tryz.func72,by decide,rfl,rfl,by kernel_rfl,by kernel_rfl⟩⟩
theorem ok79 : FnOk cfg Tryz.prog 79 a79 := ⟨⟨Tryz.f79,_,Tryz.func79,by decide,rfl,rfl,by kernel_rfl,by kernel_rfl⟩⟩
theorem ok80 : FnOk cfg Tryz.prog 80 a80 := ⟨⟨Tryz.f80,_,Tryz.func80,by decide,rfl,rfl,by kernel_rfl,by kernel_rfl⟩⟩
theorem ok81 : FnOk cfg Tryz.prog 81 a81 := ⟨⟨Tryz.f81,_,Tryz.func81,by decide,rfl,rfl,by kernel_rfl,by kernel_rfl⟩⟩
theorem ok82 : FnOk cfg Tryz.prog 82 a82 := ⟨⟨Tryz.f82,_,Tryz.func82,by decide,rfl,rfl,by kernel_rfl,by kernel_rfl⟩⟩
theorem ok83 : FnOk cfg Tryz.prog 83 a83 := ⟨⟨Tryz.f83,_,Tryz.func83,by decide,rfl,rfl,by kernel_rfl,by kernel_rfl⟩⟩
theorem ok84 : FnOk cfg Tryz.prog 84 a84 := ⟨⟨Tryz.f84,_,Tryz.func84,by decide,rfl,rfl,by kernel_rfl,by kernel_rfl⟩⟩
theorem ok85 : FnOk cfg Tryz.prog 85 a85 := ⟨⟨Tryz.f85,_,Tryz.func85,by decide,rfl,rfl,by kernel_rfl,by kernel_rfl⟩⟩
theorem ok86 : FnOk cfg Tryz.prog 86 a86 := ⟨⟨Tryz.f86,_,Tryz.func86,by decide,rfl,rfl,by kernel_rfl,by kernel_rfl⟩⟩
theorem ok87 : FnOk cfg Tryz.prog 87 a87 := ⟨⟨Tryz.f87,_,Tryz.func87,by decide,rfl,rfl,by kernel_rfl,by kernel_rfl⟩⟩
theorem ok88 : FnOk cfg Tryz.prog 88 a88 := ⟨⟨Tryz.f88,_,Tryz.func88,by decide,rfl,rfl,by kernel_rfl,by kernel_rfl⟩⟩
theorem ok89 : FnOk cfg Tryz.prog 89 a89 := ⟨⟨Tryz.f89,_,Tryz.func89,by decide,rfl,rfl,by kernel_rfl,by kernel_rfl⟩⟩
theorem ok90 : FnOk cfg Tryz.prog 90 a90 := ⟨⟨Tryz.f90,_,Tryz.func90,by decide,rfl,rfl,by kernel_rfl,by kernel_rfl⟩⟩
theorem ok91 : FnOk cfg Tryz.prog 91 a91 := ⟨⟨Tryz.f91,_,Tryz.func91,by decide,rfl,rfl,by kernel_rfl,by kernel_rfl⟩⟩
theorem ok92 : FnOk cfg Tryz.prog 92 a92 := ⟨⟨Tryz.f92,_,Tryz.func92,by decide,rfl,rfl,by kernel_rfl,by kernel_rfl⟩⟩
theorem ok94 : FnOk cfg Tryz.prog 94 a94 := ⟨⟨Tryz.f94,_,Tryz.func94,by decide,rfl,rfl,by kernel_rfl,by kernel_rfl⟩⟩
theorem ok95 : FnOk cfg Tryz.prog 95 a95 := ⟨⟨Tryz.f95,_,Tryz.func95,by decide,rfl,rfl,by kernel_rfl,by kernel_rfl⟩⟩
theorem ok96 : FnOk cfg Tryz.prog 96 a96 := ⟨⟨Tryz.f96,_,Tryz.func96,by decide,rfl,rfl,by kernel_rfl,by kernel_rfl⟩⟩
theorem ok97 : FnOk cfg Tryz.prog 97 a97 := ⟨⟨Tryz.f97,_,Tryz.func97,by decide,rfl,rfl,by kernel_rfl,by kernel_rfl⟩⟩
theorem ok98 : FnOk cfg Tryz.prog 98 a98 := ⟨⟨Tryz.f98,_,Tryz.func98,by decide,rfl,rfl,by kernel_rfl,by kernel_rfl⟩⟩
theorem ok99 : FnOk cfg Tryz.prog 99 a99 := ⟨⟨Tryz.f99,_,Tryz.func99,by decide,rfl,rfl,by kernel_rfl,by kernel_rfl⟩⟩
theorem ok100 : FnOk cfg Tryz.prog 100 a100 := ⟨⟨Tryz.f100,_,Tryz.func100,by decide,rfl,rfl,by kernel_rfl,by kernel_rfl⟩⟩
theorem ok101 : FnOk cfg Tryz.prog 101 a101 := ⟨⟨Tryz.f101,_,Tryz.func101,by decide,rfl,rfl,by kernel_rfl,by kernel_rfl⟩⟩
theorem ok112 : FnOk cfg Tryz.prog 112 a112 := ⟨⟨Tryz.f112,_,Tryz.func112,by decide,rfl,rfl,by kernel_rfl,by kernel_rfl⟩⟩
theorem ok113 : FnOk cfg Tryz.prog 113 a113 := ⟨⟨Tryz.f113,_,Tryz.func113,by decide,rfl,rfl,by kernel_rfl,by kernel_rfl⟩⟩
theorem ok114 : FnOk cfg Tryz.prog 114 a114 := ⟨⟨Tryz.f114,_,Tryz.func114,by decide,rfl,rfl,by kernel_rfl,by kernel_rfl⟩⟩
theorem ok119 : FnOk cfg Tryz.prog 119 a119 := ⟨⟨Tryz.f119,_,Tryz.func119,by decide,rfl,rfl,by kernel_rfl,by kernel_rfl⟩⟩
theorem ok121 : FnOk cfg Tryz.prog 121 a121 := ⟨⟨Tryz.f121,_,Tryz.func121,by decide,rfl,rfl,by kernel_rfl,by kernel_rfl⟩⟩
theorem ok125 : FnOk cfg Tryz.prog 125 a125 := ⟨⟨Tryz.f125,_,Tryz.func125,by decide,rfl,rfl,by kernel_rfl,by kernel_rfl⟩⟩
theorem ok126 : FnOk cfg Tryz.prog 126 a126 := ⟨⟨Tryz.f126,_,Tryz.func126,by decide,rfl,rfl,by kernel_rfl,by kernel_rfl⟩⟩
theorem ok127 : FnOk cfg Tryz.prog 127 a127 := ⟨⟨Tryz.f127,_,Tryz.func127,by decide,rfl,rfl,by kernel_rfl,by kernel_rfl⟩⟩
theorem ok128 : FnOk cfg Tryz.prog 128 a128 := ⟨⟨Tryz.f128,_,Tryz.func128,by decide,rfl,rfl,by kernel_rfl,by kernel_rfl⟩⟩
theorem ok129 : FnOk cfg Tryz.prog 129 a129 := ⟨⟨Tryz.f129,_,Tryz.func129,by decide,rfl,rfl,by kernel_rfl,by kernel_rfl⟩⟩
theorem ok130 : FnOk cfg Tryz.prog 130 a130 := ⟨⟨Tryz.f130,_,Tryz.func130,by decide,rfl,rfl,by kernel_rfl,by kernel_rfl⟩⟩
theorem ok131 : FnOk cfg Tryz.prog 131 a131 := ⟨⟨Tryz.f131,_,Tryz.func131,by decide,rfl,rfl,by kernel_rfl,by kernel_rfl⟩⟩
theorem ok132 : FnOk cfg Tryz.prog 132 a132 := ⟨⟨Tryz.f132,_,Tryz.func132,by decide,rfl,rfl,by kernel_rfl,by kernel_rfl⟩⟩
theorem ok133 : FnOk cfg Tryz.prog 133 a133 := ⟨⟨Tryz.f133,_,Tryz.func133,by decide,rfl,rfl,by kernel_rfl,by kernel_rfl⟩⟩
theorem ok134 : FnOk cfg Tryz.prog 134 a134 := ⟨⟨Tryz.f134,_,Tryz.func134,by decide,rfl,rfl,by kernel_rfl,by kernel_rfl⟩⟩
theorem ok135 : FnOk cfg Tryz.prog 135 a135 := ⟨⟨Tryz.f135,_,Tryz.func135,by decide,rfl,rfl,by kernel_rfl,by kernel_rfl⟩⟩
theorem ok136 : FnOk cfg Tryz.prog 136 a136 := ⟨⟨Tryz.f136,_,Tryz.func136,by decide,rfl,rfl,by kernel_rfl,by kernel_rfl⟩⟩
theorem ok137 : FnOk cfg Tryz.prog 137 a137 := ⟨⟨Tryz.f137,_,Tryz.func137,by decide,rfl,rfl,by kernel_rfl,by kernel_rfl⟩⟩
theorem ok138 : FnOk cfg Tryz.prog 138 a138 := ⟨⟨Tryz.f138,_,Tryz.func138,by decide,rfl,rfl,by kernel_rfl,by kernel_rfl⟩⟩
theorem ok140 : FnOk cfg Tryz.prog 140 a140 := ⟨⟨Tryz.f140,_,Tryz.func140,by decide,rfl,rfl,by kernel_rfl,by kernel_rfl⟩⟩
theorem ok141 : FnOk cfg Tryz.prog 141 a141 := ⟨⟨Tryz.f141,_,Tryz.func141,by decide,rfl,rfl,by kernel_rfl,by kernel_rfl⟩⟩
theorem ok143 : FnOk cfg Tryz.prog 143 a143 := ⟨⟨Tryz.f143,_,Tryz.func143,by decide,rfl,rfl,by kernel_rfl,by kernel_rfl⟩⟩
theorem ok144 : FnOk cfg Tryz.prog 144 a144 := ⟨⟨Tryz.f144,_,Tryz.func144,by decide,rfl,rfl,by kernel_rfl,by kernel_rfl⟩⟩
theorem ok155 : FnOk cfg Tryz.prog 155 a155 := ⟨⟨Tryz.f155,_,Tryz.func155,by decide,rfl,rfl,by kernel_rfl,by kernel_rfl⟩⟩
theorem ok156 : FnOk cfg Tryz.prog 156 a156 := ⟨⟨Tryz.f156,_,Tryz.func156,by decide,rfl,rfl,by kernel_rfl,by kernel_rfl⟩⟩
theorem ok159 : FnOk cfg Tryz.prog 159 a159 := ⟨⟨Tryz.f159,_,Tryz.func159,by decide,rfl,rfl,by kernel_rfl,by kernel_rfl⟩⟩
theorem ok160 : FnOk cfg Tryz.prog 160 a160 := ⟨⟨Tryz.f160,_,Tryz.func160,by decide,rfl,rfl,by kernel_rfl,by kernel_rfl⟩⟩
theorem ok161 : FnOk cfg Tryz.prog 161 a161 := ⟨⟨Tryz.f161,_,Tryz.func161,by decide,rfl,rfl,by kernel_rfl,by kernel_rfl⟩⟩
theorem ok162 : FnOk cfg Tryz.prog 162 a162 := ⟨⟨Tryz.f162,_,Tryz.func162,by decide,rfl,rfl,by kernel_rfl,by kernel_rfl⟩⟩
theorem ok163 : FnOk cfg Tryz.prog 163 a163 := ⟨⟨Tryz.f163,_,Tryz.func163,by decide,rfl,rfl,by kernel_rfl,by kernel_rfl⟩⟩
theorem ok164 : FnOk cfg Tryz.prog 164 a164 := ⟨⟨Tryz.f164,_,Tryz.func164,by decide,rfl,rfl,by kernel_rfl,by kernel_rfl⟩⟩
theorem ok165 : FnOk cfg Tryz.prog 165 a165 := ⟨⟨Tryz.f165,_,Tryz.func165,by decide,rfl,rfl,by kernel_rfl,by kernel_rfl⟩⟩
theorem ok166 : FnOk cfg Tryz.prog 166 a166 := ⟨⟨Tryz.f166,_,Tryz.func166,by decide,rfl,rfl,by kernel_rfl,by kernel_rfl⟩⟩
theorem ok167 : FnOk cfg Tryz.prog 167 a167 := ⟨⟨Tryz.f167,_,Tryz.func167,by decide,rfl,rfl,by kernel_rfl,by kernel_rfl⟩⟩
theorem ok168 : FnOk cfg Tryz.prog 168 a168 := ⟨⟨Tryz.f168,_,Tryz.func168,by decide,rfl,rfl,by kernel_rfl,by kernel_rfl⟩⟩
theorem ok169 : FnOk cfg Tryz.prog 169 a169 := ⟨⟨Tryz.f169,_,Tryz.func169,by decide,rfl,rfl,by kernel_rfl,by kernel_rfl⟩⟩
theorem ok170 : FnOk cfg Tryz.prog 170 a170 := ⟨⟨Tryz.f170,_,Tryz.func170,by decide,rfl,rfl,by kernel_rfl,by kernel_rfl⟩⟩
theorem ok171 : FnOk cfg Tryz.prog 171 a171 := ⟨⟨Tryz.f171,_,Tryz.func171,by decide,rfl,rfl,by kernel_rfl,by kernel_rfl⟩⟩
theorem ok172 : FnOk cfg Tryz.prog 172 a172 := ⟨⟨Tryz.f172,_,Tryz.func172,by decide,rfl,rfl,by kernel_rfl,by kernel_rfl⟩⟩
theorem ok173 : FnOk cfg Tryz.prog 173 a173 := ⟨⟨Tryz.f173,_,Tryz.func173,by decide,rfl,rfl,by kernel_rfl,by kernel_rfl⟩⟩
theorem ok174 : FnOk cfg Tryz.prog 174 a174 := ⟨⟨Tryz.f174,_,Tryz.func174,by decide,rfl,rfl,by kernel_rfl,by kernel_rfl⟩⟩
theorem ok175 : FnOk cfg Tryz.prog 175 a175 := ⟨⟨Tryz.f175,_,Tryz.func175,by decide,rfl,rfl,by kernel_rfl,by kernel_rfl⟩⟩
theorem ok197 : FnOk cfg Tryz.prog 197 a197 := ⟨⟨Tryz.f197,_,Tryz.func197,by decide,rfl,rfl,by kernel_rfl,by kernel_rfl⟩⟩
theorem orF_cases {a b : Option AFunc} {x : AFunc} (h : orF a b = some x) : a = some x ∨ b = some x := by
 unfold orF at h
 split at h
 ·exact .inl h
 ·exact .inr h
theorem fns0 (f : FuncId) (fn : AFunc) (h : ir0 f = some fn) : FnOk cfg Tryz.prog f fn := by
 unfold ir0 at h
 split at h
 ·injection h with h; subst h; exact ok6
 ·injection h with h; subst h; exact ok10
 ·injection h with h; subst h; exact ok20
 ·injection h with h; subst h; exact ok22
 ·injection h with h; subst h; exact ok29
 ·injection h with h; subst h; exact ok31
 ·injection h with h; subst h; exact ok32
 ·injection h with h; subst h; exact ok35
 ·injection h with h; subst h; exact ok37
 ·injection h with h; subst h; exact ok39
 ·injection h with h; subst h; exact ok40
 ·injection h with h; subst h; exact ok41
 ·injection h with h; subst h; exact ok42
 ·injection h with h; subst h; exact ok43
 ·injection h with h; subst h; exact ok44
 ·injection h with h; subst h; exact ok45
 ·injection h with h; subst h; exact ok46
 ·injection h with h; subst h; exact ok50
 ·injection h with h; subst h; exact ok54
 ·injection h with h; subst h; exact ok55
 ·injection h with h; subst h; exact ok56
 ·injection h with h; subst h; exact ok57
 ·injection h with h; subst h; exact ok58
 ·injection h with h; subst h; exact ok59
 ·injection h with h; subst h; exact ok67
 ·injection h with h; subst h; exact ok68
 ·injection h with h; subst h; exact ok69
 ·injection h with h; subst h; exact ok70
 ·injection h with h; subst h; exact ok71
 ·injection h with h; subst h; exact ok72
 ·injection h with h; subst h; exact ok79
 ·injection h with h; subst h; exact ok80
 ·injection h with h; subst h; exact ok81
 ·injection h with h; subst h; exact ok82
 ·injection h with h; subst h; exact ok83
 ·injection h with h; subst h; exact ok84
 ·injection h with h; subst h; exact ok85
 ·injection h with h; subst h; exact ok86
 ·injection h with h; subst h; exact ok87
 ·injection h with h; subst h; exact ok88
 ·cases h
theorem fns1 (f : FuncId) (fn : AFunc) (h : ir1 f = some fn) : FnOk cfg Tryz.prog f fn := by
 unfold ir1 at h
 split at h
 ·injection h with h; subst h; exact ok89
 ·injection h with h; subst h; exact ok90
 ·injection h with h; subst h; exact ok91
 ·injection h with h; subst h; exact ok92
 ·injection h with h; subst h; exact ok94
 ·injection h with h; subst h; exact ok95
 ·injection h with h; subst h; exact ok96
 ·injection h with h; subst h; exact ok97
 ·injection h with h; subst h; exact ok98
 ·injection h with h; subst h; exact ok99
 ·injection h with h; subst h; exact ok100
 ·injection h with h; subst h; exact ok101
 ·injection h with h; subst h; exact ok112
 ·injection h with h; subst h; exact ok113
 ·injection h with h; subst h; exact ok114
 ·injection h with h; subst h; exact ok119
 ·injection h with h; subst h; exact ok121
 ·injection h with h; subst h; exact ok125
 ·injection h with h; subst h; exact ok126
 ·injection h with h; subst h; exact ok127
 ·injection h with h; subst h; exact ok128
 ·injection h with h; subst h; exact ok129
 ·injection h with h; subst h; exact ok130
 ·injection h with h; subst h; exact ok131
 ·injection h with h; subst h; exact ok132
 ·injection h with h; subst h; exact ok133
 ·injection h with h; subst h; exact ok134
 ·injection h with h; subst h; exact ok135
 ·injection h with h; subst h; exact ok136
 ·injection h with h; subst h; exact ok137
 ·injection h with h; subst h; exact ok138
 ·injection h with h; subst h; exact ok140
 ·injection h with h; subst h; exact ok141
 ·injection h with h; subst h; exact ok143
 ·injection h with h; subst h; exact ok144
 ·injection h with h; subst h; exact ok155
 ·injection h with h; subst h; exact ok156
 ·injection h with h; subst h; exact ok159
 ·injection h with h; subst h; exact ok160
 ·injection h with h; subst h; exact ok161
 ·cases h
theorem fns2 (f : FuncId) (fn : AFunc) (h : ir2 f = some fn) : FnOk cfg Tryz.prog f fn := by
 unfold ir2 at h
 split at h
 ·injection h with h; subst h; exact ok162
 ·injection h with h; subst h; exact ok163
 ·injection h with h; subst h; exact ok164
 ·injection h with h; subst h; exact ok165
 ·injection h with h; subst h; exact ok166
 ·injection h with h; subst h; exact ok167
 ·injection h with h; subst h; exact ok168
 ·injection h with h; subst h; exact ok169
 ·injection h with h; subst h; exact ok170
 ·injection h with h; subst h; exact ok171
 ·injection h with h; subst h; exact ok172
 ·injection h with h; subst h; exact ok173
 ·injection h with h; subst h; exact ok174
 ·injection h with h; subst h; exact ok175
 ·injection h with h; subst h; exact ok197
 ·cases h
theorem fns : ∀ f fn,cfg.ir f = some fn → FnOk cfg Tryz.prog f fn := by
 intro f fn h
 rcases orF_cases h with h | h
 ·exact fns0 f fn h
 rcases orF_cases h with h | h
 ·exact fns1 f fn h
 exact fns2 f fn h
theorem all : CfgOk Tryz.prog cfg := ⟨fns,by
 intro f g h
 simp only [cfg] at h
 split at h
 ·injection h with h; subst h; exact natSF_ok fun _ => rfl
 ·injection h with h; subst h; exact natMC_ok fun _ => rfl
 ·injection h with h; subst h; exact natSO_ok fun _ => rfl
 ·cases h⟩
end Go.Proofs.YtelpjaejmneplaaGreatDoor.Am.CU
namespace Go.Proofs.YtelpjaejmneplaaGreatDoor.Am
open Go
theorem argsFrom_mem : ∀ {L f : Nat} {r : List Cel} {a : Nat} {x : List Cel},x ∈ argsFrom L f r a → ∀ c ∈ x,c ∈ r
 | L,0,r,a,x,h,c,hc => by simp [argsFrom] at h
 | L,f + 1,r,a,x,h,c,hc => by
  simp only [argsFrom] at h
  split at h
  ·cases h
  ·rcases List.mem_cons.1 h with rfl | h
   ·exact List.mem_of_mem_take hc
   ·exact List.mem_of_mem_drop (argsFrom_mem h c hc)
theorem args_mem {t x : List Cel} (h : x ∈ args t) : ∀ c ∈ x,c ∈ t := by
 unfold args at h
 split at h
 ·exact fun c hc => List.mem_of_mem_drop (argsFrom_mem h c hc)
 ·cases h
theorem endAt_ge {L : Nat} : ∀ {r : List Cel} {o a n : Nat},endAt L r o a = n → n ≠ 0 → o ≤ n - a
 | r,0,a,n,h,hn => Nat.zero_le _
 | [],o + 1,a,n,h,hn => by rw [endAt_nil] at h; exact absurd h.symm hn
 | c :: r,o + 1,a,n,h,hn => by
  rw [endAt_cons] at h
  split at h
  ·exact absurd h.symm hn
  ·have h1 := endAt_ge h hn
   have h2 := (endAt_le h hn).1
   omega
theorem endAt_loc {L L' : Nat} : ∀ {r : List Cel} {o a n : Nat},endAt L r o a = n → n ≠ 0 → n - a ≤ L' → ∀ b,endAt L' (r.take (n - a)) o b = n - a + b
 | r,0,a,n,h,hn,hL,b => by rw [endAt_zero] at h; subst h; rw [endAt_zero]; omega
 | [],o + 1,a,n,h,hn,hL,b => by rw [endAt_nil] at h; exact absurd h.symm hn
 | c :: r,o + 1,a,n,h,hn,hL,b => by
  rw [endAt_cons] at h
  split at h
  ·exact absurd h.symm hn
  ·have h1 := endAt_ge h hn
   have h2 := (endAt_le h hn).1
   have e : n - a = n - (a + 1) + 1 := by omega
   rw [e,List.take_succ_cons,endAt_cons,if_neg (by omega),endAt_loc h hn (by omega) (b + 1)]
   omega
theorem argsFrom_right {L : Nat} (hL : L ≤ 256) : ∀ {q f : Nat} {r : List Cel} {a : Nat},0 < a → endAt L r q a = a + r.length → r.length ≤ f → a + r.length ≤ L → (∀ c ∈ r,c.ok = true) → ∀ x ∈ argsFrom L f r a,right x = true
 | 0,f,r,a,ha,h,hf,hr,hc,x,hx => by
  rw [endAt_zero] at h
  have : r = [] := List.eq_nil_of_length_eq_zero (by omega)
  subst this
  cases f <;> simp [argsFrom] at hx
 | q + 1,f,r,a,ha,h,hf,hr,hc,x,hx => by
  have hne : r ≠ [] := by
   intro e; subst e
   rw [endAt_nil] at h; simp at h; omega
  have hpos : 0 < r.length := List.length_pos_iff.2 hne
  cases f with
  | zero => omega
  | succ f =>
   rw [show q + 1 = 1 + q by omega] at h
   obtain ⟨g1,g2⟩ := endAt_add h (by omega) (by omega)
   obtain ⟨e1,e2,e3⟩ := endAt_le (rfl : endAt L r 1 a = _) g1
   have e4 := e3 (by omega)
   simp only [argsFrom,if_neg hne,List.mem_cons] at hx
   rcases hx with rfl | hx
   ·have hl : (r.take (endAt L r 1 a - a)).length = endAt L r 1 a - a := by rw [List.length_take]; omega
    have h3 := endAt_loc (L' := endAt L r 1 a - a) rfl g1 (Nat.le_refl _) 0
    simp only [right,Bool.and_eq_true,decide_eq_true_eq,List.all_eq_true]
    refine ⟨⟨⟨by omega,by omega⟩,?_⟩,fun c h => hc c (List.mem_of_mem_take h)⟩
    rw [hl,h3]; omega
   ·exact argsFrom_right hL (by omega) (by rw [g2,List.length_drop]; omega) (by rw [List.length_drop]; omega) (by rw [List.length_drop]; omega) (fun c h => hc c (List.mem_of_mem_drop h)) x hx
theorem args_rights {t x : List Cel} (h : x ∈ args t) : right x = true := by
 have h' := h
 unfold args at h
 split at h
 ·rename_i hc
  simp only [Bool.and_eq_true] at hc
  have hr := hc.1
  cases t with
  | nil => simp [right] at hr
  | cons c r =>
   obtain ⟨h1,h2,h3⟩ := right_cons hr
   exact argsFrom_right (L := (c :: r).length) (right_len hr).2 (q := c.parts) (by omega) h1 (by simp) (by simp; omega) (fun c hc => right_ok_mem hr (List.mem_cons_of_mem _ hc)) x h
 ·cases h
theorem args_glob {t x : List Cel} (ht : glob t = true) (h : x ∈ args t) : glob x = true := by
 simp only [glob,Bool.and_eq_true,List.all_eq_true] at ht ⊢
 exact ⟨args_rights h,fun c hc => ht.2 c (args_mem h c hc)⟩
theorem args_same {p t : List Cel} (hp : right p = true) (ht : right t = true) (h : p.headD default = t.headD default) : (args p).length = (args t).length := by
 by_cases hk : (t.headD default).k = 3
 ·rw [args_len hp (by rw [h]; exact hk),args_len ht hk,h]
 ·rw [args,if_neg (by rw [h,decide_eq_false hk]; simp),args,if_neg (by rw [decide_eq_false hk]; simp)]
structure TSt where
 ls : List (List Cel)
 ws : List Nm
def foldO {S α : Type} (f : S → α → α → Option S) : S → List α → List α → Option S
 | s,[],_ => some s
 | s,_ :: _,[] => some s
 | s,a :: azs,b :: bs => (f s a b).bind fun s' => foldO f s' azs bs
theorem foldO_step {S α : Type} {f : S → α → α → Option S} {s : S} {azs bs : List α} {k : Nat} (ha : k < azs.length) (hb : k < bs.length) : foldO f s (azs.drop k) (bs.drop k) = (f s azs[k] bs[k]).bind fun s' => foldO f s' (azs.drop (k + 1)) (bs.drop (k + 1)) := by
 rw [List.drop_eq_getElem_cons ha,List.drop_eq_getElem_cons hb,foldO]
theorem flat_step {azs : List (List Cel)} {k : Nat} (h : k < azs.length) : (azs.take (k + 1)).flatten.length = (azs.take k).flatten.length + (azs[k]).length := by
 rw [List.take_succ_eq_append_getElem h,List.flatten_append,List.length_append]; simp only [List.flatten_cons,List.flatten_nil,List.append_nil]
structure TryR where
 k : Nat
 ls : List (List Cel)
 ws : List Nm
end Go.Proofs.YtelpjaejmneplaaGreatDoor.Am
namespace Go.Proofs.YtelpjaejmneplaaGreatDoor.Am
open Go
theorem bindH_keeps {H : Hp} {v w : Nm} {t u : List Cel} (h : lk H v = some t) : lk (bindH H w u) v = some t := by
 unfold bindH
 split
 ·rename_i e
  have hn := (bindE_zero e).2
  rw [lk_app H w u v hn]
  split
  ·rename_i e; subst e; rw [hn] at h; cases h
  ·exact h
 ·exact h
theorem bindsH_keeps : ∀ (bs : Hp) {H : Hp} {v : Nm} {t : List Cel},lk H v = some t → lk (bindsH H bs) v = some t
 | [],_,_,_,h => h
 | p :: bs,_,_,_,h => bindsH_keeps bs (bindH_keeps h)
theorem WF.short {H : Hp} (hw : WF H) {p : Nm × List Cel} (hp : p ∈ H) : p.2.length ≤ 256 := (right_len (glob_right (hw.ok _ hp).2.2.1)).2
inductive Repl : List Cel → List Cel → Prop
 | nil : Repl [] []
 | keep (c : Cel) {t r : List Cel} : c.ok = true → Repl t r → Repl (c :: t) (c :: r)
 | put (c : Cel) (w : List Cel) {t r : List Cel} : c.parts = 0 → right w = true → Repl t r → Repl (c :: t) (w ++ r)
theorem Repl.len {t r : List Cel} (h : Repl t r) : t.length ≤ r.length := by
 induction h with
 | nil => exact Nat.le_refl _
 | keep c _ _ ih => simp; omega
 | put c w _ hw _ ih => have := (right_len hw).1; simp; omega
theorem Repl.oks {t r : List Cel} (h : Repl t r) : ∀ c ∈ r,c.ok = true := by
 induction h with
 | nil => simp
 | keep c hc _ ih => 
  intro x hx
  rcases List.mem_cons.1 hx with rfl | hx
  ·exact hc
  ·exact ih x hx
 | put c w _ hw _ ih => 
  intro x hx
  rcases List.mem_append.1 hx with hx | hx
  ·exact right_ok_mem hw hx
  ·exact ih x hx
theorem Repl.ends {L L' : Nat} (hL : L ≤ L') {t r : List Cel} (h : Repl t r) (hl : r.length ≤ L') : ∀ {q a b : Nat},endAt L t q a = a + t.length → 0 < a + t.length → endAt L' r q b = b + r.length := by
 induction h with
 | nil =>
  intro q a b h h0
  cases q with
  | zero => rw [endAt_zero]; rfl
  | succ q => rw [endAt_nil] at h; simp at h h0; omega
 | keep c hc hr ih =>
  intro q a b h h0
  cases q with
  | zero => rw [endAt_zero] at h; simp at h
  | succ q =>
   rw [endAt_cons] at h
   simp only [List.length_cons] at h hl ⊢
   split at h
   ·omega
   ·rename_i hp
    rw [endAt_cons,if_neg (by omega),ih (by omega) (a := a + 1) (b := b + 1) (by omega) (by omega)]
    omega
 | put c w hp hw hr ih =>
  intro q a b h h0
  cases q with
  | zero => rw [endAt_zero] at h; simp at h
  | succ q =>
   rw [endAt_cons] at h
   simp only [List.length_cons,List.length_append] at h hl ⊢
   rw [hp,Nat.add_zero] at h
   split at h
   ·omega
   ·rw [show q + 1 = 1 + q by omega,endAt_right hw (by omega),ih (by omega) (a := a + 1) (b := b + w.length) (by omega) (by omega)]
    omega
theorem Repl.right {t r : List Cel} (h : Repl t r) (ht : right t = true) (hl : r.length ≤ 256) : right r = true := by
 have h1 := (right_len ht).1
 have h2 := h.len
 have he := right_end ht
 have e := h.ends (L := t.length) (L' := r.length) h2 (Nat.le_refl _) (b := 0) he (by omega)
 rw [Nat.zero_add] at e
 have ho : r.all Cel.ok = true := List.all_eq_true.2 h.oks
 simp only [Am.right,Bool.and_eq_true,decide_eq_true_eq]
 exact ⟨⟨⟨by omega,hl⟩,e⟩,ho⟩
theorem hnext_var {H : Hp} {c : Cel} {u : List Cel} (h : hnext H [c] = some u) : c.k = 4 := (hnext_mem h).2.1
structure SolveR where
 out : Nat
 bd : Hp
 left : List (List Cel)
 steps : Nat
def solveN : Nat → Hp → List (List Cel) → Hp → Nat → SolveR
 | _,_,[],bd,k => ⟨1,bd,[],k⟩
 | 0,_,t :: rest,bd,k => ⟨3,bd,t :: rest,k⟩
 | n + 1,m,t :: rest,bd,k =>
  let r := stepL m (sides t).1 (sides t).2
  if r.k = 4 then ⟨2,[],[],k + 1⟩
  else if r.k = 2 then solveN n (bindH m r.v r.t) rest (bd ++ [(r.v,r.t)]) (k + 1)
  else solveN n m (r.ps ++ rest) bd (k + 1)
def eqsOk (l : List (List Cel)) : Bool := l.all fun t => isEqT t && glob t
def solveL (H : Hp) (n : Nat) (l : List (List Cel)) : SolveR := if eqsOk l then solveN n H l [] 0 else ⟨2,[],[],0⟩
def EqG (t : List Cel) : Prop := isEqT t = true ∧ glob (sides t).1 = true ∧ glob (sides t).2 = true
theorem sides_args {t : List Cel} (h : isEqT t = true) : args t = [(sides t).1,(sides t).2] := by
 obtain ⟨x,y,hxy⟩ := eq_args h
 unfold sides
 rw [if_pos h,hxy]; rfl
theorem EqG.of {t : List Cel} (h1 : isEqT t = true) (h2 : glob t = true) : EqG t := by
 have h := sides_args h1
 exact ⟨h1,args_glob h2 (by rw [h]; simp),args_glob h2 (by rw [h]; simp)⟩
theorem eqsOk_mem {l : List (List Cel)} (h : eqsOk l = true) : ∀ t ∈ l,EqG t := fun t ht => by
 have := List.all_eq_true.1 h t ht
 simp only [Bool.and_eq_true] at this
 exact .of this.1 this.2
theorem EqG.make {p q : List Cel} (h : makeE [61] [p,q] = 0) (hp : glob p = true) (hq : glob q = true) : EqG (makeT [61] [p,q]) := by
 refine ⟨isEq_make h,?_,?_⟩
 ·rw [sides_make h]; exact hp
 ·rw [sides_make h]; exact hq
theorem right_single {t : List Cel} (h : right t = true) (hp : (t.headD default).parts = 0) : t = [t.headD default] := by
 cases t with
 | nil => simp [right] at h
 | cons c r =>
  obtain ⟨h1,-,-⟩ := right_cons h
  simp only [List.headD_cons] at hp ⊢
  rw [hp,endAt_zero] at h1
  have : r = [] := List.eq_nil_of_length_eq_zero (by omega)
  rw [this]
theorem parts_none {c : Cel} (h : c.k ≠ 3) : c.parts = 0 := by simp [Cel.parts,h]
theorem hnext_one (H : Hp) (c : Cel) (hk : c.k = 4) : hnext H [c] = lk H c.v := by simp [hnext,hk]
theorem vars_same {c e : Cel} (hc : c.ok = true) (he : e.ok = true) (h1 : c.k = 4) (h2 : e.k = 4) (hn : c ≠ e) : c.v ≠ e.v := fun h => hn (var_eq hc he h1 h2 h)
theorem head_ok {t : List Cel} (h : right t = true) : (t.headD default).ok = true := by
 cases t with
 | nil => simp [right] at h
 | cons c r => exact right_ok_mem h (by simp)
theorem glob_var {t : List Cel} (h : glob t = true) (hk : (t.headD default).k = 4) : 0 ≤ (t.headD default).v.1 := by
 cases t with
 | nil => simp [glob,right] at h
 | cons c r =>
  simp only [glob,Bool.and_eq_true,List.all_eq_true] at h
  have := h.2 c (by simp)
  simp only [List.headD_cons] at hk ⊢
  simp only [hk,decide_true,Bool.true_and,Bool.not_eq_true',decide_eq_false_iff_not] at this
  omega
theorem okVar_of {c : Cel} (h : c.ok = true) (hk : c.k = 4) : okVar c.v = true := by
 obtain ⟨h1,h2,h3,h4,h5⟩ := ok_var h hk
 rw [okVar_eq]; simp [h3,h4,h5]
inductive StepC (x y : List Cel) : StepR → Prop
 | done : x = y → (x.headD default).k ≠ 3 → StepC x y sDone
 | bindL (c : Cel) : x = [c] → c.k = 4 → ((y.headD default).k = 4 → nless (y.headD default).v c.v = true) → StepC x y (sBinds c.v y)
 | bindR (e : Cel) : y = [e] → e.k = 4 → ((x.headD default).k = 4 → nless (x.headD default).v e.v = true) → StepC x y (sBinds e.v x)
 | clash : x.headD default ≠ y.headD default → StepC x y sClash
 | parted (ps : List (List Cel)) : x.headD default = y.headD default → (x.headD default).k = 3 → pairs (args x) (args y) = some ps → StepC x y ⟨3,(0,0),[],ps⟩
 | long : x.headD default = y.headD default → (x.headD default).k = 3 → pairs (args x) (args y) = none → StepC x y sClash
theorem stepT_cases {x y : List Cel} (hx : right x = true) (hy : right y = true) : StepC x y (stepT x y) := by
 have ox := head_ok hx
 have oy := head_ok hy
 have sx := right_single hx
 have sy := right_single hy
 unfold stepT
 simp only
 by_cases h1 : x.headD default = y.headD default ∧ (x.headD default).k ≠ 3
 ·rw [if_pos h1]
  exact .done ((sx (parts_none h1.2)).trans ((congrArg (fun c => [c]) h1.1).trans (sy (parts_none (by rw [← h1.1]; exact h1.2))).symm)) h1.2
 ·rw [if_neg h1]
  by_cases h2 : (x.headD default).k = 4 ∧ ((y.headD default).k ≠ 4 ∨ nless (y.headD default).v (x.headD default).v = true)
  ·rw [if_pos h2]
   refine .bindL _ (sx (parts_none (by omega))) h2.1 fun hk => ?_
   rcases h2.2 with h | h
   ·exact (h hk).elim
   ·exact h
  ·rw [if_neg h2]
   by_cases h3 : (y.headD default).k = 4
   ·rw [if_pos h3]
    refine .bindR _ (sy (parts_none (by omega))) h3 fun hk => ?_
    have hne : x.headD default ≠ y.headD default := fun e => h1 ⟨e,by omega⟩
    have hf : nless (y.headD default).v (x.headD default).v = false := by
     cases hb : nless (y.headD default).v (x.headD default).v with
     | false => rfl
     | true => exact (h2 ⟨hk,.inr hb⟩).elim
    exact nless_not hf fun e => vars_same oy ox h3 hk (fun e => hne e.symm) e
   ·rw [if_neg h3]
    by_cases h4 : x.headD default ≠ y.headD default
    ·rw [if_pos h4]; exact .clash h4
    ·rw [if_neg h4]
     have h4' : x.headD default = y.headD default := Classical.byContradiction h4
     have hk : (x.headD default).k = 3 := Classical.byContradiction fun hk => h1 ⟨h4',hk⟩
     cases hp : pairs (args x) (args y) with
     | some ps => exact .parted ps h4' hk hp
     | none => exact .long h4' hk hp
theorem stepL_cases {H : Hp} (hw : WF H) {a b : List Cel} (ha : glob a = true) (hb : glob b = true) : StepC (deref H a) (deref H b) (stepL H a b) := by
 unfold stepL
 rw [if_pos (by simp [ha,hb])]
 exact stepT_cases (glob_right (deref_glob hw ha)) (glob_right (deref_glob hw hb))
theorem pairs_mem : ∀ {ps qs us : List (List Cel)},pairs ps qs = some us → ∀ t ∈ us,∃ (i : Nat) (p q : List Cel),ps[i]? = some p ∧ qs[i]? = some q ∧ t = makeT [61] [p,q] ∧ makeE [61] [p,q] = 0
 | [],_,us,h,t,ht => by simp only [pairs] at h; injection h with h; subst h; cases ht
 | _ :: _,[],us,h,t,ht => by simp only [pairs] at h; injection h with h; subst h; cases ht
 | p :: ps,q :: qs,us,h,t,ht => by
  simp only [pairs] at h
  split at h
  ·rename_i he
   cases hp : pairs ps qs with
   | none => rw [hp] at h; cases h
   | some us' =>
    rw [hp] at h
    simp only [Option.map_some,Option.some.injEq] at h
    subst h
    rcases List.mem_cons.1 ht with rfl | ht
    ·exact ⟨0,p,q,rfl,rfl,rfl,he⟩
    ·obtain ⟨i,p',q',h1,h2,h3⟩ := pairs_mem hp t ht
     exact ⟨i + 1,p',q',by simpa using h1,by simpa using h2,h3⟩
  ·cases h
theorem pairs_all : ∀ {ps qs us : List (List Cel)},pairs ps qs = some us → ∀ (i : Nat) (p q : List Cel),ps[i]? = some p → qs[i]? = some q → makeT [61] [p,q] ∈ us ∧ makeE [61] [p,q] = 0
 | [],_,us,h,i,p,q,hp,hq => by simp at hp
 | _ :: _,[],us,h,i,p,q,hp,hq => by simp at hq
 | p :: ps,q :: qs,us,h,i,p',q',hp',hq' => by
  simp only [pairs] at h
  split at h
  ·rename_i he
   cases hp : pairs ps qs with
   | none => rw [hp] at h; cases h
   | some us' =>
    rw [hp] at h
    simp only [Option.map_some,Option.some.injEq] at h
    subst h
    cases i with
    | zero =>
     simp only [List.getElem?_cons_zero,Option.some.injEq] at hp' hq'
     subst hp'; subst hq'
     exact ⟨List.mem_cons_self,he⟩
    | succ i =>
     obtain ⟨h1,h2⟩ := pairs_all hp i p' q' (by simpa using hp') (by simpa using hq')
     exact ⟨List.mem_cons_of_mem _ h1,h2⟩
  ·cases h
theorem pairs_parts {x y : List Cel} {us : List (List Cel)} (hx : glob x = true) (hy : glob y = true) (h : pairs (args x) (args y) = some us) : ∀ t ∈ us,EqG t := fun t ht => by
 obtain ⟨i,p,q,h1,h2,rfl,h4⟩ := pairs_mem h t ht
 exact .make h4 (args_glob hx (List.mem_of_getElem? h1)) (args_glob hy (List.mem_of_getElem? h2))
def Chn : Hp → Hp → Prop
 | _,[] => True
 | H,p :: r => bindE H p.1 p.2 = 0 ∧ Chn (bindH H p.1 p.2) r
theorem Chn.snoc : ∀ {bs H : Hp} {p : Nm × List Cel},Chn H bs → bindE (bindsH H bs) p.1 p.2 = 0 → Chn H (bs ++ [p])
 | [],H,p,_,h2 => ⟨h2,trivial⟩
 | q :: r,H,p,h1,h2 => ⟨h1.1,Chn.snoc (bs := r) h1.2 (by simpa [bindsH] using h2)⟩
theorem Chn.get : ∀ {bs H : Hp},Chn H bs → ∀ (i : Nat) (hi : i < bs.length),bindE (bindsH H (bs.take i)) bs[i].1 bs[i].2 = 0
 | [],H,_,i,hi => by simp at hi
 | p :: r,H,h,0,hi => by simpa [bindsH] using h.1
 | p :: r,H,h,i + 1,hi => by
  have := Chn.get (bs := r) h.2 i (by simpa using hi)
  simpa [bindsH] using this
theorem bindE_okB {H : Hp} {v : Nm} {t : List Cel} (h : bindE H v t = 0) : okB (v,t) := (bindE_zero h).1
theorem stepC_binds {H : Hp} (hw : WF H) {a b : List Cel} (ha : glob a = true) (hb : glob b = true) {r : StepR} (h : StepC (deref H a) (deref H b) r) (hk : r.k = 2) : bindE H r.v r.t = 0 := by
 have gx := deref_glob hw ha
 have gy := deref_glob hw hb
 have nx := deref_done hw a
 have ny := deref_done hw b
 cases h with
 | done => cases hk
 | clash => cases hk
 | parted => cases hk
 | long => cases hk
 | bindL c h1 h2 h3 =>
  have e : (deref H a).headD default = c := by rw [h1]; rfl
  have ho := head_ok (glob_right gx)
  rw [e] at ho
  have hv := glob_var gx (by rw [e]; exact h2)
  rw [e] at hv
  rw [h1,hnext_one H c h2] at nx
  exact bindE_of ⟨hv,okVar_of ho h2,gy,h3⟩ nx
 | bindR c h1 h2 h3 =>
  have e : (deref H b).headD default = c := by rw [h1]; rfl
  have ho := head_ok (glob_right gy)
  rw [e] at ho
  have hv := glob_var gy (by rw [e]; exact h2)
  rw [e] at hv
  rw [h1,hnext_one H c h2] at ny
  exact bindE_of ⟨hv,okVar_of ho h2,gx,h3⟩ ny
def Ext (H M : Hp) : Prop := ∀ v t,lk H v = some t → lk M v = some t
theorem Ext.refl (H : Hp) : Ext H H := fun _ _ h => h
theorem Ext.trans {H M K : Hp} (h : Ext H M) (h' : Ext M K) : Ext H K := fun v t hl => h' v t (h v t hl)
theorem Ext.bind (H : Hp) (v : Nm) (t : List Cel) : Ext H (bindH H v t) := fun _ _ h => bindH_keeps h
theorem Ext.hnext {H M : Hp} (h : Ext H M) {t u : List Cel} (hn : hnext H t = some u) : hnext M t = some u := by
 unfold Am.hnext at hn ⊢
 split at hn
 ·rename_i e; rw [if_pos e]; exact h _ _ hn
 ·cases hn
theorem Ext.deref {H M : Hp} (hw : WF H) (hm : WF M) (h : Ext H M) : ∀ (n : Nat) (t : List Cel),rank H t ≤ n → deref M (deref H t) = deref M t
 | 0,t,hr => by
  cases hn : Am.hnext H t with
  | none => rw [deref_none hn]
  | some u => have := rank_lt hw hn; omega
 | n + 1,t,hr => by
  cases hn : Am.hnext H t with
  | none => rw [deref_none hn]
  | some u =>
   have := rank_lt hw hn
   rw [deref_step hw hn,deref_step hm (h.hnext hn)]
   exact Ext.deref hw hm h n u (by omega)
theorem Ext.der {H M : Hp} (hw : WF H) (hm : WF M) (h : Ext H M) (t : List Cel) : Am.deref M (Am.deref H t) = Am.deref M t := h.deref hw hm _ t (Nat.le_refl _)
theorem hnext_head {H : Hp} {t : List Cel} (hk : (t.headD default).k ≠ 4) : hnext H t = none := by
 unfold hnext; rw [if_neg (fun h => hk h.2)]
inductive Ev (M : Hp) : List Cel → List Cel → Prop
 | same {a b : List Cel} : deref M a = deref M b → Ev M a b
 | parts {a b : List Cel} : (deref M a).headD default = (deref M b).headD default → ((deref M a).headD default).k = 3 →
   (∀ (i : Nat) (p q : List Cel),(args (deref M a))[i]? = some p → (args (deref M b))[i]? = some q → Ev M p q) → Ev M a b
structure Ran (H : Hp) (n k : Nat) (bd : Hp) (row : List (List Cel)) (s : SolveR) : Prop where
 chn : Chn H s.bd
 fails : s.out = 2 → s.bd = []
 waits : s.out = 3 → s.left ≠ [] ∧ s.steps = k + n
 out : s.out = 1 ∨ s.out = 2 ∨ s.out = 3
 ev : s.out = 1 → (∃ x,s.bd = bd ++ x) ∧ ∀ t ∈ row,Ev (bindsH H s.bd) (sides t).1 (sides t).2
theorem binds_ext (H : Hp) : ∀ (bs : Hp),Ext H (bindsH H bs) := fun bs v t h => bindsH_keeps bs h
theorem bindsH_app (H : Hp) (a b : Hp) : bindsH H (a ++ b) = bindsH (bindsH H a) b := by simp [bindsH]
theorem WF.binds {H : Hp} (h : WF H) : ∀ (bs : Hp),WF (bindsH H bs) := by
 intro bs
 induction bs generalizing H with
 | nil => exact h
 | cons p r ih => exact ih (h.bind p.1 p.2)
theorem solveN_ran {H : Hp} (hw : WF H) : ∀ (n : Nat) (m : Hp) (row : List (List Cel)) (bd : Hp) (k : Nat),m = bindsH H bd → Chn H bd → (∀ t ∈ row,EqG t) → Ran H n k bd row (solveN n m row bd k)
 | n,m,[],bd,k,hm,hc,hr => by
  have e : solveN n m [] bd k = ⟨1,bd,[],k⟩ := by cases n <;> rfl
  rw [e]
  exact ⟨hc,(fun h => by cases h),(fun h => by cases h),.inl rfl,fun _ => ⟨⟨[],by simp⟩,fun t h => by cases h⟩⟩
 | 0,m,t :: rest,bd,k,hm,hc,hr =>
  ⟨hc,(fun h => by cases h),fun _ => ⟨by simp [solveN],rfl⟩,.inr (.inr rfl),fun h => by cases h⟩
 | n + 1,m,t :: rest,bd,k,hm,hc,hr => by
  obtain ⟨q1,q2,q3⟩ := hr t List.mem_cons_self
  have hrest : ∀ t ∈ rest,EqG t := fun t h => hr t (List.mem_cons_of_mem _ h)
  have hwm : WF m := by rw [hm]; exact hw.binds bd
  have hs := stepL_cases hwm q2 q3
  have gx := deref_glob hwm q2
  have gy := deref_glob hwm q3
  have hbd := stepC_binds hwm q2 q3 hs
  simp only [solveN]
  generalize stepL m (sides t).1 (sides t).2 = r at hs hbd
  by_cases h4 : r.k = 4
  ·rw [if_pos h4]
   exact ⟨trivial,fun _ => rfl,(fun h => by cases h),.inr (.inl rfl),fun h => by cases h⟩
  ·rw [if_neg h4]
   by_cases h2 : r.k = 2
   ·rw [if_pos h2]
    have hb := hbd h2
    have hb' : bindE (bindsH H bd) r.v r.t = 0 := by rw [← hm]; exact hb
    have ih := solveN_ran hw n (bindH m r.v r.t) rest (bd ++ [(r.v,r.t)]) (k + 1) (by rw [hm,bindsH_snoc]) (hc.snoc (p := (r.v,r.t)) hb') hrest
    refine ⟨ih.chn,ih.fails,fun h => ⟨(ih.waits h).1,by rw [(ih.waits h).2]; omega⟩,ih.out,fun h => ?_⟩
    obtain ⟨⟨x,hx⟩,he⟩ := ih.ev h
    refine ⟨⟨(r.v,r.t) :: x,by rw [hx]; simp⟩,fun u hu => ?_⟩
    rcases List.mem_cons.1 hu with rfl | hu
    ·have hM : WF (bindsH H (solveN n (bindH m r.v r.t) rest (bd ++ [(r.v,r.t)]) (k + 1)).bd) := hw.binds _
     have hext : Ext (bindH m r.v r.t) (bindsH H (solveN n (bindH m r.v r.t) rest (bd ++ [(r.v,r.t)]) (k + 1)).bd) := by
      rw [hx,bindsH_app,bindsH_snoc,← hm]; exact binds_ext _ _
     generalize bindsH H (solveN n (bindH m r.v r.t) rest (bd ++ [(r.v,r.t)]) (k + 1)).bd = M at hM hext
     have hme : Ext m M := (Ext.bind m r.v r.t).trans hext
     have hlk : lk M r.v = some r.t := hext _ _ (by
      unfold bindH; rw [if_pos hb,lk_app _ _ _ _ (bindE_zero hb).2,if_pos rfl])
     refine .same ?_
     rw [← hme.der hwm hM (sides u).1,← hme.der hwm hM (sides u).2]
     cases hs with
     | done => cases h2
     | clash => cases h2
     | parted => cases h2
     | long => cases h2
     | bindL c e1 e2 e3 => rw [e1]; exact deref_step hM (by rw [hnext_one M c e2]; exact hlk)
     | bindR c e1 e2 e3 => rw [e1]; exact (deref_step hM (by rw [hnext_one M c e2]; exact hlk)).symm
    ·exact he u hu
   ·rw [if_neg h2]
    have hps : ∀ t ∈ r.ps,EqG t := by
     cases hs with
     | done => intro t h; cases h
     | clash => intro t h; cases h
     | long => intro t h; cases h
     | bindL => intro t h; cases h
     | bindR => intro t h; cases h
     | parted ps e1 e2 e3 => exact pairs_parts gx gy e3
    have ih := solveN_ran hw n m (r.ps ++ rest) bd (k + 1) hm hc (fun t h => by
     rcases List.mem_append.1 h with h | h
     ·exact hps t h
     ·exact hrest t h)
    refine ⟨ih.chn,ih.fails,fun h => ⟨(ih.waits h).1,by rw [(ih.waits h).2]; omega⟩,ih.out,fun h => ?_⟩
    obtain ⟨⟨x,hx⟩,he⟩ := ih.ev h
    refine ⟨⟨x,hx⟩,fun u hu => ?_⟩
    rcases List.mem_cons.1 hu with rfl | hu
    ·have hM : WF (bindsH H (solveN n m (r.ps ++ rest) bd (k + 1)).bd) := hw.binds _
     have hme : Ext m (bindsH H (solveN n m (r.ps ++ rest) bd (k + 1)).bd) := by
      rw [hx,bindsH_app,← hm]; exact binds_ext _ _
     generalize bindsH H (solveN n m (r.ps ++ rest) bd (k + 1)).bd = M at hM hme he
     cases hs with
     | done e1 e2 =>
      refine .same ?_
      rw [← hme.der hwm hM (sides u).1,← hme.der hwm hM (sides u).2,e1]
     | clash => exact (h4 rfl).elim
     | long => exact (h4 rfl).elim
     | bindL => exact (h2 rfl).elim
     | bindR => exact (h2 rfl).elim
     | parted ps e1 e2 e3 =>
      have dx : deref M (sides u).1 = deref m (sides u).1 := by rw [← hme.der hwm hM]; exact deref_none (hnext_head (by omega))
      have dy : deref M (sides u).2 = deref m (sides u).2 := by rw [← hme.der hwm hM]; exact deref_none (hnext_head (by rw [← e1]; omega))
      refine .parts (by rw [dx,dy]; exact e1) (by rw [dx]; exact e2) fun i p q hp hq => ?_
      rw [dx] at hp
      rw [dy] at hq
      obtain ⟨m1,m2⟩ := pairs_all e3 i p q hp hq
      have := he _ (List.mem_append.2 (.inl m1))
      rw [sides_make m2] at this
      exact this
    ·exact he u (List.mem_append.2 (.inr hu))
theorem Ev.step {M : Hp} (hw : WF M) {a b : List Cel} (ha : glob a = true) (hb : glob b = true) (h : Ev M a b) :
  stepL M a b = sDone ∨ (∃ ps,stepL M a b = ⟨3,(0,0),[],ps⟩ ∧ pairs (args (deref M a)) (args (deref M b)) = some ps ∧ ∀ t ∈ ps,EqG t ∧ Ev M (sides t).1 (sides t).2) ∨ (stepL M a b = sClash ∧ pairs (args (deref M a)) (args (deref M b)) = none) := by
 have hs := stepL_cases hw ha hb
 have gx := deref_glob hw ha
 have gy := deref_glob hw hb
 have hd : (deref M a).headD default = (deref M b).headD default := by
  cases h with
  | same e => rw [e]
  | parts e _ _ => exact e
 have hp : ∀ (i : Nat) (p q : List Cel),(args (deref M a))[i]? = some p → (args (deref M b))[i]? = some q → Ev M p q := by
  cases h with
  | same e =>
   intro i p q hp hq
   rw [e,hq] at hp
   injection hp with hp; subst hp
   exact .same rfl
  | parts _ _ e => exact e
 generalize stepL M a b = r at hs
 cases hs with
 | done => exact .inl rfl
 | clash h => exact (h hd).elim
 | long h1 h2 h3 => exact .inr (.inr ⟨rfl,h3⟩)
 | bindL c e1 e2 e3 =>
  have e : (deref M a).headD default = c := by rw [e1]; rfl
  rw [← hd,e] at e3
  have := e3 e2
  rw [nless_irrefl] at this; cases this
 | bindR c e1 e2 e3 =>
  have e : (deref M b).headD default = c := by rw [e1]; rfl
  rw [hd,e] at e3
  have := e3 e2
  rw [nless_irrefl] at this; cases this
 | parted ps e1 e2 e3 =>
  refine .inr (.inl ⟨ps,rfl,e3,fun t ht => ⟨pairs_parts gx gy e3 t ht,?_⟩⟩)
  obtain ⟨i,p,q,h1,h2,rfl,h4⟩ := pairs_mem e3 t ht
  rw [sides_make h4]
  exact hp i p q h1 h2
inductive Sub (M : Hp) : List Cel → List Cel → Prop
 | nil : Sub M [] []
 | keep (c : Cel) {t r : List Cel} : hnext M [c] = none → Sub M t r → Sub M (c :: t) (c :: r)
 | put (c : Cel) {u w t r : List Cel} : hnext M [c] = some u → Sub M (deref M u) w → Sub M t r → Sub M (c :: t) (w ++ r)
theorem Sub.det {M : Hp} {t r : List Cel} (h : Sub M t r) : ∀ {r' : List Cel},Sub M t r' → r = r' := by
 induction h with
 | nil => intro r' h; cases h; rfl
 | keep c hn _ ih =>
  intro r' h
  cases h with
  | keep _ _ h2 => rw [ih h2]
  | put _ hn' => rw [hn] at hn'; cases hn'
 | put c hn _ _ ih1 ih2 =>
  intro r' h
  cases h with
  | keep _ hn' _ => rw [hn] at hn'; cases hn'
  | put _ hn' h1 h2 =>
   rw [hn] at hn'
   injection hn' with hn'; subst hn'
   rw [ih1 h1,ih2 h2]
theorem Sub.split {M : Hp} : ∀ {a b r : List Cel},Sub M (a ++ b) r → ∃ ra rb,r = ra ++ rb ∧ Sub M a ra ∧ Sub M b rb
 | [],b,r,h => ⟨[],r,rfl,.nil,h⟩
 | c :: a,b,r,h => by
  rw [List.cons_append] at h
  cases h with
  | keep _ hn h1 =>
   obtain ⟨ra,rb,rfl,h2,h3⟩ := Sub.split h1
   exact ⟨c :: ra,rb,rfl,.keep c hn h2,h3⟩
  | put _ hn h1 h2 =>
   obtain ⟨ra,rb,rfl,h3,h4⟩ := Sub.split h2
   exact ⟨_ ++ ra,rb,by rw [List.append_assoc],.put c hn h1 h3,h4⟩
theorem Sub.deref {M : Hp} (hw : WF M) {t r : List Cel} (h : Sub M t r) : Sub M (deref M t) r := by
 cases hn : hnext M t with
 | none => rw [deref_none hn]; exact h
 | some u =>
  obtain ⟨h1,h2,-⟩ := hnext_mem hn
  match t,h1 with
  | [c],_ =>
   rw [deref_step hw hn]
   cases h with
   | keep _ hn' _ => rw [hn] at hn'; cases hn'
   | put _ hn' h3 h4 =>
    rw [hn] at hn'
    injection hn' with hn'; subst hn'
    cases h4
    simpa using h3
theorem argsFrom_flatten {L : Nat} : ∀ {q f : Nat} {r : List Cel} {a : Nat},0 < a → endAt L r q a = a + r.length → r.length ≤ f → (argsFrom L f r a).flatten = r
 | 0,f,r,a,ha,h,hf => by
  rw [endAt_zero] at h
  have : r = [] := List.eq_nil_of_length_eq_zero (by omega)
  subst this
  cases f <;> simp [argsFrom]
 | q + 1,f,r,a,ha,h,hf => by
  by_cases hne : r = []
  ·subst hne; cases f <;> simp [argsFrom]
  ·have hpos : 0 < r.length := List.length_pos_iff.2 hne
   cases f with
   | zero => omega
   | succ f =>
    rw [show q + 1 = 1 + q by omega] at h
    obtain ⟨g1,g2⟩ := endAt_add h (by omega) (by omega)
    obtain ⟨e1,e2,e3⟩ := endAt_le (rfl : endAt L r 1 a = _) g1
    have e4 := e3 (by omega)
    simp only [argsFrom,if_neg hne,List.flatten_cons]
    rw [argsFrom_flatten (by omega) (by rw [g2,List.length_drop]; omega) (by rw [List.length_drop]; omega),List.take_append_drop]
theorem args_flatten {t : List Cel} (h : right t = true) (hk : (t.headD default).k = 3) : t = t.headD default :: (args t).flatten := by
 cases t with
 | nil => simp [right] at h
 | cons c r =>
  obtain ⟨h1,h2,h3⟩ := right_cons h
  simp only [List.headD_cons] at hk ⊢
  simp only [args,h,List.headD_cons,hk,decide_true,Bool.and_self,if_true,List.drop_succ_cons,List.drop_zero]
  rw [argsFrom_flatten (by omega) h1 (by simp only [List.length_cons]; omega)]
theorem Sub.rows {M : Hp} : ∀ {azs bs : List (List Cel)} {ra rb : List Cel},azs.length = bs.length → Sub M azs.flatten ra → Sub M bs.flatten rb → (∀ (i : Nat) (p q : List Cel),azs[i]? = some p → bs[i]? = some q → ∀ {x y : List Cel},Sub M p x → Sub M q y → x = y) → ra = rb
 | [],[],ra,rb,_,ha,hb,_ => by simp only [List.flatten_nil] at ha hb; cases ha; cases hb; rfl
 | [],_ :: _,_,_,h,_,_,_ => by simp at h
 | _ :: _,[],_,_,h,_,_,_ => by simp at h
 | p :: azs,q :: bs,ra,rb,hl,ha,hb,h => by
  rw [List.flatten_cons] at ha hb
  obtain ⟨x,xs,rfl,h1,h2⟩ := ha.split
  obtain ⟨y,ys,rfl,h3,h4⟩ := hb.split
  rw [h 0 p q rfl rfl h1 h3,Sub.rows (by simpa using hl) h2 h4 fun i p q hp hq => h (i + 1) p q (by simpa using hp) (by simpa using hq)]
theorem Ev.sub {M : Hp} (hw : WF M) {a b : List Cel} (h : Ev M a b) : glob a = true → glob b = true → ∀ {x y : List Cel},Sub M a x → Sub M b y → x = y := by
 induction h with
 | same e =>
  intro ha hb x y hx hy
  have h1 := hx.deref hw
  have h2 := hy.deref hw
  rw [e] at h1
  exact h1.det h2
 | parts e1 e2 _ ih =>
  rename_i a b _
  intro ha hb x y hx hy
  have h1 := hx.deref hw
  have h2 := hy.deref hw
  have gx := deref_glob hw ha
  have gy := deref_glob hw hb
  have rx := glob_right gx
  have ry := glob_right gy
  have hl : (args (deref M a)).length = (args (deref M b)).length := args_same rx ry e1
  rw [args_flatten rx e2] at h1
  rw [args_flatten ry (by rw [← e1]; exact e2),← e1] at h2
  have hn : ∀ u,hnext M [(deref M a).headD default] ≠ some u := fun u hu => by have := hnext_var hu; omega
  cases h1 with
  | put _ hu => exact (hn _ hu).elim
  | keep _ _ k1 =>
   cases h2 with
   | put _ hu => exact (hn _ hu).elim
   | keep _ _ k2 =>
    rw [Sub.rows hl k1 k2 fun i p q hp hq x y => ih i p q hp hq (args_glob gx (List.mem_of_getElem? hp)) (args_glob gy (List.mem_of_getElem? hq))]
theorem eq_head {t : List Cel} (h : isEqT t = true) : right t = true ∧ (t.headD default).k = 3 := by
 unfold isEqT at h
 simp only [Bool.and_eq_true] at h
 refine ⟨h.1,?_⟩
 cases t with
 | nil => simp [right] at h
 | cons c r =>
  have h2 := h.2
  simp only [isT,Bool.and_eq_true,Bool.or_eq_true,decide_eq_true_eq] at h2
  rcases h2.2 with h3 | h3
  ·exact h3.1
  ·exact absurd h3.1 (by decide)
theorem glob_sides {t : List Cel} (h : isEqT t = true) : glob t = (glob (sides t).1 && glob (sides t).2) := by
 obtain ⟨h1,h2⟩ := eq_head h
 have ha := sides_args h
 have hf := args_flatten h1 h2
 rw [ha] at hf
 have ra : right (sides t).1 = true := args_rights (t := t) (by rw [ha]; simp)
 have rb : right (sides t).2 = true := args_rights (t := t) (by rw [ha]; simp)
 rw [Bool.eq_iff_iff]
 constructor
 ·intro hg
  rw [args_glob hg (by rw [ha]; simp),args_glob hg (by rw [ha]; simp)]; rfl
 ·intro hg
  simp only [Bool.and_eq_true] at hg
  obtain ⟨g1,g2⟩ := hg
  simp only [glob,Bool.and_eq_true,List.all_eq_true] at g1 g2 ⊢
  refine ⟨h1,fun c hc => ?_⟩
  rw [hf] at hc
  rcases List.mem_cons.1 hc with rfl | hc
  ·rw [h2]; rfl
  ·simp only [List.flatten_cons,List.flatten_nil,List.append_nil] at hc
   rcases List.mem_append.1 hc with hc | hc
   ·exact g1.2 c hc
   ·exact g2.2 c hc
def stepD (x y : List Cel) : StepR :=
 let c := x.headD default
 let e := y.headD default
 if c.k = 4 ∧ e.k = 4 then (if c.v = e.v then sDone else if nless c.v e.v = true then sBinds e.v x else sBinds c.v y)
 else if c.k = 4 then sBinds c.v y
 else if e.k = 4 then sBinds e.v x
 else if c ≠ e then sClash
 else if c.k ≠ 3 then sDone
 else match pairs (args x) (args y) with
  | some ps => ⟨3,(0,0),[],ps⟩
  | none => sClash
theorem stepD_eq {x y : List Cel} (hx : right x = true) (hy : right y = true) : stepD x y = stepT x y := by
 have ox := head_ok hx
 have oy := head_ok hy
 unfold stepD stepT
 simp only
 generalize x.headD default = c at *
 generalize y.headD default = e at *
 by_cases h1 : c.k = 4 ∧ e.k = 4
 ·obtain ⟨hc,he⟩ := h1
  rw [if_pos ⟨hc,he⟩]
  by_cases hv : c.v = e.v
  ·have := var_eq ox oy hc he hv
   rw [if_pos hv,if_pos ⟨this,by omega⟩]
  ·have hne : c ≠ e := fun h => hv (by rw [h])
   have hnd : ¬ (c = e ∧ c.k ≠ 3) := fun h => hne h.1
   rw [if_neg hv,if_neg hnd]
   by_cases hl : nless c.v e.v = true
   ·have hn := nless_asymm hl
    have h2 : ¬ (c.k = 4 ∧ (e.k ≠ 4 ∨ nless e.v c.v = true)) := fun h => by
     rcases h.2 with h | h
     ·exact h he
     ·rw [hn] at h; cases h
    rw [if_pos hl,if_neg h2,if_pos he]
   ·rw [if_neg hl,if_pos ⟨hc,.inr (nless_not (by simpa using hl) hv)⟩]
 ·rw [if_neg h1]
  by_cases hc : c.k = 4
  ·have he : e.k ≠ 4 := fun h => h1 ⟨hc,h⟩
   have hnd : ¬ (c = e ∧ c.k ≠ 3) := fun h => he (by rw [← h.1]; exact hc)
   rw [if_pos hc,if_neg hnd,if_pos ⟨hc,.inl he⟩]
  ·rw [if_neg hc]
   by_cases he : e.k = 4
   ·have hnd : ¬ (c = e ∧ c.k ≠ 3) := fun h => hc (by rw [h.1]; exact he)
    have h2 : ¬ (c.k = 4 ∧ (e.k ≠ 4 ∨ nless e.v c.v = true)) := fun h => hc h.1
    rw [if_pos he,if_neg hnd,if_neg h2,if_pos he]
   ·have h2 : ¬ (c.k = 4 ∧ (e.k ≠ 4 ∨ nless e.v c.v = true)) := fun h => hc h.1
    rw [if_neg he]
    by_cases hne : c ≠ e
    ·have hnd : ¬ (c = e ∧ c.k ≠ 3) := fun h => hne h.1
     rw [if_pos hne,if_neg hnd,if_neg h2,if_neg he,if_pos hne]
    ·have hne' : c = e := Classical.byContradiction hne
     rw [if_neg hne]
     by_cases h3 : c.k ≠ 3
     ·rw [if_pos h3,if_pos ⟨hne',h3⟩]
     ·have hnd : ¬ (c = e ∧ c.k ≠ 3) := fun h => h3 h.2
      rw [if_neg h3,if_neg hnd,if_neg h2,if_neg he,if_neg hne] <;> rfl
theorem Same.stepL {H R : Hp} (hs : Same H R) (a b : List Cel) : Am.stepL R a b = Am.stepL H a b := by
 unfold Am.stepL; rw [hs.deref,hs.deref]
structure XRows (σ : Store) (lo k sz : Nat) (l : AVal) (xs es : List AVal) (ps : List (List AVal)) : Prop where
 row : Own σ k l xs
 lex : xs.length = es.length
 len : es.length = ps.length
 one : ∀ (i : Nat) (e : AVal) (p : List AVal),es[i]? = some e → ps[i]? = some p → Own σ sz e p
 frs : ∀ (i : Nat) (e : AVal),es[i]? = some e → Fresh lo e
 frl : Fresh lo l
 apart : ∀ (i j : Nat) (e e' : AVal) (id : Nat),es[i]? = some e → es[j]? = some e' → e.sid = some id → e'.sid = some id → i = j
 off : ∀ (i : Nat) (e : AVal) (id : Nat),es[i]? = some e → e.sid = some id → l.sid ≠ some id
 lit : ∀ (i : Nat) (e : AVal),es[i]? = some e → NoLit e
theorem XRows.nil (σ : Store) (lo k sz : Nat) : XRows σ lo k sz .nilslice [] [] [] :=
 ⟨Own.nil _ _,rfl,rfl,fun i e p h => by simp at h,fun i e h => by simp at h,Fresh.nil _,fun i j e e' id h => by simp at h,fun i e id h => by simp at h,fun i e h => by simp at h⟩
theorem XRows.lo {σ : Store} {lo lo' k sz : Nat} {l : AVal} {xs es : List AVal} {ps : List (List AVal)} (h : XRows σ lo k sz l xs es ps) (hl : lo' ≤ lo) : XRows σ lo' k sz l xs es ps :=
 ⟨h.row,h.lex,h.len,h.one,fun i e he => (h.frs i e he).le hl,h.frl.le hl,h.apart,h.off,h.lit⟩
theorem XRows.lt {σ : Store} {lo k sz : Nat} {l : AVal} {xs es : List AVal} {ps : List (List AVal)} (h : XRows σ lo k sz l xs es ps) {i : Nat} {e : AVal} (hi : es[i]? = some e) {id : Nat} (hid : e.sid = some id) : id < σ.length := by
 have hlt := (List.getElem?_eq_some_iff.1 hi).1
 have := h.one i e (ps[i]'(by rw [← h.len]; exact hlt)) hi (List.getElem?_eq_getElem _)
 exact this.sl.lt hid
theorem XRows.grow {σ σ' : Store} {lo k sz : Nat} {l : AVal} {xs es : List AVal} {ps : List (List AVal)} (h : XRows σ lo k sz l xs es ps) (g : Grows σ σ') : XRows σ' lo k sz l xs es ps :=
 ⟨h.row.grow g,h.lex,h.len,fun i e p h1 h2 => (h.one i e p h1 h2).grow g,h.frs,h.frl,h.apart,h.off,h.lit⟩
theorem XRows.keeps {σ σ' : Store} {M : Nat → Prop} {lo k sz : Nat} {l : AVal} {xs es : List AVal} {ps : List (List AVal)} (h : XRows σ lo k sz l xs es ps) (g : Keeps M σ σ') (hm : ∀ i,i < σ.length → lo ≤ i → ¬ M i) : XRows σ' lo k sz l xs es ps :=
 ⟨Own.keeps h.row g fun id hid => hm id (h.row.sl.lt hid) (h.frl id hid),h.lex,h.len,fun i e p h1 h2 => Own.keeps (h.one i e p h1 h2) g fun id hid => hm id (h.lt h1 hid) (h.frs i e h1 id hid),h.frs,h.frl,h.apart,h.off,h.lit⟩
theorem XRows.push {σ σ1 : Store} {lo k sz : Nat} {l : AVal} {xs es : List AVal} {ps : List (List AVal)} (h : XRows σ lo k sz l xs es ps) (hlo : lo ≤ σ.length) (g : Grows σ σ1) {x e : AVal} {p : List AVal} (he : Own σ1 sz e p) (fe : Fresh σ.length e) (le : NoLit e)
  (bytes : Nat) (hb : (es.length + 1) * bytes ≤ 70368744177664) :
  ∃ l' σ2,appendV σ1 k bytes l [x] = some (l',σ2) ∧ XRows σ2 lo k sz l' (xs ++ [x]) (es ++ [e]) (ps ++ [p]) ∧ Keeps (fun i => lo ≤ i) σ1 σ2 := by
 obtain ⟨l',σ2,h1,h2,h3,h4,h5⟩ := (h.row.grow g).append [x] bytes (by rw [h.lex]; exact hb)
 have old : ∀ (i : Nat) (x : AVal),(es ++ [e])[i]? = some x → (es[i]? = some x ∧ i < es.length) ∨ (i = es.length ∧ x = e) := by
  intro i x hx
  rw [List.getElem?_append] at hx
  split at hx
  ·rename_i hlt; exact .inl ⟨hx,hlt⟩
  ·rename_i hlt
   rw [List.getElem?_singleton] at hx
   split at hx
   ·injection hx with hx; exact .inr ⟨by omega,hx.symm⟩
   ·cases hx
 have hll : ∀ id,l.sid = some id → id < σ.length := fun id hid => h.row.sl.lt hid
 have hx1 : ∀ (i : Nat) (x : AVal) (id : Nat),(es ++ [e])[i]? = some x → x.sid = some id → id < σ1.length ∧ l.sid ≠ some id := by
  intro i x id hx hid
  rcases old i x hx with ⟨hx,_⟩ | ⟨_,rfl⟩
  ·exact ⟨Nat.lt_of_lt_of_le (h.lt hx hid) g.1,h.off i x id hx hid⟩
  ·exact ⟨he.sl.lt hid,fun hl => by have := fe id hid; have := hll id hl; omega⟩
 refine ⟨l',σ2,h1,⟨h2,by simp [h.lex],by simp [h.len],?_,?_,?_,?_,?_,?_⟩,h3.mono fun i hi hs => h.frl i hs⟩
 ·intro i x q hx hq
  refine Own.keeps (σ := σ1) ?_ h3 fun id hid => (hx1 i x id hx hid).2
  rcases old i x hx with ⟨hx,hlt⟩ | ⟨rfl,rfl⟩
  ·rw [List.getElem?_append_left (by rw [← h.len]; exact hlt)] at hq
   exact (h.one i x q hx hq).grow g
  ·rw [h.len,List.getElem?_append_right (Nat.le_refl _),Nat.sub_self] at hq
   simp at hq; subst hq; exact he
 ·intro i x hx
  rcases old i x hx with ⟨hx,_⟩ | ⟨_,rfl⟩
  ·exact h.frs i x hx
  ·exact fe.le hlo
 ·intro id hid
  rcases h4 id hid with hh | hh
  ·exact h.frl id hh
  ·have := g.1; omega
 ·intro i j x y id hx hy hxi hyi
  rcases old i x hx with ⟨hx',hil⟩ | ⟨hi,hxe⟩ <;> rcases old j y hy with ⟨hy',hjl⟩ | ⟨hj,hye⟩
  ·exact h.apart i j x y id hx' hy' hxi hyi
  ·rw [hye] at hyi; have := h.lt hx' hxi; have := fe id hyi; omega
  ·rw [hxe] at hxi; have := h.lt hy' hyi; have := fe id hxi; omega
  ·omega
 ·intro i x id hx hid hl
  obtain ⟨k1,k2⟩ := hx1 i x id hx hid
  rcases h4 id hl with hh | hh
  ·exact k2 hh
  ·omega
 ·intro i x hx
  rcases old i x hx with ⟨hx,_⟩ | ⟨_,rfl⟩
  ·exact h.lit i x hx
  ·exact le
theorem nm_putB (σ : Store) (v : Nm) : storeV (σ ++ [AObj.cells [.int .i64 0,.int .i64 0]]) 2 (.ptr σ.length 0) (nmV v) = some (σ ++ [AObj.cells (nmC v)]) := by
 have h : (σ ++ [AObj.cells [.int .i64 0,.int .i64 0]])[σ.length]? = some (.cells [.int .i64 0,.int .i64 0]) := by simp
 rw [nm_agg,storeN_cells (cs' := nmC v) (n := 2) h rfl rfl rfl,set_last]
theorem HeapP.look1 {σ : Store} {id mid : Nat} {vs : List AVal} {H : Hp} (h : HeapP σ id mid vs H) (v : Nm) :
  ∃ u,lookupV σ true [.i,.i] .nilslice (.map mid) (nmV v) false = some u ∧ Told u ((lk H v).getD []) := by
 obtain ⟨o,h1,h2⟩ := find_nm v H
 have hk : keyEq true [.i,.i] (nmV v) (nmV v) = some true := by rw [nm_keyEq,decide_eq_true rfl]
 have hf : findKK true [.i,.i] (nmV v) (H.map fun p => nmV p.1) = some o := by simp only [findKK,hk,Option.isSome_some,if_true,h1]
 have hm : mapOf σ (.map mid) = some (H.map fun p => nmV p.1,vs) := by simp only [mapOf,h.map]
 cases o with
 | none =>
  refine ⟨.nilslice,?_,?_⟩
  ·simp only [lookupV,hm,hf]; rfl
  ·rw [h2]; exact Told.nil
 | some i =>
  obtain ⟨p,p1,p2,p3⟩ := h2
  obtain ⟨hi,hpe⟩ := List.getElem?_eq_some_iff.1 p1
  obtain ⟨u,u1,u2⟩ := h.vals.get hi
  refine ⟨u,?_,?_⟩
  ·simp only [lookupV,hm,hf,u1,Option.map_some]; rfl
  ·rw [p3]; rw [hpe] at u2; exact u2
def bdVs (R : Hp) (us : List AVal) : List AVal := List.zipWith (fun p u => bdV p.1 u) R us
abbrev BRows (σ : Store) (lo : Nat) (l : AVal) (us : List AVal) (R : Hp) : Prop := XRows σ lo 3 5 l (bdVs R us) us (R.map fun p => CC p.2)
section
variable (d : Nat) (σ : Store)
theorem mkeys_ok (m : AVal) (hm : m.one = true) : Called CU.cfg d 94 [m] σ fun r σ' => r = .func 140 [] [.ptr σ.length 0] ∧ σ' = σ ++ [.cells [m]] := by
 refine called_of (fn := CU.a94) rfl (Nat.le_of_ble_eq_true rfl) ?_
 simp only [CU.a94, CU.o]
 have hc : m.cells = [m] := by cases m <;> simp_all [AVal.one]
 have h1 : [m].all AVal.one = true := by simp only [List.all_cons,List.all_nil,hm]; rfl
 simp -dsimp only [↓WPd,↓Zm,↓Zn,WPu,Za,Zb,Zc,Zd,Ze,Zf,Zg,Zh,Nat.reduceEqDiff,Nat.reduceLT,Zi,Zj,Zk,Zl,Nat.reduceBEq,hc,h1]
theorem sorted_ok (i mid : Nat) (ns : List Nm) (vs : List AVal) (h1 : σ[i]? = some (.cells [.map mid])) (h2 : σ[mid]? = some (.map (ns.map nmV) vs)) (hn : ns.length ≤ 8796093022208) :
  Called CU.cfg d 93 [.func 140 [] [.ptr i 0],.func 95 [] []] σ fun r σ' => SlOf σ' 2 r ((sortN ns).map nmV) ∧ Grows σ σ' := by
 have hk : keysOf σ (.map mid) = some (ns.map nmV) := by simp only [keysOf,h2]
 have he : natSF 140 95 [.func 140 [] [.ptr i 0],.func 95 [] []] σ = some (match ns with | [] => (.nilslice,σ) | _ => (.slice 2 σ.length 0 0 ns.length none,σ ++ [.arr 2 ((sortN ns).map nmV) 0 0])) := by
  simp only [natSF,and_self,if_true,h1,hk,nmsOf_map,if_pos hn]
  cases ns <;> rfl
 cases ns with
 | nil => exact called_nat rfl he ⟨SlOf.nil _ _,Keeps.refl _ _⟩
 | cons x r =>
  refine called_nat rfl he ⟨?_,Grows.app _ _⟩
  have hl : ((sortN (x :: r)).map nmV).length = (x :: r).length := by rw [List.length_map,sortN_len]
  refine ⟨?_,?_,fun s id ep off len c h => by cases h⟩
  ·have e : ((sortN (x :: r)).map nmV).take (x :: r).length = (sortN (x :: r)).map nmV := List.take_of_length_le (by omega)
   simp only [List.length_cons] at e
   simp [elems,hl,e]
  ·simp [lenSV,hl]
set_option maxHeartbeats 1000000 in
theorem bindings_ok (id mid : Nat) (vs : List AVal) (H R : Hp) (h : HeapP σ id mid vs H) (hs : Same H R) (hn : R.length < 2 ^ 30) (hsm : ∀ p ∈ R,p.2.length < 2 ^ 30) :
  Called CU.cfg d 40 [.ptr id 0] σ fun l σ' => Grows σ σ' ∧ ∃ us,BRows σ' σ.length l us R := by
 refine called_of (fn := CU.a40) rfl (Nat.le_of_ble_eq_true rfl) ?_
 simp only [CU.a40, CU.o]
 have e1 : ([AVal.map mid] : List AVal)[0]? = some (.map mid) := rfl
 simp -dsimp only [↓WPd,↓Zm,↓Zn,WPu,Za,Zb,Zc,Zd,Ze,Zf,Zg,Zh,Nat.reduceEqDiff,Nat.reduceLT,Zi,Zj,Zk,Zl,Nat.reduceBEq,isnil_ptr,faddr_ptr,Nat.add_zero,load_cells h.obj,e1]
 refine calledW_of (mkeys_ok d σ (.map mid) rfl) ?_
 rintro r σ1 ⟨rfl,rfl⟩
 have g1 : Grows σ (σ ++ [AObj.cells [.map mid]]) := Grows.app _ _
 have ho : (σ ++ [AObj.cells [.map mid]])[σ.length]? = some (.cells [.map mid]) := by simp
 have h1 := h.grow g1
 generalize σ ++ [AObj.cells [.map mid]] = σ1 at g1 ho h1
 simp -dsimp only [↓WPd,↓Zm,↓Zn,WPu,Za,Zb,Zc,Zd,Ze,Zf,Zg,Zh,Nat.reduceEqDiff,Nat.reduceLT,Zi,Zj,Zk,Zl,Nat.reduceBEq]
 have hm := h1.map
 have em : (H.map fun p => nmV p.1) = (H.map (·.1)).map nmV := by rw [List.map_map]; rfl
 rw [em] at hm
 have hHR := hs.perm.length_eq
 refine calledW_of (sorted_ok d σ1 σ.length mid (H.map (·.1)) vs ho hm (by rw [List.length_map]; omega)) ?_
 rintro r σ2 ⟨hr,g2⟩
 rw [hs.sort] at hr
 have g02 := g1.trans g2
 have h2 := h1.grow g2
 have lr : lenSV r = some R.length := by rw [hr.len]; simp
 simp -dsimp only [↓WPd,↓Zm,↓Zn,WPu,Za,Zb,Zc,Zd,Ze,Zf,Zg,Zh,Nat.reduceEqDiff,Nat.reduceLT,Zi,Zj,Zk,Zl,Nat.reduceBEq,lr]
 refine loop_rule2 (fun m vs' σ' => ∃ (k : Nat) (l : AVal) (us : List AVal),k ≤ R.length ∧ m = R.length - k ∧ vs' = [.ptr id 0,l,r,.int .i64 R.length,.int .i64 (k : Nat)] ∧ Grows σ σ' ∧ Grows σ2 σ' ∧ BRows σ' σ2.length l us (R.take k))
  [3] (fun e vs' σ' => e = .exit 0 ∧ ∃ (l : AVal) (us : List AVal),vs' = [l] ∧ Grows σ σ' ∧ BRows σ' σ2.length l us R) R.length
  ⟨0,.nilslice,[],Nat.zero_le _,rfl,?_,g02,Keeps.refl _ _,XRows.nil _ _ _ _⟩ ?_ ?_
 ·simp -dsimp only [↓WPd,↓Zm,↓Zn,WPu,Za,Zb,Zc,Zd,Ze,Zf,Zg,Zh,Nat.reduceEqDiff,Nat.reduceLT,Zi,Zj,Zk,Zl,Nat.reduceBEq]; rfl
 ·rintro m vs' σ' ⟨k,l,us,hk,rfl,rfl,g,g',hx⟩
  simp -dsimp only [↓WPd,↓Zm,↓Zn,WPu,Za,Zb,Zc,Zd,Ze,Zf,Zg,Zh,Nat.reduceEqDiff,Nat.reduceLT,Zi,Zj,Zk,Zl,Nat.reduceBEq]
  refine condP_dec (fun hc => ?_) (fun hc => ?_)
  ·have hk' : k < R.length := by omega
   have hr' := hr.grow g'
   have hke : k < ((R.map (·.1)).map nmV).length := by simpa using hk'
   have ia : iaddrV 2 r (.int .i64 k) = some (addrOf 2 r k) := hr'.iaddr hke .i64
   have hb := (hr'.addr hke .i64).2
   have hb' : behind σ' (addrOf 2 r k) = some (nmC R[k].1,0) := by
    rw [hb]; simp only [List.getElem_map,nm_cells]
   have ld : loadV σ' 2 true (addrOf 2 r k) = some (nmV R[k].1) := loadN_at hb' (by simp [nmC])
   have ho' : (σ' ++ [AObj.cells (nmC R[k].1)])[σ'.length]? = some (.cells (nmC R[k].1)) := by simp
   have g3 : Grows σ' (σ' ++ [AObj.cells (nmC R[k].1)]) := Grows.app _ _
   simp -dsimp only [↓WPd,↓Zm,↓Zn,WPu,Za,Zb,Zc,Zd,Ze,Zf,Zg,Zh,Nat.reduceEqDiff,Nat.reduceLT,Zi,Zj,Zk,Zl,Nat.reduceBEq,ia,ld,nm_putB]
   have h3 := (h2.grow g').grow g3
   have hx3 := hx.grow g3
   have g03 := g.trans g3
   have g23 := g'.trans g3
   have hl3 : σ2.length ≤ (σ' ++ [AObj.cells (nmC R[k].1)]).length := g23.1
   generalize σ' ++ [AObj.cells (nmC R[k].1)] = σ3 at ho' g3 h3 hx3 g03 g23 hl3
   obtain ⟨t,u1,u2⟩ := h3.look1 R[k].1
   have hlk : (lk H R[k].1).getD [] = R[k].2 := by
    rw [lk_of_mem hs.wf.keys (t := R[k].2) (hs.perm.mem_iff.2 (show (R[k].1,R[k].2) ∈ R from List.getElem_mem hk'))]; rfl
   rw [hlk] at u2
   refine drawnP_of rfl ?_
   simp -dsimp only [↓WPd,↓Zm,↓Zn,WPu,Za,Zb,Zc,Zd,Ze,Zf,Zg,Zh,Nat.reduceEqDiff,Nat.reduceLT,Zi,Zj,Zk,Zl,Nat.reduceBEq,↓WPed,WPeu,Nat.reduceAdd,and_self,load_nm ho',isnil_ptr,faddr_ptr,Nat.add_zero,load_cells h3.obj,e1,u1]
   refine calledW_of (cclone_ok d σ3 t R[k].2 (hsm _ (List.getElem_mem hk')) (u2 σ3)) ?_
   rintro u σ4 ⟨g4,ou,fu,nu⟩
   obtain ⟨l',σ5,a1,a2,a3⟩ := hx3.push hl3 g4 (x := bdV R[k].1 u) ou (fu.le (Nat.le_refl _)) nu 40 (by have := hx3.lex; have := hx3.len; simp only [List.length_map,List.length_take] at this; omega)
   have fl := elems_fs 3 (AVal.tagL [bdV R[k].1 u]) true σ4 [bdV R[k].1 u]
   simp -dsimp only [↓WPd,↓Zm,↓Zn,WPu,Za,Zb,Zc,Zd,Ze,Zf,Zg,Zh,Nat.reduceEqDiff,Nat.reduceLT,Zi,Zj,Zk,Zl,Nat.reduceBEq,↓WPed,WPeu,Nat.reduceAdd,and_self,load_nm ho',load_nm (g4.get ho'),isnil_ptr,faddr_ptr,Nat.add_zero,bd_build R[k].1 u ou.one,bd_lit R[k].1 u ou.one,fl,a1]
   have ht : R.take (k + 1) = R.take k ++ [R[k]] := List.take_succ_eq_append_getElem hk'
   have hul : us.length = (R.take k).length := by have := hx3.len; simpa using this
   have hbd : bdVs (R.take (k + 1)) (us ++ [u]) = bdVs (R.take k) us ++ [bdV R[k].1 u] := by
    rw [ht]; unfold bdVs
    rw [List.zipWith_append hul.symm]; rfl
   refine ⟨R.length - (k + 1),by omega,k + 1,l',us ++ [u],by omega,rfl,by rw [wrap_i64 (by omega) (by omega),Int.natCast_add,Int.natCast_one],?_,?_,?_⟩
   ·exact Keeps.trans (g03.trans g4) a3 fun i hi e => by have := g02.1; omega
   ·exact Keeps.trans (g23.trans g4) a3 fun i hi e => by omega
   ·rw [BRows,hbd,ht,List.map_append]; exact a2
  ·have : k = R.length := by omega
   subst this
   rw [List.take_length] at hx
   simp -dsimp only [↓WPd,↓Zm,↓Zn,WPu,Za,Zb,Zc,Zd,Ze,Zf,Zg,Zh,Nat.reduceEqDiff,Nat.reduceLT,Zi,Zj,Zk,Zl,Nat.reduceBEq]
   exact ⟨l,us,rfl,g,hx⟩
 ·rintro e σ' env ⟨rfl,l,us,hv,g,hx⟩
  simp only [List.map_cons,List.map_nil,List.cons.injEq,and_true] at hv
  simp -dsimp only [↓WPd,↓Zm,↓Zn,WPu,Za,Zb,Zc,Zd,Ze,Zf,Zg,Zh,Nat.reduceEqDiff,Nat.reduceLT,Zi,Zj,Zk,Zl,Nat.reduceBEq,hv]
  exact ⟨g,us,hx.lo g02.1⟩
end
def BdSl (σ : Store) (v : AVal) (R : Hp) : Prop := ∃ es,SlOf σ 3 v es ∧ Two (fun e p => ∃ u,e = bdV p.1 u ∧ SlOf σ 5 u (CC p.2)) es R
theorem BdSl.grow {σ σ' : Store} {v : AVal} {R : Hp} (h : BdSl σ v R) (g : Grows σ σ') : BdSl σ' v R := by
 obtain ⟨es,h1,h2⟩ := h
 exact ⟨es,h1.grow g,h2.mono fun e p ⟨u,hu,hs⟩ => ⟨u,hu,hs.grow g⟩⟩
theorem BdSl.len {σ : Store} {v : AVal} {R : Hp} (h : BdSl σ v R) : lenSV v = some R.length := by
 obtain ⟨es,h1,h2⟩ := h
 rw [← h2.len]; exact h1.len
theorem BdSl.at {σ : Store} {v : AVal} {R : Hp} (h : BdSl σ v R) {k : Nat} (hk : k < R.length) : ∃ q0 q2 u,iaddrV 3 v (.int .i64 k) = some (addrOf 3 v k) ∧ faddrV 0 (addrOf 3 v k) = some q0 ∧ loadV σ 2 true q0 = some (nmV R[k].1) ∧ faddrV 2 (addrOf 3 v k) = some q2 ∧ loadV σ 1 false q2 = some u ∧ SlOf σ 5 u (CC R[k].2) := by
 obtain ⟨es,h1,h2⟩ := h
 have hke : k < es.length := by rw [h2.len]; exact hk
 obtain ⟨e,he1,u,he2,he3⟩ := h2.get hk
 have hee : es[k] = e := by rw [List.getElem?_eq_getElem hke] at he1; exact Option.some.inj he1
 have hb := (h1.addr hke .i64).2
 rw [hee,he2] at hb
 have hb' : behind σ (addrOf 3 v k) = some (bdC (R[k]).1 u,0) := hb
 obtain ⟨q0,p0,b0⟩ := faddr_at hb' 0
 obtain ⟨q2,p2,b2⟩ := faddr_at hb' 2
 exact ⟨q0,q2,u,h1.iaddr hke .i64,p0,loadN_at b0 (by simp [bdC]),p2,load_at b2,he3⟩
theorem RefP.bds {σ : Store} {A : Nat → Prop} {id : Nat} {R : Hp} (h : RefP σ A id R) : ∃ w,σ[id]? = some (.cells [w]) ∧ BdSl σ w R := by
 obtain ⟨w,es,h1,h2,_,h4⟩ := h
 exact ⟨w,h1,es,h2,h4.mono fun e p ⟨u,hu,hs,_⟩ => ⟨u,hu,hs⟩⟩
theorem bdVs_get {R : Hp} {us : List AVal} (h : us.length = R.length) {k : Nat} (hk : k < R.length) : (bdVs R us)[k]? = some (bdV R[k].1 (us[k]'(by omega))) := by
 unfold bdVs
 rw [List.getElem?_zipWith,List.getElem?_eq_getElem hk,List.getElem?_eq_getElem (by omega)]
theorem BRows.bds {σ : Store} {lo : Nat} {l : AVal} {us : List AVal} {R : Hp} (h : BRows σ lo l us R) : BdSl σ l R := by
 have hl : us.length = R.length := by have := h.len; simpa using this
 refine ⟨_,h.row.sl,Two.of_get (by rw [h.lex]; exact hl) fun i a b hi hj => ?_⟩
 obtain ⟨hk,rfl⟩ := List.getElem?_eq_some_iff.1 hj
 have e := bdVs_get hl hk
 rw [hi] at e
 exact ⟨us[i]'(by omega),Option.some.inj e,(h.one i (us[i]'(by omega)) (CC R[i].2) (List.getElem?_eq_getElem _) (by simp [hk])).sl⟩
section
variable (d : Nat) (σ : Store)
theorem samebd_ok (a b : AVal) (R : Hp) (ha : BdSl σ a R) (hb : BdSl σ b R) (hR : R.length < 2 ^ 40) (hs : ∀ p ∈ R,p.2.length < 2 ^ 40) : Called CU.cfg d 54 [a,b] σ fun v σ' => v = .bool true ∧ Grows σ σ' := by
 refine called_of (fn := CU.a54) rfl (Nat.le_of_ble_eq_true rfl) ?_
 simp only [CU.a54, CU.o]
 have la := ha.len
 have lb := hb.len
 have e0 : ((R.length : Int) != (R.length : Int)) = false := by simp
 simp -dsimp only [↓WPd,↓Zm,↓Zn,WPu,Za,Zb,Zc,Zd,Ze,Zf,Zg,Zh,Nat.reduceEqDiff,Nat.reduceLT,Zi,Zj,Zk,Zl,Nat.reduceBEq,la,lb,e0]
 refine loop_rule2 (fun m vs σ' => ∃ k,k ≤ R.length ∧ m = R.length - k ∧ vs = [a,b,.int .i64 (k : Nat)] ∧ Grows σ σ')
  [] (fun e vs σ' => e = .exit 0 ∧ Grows σ σ') R.length ⟨0,Nat.zero_le _,rfl,?_,Keeps.refl _ _⟩ ?_ ?_
 ·simp -dsimp only [↓WPd,↓Zm,↓Zn,WPu,Za,Zb,Zc,Zd,Ze,Zf,Zg,Zh,Nat.reduceEqDiff,Nat.reduceLT,Zi,Zj,Zk,Zl,Nat.reduceBEq]; rfl
 ·rintro m vs σ' ⟨k,hk,rfl,rfl,g⟩
  simp -dsimp only [↓WPd,↓Zm,↓Zn,WPu,Za,Zb,Zc,Zd,Ze,Zf,Zg,Zh,Nat.reduceEqDiff,Nat.reduceLT,Zi,Zj,Zk,Zl,Nat.reduceBEq,la]
  refine condP_dec (fun hc => ?_) (fun hc => ?_)
  ·have hk' : k < R.length := by omega
   obtain ⟨q0,q2,u,a1,a2,a3,a4,a5,a6⟩ := (ha.grow g).at hk'
   obtain ⟨q0',q2',u',b1,b2,b3,b4,b5,b6⟩ := (hb.grow g).at hk'
   have en := nm_eqs R[k].1 R[k].1
   rw [decide_eq_true rfl] at en
   simp -dsimp only [↓WPd,↓Zm,↓Zn,WPu,Za,Zb,Zc,Zd,Ze,Zf,Zg,Zh,Nat.reduceEqDiff,Nat.reduceLT,Zi,Zj,Zk,Zl,Nat.reduceBEq,WPm,a1,a2,a3,a4,a5,b1,b2,b3,b4,b5,en]
   refine calledW_of (cequal_ok d σ' u u' R[k].2 R[k].2 (hs _ (List.getElem_mem hk')) a6 b6) ?_
   rintro r σ2 ⟨rfl,rfl⟩
   simp -dsimp only [↓WPd,↓Zm,↓Zn,WPu,Za,Zb,Zc,Zd,Ze,Zf,Zg,Zh,Nat.reduceEqDiff,Nat.reduceLT,Zi,Zj,Zk,Zl,Nat.reduceBEq,decide_true]
   refine ⟨R.length - (k + 1),by omega,k + 1,by omega,rfl,by rw [wrap_i64 (by omega) (by omega),Int.natCast_add,Int.natCast_one],g⟩
  ·simp -dsimp only [↓WPd,↓Zm,↓Zn,WPu,Za,Zb,Zc,Zd,Ze,Zf,Zg,Zh,Nat.reduceEqDiff,Nat.reduceLT,Zi,Zj,Zk,Zl,Nat.reduceBEq]
   exact g
 ·rintro e σ' env ⟨rfl,g⟩
  simp -dsimp only [↓WPd,↓Zm,↓Zn,WPu,Za,Zb,Zc,Zd,Ze,Zf,Zg,Zh,Nat.reduceEqDiff,Nat.reduceLT,Zi,Zj,Zk,Zl,Nat.reduceBEq]
  exact g
end
theorem BdArg.all {v : AVal} {bs : Hp} (h : BdArg v bs) {k : Nat} (hk : k < bs.length) : ∃ q0 q2 u,iaddrV 3 v (.int .i64 k) = some (addrOf 3 v k) ∧ faddrV 0 (addrOf 3 v k) = some q0 ∧ (∀ σ,loadV σ 2 true q0 = some (nmV bs[k].1)) ∧ faddrV 2 (addrOf 3 v k) = some q2 ∧ (∀ σ,loadV σ 1 false q2 = some u) ∧ Told u bs[k].2 := by
 obtain ⟨es,h1,h2⟩ := h.row
 have hke : k < es.length := by rw [h2.len]; exact hk
 obtain ⟨e,he1,u,he2,he3⟩ := h2.get hk
 have hee : es[k] = e := by rw [List.getElem?_eq_getElem hke] at he1; exact Option.some.inj he1
 have hb : ∀ σ,behind σ (addrOf 3 v k) = some (bdC (bs[k]).1 u,0) := fun σ => by
  have hb := ((h1 σ).addr hke .i64).2
  rw [hee,he2] at hb; exact hb
 obtain ⟨q0,p0,-⟩ := faddr_at (hb []) 0
 obtain ⟨q2,p2,-⟩ := faddr_at (hb []) 2
 refine ⟨q0,q2,u,(h1 []).iaddr hke .i64,p0,fun σ => ?_,p2,fun σ => ?_,he3⟩
 ·obtain ⟨q,r0,r1⟩ := faddr_at (hb σ) 0
  rw [p0] at r0
  rw [Option.some.inj r0]
  exact loadN_at r1 (by simp [bdC])
 ·obtain ⟨q,r0,r1⟩ := faddr_at (hb σ) 2
  rw [p2] at r0
  rw [Option.some.inj r0]
  exact load_at r1
section
variable (d : Nat) (σ : Store)
end
abbrev NN (ws : List Nm) : List AVal := ws.map nmV
section
variable (d : Nat) (σ : Store)
theorem Own.name {σ : Store} {l : AVal} {ws : List Nm} (h : Own σ 2 l (NN ws)) (v : Nm) (hx : ws.length < 2 ^ 40) :
  ∃ l' σ',appendV σ 2 16 l [nmV v] = some (l',σ') ∧ Own σ' 2 l' (NN (ws ++ [v])) ∧ Keeps (fun i => l.sid = some i) σ σ' ∧ (∀ id,l'.sid = some id → l.sid = some id ∨ id = σ.length) ∧ NoLit l' := by
 obtain ⟨l',σ',a,b,c,e,f⟩ := h.append [nmV v] 16 (by simp only [List.length_map,List.length_singleton]; omega)
 exact ⟨l',σ',a,by simpa using b,c,e,f (.inr (by simp))⟩
end
section
variable (d : Nat) (σ : Store)
end
def tryC (k : Nat) (lv wv : AVal) : List AVal := [.int .u8 k,.int .i64 (-1),lv,wv]
abbrev tryZ : List AVal := [.int .u8 0,.int .i64 0,.nilslice,.nilslice]
theorem try_put {σ σ' : Store} {i : Nat} {k : Nat} {lv wv : AVal} (h : σ[i]? = some (.cells tryZ)) (hl : lv.one = true) (hw : wv.one = true) :
  storeV σ 4 (.ptr i 0) (.agg (tryC k lv wv)) = some (σ.set i (.cells (tryC k lv wv))) ∧ loadV (σ.set i (.cells (tryC k lv wv))) 4 true (.ptr i 0) = some (.agg (tryC k lv wv)) := by
 refine ⟨storeN_cells (n := 4) (cs' := tryC k lv wv) h rfl rfl ?_,loadN_cells (get_set h) rfl⟩
 simp only [tryC,List.all_cons,List.all_nil,hl,hw]; rfl
section
variable (d : Nat) (σ : Store)
end
theorem SlOf.noMap {σ : Store} {sz : Nat} {v : AVal} {es ks vs : List AVal} {id : Nat} (h : SlOf σ sz v es) (ho : σ[id]? = some (.map ks vs)) : v.sid ≠ some id := by
 intro hs
 rcases h.cases with ⟨rfl,_⟩ | ⟨t,f,rfl⟩ | ⟨id',ep,off,cap,sz',xs,epo,fl,rfl,h1,_⟩
 ·cases hs
 ·cases hs
 ·injection hs with hs; subst hs; rw [ho] at h1; cases h1
def delN (H : Hp) (v : Nm) : Hp := H.filter fun p => decide (p.1 ≠ v)
theorem WF.filter {H : Hp} (h : WF H) (f : Nm × List Cel → Bool) : WF (H.filter f) :=
 ⟨(List.filter_sublist.map _).nodup h.keys,fun p hp => h.ok p (List.mem_filter.1 hp).1⟩
theorem Two.erase {α β : Type} {Q : α → β → Prop} {us : List α} {ws : List β} (h : Two Q us ws) (i : Nat) : Two Q (us.eraseIdx i) (ws.eraseIdx i) := by
 rw [List.eraseIdx_eq_take_drop_succ,List.eraseIdx_eq_take_drop_succ]
 exact (h.take i).append (h.drop (i + 1))
def dropH (H : Hp) (ws : List Nm) : Hp := ws.foldl delN H
def dropR (R : Hp) (ws : List Nm) : Hp := R.filter fun p => !ws.contains p.1
theorem dropH_eq : ∀ (ws : List Nm) (H : Hp),dropH H ws = H.filter fun p => !ws.contains p.1
 | [],H => by
  simp only [dropH,List.foldl_nil]
  exact (List.filter_eq_self.2 fun _ _ => by simp).symm
 | v :: ws,H => by
  have ih := dropH_eq ws (delN H v)
  simp only [dropH,List.foldl_cons] at ih ⊢
  rw [ih,delN,List.filter_filter]
  congr 1
  funext p
  by_cases e : p.1 = v
  ·simp [e]
  ·have e2 : ¬ (v = p.1) := fun h => e h.symm
   simp [List.contains_cons,e]
theorem Same.drop {H R : Hp} (h : Same H R) (ws : List Nm) : Same (dropH H ws) (dropR R ws) := by
 rw [dropH_eq]
 exact ⟨h.wf.filter _,h.perm.filter _,List.Pairwise.sublist List.filter_sublist h.rise⟩
section
variable (d : Nat) (σ : Store)
theorem hfork_ok (id mid : Nat) (vs : List AVal) (H : Hp) (h : HeapP σ id mid vs H) : Called CU.cfg d 97 [.ptr id 0] σ fun r σ' => ∃ id' mid',r = .ptr id' 0 ∧ HeapP σ' id' mid' vs H ∧ Grows σ σ' ∧ σ.length ≤ id' ∧ σ.length ≤ mid' := by
 refine called_of (fn := CU.a97) rfl (Nat.le_of_ble_eq_true rfl) ?_
 simp only [CU.a97, CU.o]
 have e1 : ([AVal.map mid] : List AVal)[0]? = some (.map mid) := rfl
 simp -dsimp only [↓WPd,↓Zm,↓Zn,WPu,Za,Zb,Zc,Zd,Ze,Zf,Zg,Zh,Nat.reduceEqDiff,Nat.reduceLT,Zi,Zj,Zk,Zl,Nat.reduceBEq,WPm,isnil_ptr,faddr_ptr,Nat.add_zero,load_cells h.obj,e1]
 have hk : kvOf σ (.map mid) = some (H.map fun p => nmV p.1,vs) := by simp only [kvOf,h.map]
 refine calledW_of (called_nat (Q := fun r σ' => r = .map σ.length ∧ σ' = σ ++ [.map (H.map fun p => nmV p.1) vs]) rfl (show natMC [.map mid] σ = some (.map σ.length,σ ++ [.map (H.map fun p => nmV p.1) vs]) by simp only [natMC,hk]) ⟨rfl,rfl⟩) ?_
 rintro r σ1 ⟨rfl,rfl⟩
 have e2 : fillA [AVal.nilmap] [(0,1,.map σ.length)] = some [.map σ.length] := rfl
 have e3 : [AVal.map σ.length].all AVal.one = true := rfl
 simp -dsimp only [↓WPd,↓Zm,↓Zn,WPu,Za,Zb,Zc,Zd,Ze,Zf,Zg,Zh,Nat.reduceEqDiff,Nat.reduceLT,Zi,Zj,Zk,Zl,Nat.reduceBEq,WPm,e2,e3,cells_agg]
 refine ⟨_,σ.length,rfl,⟨by simp,by simp [List.getElem?_append],h.vals,h.wf⟩,?_,by simp,Nat.le_refl _⟩
 exact (Grows.app _ _).trans (Grows.app _ _)
set_option maxHeartbeats 1000000 in
theorem rfork_ok (A : Nat → Prop) (id : Nat) (R : Hp) (h : RefP σ A id R) (hR : R.length < 2 ^ 30) : Called CU.cfg d 101 [.ptr id 0] σ fun r σ' => ∃ id',r = .ptr id' 0 ∧ RefP σ' (fun i => A i ∨ σ.length ≤ i) id' R ∧ Grows σ σ' ∧ σ.length ≤ id' := by
 refine called_of (fn := CU.a101) rfl (Nat.le_of_ble_eq_true rfl) ?_
 simp only [CU.a101, CU.o]
 obtain ⟨w,es,o1,o2,o3,o4⟩ := h
 have e1 : fillA [AVal.nilslice] [] = some [AVal.nilslice] := rfl
 have e2 : [AVal.nilslice].all AVal.one = true := rfl
 simp -dsimp only [↓WPd,↓Zm,↓Zn,WPu,Za,Zb,Zc,Zd,Ze,Zf,Zg,Zh,Nat.reduceEqDiff,Nat.reduceLT,Zi,Zj,Zk,Zl,Nat.reduceBEq,WPm,isnil_ptr,e1,e2,cells_agg]
 have oj : (σ ++ [AObj.cells [.nilslice]])[σ.length]? = some (.cells [.nilslice]) := by simp
 have g1 : Grows σ (σ ++ [AObj.cells [.nilslice]]) := Grows.app _ _
 have hlt : σ.length < (σ ++ [AObj.cells [.nilslice]]).length := by simp
 generalize σ ++ [AObj.cells [.nilslice]] = σ1 at oj g1 hlt
 have e3 : ([w] : List AVal)[0]? = some w := rfl
 have e4 : ([AVal.nilslice] : List AVal)[0]? = some .nilslice := rfl
 have hel := o4.len
 obtain ⟨x,σ2,a1,a2,a3,a4,a5⟩ := (Own.nil σ1 3).append es 40 (by simp only [List.length_nil]; omega)
 rw [List.nil_append] at a2
 have g2 : Grows σ1 σ2 := a3.mono fun i _ h => by cases h
 have oj2 := g2.get oj
 have st := store_cells oj2 (off := 0) (v := x) (by simp) a2.one
 simp -dsimp only [↓WPd,↓Zm,↓Zn,WPu,Za,Zb,Zc,Zd,Ze,Zf,Zg,Zh,Nat.reduceEqDiff,Nat.reduceLT,Zi,Zj,Zk,Zl,Nat.reduceBEq,WPm,isnil_ptr,faddr_ptr,Nat.add_zero,load_cells oj,load_cells (g1.get o1),e3,e4,(o2.grow g1).els,a1,st]
 have g12 := g1.trans g2
 have fx : ∀ i,x.sid = some i → σ.length ≤ i ∧ i ≠ σ.length := fun i hi => by
  rcases a4 i hi with e | e
  ·cases e
  ·omega
 have k3 : Keeps (fun i => i = σ.length) σ2 (σ2.set σ.length (.cells [x])) := Keeps.set _ _ _
 refine ⟨_,rfl,⟨x,es,get_set oj2,a2.sl.keeps k3 fun i hi e => (fx i hi).2 e,fun i hi => .inr (fx i hi).1,?_⟩,Keeps.trans g12 k3 fun i hi e => by omega,Nat.le_refl _⟩
 refine o4.mono fun e p ⟨u,hu,hs,ha⟩ => ⟨u,hu,?_,fun i hi => .inl (ha i hi)⟩
 exact (hs.grow g12).keeps k3 fun i hi e => by have := hs.lt hi; omega
end
def Vw (σ σ' : Store) : Prop := ∀ (sz : Nat) (u : AVal) (us : List AVal),SlOf σ sz u us → SlOf σ' sz u us
theorem Vw.refl (σ : Store) : Vw σ σ := fun _ _ _ h => h
theorem Vw.trans {σ σ1 σ2 : Store} (h : Vw σ σ1) (h' : Vw σ1 σ2) : Vw σ σ2 := fun sz u us hu => h' sz u us (h sz u us hu)
theorem Vw.grow {σ σ' : Store} (g : Grows σ σ') : Vw σ σ' := fun _ _ _ h => h.grow g
theorem Vw.cell {σ σ' : Store} {id : Nat} {cs : List AVal} (ho : σ[id]? = some (.cells cs)) (k : Keeps (fun i => i = id) σ σ') : Vw σ σ' := fun _ _ _ h => h.keeps k fun i hi e => h.noCell ho (e ▸ hi)
theorem Vw.map {σ σ' : Store} {id : Nat} {ks vs : List AVal} (ho : σ[id]? = some (.map ks vs)) (k : Keeps (fun i => i = id) σ σ') : Vw σ σ' := fun _ _ _ h => h.keeps k fun i hi e => h.noMap ho (e ▸ hi)
theorem Vw.app {σ σ' : Store} {sz bytes : Nat} {v v' : AVal} {es ys : List AVal} (h : Own σ sz v es) (ha : appendV σ sz bytes v ys = some (v',σ')) : Vw σ σ' := fun _ _ _ hu => h.append_view ha hu
theorem Terms.vw {σ σ' : Store} {v : AVal} {ts : List (List Cel)} (h : Terms σ v ts) (w : Vw σ σ') : Terms σ' v ts := by
 obtain ⟨es,h1,h2⟩ := h
 exact ⟨es,w _ _ _ h1,h2.mono fun e t he => w _ _ _ he⟩
theorem BdSl.vw {σ σ' : Store} {v : AVal} {R : Hp} (h : BdSl σ v R) (w : Vw σ σ') : BdSl σ' v R := by
 obtain ⟨es,h1,h2⟩ := h
 exact ⟨es,w _ _ _ h1,h2.mono fun e p ⟨u,hu,hs⟩ => ⟨u,hu,w _ _ _ hs⟩⟩
theorem RefP.vw {σ σ' : Store} {A : Nat → Prop} {id : Nat} {R : Hp} (h : RefP σ A id R) (w : Vw σ σ') (ho : ∀ cs,σ[id]? = some (.cells cs) → σ'[id]? = some (.cells cs)) : RefP σ' A id R := by
 obtain ⟨x,es,h1,h2,h3,h4⟩ := h
 exact ⟨x,es,ho _ h1,w _ _ _ h2,h3,h4.mono fun e p ⟨u,hu,hs,ha⟩ => ⟨u,hu,w _ _ _ hs,ha⟩⟩
theorem Two.app {α β : Type} {R : α → β → Prop} : ∀ {a a' : List α} {b b' : List β},Two R a b → Two R a' b' → Two R (a ++ a') (b ++ b')
 | _,_,_,_,.nil,h => h
 | _,_,_,_,.cons x h,h' => .cons x (Two.app h h')
theorem Terms.uncons {σ : Store} {v : AVal} {t : List Cel} {ts : List (List Cel)} (h : Terms σ v (t :: ts)) : (∃ e,iaddrV 1 v (.int .i64 0) = some (addrOf 1 v 0) ∧ loadV σ 1 false (addrOf 1 v 0) = some e ∧ SlOf σ 5 e (CC t)) ∧ ∃ v',sliceV 1 v (some (.int .i64 1)) none none = some v' ∧ Terms σ v' ts := by
 refine ⟨?_,?_⟩
 ·exact h.at (i := 0) (by simp)
 ·obtain ⟨es,h1,h2⟩ := h
  cases h2 with
  | cons x h2 =>
   obtain ⟨v',a1,a2,-⟩ := h1.sub_lo (lo := 1) (by simp) .i64
   exact ⟨v',a1,_,a2,h2⟩
def Lsts (σ : Store) (l : AVal) (ts : List (List AVal)) : Prop := ∃ es,SlOf σ 1 l es ∧ Two (fun e t => SlOf σ 1 e t) es ts
theorem Lsts.grow {σ σ' : Store} {l : AVal} {ts : List (List AVal)} (h : Lsts σ l ts) (g : Grows σ σ') : Lsts σ' l ts := by
 obtain ⟨es,h1,h2⟩ := h
 exact ⟨es,h1.grow g,h2.mono fun e t he => he.grow g⟩
theorem Lsts.len {σ : Store} {l : AVal} {ts : List (List AVal)} (h : Lsts σ l ts) : lenSV l = some ts.length := by
 obtain ⟨es,h1,h2⟩ := h
 rw [← h2.len]; exact h1.len
theorem Lsts.at {σ : Store} {l : AVal} {ts : List (List AVal)} (h : Lsts σ l ts) {i : Nat} (hi : i < ts.length) : ∃ e,iaddrV 1 l (.int .i64 i) = some (addrOf 1 l i) ∧ loadV σ 1 false (addrOf 1 l i) = some e ∧ SlOf σ 1 e ts[i] := by
 obtain ⟨es,h1,h2⟩ := h
 have hl : i < es.length := by rw [h2.len]; exact hi
 obtain ⟨e,e1,e2⟩ := h2.get hi
 have he : es[i] = e := by rw [List.getElem?_eq_getElem hl] at e1; exact Option.some.inj e1
 have := h1.load1 hl (by rw [he]; exact e2.one) 1
 rw [he] at this
 exact ⟨e,h1.iaddr hl .i64,this,e2⟩
section
variable (d : Nat) (σ : Store)
theorem growt_ok (n : Nat) (hn : n < 2 ^ 30) : Called CU.cfg d 143 [.nilslice,.int .i64 n] σ fun v σ' => (n = 0 ∧ v = .nilslice ∧ σ' = σ) ∨ (0 < n ∧ v = .slice 1 σ.length 0 0 0 none ∧ σ' = σ ++ [.arr 1 ((List.replicate n AVal.nilslice)) 0 0]) := by
 refine called_of (fn := CU.a143) rfl (Nat.le_of_ble_eq_true rfl) ?_
 have e1 : decide ((n : Int) < 0) = false := by simp
 have e2 : capSV .nilslice = some 0 := rfl
 have e3 : lenSV .nilslice = some 0 := rfl
 have w1 : IntKind.i64.wrap (((0 : Nat) : Int) - ((0 : Nat) : Int)) = 0 := by decide
 have w2 : IntKind.i64.wrap ((n : Int) - 0) = (n : Int) := by rw [wrap_i64 (by omega) (by omega)]; omega
 simp only [CU.a143, CU.o]
 simp -dsimp only [↓WPd,↓Zm,↓Zn,WPu,Za,Zb,Zc,Zd,Ze,Zf,Zg,Zh,Nat.reduceEqDiff,Nat.reduceLT,Zi,Zj,Zk,Zl,Nat.reduceBEq,e1,e2,e3,w1,w2]
 refine condP_dec (fun h => ?_) (fun h => ?_)
 ·have hn0 : 0 < n := by omega
  have s1 : sliceV 1 .nilslice none (some (.int .i64 ((0 : Nat) : Int))) none = some .nilslice := rfl
  have a1 : appzV σ 1 24 [.nilslice] false .nilslice (.int .i64 (n : Int)) = some (.slice 1 σ.length 0 0 n none,σ ++ [.arr 1 ((List.replicate n AVal.nilslice)) 0 0]) := by
   have e : (0 : Int) ≤ (n : Int) ∧ (n : Int) * ((24 : Nat) : Int) ≤ apLim := by
    refine ⟨by omega,?_⟩
    have : (apLim : Int) = 70368744177664 := rfl
    omega
   simp only [appzV]
   rw [if_pos e,if_neg (by omega)]
   simp [zel,AVal.reform]
  have s2 : sliceV 1 (.slice 1 σ.length 0 0 n none) none (some (.int .i64 ((0 : Nat) : Int))) none = some (.slice 1 σ.length 0 0 0 none) := by
   have e : obnd n n none = some n := rfl
   simp only [sliceV,if_true,obnd_none,Option.getD_none]
   rw [obnd_some _ _ _ (Nat.zero_le n)]
   simp
  simp -dsimp only [↓WPd,↓Zm,↓Zn,WPu,Za,Zb,Zc,Zd,Ze,Zf,Zg,Zh,Nat.reduceEqDiff,Nat.reduceLT,Zi,Zj,Zk,Zl,Nat.reduceBEq,oev,e2,e3,s1,a1,s2]
  exact .inr ⟨hn0,trivial⟩
 ·simp -dsimp only [↓WPd,↓Zm,↓Zn,WPu,Za,Zb,Zc,Zd,Ze,Zf,Zg,Zh,Nat.reduceEqDiff,Nat.reduceLT,Zi,Zj,Zk,Zl,Nat.reduceBEq]
  exact .inl ⟨by omega,trivial⟩
theorem concatt_ok (l : AVal) (ts : List (List AVal)) (hx : ts.length < 2 ^ 30) (hs : ts.flatten.length < 2 ^ 30) (hl : Lsts σ l ts) : Called CU.cfg d 99 [l] σ fun v σ' => Grows σ σ' ∧ Own σ' 1 v (ts.flatten) ∧ Fresh σ.length v ∧ NoLit v := by
 refine called_of (fn := CU.a99) rfl (Nat.le_of_ble_eq_true rfl) ?_
 have ll := hl.len
 have pre : ∀ k,(ts.take k).flatten.length ≤ ts.flatten.length := fun k => by
  conv => rhs; rw [← List.take_append_drop k ts,List.flatten_append,List.length_append]
  omega
 have stp : ∀ {k : Nat} (h : k < ts.length),(ts.take (k + 1)).flatten = (ts.take k).flatten ++ ts[k] := fun h => by
  rw [List.take_succ_eq_append_getElem h,List.flatten_append]; simp
 simp only [CU.a99, CU.o]
 simp -dsimp only [↓WPd,↓Zm,↓Zn,WPu,Za,Zb,Zc,Zd,Ze,Zf,Zg,Zh,Nat.reduceEqDiff,Nat.reduceLT,Zi,Zj,Zk,Zl,Nat.reduceBEq,ll]
 refine loop_rule2 (fun m vs σ' => ∃ k,k ≤ ts.length ∧ m = ts.length - k ∧ vs = [l,.int .i64 ((ts.take k).flatten.length : Nat),l,.int .i64 ts.length,.int .i64 k] ∧ σ' = σ) [0,3]
  (fun e vs σ' => e = .exit 0 ∧ vs = [l,.int .i64 (ts.flatten.length : Nat)] ∧ σ' = σ) ts.length ⟨0,Nat.zero_le _,rfl,?_,rfl⟩ ?_ ?_
 ·simp -dsimp only [↓WPd,↓Zm,↓Zn,WPu,Za,Zb,Zc,Zd,Ze,Zf,Zg,Zh,Nat.reduceEqDiff,Nat.reduceLT,Zi,Zj,Zk,Zl,Nat.reduceBEq]; rfl
 ·rintro m vs σ' ⟨k,hk,rfl,rfl,rfl⟩
  simp -dsimp only [↓WPd,↓Zm,↓Zn,WPu,Za,Zb,Zc,Zd,Ze,Zf,Zg,Zh,Nat.reduceEqDiff,Nat.reduceLT,Zi,Zj,Zk,Zl,Nat.reduceBEq]
  refine condP_dec (fun h => ?_) (fun h => ?_)
  ·have hk' : k < ts.length := by omega
   obtain ⟨e,e1,e2,e3⟩ := hl.at hk'
   have le := e3.len
   have p1 := pre (k + 1)
   have p2 := stp hk'
   have p3 := congrArg List.length p2
   simp only [List.length_append] at p3
   have w : IntKind.i64.wrap ((((ts.take k).flatten.length : Nat) : Int) + ((ts[k].length : Nat) : Int)) = (((ts.take (k + 1)).flatten.length : Nat) : Int) := by rw [wrap_i64 (by omega) (by omega)]; omega
   have n0 : decide ((((ts.take (k + 1)).flatten.length : Nat) : Int) < 0) = false := by simp
   simp -dsimp only [↓WPd,↓Zm,↓Zn,WPu,Za,Zb,Zc,Zd,Ze,Zf,Zg,Zh,Nat.reduceEqDiff,Nat.reduceLT,Zi,Zj,Zk,Zl,Nat.reduceBEq,e1,e2,le,w,n0]
   exact ⟨ts.length - (k + 1),by omega,k + 1,by omega,rfl,by rw [wrap_i64 (by omega) (by omega),Int.natCast_add,Int.natCast_one],trivial⟩
  ·simp -dsimp only [↓WPd,↓Zm,↓Zn,WPu,Za,Zb,Zc,Zd,Ze,Zf,Zg,Zh,Nat.reduceEqDiff,Nat.reduceLT,Zi,Zj,Zk,Zl,Nat.reduceBEq]
   have : k = ts.length := by omega
   subst this
   rw [List.take_length]
   exact ⟨rfl,trivial⟩
 ·rintro e σ' env ⟨rfl,hv,rfl⟩
  simp only [List.map_cons,List.map_nil,List.cons.injEq,and_true] at hv
  obtain ⟨v0,v3⟩ := hv
  simp -dsimp only [↓WPd,↓Zm,↓Zn,WPu,Za,Zb,Zc,Zd,Ze,Zf,Zg,Zh,Nat.reduceEqDiff,Nat.reduceLT,Zi,Zj,Zk,Zl,Nat.reduceBEq,v0,v3]
  refine calledW_of (growt_ok d σ' ts.flatten.length hs) ?_
  intro nx σ1 hnx
  have fr1 : Fresh σ'.length nx := by
   rcases hnx with ⟨_,rfl,_⟩ | ⟨_,rfl,_⟩
   ·exact Fresh.nil _
   ·intro i hi; simp [AVal.sid] at hi; omega
  have g1 : Grows σ' σ1 := by
   rcases hnx with ⟨_,_,rfl⟩ | ⟨_,_,rfl⟩
   ·exact Keeps.refl _ _
   ·exact Grows.app _ _
  simp -dsimp only [↓WPd,↓Zm,↓Zn,WPu,Za,Zb,Zc,Zd,Ze,Zf,Zg,Zh,Nat.reduceEqDiff,Nat.reduceLT,Zi,Zj,Zk,Zl,Nat.reduceBEq,v0,ll]
  refine loop_rule2 (fun m vs σ2 => ∃ (k : Nat) (x : AVal),k ≤ ts.length ∧ m = ts.length - k ∧ vs = [x,l,.int .i64 ts.length,.int .i64 k] ∧ Grows σ' σ2 ∧
    ((ts.flatten.length = 0 ∧ x = .nilslice) ∨ (0 < ts.flatten.length ∧ x = .slice 1 σ'.length 0 0 (ts.take k).flatten.length none ∧ ∃ zs : List AVal,σ2[σ'.length]? = some (.arr 1 (((ts.take k).flatten ++ zs)) 0 0) ∧ (ts.take k).flatten.length + zs.length = ts.flatten.length)))
   [6] (fun e vs σ2 => e = .exit 2 ∧ ∃ x,vs = [x] ∧ Grows σ' σ2 ∧ Own σ2 1 x (ts.flatten) ∧ Fresh σ'.length x ∧ NoLit x) ts.length ⟨0,nx,Nat.zero_le _,rfl,?_,g1,?_⟩ ?_ ?_
  ·simp -dsimp only [↓WPd,↓Zm,↓Zn,WPu,Za,Zb,Zc,Zd,Ze,Zf,Zg,Zh,Nat.reduceEqDiff,Nat.reduceLT,Zi,Zj,Zk,Zl,Nat.reduceBEq,v0]; rfl
  ·rcases hnx with ⟨h0,rfl,rfl⟩ | ⟨h0,rfl,rfl⟩
   ·exact .inl ⟨h0,rfl⟩
   ·exact .inr ⟨h0,rfl,List.replicate ts.flatten.length AVal.nilslice,by simp,by simp⟩
  ·rintro m vs σ2 ⟨k,x,hk,rfl,rfl,g,hx2⟩
   simp -dsimp only [↓WPd,↓Zm,↓Zn,WPu,Za,Zb,Zc,Zd,Ze,Zf,Zg,Zh,Nat.reduceEqDiff,Nat.reduceLT,Zi,Zj,Zk,Zl,Nat.reduceBEq]
   refine condP_dec (fun h => ?_) (fun h => ?_)
   ·have hk' : k < ts.length := by omega
    obtain ⟨e,e1,e2,e3⟩ := (hl.grow g).at hk'
    have p1 := pre (k + 1)
    have p2 := stp hk'
    have p3 := congrArg List.length p2
    simp only [List.length_append] at p3
    have fin : ∀ {x' : AVal} {σ3 : Store},Grows σ' σ3 → ((ts.flatten.length = 0 ∧ x' = .nilslice) ∨ (0 < ts.flatten.length ∧ x' = .slice 1 σ'.length 0 0 (ts.take (k + 1)).flatten.length none ∧ ∃ zs : List AVal,σ3[σ'.length]? = some (.arr 1 (((ts.take (k + 1)).flatten ++ zs)) 0 0) ∧ (ts.take (k + 1)).flatten.length + zs.length = ts.flatten.length)) →
      ∃ m',m' < ts.length - k ∧ ∃ k_1 x,k_1 ≤ ts.length ∧ m' = ts.length - k_1 ∧ [x',l,AVal.int .i64 ts.length,AVal.int .i64 (IntKind.i64.wrap ((k : Int) + 1))] = [x,l,.int .i64 ts.length,.int .i64 (k_1 : Nat)] ∧ Grows σ' σ3 ∧
       ((ts.flatten.length = 0 ∧ x = .nilslice) ∨ (0 < ts.flatten.length ∧ x = .slice 1 σ'.length 0 0 (ts.take k_1).flatten.length none ∧ ∃ zs : List AVal,σ3[σ'.length]? = some (.arr 1 (((ts.take k_1).flatten ++ zs)) 0 0) ∧ (ts.take k_1).flatten.length + zs.length = ts.flatten.length)) := by
     intro x' σ3 g3 h3
     exact ⟨ts.length - (k + 1),by omega,k + 1,x',by omega,rfl,by rw [wrap_i64 (by omega) (by omega),Int.natCast_add,Int.natCast_one],g3,h3⟩
    rcases hx2 with ⟨h0,rfl⟩ | ⟨h0,rfl,zs,hz1,hz2⟩
    ·have hnil : ts[k] = [] := List.eq_nil_of_length_eq_zero (by omega)
     have hel : elems 1 σ2 e = some [] := by rw [e3.els,hnil]
     have ap : appendV σ2 1 24 .nilslice [] = some (.nilslice,σ2) := rfl
     simp -dsimp only [↓WPd,↓Zm,↓Zn,WPu,Za,Zb,Zc,Zd,Ze,Zf,Zg,Zh,Nat.reduceEqDiff,Nat.reduceLT,Zi,Zj,Zk,Zl,Nat.reduceBEq,e1,e2,hel,ap]
     exact fin g (.inl ⟨h0,rfl⟩)
    ·by_cases hn : ts[k] = []
     ·have hel : elems 1 σ2 e = some [] := by rw [e3.els,hn]
      have ap : appendV σ2 1 24 (.slice 1 σ'.length 0 0 (ts.take k).flatten.length none) [] = some (.slice 1 σ'.length 0 0 (ts.take k).flatten.length none,σ2) := rfl
      have p4 : (ts.take (k + 1)).flatten = (ts.take k).flatten := by rw [p2,hn,List.append_nil]
      simp -dsimp only [↓WPd,↓Zm,↓Zn,WPu,Za,Zb,Zc,Zd,Ze,Zf,Zg,Zh,Nat.reduceEqDiff,Nat.reduceLT,Zi,Zj,Zk,Zl,Nat.reduceBEq,e1,e2,hel,ap]
      exact fin g (.inr ⟨h0,by rw [p4],zs,by rw [p4]; exact hz1,by rw [p4]; exact hz2⟩)
     ·have ap : appendV σ2 1 24 (.slice 1 σ'.length 0 0 (ts.take k).flatten.length none) (ts[k]) = some (.slice 1 σ'.length 0 0 (ts.take (k + 1)).flatten.length none,σ2.set σ'.length (.arr 1 (((ts.take (k + 1)).flatten ++ zs.drop ts[k].length)) 0 0)) := by
       have hne : (ts[k]).isEmpty = false := by cases h : ts[k] with
        | nil => exact absurd h hn
        | cons c r => rfl
       have c1 : (((ts.take k).flatten ++ zs)).length = ts.flatten.length := by rw [List.length_append]; exact hz2
       have hb : ((ts.take k).flatten.length + (ts[k]).length) * 24 ≤ apLim := by
        have : apLim = 70368744177664 := rfl
        omega
       simp only [appendV,hne,Bool.false_eq_true,if_false,growV,hz1,hb,Nat.le_refl,and_self,if_true]
       rw [if_neg (by simp only [Option.getD_none,c1,Nat.sub_zero]; omega)]
       simp only [Nat.zero_add,p3]
       congr 4
       rw [p2]
       rw [List.take_append_of_le_length (Nat.le_refl _),List.take_of_length_le (Nat.le_refl _)]
       rw [List.drop_append,List.drop_eq_nil_of_le (by omega),List.nil_append]
       congr 2
       omega
      simp -dsimp only [↓WPd,↓Zm,↓Zn,WPu,Za,Zb,Zc,Zd,Ze,Zf,Zg,Zh,Nat.reduceEqDiff,Nat.reduceLT,Zi,Zj,Zk,Zl,Nat.reduceBEq,e1,e2,e3.els,ap]
      refine fin (Keeps.trans g (Keeps.set _ _ _) fun i hi e => by omega) (.inr ⟨h0,rfl,zs.drop ts[k].length,?_,?_⟩)
      ·exact List.getElem?_set_self (List.getElem?_eq_some_iff.1 hz1).1
      ·rw [List.length_drop]; omega
   ·have hk2 : k = ts.length := by omega
    subst hk2
    rw [List.take_length] at hx2
    simp -dsimp only [↓WPd,↓Zm,↓Zn,WPu,Za,Zb,Zc,Zd,Ze,Zf,Zg,Zh,Nat.reduceEqDiff,Nat.reduceLT,Zi,Zj,Zk,Zl,Nat.reduceBEq]
    refine ⟨x,rfl,g,?_⟩
    rcases hx2 with ⟨h0,rfl⟩ | ⟨h0,rfl,zs,hz1,hz2⟩
    ·have : ts.flatten = [] := List.eq_nil_of_length_eq_zero h0
     rw [this]
     exact ⟨Own.nil _ _,Fresh.nil _,trivial⟩
    ·have : zs = [] := List.eq_nil_of_length_eq_zero (by omega)
     rw [this,List.append_nil] at hz1
     have := Own.whole hz1 (Nat.le_refl 0)
     exact ⟨this,fun i hi => by simp [AVal.sid] at hi; omega,trivial⟩
  ·rintro e σ2 env ⟨rfl,x,hv,h⟩
   simp only [List.map_cons,List.map_nil,List.cons.injEq,and_true] at hv
   simp -dsimp only [↓WPd,↓Zm,↓Zn,WPu,Za,Zb,Zc,Zd,Ze,Zf,Zg,Zh,Nat.reduceEqDiff,Nat.reduceLT,Zi,Zj,Zk,Zl,Nat.reduceBEq,hv]
   exact h
end
def lkL (ls : List (List Cel)) (i : Nat) : List Cel := ls[i]?.getD []
def isLoc (c : Cel) : Bool := decide (c.k = 4) && decide (c.v.1 = -1)
def badT (l : List Cel) : Bool := decide (l ≠ []) && !right l
def putB (t : List Cel) (ls : List (List Cel)) : Bool := t.any fun c => isLoc c && decide (lkL ls c.v.2.toNat = [])
def putC (ls : List (List Cel)) (c : Cel) : List Cel := if isLoc c then lkL ls c.v.2.toNat else [c]
def putO (t : List Cel) (ls : List (List Cel)) : List Cel := (t.map (putC ls)).flatten
def putE (t : List Cel) (ls : List (List Cel)) : Int := if !right t || ls.any badT then 6 else if putB t ls then 4 else if 256 < (putO t ls).length then 5 else 0
def putT (t : List Cel) (ls : List (List Cel)) : List Cel := if putE t ls = 0 then putO t ls else []
def Mv (id aid : Nat) (nv : AVal) : Nat → Prop := fun i => i = id ∨ i = aid ∨ nv.sid = some i
structure Att (fm : AVal → List AVal) (σ0 : Store) (id aid : Nat) (σ : Store) (nv : AVal) (s : TSt) : Prop where
 old : Grows σ0 σ
 lid : σ0.length ≤ id
 laid : σ0.length ≤ aid
 lnv : Fresh σ0.length nv
 obj : σ[id]? = some (.cells (fm nv))
 names : Own σ 2 nv (NN s.ws)
 arr : ∃ es,σ[aid]? = some (.arr 1 es 0 0) ∧ Two (fun e t => Own σ 5 e (CC t)) es s.ls
theorem Own.noArr {σ : Store} {sz sz' i ep fl : Nat} {v : AVal} {es xs : List AVal} (h : Own σ sz v es) (ho : σ[i]? = some (.arr sz' xs ep fl)) (hn : sz ≠ sz') : v.sid ≠ some i := by
 intro hv
 rcases h.own with ⟨rfl,_⟩ | ⟨t,rfl⟩ | ⟨id,ep,off,cap,ys,epo,fl,rfl,h1,_⟩
 ·cases hv
 ·cases hv
 ·injection hv with hv
  subst hv
  rw [ho] at h1; injection h1 with h1; injection h1 with h1; exact hn h1.symm
section
variable {fm : AVal → List AVal} {σ0 : Store} {id aid : Nat} {σ σ' : Store} {nv : AVal} {s : TSt}
theorem Att.lt (h : Att fm σ0 id aid σ nv s) : id < σ.length ∧ aid < σ.length := by
 obtain ⟨es,ha,-⟩ := h.arr
 exact ⟨(List.getElem?_eq_some_iff.1 h.obj).1,(List.getElem?_eq_some_iff.1 ha).1⟩
theorem Att.own5 (h : Att fm σ0 id aid σ nv s) {e : AVal} {p : List AVal} (he : Own σ 5 e p) (i : Nat) (hi : e.sid = some i) : ¬ Mv id aid nv i := by
 obtain ⟨es,ha,-⟩ := h.arr
 rintro (rfl | rfl | hv)
 ·exact he.noCell h.obj hi
 ·exact he.noArr ha (by decide) hi
 ·exact he.sizes h.names (by decide) hi hv
theorem Att.keep5 (h : Att fm σ0 id aid σ nv s) {e : AVal} {p : List AVal} (he : Own σ 5 e p) (hk : Keeps (Mv id aid nv) σ σ') : Own σ' 5 e p :=
 he.keeps hk fun i hi => h.own5 he i hi
theorem Att.grow (h : Att fm σ0 id aid σ nv s) (g : Grows σ σ') : Att fm σ0 id aid σ' nv s := by
 obtain ⟨es,ha,ht⟩ := h.arr
 exact ⟨h.old.trans g,h.lid,h.laid,h.lnv,g.get h.obj,h.names.grow g,es,g.get ha,ht.mono fun e t ho => ho.grow g⟩
theorem Mv.trans {nv1 : AVal} {σ1 σ2 : Store} (h1 : Keeps (Mv id aid nv) σ σ1) (hs : ∀ i,nv1.sid = some i → nv.sid = some i ∨ σ.length ≤ i) (h2 : Keeps (Mv id aid nv1) σ1 σ2) : Keeps (Mv id aid nv) σ σ2 :=
 Keeps.trans h1 h2 fun i hi e => by
  rcases e with rfl | rfl | e
  ·exact .inl rfl
  ·exact .inr (.inl rfl)
  ·rcases hs i e with e | e
   ·exact .inr (.inr e)
   ·omega
structure OT (σ : Store) (lo : Nat) (l : AVal) (es : List AVal) (ts : List (List Cel)) : Prop where
 row : Own σ 1 l es
 two : Two (fun e t => Own σ 5 e (CC t)) es ts
 frl : Fresh lo l
theorem ORows.ot {σ : Store} {lo : Nat} {l : AVal} {es : List AVal} {ts : List (List Cel)} (h : ORows σ lo 5 l es (ts.map CC)) : OT σ lo l es ts :=
 ⟨h.row,Two.of_get (by rw [h.len,List.length_map]) fun i a b ha hb => h.one i a (CC b) ha (by rw [List.getElem?_map,hb]; rfl),h.frl⟩
theorem OT.grow {lo : Nat} {l : AVal} {es : List AVal} {ts : List (List Cel)} (h : OT σ lo l es ts) (g : Grows σ σ') : OT σ' lo l es ts :=
 ⟨h.row.grow g,h.two.mono fun e t ho => ho.grow g,h.frl⟩
theorem OT.keep {lo : Nat} {l : AVal} {es : List AVal} {ts : List (List Cel)} (h : OT σ lo l es ts) (ha : Att fm σ0 id aid σ nv s) (h1 : id < lo) (h2 : aid < lo) (hk : Keeps (Mv id aid nv) σ σ') : OT σ' lo l es ts := by
 refine ⟨h.row.keeps hk fun i hi => ?_,h.two.mono fun e t ho => ha.keep5 ho hk,h.frl⟩
 have := h.frl i hi
 rintro (rfl | rfl | hv)
 ·omega
 ·omega
 ·exact h.row.sizes ha.names (by decide) hi hv
theorem OT.at {lo : Nat} {l : AVal} {es : List AVal} {ts : List (List Cel)} (h : OT σ lo l es ts) {i : Nat} (hi : i < ts.length) : ∃ e,iaddrV 1 l (.int .i64 i) = some (addrOf 1 l i) ∧ loadV σ 1 false (addrOf 1 l i) = some e ∧ Own σ 5 e (CC ts[i]) := by
 have hi' : i < es.length := by rw [h.two.len]; exact hi
 obtain ⟨e,he1,he2⟩ := h.two.get hi
 have hee : es[i] = e := by rw [List.getElem?_eq_getElem hi'] at he1; exact Option.some.inj he1
 refine ⟨e,h.row.sl.iaddr hi' .i64,?_,he2⟩
 have := h.row.sl.load1 hi' (by rw [hee]; exact he2.one) 1
 rw [hee] at this; exact this
theorem OT.len {lo : Nat} {l : AVal} {es : List AVal} {ts : List (List Cel)} (h : OT σ lo l es ts) : lenSV l = some ts.length := by
 rw [← h.two.len]; exact h.row.sl.len
end
def StepQ (fm : AVal → List AVal) (σ0 : Store) (id aid : Nat) (res : Option TSt) (s : TSt) (add : Nat) (nv : AVal) (σ : Store) : AVal → Store → Prop := fun r σ' =>
 ∃ (b : Bool) (nv' : AVal) (s' : TSt),r = .bool b ∧ Att fm σ0 id aid σ' nv' s' ∧ Keeps (Mv id aid nv) σ σ' ∧ (∀ i,nv'.sid = some i → nv.sid = some i ∨ σ.length ≤ i) ∧ res = (if b then some s' else none) ∧ s'.ws.length ≤ s.ws.length + add ∧ s'.ls.length = s.ls.length
section
variable (d : Nat)
theorem Two.set {α β : Type} {R : α → β → Prop} {us : List α} {ws : List β} (h : Two R us ws) (j : Nat) {a : α} {b : β} (hr : R a b) : Two R (us.set j a) (ws.set j b) :=
 Two.of_get (by simp [h.len]) fun i x y hx hy => by
  rw [List.getElem?_set] at hx hy
  split at hx
  ·rename_i hij
   rw [if_pos hij] at hy
   split at hx
   ·split at hy
    ·injection hx with hx; injection hy with hy; subst hx; subst hy; exact hr
    ·cases hy
   ·cases hx
  ·rename_i hij
   rw [if_neg hij] at hy
   exact h.at hx hy
theorem StepQ.plain {fm : AVal → List AVal} {σ0 : Store} {id aid : Nat} {res : Option TSt} {s : TSt} {add : Nat} {nv : AVal} {σ σ' : Store} (ha : Att fm σ0 id aid σ nv s) (g : Grows σ σ') (hr : res = none) : StepQ fm σ0 id aid res s add nv σ (.bool false) σ' :=
 ⟨false,nv,s,rfl,ha.grow g,g.any,fun i h => .inl h,by rw [hr]; rfl,by omega,rfl⟩
theorem Att.put {fm : AVal → List AVal} {σ0 : Store} {id aid : Nat} {nv : AVal} {s : TSt} {σ : Store} (ha : Att fm σ0 id aid σ nv s) {j : Nat} {u : AVal} {t : List Cel} (hu : Own σ 5 u (CC t)) (hj : j < s.ls.length) :
  ∃ σ',storeV σ 1 (.eptr aid 0 j 0) u = some σ' ∧ Att fm σ0 id aid σ' nv ⟨s.ls.set j t,s.ws⟩ ∧ Keeps (fun i => i = aid) σ σ' := by
 obtain ⟨es,h1,h2⟩ := ha.arr
 have hj' : j < es.length := by rw [h2.len]; exact hj
 obtain ⟨e,he1,he2⟩ := h2.get hj
 have hee : es[j] = e := by rw [List.getElem?_eq_getElem hj'] at he1; exact Option.some.inj he1
 have st := arr_store1 h1 hj' hu.one (by rw [hee]; exact he2.one)
 have k := Keeps.set σ aid (.arr 1 (es.set j u) 0 0)
 have hne : id ≠ aid := fun e => by have a := ha.obj; rw [e,h1] at a; cases a
 refine ⟨_,st,⟨?_,ha.lid,ha.laid,ha.lnv,k.get ha.obj hne,ha.names.keeps k fun i hi e => ha.names.noArr h1 (by decide) (by rw [← e]; exact hi),es.set j u,get_set h1,?_⟩,k⟩
 ·exact Keeps.trans ha.old k fun i hi e => by have := ha.laid; omega
 ·refine Two.set (h2.mono fun e t ho => ho.keeps k fun i hi e' => ho.noArr h1 (by decide) (by rw [← e']; exact hi)) j ?_
  exact hu.keeps k fun i hi e' => hu.noArr h1 (by decide) (by rw [← e']; exact hi)
theorem Att.get {fm : AVal → List AVal} {σ0 : Store} {id aid : Nat} {nv : AVal} {s : TSt} {σ : Store} (ha : Att fm σ0 id aid σ nv s) {j : Nat} (hj : j < s.ls.length) : ∃ e,loadV σ 1 false (.eptr aid 0 j 0) = some e ∧ lenSV e = some (s.ls[j]).length := by
 obtain ⟨es,h1,h2⟩ := ha.arr
 have hj' : j < es.length := by rw [h2.len]; exact hj
 obtain ⟨e,he1,he2⟩ := h2.get hj
 have hee : es[j] = e := by rw [List.getElem?_eq_getElem hj'] at he1; exact Option.some.inj he1
 refine ⟨e,?_,by have := he2.sl.len; rwa [List.length_map] at this⟩
 rw [arr_load1 h1 (Nat.le_refl _) hj' (by rw [hee]; exact he2.one),hee]
end
section
variable (d : Nat)
structure Tried (fm : AVal → List AVal) (σ0 : Store) (id aid : Nat) (F : TSt → List Cel → List Cel → Option TSt) (s : TSt) (azs bs : List (List Cel)) (lo : Nat) (al bl : AVal) (es fs : List AVal) (nv : AVal) (σ2 σ' : Store) (k : Nat) (nk : AVal) (sk : TSt) : Prop where
 att : Att fm σ0 id aid σ' nk sk
 keep : Keeps (Mv id aid nv) σ2 σ'
 nam : ∀ i,nk.sid = some i → nv.sid = some i ∨ σ2.length ≤ i
 ra : OT σ' lo al es azs
 rb : OT σ' lo bl fs bs
 res : foldO F s azs bs = foldO F sk (azs.drop k) (bs.drop k)
 ws : sk.ws.length ≤ s.ws.length + (azs.take k).flatten.length
 ls : sk.ls.length = s.ls.length
theorem Tried.step {fm : AVal → List AVal} {σ0 : Store} {id aid : Nat} {F : TSt → List Cel → List Cel → Option TSt} {s : TSt} {azs bs : List (List Cel)} {lo : Nat} {al bl : AVal} {es fs : List AVal} {nv : AVal} {σ2 σ' : Store} {k : Nat} {nk : AVal} {sk : TSt} (h : Tried fm σ0 id aid F s azs bs lo al bl es fs nv σ2 σ' k nk sk)
  (hk : k < azs.length) (hb : k < bs.length) (h1 : id < lo) (h2 : aid < lo) {σ3 : Store} {r : AVal} (hq : StepQ fm σ0 id aid (F sk azs[k] bs[k]) sk (azs[k]).length nk σ' r σ3) :
  ∃ b : Bool,r = .bool b ∧ ∃ nk' sk',Att fm σ0 id aid σ3 nk' sk' ∧ Keeps (Mv id aid nv) σ2 σ3 ∧ (∀ i,nk'.sid = some i → nv.sid = some i ∨ σ2.length ≤ i) ∧ sk'.ws.length ≤ s.ws.length + (azs.take (k + 1)).flatten.length ∧ sk'.ls.length = s.ls.length ∧ (b = true → Tried fm σ0 id aid F s azs bs lo al bl es fs nv σ2 σ3 (k + 1) nk' sk') ∧ (b = false → foldO F s azs bs = none) := by
 obtain ⟨b,nk',sk',rfl,a1,a2,a3,a4,a5,a6⟩ := hq
 have hfs := flat_step hk
 have stp := foldO_step (f := F) (s := sk) hk hb
 have c1 := Mv.trans h.keep h.nam a2
 have c2 : ∀ i,nk'.sid = some i → nv.sid = some i ∨ σ2.length ≤ i := fun i hi => (a3 i hi).elim (h.nam i) (fun e => .inr (by have := h.keep.1; omega))
 have c3 : sk'.ws.length ≤ s.ws.length + (azs.take (k + 1)).flatten.length := by have := h.ws; omega
 have c4 : sk'.ls.length = s.ls.length := by rw [a6]; exact h.ls
 refine ⟨b,rfl,nk',sk',a1,c1,c2,c3,c4,fun hb' => ?_,fun hb' => ?_⟩
 ·refine ⟨a1,c1,c2,h.ra.keep h.att h1 h2 a2,h.rb.keep h.att h1 h2 a2,?_,c3,c4⟩
  rw [h.res,stp,a4,hb']; rfl
 ·rw [h.res,stp,a4,hb']; rfl
end
theorem HeapV.one {σ : Store} {hv : AVal} {H : Hp} (h : HeapV σ hv H) : hv.one = true := by
 rcases h with ⟨rfl,_⟩ | ⟨id,mid,vs,rfl,_⟩ <;> rfl
theorem RefV.one {σ : Store} {rv : AVal} {R : Hp} (h : RefV σ rv R) : rv.one = true := by
 rcases h with ⟨rfl,_⟩ | ⟨id,A,rfl,_⟩ <;> rfl
def TryOk (σ : Store) (r : AVal) (x : TryR) : Prop := ∃ lv wv,r = .agg (tryC x.k lv wv) ∧ Terms σ lv x.ls ∧ SlOf σ 2 wv (NN x.ws)
theorem TryOk.grow {σ σ' : Store} {r : AVal} {x : TryR} (h : TryOk σ r x) (g : Grows σ σ') : TryOk σ' r x := by
 obtain ⟨lv,wv,h1,h2,h3⟩ := h
 exact ⟨lv,wv,h1,h2.grow g,h3.grow g⟩
theorem Terms.one {σ : Store} {l : AVal} {ts : List (List Cel)} (h : Terms σ l ts) : l.one = true := by obtain ⟨es,h1,-⟩ := h; exact h1.one
theorem try_told {σ σ0 : Store} {i k : Nat} {lv wv : AVal} {x : TryR} (ho : σ[i]? = some (.cells tryZ)) (hk : x.k = k) (h1 : Terms σ lv x.ls) (h2 : SlOf σ 2 wv (NN x.ws)) (hi : σ0.length ≤ i) (g : Grows σ0 σ) (n1 : ∀ j,lv.sid = some j → j ≠ i) (n2 : ∀ j,wv.sid = some j → j ≠ i) (n3 : ∀ (es : List AVal) (e : AVal) (j : Nat),SlOf σ 1 lv es → e ∈ es → e.sid = some j → j ≠ i) :
  ∃ σ',storeV σ 4 (.ptr i 0) (.agg (tryC k lv wv)) = some σ' ∧ loadV σ' 4 true (.ptr i 0) = some (.agg (tryC k lv wv)) ∧ Grows σ0 σ' ∧ TryOk σ' (.agg (tryC k lv wv)) x := by
 obtain ⟨p1,p2⟩ := try_put (σ' := σ) (k := k) ho h1.one h2.one
 have kk := Keeps.set σ i (.cells (tryC k lv wv))
 refine ⟨_,p1,p2,Keeps.trans g kk fun j hj e => by omega,lv,wv,by rw [hk],?_,h2.keeps kk fun j hj e => n2 j hj e⟩
 obtain ⟨es,a1,a2⟩ := h1
 refine ⟨es,a1.keeps kk fun j hj e => n1 j hj e,a2.mono_mem fun e t he ht hs => hs.keeps kk fun j hj e' => n3 es e j a1 he hj e'⟩
theorem Att.new (fm : AVal → List AVal) (σ : Store) (n : Nat) : Att fm σ (σ.length + 1) σ.length ((σ ++ [.arr 1 (List.replicate n .nilslice) 0 0]) ++ [.cells (fm .nilslice)]) .nilslice ⟨List.replicate n [],[]⟩ := by
 refine ⟨Grows.trans (Grows.app _ _) (Grows.app _ _),by omega,Nat.le_refl _,Fresh.nil _,by simp,Own.nil _ _,List.replicate n .nilslice,by simp,?_⟩
 refine Two.of_get (by simp) fun i a b ha hb => ?_
 rw [List.getElem?_replicate] at ha hb
 by_cases h : i < n
 ·rw [if_pos h] at ha hb
  cases ha; cases hb; exact Own.nil _ _
 ·rw [if_neg h] at ha
  cases ha
theorem Att.terms {fm : AVal → List AVal} {σ0 : Store} {id aid : Nat} {nv : AVal} {s : TSt} {σ : Store} (ha : Att fm σ0 id aid σ nv s) : ∃ es,Own σ 1 (.slice 1 aid 0 0 s.ls.length (some s.ls.length)) es ∧ Two (fun e t => Own σ 5 e (CC t)) es s.ls := by
 obtain ⟨es,h1,h2⟩ := ha.arr
 refine ⟨es,⟨.inr (.inr ⟨aid,0,0,some s.ls.length,es,0,0,by rw [h2.len],h1,Nat.le_refl _,by simp,fun _ => by simp,.inr (by rw [h2.len])⟩)⟩,h2⟩
section
variable (d : Nat) (σ : Store)
end
section
variable (d : Nat) (σ : Store)
end
theorem TryOk.put {σ σ0 : Store} {i : Nat} {r : AVal} {x : TryR} (h : TryOk σ r x) (ho : σ[i]? = some (.cells tryZ)) (hi : σ0.length ≤ i) (g : Grows σ0 σ) :
  ∃ σ',storeV σ 4 (.ptr i 0) r = some σ' ∧ loadV σ' 4 true (.ptr i 0) = some r ∧ Grows σ0 σ' ∧ TryOk σ' r x := by
 obtain ⟨lv,wv,rfl,h2,h3⟩ := h
 have h2' := h2
 obtain ⟨es,a1,a2⟩ := h2'
 refine try_told ho rfl h2 h3 hi g (fun j h e => a1.noCell ho (by rw [← e]; exact h)) (fun j h e => h3.noCell ho (by rw [← e]; exact h)) (fun fs e j hf he hj e' => ?_)
 have : fs = es := Option.some.inj (hf.1.symm.trans a1.1)
 subst this
 obtain ⟨b,_,hb⟩ := a2.mem_left he
 exact hb.noCell ho (by rw [← e']; exact hj)
theorem Terms.lit {σ : Store} {v : AVal} {p : List Cel} (tg : Nat) (h : SlOf σ 5 v (CC p)) : Terms σ (.fslice tg true 1 [v]) [p] := ⟨[v],SlOf.fs _ _ _ _ _,Two.one h⟩
theorem I64.of {i : Int} (h : I64 i) : -9223372036854775808 ≤ i ∧ i < 9223372036854775808 := h
section
variable (d : Nat) (σ : Store)
end
section
variable (d : Nat) (σ : Store)
def PutOk (σ σ' : Store) (r : AVal) (t : List Cel) (ls : List (List Cel)) : Prop := ∃ u,r = .tuple [u,.int .i64 (putE t ls)] ∧ Grows σ σ' ∧ Own σ' 5 u (CC (putT t ls)) ∧ Fresh σ.length u ∧ NoLit u
theorem PutOk.fail {σ σ' : Store} {t : List Cel} {ls : List (List Cel)} {e : Int} (h : putE t ls = e) (he : e ≠ 0) (g : Grows σ σ') : PutOk σ σ' (.tuple [.nilslice,.int .i64 e]) t ls :=
 ⟨.nilslice,by rw [h],g,by rw [putT,if_neg (by rw [h]; exact he)]; exact Own.nil _ _,Fresh.nil _,trivial⟩
end
section
variable (d : Nat) (σ : Store)
end
section
variable (d : Nat) (σ : Store)
end
def TT (σ : Store) (v : AVal) (ls : List (List Cel)) : Prop := ∃ es,Own σ 1 v es ∧ NoLit v ∧ Two Told es ls
theorem TT.terms {σ : Store} {v : AVal} {ls : List (List Cel)} (h : TT σ v ls) : Terms σ v ls := by
 obtain ⟨es,h1,-,h3⟩ := h
 exact ⟨es,h1.sl,h3.mono fun e t h => h σ⟩
theorem TT.grow {σ σ' : Store} {v : AVal} {ls : List (List Cel)} (h : TT σ v ls) (g : Grows σ σ') : TT σ' v ls := by
 obtain ⟨es,h1,h2,h3⟩ := h
 exact ⟨es,h1.grow g,h2,h3⟩
theorem TT.len {σ : Store} {v : AVal} {ls : List (List Cel)} (h : TT σ v ls) : lenSV v = some ls.length := h.terms.len
def TA (v : AVal) (ls : List (List Cel)) : Prop := ∃ es,(∀ σ : Store,SlOf σ 1 v es) ∧ Two Told es ls
theorem TA.terms {v : AVal} {ls : List (List Cel)} (h : TA v ls) (σ : Store) : Terms σ v ls := by
 obtain ⟨es,h1,h3⟩ := h
 exact ⟨es,h1 σ,h3.mono fun e t h => h σ⟩
theorem TT.set {σ : Store} {v : AVal} {ls : List (List Cel)} {lo j : Nat} {u : AVal} {t : List Cel} (h : TT σ v ls) (hf : Fresh lo v) (hj : j < ls.length) (hu : Told u t) : ∃ σ',storeV σ 1 (addrOf 1 v j) u = some σ' ∧ TT σ' v (ls.set j t) ∧ Keeps (fun i => lo ≤ i) σ σ' := by
 obtain ⟨es,h1,h2,h3⟩ := h
 have hj' : j < es.length := by rw [h3.len]; exact hj
 obtain ⟨e,e1,e2⟩ := h3.get hj
 have hee : es[j] = e := by rw [List.getElem?_eq_getElem hj'] at e1; exact Option.some.inj e1
 have o1 := (e2 σ).one
 have o2 := (hu σ).one
 have hc : u.cells = [u] := by cases u <;> simp_all [AVal.one]
 have hc2 : e.cells = [e] := by cases e <;> simp_all [AVal.one]
 have hr : e.reform [u] = u := by cases e <;> simp_all [AVal.one,AVal.reform]
 obtain ⟨σ',p1,p2,p3,-⟩ := h1.store h2 hj' (x := u) (by rw [hc]; simp only [List.all_cons,List.all_nil,o2]; rfl) (by rw [hc]; rfl) (by rw [hee,hc2]; rfl) (by rw [hee,hc]; exact hr)
 exact ⟨σ',p1,⟨_,p2,h2,Two.set h3 j hu⟩,p3.mono fun i _ e => hf i e⟩
section
variable (d : Nat) (σ : Store)
theorem tclone_ok (b : AVal) (es : List AVal) (hs : es.length < 2 ^ 30) (hb : SlOf σ 1 b es) : Called CU.cfg d 98 [b] σ fun v σ' => Grows σ σ' ∧ Own σ' 1 v es ∧ Fresh σ.length v ∧ NoLit v := by
 refine called_of (fn := CU.a98) rfl (Nat.le_of_ble_eq_true rfl) ?_
 obtain ⟨x,hx,hx'⟩ := hb.isnil
 simp only [CU.a98, CU.o]
 simp -dsimp only [↓WPd,↓Zm,↓Zn,WPu,Za,Zb,Zc,Zd,Ze,Zf,Zg,Zh,Nat.reduceEqDiff,Nat.reduceLT,Zi,Zj,Zk,Zl,Nat.reduceBEq,hx,Bool.false_eq_true]
 refine condP_intro (fun h => ?_) (fun h => ?_)
 ·obtain ⟨rfl,he⟩ := hx' h
  simp -dsimp only [↓WPd,↓Zm,↓Zn,WPu,Za,Zb,Zc,Zd,Ze,Zf,Zg,Zh,Nat.reduceEqDiff,Nat.reduceLT,Zi,Zj,Zk,Zl,Nat.reduceBEq]
  exact ⟨Keeps.refl _ _,by rw [he]; exact Own.nil _ _,(fun id h => by cases h),trivial⟩
 ·simp -dsimp only [↓WPd,↓Zm,↓Zn,WPu,Za,Zb,Zc,Zd,Ze,Zf,Zg,Zh,Nat.reduceEqDiff,Nat.reduceLT,Zi,Zj,Zk,Zl,Nat.reduceBEq,hb.els]
  refine stepP_of [] rfl ?_
  have ho : Own σ 1 (.fslice (AVal.tagL []) true 1 []) [] := ⟨.inr (.inl ⟨_,rfl⟩)⟩
  obtain ⟨v',σ',h1,h2,h3,h4,h5⟩ := ho.append es 24 (by simp; omega)
  simp -dsimp only [↓WPd,↓Zm,↓Zn,WPu,Za,Zb,Zc,Zd,Ze,Zf,Zg,Zh,Nat.reduceEqDiff,Nat.reduceLT,Zi,Zj,Zk,Zl,Nat.reduceBEq,hb.els,h1]
  refine ⟨h3.mono (fun i _ h => by cases h),by simpa using h2,fun id hid => ?_,h5 (.inl rfl)⟩
  rcases h4 id hid with h | h
  ·cases h
  ·omega
end
theorem XRows.push2 {σ1 : Store} {lo k sz : Nat} {l : AVal} {xs es : List AVal} {ps : List (List AVal)} (h : XRows σ1 lo k sz l xs es ps) {x e : AVal} {p : List AVal} (he : Own σ1 sz e p) (fe : Fresh lo e) (le : NoLit e) (hlo : lo ≤ σ1.length)
  (hl : ∀ j,e.sid = some j → l.sid ≠ some j) (hx : ∀ (i : Nat) (y : AVal) (j : Nat),es[i]? = some y → e.sid = some j → y.sid ≠ some j) (bytes : Nat) (hb : (es.length + 1) * bytes ≤ 70368744177664) :
  ∃ l' σ2,appendV σ1 k bytes l [x] = some (l',σ2) ∧ XRows σ2 lo k sz l' (xs ++ [x]) (es ++ [e]) (ps ++ [p]) ∧ Keeps (fun i => l.sid = some i) σ1 σ2 := by
 obtain ⟨l',σ2,h1,h2,h3,h4,h5⟩ := h.row.append [x] bytes (by rw [h.lex]; exact hb)
 have old : ∀ (i : Nat) (x : AVal),(es ++ [e])[i]? = some x → (es[i]? = some x ∧ i < es.length) ∨ (i = es.length ∧ x = e) := by
  intro i x hx
  rw [List.getElem?_append] at hx
  split at hx
  ·rename_i hlt; exact .inl ⟨hx,hlt⟩
  ·rename_i hlt
   rw [List.getElem?_singleton] at hx
   split at hx
   ·injection hx with hx; exact .inr ⟨by omega,hx.symm⟩
   ·cases hx
 have hx1 : ∀ (i : Nat) (x : AVal) (id : Nat),(es ++ [e])[i]? = some x → x.sid = some id → id < σ1.length ∧ l.sid ≠ some id := by
  intro i x id hx hid
  rcases old i x hx with ⟨hx,_⟩ | ⟨_,rfl⟩
  ·exact ⟨h.lt hx hid,h.off i x id hx hid⟩
  ·exact ⟨he.sl.lt hid,hl id hid⟩
 refine ⟨l',σ2,h1,⟨h2,by simp [h.lex],by simp [h.len],?_,?_,?_,?_,?_,?_⟩,h3⟩
 ·intro i x q hx hq
  refine Own.keeps (σ := σ1) ?_ h3 fun id hid => (hx1 i x id hx hid).2
  rcases old i x hx with ⟨hx,hlt⟩ | ⟨rfl,rfl⟩
  ·rw [List.getElem?_append_left (by rw [← h.len]; exact hlt)] at hq
   exact h.one i x q hx hq
  ·rw [h.len,List.getElem?_append_right (Nat.le_refl _),Nat.sub_self] at hq
   simp at hq; subst hq; exact he
 ·intro i x hx
  rcases old i x hx with ⟨hx,_⟩ | ⟨_,rfl⟩
  ·exact h.frs i x hx
  ·exact fe
 ·intro id hid
  rcases h4 id hid with hh | hh
  ·exact h.frl id hh
  ·omega
 ·intro i j a b id ha hb hai hbi
  rcases old i a ha with ⟨ha',hil⟩ | ⟨hi,hae⟩ <;> rcases old j b hb with ⟨hb',hjl⟩ | ⟨hj,hbe⟩
  ·exact h.apart i j a b id ha' hb' hai hbi
  ·rw [hbe] at hbi; exact (hx i a id ha' hbi hai).elim
  ·rw [hae] at hai; exact (hx j b id hb' hai hbi).elim
  ·omega
 ·intro i x id hx hid hl'
  obtain ⟨k1,k2⟩ := hx1 i x id hx hid
  rcases h4 id hl' with hh | hh
  ·exact k2 hh
  ·omega
 ·intro i x hx
  rcases old i x hx with ⟨hx,_⟩ | ⟨_,rfl⟩
  ·exact h.lit i x hx
  ·exact le
theorem bdVs_push {R : Hp} {us : List AVal} (h : us.length = R.length) (p : Nm × List Cel) (u : AVal) : bdVs (R ++ [p]) (us ++ [u]) = bdVs R us ++ [bdV p.1 u] := by
 unfold bdVs
 rw [List.zipWith_append h.symm]; rfl
theorem solveN_nil (n : Nat) (M bd : Hp) (k : Nat) : solveN n M [] bd k = ⟨1,bd,[],k⟩ := by cases n <;> rfl
theorem solveN_zero (M bd : Hp) (t : List Cel) (rest : List (List Cel)) (k : Nat) : solveN 0 M (t :: rest) bd k = ⟨3,bd,t :: rest,k⟩ := rfl
theorem solveN_succ (n : Nat) (M bd : Hp) (t : List Cel) (rest : List (List Cel)) (k : Nat) : solveN (n + 1) M (t :: rest) bd k = if (stepL M (sides t).1 (sides t).2).k = 4 then ⟨2,[],[],k + 1⟩
  else if (stepL M (sides t).1 (sides t).2).k = 2 then solveN n (bindH M (stepL M (sides t).1 (sides t).2).v (stepL M (sides t).1 (sides t).2).t) rest (bd ++ [((stepL M (sides t).1 (sides t).2).v,(stepL M (sides t).1 (sides t).2).t)]) (k + 1)
  else solveN n M ((stepL M (sides t).1 (sides t).2).ps ++ rest) bd (k + 1) := rfl
theorem EqG.small {t : List Cel} (h : EqG t) : Small t := right_small (eq_head h.1).1
theorem EqG.sides_small {t : List Cel} (h : EqG t) : Small (sides t).1 ∧ Small (sides t).2 := ⟨right_small (glob_right h.2.1),right_small (glob_right h.2.2)⟩
theorem stepL_facts {M : Hp} (hw : WF M) {a b : List Cel} (ga : glob a = true) (gb : glob b = true) : ((stepL M a b).k = 1 ∧ (stepL M a b).ps = []) ∨ ((stepL M a b).k = 2 ∧ (stepL M a b).ps = [] ∧ Small (stepL M a b).t) ∨ ((stepL M a b).k = 3 ∧ (∀ t ∈ (stepL M a b).ps,EqG t) ∧ (stepL M a b).ps.length ≤ 8) ∨ (stepL M a b).k = 4 := by
 have h := stepL_cases hw ga gb
 have hl := (stepL_small hw a b).2
 have gx := deref_glob hw ga
 have gy := deref_glob hw gb
 generalize stepL M a b = r at h hl
 cases h with
 | done => exact .inl ⟨rfl,rfl⟩
 | bindL c h1 h2 h3 => exact .inr (.inl ⟨rfl,rfl,right_small (glob_right gy)⟩)
 | bindR c h1 h2 h3 => exact .inr (.inl ⟨rfl,rfl,right_small (glob_right gx)⟩)
 | clash => exact .inr (.inr (.inr rfl))
 | parted ps e1 e2 e3 => exact .inr (.inr (.inl ⟨rfl,pairs_parts gx gy e3,hl⟩))
 | long => exact .inr (.inr (.inr rfl))
structure SolvO (σ σ' : Store) (S : SolveR) (v : AVal) : Prop where
 grow : Grows σ σ'
 res : ∃ (bv lv : AVal) (us es : List AVal) (c : Nat),v = .agg [.int .u8 S.out,bv,lv,.int .i64 S.steps] ∧ BRows σ' σ.length bv us S.bd ∧ ORows σ' c 5 lv es (S.left.map CC) ∧ σ.length ≤ c ∧ c ≤ σ'.length ∧
  (∀ j,bv.sid = some j → j < c) ∧ (∀ (i : Nat) (u : AVal) (j : Nat),us[i]? = some u → u.sid = some j → j < c)
abbrev solvZ : List AVal := [.int .u8 0,.nilslice,.nilslice,.int .i64 0]
theorem SolvO.none {σ σ' : Store} (g : Grows σ σ') (k : Nat) : SolvO σ σ' ⟨2,[],[],k⟩ (.agg [.int .u8 2,.nilslice,.nilslice,.int .i64 k]) :=
 ⟨g,.nilslice,.nilslice,[],[],σ.length,rfl,XRows.nil _ _ _ _,ORows.nil _ _ _,Nat.le_refl _,g.1,(fun j h => by cases h),fun i u j h => by simp at h⟩
theorem clashS (k : Nat) : fillA [AVal.int IntKind.u8 0,AVal.nilslice,AVal.nilslice,AVal.int IntKind.i64 0] [(0,1,AVal.int IntKind.u8 2),(3,1,AVal.int IntKind.i64 k)] = some [AVal.int IntKind.u8 2,AVal.nilslice,AVal.nilslice,AVal.int IntKind.i64 k] := rfl
theorem clash0 : fillA [AVal.int IntKind.u8 0,AVal.nilslice,AVal.nilslice,AVal.int IntKind.i64 0] [(0,1,AVal.int IntKind.u8 2)] = some [AVal.int IntKind.u8 2,AVal.nilslice,AVal.nilslice,AVal.int IntKind.i64 0] := rfl
structure SolveSt (σ0 σ' : Store) (i6 id mid i14 : Nat) (M : Hp) (rv bv : AVal) (row : List (List Cel)) (bd : Hp) (us : List AVal) (k : Nat) : Prop where
 o6 : σ'[i6]? = some (.cells solvZ)
 o14 : σ'[i14]? = some (.cells [.int .u8 0,bv,.nilslice,.int .i64 (k : Nat)])
 hp : ∃ vs,HeapP σ' id mid vs M
 row : Terms σ' rv row
 bds : BRows σ' (i14 + 1) bv us bd
 grow : Grows σ0 σ'
section
variable (d : Nat) (σ : Store)
theorem nofork_ok : Called CU.cfg d 97 [.nilptr] σ fun r σ' => r = .nilptr ∧ σ' = σ := by
 refine called_of (fn := CU.a97) rfl (Nat.le_of_ble_eq_true rfl) ?_
 simp only [CU.a97, CU.o]
 have e : isNil .p .nilptr = some true := rfl
 simp -dsimp only [↓WPd,↓Zm,↓Zn,WPu,Za,Zb,Zc,Zd,Ze,Zf,Zg,Zh,Nat.reduceEqDiff,Nat.reduceLT,Zi,Zj,Zk,Zl,Nat.reduceBEq,WPm,e]
def solveT : ACode := seqR (seqR (seqR (seqR CU.a41.body)))
set_option maxHeartbeats 4000000 in
theorem solve_tail (σ0 σ1 : Store) (e : Nat → AVal) (i6 id mid : Nat) (vs : List AVal) (H : Hp) (n : Int) (lv : AVal) (l : List (List Cel)) (K : AExit → List AVal → Store → Prop)
  (e1 : e 1 = .int .i64 n) (e2 : e 2 = lv) (e6 : e 6 = .ptr i6 0) (e12 : e 12 = .ptr id 0) (g1 : Grows σ0 σ1) (h : HeapP σ1 id mid vs H) (o6 : σ1[i6]? = some (.cells solvZ)) (q0 : σ0.length ≤ i6) (q1 : i6 < id) (q2 : i6 < mid)
  (hl : Terms σ1 lv l) (hs : ∀ t ∈ l,EqG t) (hn : n < 2 ^ 20) (hlen : l.length < 2 ^ 27)
  (hK : ∀ (e' : Nat → AVal) (σ' : Store) (v : AVal),e' 6 = .ptr i6 0 → loadV σ' 4 true (.ptr i6 0) = some v → SolvO σ0 σ' (solveN n.toNat H l [] 0) v → K .ret (Fr' 125 e') σ') :
  wpC CU.cfg d solveT (Fr' 125 e) σ1 K := by
 simp only [solveT,seqR,CU.a41, CU.o]
 simp -dsimp only [↓WPd,↓Zm,↓Zn,WPu,Za,Zb,Zc,Zd,Ze,Zf,Zg,Zh,Nat.reduceEqDiff,Nat.reduceLT,Zi,Zj,Zk,Zl,Nat.reduceBEq,WPm,e1,e2,e6,e12]
 obtain ⟨res,hr1,hr2⟩ := hl
 refine calledW_of (tclone_ok d σ1 lv res (by rw [hr2.len]; omega) hr1) ?_
 rintro rv σ2 ⟨g2,orv,-,-⟩
 simp -dsimp only [↓WPd,↓Zm,↓Zn,WPu,Za,Zb,Zc,Zd,Ze,Zf,Zg,Zh,Nat.reduceEqDiff,Nat.reduceLT,Zi,Zj,Zk,Zl,Nat.reduceBEq,WPm,e1,e2,e6,e12]
 have hid : id < σ1.length := (List.getElem?_eq_some_iff.1 h.obj).1
 have hmid : mid < σ1.length := (List.getElem?_eq_some_iff.1 h.map).1
 have ga : Grows σ2 (σ2 ++ [AObj.cells [.int .u8 0,.nilslice,.nilslice,.int .i64 0]]) := Grows.app _ _
 have o14 : (σ2 ++ [AObj.cells [.int .u8 0,.nilslice,.nilslice,.int .i64 0]])[σ2.length]? = some (.cells [.int .u8 0,.nilslice,.nilslice,.int .i64 ((0 : Nat) : Int)]) := by simp
 have l14 : σ2.length < (σ2 ++ [AObj.cells [.int .u8 0,.nilslice,.nilslice,.int .i64 0]]).length := by simp
 have q3 : σ1.length ≤ σ2.length := g2.1
 generalize σ2 ++ [AObj.cells [.int .u8 0,.nilslice,.nilslice,.int .i64 0]] = σ3 at ga o14 l14
 generalize hi14 : σ2.length = i14 at o14 l14 q3
 have g13 := g2.trans ga
 have st0 : SolveSt σ0 σ3 i6 id mid i14 H rv .nilslice l [] [] 0 := ⟨g13.get o6,o14,⟨vs,h.grow g13⟩,⟨res,(orv.grow ga).sl,hr2.mono fun e t he => he.grow g13⟩,XRows.nil _ _ _ _,g1.trans g13⟩
 have q4 := g1.1
 have hw := h.wf
 refine loop_rule2 (fun m xs σ' => ∃ (k : Nat) (M : Hp) (rv bv : AVal) (row : List (List Cel)) (bd : Hp) (us : List AVal),k ≤ n.toNat ∧ m = n.toNat - k ∧ xs = [.int .i64 n,.ptr i6 0,.ptr id 0,rv,.ptr i14 0] ∧ SolveSt σ0 σ' i6 id mid i14 M rv bv row bd us k ∧ solveN (n.toNat - k) M row bd k = solveN n.toNat H l [] 0 ∧ (∀ t ∈ row,EqG t) ∧ row.length ≤ l.length + 8 * k ∧ bd.length ≤ k ∧ i14 < σ'.length)
  [6,13,14] (fun x xs σ' => (x = .exit 2 ∧ ∃ (k : Nat) (M : Hp) (rv bv : AVal) (row : List (List Cel)) (bd : Hp) (us : List AVal),k ≤ n.toNat ∧ xs = [.ptr i6 0,rv,.ptr i14 0] ∧ SolveSt σ0 σ' i6 id mid i14 M rv bv row bd us k ∧ solveN n.toNat H l [] 0 = ⟨if row.isEmpty then 1 else 3,bd,row,k⟩ ∧ (∀ t ∈ row,EqG t) ∧ row.length ≤ l.length + 8 * k ∧ i14 < σ'.length) ∨
   (x = .ret ∧ ∃ (k : Nat) (r13 : AVal),xs = [.ptr i6 0,r13,.ptr i14 0] ∧ loadV σ' 4 true (.ptr i6 0) = some (.agg [.int .u8 2,.nilslice,.nilslice,.int .i64 k]) ∧ Grows σ0 σ' ∧ solveN n.toNat H l [] 0 = ⟨2,[],[],k⟩)) n.toNat
  ⟨0,H,rv,.nilslice,l,[],[],Nat.zero_le _,rfl,?_,st0,rfl,hs,Nat.le_refl _,Nat.le_refl _,l14⟩ ?_ ?_
 ·simp -dsimp only [↓WPd,↓Zm,↓Zn,WPu,Za,Zb,Zc,Zd,Ze,Zf,Zg,Zh,Nat.reduceEqDiff,Nat.reduceLT,Zi,Zj,Zk,Zl,Nat.reduceBEq,e1,e6,e12]
 ·rintro m xs σ' ⟨k,M,rv,bv,row,bd,us,hk,rfl,rfl,st,hS,hrow,hrl,hbl,hi⟩
  have lr := st.row.len
  have c3 : ∀ x y z : AVal,([x,y,z,.int .i64 (k : Nat)] : List AVal)[3]? = some (.int .i64 (k : Nat)) := fun _ _ _ => rfl
  cases row with
  | nil =>
   have z : decide (((([] : List (List Cel)).length : Nat) : Int) > 0) = false := rfl
   simp -dsimp only [↓WPd,↓Zm,↓Zn,WPu,Za,Zb,Zc,Zd,Ze,Zf,Zg,Zh,Nat.reduceEqDiff,Nat.reduceLT,Zi,Zj,Zk,Zl,Nat.reduceBEq,WPm,lr,z]
   exact .inl ⟨k,M,rv,bv,[],bd,us,hk,rfl,st,by rw [← hS,solveN_nil]; rfl,hrow,hrl,hi⟩
  | cons t rest =>
   have z : decide ((((t :: rest).length : Nat) : Int) > 0) = true := by simp
   have ldk := load_cells st.o14 3
   rw [c3] at ldk
   simp -dsimp only [↓WPd,↓Zm,↓Zn,WPu,Za,Zb,Zc,Zd,Ze,Zf,Zg,Zh,Nat.reduceEqDiff,Nat.reduceLT,Zi,Zj,Zk,Zl,Nat.reduceBEq,WPm,lr,z,faddr_ptr,Nat.zero_add,ldk]
   refine condP_dec (fun hc => ?_) (fun hc => ?_)
   ·have hk1 : k + 1 ≤ n.toNat := by omega
    have hN : n.toNat - k = (n.toNat - (k + 1)) + 1 := by omega
    obtain ⟨⟨te,t1,t2,t3⟩,rv',r1,r2⟩ := st.row.uncons
    have ht := hrow t List.mem_cons_self
    have hrest : ∀ u ∈ rest,EqG u := fun u hu => hrow u (List.mem_cons_of_mem _ hu)
    have sm := ht.small
    have ss := ht.sides_small
    obtain ⟨vs4,hp⟩ := st.hp
    have hwM := hp.wf
    simp -dsimp only [↓WPd,↓Zm,↓Zn,WPu,Za,Zb,Zc,Zd,Ze,Zf,Zg,Zh,Nat.reduceEqDiff,Nat.reduceLT,Zi,Zj,Zk,Zl,Nat.reduceBEq,WPm,t1,t2]
    refine calledW_of (equation_ok d σ' te t sm.1 sm.2 t3) ?_
    rintro w σ4 ⟨a,b,rfl,hE⟩
    obtain ⟨g4,oa,ob,-⟩ := hE.own
    have o14' := g4.get st.o14
    have ld4 := load_cells o14' 3
    rw [c3] at ld4
    have wk : IntKind.i64.wrap ((k : Int) + 1) = ((k + 1 : Nat) : Int) := by rw [wrap_i64 (by omega) (by omega),Int.natCast_add,Int.natCast_one]
    have st4 := store_cells o14' (off := 3) (by simp) (v := .int .i64 ((k + 1 : Nat) : Int)) rfl
    simp only [List.set_cons_zero,List.set_cons_succ] at st4
    simp -dsimp only [↓WPd,↓Zm,↓Zn,WPu,Za,Zb,Zc,Zd,Ze,Zf,Zg,Zh,Nat.reduceEqDiff,Nat.reduceLT,Zi,Zj,Zk,Zl,Nat.reduceBEq,WPm,List.getElem?_cons_zero,List.getElem?_cons_succ,oev,r1,faddr_ptr,Nat.zero_add,ld4,wk,st4]
    have k5 : Keeps (fun i => i = i14) σ4 (σ4.set i14 (.cells [.int .u8 0,bv,.nilslice,.int .i64 ((k + 1 : Nat) : Int)])) := Keeps.set _ _ _
    have o5 : (σ4.set i14 (.cells [.int .u8 0,bv,.nilslice,.int .i64 ((k + 1 : Nat) : Int)]))[i14]? = some (.cells [.int .u8 0,bv,.nilslice,.int .i64 ((k + 1 : Nat) : Int)]) := get_set o14'
    generalize σ4.set i14 (.cells [.int .u8 0,bv,.nilslice,.int .i64 ((k + 1 : Nat) : Int)]) = σ5 at k5 o5
    have hp5 := (hp.grow g4).keeps k5 (by omega) (by omega)
    have w5 : Vw σ' σ5 := (Vw.grow g4).trans (Vw.cell o14' k5)
    have bd5 := (st.bds.grow g4).keeps k5 (fun i _ hlo e => by omega)
    have o65 := k5.get (g4.get st.o6) (by omega)
    have g05 : Grows σ0 σ5 := Keeps.trans (st.grow.trans g4) k5 fun i hi e => by omega
    have l5 : i14 < σ5.length := by have := g4.1; have := k5.1; omega
    refine calledW_of (step_ok d σ5 (.ptr id 0) a b M (sides t).1 (sides t).2 hp5.v ss.1 ss.2 (Vw.cell o14' k5 _ _ _ oa.sl) (Vw.cell o14' k5 _ _ _ ob.sl)) ?_
    rintro w σ6 ⟨g6,tv,pv,es,rfl,ot,ft,nt,op,-⟩
    have z5 : ∀ (σ : Store) (cs : List AVal),cs.length = 5 → cs.all AVal.one = true → storeV (σ ++ [.cells [.int .u8 0,.int .i64 0,.int .i64 0,.nilslice,.nilslice]]) 5 (.ptr σ.length 0) (.agg cs) = some (σ ++ [.cells cs]) := fun σ cs h1 h2 => by
     have h : (σ ++ [AObj.cells [.int .u8 0,.int .i64 0,.int .i64 0,.nilslice,.nilslice]])[σ.length]? = some (.cells [.int .u8 0,.int .i64 0,.int .i64 0,.nilslice,.nilslice]) := by simp
     rw [storeN_cells (cs' := cs) (n := 5) h rfl h1 h2,set_last]
    have F := stepL_facts hwM ht.2.1 ht.2.2
    rw [hN,solveN_succ] at hS
    simp -dsimp only [↓WPd,↓Zm,↓Zn,WPu,Za,Zb,Zc,Zd,Ze,Zf,Zg,Zh,Nat.reduceEqDiff,Nat.reduceLT,Zi,Zj,Zk,Zl,Nat.reduceBEq,WPm,z5 σ6 (stepC (stepL M (sides t).1 (sides t).2) tv pv) rfl (stepC_one ot.one op.row.one)]
    generalize stepL M (sides t).1 (sides t).2 = r at *
    have g7 : Grows σ6 (σ6 ++ [AObj.cells (stepC r tv pv)]) := Grows.app _ _
    have o18 : (σ6 ++ [AObj.cells (stepC r tv pv)])[σ6.length]? = some (.cells (stepC r tv pv)) := by simp
    generalize σ6 ++ [AObj.cells (stepC r tv pv)] = σ7 at g7 o18
    have q6 := g6.1
    generalize hi18 : σ6.length = i18 at o18
    have g57 := g6.trans g7
    have l7 : i14 < σ7.length := by have := g57.1; omega
    have c0 : (stepC r tv pv)[0]? = some (.int .u8 r.k) := rfl
    have cc3 : (stepC r tv pv)[3]? = some tv := rfl
    have cc4 : (stepC r tv pv)[4]? = some pv := rfl
    have m4 : ((r.k : Int) == 4) = decide (r.k = 4) := by by_cases h : r.k = 4 <;> simp [h] <;> omega
    have m2 : ((r.k : Int) == 2) = decide (r.k = 2) := by by_cases h : r.k = 2 <;> simp [h] <;> omega
    have m3 : ((r.k : Int) == 3) = decide (r.k = 3) := by by_cases h : r.k = 3 <;> simp [h] <;> omega
    have row7 := (r2.vw w5).vw (Vw.grow g57)
    have o67 := g57.get o65
    have o147 := g57.get o5
    have hp7 := hp5.grow g57
    have bd7 := bd5.grow g57
    have g07 := g05.trans g57
    simp -dsimp only [↓WPd,↓Zm,↓Zn,WPu,Za,Zb,Zc,Zd,Ze,Zf,Zg,Zh,Nat.reduceEqDiff,Nat.reduceLT,Zi,Zj,Zk,Zl,Nat.reduceBEq,WPm,faddr_ptr,Nat.zero_add,Nat.add_zero,load_cells o18,c0]
    rcases F with ⟨hk',hps⟩ | ⟨hk',hps,hsm⟩ | ⟨hk',hpe,hpl⟩ | hk'
    ·have d4 : ((r.k : Int) == 4) = false := by rw [hk']; rfl
     have d2 : ((r.k : Int) == 2) = false := by rw [hk']; rfl
     have d3 : ((r.k : Int) == 3) = false := by rw [hk']; rfl
     rw [if_neg (by omega),if_neg (by omega),hps,List.nil_append] at hS
     simp -dsimp only [↓WPd,↓Zm,↓Zn,WPu,Za,Zb,Zc,Zd,Ze,Zf,Zg,Zh,Nat.reduceEqDiff,Nat.reduceLT,Zi,Zj,Zk,Zl,Nat.reduceBEq,WPm,d4,d2,d3]
     exact ⟨n.toNat - (k + 1),by omega,k + 1,M,rv',bv,rest,bd,us,hk1,rfl,rfl,⟨o67,o147,⟨_,hp7⟩,row7,bd7,g07⟩,hS,hrest,by simp only [List.length_cons] at hrl; omega,by omega,l7⟩
    ·have d4 : ((r.k : Int) == 4) = false := by rw [hk']; rfl
     have d2 : ((r.k : Int) == 2) = true := by rw [hk']; rfl
     have d3 : ((r.k : Int) == 3) = false := by rw [hk']; rfl
     rw [if_neg (by omega),if_pos hk'] at hS
     have nm : ∀ {σ : Store},σ[i18]? = some (.cells (stepC r tv pv)) → loadV σ 2 true (.ptr i18 1) = some (nmV r.v) := fun {σ} ho => loadN_at (q := .ptr i18 1) (cs := stepC r tv pv) (off := 1) (by simp only [behind,ho]) (by simp [stepC])
     have ot7 := ot.grow g7
     simp -dsimp only [↓WPd,↓Zm,↓Zn,WPu,Za,Zb,Zc,Zd,Ze,Zf,Zg,Zh,Nat.reduceEqDiff,Nat.reduceLT,Zi,Zj,Zk,Zl,Nat.reduceBEq,WPm,d4,d2,d3,faddr_ptr,Nat.zero_add,Nat.add_zero,nm o18,load_cells o18,cc3]
     refine calledW_of (hbind_ok d σ7 id mid vs4 M r.v tv r.t hp7 hsm ot7.sl) ?_
     rintro w σ8 ⟨-,⟨vs8,h8⟩,k8⟩
     have o188 := k8.get o18 (by omega)
     have o148 := k8.get o147 (by omega)
     have bd8 := bd7.keeps k8 (fun i _ hlo e => by omega)
     have ot8 := ot7.keeps k8 fun i hi e => ot7.sl.noMap hp7.map (e ▸ hi)
     have l8 := k8.1
     have lex := bd8.lex
     have len8 := bd8.len
     rw [List.length_map] at len8
     obtain ⟨bv',σ9,a1,a2,a3⟩ := bd8.push2 (x := bdV r.v tv) ot8 (ft.le (by omega)) nt (by omega) (fun j hj e => by have := ft j hj; have := bd5.row.sl.lt e; omega) (fun i y j hy hj e => by have := ft j hj; have := bd5.lt hy e; omega) 40 (by omega)
     have nb14 : bv.sid ≠ some i14 := fun e => by have := bd8.frl _ e; omega
     have o149 := a3.get o148 nb14
     have st9 := store_cells o149 (off := 1) (by simp) (v := bv') a2.row.one
     simp only [List.set_cons_zero,List.set_cons_succ] at st9
     have fl := elems_fs 3 (AVal.tagL [bdV r.v tv]) true σ8 [bdV r.v tv]
     simp -dsimp only [↓WPd,↓Zm,↓Zn,WPu,Za,Zb,Zc,Zd,Ze,Zf,Zg,Zh,Nat.reduceEqDiff,Nat.reduceLT,Zi,Zj,Zk,Zl,Nat.reduceBEq,WPm,faddr_ptr,Nat.zero_add,Nat.add_zero,load_cells o148,List.getElem?_cons_zero,List.getElem?_cons_succ,nm o188,load_cells o188,cc3,bd_build r.v tv ot.one,bd_lit r.v tv ot.one,fl,a1,st9,d3]
     have k10 : Keeps (fun i => i = i14) σ9 (σ9.set i14 (.cells [.int .u8 0,bv',.nilslice,.int .i64 ((k + 1 : Nat) : Int)])) := Keeps.set _ _ _
     have o10 : (σ9.set i14 (.cells [.int .u8 0,bv',.nilslice,.int .i64 ((k + 1 : Nat) : Int)]))[i14]? = some (.cells [.int .u8 0,bv',.nilslice,.int .i64 ((k + 1 : Nat) : Int)]) := get_set o149
     generalize σ9.set i14 (.cells [.int .u8 0,bv',.nilslice,.int .i64 ((k + 1 : Nat) : Int)]) = σ10 at k10 o10
     have w10 : Vw σ7 σ10 := ((Vw.map hp7.map k8).trans (Vw.app bd8.row a1)).trans (Vw.cell o149 k10)
     have nbs : ∀ j,j ≤ i14 → bv.sid ≠ some j := fun j hj e => by have := bd8.frl _ e; omega
     refine ⟨n.toNat - (k + 1),by omega,k + 1,bindH M r.v r.t,rv',bv',rest,bd ++ [(r.v,r.t)],us ++ [tv],hk1,rfl,rfl,⟨?_,o10,⟨vs8,(h8.keeps a3 (nbs _ (by omega)) (nbs _ (by omega))).keeps k10 (by omega) (by omega)⟩,row7.vw w10,?_,?_⟩,hS,hrest,by simp only [List.length_cons] at hrl; omega,by simp; omega,?_⟩
     ·exact k10.get (a3.get (k8.get o67 (by omega)) (nbs _ (by omega))) (by omega)
     ·rw [BRows,bdVs_push len8,List.map_append]
      exact a2.keeps k10 fun i _ hlo e => by omega
     ·exact Keeps.trans (Keeps.trans (Keeps.trans g07 k8 fun i hi e => by omega) a3 fun i hi e => by have := bd8.frl _ e; omega) k10 fun i hi e => by omega
     ·have := a3.1; have := k10.1; omega
    ·have d4 : ((r.k : Int) == 4) = false := by rw [hk']; rfl
     have d2 : ((r.k : Int) == 2) = false := by rw [hk']; rfl
     have d3 : ((r.k : Int) == 3) = true := by rw [hk']; rfl
     rw [if_neg (by omega),if_neg (by omega)] at hS
     obtain ⟨pes,p1,p2⟩ := (ORows.terms op).grow g7
     obtain ⟨res',r1',r2'⟩ := row7
     have lp := p2.len
     have lr' := r2'.len
     simp only [List.length_cons] at hrl
     simp -dsimp only [↓WPd,↓Zm,↓Zn,WPu,Za,Zb,Zc,Zd,Ze,Zf,Zg,Zh,Nat.reduceEqDiff,Nat.reduceLT,Zi,Zj,Zk,Zl,Nat.reduceBEq,WPm,d4,d2,d3,faddr_ptr,Nat.zero_add,Nat.add_zero,load_cells o18,cc4,lit2_ok p1.one r1'.one]
     refine calledW_of (concatt_ok d σ7 _ [pes,res'] (by simp) (by simp; omega) ⟨[pv,rv'],SlOf.fs _ _ _ _ _,.cons p1 (.cons r1' .nil)⟩) ?_
     rintro v8 σ8 ⟨g8,ov,-,-⟩
     simp -dsimp only [↓WPd,↓Zm,↓Zn,WPu,Za,Zb,Zc,Zd,Ze,Zf,Zg,Zh,Nat.reduceEqDiff,Nat.reduceLT,Zi,Zj,Zk,Zl,Nat.reduceBEq,WPm]
     have l8 := g8.1
     refine ⟨n.toNat - (k + 1),by omega,k + 1,M,v8,bv,r.ps ++ rest,bd,us,hk1,rfl,rfl,⟨g8.get o67,g8.get o147,⟨_,hp7.grow g8⟩,⟨_,ov.sl,?_⟩,bd7.grow g8,g07.trans g8⟩,hS,fun u hu => ?_,by simp; omega,by omega,by omega⟩
     ·have := Two.append (p2.mono fun e t he => SlOf.grow he g8) (r2'.mono fun e t he => SlOf.grow he g8)
      simpa using this
     ·rcases List.mem_append.1 hu with hu | hu
      ·exact hpe u hu
      ·exact hrest u hu
    ·have d4 : ((r.k : Int) == 4) = true := by rw [hk']; rfl
     rw [if_pos hk'] at hS
     simp -dsimp only [↓WPd,↓Zm,↓Zn,WPu,Za,Zb,Zc,Zd,Ze,Zf,Zg,Zh,Nat.reduceEqDiff,Nat.reduceLT,Zi,Zj,Zk,Zl,Nat.reduceBEq,WPm,d4,faddr_ptr,Nat.zero_add,Nat.add_zero,load_cells o147,List.getElem?_cons_zero,List.getElem?_cons_succ,clashS,storeN_cells o67 (n := 4) (cs' := [.int .u8 2,.nilslice,.nilslice,.int .i64 ((k + 1 : Nat) : Int)]) rfl rfl rfl]
     exact .inr ⟨k + 1,rv',rfl,loadN_cells (get_set o67) rfl,Keeps.trans g07 (Keeps.set _ _ _) fun i hi e => by omega,hS.symm⟩
   ·have hk0 : n.toNat - k = 0 := by omega
    simp -dsimp only [↓WPd,↓Zm,↓Zn,WPu,Za,Zb,Zc,Zd,Ze,Zf,Zg,Zh,Nat.reduceEqDiff,Nat.reduceLT,Zi,Zj,Zk,Zl,Nat.reduceBEq]
    refine .inl ⟨k,M,rv,bv,t :: rest,bd,us,hk,rfl,st,?_,hrow,hrl,hi⟩
    rw [← hS,hk0,solveN_zero]; rfl
 ·rintro x σ' env h
  rcases h with ⟨rfl,k,M,rv,bv,row,bd,us,hk,hv,st,hS,hrow,hrl,hi⟩ | ⟨rfl,k,r13,hv,ld,g,hS⟩
  ·simp only [List.map_cons,List.map_nil,List.cons.injEq,and_true] at hv
   obtain ⟨v6,v13,v14⟩ := hv
   have sto := store_cells st.o14 (off := 0) (by simp) (v := .int .u8 1) rfl
   simp only [List.set_cons_zero,List.set_cons_succ] at sto
   have lr := st.row.len
   simp -dsimp only [↓WPd,↓Zm,↓Zn,WPu,Za,Zb,Zc,Zd,Ze,Zf,Zg,Zh,Nat.reduceEqDiff,Nat.reduceLT,Zi,Zj,Zk,Zl,Nat.reduceBEq,WPm,v6,v13,v14,faddr_ptr,Nat.zero_add,Nat.add_zero,sto,lr]
   have k2 : Keeps (fun i => i = i14) σ' (σ'.set i14 (.cells [.int .u8 1,bv,.nilslice,.int .i64 (k : Nat)])) := Keeps.set _ _ _
   have o2 : (σ'.set i14 (.cells [.int .u8 1,bv,.nilslice,.int .i64 (k : Nat)]))[i14]? = some (.cells [.int .u8 1,bv,.nilslice,.int .i64 (k : Nat)]) := get_set st.o14
   have row2 := st.row.vw (Vw.cell st.o14 k2)
   have bd2 := st.bds.keeps k2 (fun i _ hlo e => by omega)
   have o62 := k2.get st.o6 (by omega)
   have g02 : Grows σ0 (σ'.set i14 (.cells [.int .u8 1,bv,.nilslice,.int .i64 (k : Nat)])) := Keeps.trans st.grow k2 fun i hi e => by omega
   have l2 : i14 < (σ'.set i14 (.cells [.int .u8 1,bv,.nilslice,.int .i64 (k : Nat)])).length := by simpa using hi
   generalize σ'.set i14 (.cells [.int .u8 1,bv,.nilslice,.int .i64 (k : Nat)]) = σ2' at k2 o2 row2 bd2 o62 g02 l2
   have lbv : ∀ j,bv.sid = some j → j < σ2'.length := fun j hj => bd2.row.sl.lt hj
   have lus : ∀ (i : Nat) (u : AVal) (j : Nat),us[i]? = some u → u.sid = some j → j < σ2'.length := fun i u j hu hj => bd2.lt hu hj
   have fbv : ∀ j,j ≤ i14 → bv.sid ≠ some j := fun j hj e => by have := bd2.frl _ e; omega
   refine loop_rule2 (fun m xs σ'' => ∃ (j : Nat) (lv' : AVal) (es : List AVal),j ≤ row.length ∧ m = row.length - j ∧ xs = [.ptr i6 0,.ptr i14 0,rv,.int .i64 row.length,.int .i64 (j : Nat)] ∧ σ''[i14]? = some (.cells [.int .u8 ((if j = 0 then 1 else 3 : Nat) : Int),bv,lv',.int .i64 (k : Nat)]) ∧ σ''[i6]? = some (.cells solvZ) ∧ ORows σ'' σ2'.length 5 lv' es ((row.take j).map CC) ∧ Terms σ'' rv row ∧ BRows σ'' (i14 + 1) bv us bd ∧ Grows σ0 σ'' ∧ σ2'.length ≤ σ''.length)
    [6,14] (fun x xs σ'' => x = .exit 5 ∧ ∃ (lv' : AVal) (es : List AVal),xs = [.ptr i6 0,.ptr i14 0] ∧ σ''[i14]? = some (.cells [.int .u8 ((if row.isEmpty then 1 else 3 : Nat) : Int),bv,lv',.int .i64 (k : Nat)]) ∧ σ''[i6]? = some (.cells solvZ) ∧ ORows σ'' σ2'.length 5 lv' es (row.map CC) ∧ BRows σ'' (i14 + 1) bv us bd ∧ Grows σ0 σ'' ∧ σ2'.length ≤ σ''.length) row.length
    ⟨0,.nilslice,[],Nat.zero_le _,rfl,?_,o2,o62,ORows.nil _ _ _,row2,bd2,g02,Nat.le_refl _⟩ ?_ ?_
   ·simp -dsimp only [↓WPd,↓Zm,↓Zn,WPu,Za,Zb,Zc,Zd,Ze,Zf,Zg,Zh,Nat.reduceEqDiff,Nat.reduceLT,Zi,Zj,Zk,Zl,Nat.reduceBEq,v6,v14]; rfl
   ·rintro m xs σ'' ⟨j,lv',es,hj,rfl,rfl,o14',o6',ol,tr,bds,g0,hl⟩
    simp -dsimp only [↓WPd,↓Zm,↓Zn,WPu,Za,Zb,Zc,Zd,Ze,Zf,Zg,Zh,Nat.reduceEqDiff,Nat.reduceLT,Zi,Zj,Zk,Zl,Nat.reduceBEq]
    refine condP_dec (fun hc => ?_) (fun hc => ?_)
    ·have hj' : j < row.length := by omega
     obtain ⟨te,t1,t2,t3⟩ := tr.at hj'
     have sm := (hrow _ (List.getElem_mem hj')).small
     have s3 := store_cells o14' (off := 0) (by simp) (v := .int .u8 3) rfl
     simp only [List.set_cons_zero,List.set_cons_succ] at s3
     simp -dsimp only [↓WPd,↓Zm,↓Zn,WPu,Za,Zb,Zc,Zd,Ze,Zf,Zg,Zh,Nat.reduceEqDiff,Nat.reduceLT,Zi,Zj,Zk,Zl,Nat.reduceBEq,WPm,t1,t2,faddr_ptr,Nat.zero_add,Nat.add_zero,s3]
     have k3 : Keeps (fun i => i = i14) σ'' (σ''.set i14 (.cells [.int .u8 3,bv,lv',.int .i64 (k : Nat)])) := Keeps.set _ _ _
     have o3 : (σ''.set i14 (.cells [.int .u8 3,bv,lv',.int .i64 (k : Nat)]))[i14]? = some (.cells [.int .u8 3,bv,lv',.int .i64 (k : Nat)]) := get_set o14'
     generalize σ''.set i14 (.cells [.int .u8 3,bv,lv',.int .i64 (k : Nat)]) = σ3' at k3 o3
     have w3 : Vw σ'' σ3' := Vw.cell o14' k3
     have ol3 : ORows σ3' σ2'.length 5 lv' es ((row.take j).map CC) := ⟨ol.row.keeps k3 fun i hi e => by have := ol.frl i hi; omega,ol.len,fun i e p h1 h2 => (ol.one i e p h1 h2).keeps k3 fun i' hi e' => by have := ol.frs i e h1 i' hi; omega,ol.frs,ol.frl,ol.apart,ol.off,ol.lit,ol.litl⟩
     have l3 := k3.1
     refine drawnP_of rfl ?_
     simp -dsimp only [↓WPd,↓Zm,↓Zn,WPu,Za,Zb,Zc,Zd,Ze,Zf,Zg,Zh,Nat.reduceEqDiff,Nat.reduceLT,Zi,Zj,Zk,Zl,Nat.reduceBEq,↓WPed,WPeu,Nat.reduceAdd,and_self,faddr_ptr,Nat.zero_add,Nat.add_zero,load_cells o3,List.getElem?_cons_zero,List.getElem?_cons_succ]
     refine calledW_of (cclone_ok d σ3' te row[j] sm.1 (w3 _ _ _ t3)) ?_
     rintro u σ4 ⟨g4,ou,fu,nu⟩
     have hel := ol.len
     rw [List.length_map,List.length_take] at hel
     obtain ⟨l',σ5,a1,a2,a3⟩ := ol3.push (by omega) g4 ou fu nu 24 (by omega)
     have o5 := a3.get (g4.get o3) (by omega)
     have s5 := store_cells o5 (off := 2) (by simp) (v := l') a2.row.one
     simp only [List.set_cons_zero,List.set_cons_succ] at s5
     have l1 := lit1_ok (a := u) ou.one
     have el := fun tg => elems_fs 1 tg true σ4 [u]
     simp -dsimp only [↓WPd,↓Zm,↓Zn,WPu,Za,Zb,Zc,Zd,Ze,Zf,Zg,Zh,Nat.reduceEqDiff,Nat.reduceLT,Zi,Zj,Zk,Zl,Nat.reduceBEq,↓WPed,WPeu,Nat.reduceAdd,and_self,faddr_ptr,Nat.zero_add,Nat.add_zero,load_cells o3,load_cells (g4.get o3),List.getElem?_cons_zero,List.getElem?_cons_succ,l1,el,a1,s5]
     have k6 : Keeps (fun i => i = i14) σ5 (σ5.set i14 (.cells [.int .u8 3,bv,l',.int .i64 (k : Nat)])) := Keeps.set _ _ _
     have o6 : (σ5.set i14 (.cells [.int .u8 3,bv,l',.int .i64 (k : Nat)]))[i14]? = some (.cells [.int .u8 3,bv,l',.int .i64 (k : Nat)]) := get_set o5
     generalize σ5.set i14 (.cells [.int .u8 3,bv,l',.int .i64 (k : Nat)]) = σ6 at k6 o6
     have ht : row.take (j + 1) = row.take j ++ [row[j]] := List.take_succ_eq_append_getElem hj'
     have l4 := g4.1
     have l5 := a3.1
     have l6 := k6.1
     have w6 : Vw σ'' σ6 := ((w3.trans (Vw.grow g4)).trans (Vw.app (ol3.row.grow g4) a1)).trans (Vw.cell o5 k6)
     refine ⟨row.length - (j + 1),by omega,j + 1,l',es ++ [u],by omega,rfl,by rw [wrap_i64 (by omega) (by omega),Int.natCast_add,Int.natCast_one],by rw [if_neg (by omega)]; exact o6,k6.get (a3.get (g4.get (k3.get o6' (by omega))) (by omega)) (by omega),?_,tr.vw w6,?_,?_,by omega⟩
     ·rw [ht,List.map_append]
      exact ⟨a2.row.keeps k6 fun i hi e => by have := a2.frl i hi; omega,a2.len,fun i e p h1 h2 => (a2.one i e p h1 h2).keeps k6 fun i' hi e' => by have := a2.frs i e h1 i' hi; omega,a2.frs,a2.frl,a2.apart,a2.off,a2.lit,a2.litl⟩
     ·have hb : ∀ (i : Nat),i < σ4.length → i14 + 1 ≤ i → (bv.sid = some i ∨ ∃ (q : Nat) (u : AVal),us[q]? = some u ∧ u.sid = some i) → i < σ2'.length := fun i _ _ h => by
       rcases h with h | ⟨q,u,h1,h2⟩
       ·exact lbv i h
       ·exact lus q u i h1 h2
      have b4 := (bds.keeps k3 (fun i _ hlo e => by omega)).grow g4
      have b5 : BRows σ5 (i14 + 1) bv us bd := ⟨b4.row.keeps a3 fun i hi e => by have := lbv i hi; omega,b4.lex,b4.len,fun i e p h1 h2 => (b4.one i e p h1 h2).keeps a3 fun i' hi e' => by have := lus i e i' h1 hi; omega,b4.frs,b4.frl,b4.apart,b4.off,b4.lit⟩
      exact b5.keeps k6 fun i _ hlo e => by omega
     ·exact Keeps.trans (Keeps.trans (Keeps.trans g0 k3 fun i hi e => by omega) (Keeps.trans g4.any a3 fun i hi e => e) fun i hi e => by omega) k6 fun i hi e => by omega
    ·have : j = row.length := by omega
     subst this
     rw [List.take_length] at ol
     simp -dsimp only [↓WPd,↓Zm,↓Zn,WPu,Za,Zb,Zc,Zd,Ze,Zf,Zg,Zh,Nat.reduceEqDiff,Nat.reduceLT,Zi,Zj,Zk,Zl,Nat.reduceBEq]
     refine ⟨lv',es,?_,o6',ol,bds,g0,hl⟩
     rw [o14']
     cases row <;> simp
   ·rintro x σ'' env' ⟨rfl,lv',es,hv,o14',o6',ol,bds,g0,hl⟩
    simp only [List.map_cons,List.map_nil,List.cons.injEq,and_true] at hv
    obtain ⟨w6,w14⟩ := hv
    have all1 : [AVal.int .u8 ((if row.isEmpty then 1 else 3 : Nat) : Int),bv,lv',.int .i64 (k : Nat)].all AVal.one = true := by
     simp only [List.all_cons,List.all_nil,bds.row.one,ol.row.one]; rfl
    have ld := loadN_cells o14' (n := 4) rfl
    have sv := storeN_cells o6' (n := 4) (cs' := [.int .u8 ((if row.isEmpty then 1 else 3 : Nat) : Int),bv,lv',.int .i64 (k : Nat)]) rfl rfl all1
    simp -dsimp only [↓WPd,↓Zm,↓Zn,WPu,Za,Zb,Zc,Zd,Ze,Zf,Zg,Zh,Nat.reduceEqDiff,Nat.reduceLT,Zi,Zj,Zk,Zl,Nat.reduceBEq,WPm,w6,w14,ld,sv]
    have k7 : Keeps (fun i => i = i6) σ'' (σ''.set i6 (.cells [.int .u8 ((if row.isEmpty then 1 else 3 : Nat) : Int),bv,lv',.int .i64 (k : Nat)])) := Keeps.set _ _ _
    refine hK _ _ _ (by simp -dsimp only [↓WPd,↓Zm,↓Zn,WPu,Za,Zb,Zc,Zd,Ze,Zf,Zg,Zh,Nat.reduceEqDiff,Nat.reduceLT,Zi,Zj,Zk,Zl,Nat.reduceBEq,w6]) (loadN_cells (get_set o6') rfl) ?_
    rw [hS]
    refine ⟨Keeps.trans g0 k7 fun i hi e => by omega,bv,lv',us,es,σ2'.length,rfl,(bds.keeps k7 fun i _ hlo e => by omega).lo (by omega),?_,g02.1,by have := k7.1; omega,lbv,lus⟩
    exact ⟨ol.row.keeps k7 fun i hi e => by have := ol.frl i hi; omega,ol.len,fun i e p h1 h2 => (ol.one i e p h1 h2).keeps k7 fun i' hi e' => by have := ol.frs i e h1 i' hi; omega,ol.frs,ol.frl,ol.apart,ol.off,ol.lit,ol.litl⟩
  ·simp only [List.map_cons,List.map_nil,List.cons.injEq,and_true] at hv
   obtain ⟨v6,-,v14⟩ := hv
   simp -dsimp only [↓WPd,↓Zm,↓Zn,WPu,Za,Zb,Zc,Zd,Ze,Zf,Zg,Zh,Nat.reduceEqDiff,Nat.reduceLT,Zi,Zj,Zk,Zl,Nat.reduceBEq,WPm]
   exact hK env σ' _ v6 ld (by rw [hS]; exact SolvO.none g k)
end
section
variable (d : Nat) (σ : Store)
theorem eqsOk_bad {l : List (List Cel)} {k : Nat} (hk : k < l.length) (h : (isEqT l[k] && glob l[k]) = false) : eqsOk l = false := by
 rw [eqsOk,List.all_eq_false]
 exact ⟨l[k],List.getElem_mem hk,by rw [h]; simp⟩
set_option maxHeartbeats 2000000 in
theorem solve_ok (hv lv : AVal) (H : Hp) (n : Int) (l : List (List Cel)) (h : HeapV σ hv H) (hl : Terms σ lv l) (hsm : ∀ t ∈ l,Small t) (hn : n < 2 ^ 20) (hlen : l.length < 2 ^ 27) :
  Called CU.cfg d 41 [hv,.int .i64 n,lv] σ fun v σ' => SolvO σ σ' (solveL H n.toNat l) v := by
 refine called_of (fn := CU.a41) rfl (Nat.le_of_ble_eq_true rfl) ?_
 rw [show CU.a41.body = .seq (seqL CU.a41.body) (.seq (seqL (seqR CU.a41.body)) (.seq (seqL (seqR (seqR CU.a41.body))) (.seq (seqL (seqR (seqR (seqR CU.a41.body)))) solveT))) from rfl]
 simp only [CU.a41,seqL,seqR, CU.o]
 have lv1 := hl.len
 simp -dsimp only [↓WPd,↓Zm,↓Zn,WPu,Za,Zb,Zc,Zd,Ze,Zf,Zg,Zh,Nat.reduceEqDiff,Nat.reduceLT,Zi,Zj,Zk,Zl,Nat.reduceBEq,WPm,lv1]
 have g1 : Grows σ (σ ++ [AObj.cells [.int .u8 0,.nilslice,.nilslice,.int .i64 0]]) := Grows.app _ _
 have o1 : (σ ++ [AObj.cells [.int .u8 0,.nilslice,.nilslice,.int .i64 0]])[σ.length]? = some (.cells solvZ) := by simp
 have l1 : σ.length < (σ ++ [AObj.cells [.int .u8 0,.nilslice,.nilslice,.int .i64 0]]).length := by simp
 generalize σ ++ [AObj.cells [.int .u8 0,.nilslice,.nilslice,.int .i64 0]] = σ1 at g1 o1 l1
 generalize hi6 : σ.length = i6 at o1 l1
 refine loop_rule2 (fun m xs σ' => ∃ k : Nat,k ≤ l.length ∧ m = l.length - k ∧ xs = [hv,.int .i64 n,lv,.ptr i6 0,lv,.int .i64 l.length,.int .i64 (k : Nat)] ∧ Grows σ1 σ' ∧ ∀ (j : Nat) (hj : j < l.length),j < k → (isEqT l[j] && glob l[j]) = true)
  [0,1,2,6] (fun x xs σ' => (x = .exit 0 ∧ xs = [hv,.int .i64 n,lv,.ptr i6 0] ∧ Grows σ1 σ' ∧ eqsOk l = true) ∨ (x = .ret ∧ xs = [hv,.int .i64 n,lv,.ptr i6 0] ∧ Grows σ σ' ∧ loadV σ' 4 true (.ptr i6 0) = some (.agg [.int .u8 2,.nilslice,.nilslice,.int .i64 0]) ∧ eqsOk l = false)) l.length
  ⟨0,Nat.zero_le _,rfl,?_,Keeps.refl _ _,fun j _ h => by omega⟩ ?_ ?_
 ·simp -dsimp only [↓WPd,↓Zm,↓Zn,WPu,Za,Zb,Zc,Zd,Ze,Zf,Zg,Zh,Nat.reduceEqDiff,Nat.reduceLT,Zi,Zj,Zk,Zl,Nat.reduceBEq]; rfl
 ·rintro m xs σ' ⟨k,hk,rfl,rfl,g,hall⟩
  simp -dsimp only [↓WPd,↓Zm,↓Zn,WPu,Za,Zb,Zc,Zd,Ze,Zf,Zg,Zh,Nat.reduceEqDiff,Nat.reduceLT,Zi,Zj,Zk,Zl,Nat.reduceBEq,WPm]
  refine condP_dec (fun hc => ?_) (fun hc => ?_)
  ·have hk' : k < l.length := by omega
   obtain ⟨e,e1,e2,e3⟩ := ((hl.grow g1).grow g).at hk'
   have sm := hsm _ (List.getElem_mem hk')
   have bad : ∀ {σ'' : Store},Grows σ1 σ'' → (isEqT l[k] && glob l[k]) = false → storeV σ'' 4 (.ptr i6 0) (.agg [.int .u8 2,.nilslice,.nilslice,.int .i64 0]) = some (σ''.set i6 (.cells [.int .u8 2,.nilslice,.nilslice,.int .i64 0])) ∧ (Grows σ (σ''.set i6 (.cells [.int .u8 2,.nilslice,.nilslice,.int .i64 0])) ∧ loadV (σ''.set i6 (.cells [.int .u8 2,.nilslice,.nilslice,.int .i64 0])) 4 true (.ptr i6 0) = some (.agg [.int .u8 2,.nilslice,.nilslice,.int .i64 0]) ∧ eqsOk l = false) :=
    fun g' hb => ⟨storeN_cells (g'.get o1) rfl rfl rfl,Keeps.trans (g1.trans g') (Keeps.set _ _ _) fun i hi e => by omega,loadN_cells (get_set (g'.get o1)) rfl,eqsOk_bad hk' hb⟩
   simp -dsimp only [↓WPd,↓Zm,↓Zn,WPu,Za,Zb,Zc,Zd,Ze,Zf,Zg,Zh,Nat.reduceEqDiff,Nat.reduceLT,Zi,Zj,Zk,Zl,Nat.reduceBEq,WPm,e1,e2]
   refine calledW_of (equation_ok d σ' e l[k] sm.1 sm.2 e3) ?_
   rintro w σ2 ⟨a,b,rfl,hE⟩
   obtain ⟨g2,-,-,-⟩ := hE.own
   cases hq : isEqT l[k] with
   | false =>
    obtain ⟨b1,b2⟩ := bad (g.trans g2) (by rw [hq]; rfl)
    simp -dsimp only [↓WPd,↓Zm,↓Zn,WPu,Za,Zb,Zc,Zd,Ze,Zf,Zg,Zh,Nat.reduceEqDiff,Nat.reduceLT,Zi,Zj,Zk,Zl,Nat.reduceBEq,WPm,List.getElem?_cons_zero,List.getElem?_cons_succ,clash0,b1]
    exact .inr b2
   | true =>
    simp -dsimp only [↓WPd,↓Zm,↓Zn,WPu,Za,Zb,Zc,Zd,Ze,Zf,Zg,Zh,Nat.reduceEqDiff,Nat.reduceLT,Zi,Zj,Zk,Zl,Nat.reduceBEq,WPm,List.getElem?_cons_zero,List.getElem?_cons_succ]
    refine calledW_of (global_ok d σ2 e l[k] sm (e3.grow g2)) ?_
    rintro w σ3 ⟨rfl,g3⟩
    cases hg : glob l[k] with
    | false =>
     obtain ⟨b1,b2⟩ := bad ((g.trans g2).trans g3) (by rw [hq,hg]; rfl)
     simp -dsimp only [↓WPd,↓Zm,↓Zn,WPu,Za,Zb,Zc,Zd,Ze,Zf,Zg,Zh,Nat.reduceEqDiff,Nat.reduceLT,Zi,Zj,Zk,Zl,Nat.reduceBEq,WPm,List.getElem?_cons_zero,List.getElem?_cons_succ,clash0,b1]
     exact .inr b2
    | true =>
     simp -dsimp only [↓WPd,↓Zm,↓Zn,WPu,Za,Zb,Zc,Zd,Ze,Zf,Zg,Zh,Nat.reduceEqDiff,Nat.reduceLT,Zi,Zj,Zk,Zl,Nat.reduceBEq,WPm]
     refine ⟨l.length - (k + 1),by omega,k + 1,by omega,rfl,by rw [wrap_i64 (by omega) (by omega),Int.natCast_add,Int.natCast_one],(g.trans g2).trans g3,fun j hj hjk => ?_⟩
     by_cases e : j = k
     ·subst e; rw [hq,hg]; rfl
     ·exact hall j hj (by omega)
  ·simp -dsimp only [↓WPd,↓Zm,↓Zn,WPu,Za,Zb,Zc,Zd,Ze,Zf,Zg,Zh,Nat.reduceEqDiff,Nat.reduceLT,Zi,Zj,Zk,Zl,Nat.reduceBEq]
   refine .inl ⟨g,?_⟩
   rw [eqsOk,List.all_eq_true]
   intro t ht
   obtain ⟨j,hj,rfl⟩ := List.getElem_of_mem ht
   exact hall j hj (by omega)
 ·rintro x σ' env hx
  rcases hx with ⟨rfl,hv',g,hok⟩ | ⟨rfl,hv',g,ld,hok⟩
  ·simp only [List.map_cons,List.map_nil,List.cons.injEq,and_true] at hv'
   obtain ⟨v0,v1,v2,v6⟩ := hv'
   have hS : solveL H n.toNat l = solveN n.toNat H l [] 0 := by rw [solveL,if_pos hok]
   rw [hS]
   have heq := eqsOk_mem hok
   have h' := (h.grow g1).grow g
   have hl' := (hl.grow g1).grow g
   have lg := g.1
   rcases h' with ⟨rfl,rfl⟩ | ⟨id,mid,vs,rfl,hp⟩
   ·simp -dsimp only [↓WPd,↓Zm,↓Zn,WPu,Za,Zb,Zc,Zd,Ze,Zf,Zg,Zh,Nat.reduceEqDiff,Nat.reduceLT,Zi,Zj,Zk,Zl,Nat.reduceBEq,WPm,v0]
    refine calledW_of (nofork_ok d σ') ?_
    rintro w σ2 ⟨rfl,rfl⟩
    have e : isNil .p .nilptr = some true := rfl
    simp -dsimp only [↓WPd,↓Zm,↓Zn,WPu,Za,Zb,Zc,Zd,Ze,Zf,Zg,Zh,Nat.reduceEqDiff,Nat.reduceLT,Zi,Zj,Zk,Zl,Nat.reduceBEq,WPm,e]
    refine calledW_of (hnew_ok d σ2) ?_
    rintro w σ3 ⟨id,mid,rfl,hp,g3,-,-,m1,m2⟩
    simp -dsimp only [↓WPd,↓Zm,↓Zn,WPu,Za,Zb,Zc,Zd,Ze,Zf,Zg,Zh,Nat.reduceEqDiff,Nat.reduceLT,Zi,Zj,Zk,Zl,Nat.reduceBEq,WPm]
    refine solve_tail d σ σ3 _ i6 id mid [] [] n lv l _ (by simp -dsimp only [↓WPd,↓Zm,↓Zn,WPu,Za,Zb,Zc,Zd,Ze,Zf,Zg,Zh,Nat.reduceEqDiff,Nat.reduceLT,Zi,Zj,Zk,Zl,Nat.reduceBEq,v1]) (by simp -dsimp only [↓WPd,↓Zm,↓Zn,WPu,Za,Zb,Zc,Zd,Ze,Zf,Zg,Zh,Nat.reduceEqDiff,Nat.reduceLT,Zi,Zj,Zk,Zl,Nat.reduceBEq,v2]) (by simp -dsimp only [↓WPd,↓Zm,↓Zn,WPu,Za,Zb,Zc,Zd,Ze,Zf,Zg,Zh,Nat.reduceEqDiff,Nat.reduceLT,Zi,Zj,Zk,Zl,Nat.reduceBEq,v6]) (by simp -dsimp only [↓WPd,↓Zm,↓Zn,WPu,Za,Zb,Zc,Zd,Ze,Zf,Zg,Zh,Nat.reduceEqDiff,Nat.reduceLT,Zi,Zj,Zk,Zl,Nat.reduceBEq]) ((g1.trans g).trans g3) hp (g3.get (g.get o1)) (by omega) (by omega) (by omega) (hl'.grow g3) heq hn hlen ?_
    intro e' σ4 v w6 ld S
    simp -dsimp only [↓WPd,↓Zm,↓Zn,WPu,Za,Zb,Zc,Zd,Ze,Zf,Zg,Zh,Nat.reduceEqDiff,Nat.reduceLT,Zi,Zj,Zk,Zl,Nat.reduceBEq,WPm,w6,ld]
    exact S
   ·simp -dsimp only [↓WPd,↓Zm,↓Zn,WPu,Za,Zb,Zc,Zd,Ze,Zf,Zg,Zh,Nat.reduceEqDiff,Nat.reduceLT,Zi,Zj,Zk,Zl,Nat.reduceBEq,WPm,v0]
    refine calledW_of (hfork_ok d σ' id mid vs H hp) ?_
    rintro w σ2 ⟨id',mid',rfl,hp',g2,m1,m2⟩
    simp -dsimp only [↓WPd,↓Zm,↓Zn,WPu,Za,Zb,Zc,Zd,Ze,Zf,Zg,Zh,Nat.reduceEqDiff,Nat.reduceLT,Zi,Zj,Zk,Zl,Nat.reduceBEq,WPm,isnil_ptr]
    refine solve_tail d σ σ2 _ i6 id' mid' vs H n lv l _ (by simp -dsimp only [↓WPd,↓Zm,↓Zn,WPu,Za,Zb,Zc,Zd,Ze,Zf,Zg,Zh,Nat.reduceEqDiff,Nat.reduceLT,Zi,Zj,Zk,Zl,Nat.reduceBEq,v1]) (by simp -dsimp only [↓WPd,↓Zm,↓Zn,WPu,Za,Zb,Zc,Zd,Ze,Zf,Zg,Zh,Nat.reduceEqDiff,Nat.reduceLT,Zi,Zj,Zk,Zl,Nat.reduceBEq,v2]) (by simp -dsimp only [↓WPd,↓Zm,↓Zn,WPu,Za,Zb,Zc,Zd,Ze,Zf,Zg,Zh,Nat.reduceEqDiff,Nat.reduceLT,Zi,Zj,Zk,Zl,Nat.reduceBEq,v6]) (by simp -dsimp only [↓WPd,↓Zm,↓Zn,WPu,Za,Zb,Zc,Zd,Ze,Zf,Zg,Zh,Nat.reduceEqDiff,Nat.reduceLT,Zi,Zj,Zk,Zl,Nat.reduceBEq]) ((g1.trans g).trans g2) hp' (g2.get (g.get o1)) (by omega) (by omega) (by omega) (hl'.grow g2) heq hn hlen ?_
    intro e' σ4 v w6 ld S
    simp -dsimp only [↓WPd,↓Zm,↓Zn,WPu,Za,Zb,Zc,Zd,Ze,Zf,Zg,Zh,Nat.reduceEqDiff,Nat.reduceLT,Zi,Zj,Zk,Zl,Nat.reduceBEq,WPm,w6,ld]
    exact S
  ·simp only [List.map_cons,List.map_nil,List.cons.injEq,and_true] at hv'
   obtain ⟨v0,v1,v2,v6⟩ := hv'
   have hS : solveL H n.toNat l = ⟨2,[],[],0⟩ := by rw [solveL,if_neg (by rw [hok]; simp)]
   rw [hS]
   simp -dsimp only [↓WPd,↓Zm,↓Zn,WPu,Za,Zb,Zc,Zd,Ze,Zf,Zg,Zh,Nat.reduceEqDiff,Nat.reduceLT,Zi,Zj,Zk,Zl,Nat.reduceBEq,WPm,v6,ld]
   exact SolvO.none g 0
end
section
variable (d : Nat) (σ : Store)
theorem sameterms_ok (a b : AVal) (ts : List (List Cel)) (hx : ts.length < 2 ^ 40) (hs : ∀ t ∈ ts,t.length < 2 ^ 40) (ha : Terms σ a ts) (hb : Terms σ b ts) : Called CU.cfg d 86 [a,b] σ fun v σ' => v = .bool true ∧ σ' = σ := by
 refine called_of (fn := CU.a86) rfl (Nat.le_of_ble_eq_true rfl) ?_
 simp only [CU.a86, CU.o]
 have la := ha.len
 have lb := hb.len
 have e0 : ((ts.length : Int) != (ts.length : Int)) = false := by simp
 simp -dsimp only [↓WPd,↓Zm,↓Zn,WPu,Za,Zb,Zc,Zd,Ze,Zf,Zg,Zh,Nat.reduceEqDiff,Nat.reduceLT,Zi,Zj,Zk,Zl,Nat.reduceBEq,la,lb,e0]
 refine loop_rule2 (fun m vs σ' => ∃ k,k ≤ ts.length ∧ m = ts.length - k ∧ vs = [a,b,.int .i64 k] ∧ σ' = σ) [] (fun e vs σ' => e = .exit 0 ∧ σ' = σ) ts.length ⟨0,Nat.zero_le _,rfl,?_,rfl⟩ ?_ ?_
 ·simp -dsimp only [↓WPd,↓Zm,↓Zn,WPu,Za,Zb,Zc,Zd,Ze,Zf,Zg,Zh,Nat.reduceEqDiff,Nat.reduceLT,Zi,Zj,Zk,Zl,Nat.reduceBEq]; rfl
 ·rintro m vs σ' ⟨k,hk,rfl,rfl,rfl⟩
  simp -dsimp only [↓WPd,↓Zm,↓Zn,WPu,Za,Zb,Zc,Zd,Ze,Zf,Zg,Zh,Nat.reduceEqDiff,Nat.reduceLT,Zi,Zj,Zk,Zl,Nat.reduceBEq,la]
  refine condP_dec (fun h => ?_) (fun h => ?_)
  ·have hk' : k < ts.length := by omega
   obtain ⟨x,a1,a2,a3⟩ := ha.at hk'
   obtain ⟨y,b1,b2,b3⟩ := hb.at hk'
   simp -dsimp only [↓WPd,↓Zm,↓Zn,WPu,Za,Zb,Zc,Zd,Ze,Zf,Zg,Zh,Nat.reduceEqDiff,Nat.reduceLT,Zi,Zj,Zk,Zl,Nat.reduceBEq,a1,a2,b1,b2]
   refine calledW_of (cequal_ok d σ' x y ts[k] ts[k] (hs _ (List.getElem_mem hk')) a3 b3) ?_
   rintro v σ2 ⟨rfl,rfl⟩
   simp -dsimp only [↓WPd,↓Zm,↓Zn,WPu,Za,Zb,Zc,Zd,Ze,Zf,Zg,Zh,Nat.reduceEqDiff,Nat.reduceLT,Zi,Zj,Zk,Zl,Nat.reduceBEq,decide_true]
   exact ⟨ts.length - (k + 1),by omega,k + 1,by omega,rfl,by rw [wrap_i64 (by omega) (by omega),Int.natCast_add,Int.natCast_one],trivial⟩
  ·simp -dsimp only [↓WPd,↓Zm,↓Zn,WPu,Za,Zb,Zc,Zd,Ze,Zf,Zg,Zh,Nat.reduceEqDiff,Nat.reduceLT,Zi,Zj,Zk,Zl,Nat.reduceBEq]
 ·rintro e σ' env ⟨rfl,rfl⟩
  simp -dsimp only [↓WPd,↓Zm,↓Zn,WPu,Za,Zb,Zc,Zd,Ze,Zf,Zg,Zh,Nat.reduceEqDiff,Nat.reduceLT,Zi,Zj,Zk,Zl,Nat.reduceBEq]
end
end Go.Proofs.YtelpjaejmneplaaGreatDoor.Am
