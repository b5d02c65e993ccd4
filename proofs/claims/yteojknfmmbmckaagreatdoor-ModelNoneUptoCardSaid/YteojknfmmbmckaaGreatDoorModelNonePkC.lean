/-
  The abstract machine and the functions of the law, 3: texts put together.
-/
import Derived.Test.YteojknfmmbmckaaGreatDoorModelNonePkB
import Derived.Test.YteojknfmmbmckaaGreatDoorModelNonePkA
set_option linter.unusedVariables false
set_option linter.unusedSimpArgs false
set_option linter.unusedSectionVars false
set_option maxRecDepth 100000
namespace Go.Proofs.YteojknfmmbmckaaGreatDoor.Am
open Go
inductive Two {α β : Type} (R : α → β → Prop) : List α → List β → Prop
 | nil : Two R [] []
 | cons {a : α} {b : β} {us : List α} {ws : List β} (h : R a b) (t : Two R us ws) : Two R (a :: us) (b :: ws)
section
variable {α β : Type} {R R' : α → β → Prop} {us vs : List α} {ws ys : List β}
theorem Two.len (h : Two R us ws) : us.length = ws.length := by
 induction h with
 | nil => rfl
 | cons _ _ ih => simp [ih]
theorem Two.get (h : Two R us ws) : ∀ {i : Nat} (hi : i < ws.length),∃ a,us[i]? = some a ∧ R a ws[i] := by
 induction h with
 | nil => intro i hi; simp at hi
 | cons h t ih =>
  intro i hi
  cases i with
  | zero => exact ⟨_,rfl,h⟩
  | succ i => obtain ⟨a,h1,h2⟩ := ih (i := i) (by simpa using hi); exact ⟨a,by simpa using h1,by simpa using h2⟩
theorem Two.at (h : Two R us ws) {i : Nat} {a : α} {b : β} (ha : us[i]? = some a) (hb : ws[i]? = some b) : R a b := by
 obtain ⟨hi,rfl⟩ := List.getElem?_eq_some_iff.1 hb
 obtain ⟨a',h1,h2⟩ := h.get hi
 rw [ha] at h1; injection h1 with h1; subst h1; exact h2
theorem Two.mono (h : Two R us ws) (hm : ∀ a b,R a b → R' a b) : Two R' us ws := by
 induction h with
 | nil => exact .nil
 | cons h _ ih => exact .cons (hm _ _ h) ih
theorem Two.append (h : Two R us ws) (h' : Two R vs ys) : Two R (us ++ vs) (ws ++ ys) := by
 induction h with
 | nil => exact h'
 | cons h _ ih => exact .cons h ih
theorem Two.one {a : α} {b : β} (h : R a b) : Two R [a] [b] := .cons h .nil
theorem Two.push (h : Two R us ws) {a : α} {b : β} (h' : R a b) : Two R (us ++ [a]) (ws ++ [b]) := h.append (.one h')
theorem Two.take (h : Two R us ws) : ∀ (n : Nat),Two R (us.take n) (ws.take n) := by
 induction h with
 | nil => intro n; simp; exact .nil
 | cons h _ ih =>
  intro n
  cases n with
  | zero => exact .nil
  | succ n => exact .cons h (ih n)
theorem Two.drop (h : Two R us ws) : ∀ (n : Nat),Two R (us.drop n) (ws.drop n) := by
 induction h with
 | nil => intro n; simp; exact .nil
 | cons h t ih =>
  intro n
  cases n with
  | zero => exact .cons h t
  | succ n => exact ih n
end
def nless (a b : Nm) : Bool := decide (a.1 < b.1) || (decide (a.1 = b.1) && decide (a.2 < b.2))
theorem nless_irrefl (a : Nm) : nless a a = false := by simp [nless]
theorem nless_trans {a b c : Nm} (h : nless a b = true) (h' : nless b c = true) : nless a c = true := by
 simp only [nless,Bool.or_eq_true,Bool.and_eq_true,decide_eq_true_eq] at *; omega
theorem nless_not {a b : Nm} (h : nless a b = false) (hn : a ≠ b) : nless b a = true := by
 obtain ⟨a1,a2⟩ := a; obtain ⟨b1,b2⟩ := b
 have : ¬ (a1 = b1 ∧ a2 = b2) := fun e => hn (by rw [e.1,e.2])
 simp only [nless,Bool.or_eq_true,Bool.and_eq_true,decide_eq_true_eq,Bool.or_eq_false_iff,decide_eq_false_iff_not,Bool.and_eq_false_iff] at *; omega
theorem nless_asymm {a b : Nm} (h : nless a b = true) : nless b a = false := by
 cases hb : nless b a with
 | false => rfl
 | true => have := nless_trans h hb; rw [nless_irrefl] at this; cases this
def glob (t : List Cel) : Bool := right t && t.all fun c => !(decide (c.k = 4) && decide (c.v.1 < 0))
def vCel (v : Nm) : Cel := ⟨4,[],0,v⟩
def okVar (v : Nm) : Bool := (vCel v).ok
abbrev Hp := List (Nm × List Cel)
def lk : Hp → Nm → Option (List Cel)
 | [],_ => none
 | p :: r,v => if p.1 = v then some p.2 else lk r v
theorem lk_mem : ∀ {H : Hp} {v : Nm} {t : List Cel},lk H v = some t → (v,t) ∈ H
 | [],_,_,h => by cases h
 | p :: r,v,t,h => by
  simp only [lk] at h
  split at h
  ·rename_i e; injection h with h; rw [← e,← h]; exact List.mem_cons_self
  ·exact List.mem_cons_of_mem _ (lk_mem h)
theorem lk_none : ∀ {H : Hp} {v : Nm},lk H v = none ↔ v ∉ H.map (·.1)
 | [],_ => by simp [lk]
 | p :: r,v => by
  simp only [lk,List.map_cons,List.mem_cons,not_or]
  split
  ·rename_i e; simp [e]
  ·rename_i e; rw [lk_none (H := r)]; exact ⟨fun h => ⟨fun e' => e e'.symm,h⟩,fun h => h.2⟩
theorem lk_of_mem : ∀ {H : Hp},(H.map (·.1)).Nodup → ∀ {v : Nm} {t : List Cel},(v,t) ∈ H → lk H v = some t
 | [],_,_,_,h => by cases h
 | p :: r,hn,v,t,h => by
  simp only [List.map_cons,List.nodup_cons] at hn
  rcases List.mem_cons.1 h with rfl | h
  ·simp [lk]
  ·have : p.1 ≠ v := fun e => hn.1 (by rw [e]; exact List.mem_map.2 ⟨_,h,rfl⟩)
   rw [lk,if_neg this]; exact lk_of_mem hn.2 h
theorem lk_perm {H R : Hp} (hn : (H.map (·.1)).Nodup) (hp : H.Perm R) (v : Nm) : lk H v = lk R v := by
 have hn' : (R.map (·.1)).Nodup := (hp.map _).nodup_iff.1 hn
 cases h : lk H v with
 | some t => exact (lk_of_mem hn' (hp.mem_iff.1 (lk_mem h))).symm
 | none =>
  rw [lk_none] at h
  exact (lk_none.2 fun hm => h ((hp.map _).mem_iff.2 hm)).symm
def bindE (H : Hp) (v : Nm) (t : List Cel) : Int :=
 if (decide (v.1 < 0) || !okVar v) || !glob t then 6
 else if (lk H v).isSome then 70
 else if decide ((t.headD default).k = 4) && !nless (t.headD default).v v then 71
 else 0
def bindH (H : Hp) (v : Nm) (t : List Cel) : Hp := if bindE H v t = 0 then H ++ [(v,t)] else H
def okB (p : Nm × List Cel) : Prop := 0 ≤ p.1.1 ∧ okVar p.1 = true ∧ glob p.2 = true ∧ ((p.2.headD default).k = 4 → nless (p.2.headD default).v p.1 = true)
structure WF (H : Hp) : Prop where
 keys : (H.map (·.1)).Nodup
 ok : ∀ p ∈ H,okB p
theorem WF.nil : WF [] := ⟨List.nodup_nil,fun p h => by cases h⟩
theorem bindE_zero {H : Hp} {v : Nm} {t : List Cel} (h : bindE H v t = 0) : okB (v,t) ∧ lk H v = none := by
 unfold bindE at h
 split at h
 ·cases h
 ·rename_i h1
  split at h
  ·cases h
  ·rename_i h2
   split at h
   ·cases h
   ·rename_i h3
    simp only [Bool.or_eq_true,decide_eq_true_eq,Bool.not_eq_true',not_or,Bool.not_eq_false] at h1
    refine ⟨⟨by simp only; omega,h1.1.2,h1.2,fun hk => ?_⟩,by simpa using h2⟩
    simp only [Bool.and_eq_true,decide_eq_true_eq,Bool.not_eq_true',not_and,Bool.not_eq_false] at h3
    exact h3 hk
theorem bindE_of {H : Hp} {v : Nm} {t : List Cel} (h : okB (v,t)) (hl : lk H v = none) : bindE H v t = 0 := by
 obtain ⟨h1,h2,h3,h4⟩ := h
 simp only at h1 h2 h3 h4
 unfold bindE
 rw [if_neg,if_neg,if_neg]
 ·simp only [Bool.and_eq_true,decide_eq_true_eq,Bool.not_eq_true',not_and,Bool.not_eq_false]; exact h4
 ·simp [hl]
 ·simp only [Bool.or_eq_true,decide_eq_true_eq,Bool.not_eq_true',h2,h3]; simp; omega
theorem WF.bind {H : Hp} (h : WF H) (v : Nm) (t : List Cel) : WF (bindH H v t) := by
 unfold bindH
 split
 ·rename_i e
  obtain ⟨h1,h2⟩ := bindE_zero e
  refine ⟨?_,fun p hp => ?_⟩
  ·rw [List.map_append,List.nodup_append]
   refine ⟨h.keys,by simp,fun a ha b hb e => ?_⟩
   simp at hb
   rw [lk_none] at h2
   exact h2 (by rw [← hb,← e]; exact ha)
  ·rcases List.mem_append.1 hp with hp | hp
   ·exact h.ok p hp
   ·simp at hp; subst hp; exact h1
 ·exact h
def insR (x : Nm × List Cel) : Hp → Hp
 | [] => [x]
 | y :: r => if nless x.1 y.1 then x :: y :: r else y :: insR x r
def bindR (R : Hp) (v : Nm) (t : List Cel) : Hp := if bindE R v t = 0 then insR (v,t) R else R
def Rising (R : Hp) : Prop := R.Pairwise fun a b => nless a.1 b.1 = true
theorem insR_perm (x : Nm × List Cel) : ∀ R : Hp,(insR x R).Perm (x :: R)
 | [] => List.Perm.refl _
 | y :: r => by
  simp only [insR]
  split
  ·exact List.Perm.refl _
  ·exact ((insR_perm x r).cons y).trans (List.Perm.swap x y r)
theorem Rising.ins {x : Nm × List Cel} : ∀ {R : Hp},Rising R → lk R x.1 = none → Rising (insR x R)
 | [],_,_ => by simp [insR,Rising]
 | y :: r,h,hn => by
  have h' := h
  simp only [Rising,List.pairwise_cons] at h
  obtain ⟨h1,h2⟩ := h
  simp only [lk] at hn
  split at hn
  ·cases hn
  ·rename_i hne
   simp only [insR]
   split
   ·rename_i hl
    refine List.pairwise_cons.2 ⟨fun z hz => ?_,h'⟩
    rcases List.mem_cons.1 hz with rfl | hz
    ·exact hl
    ·exact nless_trans hl (h1 z hz)
   ·rename_i hl
    refine List.pairwise_cons.2 ⟨fun z hz => ?_,Rising.ins h2 hn⟩
    rcases List.mem_cons.1 ((insR_perm x r).mem_iff.1 hz) with rfl | hz
    ·exact nless_not (by simpa using hl) (fun e => hne e.symm)
    ·exact h1 z hz
structure Same (H R : Hp) : Prop where
 wf : WF H
 perm : H.Perm R
 rise : Rising R
theorem Same.nil : Same [] [] := ⟨WF.nil,List.Perm.refl _,List.Pairwise.nil⟩
theorem Same.lk {H R : Hp} (h : Same H R) (v : Nm) : lk H v = lk R v := lk_perm h.wf.keys h.perm v
theorem Same.bindE {H R : Hp} (h : Same H R) (v : Nm) (t : List Cel) : bindE H v t = bindE R v t := by simp only [Am.bindE,h.lk]
theorem Same.bind {H R : Hp} (h : Same H R) (v : Nm) (t : List Cel) : Same (bindH H v t) (bindR R v t) := by
 refine ⟨h.wf.bind v t,?_,?_⟩
 ·unfold bindH bindR
  rw [h.bindE]
  split
  ·exact ((List.perm_append_comm).trans (List.Perm.cons _ h.perm)).trans (insR_perm _ _).symm
  ·exact h.perm
 ·unfold bindR
  split
  ·rename_i e
   exact h.rise.ins (bindE_zero e).2
  ·exact h.rise
def hnext (H : Hp) (t : List Cel) : Option (List Cel) := if t.length = 1 ∧ (t.headD default).k = 4 then lk H (t.headD default).v else none
theorem WF.perm {H R : Hp} (h : WF H) (hp : H.Perm R) : WF R := ⟨(hp.map _).nodup_iff.1 h.keys,fun p hm => h.ok p (hp.mem_iff.2 hm)⟩
theorem Same.len {H R : Hp} (h : Same H R) : R.length = H.length := h.perm.length_eq.symm
def insN (x : Nm) : List Nm → List Nm
 | [] => [x]
 | y :: r => if nless x y then x :: y :: r else y :: insN x r
def sortN : List Nm → List Nm
 | [] => []
 | x :: r => insN x (sortN r)
abbrev UpN (l : List Nm) : Prop := l.Pairwise fun a b => nless b a = false
theorem insN_perm (x : Nm) : ∀ l,(insN x l).Perm (x :: l)
 | [] => List.Perm.refl _
 | y :: r => by
  simp only [insN]
  split
  ·exact List.Perm.refl _
  ·exact ((insN_perm x r).cons y).trans (List.Perm.swap x y r)
theorem sortN_perm : ∀ l,(sortN l).Perm l
 | [] => List.Perm.refl _
 | x :: r => (insN_perm x _).trans ((sortN_perm r).cons x)
theorem sortN_len (l : List Nm) : (sortN l).length = l.length := (sortN_perm l).length_eq
theorem nle_trans {a b c : Nm} (h : nless b a = false) (h' : nless c b = false) : nless c a = false := by
 simp only [nless,Bool.or_eq_false_iff,Bool.and_eq_false_iff,decide_eq_false_iff_not] at *; omega
theorem nle_antisymm {a b : Nm} (h : nless b a = false) (h' : nless a b = false) : a = b := by
 obtain ⟨a1,a2⟩ := a
 obtain ⟨b1,b2⟩ := b
 simp only [nless,Bool.or_eq_false_iff,Bool.and_eq_false_iff,decide_eq_false_iff_not] at *
 have : a1 = b1 := by omega
 have : a2 = b2 := by omega
 simp [*]
theorem insN_up (x : Nm) : ∀ {l : List Nm},UpN l → UpN (insN x l)
 | [],_ => by simp [insN]
 | y :: r,h => by
  have h' := h
  simp only [List.pairwise_cons] at h
  obtain ⟨h1,h2⟩ := h
  simp only [insN]
  split
  ·rename_i hl
   refine List.pairwise_cons.2 ⟨fun z hz => ?_,h'⟩
   rcases List.mem_cons.1 hz with rfl | hz
   ·exact nless_asymm hl
   ·exact nle_trans (nless_asymm hl) (h1 z hz)
  ·rename_i hl
   refine List.pairwise_cons.2 ⟨fun z hz => ?_,insN_up x h2⟩
   rcases List.mem_cons.1 ((insN_perm x r).mem_iff.1 hz) with rfl | hz
   ·simpa using hl
   ·exact h1 z hz
theorem sortN_up : ∀ l,UpN (sortN l)
 | [] => List.Pairwise.nil
 | x :: r => insN_up x (sortN_up r)
theorem up_one {a b : List Nm} (ha : UpN a) (hb : UpN b) (hp : a.Perm b) : a = b :=
 hp.eq_of_pairwise (fun x y _ _ h1 h2 => nle_antisymm h1 h2) ha hb
theorem sortN_of {l m : List Nm} (hm : UpN m) (hp : l.Perm m) : sortN l = m := up_one (sortN_up l) hm ((sortN_perm l).trans hp)
theorem Rising.up {R : Hp} (h : Rising R) : UpN (R.map (·.1)) := by
 simp only [Rising] at h
 exact List.pairwise_map.2 (h.imp fun h => nless_asymm h)
def ordF (x y : Nm) : Int := if nless x y = true then -1 else if x = y then 0 else 1
theorem ordF_lt (x y : Nm) : decide (ordF x y < 0) = nless x y := by
 unfold ordF
 split
 ·rename_i h; simp [h]
 ·rename_i h
  split <;> simp [h]
section
variable {P : Program} {cf : FuncId → FuncId} {E : Env} {κ : K}
def K.more (κ : K) (h' : Array Obj) : K := ⟨h',κ.σ,κ.loc,κ.base,κ.pend⟩
theorem K.more_le (hR : κ.R E cf) {h' : Array Obj} (hs : κ.h.size ≤ h'.size) (hh : ∀ b,b < κ.h.size → h'[b]? = κ.h[b]?) : κ.Le (κ.more h') :=
 K.Le.of rfl hs (fun b hb ho => ⟨hh b hb,ho⟩) (Nat.le_refl _) (fun _ _ h => ⟨h,rfl⟩) rfl (fun id x hx hp => K.OLe.same hx rfl (hh _ (hR.hi id (K.live_of hx hp))))
theorem K.more_R (hR : κ.R E cf) {h' : Array Obj} (hs : κ.h.size ≤ h'.size) (hh : ∀ b,b < κ.h.size → h'[b]? = κ.h[b]?) : (κ.more h').R E cf where
 ok := hR.ok
 obj := fun id x hx hp => K.O.le hR.lb (K.more_le hR hs hh) rfl (hh _ (hR.hi id (K.live_of hx hp))) (hR.obj id x hx hp)
 inj := hR.inj
 pl := hR.pl
 lb := fun i hi => ⟨hR.lo i hi,Nat.lt_of_lt_of_le (hR.hi i hi) hs⟩
 base := Nat.le_trans hR.base hs
def K.far (κ : K) (h' : Array Obj) (g : Nat) (x : AObj) : K := ⟨h',κ.σ ++ [x],fun i => if i = κ.σ.length then g else κ.loc i,κ.base,κ.pend⟩
theorem K.far_own (hR : κ.R E cf) (h' : Array Obj) (g : Nat) (x : AObj) (hg : κ.h.size ≤ g) (b : Nat) (hb : b < κ.h.size) (h : ¬ κ.own b) : ¬ (κ.far h' g x).own b := by
 rintro ⟨id,⟨hid,hp⟩,hl⟩
 simp only [K.far,List.length_append,List.length_singleton] at hid hl hp
 split at hl
 ·omega
 ·exact h ⟨id,⟨by omega,hp⟩,hl⟩
theorem K.far_le (hR : κ.R E cf) {h' : Array Obj} (hs : κ.h.size ≤ h'.size) (hh : ∀ b,b < κ.h.size → h'[b]? = κ.h[b]?) (g : Nat) (hg : κ.h.size ≤ g) (x : AObj) : κ.Le (κ.far h' g x) :=
 K.Le.of rfl hs (fun b hb ho => ⟨hh b hb,K.far_own hR h' g x hg b hb ho⟩) (by simp [K.far]) (fun i hi h => ⟨h,by simp only [K.far]; rw [List.getElem?_append_left hi]⟩) rfl
  (fun id y hy hp => by
   have hid := (List.getElem?_eq_some_iff.1 hy).1
   have hb := hR.hi id ⟨hid,hp⟩
   exact K.OLe.same (by simp only [K.far]; rw [List.getElem?_append_left hid]; exact hy) (by simp only [K.far]; rw [if_neg (by omega)]) (hh _ hb))
theorem K.far_R (hR : κ.R E cf) {h' : Array Obj} (hs : κ.h.size ≤ h'.size) (hh : ∀ b,b < κ.h.size → h'[b]? = κ.h[b]?) (g : Nat) (hg : κ.h.size ≤ g) (hg2 : g < h'.size) (x : AObj) (hO : (κ.far h' g x).O E cf κ.σ.length x) : (κ.far h' g x).R E cf where
 ok := hR.ok
 pl := fun i hi => by have := hR.pl i hi; simp only [K.far,List.length_append]; omega
 obj := fun id y hy hp => by
  simp only [K.far] at hy
  by_cases hid : id < κ.σ.length
  ·rw [List.getElem?_append_left hid] at hy
   have hb := hR.hi id ⟨hid,hp⟩
   exact K.O.le hR.lb (K.far_le hR hs hh g hg x) (by simp only [K.far]; rw [if_neg (by omega)]) (hh _ hb) (hR.obj id y hy hp)
  ·have hlt := (List.getElem?_eq_some_iff.1 hy).1
   simp only [List.length_append,List.length_singleton] at hlt
   obtain rfl : id = κ.σ.length := by omega
   rw [List.getElem?_append_right (Nat.le_refl _)] at hy
   simp at hy
   subst hy
   exact hO
 inj := fun i j ⟨hi,pi⟩ ⟨hj,pj⟩ h => by
  simp only [K.far,List.length_append,List.length_singleton] at hi hj h pi pj
  split at h <;> split at h
  ·omega
  ·have := hR.hi j ⟨by omega,pj⟩; omega
  ·have := hR.hi i ⟨by omega,pi⟩; omega
  ·exact hR.inj i j ⟨by omega,pi⟩ ⟨by omega,pj⟩ h
 lb := fun i ⟨hi,pi⟩ => by
  simp only [K.far,List.length_append,List.length_singleton] at hi pi ⊢
  split
  ·exact ⟨Nat.le_trans hR.base hg,hg2⟩
  ·have := hR.hi i ⟨by omega,pi⟩
   exact ⟨hR.lo i ⟨by omega,pi⟩,by omega⟩
 base := Nat.le_trans hR.base hs
theorem farArr_ok (hR : κ.R E cf) {h' : Array Obj} (hs : κ.h.size ≤ h'.size) (hh : ∀ b,b < κ.h.size → h'[b]? = κ.h[b]?) {g : Nat} (hg : κ.h.size ≤ g) {sz : Nat} {es : List AVal} {vs : List Value} {cells : Array Value} {rest : List Value} {e : TypeId} {cap : Nat}
  (hb : h'[g]? = some (.cells cells e (0,0))) (hv : cells.toList = vs ++ rest) (h0 : 0 < sz) (hel : AVal.elemsOk sz es) (hl : κ.VL E cf (es.flatMap AVal.cells) vs) (hcap : es.length ≤ cap) (hsize : cells.size = cap * sz) :
  (κ.far h' g (.arr sz es 0 0)).R E cf ∧ (κ.far h' g (.arr sz es 0 0)).V E cf (.slice sz κ.σ.length 0 0 es.length none) (.slice (some ⟨g,0,none⟩) es.length cap) := by
 have hat : (κ.far h' g (.arr sz es 0 0)).h[(κ.far h' g (.arr sz es 0 0)).loc κ.σ.length]? = some (.cells cells e (0,0)) := by simpa [K.far] using hb
 have hg2 : g < h'.size := (Array.getElem?_eq_some_iff.1 hb).1
 refine ⟨K.far_R hR hs hh g hg hg2 _ ⟨Nat.le_refl _,h0,hel,_,e,vs,rest,hat,hv,K.VL.le hR.lb (K.far_le hR hs hh g hg _) hl⟩,?_⟩
 refine .slice _ sz κ.σ.length 0 0 es.length none g 0 cap ⟨⟨hcap,hR.fresh⟩,by simp,h0,es,0,0,by simp [K.far,List.getElem?_append_right],Nat.le_refl _,fun _ => ⟨by simp,.inl ⟨by simp [K.far],.inl (by simp)⟩,fun _ _ => ⟨by omega,fun vs' e' f hv => ?_⟩⟩⟩
 rw [hat] at hv
 cases hv
 rw [hsize]; simp
def keysOf (σ : Store) : AVal → Option (List AVal)
 | .map id => match σ[id]? with
  | some (.map ks _) => some ks
  | _ => none
 | .fmap _ ks _ => some ks
 | _ => none
theorem keysOf_ok (hR : κ.R E cf) {x : AVal} {cx : Value} {ks : List AVal} (hx : κ.V E cf x cx) (h : keysOf κ.σ x = some ks) :
  ∃ b es clock,cx = .map (some b) ∧ κ.h[b]? = some (.map es clock) ∧ κ.VL E cf ks (es.toList.map (·.key)) ∧ Born es clock := by
 unfold keysOf at h
 split at h
 ·rename_i id
  split at h
  ·rename_i ks' vs' hid
   simp at h
   subst h
   cases hx with
   | map _ _ b hp =>
   obtain ⟨⟨_,hpd⟩,rfl⟩ := hp
   obtain ⟨es,clock,hb,h1,h2,h3⟩ := hR.obj id _ hid hpd
   exact ⟨_,es,clock,rfl,hb,h1,h3⟩
  ·simp at h
 ·simp at h
  subst h
  cases hx with
  | fmap _ t _ _ b clock es h1 h2 h3 h4 h5 h6 h7 =>
  exact ⟨b,es,clock,rfl,h2,VRelL.mono (fun _ _ h => ⟨h,rfl⟩) (noIds_le _) h3,h7⟩
 ·simp at h
def kvOf (σ : Store) : AVal → Option (List AVal × List AVal)
 | .map id => match σ[id]? with
  | some (.map ks vs) => some (ks,vs)
  | _ => none
 | .fmap _ ks vs => some (ks,vs)
 | _ => none
theorem kvOf_ok (hR : κ.R E cf) {x : AVal} {cx : Value} {ks vs : List AVal} (hx : κ.V E cf x cx) (h : kvOf κ.σ x = some (ks,vs)) :
  ∃ b es clock,cx = .map (some b) ∧ κ.h[b]? = some (.map es clock) ∧ κ.VL E cf ks (es.toList.map (·.key)) ∧ κ.VL E cf vs (es.toList.map (·.val)) ∧ Born es clock := by
 unfold kvOf at h
 split at h
 ·rename_i id
  split at h
  ·rename_i ks' vs' hid
   simp at h
   obtain ⟨rfl,rfl⟩ := h
   cases hx with
   | map _ _ b hp =>
   obtain ⟨⟨_,hpd⟩,rfl⟩ := hp
   obtain ⟨es,clock,hb,h1,h2,h3⟩ := hR.obj id _ hid hpd
   exact ⟨_,es,clock,rfl,hb,h1,h2,h3⟩
  ·simp at h
 ·simp at h
  obtain ⟨rfl,rfl⟩ := h
  cases hx with
  | fmap _ t _ _ b clock es h1 h2 h3 h4 h5 h6 h7 =>
  exact ⟨b,es,clock,rfl,h2,VRelL.mono (fun _ _ h => ⟨h,rfl⟩) (noIds_le _) h3,VRelL.mono (fun _ _ h => ⟨h,rfl⟩) (noIds_le _) h4,h7⟩
 ·simp at h
def natMC : List AVal → Store → Option (AVal × Store)
 | [m],σ => match kvOf σ m with
  | some (ks,vs) => some (.map σ.length,σ ++ [.map ks vs])
  | none => none
 | _,_ => none
theorem natMC_cases {args : List AVal} {σ σ' : Store} {v : AVal} (h : natMC args σ = some (v,σ')) : ∃ m ks vs,args = [m] ∧ kvOf σ m = some (ks,vs) ∧ v = .map σ.length ∧ σ' = σ ++ [.map ks vs] := by
 unfold natMC at h
 split at h
 ·split at h
  ·rename_i ks vs hk
   injection h with h
   injection h with h1 h2
   exact ⟨_,ks,vs,rfl,hk,h1.symm,h2.symm⟩
  ·cases h
 ·cases h
def nmOf : AVal → Option Nm
 | .agg [.int .i64 a,.int .i64 b] => some (a,b)
 | _ => none
def nmsOf : List AVal → Option (List Nm)
 | [] => some []
 | x :: r => match nmOf x,nmsOf r with
  | some n,some l => some (n :: l)
  | _,_ => none
theorem nmOf_eq {x : AVal} {n : Nm} (h : nmOf x = some n) : x = nmV n := by
 unfold nmOf at h
 split at h
 ·injection h with h; subst h; rfl
 ·cases h
theorem nmsOf_eq : ∀ {l : List AVal} {ns : List Nm},nmsOf l = some ns → l = ns.map nmV
 | [],ns,h => by simp [nmsOf] at h; subst h; rfl
 | x :: r,ns,h => by
  unfold nmsOf at h
  split at h
  ·rename_i n l h1 h2
   injection h with h
   subst h
   rw [nmOf_eq h1,nmsOf_eq h2]; rfl
  ·cases h
theorem nm_V {h : Array Obj} {S : Nat → Nat → Prop} {I : Ids} {n : Nm} {cv : Value} (hv : VRel cf h S I (nmV n) cv) : cv = .agg #[.int .i64 n.1,.int .i64 n.2] := by
 simp only [nmV] at hv
 cases hv with
 | agg _ _ vs hl h1 =>
 cases hl with
 | cons _ _ _ _ _ ha hl =>
 cases ha
 cases hl with
 | cons _ _ _ _ _ hb hl =>
 cases hb
 cases hl
 rfl
theorem nms_V {h : Array Obj} {S : Nat → Nat → Prop} {I : Ids} : ∀ {ns : List Nm} {cvs : List Value},VRelL cf h S I (ns.map nmV) cvs → cvs = ns.map fun n => .agg #[.int .i64 n.1,.int .i64 n.2]
 | [],_,h => by cases h; rfl
 | n :: r,_,h => by
  simp only [List.map_cons] at h
  cases h with
  | cons _ _ _ _ _ ha hl => rw [nm_V ha,nms_V hl]; rfl
theorem nms_VL {h : Array Obj} {S : Nat → Nat → Prop} {I : Ids} : ∀ (ns : List Nm),VRelL cf h S I ((ns.map nmV).flatMap AVal.cells) (ns.flatMap fun n => [.int .i64 n.1,.int .i64 n.2])
 | [] => .nil _
 | n :: r => .cons _ _ _ _ _ (.int _ _ _) (.cons _ _ _ _ _ (.int _ _ _) (nms_VL r))
theorem nms_elems (ns : List Nm) : AVal.elemsOk 2 (ns.map nmV) := fun e he => by
 obtain ⟨n,_,rfl⟩ := List.mem_map.1 he
 exact ⟨rfl,fun c hc => by simp [nmV] at hc; rcases hc with rfl | rfl <;> rfl⟩
def natSF (kf of_ : FuncId) : List AVal → Store → Option (AVal × Store)
 | [.func f [] [.ptr id 0],.func g [] []],σ => if f = kf ∧ g = of_ then match σ[id]? with
   | some (.cells [m]) => match keysOf σ m with
    | some ks => match nmsOf ks with
     | some ns => if ns.length ≤ 8796093022208 then some (match ns with | [] => (.nilslice,σ) | _ => (.slice 2 σ.length 0 0 ns.length none,σ ++ [.arr 2 ((sortN ns).map nmV) 0 0])) else none
     | none => none
    | none => none
   | _ => none
  else none
 | _,_ => none
theorem natSF_cases {kf of_ : FuncId} {args : List AVal} {σ σ' : Store} {v : AVal} (h : natSF kf of_ args σ = some (v,σ')) : ∃ id m ks ns,args = [.func kf [] [.ptr id 0],.func of_ [] []] ∧ σ[id]? = some (.cells [m]) ∧ keysOf σ m = some ks ∧ nmsOf ks = some ns ∧ ns.length ≤ 8796093022208 ∧
  ((ns = [] ∧ v = .nilslice ∧ σ' = σ) ∨ (ns ≠ [] ∧ v = .slice 2 σ.length 0 0 ns.length none ∧ σ' = σ ++ [.arr 2 ((sortN ns).map nmV) 0 0])) := by
 unfold natSF at h
 split at h
 ·split at h
  ·rename_i hfg
   obtain ⟨rfl,rfl⟩ := hfg
   split at h
   ·rename_i m hm
    split at h
    ·rename_i ks hks
     split at h
     ·rename_i ns hns
      split at h
      ·rename_i hlen
       injection h with h
       refine ⟨_,m,ks,ns,rfl,hm,hks,hns,hlen,?_⟩
       split at h
       ·injection h with h1 h2
        exact .inl ⟨rfl,h1.symm,h2.symm⟩
       ·rename_i hne
        injection h with h1 h2
        exact .inr ⟨fun e => hne e,h1.symm,h2.symm⟩
      ·cases h
     ·cases h
    ·cases h
   ·cases h
  ·cases h
 ·cases h
end
end Go.Proofs.YteojknfmmbmckaaGreatDoor.Am
namespace Go.Proofs.YteojknfmmbmckaaGreatDoor.Am.CU
open Go Go.Proofs.YteojknfmmbmckaaGreatDoor.Am
abbrev o (d : Nat) (x : AOp) : AOper := ⟨some d,x,none⟩
def a3 : AFunc := ⟨46,(.seq (.region [o 2 (.box (.tmp 0)),o 3 (.box (.tmp 1)),o 4 (.move (.const (.bool false)))]) (.seq (.region [o 5 (.move (.const .nilptr))]) (.seq (.region [o 6 (.call .iso 4 []),o 7 (.move (.tmp 6)),⟨some 8,.move (.tmp 5),some (7,true)⟩,⟨some 9,.load 3 true (.tmp 2),some (7,true)⟩,⟨some 10,.call .shared 5 [.tmp 8,.tmp 9],some (7,true)⟩,⟨some 11,.iop .eql (.tmp 10) (.const (.int .i64 1)),some (7,true)⟩,o 12 (.pick (.tmp 7) (.tmp 11) (.const (.bool false))),o 13 (.move (.tmp 12)),⟨some 14,.move (.tmp 5),some (13,true)⟩,⟨some 15,.load 9 true (.tmp 3),some (13,true)⟩,⟨some 16,.call .shared 6 [.tmp 14,.tmp 15],some (13,true)⟩,⟨some 17,.iop .eql (.tmp 16) (.const (.int .i64 1)),some (13,true)⟩,o 18 (.pick (.tmp 13) (.tmp 17) (.const (.bool false))),o 19 (.move (.tmp 18)),⟨some 20,.move (.tmp 5),some (19,true)⟩,⟨some 21,.call .shared 7 [.tmp 20],some (19,true)⟩,⟨some 22,.lenS (.tmp 21),some (19,true)⟩,⟨some 23,.iop .eql (.tmp 22) (.const (.int .i64 0)),some (19,true)⟩,o 24 (.pick (.tmp 19) (.tmp 23) (.const (.bool false))),o 25 (.move (.tmp 24)),⟨some 26,.move (.tmp 5),some (25,true)⟩,⟨some 27,.call .shared 8 [.tmp 26],some (25,true)⟩,⟨some 28,.eqnil false .p (.tmp 27),some (25,true)⟩,o 29 (.pick (.tmp 25) (.tmp 28) (.const (.bool false))),o 30 (.move (.tmp 29)),⟨some 31,.move (.tmp 5),some (30,true)⟩,⟨some 32,.call .shared 9 [.tmp 31],some (30,true)⟩,⟨some 33,.lenS (.tmp 32),some (30,true)⟩,⟨some 34,.iop .eql (.tmp 33) (.const (.int .i64 0)),some (30,true)⟩,o 35 (.pick (.tmp 30) (.tmp 34) (.const (.bool false))),o 36 (.move (.tmp 35)),⟨some 37,.move (.tmp 5),some (36,true)⟩,⟨some 38,.call .shared 10 [.tmp 37],some (36,true)⟩,⟨some 39,.not (.tmp 38),some (36,true)⟩,o 40 (.pick (.tmp 36) (.tmp 39) (.const (.bool false))),o 41 (.move (.tmp 40)),⟨some 42,.move (.tmp 5),some (41,true)⟩,⟨some 43,.call .shared 11 [.tmp 42],some (41,true)⟩,⟨some 44,.eqnil false .p (.tmp 43),some (41,true)⟩,o 45 (.pick (.tmp 41) (.tmp 44) (.const (.bool false))),o 4 (.move (.tmp 45))]) .ret))),[.tmp 4]⟩
def a4 : AFunc := ⟨54,(.seq (.region [o 0 (.move (.const (.bool false)))]) (.seq (.region [o 6 (.call .shared 12 [.const .nilslice,(.const (.int .i64 1))]),o 5 (.move (.tmp 6)),o 7 (.extract (.tmp 5) 0),o 8 (.extract (.tmp 5) 1),o 1 (.move (.tmp 7)),o 2 (.move (.tmp 8))]) (.seq (.seq (.region [o 9 (.move (.tmp 2)),o 10 (.iop .neq (.tmp 9) (.const (.int .i64 0))),o 11 (.move (.tmp 10)),⟨some 12,.move (.tmp 1),some (11,false)⟩,⟨some 13,.eqnil false .p (.tmp 12),some (11,false)⟩,o 14 (.pick (.tmp 11) (.const (.bool true)) (.tmp 13))]) (.cond (.tmp 14) (.seq (.region [o 0 (.move (.const (.bool false)))]) .ret) .skip)) (.seq (.region [o 15 (.build [.int .u8 0,(.str []),.int .i64 0,.int .i64 0,.int .i64 0] [(0,1,(.const (.int .u8 2))),(1,1,(.const (.str [116,114,117,101])))]),o 16 (.lit 5 [.int .u8 0,(.str []),.int .i64 0,.int .i64 0,.int .i64 0] true 1 [(0,(.tmp 15))]),o 17 (.build [.int .i64 0,.int .i64 0,.nilslice] [(2,1,(.tmp 16))]),o 3 (.alloc [.int .i64 0,.int .i64 0,.nilslice]),⟨none,.store 3 (.tmp 3) (.tmp 17),none⟩]) (.seq (.region [o 18 (.move (.tmp 1)),o 19 (.load 3 true (.tmp 3)),o 20 (.call .shared 5 [.tmp 18,.tmp 19]),o 4 (.move (.tmp 20))]) (.seq (.region [o 21 (.move (.tmp 4)),o 22 (.iop .eql (.tmp 21) (.const (.int .i64 0))),o 23 (.move (.tmp 22)),⟨some 24,.move (.tmp 1),some (23,true)⟩,⟨some 25,.call .shared 9 [.tmp 24],some (23,true)⟩,⟨some 26,.lenS (.tmp 25),some (23,true)⟩,⟨some 27,.iop .eql (.tmp 26) (.const (.int .i64 1)),some (23,true)⟩,o 28 (.pick (.tmp 23) (.tmp 27) (.const (.bool false))),o 29 (.move (.tmp 28)),⟨some 30,.move (.tmp 1),some (29,true)⟩,⟨some 31,.load 3 true (.tmp 3),some (29,true)⟩,⟨some 32,.build [.int .i64 0,.int .i64 0,.int .i64 0,.nilslice,.bool false,.int .i64 0,.nilslice,.nilslice,.nilslice] [(1,3,(.tmp 31)),(5,1,(.const (.int .i64 (-1))))],some (29,true)⟩,⟨some 33,.call .shared 6 [.tmp 30,.tmp 32],some (29,true)⟩,⟨some 34,.iop .eql (.tmp 33) (.const (.int .i64 0)),some (29,true)⟩,o 35 (.pick (.tmp 29) (.tmp 34) (.const (.bool false))),o 36 (.move (.tmp 35)),⟨some 37,.move (.tmp 1),some (36,true)⟩,⟨some 38,.call .shared 7 [.tmp 37],some (36,true)⟩,⟨some 39,.lenS (.tmp 38),some (36,true)⟩,⟨some 40,.iop .eql (.tmp 39) (.const (.int .i64 0)),some (36,true)⟩,o 41 (.pick (.tmp 36) (.tmp 40) (.const (.bool false))),o 42 (.move (.tmp 41)),⟨some 43,.move (.tmp 1),some (42,true)⟩,⟨some 44,.load 3 true (.tmp 3),some (42,true)⟩,⟨some 45,.build [.int .i64 0,.int .i64 0,.int .i64 0,.nilslice,.bool false,.int .i64 0,.nilslice,.nilslice,.nilslice] [(1,3,(.tmp 44)),(5,1,(.const (.int .i64 (-1))))],some (42,true)⟩,⟨some 46,.call .shared 6 [.tmp 43,.tmp 45],some (42,true)⟩,⟨some 47,.iop .eql (.tmp 46) (.const (.int .i64 90)),some (42,true)⟩,o 48 (.pick (.tmp 42) (.tmp 47) (.const (.bool false))),o 49 (.move (.tmp 48)),⟨some 50,.move (.tmp 1),some (49,true)⟩,⟨some 51,.call .shared 10 [.tmp 50],some (49,true)⟩,⟨some 52,.not (.tmp 51),some (49,true)⟩,o 53 (.pick (.tmp 49) (.tmp 52) (.const (.bool false))),o 0 (.move (.tmp 53))]) .ret)))))),[.tmp 0]⟩
def a5 : AFunc := ⟨54,(.seq (.region [o 2 (.box (.tmp 0)),o 3 (.box (.tmp 1)),o 4 (.move (.const (.int .i64 0)))]) (.seq (.seq (.region [o 6 (.load 1 false (.tmp 2)),o 7 (.eqnil false .p (.tmp 6))]) (.cond (.tmp 7) (.seq (.region [o 4 (.move (.const (.int .i64 1)))]) .ret) .skip)) (.seq (.region [o 8 (.faddr 2 (.tmp 3)),o 9 (.load 1 false (.tmp 8)),o 10 (.lit 1 [.nilslice] false 1 [(0,(.tmp 9))]),o 11 (.call .shared 13 [.tmp 10]),o 5 (.move (.tmp 11))]) (.seq (.seq (.region [o 12 (.faddr 2 (.tmp 3)),o 13 (.load 1 false (.tmp 12)),o 14 (.call .shared 14 [.tmp 13]),o 15 (.not (.tmp 14)),o 16 (.move (.tmp 15)),⟨some 17,.faddr 2 (.tmp 3),some (16,false)⟩,⟨some 18,.load 1 false (.tmp 17),some (16,false)⟩,⟨some 19,.call .shared 15 [.tmp 18],some (16,false)⟩,⟨some 20,.not (.tmp 19),some (16,false)⟩,o 21 (.pick (.tmp 16) (.const (.bool true)) (.tmp 20)),o 22 (.move (.tmp 21)),⟨some 23,.load 1 false (.tmp 2),some (22,false)⟩,⟨some 24,.nilCheck (.tmp 23),some (22,false)⟩,⟨some 25,.faddr 3 (.tmp 24),some (22,false)⟩,⟨some 26,.load 1 false (.tmp 25),some (22,false)⟩,⟨some 27,.faddr 0 (.tmp 3),some (22,false)⟩,⟨some 28,.load 2 true (.tmp 27),some (22,false)⟩,⟨some 29,.lookup true [.i,.i] (.bool false) (.tmp 26) (.tmp 28) false,some (22,false)⟩,o 30 (.pick (.tmp 22) (.const (.bool true)) (.tmp 29)),o 31 (.move (.tmp 30)),⟨some 32,.load 1 false (.tmp 2),some (31,false)⟩,⟨some 33,.faddr 0 (.tmp 3),some (31,false)⟩,⟨some 34,.faddr 0 (.tmp 33),some (31,false)⟩,⟨some 35,.load 1 false (.tmp 34),some (31,false)⟩,⟨some 36,.call .shared 16 [.tmp 32,.tmp 35],some (31,false)⟩,⟨some 37,.not (.tmp 36),some (31,false)⟩,o 38 (.pick (.tmp 31) (.const (.bool true)) (.tmp 37)),o 39 (.move (.tmp 38)),⟨some 40,.move (.tmp 5),some (39,false)⟩,⟨some 41,.mkfunc 18 [] [.tmp 2],some (39,false)⟩,⟨some 42,.call .shared 17 [.tmp 40,.tmp 41],some (39,false)⟩,o 43 (.pick (.tmp 39) (.const (.bool true)) (.tmp 42))]) (.cond (.tmp 43) (.seq (.region [o 4 (.move (.const (.int .i64 6)))]) .ret) .skip)) (.seq (.region [o 44 (.load 1 false (.tmp 2)),o 45 (.load 1 false (.tmp 2)),o 46 (.nilCheck (.tmp 45)),o 47 (.faddr 4 (.tmp 46)),o 48 (.load 1 false (.tmp 47)),o 49 (.move (.tmp 5)),o 50 (.call .shared 19 [.tmp 44,.tmp 48,.tmp 49])]) (.seq (.region [o 51 (.load 1 false (.tmp 2)),o 52 (.load 3 true (.tmp 3)),o 53 (.call .shared 20 [.tmp 51,.tmp 52])]) (.seq (.region [o 4 (.move (.const (.int .i64 0)))]) .ret))))))),[.tmp 4]⟩
def a6 : AFunc := ⟨110,(.seq (.region [o 2 (.box (.tmp 0)),o 3 (.box (.tmp 1)),o 4 (.move (.const (.int .i64 0)))]) (.seq (.seq (.region [o 16 (.load 1 false (.tmp 2)),o 17 (.eqnil false .p (.tmp 16))]) (.cond (.tmp 17) (.seq (.region [o 4 (.move (.const (.int .i64 1)))]) .ret) .skip)) (.seq (.drawn [o 19 (.load 1 false (.tmp 2)),o 20 (.nilCheck (.tmp 19)),o 21 (.faddr 2 (.tmp 20)),o 22 (.load 1 false (.tmp 21)),o 23 (.faddr 1 (.tmp 3)),o 24 (.faddr 0 (.tmp 23)),o 25 (.load 2 true (.tmp 24)),o 26 (.lookup true [.i,.i] .nilslice (.tmp 22) (.tmp 25) true),o 18 (.move (.tmp 26)),o 27 (.extract (.tmp 18) 0),o 28 (.extract (.tmp 18) 1),o 5 (.alloc [.nilslice]),⟨none,.store 1 (.tmp 5) (.tmp 27),none⟩,o 6 (.move (.tmp 28))] [(0,11),(3,11),(6,11),(7,11)]) (.seq (.seq (.region [o 29 (.move (.tmp 6)),o 30 (.not (.tmp 29))]) (.cond (.tmp 30) (.seq (.region [o 4 (.move (.const (.int .i64 90)))]) .ret) .skip)) (.seq (.region [o 31 (.faddr 8 (.tmp 3)),o 32 (.load 1 false (.tmp 31)),o 33 (.call .shared 21 [.tmp 32]),o 7 (.alloc [.nilslice]),⟨none,.store 1 (.tmp 7) (.tmp 33),none⟩]) (.seq (.ahead [o 34 (.load 1 false (.tmp 2)),o 35 (.load 1 false (.tmp 2)),o 36 (.nilCheck (.tmp 35)),o 37 (.faddr 5 (.tmp 36)),o 38 (.load 1 false (.tmp 37)),o 39 (.load 1 false (.tmp 5)),o 40 (.call .shared 23 [.tmp 38,.tmp 39]),o 41 (.call .shared 22 [.tmp 34,.tmp 40]),o 8 (.alloc [.nilfunc]),⟨none,.store 1 (.tmp 8) (.tmp 41),none⟩] [(0,6)]) (.seq (.region [o 42 (.mkfunc 24 [] [.tmp 5,.tmp 3,.tmp 2]),o 43 (.mkfunc 26 [] [.tmp 2,.tmp 3,.tmp 7]),o 44 (.mkfunc 28 [] [.tmp 8,.tmp 2,.tmp 5,.tmp 3]),o 45 (.lit 1 [.nilfunc] false 3 [(0,(.tmp 42)),(1,(.tmp 43)),(2,(.tmp 44))]),o 9 (.move (.tmp 45))]) (.seq (.seq (.region [o 46 (.move (.tmp 9)),o 47 (.lenS (.tmp 46)),o 48 (.move (.const (.int .i64 0)))]) (.block 0 (.loop [2,3,46,47,48] (.seq (.region [o 49 (.iop .lss (.tmp 48) (.tmp 47))]) (.seq (.cond (.tmp 49) .skip (.exit 0)) (.seq (.block 1 (.seq (.region [o 50 (.iaddr 1 (.tmp 46) (.tmp 48)),o 51 (.load 1 false (.tmp 50)),o 11 (.move (.tmp 51))]) (.seq (.region [o 52 (.move (.tmp 11)),o 53 (.callv .shared (.tmp 52) []),o 54 (.not (.tmp 53))]) (.cond (.tmp 54) (.seq (.region [o 4 (.move (.const (.int .i64 220)))]) .ret) .skip)))) (.region [o 55 (.iop .add (.tmp 48) (.const (.int .i64 1))),o 48 (.move (.tmp 55))]))))))) (.seq (.region [o 56 (.load 1 false (.tmp 2)),o 57 (.nilCheck (.tmp 56)),o 58 (.faddr 2 (.tmp 57)),o 59 (.load 1 false (.tmp 58)),o 60 (.faddr 1 (.tmp 3)),o 61 (.faddr 0 (.tmp 60)),o 62 (.load 2 true (.tmp 61)),⟨none,.mapdel true [.i,.i] (.tmp 59) (.tmp 62),none⟩]) (.seq (.seq (.region [o 63 (.faddr 7 (.tmp 3)),o 64 (.load 1 false (.tmp 63)),o 65 (.lenS (.tmp 64)),o 66 (.move (.const (.int .i64 0)))]) (.block 2 (.loop [2,3,64,65,66] (.seq (.region [o 67 (.iop .lss (.tmp 66) (.tmp 65))]) (.seq (.cond (.tmp 67) .skip (.exit 2)) (.seq (.block 3 (.seq (.region [o 68 (.iaddr 3 (.tmp 64) (.tmp 66)),o 69 (.load 3 true (.tmp 68)),o 13 (.alloc [.int .i64 0,.int .i64 0,.nilslice]),⟨none,.store 3 (.tmp 13) (.tmp 69),none⟩]) (.region [o 70 (.load 1 false (.tmp 2)),o 71 (.nilCheck (.tmp 70)),o 72 (.faddr 5 (.tmp 71)),o 73 (.load 1 false (.tmp 72)),o 74 (.faddr 0 (.tmp 13)),o 75 (.load 2 true (.tmp 74)),o 76 (.faddr 2 (.tmp 13)),o 77 (.load 1 false (.tmp 76)),o 78 (.call .shared 29 [.tmp 73,.tmp 75,.tmp 77])]))) (.region [o 79 (.iop .add (.tmp 66) (.const (.int .i64 1))),o 66 (.move (.tmp 79))]))))))) (.seq (.region [o 80 (.load 1 false (.tmp 2)),o 81 (.load 1 false (.tmp 2)),o 82 (.nilCheck (.tmp 81)),o 83 (.faddr 4 (.tmp 82)),o 84 (.load 1 false (.tmp 83)),o 85 (.faddr 6 (.tmp 3)),o 86 (.load 1 false (.tmp 85)),o 87 (.call .shared 19 [.tmp 80,.tmp 84,.tmp 86])]) (.seq (.seq (.region [o 88 (.faddr 8 (.tmp 3)),o 89 (.load 1 false (.tmp 88)),o 90 (.lenS (.tmp 89)),o 91 (.move (.const (.int .i64 0)))]) (.block 4 (.loop [2,3,89,90,91] (.seq (.region [o 92 (.iop .lss (.tmp 91) (.tmp 90))]) (.seq (.cond (.tmp 92) .skip (.exit 4)) (.seq (.block 5 (.seq (.region [o 93 (.iaddr 3 (.tmp 89) (.tmp 91)),o 94 (.load 3 true (.tmp 93)),o 15 (.alloc [.int .i64 0,.int .i64 0,.nilslice]),⟨none,.store 3 (.tmp 15) (.tmp 94),none⟩]) (.region [o 95 (.load 1 false (.tmp 2)),o 96 (.load 3 true (.tmp 15)),o 97 (.call .shared 20 [.tmp 95,.tmp 96])]))) (.region [o 98 (.iop .add (.tmp 91) (.const (.int .i64 1))),o 91 (.move (.tmp 98))]))))))) (.seq (.region [o 99 (.load 1 false (.tmp 2)),o 100 (.load 1 false (.tmp 2)),o 101 (.nilCheck (.tmp 100)),o 102 (.faddr 6 (.tmp 101)),o 103 (.load 1 false (.tmp 102)),o 104 (.move (.tmp 103)),⟨some 105,.faddr 4 (.tmp 3),some (104,false)⟩,⟨some 106,.load 1 false (.tmp 105),some (104,false)⟩,o 107 (.pick (.tmp 104) (.const (.bool true)) (.tmp 106)),o 108 (.nilCheck (.tmp 99)),o 109 (.faddr 6 (.tmp 108)),⟨none,.store 1 (.tmp 109) (.tmp 107),none⟩]) (.seq (.region [o 4 (.move (.const (.int .i64 0)))]) .ret)))))))))))))),[.tmp 4]⟩
def a7 : AFunc := ⟨33,(.seq (.region [o 2 (.move (.const .nilslice))]) (.seq (.seq (.region [o 6 (.move (.tmp 0)),o 7 (.eqnil false .p (.tmp 6))]) (.cond (.tmp 7) (.seq (.region [o 2 (.move (.const .nilslice))]) .ret) .skip)) (.seq (.region [o 3 (.move (.const .nilslice))]) (.seq (.seq (.region [o 8 (.move (.tmp 0)),o 9 (.nilCheck (.tmp 8)),o 10 (.faddr 2 (.tmp 9)),o 11 (.load 1 false (.tmp 10)),o 12 (.call .shared 31 [.tmp 11]),o 13 (.call .shared 30 [.tmp 12,(.const (.func 32 [] []))]),o 14 (.lenS (.tmp 13)),o 15 (.move (.const (.int .i64 0)))]) (.block 0 (.loop [0,3,13,14,15] (.seq (.region [o 16 (.iop .lss (.tmp 15) (.tmp 14))]) (.seq (.cond (.tmp 16) .skip (.exit 0)) (.seq (.block 1 (.seq (.region [o 17 (.iaddr 2 (.tmp 13) (.tmp 15)),o 18 (.load 2 true (.tmp 17)),o 5 (.alloc [.int .i64 0,.int .i64 0]),⟨none,.store 2 (.tmp 5) (.tmp 18),none⟩]) (.drawn [o 19 (.move (.tmp 3)),o 20 (.load 2 true (.tmp 5)),o 21 (.move (.tmp 0)),o 22 (.nilCheck (.tmp 21)),o 23 (.faddr 2 (.tmp 22)),o 24 (.load 1 false (.tmp 23)),o 25 (.load 2 true (.tmp 5)),o 26 (.lookup true [.i,.i] .nilslice (.tmp 24) (.tmp 25) false),o 27 (.call .shared 33 [.tmp 26]),o 28 (.build [.int .i64 0,.int .i64 0,.nilslice] [(0,2,(.tmp 20)),(2,1,(.tmp 27))]),o 29 (.lit 3 [.int .i64 0,.int .i64 0,.nilslice] true 1 [(0,(.tmp 28))]),o 30 (.append 3 40 (.tmp 19) (.tmp 29)),o 3 (.move (.tmp 30))] [(1,8)]))) (.region [o 31 (.iop .add (.tmp 15) (.const (.int .i64 1))),o 15 (.move (.tmp 31))]))))))) (.seq (.region [o 32 (.move (.tmp 3)),o 2 (.move (.tmp 32))]) .ret))))),[.tmp 2]⟩
def a8 : AFunc := ⟨10,(.seq (.region [o 2 (.move (.const .nilptr))]) (.seq (.seq (.region [o 3 (.move (.tmp 0)),o 4 (.eqnil false .p (.tmp 3))]) (.cond (.tmp 4) (.seq (.region [o 2 (.move (.const .nilptr))]) .ret) .skip)) (.seq (.region [o 5 (.move (.tmp 0)),o 6 (.nilCheck (.tmp 5)),o 7 (.faddr 5 (.tmp 6)),o 8 (.load 1 false (.tmp 7)),o 9 (.call .shared 34 [.tmp 8]),o 2 (.move (.tmp 9))]) .ret))),[.tmp 2]⟩
def a9 : AFunc := ⟨7,(.seq (.region [o 1 (.box (.tmp 0)),o 2 (.move (.const .nilslice))]) (.seq (.region [o 3 (.load 1 false (.tmp 1)),o 4 (.call .shared 7 [.tmp 3]),o 5 (.mkfunc 36 [] [.tmp 1]),o 6 (.call .shared 35 [.tmp 4,.tmp 5]),o 2 (.move (.tmp 6))]) .ret)),[.tmp 2]⟩
def a10 : AFunc := ⟨11,(.seq (.region [o 2 (.move (.const (.bool false)))]) (.seq (.region [o 3 (.move (.tmp 0)),o 4 (.eqnil true .p (.tmp 3)),o 5 (.move (.tmp 4)),⟨some 6,.move (.tmp 0),some (5,true)⟩,⟨some 7,.nilCheck (.tmp 6),some (5,true)⟩,⟨some 8,.faddr 6 (.tmp 7),some (5,true)⟩,⟨some 9,.load 1 false (.tmp 8),some (5,true)⟩,o 10 (.pick (.tmp 5) (.tmp 9) (.const (.bool false))),o 2 (.move (.tmp 10))]) .ret)),[.tmp 2]⟩
def a11 : AFunc := ⟨33,(.seq (.region [o 2 (.move (.const .nilptr))]) (.seq (.seq (.region [o 4 (.move (.tmp 0)),o 5 (.eqnil false .p (.tmp 4))]) (.cond (.tmp 5) (.seq (.region [o 2 (.move (.const .nilptr))]) .ret) .skip)) (.seq (.region [o 6 (.move (.tmp 0)),o 7 (.nilCheck (.tmp 6)),o 8 (.load 7 true (.tmp 7)),o 3 (.alloc [.nilslice,.int .i64 0,.nilmap,.nilmap,.nilmap,.nilptr,.bool false]),⟨none,.store 7 (.tmp 3) (.tmp 8),none⟩]) (.seq (.drawn [o 9 (.move (.tmp 0)),o 10 (.nilCheck (.tmp 9)),o 11 (.faddr 2 (.tmp 10)),o 12 (.load 1 false (.tmp 11)),o 13 (.call .shared 38 [.tmp 12]),o 14 (.move (.tmp 0)),o 15 (.nilCheck (.tmp 14)),o 16 (.faddr 3 (.tmp 15)),o 17 (.load 1 false (.tmp 16)),o 18 (.call .shared 39 [.tmp 17]),o 19 (.move (.tmp 0)),o 20 (.nilCheck (.tmp 19)),o 21 (.faddr 4 (.tmp 20)),o 22 (.load 1 false (.tmp 21)),o 23 (.call .shared 39 [.tmp 22]),o 24 (.faddr 2 (.tmp 3)),⟨none,.store 1 (.tmp 24) (.tmp 13),none⟩,o 25 (.faddr 3 (.tmp 3)),⟨none,.store 1 (.tmp 25) (.tmp 18),none⟩,o 26 (.faddr 4 (.tmp 3)),⟨none,.store 1 (.tmp 26) (.tmp 23),none⟩] [(8,4),(13,4),(13,9)]) (.seq (.region [o 27 (.move (.tmp 0)),o 28 (.nilCheck (.tmp 27)),o 29 (.faddr 5 (.tmp 28)),o 30 (.load 1 false (.tmp 29)),o 31 (.call .shared 34 [.tmp 30]),o 32 (.faddr 5 (.tmp 3)),⟨none,.store 1 (.tmp 32) (.tmp 31),none⟩]) (.seq (.region [o 2 (.move (.tmp 3))]) .ret)))))),[.tmp 2]⟩
def a12 : AFunc := ⟨55,(.seq (.region [o 4 (.move (.const .nilptr)),o 5 (.move (.const (.int .i64 0)))]) (.seq (.seq (.region [o 10 (.move (.tmp 0)),o 11 (.call .shared 40 [.tmp 10]),o 6 (.move (.tmp 11))]) (.seq (.region [o 12 (.move (.tmp 6)),o 13 (.iop .neq (.tmp 12) (.const (.int .i64 0)))]) (.cond (.tmp 13) (.seq (.region [o 14 (.move (.tmp 6)),o 4 (.move (.const .nilptr)),o 5 (.move (.tmp 14))]) .ret) .skip))) (.seq (.seq (.region [o 15 (.move (.tmp 1)),o 16 (.iop .lss (.tmp 15) (.const (.int .i64 1))),o 17 (.move (.tmp 16)),⟨some 18,.move (.tmp 1),some (17,false)⟩,⟨some 19,.iop .gtr (.tmp 18) (.const (.int .i64 4)),some (17,false)⟩,o 20 (.pick (.tmp 17) (.const (.bool true)) (.tmp 19))]) (.cond (.tmp 20) (.seq (.region [o 4 (.move (.const .nilptr)),o 5 (.move (.const (.int .i64 2)))]) .ret) .skip)) (.seq (.region [o 21 (.move (.tmp 0)),o 22 (.lenS (.tmp 21)),o 23 (.mkslice 4 80 [.nilslice,.nilslice,.nilslice,.int .i64 0] true (.tmp 22) (.tmp 22)),o 7 (.move (.tmp 23))]) (.seq (.seq (.region [o 24 (.move (.tmp 0)),o 25 (.lenS (.tmp 24)),o 26 (.move (.const (.int .i64 0)))]) (.block 0 (.loop [1,7,24,25,26] (.seq (.region [o 27 (.iop .lss (.tmp 26) (.tmp 25))]) (.seq (.cond (.tmp 27) .skip (.exit 0)) (.seq (.block 1 (.seq (.region [o 28 (.move (.tmp 26)),o 29 (.iaddr 4 (.tmp 24) (.tmp 26)),o 30 (.load 4 true (.tmp 29)),o 9 (.alloc [.nilslice,.nilslice,.nilslice,.int .i64 0]),o 8 (.move (.tmp 28)),⟨none,.store 4 (.tmp 9) (.tmp 30),none⟩]) (.drawn [o 31 (.move (.tmp 7)),o 32 (.move (.tmp 8)),o 33 (.faddr 0 (.tmp 9)),o 34 (.load 1 false (.tmp 33)),o 35 (.call .shared 33 [.tmp 34]),o 36 (.faddr 1 (.tmp 9)),o 37 (.load 1 false (.tmp 36)),o 38 (.call .shared 41 [.tmp 37]),o 39 (.faddr 2 (.tmp 9)),o 40 (.load 1 false (.tmp 39)),o 41 (.call .shared 41 [.tmp 40]),o 42 (.faddr 3 (.tmp 9)),o 43 (.load 1 false (.tmp 42)),o 44 (.build [.nilslice,.nilslice,.nilslice,.int .i64 0] [(0,1,(.tmp 35)),(1,1,(.tmp 38)),(2,1,(.tmp 41)),(3,1,(.tmp 43))]),o 45 (.iaddr 4 (.tmp 31) (.tmp 32)),⟨none,.store 4 (.tmp 45) (.tmp 44),none⟩] [(6,4),(9,4),(9,7),(12,4),(12,7),(12,10)]))) (.region [o 46 (.iop .add (.tmp 26) (.const (.int .i64 1))),o 26 (.move (.tmp 46))]))))))) (.seq (.region [o 47 (.move (.tmp 7)),o 48 (.move (.tmp 1)),o 49 .mkmap,o 50 .mkmap,o 51 .mkmap,o 52 (.call .shared 42 []),o 53 (.build [.nilslice,.int .i64 0,.nilmap,.nilmap,.nilmap,.nilptr,.bool false] [(0,1,(.tmp 47)),(1,1,(.tmp 48)),(2,1,(.tmp 49)),(3,1,(.tmp 50)),(4,1,(.tmp 51)),(5,1,(.tmp 52))]),o 54 (.box (.tmp 53)),o 4 (.move (.tmp 54)),o 5 (.move (.const (.int .i64 0)))]) .ret)))))),[.tmp 4,.tmp 5]⟩
def a13 : AFunc := ⟨38,(.seq (.region [o 2 (.move (.const .nilslice))]) (.seq (.region [o 3 (.move (.const .nilslice))]) (.seq (.seq (.region [o 8 (.move (.tmp 0)),o 9 (.lenS (.tmp 8)),o 10 (.move (.const (.int .i64 0)))]) (.block 0 (.loop [3,8,9,10] (.seq (.region [o 11 (.iop .lss (.tmp 10) (.tmp 9))]) (.seq (.cond (.tmp 11) .skip (.exit 0)) (.seq (.block 1 (.seq (.region [o 12 (.iaddr 1 (.tmp 8) (.tmp 10)),o 13 (.load 1 false (.tmp 12)),o 5 (.move (.tmp 13))]) (.seq (.region [o 14 (.move (.tmp 5)),o 15 (.lenS (.tmp 14)),o 16 (.move (.const (.int .i64 0)))]) (.block 2 (.loop [3,8,9,10,14,15,16] (.seq (.region [o 17 (.iop .lss (.tmp 16) (.tmp 15))]) (.seq (.cond (.tmp 17) .skip (.exit 2)) (.seq (.block 3 (.seq (.region [o 18 (.iaddr 5 (.tmp 14) (.tmp 16)),o 19 (.load 5 true (.tmp 18)),o 7 (.alloc [.int .u8 0,(.str []),.int .i64 0,.int .i64 0,.int .i64 0]),⟨none,.store 5 (.tmp 7) (.tmp 19),none⟩]) (.seq (.region [o 20 (.faddr 0 (.tmp 7)),o 21 (.load 1 false (.tmp 20)),o 22 (.iop .eql (.tmp 21) (.const (.int .u8 4))),o 23 (.move (.tmp 22)),⟨some 24,.move (.tmp 3),some (23,true)⟩,⟨some 25,.faddr 3 (.tmp 7),some (23,true)⟩,⟨some 26,.load 2 true (.tmp 25),some (23,true)⟩,⟨some 27,.call .shared 43 [.tmp 24,.tmp 26],some (23,true)⟩,⟨some 28,.not (.tmp 27),some (23,true)⟩,o 29 (.pick (.tmp 23) (.tmp 28) (.const (.bool false)))]) (.cond (.tmp 29) (.region [o 30 (.move (.tmp 3)),o 31 (.faddr 3 (.tmp 7)),o 32 (.load 2 true (.tmp 31)),o 33 (.lit 2 [.int .i64 0,.int .i64 0] true 1 [(0,(.tmp 32))]),o 34 (.append 2 16 (.tmp 30) (.tmp 33)),o 3 (.move (.tmp 34))]) .skip)))) (.region [o 35 (.iop .add (.tmp 16) (.const (.int .i64 1))),o 16 (.move (.tmp 35))]))))))))) (.region [o 36 (.iop .add (.tmp 10) (.const (.int .i64 1))),o 10 (.move (.tmp 36))]))))))) (.seq (.region [o 37 (.move (.tmp 3)),o 2 (.move (.tmp 37))]) .ret)))),[.tmp 2]⟩
def a14 : AFunc := ⟨10,(.seq (.region [o 2 (.move (.const (.bool false)))]) (.seq (.region [o 3 (.move (.tmp 0)),o 4 (.call .shared 44 [.tmp 3]),o 5 (.move (.tmp 4)),⟨some 6,.move (.tmp 0),some (5,true)⟩,⟨some 7,.call .shared 45 [.tmp 6,(.const (.func 46 [] []))],some (5,true)⟩,⟨some 8,.not (.tmp 7),some (5,true)⟩,o 9 (.pick (.tmp 5) (.tmp 8) (.const (.bool false))),o 2 (.move (.tmp 9))]) .ret)),[.tmp 2]⟩
def a15 : AFunc := ⟨15,(.seq (.region [o 2 (.move (.const (.bool false)))]) (.seq (.region [o 3 (.move (.tmp 0)),o 4 (.iaddr 5 (.tmp 3) (.const (.int .i64 0))),o 5 (.faddr 0 (.tmp 4)),o 6 (.load 1 false (.tmp 5)),o 7 (.iop .eql (.tmp 6) (.const (.int .u8 2))),o 8 (.move (.tmp 7)),⟨some 9,.move (.tmp 0),some (8,false)⟩,⟨some 10,.iaddr 5 (.tmp 9) (.const (.int .i64 0)),some (8,false)⟩,⟨some 11,.faddr 0 (.tmp 10),some (8,false)⟩,⟨some 12,.load 1 false (.tmp 11),some (8,false)⟩,⟨some 13,.iop .eql (.tmp 12) (.const (.int .u8 3)),some (8,false)⟩,o 14 (.pick (.tmp 8) (.const (.bool true)) (.tmp 13)),o 2 (.move (.tmp 14))]) .ret)),[.tmp 2]⟩
def a16 : AFunc := ⟨15,(.seq (.region [o 4 (.move (.const (.bool false)))]) (.seq (.region [o 5 (.move (.tmp 1)),o 6 (.iop .geq (.tmp 5) (.const (.int .i64 0))),o 7 (.move (.tmp 6)),⟨some 8,.move (.tmp 1),some (7,true)⟩,⟨some 9,.move (.tmp 0),some (7,true)⟩,⟨some 10,.nilCheck (.tmp 9),some (7,true)⟩,⟨some 11,.faddr 1 (.tmp 10),some (7,true)⟩,⟨some 12,.load 1 false (.tmp 11),some (7,true)⟩,⟨some 13,.iop .lss (.tmp 8) (.tmp 12),some (7,true)⟩,o 14 (.pick (.tmp 7) (.tmp 13) (.const (.bool false))),o 4 (.move (.tmp 14))]) .ret)),[.tmp 4]⟩
def a17 : AFunc := ⟨9,(.seq (.region [o 4 (.move (.const (.bool false)))]) (.seq (.region [o 5 (.move (.tmp 0)),o 6 (.move (.tmp 1)),o 7 (.call .shared 47 [.tmp 5,.tmp 6]),o 8 (.iop .geq (.tmp 7) (.const (.int .i64 0))),o 4 (.move (.tmp 8))]) .ret)),[.tmp 4]⟩
def a19 : AFunc := ⟨17,(.seq (.region [o 8 (.move (.tmp 2)),o 9 (.lenS (.tmp 8)),o 10 (.move (.const (.int .i64 0)))]) (.block 0 (.loop [1,8,9,10] (.seq (.region [o 11 (.iop .lss (.tmp 10) (.tmp 9))]) (.seq (.cond (.tmp 11) .skip (.exit 0)) (.seq (.block 1 (.seq (.region [o 12 (.iaddr 2 (.tmp 8) (.tmp 10)),o 13 (.load 2 true (.tmp 12)),o 7 (.alloc [.int .i64 0,.int .i64 0]),⟨none,.store 2 (.tmp 7) (.tmp 13),none⟩]) (.region [o 14 (.move (.tmp 1)),o 15 (.load 2 true (.tmp 7)),⟨none,.mapset true [.i,.i] (.tmp 14) (.tmp 15) (.const (.bool true)),none⟩]))) (.region [o 16 (.iop .add (.tmp 10) (.const (.int .i64 1))),o 10 (.move (.tmp 16))]))))))),[]⟩
def a20 : AFunc := ⟨19,(.seq (.region [o 3 (.box (.tmp 1))]) (.seq (.drawn [o 4 (.move (.tmp 0)),o 5 (.nilCheck (.tmp 4)),o 6 (.faddr 2 (.tmp 5)),o 7 (.load 1 false (.tmp 6)),o 8 (.faddr 0 (.tmp 3)),o 9 (.load 2 true (.tmp 8)),o 10 (.faddr 2 (.tmp 3)),o 11 (.load 1 false (.tmp 10)),o 12 (.call .shared 33 [.tmp 11]),⟨none,.mapset true [.i,.i] (.tmp 7) (.tmp 9) (.tmp 12),none⟩] [(3,8),(5,8)]) (.region [o 13 (.move (.tmp 0)),o 14 (.nilCheck (.tmp 13)),o 15 (.faddr 3 (.tmp 14)),o 16 (.load 1 false (.tmp 15)),o 17 (.faddr 0 (.tmp 3)),o 18 (.load 2 true (.tmp 17)),⟨none,.mapset true [.i,.i] (.tmp 16) (.tmp 18) (.const (.bool true)),none⟩]))),[]⟩
def a21 : AFunc := ⟨19,(.seq (.region [o 2 (.move (.const .nilslice))]) (.seq (.region [o 3 (.move (.const .nilslice))]) (.seq (.seq (.region [o 6 (.move (.tmp 0)),o 7 (.lenS (.tmp 6)),o 8 (.move (.const (.int .i64 0)))]) (.block 0 (.loop [3,6,7,8] (.seq (.region [o 9 (.iop .lss (.tmp 8) (.tmp 7))]) (.seq (.cond (.tmp 9) .skip (.exit 0)) (.seq (.block 1 (.seq (.region [o 10 (.iaddr 3 (.tmp 6) (.tmp 8)),o 11 (.load 3 true (.tmp 10)),o 5 (.alloc [.int .i64 0,.int .i64 0,.nilslice]),⟨none,.store 3 (.tmp 5) (.tmp 11),none⟩]) (.region [o 12 (.move (.tmp 3)),o 13 (.faddr 0 (.tmp 5)),o 14 (.load 2 true (.tmp 13)),o 15 (.lit 2 [.int .i64 0,.int .i64 0] true 1 [(0,(.tmp 14))]),o 16 (.append 2 16 (.tmp 12) (.tmp 15)),o 3 (.move (.tmp 16))]))) (.region [o 17 (.iop .add (.tmp 8) (.const (.int .i64 1))),o 8 (.move (.tmp 17))]))))))) (.seq (.region [o 18 (.move (.tmp 3)),o 2 (.move (.tmp 18))]) .ret)))),[.tmp 2]⟩
def a22 : AFunc := ⟨37,(.seq (.region [o 4 (.move (.const .nilfunc))]) (.seq (.block 0 (.seq (.region [o 6 (.move (.tmp 1)),o 7 (.iaddr 5 (.tmp 6) (.const (.int .i64 0))),o 8 (.faddr 0 (.tmp 7)),o 9 (.load 1 false (.tmp 8)),o 10 (.iop .eql (.tmp 9) (.const (.int .u8 1))),o 5 (.move (.tmp 10))]) (.cond (.tmp 5) (.seq (.region [o 4 (.move (.const (.func 48 [] [])))]) .ret) (.seq (.region [o 12 (.move (.tmp 1)),o 13 (.iaddr 5 (.tmp 12) (.const (.int .i64 0))),o 14 (.faddr 0 (.tmp 13)),o 15 (.load 1 false (.tmp 14)),o 16 (.iop .eql (.tmp 15) (.const (.int .u8 4))),o 11 (.move (.tmp 16))]) (.cond (.tmp 11) (.seq (.region [o 4 (.move (.const .nilfunc))]) .ret) (.seq (.region [o 18 (.move (.tmp 1)),o 19 (.call .shared 50 [.tmp 18,(.const (.str [116,114,117,101])),(.const (.int .i64 0))]),o 17 (.move (.tmp 19))]) (.cond (.tmp 17) (.seq (.region [o 4 (.move (.const (.func 51 [] [])))]) .ret) (.seq (.region [o 21 (.move (.tmp 1)),o 22 (.call .shared 50 [.tmp 21,(.const (.str [61])),(.const (.int .i64 2))]),o 20 (.move (.tmp 22))]) (.cond (.tmp 20) (.seq (.region [o 23 (.move (.tmp 0)),o 24 (.mkfunc 52 [.tmp 23] []),o 4 (.move (.tmp 24))]) .ret) (.seq (.region [o 26 (.move (.tmp 1)),o 27 (.call .shared 50 [.tmp 26,(.const (.str [58,61])),(.const (.int .i64 2))]),o 25 (.move (.tmp 27))]) (.cond (.tmp 25) (.seq (.region [o 28 (.move (.tmp 0)),o 29 (.mkfunc 53 [.tmp 28] []),o 4 (.move (.tmp 29))]) .ret) (.seq (.region [o 31 (.move (.tmp 1)),o 32 (.call .shared 50 [.tmp 31,(.const (.str [64])),(.const (.int .i64 2))]),o 30 (.move (.tmp 32))]) (.cond (.tmp 30) (.seq (.region [o 33 (.move (.tmp 0)),o 34 (.mkfunc 54 [.tmp 33] []),o 4 (.move (.tmp 34))]) .ret) .skip))))))))))))) (.seq (.region [o 35 (.move (.tmp 0)),o 36 (.mkfunc 55 [.tmp 35] []),o 4 (.move (.tmp 36))]) .ret))),[.tmp 4]⟩
def a23 : AFunc := ⟨9,(.seq (.region [o 4 (.move (.const .nilslice))]) (.seq (.region [o 5 (.move (.tmp 0)),o 6 (.move (.tmp 1)),o 7 (.call .shared 56 [.tmp 5,.tmp 6]),o 8 (.call .shared 33 [.tmp 7]),o 4 (.move (.tmp 8))]) .ret)),[.tmp 4]⟩
def a24 : AFunc := ⟨15,(.seq (.region [o 3 (.move (.const (.bool false)))]) (.seq (.region [o 4 (.load 1 false (.tmp 0)),o 5 (.faddr 1 (.tmp 1)),o 6 (.faddr 2 (.tmp 5)),o 7 (.load 1 false (.tmp 6)),o 8 (.call .shared 25 [.tmp 4,.tmp 7]),o 9 (.move (.tmp 8)),⟨some 10,.load 1 false (.tmp 2),some (9,true)⟩,⟨some 11,.faddr 0 (.tmp 1),some (9,true)⟩,⟨some 12,.load 1 false (.tmp 11),some (9,true)⟩,⟨some 13,.call .shared 16 [.tmp 10,.tmp 12],some (9,true)⟩,o 14 (.pick (.tmp 9) (.tmp 13) (.const (.bool false))),o 3 (.move (.tmp 14))]) .ret)),[.tmp 3]⟩
def a25 : AFunc := ⟨8,(.seq (.region [o 4 (.move (.const (.bool false)))]) (.seq (.region [o 5 (.move (.tmp 0)),o 6 (.move (.tmp 1)),o 7 (.call .shared 57 [.tmp 5,.tmp 6]),o 4 (.move (.tmp 7))]) .ret)),[.tmp 4]⟩
def a26 : AFunc := ⟨23,(.seq (.region [o 3 (.move (.const (.bool false)))]) (.seq (.region [o 4 (.load 1 false (.tmp 0)),o 5 (.nilCheck (.tmp 4)),o 6 (.faddr 3 (.tmp 5)),o 7 (.load 1 false (.tmp 6)),o 8 (.faddr 0 (.tmp 1)),o 9 (.load 1 false (.tmp 8)),o 10 (.load 1 false (.tmp 2)),o 11 (.call .shared 27 [.tmp 7,.tmp 9,.tmp 10]),o 12 (.move (.tmp 11)),⟨some 13,.load 1 false (.tmp 0),some (12,true)⟩,⟨some 14,.nilCheck (.tmp 13),some (12,true)⟩,⟨some 15,.faddr 4 (.tmp 14),some (12,true)⟩,⟨some 16,.load 1 false (.tmp 15),some (12,true)⟩,⟨some 17,.faddr 0 (.tmp 1),some (12,true)⟩,⟨some 18,.load 1 false (.tmp 17),some (12,true)⟩,⟨some 19,.faddr 6 (.tmp 1),some (12,true)⟩,⟨some 20,.load 1 false (.tmp 19),some (12,true)⟩,⟨some 21,.call .shared 27 [.tmp 16,.tmp 18,.tmp 20],some (12,true)⟩,o 22 (.pick (.tmp 12) (.tmp 21) (.const (.bool false))),o 3 (.move (.tmp 22))]) .ret)),[.tmp 3]⟩
def a27 : AFunc := ⟨38,(.seq (.region [o 6 (.move (.const (.bool false)))]) (.seq (.seq (.region [o 9 (.move (.tmp 2)),o 10 (.lenS (.tmp 9)),o 11 (.move (.const (.int .i64 0)))]) (.block 0 (.loop [0,1,2,9,10,11] (.seq (.region [o 12 (.iop .lss (.tmp 11) (.tmp 10))]) (.seq (.cond (.tmp 12) .skip (.exit 0)) (.seq (.block 1 (.seq (.region [o 13 (.move (.tmp 11)),o 14 (.iaddr 2 (.tmp 9) (.tmp 11)),o 15 (.load 2 true (.tmp 14)),o 8 (.alloc [.int .i64 0,.int .i64 0]),o 7 (.move (.tmp 13)),⟨none,.store 2 (.tmp 8) (.tmp 15),none⟩]) (.seq (.region [o 16 (.move (.tmp 0)),o 17 (.load 2 true (.tmp 8)),o 18 (.lookup true [.i,.i] (.bool false) (.tmp 16) (.tmp 17) false),o 19 (.move (.tmp 18)),⟨some 20,.faddr 0 (.tmp 8),some (19,false)⟩,⟨some 21,.load 1 false (.tmp 20),some (19,false)⟩,⟨some 22,.move (.tmp 1),some (19,false)⟩,⟨some 23,.iop .neq (.tmp 21) (.tmp 22),some (19,false)⟩,o 24 (.pick (.tmp 19) (.const (.bool true)) (.tmp 23)),o 25 (.move (.tmp 24)),⟨some 26,.faddr 1 (.tmp 8),some (25,false)⟩,⟨some 27,.load 1 false (.tmp 26),some (25,false)⟩,⟨some 28,.iop .lss (.tmp 27) (.const (.int .i64 0)),some (25,false)⟩,o 29 (.pick (.tmp 25) (.const (.bool true)) (.tmp 28)),o 30 (.move (.tmp 29)),⟨some 31,.move (.tmp 2),some (30,false)⟩,⟨some 32,.move (.tmp 7),some (30,false)⟩,⟨some 33,.sliceOp 2 (.tmp 31) none (some (.tmp 32)) none,some (30,false)⟩,⟨some 34,.load 2 true (.tmp 8),some (30,false)⟩,⟨some 35,.call .shared 43 [.tmp 33,.tmp 34],some (30,false)⟩,o 36 (.pick (.tmp 30) (.const (.bool true)) (.tmp 35))]) (.cond (.tmp 36) (.seq (.region [o 6 (.move (.const (.bool false)))]) .ret) .skip)))) (.region [o 37 (.iop .add (.tmp 11) (.const (.int .i64 1))),o 11 (.move (.tmp 37))]))))))) (.seq (.region [o 6 (.move (.const (.bool true)))]) .ret))),[.tmp 6]⟩
def a28 : AFunc := ⟨18,(.seq (.region [o 4 (.move (.const (.bool false)))]) (.seq (.drawn [o 5 (.load 1 false (.tmp 0)),o 6 (.eqnil true .f (.tmp 5)),o 7 (.move (.tmp 6)),⟨some 8,.load 1 false (.tmp 0),some (7,true)⟩,⟨some 9,.load 1 false (.tmp 1),some (7,true)⟩,⟨some 10,.nilCheck (.tmp 9),some (7,true)⟩,⟨some 11,.faddr 5 (.tmp 10),some (7,true)⟩,⟨some 12,.load 1 false (.tmp 11),some (7,true)⟩,⟨some 13,.load 1 false (.tmp 2),some (7,true)⟩,⟨some 14,.call .shared 23 [.tmp 12,.tmp 13],some (7,true)⟩,⟨some 15,.load 9 true (.tmp 3),some (7,true)⟩,⟨some 16,.callv .shared (.tmp 8) [.tmp 14,.tmp 15],some (7,true)⟩,o 17 (.pick (.tmp 7) (.tmp 16) (.const (.bool false))),o 4 (.move (.tmp 17))] [(3,9),(10,9)]) .ret)),[.tmp 4]⟩
def a31 : AFunc := ⟨4,(.seq (.region [o 1 (.box (.tmp 0)),o 2 (.move (.const .nilfunc))]) (.seq (.region [o 3 (.mkfunc 62 [] [.tmp 1]),o 2 (.move (.tmp 3))]) .ret)),[.tmp 2]⟩
def a33 : AFunc := ⟨8,(.seq (.region [o 2 (.move (.const .nilslice))]) (.seq (.seq (.region [o 3 (.move (.tmp 0)),o 4 (.eqnil false .s (.tmp 3))]) (.cond (.tmp 4) (.seq (.region [o 2 (.move (.const .nilslice))]) .ret) .skip)) (.seq (.region [o 5 (.lit 5 [.int .u8 0,(.str []),.int .i64 0,.int .i64 0,.int .i64 0] true 0 []),o 6 (.move (.tmp 0)),o 7 (.append 5 48 (.tmp 5) (.tmp 6)),o 2 (.move (.tmp 7))]) .ret))),[.tmp 2]⟩
def a35 : AFunc := ⟨42,(.seq (.region [o 4 (.move (.const .nilslice))]) (.seq (.region [o 8 (.move (.tmp 0)),o 9 (.move (.tmp 1)),o 10 (.call .shared 63 [.tmp 8,.tmp 9]),o 5 (.move (.tmp 10))]) (.seq (.seq (.region [o 11 (.move (.tmp 5)),o 12 (.iop .eql (.tmp 11) (.const (.int .i64 (-1))))]) (.cond (.tmp 12) (.seq (.region [o 13 (.move (.tmp 0)),o 4 (.move (.tmp 13))]) .ret) .skip)) (.seq (.seq (.region [o 14 (.move (.tmp 5)),o 15 (.iop .add (.tmp 14) (.const (.int .i64 1))),o 6 (.move (.tmp 15))]) (.block 0 (.loop [0,1,5,6] (.seq (.seq (.region [o 16 (.move (.tmp 6)),o 17 (.move (.tmp 0)),o 18 (.lenS (.tmp 17)),o 19 (.iop .lss (.tmp 16) (.tmp 18))]) (.cond (.tmp 19) .skip (.exit 0))) (.seq (.block 1 (.seq (.region [o 22 (.move (.tmp 0)),o 23 (.move (.tmp 6)),o 24 (.iaddr 3 (.tmp 22) (.tmp 23)),o 25 (.load 3 true (.tmp 24)),o 7 (.alloc [.int .i64 0,.int .i64 0,.nilslice]),⟨none,.store 3 (.tmp 7) (.tmp 25),none⟩]) (.seq (.region [o 26 (.move (.tmp 1)),o 27 (.load 3 true (.tmp 7)),o 28 (.callv .shared (.tmp 26) [.tmp 27]),o 29 (.not (.tmp 28))]) (.cond (.tmp 29) (.seq (.region [o 30 (.move (.tmp 0)),o 31 (.move (.tmp 5)),o 32 (.load 3 true (.tmp 7)),o 33 (.iaddr 3 (.tmp 30) (.tmp 31)),⟨none,.store 3 (.tmp 33) (.tmp 32),none⟩]) (.region [o 34 (.move (.tmp 5)),o 35 (.iop .add (.tmp 34) (.const (.int .i64 1))),o 5 (.move (.tmp 35))])) .skip)))) (.region [o 20 (.move (.tmp 6)),o 21 (.iop .add (.tmp 20) (.const (.int .i64 1))),o 6 (.move (.tmp 21))])))))) (.seq (.region [o 36 (.move (.tmp 0)),o 37 (.move (.tmp 5)),o 38 (.sliceOp 3 (.tmp 36) (some (.tmp 37)) none none),⟨none,.clr 3 [.int .i64 0,.int .i64 0,.nilslice] true (.tmp 38),none⟩]) (.seq (.region [o 39 (.move (.tmp 0)),o 40 (.move (.tmp 5)),o 41 (.sliceOp 3 (.tmp 39) none (some (.tmp 40)) none),o 4 (.move (.tmp 41))]) .ret)))))),[.tmp 4]⟩
def a36 : AFunc := ⟨8,(.seq (.region [o 2 (.box (.tmp 0)),o 3 (.move (.const (.bool false)))]) (.seq (.region [o 4 (.load 1 false (.tmp 1)),o 5 (.faddr 2 (.tmp 2)),o 6 (.load 1 false (.tmp 5)),o 7 (.call .shared 37 [.tmp 4,.tmp 6]),o 3 (.move (.tmp 7))]) .ret)),[.tmp 3]⟩
def a37 : AFunc := ⟨80,(.seq (.region [o 4 (.move (.const (.bool false)))]) (.seq (.region [o 8 (.move (.tmp 0)),o 9 (.nilCheck (.tmp 8)),o 10 (.faddr 5 (.tmp 9)),o 11 (.load 1 false (.tmp 10)),o 12 (.move (.tmp 1)),o 13 (.call .shared 23 [.tmp 11,.tmp 12]),o 1 (.move (.tmp 13))]) (.seq (.block 0 (.seq (.region [o 15 (.move (.tmp 1)),o 16 (.iaddr 5 (.tmp 15) (.const (.int .i64 0))),o 17 (.faddr 0 (.tmp 16)),o 18 (.load 1 false (.tmp 17)),o 19 (.iop .eql (.tmp 18) (.const (.int .u8 4))),o 14 (.move (.tmp 19))]) (.cond (.tmp 14) (.seq (.region [o 4 (.move (.const (.bool true)))]) .ret) (.seq (.region [o 21 (.move (.tmp 1)),o 22 (.iaddr 5 (.tmp 21) (.const (.int .i64 0))),o 23 (.faddr 0 (.tmp 22)),o 24 (.load 1 false (.tmp 23)),o 25 (.iop .eql (.tmp 24) (.const (.int .u8 1))),o 26 (.move (.tmp 25)),⟨some 27,.move (.tmp 1),some (26,false)⟩,⟨some 28,.call .shared 50 [.tmp 27,(.const (.str [116,114,117,101])),(.const (.int .i64 0))],some (26,false)⟩,o 29 (.pick (.tmp 26) (.const (.bool true)) (.tmp 28)),o 30 (.move (.tmp 29)),⟨some 31,.move (.tmp 1),some (30,false)⟩,⟨some 32,.call .shared 50 [.tmp 31,(.const (.str [61])),(.const (.int .i64 2))],some (30,false)⟩,o 33 (.pick (.tmp 30) (.const (.bool true)) (.tmp 32)),o 20 (.move (.tmp 33))]) (.cond (.tmp 20) (.seq (.region [o 4 (.move (.const (.bool false)))]) .ret) (.seq (.region [o 35 (.move (.tmp 1)),o 36 (.call .shared 50 [.tmp 35,(.const (.str [58,61])),(.const (.int .i64 2))]),o 34 (.move (.tmp 36))]) (.cond (.tmp 34) (.seq (.drawn [o 38 (.move (.tmp 0)),o 39 (.nilCheck (.tmp 38)),o 40 (.faddr 5 (.tmp 39)),o 41 (.load 1 false (.tmp 40)),o 42 (.move (.tmp 1)),o 43 (.call .shared 65 [.tmp 42]),o 44 (.iaddr 1 (.tmp 43) (.const (.int .i64 1))),o 45 (.load 1 false (.tmp 44)),o 46 (.call .shared 64 [.tmp 41,.tmp 45]),o 37 (.move (.tmp 46)),o 47 (.extract (.tmp 37) 0),o 48 (.extract (.tmp 37) 1),o 49 (.extract (.tmp 37) 2),o 5 (.move (.tmp 47)),o 6 (.move (.tmp 48)),o 7 (.move (.tmp 49))] [(3,5)]) (.seq (.region [o 50 (.move (.tmp 6)),o 51 (.iop .eql (.tmp 50) (.const (.int .u8 3))),o 4 (.move (.tmp 51))]) .ret)) (.seq (.region [o 53 (.move (.tmp 1)),o 54 (.call .shared 50 [.tmp 53,(.const (.str [64])),(.const (.int .i64 2))]),o 52 (.move (.tmp 54))]) (.cond (.tmp 52) (.seq (.drawn [o 55 (.move (.tmp 0)),o 56 (.nilCheck (.tmp 55)),o 57 (.faddr 5 (.tmp 56)),o 58 (.load 1 false (.tmp 57)),o 59 (.move (.tmp 1)),o 60 (.call .shared 65 [.tmp 59]),o 61 (.iaddr 1 (.tmp 60) (.const (.int .i64 1))),o 62 (.load 1 false (.tmp 61)),o 63 (.call .shared 23 [.tmp 58,.tmp 62]),o 64 (.iaddr 5 (.tmp 63) (.const (.int .i64 0))),o 65 (.faddr 0 (.tmp 64)),o 66 (.load 1 false (.tmp 65)),o 67 (.iop .eql (.tmp 66) (.const (.int .u8 4))),o 4 (.move (.tmp 67))] [(3,5)]) .ret) .skip))))))))) (.seq (.region [o 68 (.move (.tmp 0)),o 69 (.nilCheck (.tmp 68)),o 70 (.faddr 5 (.tmp 69)),o 71 (.load 1 false (.tmp 70)),o 72 (.move (.tmp 0)),o 73 (.nilCheck (.tmp 72)),o 74 (.faddr 0 (.tmp 73)),o 75 (.load 1 false (.tmp 74)),o 76 (.move (.tmp 1)),o 77 (.call .shared 66 [.tmp 71,.tmp 75,.tmp 76]),o 78 (.field 0 1 false (.tmp 77)),o 79 (.iop .eql (.tmp 78) (.const (.int .u8 3))),o 4 (.move (.tmp 79))]) .ret)))),[.tmp 4]⟩
def a40 : AFunc := ⟨11,(.seq (.region [o 2 (.move (.const (.int .i64 0)))]) (.seq (.region [o 6 (.move (.tmp 0)),o 7 (.call .shared 68 [.tmp 6]),o 5 (.move (.tmp 7)),o 8 (.extract (.tmp 5) 0),o 9 (.extract (.tmp 5) 1),o 3 (.move (.tmp 8)),o 4 (.move (.tmp 9))]) (.seq (.region [o 10 (.move (.tmp 4)),o 2 (.move (.tmp 10))]) .ret))),[.tmp 2]⟩
def a42 : AFunc := ⟨4,(.seq (.region [o 0 (.move (.const .nilptr))]) (.seq (.region [o 1 .mkmap,o 2 (.build [.nilmap] [(0,1,(.tmp 1))]),o 3 (.box (.tmp 2)),o 0 (.move (.tmp 3))]) .ret)),[.tmp 0]⟩
def a44 : AFunc := ⟨21,(.seq (.region [o 2 (.move (.const (.bool false)))]) (.seq (.seq (.region [o 3 (.move (.tmp 0)),o 4 (.lenS (.tmp 3)),o 5 (.iop .eql (.tmp 4) (.const (.int .i64 0))),o 6 (.move (.tmp 5)),⟨some 7,.move (.tmp 0),some (6,false)⟩,⟨some 8,.lenS (.tmp 7),some (6,false)⟩,⟨some 9,.iop .gtr (.tmp 8) (.const (.int .i64 256)),some (6,false)⟩,o 10 (.pick (.tmp 6) (.const (.bool true)) (.tmp 9)),o 11 (.move (.tmp 10)),⟨some 12,.move (.tmp 0),some (11,false)⟩,⟨some 13,.call .shared 70 [.tmp 12,(.const (.int .i64 0))],some (11,false)⟩,⟨some 14,.move (.tmp 0),some (11,false)⟩,⟨some 15,.lenS (.tmp 14),some (11,false)⟩,⟨some 16,.iop .neq (.tmp 13) (.tmp 15),some (11,false)⟩,o 17 (.pick (.tmp 11) (.const (.bool true)) (.tmp 16))]) (.cond (.tmp 17) (.seq (.region [o 2 (.move (.const (.bool false)))]) .ret) .skip)) (.seq (.region [o 18 (.move (.tmp 0)),o 19 (.call .shared 45 [.tmp 18,(.const (.func 71 [] []))]),o 20 (.not (.tmp 19)),o 2 (.move (.tmp 20))]) .ret))),[.tmp 2]⟩
def a45 : AFunc := ⟨9,(.seq (.region [o 4 (.move (.const (.bool false)))]) (.seq (.region [o 5 (.move (.tmp 0)),o 6 (.move (.tmp 1)),o 7 (.call .shared 73 [.tmp 5,.tmp 6]),o 8 (.iop .geq (.tmp 7) (.const (.int .i64 0))),o 4 (.move (.tmp 8))]) .ret)),[.tmp 4]⟩
def a46 : AFunc := ⟨12,(.seq (.region [o 1 (.box (.tmp 0)),o 2 (.move (.const (.bool false)))]) (.seq (.region [o 3 (.faddr 0 (.tmp 1)),o 4 (.load 1 false (.tmp 3)),o 5 (.iop .eql (.tmp 4) (.const (.int .u8 4))),o 6 (.move (.tmp 5)),⟨some 7,.faddr 3 (.tmp 1),some (6,true)⟩,⟨some 8,.faddr 0 (.tmp 7),some (6,true)⟩,⟨some 9,.load 1 false (.tmp 8),some (6,true)⟩,⟨some 10,.iop .eql (.tmp 9) (.const (.int .i64 (-1))),some (6,true)⟩,o 11 (.pick (.tmp 6) (.tmp 10) (.const (.bool false))),o 2 (.move (.tmp 11))]) .ret)),[.tmp 2]⟩
def a47 : AFunc := ⟨19,(.seq (.region [o 4 (.move (.const (.int .i64 0)))]) (.seq (.seq (.region [o 6 (.move (.tmp 0)),o 7 (.lenS (.tmp 6)),o 8 (.move (.const (.int .i64 0)))]) (.block 0 (.loop [0,1,7,8] (.seq (.region [o 9 (.iop .lss (.tmp 8) (.tmp 7))]) (.seq (.cond (.tmp 9) .skip (.exit 0)) (.seq (.block 1 (.seq (.region [o 10 (.move (.tmp 8)),o 5 (.move (.tmp 10))]) (.seq (.region [o 11 (.move (.tmp 1)),o 12 (.move (.tmp 0)),o 13 (.move (.tmp 5)),o 14 (.iaddr 2 (.tmp 12) (.tmp 13)),o 15 (.load 2 true (.tmp 14)),o 16 (.callv .shared (.tmp 11) [.tmp 15])]) (.cond (.tmp 16) (.seq (.region [o 17 (.move (.tmp 5)),o 4 (.move (.tmp 17))]) .ret) .skip)))) (.region [o 18 (.iop .add (.tmp 8) (.const (.int .i64 1))),o 8 (.move (.tmp 18))]))))))) (.seq (.region [o 4 (.move (.const (.int .i64 (-1))))]) .ret))),[.tmp 4]⟩
def a49 : AFunc := ⟨28,(.seq (.region [o 2 (.box (.tmp 0)),o 4 (.move (.const (.bool false)))]) (.seq (.region [o 5 (.faddr 4 (.tmp 2)),o 6 (.load 1 false (.tmp 5)),o 7 (.move (.tmp 1)),o 8 (.bop false (.tmp 6) (.tmp 7)),o 9 (.move (.tmp 8)),⟨some 10,.faddr 5 (.tmp 2),some (9,true)⟩,⟨some 11,.load 1 false (.tmp 10),some (9,true)⟩,⟨some 12,.iop .eql (.tmp 11) (.const (.int .i64 (-1))),some (9,true)⟩,o 13 (.pick (.tmp 9) (.tmp 12) (.const (.bool false))),o 14 (.move (.tmp 13)),⟨some 15,.faddr 6 (.tmp 2),some (14,true)⟩,⟨some 16,.load 1 false (.tmp 15),some (14,true)⟩,⟨some 17,.lenS (.tmp 16),some (14,true)⟩,⟨some 18,.faddr 7 (.tmp 2),some (14,true)⟩,⟨some 19,.load 1 false (.tmp 18),some (14,true)⟩,⟨some 20,.lenS (.tmp 19),some (14,true)⟩,⟨some 21,.iop .add (.tmp 17) (.tmp 20),some (14,true)⟩,⟨some 22,.faddr 8 (.tmp 2),some (14,true)⟩,⟨some 23,.load 1 false (.tmp 22),some (14,true)⟩,⟨some 24,.lenS (.tmp 23),some (14,true)⟩,⟨some 25,.iop .add (.tmp 21) (.tmp 24),some (14,true)⟩,⟨some 26,.iop .eql (.tmp 25) (.const (.int .i64 0)),some (14,true)⟩,o 27 (.pick (.tmp 14) (.tmp 26) (.const (.bool false))),o 4 (.move (.tmp 27))]) .ret)),[.tmp 4]⟩
def a50 : AFunc := ⟨42,(.seq (.region [o 6 (.move (.const (.bool false)))]) (.seq (.seq (.region [o 7 (.move (.tmp 0)),o 8 (.lenS (.tmp 7)),o 9 (.iop .eql (.tmp 8) (.const (.int .i64 0))),o 10 (.move (.tmp 9)),⟨some 11,.move (.tmp 0),some (10,false)⟩,⟨some 12,.iaddr 5 (.tmp 11) (.const (.int .i64 0)),some (10,false)⟩,⟨some 13,.faddr 1 (.tmp 12),some (10,false)⟩,⟨some 14,.load 1 false (.tmp 13),some (10,false)⟩,⟨some 15,.move (.tmp 1),some (10,false)⟩,⟨some 16,.sop .neq (.tmp 14) (.tmp 15),some (10,false)⟩,o 17 (.pick (.tmp 10) (.const (.bool true)) (.tmp 16))]) (.cond (.tmp 17) (.seq (.region [o 6 (.move (.const (.bool false)))]) .ret) .skip)) (.seq (.region [o 18 (.move (.tmp 0)),o 19 (.iaddr 5 (.tmp 18) (.const (.int .i64 0))),o 20 (.faddr 0 (.tmp 19)),o 21 (.load 1 false (.tmp 20)),o 22 (.iop .eql (.tmp 21) (.const (.int .u8 3))),o 23 (.move (.tmp 22)),⟨some 24,.move (.tmp 0),some (23,true)⟩,⟨some 25,.iaddr 5 (.tmp 24) (.const (.int .i64 0)),some (23,true)⟩,⟨some 26,.faddr 2 (.tmp 25),some (23,true)⟩,⟨some 27,.load 1 false (.tmp 26),some (23,true)⟩,⟨some 28,.move (.tmp 2),some (23,true)⟩,⟨some 29,.iop .eql (.tmp 27) (.tmp 28),some (23,true)⟩,o 30 (.pick (.tmp 23) (.tmp 29) (.const (.bool false))),o 31 (.move (.tmp 30)),⟨some 32,.move (.tmp 2),some (31,false)⟩,⟨some 33,.iop .eql (.tmp 32) (.const (.int .i64 0)),some (31,false)⟩,⟨some 34,.move (.tmp 33),some (31,false)⟩,⟨some 35,.move (.tmp 0),some (34,true)⟩,⟨some 36,.iaddr 5 (.tmp 35) (.const (.int .i64 0)),some (34,true)⟩,⟨some 37,.faddr 0 (.tmp 36),some (34,true)⟩,⟨some 38,.load 1 false (.tmp 37),some (34,true)⟩,⟨some 39,.iop .eql (.tmp 38) (.const (.int .u8 2)),some (34,true)⟩,⟨some 40,.pick (.tmp 34) (.tmp 39) (.const (.bool false)),some (31,false)⟩,o 41 (.pick (.tmp 31) (.const (.bool true)) (.tmp 40)),o 6 (.move (.tmp 41))]) .ret))),[.tmp 6]⟩
def a51 : AFunc := ⟨7,(.seq (.region [o 3 (.box (.tmp 1)),o 4 (.move (.const (.bool false)))]) (.seq (.region [o 5 (.load 9 true (.tmp 3)),o 6 (.call .shared 49 [.tmp 5,(.const (.bool false))]),o 4 (.move (.tmp 6))]) .ret)),[.tmp 4]⟩
def a56 : AFunc := ⟨22,(.seq (.region [o 4 (.move (.const .nilslice))]) (.seq (.seq (.region [o 8 (.move (.tmp 0)),o 9 (.move (.tmp 1)),o 10 (.call .shared 83 [.tmp 8,.tmp 9]),o 7 (.move (.tmp 10)),o 11 (.extract (.tmp 7) 0),o 12 (.extract (.tmp 7) 1),o 5 (.move (.tmp 11)),o 6 (.move (.tmp 12))]) (.block 0 (.loop [0,1,5,6] (.seq (.seq (.region [o 13 (.move (.tmp 6))]) (.cond (.tmp 13) .skip (.exit 0))) (.seq (.block 1 (.region [o 20 (.move (.tmp 5)),o 1 (.move (.tmp 20))])) (.region [o 15 (.move (.tmp 0)),o 16 (.move (.tmp 1)),o 17 (.call .shared 83 [.tmp 15,.tmp 16]),o 14 (.move (.tmp 17)),o 18 (.extract (.tmp 14) 0),o 19 (.extract (.tmp 14) 1),o 5 (.move (.tmp 18)),o 6 (.move (.tmp 19))])))))) (.seq (.region [o 21 (.move (.tmp 1)),o 4 (.move (.tmp 21))]) .ret))),[.tmp 4]⟩
def a57 : AFunc := ⟨26,(.seq (.region [o 4 (.move (.const (.bool false)))]) (.seq (.seq (.region [o 6 (.move (.tmp 0)),o 7 (.lenS (.tmp 6)),o 8 (.move (.tmp 1)),o 9 (.lenS (.tmp 8)),o 10 (.iop .neq (.tmp 7) (.tmp 9))]) (.cond (.tmp 10) (.seq (.region [o 4 (.move (.const (.bool false)))]) .ret) .skip)) (.seq (.seq (.region [o 11 (.move (.tmp 0)),o 12 (.lenS (.tmp 11)),o 13 (.move (.const (.int .i64 0)))]) (.block 0 (.loop [0,1,12,13] (.seq (.region [o 14 (.iop .lss (.tmp 13) (.tmp 12))]) (.seq (.cond (.tmp 14) .skip (.exit 0)) (.seq (.block 1 (.seq (.region [o 15 (.move (.tmp 13)),o 5 (.move (.tmp 15))]) (.seq (.region [o 16 (.move (.tmp 0)),o 17 (.move (.tmp 5)),o 18 (.iaddr 5 (.tmp 16) (.tmp 17)),o 19 (.load 5 true (.tmp 18)),o 20 (.move (.tmp 1)),o 21 (.move (.tmp 5)),o 22 (.iaddr 5 (.tmp 20) (.tmp 21)),o 23 (.load 5 true (.tmp 22)),o 24 (.eqs true [.i,.s,.i,.i,.i] (.tmp 19) (.tmp 23))]) (.cond (.tmp 24) (.seq (.region [o 4 (.move (.const (.bool false)))]) .ret) .skip)))) (.region [o 25 (.iop .add (.tmp 13) (.const (.int .i64 1))),o 13 (.move (.tmp 25))]))))))) (.seq (.region [o 4 (.move (.const (.bool true)))]) .ret)))),[.tmp 4]⟩
def a63 : AFunc := ⟨19,(.seq (.region [o 4 (.move (.const (.int .i64 0)))]) (.seq (.seq (.region [o 6 (.move (.tmp 0)),o 7 (.lenS (.tmp 6)),o 8 (.move (.const (.int .i64 0)))]) (.block 0 (.loop [0,1,7,8] (.seq (.region [o 9 (.iop .lss (.tmp 8) (.tmp 7))]) (.seq (.cond (.tmp 9) .skip (.exit 0)) (.seq (.block 1 (.seq (.region [o 10 (.move (.tmp 8)),o 5 (.move (.tmp 10))]) (.seq (.region [o 11 (.move (.tmp 1)),o 12 (.move (.tmp 0)),o 13 (.move (.tmp 5)),o 14 (.iaddr 3 (.tmp 12) (.tmp 13)),o 15 (.load 3 true (.tmp 14)),o 16 (.callv .shared (.tmp 11) [.tmp 15])]) (.cond (.tmp 16) (.seq (.region [o 17 (.move (.tmp 5)),o 4 (.move (.tmp 17))]) .ret) .skip)))) (.region [o 18 (.iop .add (.tmp 8) (.const (.int .i64 1))),o 8 (.move (.tmp 18))]))))))) (.seq (.region [o 4 (.move (.const (.int .i64 (-1))))]) .ret))),[.tmp 4]⟩
def a68 : AFunc := ⟨41,(.seq (.region [o 2 (.move (.const (.int .i64 0))),o 3 (.move (.const (.int .i64 0)))]) (.seq (.seq (.region [o 10 (.move (.tmp 0)),o 11 (.lenS (.tmp 10)),o 12 (.iop .gtr (.tmp 11) (.const (.int .i64 64)))]) (.cond (.tmp 12) (.seq (.region [o 2 (.move (.const (.int .i64 0))),o 3 (.move (.const (.int .i64 5)))]) .ret) .skip)) (.seq (.region [o 13 (.move (.tmp 0)),o 14 (.lit 1 [.nilslice] false 1 [(0,(.tmp 13))]),o 15 (.call .shared 94 [.tmp 14]),o 4 (.alloc [.nilslice]),⟨none,.store 1 (.tmp 4) (.tmp 15),none⟩]) (.seq (.region [o 16 (.mkfunc 95 [] [.tmp 4]),o 5 (.move (.tmp 16))]) (.seq (.region [o 17 (.build [.nilfunc,.int .i64 0] [(0,1,(.const (.func 100 [] []))),(1,1,(.const (.int .i64 5)))]),o 18 (.build [.nilfunc,.int .i64 0] [(0,1,(.const (.func 101 [] []))),(1,1,(.const (.int .i64 6)))]),o 19 (.build [.nilfunc,.int .i64 0] [(0,1,(.const (.func 102 [] []))),(1,1,(.const (.int .i64 40)))]),o 20 (.build [.nilfunc,.int .i64 0] [(0,1,(.const (.func 103 [] []))),(1,1,(.const (.int .i64 41)))]),o 21 (.build [.nilfunc,.int .i64 0] [(0,1,(.const (.func 104 [] []))),(1,1,(.const (.int .i64 42)))]),o 22 (.move (.tmp 5)),o 23 (.build [.nilfunc,.int .i64 0] [(0,1,(.tmp 22)),(1,1,(.const (.int .i64 43)))]),o 24 (.lit 2 [.nilfunc,.int .i64 0] true 6 [(0,(.tmp 17)),(1,(.tmp 18)),(2,(.tmp 19)),(3,(.tmp 20)),(4,(.tmp 21)),(5,(.tmp 23))]),o 6 (.move (.tmp 24))]) (.seq (.seq (.region [o 25 (.move (.tmp 6)),o 26 (.lenS (.tmp 25)),o 27 (.move (.const (.int .i64 0)))]) (.block 0 (.loop [0,25,26,27] (.seq (.region [o 28 (.iop .lss (.tmp 27) (.tmp 26))]) (.seq (.cond (.tmp 28) .skip (.exit 0)) (.seq (.block 1 (.seq (.region [o 29 (.iaddr 2 (.tmp 25) (.tmp 27)),o 30 (.load 2 true (.tmp 29)),o 8 (.alloc [.nilfunc,.int .i64 0]),⟨none,.store 2 (.tmp 8) (.tmp 30),none⟩]) (.seq (.region [o 31 (.move (.tmp 0)),o 32 (.faddr 0 (.tmp 8)),o 33 (.load 1 false (.tmp 32)),o 34 (.call .shared 105 [.tmp 31,.tmp 33]),o 9 (.move (.tmp 34))]) (.seq (.region [o 35 (.move (.tmp 9)),o 36 (.iop .geq (.tmp 35) (.const (.int .i64 0)))]) (.cond (.tmp 36) (.seq (.region [o 37 (.move (.tmp 9)),o 38 (.faddr 1 (.tmp 8)),o 39 (.load 1 false (.tmp 38)),o 2 (.move (.tmp 37)),o 3 (.move (.tmp 39))]) .ret) .skip))))) (.region [o 40 (.iop .add (.tmp 27) (.const (.int .i64 1))),o 27 (.move (.tmp 40))]))))))) (.seq (.region [o 2 (.move (.const (.int .i64 0))),o 3 (.move (.const (.int .i64 0)))]) .ret))))))),[.tmp 2,.tmp 3]⟩
def a70 : AFunc := ⟨41,(.seq (.region [o 4 (.move (.const (.int .i64 0)))]) (.seq (.seq (.region [o 6 (.move (.tmp 1)),o 7 (.iop .lss (.tmp 6) (.const (.int .i64 0))),o 8 (.move (.tmp 7)),⟨some 9,.move (.tmp 1),some (8,false)⟩,⟨some 10,.move (.tmp 0),some (8,false)⟩,⟨some 11,.lenS (.tmp 10),some (8,false)⟩,⟨some 12,.iop .geq (.tmp 9) (.tmp 11),some (8,false)⟩,o 13 (.pick (.tmp 8) (.const (.bool true)) (.tmp 12))]) (.cond (.tmp 13) (.seq (.region [o 4 (.move (.const (.int .i64 0)))]) .ret) .skip)) (.seq (.seq (.region [o 5 (.move (.const (.int .i64 1)))]) (.block 0 (.loop [0,1,5] (.seq (.seq (.region [o 14 (.move (.tmp 5)),o 15 (.iop .gtr (.tmp 14) (.const (.int .i64 0)))]) (.cond (.tmp 15) .skip (.exit 0))) (.seq (.block 1 (.seq (.seq (.region [o 18 (.move (.tmp 1)),o 19 (.move (.tmp 0)),o 20 (.lenS (.tmp 19)),o 21 (.iop .eql (.tmp 18) (.tmp 20)),o 22 (.move (.tmp 21)),⟨some 23,.move (.tmp 0),some (22,false)⟩,⟨some 24,.move (.tmp 1),some (22,false)⟩,⟨some 25,.iaddr 5 (.tmp 23) (.tmp 24),some (22,false)⟩,⟨some 26,.load 5 true (.tmp 25),some (22,false)⟩,⟨some 27,.call .shared 106 [.tmp 26],some (22,false)⟩,⟨some 28,.move (.tmp 0),some (22,false)⟩,⟨some 29,.lenS (.tmp 28),some (22,false)⟩,⟨some 30,.iop .gtr (.tmp 27) (.tmp 29),some (22,false)⟩,o 31 (.pick (.tmp 22) (.const (.bool true)) (.tmp 30))]) (.cond (.tmp 31) (.seq (.region [o 4 (.move (.const (.int .i64 0)))]) .ret) .skip)) (.region [o 32 (.move (.tmp 5)),o 33 (.move (.tmp 0)),o 34 (.move (.tmp 1)),o 35 (.iaddr 5 (.tmp 33) (.tmp 34)),o 36 (.load 5 true (.tmp 35)),o 37 (.call .shared 106 [.tmp 36]),o 38 (.iop .sub (.tmp 37) (.const (.int .i64 1))),o 39 (.iop .add (.tmp 32) (.tmp 38)),o 5 (.move (.tmp 39))]))) (.region [o 16 (.move (.tmp 1)),o 17 (.iop .add (.tmp 16) (.const (.int .i64 1))),o 1 (.move (.tmp 17))])))))) (.seq (.region [o 40 (.move (.tmp 1)),o 4 (.move (.tmp 40))]) .ret)))),[.tmp 4]⟩
def a71 : AFunc := ⟨10,(.seq (.region [o 1 (.box (.tmp 0)),o 2 (.move (.const (.bool false)))]) (.seq (.drawn [o 3 (.faddr 0 (.tmp 1)),o 4 (.load 1 false (.tmp 3)),o 5 (.call .shared 72 [.tmp 4]),o 6 (.field 0 1 false (.tmp 5)),o 7 (.load 5 true (.tmp 1)),o 8 (.callv .shared (.tmp 6) [.tmp 7]),o 9 (.not (.tmp 8)),o 2 (.move (.tmp 9))] [(4,2)]) .ret)),[.tmp 2]⟩
def a72 : AFunc := ⟨20,(.seq (.region [o 2 (.alloc [.nilfunc])]) (.seq (.region [o 4 (.build [.nilfunc] [(0,1,(.const (.func 107 [] [])))]),o 5 (.build [.nilfunc] [(0,1,(.const (.func 109 [] [])))]),o 6 (.build [.nilfunc] [(0,1,(.const (.func 111 [] [])))]),o 7 (.build [.nilfunc] [(0,1,(.const (.func 113 [] [])))]),o 8 (.build [.nilfunc,.nilfunc,.nilfunc,.nilfunc,.nilfunc] [(1,1,(.tmp 4)),(2,1,(.tmp 5)),(3,1,(.tmp 6)),(4,1,(.tmp 7))]),o 3 (.alloc [.nilfunc,.nilfunc,.nilfunc,.nilfunc,.nilfunc]),⟨none,.store 5 (.tmp 3) (.tmp 8),none⟩]) (.seq (.seq (.region [o 9 (.move (.tmp 0)),o 10 (.iop .lss (.tmp 9) (.const (.int .u8 1))),o 11 (.move (.tmp 10)),⟨some 12,.move (.tmp 0),some (11,false)⟩,⟨some 13,.convI .i64 (.tmp 12),some (11,false)⟩,⟨some 14,.iop .geq (.tmp 13) (.const (.int .i64 5)),some (11,false)⟩,o 15 (.pick (.tmp 11) (.const (.bool true)) (.tmp 14))]) (.cond (.tmp 15) (.seq (.region [o 16 (.build [.nilfunc] [(0,1,(.const (.func 114 [] [])))]),⟨none,.store 1 (.tmp 2) (.tmp 16),none⟩]) .ret) .skip)) (.seq (.region [o 17 (.move (.tmp 0)),o 18 (.aaddr 5 1 (.tmp 3) (.tmp 17)),o 19 (.load 1 true (.tmp 18)),⟨none,.store 1 (.tmp 2) (.tmp 19),none⟩]) .ret)))),[.cell 2 1 true]⟩
def a73 : AFunc := ⟨19,(.seq (.region [o 4 (.move (.const (.int .i64 0)))]) (.seq (.seq (.region [o 6 (.move (.tmp 0)),o 7 (.lenS (.tmp 6)),o 8 (.move (.const (.int .i64 0)))]) (.block 0 (.loop [0,1,7,8] (.seq (.region [o 9 (.iop .lss (.tmp 8) (.tmp 7))]) (.seq (.cond (.tmp 9) .skip (.exit 0)) (.seq (.block 1 (.seq (.region [o 10 (.move (.tmp 8)),o 5 (.move (.tmp 10))]) (.seq (.region [o 11 (.move (.tmp 1)),o 12 (.move (.tmp 0)),o 13 (.move (.tmp 5)),o 14 (.iaddr 5 (.tmp 12) (.tmp 13)),o 15 (.load 5 true (.tmp 14)),o 16 (.callv .shared (.tmp 11) [.tmp 15])]) (.cond (.tmp 16) (.seq (.region [o 17 (.move (.tmp 5)),o 4 (.move (.tmp 17))]) .ret) .skip)))) (.region [o 18 (.iop .add (.tmp 8) (.const (.int .i64 1))),o 8 (.move (.tmp 18))]))))))) (.seq (.region [o 4 (.move (.const (.int .i64 (-1))))]) .ret))),[.tmp 4]⟩
def a83 : AFunc := ⟨24,(.seq (.region [o 4 (.move (.const .nilslice)),o 5 (.move (.const (.bool false)))]) (.seq (.seq (.region [o 6 (.move (.tmp 1)),o 7 (.lenS (.tmp 6)),o 8 (.iop .neq (.tmp 7) (.const (.int .i64 1))),o 9 (.move (.tmp 8)),⟨some 10,.move (.tmp 1),some (9,false)⟩,⟨some 11,.iaddr 5 (.tmp 10) (.const (.int .i64 0)),some (9,false)⟩,⟨some 12,.faddr 0 (.tmp 11),some (9,false)⟩,⟨some 13,.load 1 false (.tmp 12),some (9,false)⟩,⟨some 14,.iop .neq (.tmp 13) (.const (.int .u8 4)),some (9,false)⟩,o 15 (.pick (.tmp 9) (.const (.bool true)) (.tmp 14))]) (.cond (.tmp 15) (.seq (.region [o 4 (.move (.const .nilslice)),o 5 (.move (.const (.bool false)))]) .ret) .skip)) (.seq (.region [o 16 (.move (.tmp 0)),o 17 (.move (.tmp 1)),o 18 (.iaddr 5 (.tmp 17) (.const (.int .i64 0))),o 19 (.faddr 3 (.tmp 18)),o 20 (.load 2 true (.tmp 19)),o 21 (.call .shared 127 [.tmp 16,.tmp 20]),o 22 (.extract (.tmp 21) 0),o 23 (.extract (.tmp 21) 1),o 4 (.move (.tmp 22)),o 5 (.move (.tmp 23))]) .ret))),[.tmp 4,.tmp 5]⟩
def a94 : AFunc := ⟨42,(.seq (.region [o 2 (.move (.const .nilslice))]) (.seq (.region [o 3 (.move (.const .nilslice))]) (.seq (.seq (.region [o 10 (.move (.tmp 0)),o 11 (.lenS (.tmp 10)),o 12 (.move (.const (.int .i64 0)))]) (.block 0 (.loop [3,10,11,12] (.seq (.region [o 13 (.iop .lss (.tmp 12) (.tmp 11))]) (.seq (.cond (.tmp 13) .skip (.exit 0)) (.seq (.block 1 (.seq (.region [o 14 (.iaddr 1 (.tmp 10) (.tmp 12)),o 15 (.load 1 false (.tmp 14)),o 5 (.move (.tmp 15))]) (.seq (.region [o 16 (.move (.tmp 5)),o 17 (.lenS (.tmp 16)),o 18 (.move (.const (.int .i64 0)))]) (.block 2 (.loop [3,10,11,12,16,17,18] (.seq (.region [o 19 (.iop .lss (.tmp 18) (.tmp 17))]) (.seq (.cond (.tmp 19) .skip (.exit 2)) (.seq (.block 3 (.seq (.region [o 20 (.iaddr 4 (.tmp 16) (.tmp 18)),o 21 (.load 4 true (.tmp 20)),o 7 (.alloc [.nilslice,.nilslice,.nilslice,.int .i64 0]),⟨none,.store 4 (.tmp 7) (.tmp 21),none⟩]) (.seq (.region [o 23 (.faddr 0 (.tmp 7)),o 24 (.load 1 false (.tmp 23)),o 25 (.call .shared 142 [.tmp 24]),o 22 (.move (.tmp 25)),o 26 (.extract (.tmp 22) 0),o 27 (.extract (.tmp 22) 1),o 8 (.alloc [(.str []),.int .i64 0]),⟨none,.store 2 (.tmp 8) (.tmp 26),none⟩,o 9 (.move (.tmp 27))]) (.seq (.region [o 28 (.move (.tmp 9)),o 29 (.move (.tmp 28)),⟨some 30,.move (.tmp 3),some (29,true)⟩,⟨some 31,.load 2 true (.tmp 8),some (29,true)⟩,⟨some 32,.call .shared 99 [.tmp 30,.tmp 31],some (29,true)⟩,⟨some 33,.not (.tmp 32),some (29,true)⟩,o 34 (.pick (.tmp 29) (.tmp 33) (.const (.bool false)))]) (.cond (.tmp 34) (.region [o 35 (.move (.tmp 3)),o 36 (.load 2 true (.tmp 8)),o 37 (.lit 2 [(.str []),.int .i64 0] true 1 [(0,(.tmp 36))]),o 38 (.append 2 24 (.tmp 35) (.tmp 37)),o 3 (.move (.tmp 38))]) .skip))))) (.region [o 39 (.iop .add (.tmp 18) (.const (.int .i64 1))),o 18 (.move (.tmp 39))]))))))))) (.region [o 40 (.iop .add (.tmp 12) (.const (.int .i64 1))),o 12 (.move (.tmp 40))]))))))) (.seq (.region [o 41 (.move (.tmp 3)),o 2 (.move (.tmp 41))]) .ret)))),[.tmp 2]⟩
def a105 : AFunc := ⟨19,(.seq (.region [o 4 (.move (.const (.int .i64 0)))]) (.seq (.seq (.region [o 6 (.move (.tmp 0)),o 7 (.lenS (.tmp 6)),o 8 (.move (.const (.int .i64 0)))]) (.block 0 (.loop [0,1,7,8] (.seq (.region [o 9 (.iop .lss (.tmp 8) (.tmp 7))]) (.seq (.cond (.tmp 9) .skip (.exit 0)) (.seq (.block 1 (.seq (.region [o 10 (.move (.tmp 8)),o 5 (.move (.tmp 10))]) (.seq (.region [o 11 (.move (.tmp 1)),o 12 (.move (.tmp 0)),o 13 (.move (.tmp 5)),o 14 (.iaddr 4 (.tmp 12) (.tmp 13)),o 15 (.load 4 true (.tmp 14)),o 16 (.callv .shared (.tmp 11) [.tmp 15])]) (.cond (.tmp 16) (.seq (.region [o 17 (.move (.tmp 5)),o 4 (.move (.tmp 17))]) .ret) .skip)))) (.region [o 18 (.iop .add (.tmp 8) (.const (.int .i64 1))),o 8 (.move (.tmp 18))]))))))) (.seq (.region [o 4 (.move (.const (.int .i64 (-1))))]) .ret))),[.tmp 4]⟩
def a106 : AFunc := ⟨9,(.seq (.region [o 1 (.box (.tmp 0)),o 2 (.move (.const (.int .i64 0)))]) (.seq (.seq (.region [o 3 (.faddr 0 (.tmp 1)),o 4 (.load 1 false (.tmp 3)),o 5 (.iop .neq (.tmp 4) (.const (.int .u8 3)))]) (.cond (.tmp 5) (.seq (.region [o 2 (.move (.const (.int .i64 0)))]) .ret) .skip)) (.seq (.region [o 6 (.faddr 2 (.tmp 1)),o 7 (.load 1 false (.tmp 6)),o 8 (.maxI [.tmp 7,(.const (.int .i64 0))]),o 2 (.move (.tmp 8))]) .ret))),[.tmp 2]⟩
def a108 : AFunc := ⟨8,(.seq (.region [o 2 (.box (.tmp 0)),o 3 (.box (.tmp 1)),o 4 (.move (.const (.bool false)))]) (.seq (.region [o 5 (.load 5 true (.tmp 2)),o 6 (.load 5 true (.tmp 3)),o 7 (.eqs false [.i,.s,.i,.i,.i] (.tmp 5) (.tmp 6)),o 4 (.move (.tmp 7))]) .ret)),[.tmp 4]⟩
def a109 : AFunc := ⟨13,(.seq (.region [o 1 (.box (.tmp 0)),o 2 (.move (.const (.bool false)))]) (.seq (.region [o 3 (.faddr 1 (.tmp 1)),o 4 (.load 1 false (.tmp 3)),o 5 (.call .shared 110 [.tmp 4]),o 6 (.move (.tmp 5)),⟨some 7,.load 5 true (.tmp 1),some (6,true)⟩,⟨some 8,.faddr 1 (.tmp 1),some (6,true)⟩,⟨some 9,.load 1 false (.tmp 8),some (6,true)⟩,⟨some 10,.build [.int .u8 0,(.str []),.int .i64 0,.int .i64 0,.int .i64 0] [(0,1,(.const (.int .u8 2))),(1,1,(.tmp 9))],some (6,true)⟩,⟨some 11,.call .shared 108 [.tmp 7,.tmp 10],some (6,true)⟩,o 12 (.pick (.tmp 6) (.tmp 11) (.const (.bool false))),o 2 (.move (.tmp 12))]) .ret)),[.tmp 2]⟩
def a110 : AFunc := ⟨54,(.seq (.region [o 2 (.move (.const (.bool false)))]) (.seq (.seq (.region [o 6 (.move (.tmp 0)),o 7 (.lenStr (.tmp 6)),o 8 (.move (.const (.int .i64 0)))]) (.block 0 (.loop [0,7,8] (.seq (.region [o 9 (.iop .lss (.tmp 8) (.tmp 7))]) (.seq (.cond (.tmp 9) .skip (.exit 0)) (.seq (.block 1 (.seq (.region [o 10 (.move (.tmp 8)),o 3 (.move (.tmp 10))]) (.seq (.region [o 11 (.move (.tmp 0)),o 12 (.move (.tmp 3)),o 13 (.strIdx (.tmp 11) (.tmp 12)),o 4 (.move (.tmp 13))]) (.seq (.region [o 14 (.move (.tmp 4)),o 15 (.iop .geq (.tmp 14) (.const (.int .u8 97))),o 16 (.move (.tmp 15)),⟨some 17,.move (.tmp 4),some (16,true)⟩,⟨some 18,.iop .leq (.tmp 17) (.const (.int .u8 122)),some (16,true)⟩,o 19 (.pick (.tmp 16) (.tmp 18) (.const (.bool false))),o 5 (.move (.tmp 19))]) (.seq (.region [o 20 (.move (.tmp 5)),o 21 (.not (.tmp 20)),o 22 (.move (.tmp 21)),⟨some 23,.move (.tmp 3),some (22,true)⟩,⟨some 24,.iop .eql (.tmp 23) (.const (.int .i64 0)),some (22,true)⟩,⟨some 25,.move (.tmp 24),some (22,true)⟩,⟨some 26,.move (.tmp 4),some (25,false)⟩,⟨some 27,.iop .lss (.tmp 26) (.const (.int .u8 65)),some (25,false)⟩,⟨some 28,.move (.tmp 27),some (25,false)⟩,⟨some 29,.move (.tmp 4),some (28,false)⟩,⟨some 30,.iop .gtr (.tmp 29) (.const (.int .u8 90)),some (28,false)⟩,⟨some 31,.pick (.tmp 28) (.const (.bool true)) (.tmp 30),some (25,false)⟩,⟨some 32,.move (.tmp 31),some (25,false)⟩,⟨some 33,.move (.tmp 4),some (32,true)⟩,⟨some 34,.iop .lss (.tmp 33) (.const (.int .u8 48)),some (32,true)⟩,⟨some 35,.move (.tmp 34),some (32,true)⟩,⟨some 36,.move (.tmp 4),some (35,false)⟩,⟨some 37,.iop .gtr (.tmp 36) (.const (.int .u8 57)),some (35,false)⟩,⟨some 38,.pick (.tmp 35) (.const (.bool true)) (.tmp 37),some (32,true)⟩,⟨some 39,.pick (.tmp 32) (.tmp 38) (.const (.bool false)),some (25,false)⟩,⟨some 40,.move (.tmp 39),some (25,false)⟩,⟨some 41,.move (.tmp 4),some (40,true)⟩,⟨some 42,.iop .neq (.tmp 41) (.const (.int .u8 95)),some (40,true)⟩,⟨some 43,.pick (.tmp 40) (.tmp 42) (.const (.bool false)),some (25,false)⟩,⟨some 44,.pick (.tmp 25) (.const (.bool true)) (.tmp 43),some (22,true)⟩,o 45 (.pick (.tmp 22) (.tmp 44) (.const (.bool false)))]) (.cond (.tmp 45) (.seq (.region [o 2 (.move (.const (.bool false)))]) .ret) .skip)))))) (.region [o 46 (.iop .add (.tmp 8) (.const (.int .i64 1))),o 8 (.move (.tmp 46))]))))))) (.seq (.region [o 47 (.move (.tmp 0)),o 48 (.sop .neq (.tmp 47) (.const (.str []))),o 49 (.move (.tmp 48)),⟨some 50,.move (.tmp 0),some (49,true)⟩,⟨some 51,.lenStr (.tmp 50),some (49,true)⟩,⟨some 52,.iop .leq (.tmp 51) (.const (.int .i64 16)),some (49,true)⟩,o 53 (.pick (.tmp 49) (.tmp 52) (.const (.bool false))),o 2 (.move (.tmp 53))]) .ret))),[.tmp 2]⟩
def ir0 : FuncId → Option AFunc
 | 3 => some a3
 | 4 => some a4
 | 5 => some a5
 | 6 => some a6
 | 7 => some a7
 | 8 => some a8
 | 9 => some a9
 | 10 => some a10
 | 11 => some a11
 | 12 => some a12
 | 13 => some a13
 | 14 => some a14
 | 15 => some a15
 | 16 => some a16
 | 17 => some a17
 | 19 => some a19
 | 20 => some a20
 | 21 => some a21
 | 22 => some a22
 | 23 => some a23
 | 24 => some a24
 | 25 => some a25
 | 26 => some a26
 | 27 => some a27
 | 28 => some a28
 | 31 => some a31
 | 33 => some a33
 | 35 => some a35
 | 36 => some a36
 | 37 => some a37
 | 40 => some a40
 | 42 => some a42
 | 44 => some a44
 | 45 => some a45
 | 46 => some a46
 | 47 => some a47
 | 49 => some a49
 | 50 => some a50
 | 51 => some a51
 | 56 => some a56
 | _ => none
def ir1 : FuncId → Option AFunc
 | 57 => some a57
 | 63 => some a63
 | 68 => some a68
 | 70 => some a70
 | 71 => some a71
 | 72 => some a72
 | 73 => some a73
 | 83 => some a83
 | 94 => some a94
 | 105 => some a105
 | 106 => some a106
 | 108 => some a108
 | 109 => some a109
 | 110 => some a110
 | _ => none
def orF (a b : Option AFunc) : Option AFunc := match a with | some x => some x | none => b
def ir (f : FuncId) : Option AFunc := orF (ir0 f) (ir1 f)
def cfg : Cfg := ⟨ir,fun f => f,fun g => if g = 0 then some [.str [61],.str [58,61],.str [64],.str [43],.str [45],.str [42],.str [60],.str [61,60],.str [62],.str [62,61],.str [61,58,61],.str [61,92,61]] else none,fun f => match f with | 30 => some (natSF 62 32) | 38 => some natMC | _ => none⟩
end Go.Proofs.YteojknfmmbmckaaGreatDoor.Am.CU
namespace Go.Proofs.YteojknfmmbmckaaGreatDoor.Am
open Go
theorem load_cells {σ : Store} {id : Nat} {cs : List AVal} (h : σ[id]? = some (.cells cs)) (off : Nat) : loadV σ 1 false (.ptr id off) = cs[off]? := by
 simp [loadV,behind,h]
theorem get_set {σ : Store} {id : Nat} {o o' : AObj} (h : σ[id]? = some o) : (σ.set id o')[id]? = some o' := List.getElem?_set_self (List.getElem?_eq_some_iff.1 h).1
theorem Own.one {σ : Store} {sz : Nat} {v : AVal} {es : List AVal} (h : Own σ sz v es) : v.one = true := h.sl.one
theorem Own.noCell {σ : Store} {sz : Nat} {v : AVal} {es cs : List AVal} {id : Nat} (h : Own σ sz v es) (ho : σ[id]? = some (.cells cs)) : v.sid ≠ some id := by
 intro hs
 rcases h.own with ⟨rfl,_⟩ | ⟨t,rfl⟩ | ⟨id',ep,off,cap,xs,epo,fl,rfl,h1,_⟩
 ·cases hs
 ·cases hs
 ·injection hs with hs; subst hs; rw [ho] at h1; cases h1
theorem SlOf.noCell {σ : Store} {sz : Nat} {v : AVal} {es cs : List AVal} {id : Nat} (h : SlOf σ sz v es) (ho : σ[id]? = some (.cells cs)) : v.sid ≠ some id := by
 intro hs
 rcases h.cases with ⟨rfl,_⟩ | ⟨t,f,rfl⟩ | ⟨id',ep,off,cap,sz',xs,epo,fl,rfl,h1,_⟩
 ·cases hs
 ·cases hs
 ·injection hs with hs; subst hs; rw [ho] at h1; cases h1
theorem loadN_cells {σ : Store} {id : Nat} {cs : List AVal} (h : σ[id]? = some (.cells cs)) {n : Nat} (hn : cs.length = n) : loadV σ n true (.ptr id 0) = some (.agg cs) := by
 subst hn; simp [loadV,behind,h]
end Go.Proofs.YteojknfmmbmckaaGreatDoor.Am
namespace Go.Proofs.YteojknfmmbmckaaGreatDoor.Am
open Go
def condV (g : Bool) (v : AVal) : AVal := if g then v else .tuple []
theorem condV_true (v : AVal) : condV true v = v := rfl
theorem condV_false (v : AVal) : condV false v = .tuple [] := rfl
theorem condV_twice (g : Bool) (v : AVal) : condV g (condV g v) = condV g v := by cases g <;> rfl
theorem wantV_cond (b g c : Bool) : wantV b (condV g (.bool c)) = some (g && (c == b)) := by cases g <;> rfl
section
variable {cfg : Cfg} {d : Nat} {fr : List AVal} {σ : Store} {K : PostF}
def gstepP (g : Bool) (x : Option AVal) (fr : List AVal) (σ : Store) (K : List AVal → Store → AVal → Prop) (w : Wit K) : Prop := if g then stepP x fr σ K .mk else K fr σ (.tuple [])
theorem gstepP_some (g : Bool) (v : AVal) (fr : List AVal) (σ : Store) (R : List AVal → Store → AVal → Prop) (w : Wit R) : gstepP g (some v) fr σ R w = R fr σ (condV g v) := by
 cases g
 ·rfl
 ·simp only [gstepP,if_true,stepP_some,condV]
theorem gstepP_as {g : Bool} {x y : Option AVal} (h : g = true → x = y) (fr : List AVal) (σ : Store) (R : List AVal → Store → AVal → Prop) (w : Wit R) : gstepP g x fr σ R w = gstepP g y fr σ R w := by
 cases g
 ·rfl
 ·rw [h rfl]
theorem gp_of {o : Option Nat} {op : AOp} {os : List AOper} {x : Option AVal} (h : ∀ K,wpOs cfg d (⟨o,op,none⟩ :: os) fr σ K = stepP x fr σ (fun fr σ v => wpOs cfg d os (put fr o v) σ K) .mk) {g : Bool} {w : Wit (fun K => wpOs cfg d (⟨o,op,none⟩ :: os) fr σ K)} {w' : Wit (fun K => wpOs cfg d os (put fr o (.tuple [])) σ K)} {w'' : Wit K} :
  guardP (some g) (fun K => wpOs cfg d (⟨o,op,none⟩ :: os) fr σ K) (fun K => wpOs cfg d os (put fr o (.tuple [])) σ K) K w w' w'' = gstepP g x fr σ (fun fr σ v => wpOs cfg d os (put fr o v) σ K) .mk := by
 cases g
 ·rw [guardP_false]; rfl
 ·rw [guardP_true,h]; rfl
theorem gpO_move (o : Option Nat) (os : List AOper) (x : Opnd) {g : Bool} {w : Wit (fun K => wpOs cfg d (⟨o,.move x,none⟩ :: os) fr σ K)} {w1 : Wit (fun K => wpOs cfg d os (put fr o (.tuple [])) σ K)} {w2 : Wit K} : guardP (some g) (fun K => wpOs cfg d (⟨o,.move x,none⟩ :: os) fr σ K) (fun K => wpOs cfg d os (put fr o (.tuple [])) σ K) K w w1 w2 = gstepP g (some (ev cfg fr x)) fr σ (fun fr σ v => wpOs cfg d os (put fr o v) σ K) .mk :=
 gp_of fun K => wpO_move o os x
theorem gpO_pick (o : Option Nat) (os : List AOper) (c a b : Opnd) {g : Bool} {w : Wit (fun K => wpOs cfg d (⟨o,.pick c a b,none⟩ :: os) fr σ K)} {w1 : Wit (fun K => wpOs cfg d os (put fr o (.tuple [])) σ K)} {w2 : Wit K} : guardP (some g) (fun K => wpOs cfg d (⟨o,.pick c a b,none⟩ :: os) fr σ K) (fun K => wpOs cfg d os (put fr o (.tuple [])) σ K) K w w1 w2 = gstepP g (pickV (ev cfg fr c) (ev cfg fr a) (ev cfg fr b)) fr σ (fun fr σ v => wpOs cfg d os (put fr o v) σ K) .mk :=
 gp_of fun K => wpO_pick o os c a b
theorem gpO_iop (o : Option Nat) (os : List AOper) (op : BinOp) (x y : Opnd) {g : Bool} {w : Wit (fun K => wpOs cfg d (⟨o,.iop op x y,none⟩ :: os) fr σ K)} {w1 : Wit (fun K => wpOs cfg d os (put fr o (.tuple [])) σ K)} {w2 : Wit K} : guardP (some g) (fun K => wpOs cfg d (⟨o,.iop op x y,none⟩ :: os) fr σ K) (fun K => wpOs cfg d os (put fr o (.tuple [])) σ K) K w w1 w2 = gstepP g (iopV op (ev cfg fr x) (ev cfg fr y)) fr σ (fun fr σ v => wpOs cfg d os (put fr o v) σ K) .mk :=
 gp_of fun K => wpO_iop o os op x y
theorem gpO_sop (o : Option Nat) (os : List AOper) (op : BinOp) (x y : Opnd) {g : Bool} {w : Wit (fun K => wpOs cfg d (⟨o,.sop op x y,none⟩ :: os) fr σ K)} {w1 : Wit (fun K => wpOs cfg d os (put fr o (.tuple [])) σ K)} {w2 : Wit K} : guardP (some g) (fun K => wpOs cfg d (⟨o,.sop op x y,none⟩ :: os) fr σ K) (fun K => wpOs cfg d os (put fr o (.tuple [])) σ K) K w w1 w2 = gstepP g (sopV op (ev cfg fr x) (ev cfg fr y)) fr σ (fun fr σ v => wpOs cfg d os (put fr o v) σ K) .mk :=
 gp_of fun K => wpO_sop o os op x y
theorem gpO_bop (o : Option Nat) (os : List AOper) (neg : Bool) (x y : Opnd) {g : Bool} {w : Wit (fun K => wpOs cfg d (⟨o,.bop neg x y,none⟩ :: os) fr σ K)} {w1 : Wit (fun K => wpOs cfg d os (put fr o (.tuple [])) σ K)} {w2 : Wit K} : guardP (some g) (fun K => wpOs cfg d (⟨o,.bop neg x y,none⟩ :: os) fr σ K) (fun K => wpOs cfg d os (put fr o (.tuple [])) σ K) K w w1 w2 = gstepP g (bopV neg (ev cfg fr x) (ev cfg fr y)) fr σ (fun fr σ v => wpOs cfg d os (put fr o v) σ K) .mk :=
 gp_of fun K => wpO_bop o os neg x y
theorem gpO_eqs (o : Option Nat) (os : List AOper) (neg : Bool) (ks : List EK) (x y : Opnd) {g : Bool} {w : Wit (fun K => wpOs cfg d (⟨o,.eqs neg ks x y,none⟩ :: os) fr σ K)} {w1 : Wit (fun K => wpOs cfg d os (put fr o (.tuple [])) σ K)} {w2 : Wit K} : guardP (some g) (fun K => wpOs cfg d (⟨o,.eqs neg ks x y,none⟩ :: os) fr σ K) (fun K => wpOs cfg d os (put fr o (.tuple [])) σ K) K w w1 w2 = gstepP g ((eqsV ks (ev cfg fr x) (ev cfg fr y)).map fun (b : Bool) => (.bool (if neg then !b else b))) fr σ (fun fr σ v => wpOs cfg d os (put fr o v) σ K) .mk :=
 gp_of fun K => (wpO_eqs o os neg ks x y).trans (by cases eqsV ks (ev cfg fr x) (ev cfg fr y) <;> unfold stepP <;> rfl)
theorem gpO_eqnil (o : Option Nat) (os : List AOper) (neg : Bool) (k : NK) (x : Opnd) {g : Bool} {w : Wit (fun K => wpOs cfg d (⟨o,.eqnil neg k x,none⟩ :: os) fr σ K)} {w1 : Wit (fun K => wpOs cfg d os (put fr o (.tuple [])) σ K)} {w2 : Wit K} : guardP (some g) (fun K => wpOs cfg d (⟨o,.eqnil neg k x,none⟩ :: os) fr σ K) (fun K => wpOs cfg d os (put fr o (.tuple [])) σ K) K w w1 w2 = gstepP g ((isNil k (ev cfg fr x)).map fun (b : Bool) => (.bool (if neg then !b else b))) fr σ (fun fr σ v => wpOs cfg d os (put fr o v) σ K) .mk :=
 gp_of fun K => (wpO_eqnil o os neg k x).trans (by cases isNil k (ev cfg fr x) <;> unfold stepP <;> rfl)
theorem gpO_not (o : Option Nat) (os : List AOper) (x : Opnd) {g : Bool} {w : Wit (fun K => wpOs cfg d (⟨o,.not x,none⟩ :: os) fr σ K)} {w1 : Wit (fun K => wpOs cfg d os (put fr o (.tuple [])) σ K)} {w2 : Wit K} : guardP (some g) (fun K => wpOs cfg d (⟨o,.not x,none⟩ :: os) fr σ K) (fun K => wpOs cfg d os (put fr o (.tuple [])) σ K) K w w1 w2 = gstepP g (notV (ev cfg fr x)) fr σ (fun fr σ v => wpOs cfg d os (put fr o v) σ K) .mk :=
 gp_of fun K => wpO_not o os x
theorem gpO_convI (o : Option Nat) (os : List AOper) (k : IntKind) (x : Opnd) {g : Bool} {w : Wit (fun K => wpOs cfg d (⟨o,.convI k x,none⟩ :: os) fr σ K)} {w1 : Wit (fun K => wpOs cfg d os (put fr o (.tuple [])) σ K)} {w2 : Wit K} : guardP (some g) (fun K => wpOs cfg d (⟨o,.convI k x,none⟩ :: os) fr σ K) (fun K => wpOs cfg d os (put fr o (.tuple [])) σ K) K w w1 w2 = gstepP g (convV k (ev cfg fr x)) fr σ (fun fr σ v => wpOs cfg d os (put fr o v) σ K) .mk :=
 gp_of fun K => wpO_convI o os k x
theorem gpO_faddr (o : Option Nat) (os : List AOper) (off : Nat) (x : Opnd) {g : Bool} {w : Wit (fun K => wpOs cfg d (⟨o,.faddr off x,none⟩ :: os) fr σ K)} {w1 : Wit (fun K => wpOs cfg d os (put fr o (.tuple [])) σ K)} {w2 : Wit K} : guardP (some g) (fun K => wpOs cfg d (⟨o,.faddr off x,none⟩ :: os) fr σ K) (fun K => wpOs cfg d os (put fr o (.tuple [])) σ K) K w w1 w2 = gstepP g (faddrV off (ev cfg fr x)) fr σ (fun fr σ v => wpOs cfg d os (put fr o v) σ K) .mk :=
 gp_of fun K => wpO_faddr o os off x
theorem gpO_field (o : Option Nat) (os : List AOper) (off n : Nat) (agg : Bool) (x : Opnd) {g : Bool} {w : Wit (fun K => wpOs cfg d (⟨o,.field off n agg x,none⟩ :: os) fr σ K)} {w1 : Wit (fun K => wpOs cfg d os (put fr o (.tuple [])) σ K)} {w2 : Wit K} : guardP (some g) (fun K => wpOs cfg d (⟨o,.field off n agg x,none⟩ :: os) fr σ K) (fun K => wpOs cfg d os (put fr o (.tuple [])) σ K) K w w1 w2 = gstepP g (fieldV off n agg (ev cfg fr x)) fr σ (fun fr σ v => wpOs cfg d os (put fr o v) σ K) .mk :=
 gp_of fun K => wpO_field o os off n agg x
theorem gpO_iaddr (o : Option Nat) (os : List AOper) (sz : Nat) (x i : Opnd) {g : Bool} {w : Wit (fun K => wpOs cfg d (⟨o,.iaddr sz x i,none⟩ :: os) fr σ K)} {w1 : Wit (fun K => wpOs cfg d os (put fr o (.tuple [])) σ K)} {w2 : Wit K} : guardP (some g) (fun K => wpOs cfg d (⟨o,.iaddr sz x i,none⟩ :: os) fr σ K) (fun K => wpOs cfg d os (put fr o (.tuple [])) σ K) K w w1 w2 = gstepP g (iaddrV sz (ev cfg fr x) (ev cfg fr i)) fr σ (fun fr σ v => wpOs cfg d os (put fr o v) σ K) .mk :=
 gp_of fun K => wpO_iaddr o os sz x i
theorem gpO_aaddr (o : Option Nat) (os : List AOper) (len sz : Nat) (x i : Opnd) {g : Bool} {w : Wit (fun K => wpOs cfg d (⟨o,.aaddr len sz x i,none⟩ :: os) fr σ K)} {w1 : Wit (fun K => wpOs cfg d os (put fr o (.tuple [])) σ K)} {w2 : Wit K} : guardP (some g) (fun K => wpOs cfg d (⟨o,.aaddr len sz x i,none⟩ :: os) fr σ K) (fun K => wpOs cfg d os (put fr o (.tuple [])) σ K) K w w1 w2 = gstepP g (aaddrV len sz (ev cfg fr x) (ev cfg fr i)) fr σ (fun fr σ v => wpOs cfg d os (put fr o v) σ K) .mk :=
 gp_of fun K => wpO_aaddr o os len sz x i
theorem gpO_strIdx (o : Option Nat) (os : List AOper) (x i : Opnd) {g : Bool} {w : Wit (fun K => wpOs cfg d (⟨o,.strIdx x i,none⟩ :: os) fr σ K)} {w1 : Wit (fun K => wpOs cfg d os (put fr o (.tuple [])) σ K)} {w2 : Wit K} : guardP (some g) (fun K => wpOs cfg d (⟨o,.strIdx x i,none⟩ :: os) fr σ K) (fun K => wpOs cfg d os (put fr o (.tuple [])) σ K) K w w1 w2 = gstepP g (strIdxV (ev cfg fr x) (ev cfg fr i)) fr σ (fun fr σ v => wpOs cfg d os (put fr o v) σ K) .mk :=
 gp_of fun K => wpO_strIdx o os x i
theorem gpO_arrIdx (o : Option Nat) (os : List AOper) (len sz : Nat) (agg : Bool) (x i : Opnd) {g : Bool} {w : Wit (fun K => wpOs cfg d (⟨o,.arrIdx len sz agg x i,none⟩ :: os) fr σ K)} {w1 : Wit (fun K => wpOs cfg d os (put fr o (.tuple [])) σ K)} {w2 : Wit K} : guardP (some g) (fun K => wpOs cfg d (⟨o,.arrIdx len sz agg x i,none⟩ :: os) fr σ K) (fun K => wpOs cfg d os (put fr o (.tuple [])) σ K) K w w1 w2 = gstepP g (arrIdxV len sz agg (ev cfg fr x) (ev cfg fr i)) fr σ (fun fr σ v => wpOs cfg d os (put fr o v) σ K) .mk :=
 gp_of fun K => wpO_arrIdx o os len sz agg x i
theorem gpO_load (o : Option Nat) (os : List AOper) (n : Nat) (agg : Bool) (a : Opnd) {g : Bool} {w : Wit (fun K => wpOs cfg d (⟨o,.load n agg a,none⟩ :: os) fr σ K)} {w1 : Wit (fun K => wpOs cfg d os (put fr o (.tuple [])) σ K)} {w2 : Wit K} : guardP (some g) (fun K => wpOs cfg d (⟨o,.load n agg a,none⟩ :: os) fr σ K) (fun K => wpOs cfg d os (put fr o (.tuple [])) σ K) K w w1 w2 = gstepP g (loadV σ n agg (ev cfg fr a)) fr σ (fun fr σ v => wpOs cfg d os (put fr o v) σ K) .mk :=
 gp_of fun K => wpO_load o os n agg a
theorem gpO_sliceOp (o : Option Nat) (os : List AOper) (sz : Nat) (x : Opnd) (lo hi mx : Option Opnd) {g : Bool} {w : Wit (fun K => wpOs cfg d (⟨o,.sliceOp sz x lo hi mx,none⟩ :: os) fr σ K)} {w1 : Wit (fun K => wpOs cfg d os (put fr o (.tuple [])) σ K)} {w2 : Wit K} : guardP (some g) (fun K => wpOs cfg d (⟨o,.sliceOp sz x lo hi mx,none⟩ :: os) fr σ K) (fun K => wpOs cfg d os (put fr o (.tuple [])) σ K) K w w1 w2 = gstepP g (sliceV sz (ev cfg fr x) (oev cfg fr lo) (oev cfg fr hi) (oev cfg fr mx)) fr σ (fun fr σ v => wpOs cfg d os (put fr o v) σ K) .mk :=
 gp_of fun K => wpO_sliceOp o os sz x lo hi mx
theorem gpO_lenS (o : Option Nat) (os : List AOper) (x : Opnd) {g : Bool} {w : Wit (fun K => wpOs cfg d (⟨o,.lenS x,none⟩ :: os) fr σ K)} {w1 : Wit (fun K => wpOs cfg d os (put fr o (.tuple [])) σ K)} {w2 : Wit K} : guardP (some g) (fun K => wpOs cfg d (⟨o,.lenS x,none⟩ :: os) fr σ K) (fun K => wpOs cfg d os (put fr o (.tuple [])) σ K) K w w1 w2 = gstepP g ((lenSV (ev cfg fr x)).map fun (n : Nat) => (.int .i64 n)) fr σ (fun fr σ v => wpOs cfg d os (put fr o v) σ K) .mk :=
 gp_of fun K => (wpO_lenS o os x).trans (by cases lenSV (ev cfg fr x) <;> unfold stepP <;> rfl)
theorem gpO_lenStr (o : Option Nat) (os : List AOper) (x : Opnd) {g : Bool} {w : Wit (fun K => wpOs cfg d (⟨o,.lenStr x,none⟩ :: os) fr σ K)} {w1 : Wit (fun K => wpOs cfg d os (put fr o (.tuple [])) σ K)} {w2 : Wit K} : guardP (some g) (fun K => wpOs cfg d (⟨o,.lenStr x,none⟩ :: os) fr σ K) (fun K => wpOs cfg d os (put fr o (.tuple [])) σ K) K w w1 w2 = gstepP g ((lenStrV (ev cfg fr x)).map fun (n : Nat) => (.int .i64 n)) fr σ (fun fr σ v => wpOs cfg d os (put fr o v) σ K) .mk :=
 gp_of fun K => (wpO_lenStr o os x).trans (by cases lenStrV (ev cfg fr x) <;> unfold stepP <;> rfl)
theorem gs_iopV_l (g : Bool) (op : BinOp) (a b : AVal) (fr : List AVal) (σ : Store) (R : List AVal → Store → AVal → Prop) (w : Wit R) : gstepP g (iopV op (condV g a) b) fr σ R w = gstepP g (iopV op a b) fr σ R w := gstepP_as (fun h => by subst h; rfl) _ _ _ _
theorem gs_iopV_l2 (g c : Bool) (op : BinOp) (a b : AVal) (fr : List AVal) (σ : Store) (R : List AVal → Store → AVal → Prop) (w : Wit R) : gstepP (g && c) (iopV op (condV g a) b) fr σ R w = gstepP (g && c) (iopV op a b) fr σ R w := gstepP_as (fun h => by have := (Bool.and_eq_true _ _ ▸ h : g = true ∧ c = true).1; subst this; rfl) _ _ _ _
theorem gs_iopV_r (g : Bool) (op : BinOp) (a b : AVal) (fr : List AVal) (σ : Store) (R : List AVal → Store → AVal → Prop) (w : Wit R) : gstepP g (iopV op a (condV g b)) fr σ R w = gstepP g (iopV op a b) fr σ R w := gstepP_as (fun h => by subst h; rfl) _ _ _ _
theorem gs_iopV_r2 (g c : Bool) (op : BinOp) (a b : AVal) (fr : List AVal) (σ : Store) (R : List AVal → Store → AVal → Prop) (w : Wit R) : gstepP (g && c) (iopV op a (condV g b)) fr σ R w = gstepP (g && c) (iopV op a b) fr σ R w := gstepP_as (fun h => by have := (Bool.and_eq_true _ _ ▸ h : g = true ∧ c = true).1; subst this; rfl) _ _ _ _
theorem gs_sopV_l (g : Bool) (op : BinOp) (a b : AVal) (fr : List AVal) (σ : Store) (R : List AVal → Store → AVal → Prop) (w : Wit R) : gstepP g (sopV op (condV g a) b) fr σ R w = gstepP g (sopV op a b) fr σ R w := gstepP_as (fun h => by subst h; rfl) _ _ _ _
theorem gs_sopV_l2 (g c : Bool) (op : BinOp) (a b : AVal) (fr : List AVal) (σ : Store) (R : List AVal → Store → AVal → Prop) (w : Wit R) : gstepP (g && c) (sopV op (condV g a) b) fr σ R w = gstepP (g && c) (sopV op a b) fr σ R w := gstepP_as (fun h => by have := (Bool.and_eq_true _ _ ▸ h : g = true ∧ c = true).1; subst this; rfl) _ _ _ _
theorem gs_sopV_r (g : Bool) (op : BinOp) (a b : AVal) (fr : List AVal) (σ : Store) (R : List AVal → Store → AVal → Prop) (w : Wit R) : gstepP g (sopV op a (condV g b)) fr σ R w = gstepP g (sopV op a b) fr σ R w := gstepP_as (fun h => by subst h; rfl) _ _ _ _
theorem gs_sopV_r2 (g c : Bool) (op : BinOp) (a b : AVal) (fr : List AVal) (σ : Store) (R : List AVal → Store → AVal → Prop) (w : Wit R) : gstepP (g && c) (sopV op a (condV g b)) fr σ R w = gstepP (g && c) (sopV op a b) fr σ R w := gstepP_as (fun h => by have := (Bool.and_eq_true _ _ ▸ h : g = true ∧ c = true).1; subst this; rfl) _ _ _ _
theorem gs_strIdx_l (g : Bool) (a b : AVal) (fr : List AVal) (σ : Store) (R : List AVal → Store → AVal → Prop) (w : Wit R) : gstepP g (strIdxV (condV g a) b) fr σ R w = gstepP g (strIdxV a b) fr σ R w := gstepP_as (fun h => by subst h; rfl) _ _ _ _
theorem gs_strIdx_l2 (g c : Bool) (a b : AVal) (fr : List AVal) (σ : Store) (R : List AVal → Store → AVal → Prop) (w : Wit R) : gstepP (g && c) (strIdxV (condV g a) b) fr σ R w = gstepP (g && c) (strIdxV a b) fr σ R w := gstepP_as (fun h => by have := (Bool.and_eq_true _ _ ▸ h : g = true ∧ c = true).1; subst this; rfl) _ _ _ _
theorem gs_strIdx_r (g : Bool) (a b : AVal) (fr : List AVal) (σ : Store) (R : List AVal → Store → AVal → Prop) (w : Wit R) : gstepP g (strIdxV a (condV g b)) fr σ R w = gstepP g (strIdxV a b) fr σ R w := gstepP_as (fun h => by subst h; rfl) _ _ _ _
theorem gs_strIdx_r2 (g c : Bool) (a b : AVal) (fr : List AVal) (σ : Store) (R : List AVal → Store → AVal → Prop) (w : Wit R) : gstepP (g && c) (strIdxV a (condV g b)) fr σ R w = gstepP (g && c) (strIdxV a b) fr σ R w := gstepP_as (fun h => by have := (Bool.and_eq_true _ _ ▸ h : g = true ∧ c = true).1; subst this; rfl) _ _ _ _
theorem gs_iaddr_l (g : Bool) (sz : Nat) (a b : AVal) (fr : List AVal) (σ : Store) (R : List AVal → Store → AVal → Prop) (w : Wit R) : gstepP g (iaddrV sz (condV g a) b) fr σ R w = gstepP g (iaddrV sz a b) fr σ R w := gstepP_as (fun h => by subst h; rfl) _ _ _ _
theorem gs_iaddr_l2 (g c : Bool) (sz : Nat) (a b : AVal) (fr : List AVal) (σ : Store) (R : List AVal → Store → AVal → Prop) (w : Wit R) : gstepP (g && c) (iaddrV sz (condV g a) b) fr σ R w = gstepP (g && c) (iaddrV sz a b) fr σ R w := gstepP_as (fun h => by have := (Bool.and_eq_true _ _ ▸ h : g = true ∧ c = true).1; subst this; rfl) _ _ _ _
theorem gs_iaddr_r (g : Bool) (sz : Nat) (a b : AVal) (fr : List AVal) (σ : Store) (R : List AVal → Store → AVal → Prop) (w : Wit R) : gstepP g (iaddrV sz a (condV g b)) fr σ R w = gstepP g (iaddrV sz a b) fr σ R w := gstepP_as (fun h => by subst h; rfl) _ _ _ _
theorem gs_iaddr_r2 (g c : Bool) (sz : Nat) (a b : AVal) (fr : List AVal) (σ : Store) (R : List AVal → Store → AVal → Prop) (w : Wit R) : gstepP (g && c) (iaddrV sz a (condV g b)) fr σ R w = gstepP (g && c) (iaddrV sz a b) fr σ R w := gstepP_as (fun h => by have := (Bool.and_eq_true _ _ ▸ h : g = true ∧ c = true).1; subst this; rfl) _ _ _ _
theorem gs_load (g : Bool) (τ : Store) (n : Nat) (agg : Bool) (a : AVal) (fr : List AVal) (σ : Store) (R : List AVal → Store → AVal → Prop) (w : Wit R) : gstepP g (loadV τ n agg (condV g a)) fr σ R w = gstepP g (loadV τ n agg a) fr σ R w := gstepP_as (fun h => by subst h; rfl) _ _ _ _
theorem gs_load2 (g c : Bool) (τ : Store) (n : Nat) (agg : Bool) (a : AVal) (fr : List AVal) (σ : Store) (R : List AVal → Store → AVal → Prop) (w : Wit R) : gstepP (g && c) (loadV τ n agg (condV g a)) fr σ R w = gstepP (g && c) (loadV τ n agg a) fr σ R w := gstepP_as (fun h => by have := (Bool.and_eq_true _ _ ▸ h : g = true ∧ c = true).1; subst this; rfl) _ _ _ _
theorem gs_faddr (g : Bool) (k : Nat) (a : AVal) (fr : List AVal) (σ : Store) (R : List AVal → Store → AVal → Prop) (w : Wit R) : gstepP g (faddrV k (condV g a)) fr σ R w = gstepP g (faddrV k a) fr σ R w := gstepP_as (fun h => by subst h; rfl) _ _ _ _
theorem gs_faddr2 (g c : Bool) (k : Nat) (a : AVal) (fr : List AVal) (σ : Store) (R : List AVal → Store → AVal → Prop) (w : Wit R) : gstepP (g && c) (faddrV k (condV g a)) fr σ R w = gstepP (g && c) (faddrV k a) fr σ R w := gstepP_as (fun h => by have := (Bool.and_eq_true _ _ ▸ h : g = true ∧ c = true).1; subst this; rfl) _ _ _ _
theorem gs_field (g : Bool) (k n : Nat) (agg : Bool) (a : AVal) (fr : List AVal) (σ : Store) (R : List AVal → Store → AVal → Prop) (w : Wit R) : gstepP g (fieldV k n agg (condV g a)) fr σ R w = gstepP g (fieldV k n agg a) fr σ R w := gstepP_as (fun h => by subst h; rfl) _ _ _ _
theorem gs_field2 (g c : Bool) (k n : Nat) (agg : Bool) (a : AVal) (fr : List AVal) (σ : Store) (R : List AVal → Store → AVal → Prop) (w : Wit R) : gstepP (g && c) (fieldV k n agg (condV g a)) fr σ R w = gstepP (g && c) (fieldV k n agg a) fr σ R w := gstepP_as (fun h => by have := (Bool.and_eq_true _ _ ▸ h : g = true ∧ c = true).1; subst this; rfl) _ _ _ _
theorem gs_conv (g : Bool) (k : IntKind) (a : AVal) (fr : List AVal) (σ : Store) (R : List AVal → Store → AVal → Prop) (w : Wit R) : gstepP g (convV k (condV g a)) fr σ R w = gstepP g (convV k a) fr σ R w := gstepP_as (fun h => by subst h; rfl) _ _ _ _
theorem gs_conv2 (g c : Bool) (k : IntKind) (a : AVal) (fr : List AVal) (σ : Store) (R : List AVal → Store → AVal → Prop) (w : Wit R) : gstepP (g && c) (convV k (condV g a)) fr σ R w = gstepP (g && c) (convV k a) fr σ R w := gstepP_as (fun h => by have := (Bool.and_eq_true _ _ ▸ h : g = true ∧ c = true).1; subst this; rfl) _ _ _ _
theorem gs_not (g : Bool) (a : AVal) (fr : List AVal) (σ : Store) (R : List AVal → Store → AVal → Prop) (w : Wit R) : gstepP g (notV (condV g a)) fr σ R w = gstepP g (notV a) fr σ R w := gstepP_as (fun h => by subst h; rfl) _ _ _ _
theorem gs_not2 (g c : Bool) (a : AVal) (fr : List AVal) (σ : Store) (R : List AVal → Store → AVal → Prop) (w : Wit R) : gstepP (g && c) (notV (condV g a)) fr σ R w = gstepP (g && c) (notV a) fr σ R w := gstepP_as (fun h => by have := (Bool.and_eq_true _ _ ▸ h : g = true ∧ c = true).1; subst this; rfl) _ _ _ _
theorem gs_pick_c (g : Bool) (c0 a b : AVal) (fr : List AVal) (σ : Store) (R : List AVal → Store → AVal → Prop) (w : Wit R) : gstepP g (pickV (condV g c0) a b) fr σ R w = gstepP g (pickV c0 a b) fr σ R w := gstepP_as (fun h => by subst h; rfl) _ _ _ _
theorem gs_pick_c2 (g c : Bool) (c0 a b : AVal) (fr : List AVal) (σ : Store) (R : List AVal → Store → AVal → Prop) (w : Wit R) : gstepP (g && c) (pickV (condV g c0) a b) fr σ R w = gstepP (g && c) (pickV c0 a b) fr σ R w := gstepP_as (fun h => by have := (Bool.and_eq_true _ _ ▸ h : g = true ∧ c = true).1; subst this; rfl) _ _ _ _
theorem gs_lenStr (g : Bool) (a : AVal) (f : Nat → AVal) (fr : List AVal) (σ : Store) (R : List AVal → Store → AVal → Prop) (w : Wit R) : gstepP g ((lenStrV (condV g a)).map f) fr σ R w = gstepP g ((lenStrV a).map f) fr σ R w := gstepP_as (fun h => by subst h; rfl) _ _ _ _
theorem gs_lenStr2 (g c : Bool) (a : AVal) (f : Nat → AVal) (fr : List AVal) (σ : Store) (R : List AVal → Store → AVal → Prop) (w : Wit R) : gstepP (g && c) ((lenStrV (condV g a)).map f) fr σ R w = gstepP (g && c) ((lenStrV a).map f) fr σ R w := gstepP_as (fun h => by have := (Bool.and_eq_true _ _ ▸ h : g = true ∧ c = true).1; subst this; rfl) _ _ _ _
theorem gs_lenS (g : Bool) (a : AVal) (f : Nat → AVal) (fr : List AVal) (σ : Store) (R : List AVal → Store → AVal → Prop) (w : Wit R) : gstepP g ((lenSV (condV g a)).map f) fr σ R w = gstepP g ((lenSV a).map f) fr σ R w := gstepP_as (fun h => by subst h; rfl) _ _ _ _
theorem gs_lenS2 (g c : Bool) (a : AVal) (f : Nat → AVal) (fr : List AVal) (σ : Store) (R : List AVal → Store → AVal → Prop) (w : Wit R) : gstepP (g && c) ((lenSV (condV g a)).map f) fr σ R w = gstepP (g && c) ((lenSV a).map f) fr σ R w := gstepP_as (fun h => by have := (Bool.and_eq_true _ _ ▸ h : g = true ∧ c = true).1; subst this; rfl) _ _ _ _
theorem gstepP_false (x : Option AVal) (fr : List AVal) (σ : Store) (R : List AVal → Store → AVal → Prop) (w : Wit R) : gstepP false x fr σ R w = R fr σ (.tuple []) := rfl
theorem gstepP_true (x : Option AVal) (fr : List AVal) (σ : Store) (R : List AVal → Store → AVal → Prop) (w : Wit R) : gstepP true x fr σ R w = stepP x fr σ R .mk := rfl
theorem omap_some {α : Type} (f : α → AVal) (a : α) : (some a).map f = some (f a) := rfl
theorem pickV_or (t y : Bool) : pickV (.bool t) (.bool true) (condV (t == false) (.bool y)) = some (.bool (t || y)) := by cases t <;> rfl
theorem pickV_and (t y : Bool) : pickV (.bool t) (condV (t == true) (.bool y)) (.bool false) = some (.bool (t && y)) := by cases t <;> rfl
theorem gs_pick_or (g t y : Bool) (fr : List AVal) (σ : Store) (R : List AVal → Store → AVal → Prop) (w : Wit R) : gstepP g (pickV (.bool t) (.bool true) (condV (g && (t == false)) (.bool y))) fr σ R w = R fr σ (condV g (.bool (t || y))) := by
 cases g
 ·rfl
 ·cases t <;> simp only [gstepP,if_true,pickV_bool,stepP_some,condV,Bool.true_and,beq_self_eq_true,bq_tf,bq_ft,Bool.false_eq_true,if_false,Bool.true_or,Bool.false_or]
theorem gs_pick_and (g t y : Bool) (fr : List AVal) (σ : Store) (R : List AVal → Store → AVal → Prop) (w : Wit R) : gstepP g (pickV (.bool t) (condV (g && (t == true)) (.bool y)) (.bool false)) fr σ R w = R fr σ (condV g (.bool (t && y))) := by
 cases g
 ·rfl
 ·cases t <;> simp only [gstepP,if_true,pickV_bool,stepP_some,condV,Bool.true_and,beq_self_eq_true,bq_tf,bq_ft,Bool.false_eq_true,if_false,Bool.true_and,Bool.false_and]
theorem ite_and (t y : Bool) : (if t = true then condV (t == true) (.bool y) else AVal.bool false) = .bool (t && y) := by cases t <;> rfl
theorem ite_or (t y : Bool) : (if t = true then AVal.bool true else condV (t == false) (.bool y)) = .bool (t || y) := by cases t <;> rfl
theorem ite_gand (g t y : Bool) : condV g (if t = true then condV (g && (t == true)) (.bool y) else AVal.bool false) = condV g (.bool (t && y)) := by cases g <;> cases t <;> rfl
theorem ite_gor (g t y : Bool) : condV g (if t = true then AVal.bool true else condV (g && (t == false)) (.bool y)) = condV g (.bool (t || y)) := by cases g <;> cases t <;> rfl
end
attribute [irreducible] gstepP condV
theorem WPm : type_of% (And.intro (And.intro (And.intro (And.intro (And.intro (And.intro @gpO_move @gpO_pick) (And.intro @gpO_iop @gpO_sop)) (And.intro (And.intro @gpO_bop @gpO_eqs) (And.intro @gpO_eqnil @gpO_not))) (And.intro (And.intro (And.intro @gpO_convI @gpO_faddr) (And.intro @gpO_field @gpO_iaddr)) (And.intro (And.intro @gpO_aaddr @gpO_strIdx) (And.intro @gpO_arrIdx @gpO_load)))) (And.intro (And.intro (And.intro (And.intro @gpO_sliceOp @gpO_lenS) (And.intro @gpO_lenStr @gs_iopV_l)) (And.intro (And.intro @gs_iopV_l2 @gs_iopV_r) (And.intro @gs_iopV_r2 @gs_sopV_l))) (And.intro (And.intro (And.intro @gs_sopV_l2 @gs_sopV_r) (And.intro @gs_sopV_r2 @gs_strIdx_l)) (And.intro (And.intro @gs_strIdx_l2 @gs_strIdx_r) (And.intro @gs_strIdx_r2 (And.intro @gs_iaddr_l @gs_iaddr_l2)))))) (And.intro (And.intro (And.intro (And.intro (And.intro @gs_iaddr_r @gs_iaddr_r2) (And.intro @gs_load @gs_load2)) (And.intro (And.intro @gs_faddr @gs_faddr2) (And.intro @gs_field @gs_field2))) (And.intro (And.intro (And.intro @gs_conv @gs_conv2) (And.intro @gs_not @gs_not2)) (And.intro (And.intro @gs_pick_c @gs_pick_c2) (And.intro @gs_lenStr (And.intro @gs_lenStr2 @gs_lenS))))) (And.intro (And.intro (And.intro (And.intro @gs_lenS2 @gstepP_false) (And.intro @gstepP_true @omap_some)) (And.intro (And.intro @gs_pick_or @gs_pick_and) (And.intro @pickV_or @pickV_and))) (And.intro (And.intro (And.intro @ite_and @ite_or) (And.intro @ite_gand @ite_gor)) (And.intro (And.intro @gstepP_some @condV_true) (And.intro @condV_false (And.intro @condV_twice @wantV_cond))))))) := (And.intro (And.intro (And.intro (And.intro (And.intro (And.intro @gpO_move @gpO_pick) (And.intro @gpO_iop @gpO_sop)) (And.intro (And.intro @gpO_bop @gpO_eqs) (And.intro @gpO_eqnil @gpO_not))) (And.intro (And.intro (And.intro @gpO_convI @gpO_faddr) (And.intro @gpO_field @gpO_iaddr)) (And.intro (And.intro @gpO_aaddr @gpO_strIdx) (And.intro @gpO_arrIdx @gpO_load)))) (And.intro (And.intro (And.intro (And.intro @gpO_sliceOp @gpO_lenS) (And.intro @gpO_lenStr @gs_iopV_l)) (And.intro (And.intro @gs_iopV_l2 @gs_iopV_r) (And.intro @gs_iopV_r2 @gs_sopV_l))) (And.intro (And.intro (And.intro @gs_sopV_l2 @gs_sopV_r) (And.intro @gs_sopV_r2 @gs_strIdx_l)) (And.intro (And.intro @gs_strIdx_l2 @gs_strIdx_r) (And.intro @gs_strIdx_r2 (And.intro @gs_iaddr_l @gs_iaddr_l2)))))) (And.intro (And.intro (And.intro (And.intro (And.intro @gs_iaddr_r @gs_iaddr_r2) (And.intro @gs_load @gs_load2)) (And.intro (And.intro @gs_faddr @gs_faddr2) (And.intro @gs_field @gs_field2))) (And.intro (And.intro (And.intro @gs_conv @gs_conv2) (And.intro @gs_not @gs_not2)) (And.intro (And.intro @gs_pick_c @gs_pick_c2) (And.intro @gs_lenStr (And.intro @gs_lenStr2 @gs_lenS))))) (And.intro (And.intro (And.intro (And.intro @gs_lenS2 @gstepP_false) (And.intro @gstepP_true @omap_some)) (And.intro (And.intro @gs_pick_or @gs_pick_and) (And.intro @pickV_or @pickV_and))) (And.intro (And.intro (And.intro @ite_and @ite_or) (And.intro @ite_gand @ite_gor)) (And.intro (And.intro @gstepP_some @condV_true) (And.intro @condV_false (And.intro @condV_twice @wantV_cond)))))))
end Go.Proofs.YteojknfmmbmckaaGreatDoor.Am
namespace Go.Proofs.YteojknfmmbmckaaGreatDoor.Am
open Go
section
variable (d : Nat) (σ : Store)
end
theorem Cel.one (c : Cel) : c.cs.all AVal.one = true := rfl
theorem Cel.cells (c : Cel) : c.val.cells = c.cs := rfl
theorem Cel.g0 (c : Cel) : c.cs[0]? = some (.int .u8 c.k) := rfl
theorem Cel.g1 (c : Cel) : c.cs[1]? = some (.str c.s) := rfl
theorem Cel.g2 (c : Cel) : c.cs[2]? = some (.int .i64 c.n) := rfl
theorem Cel.g3 (c : Cel) : c.cs[3]? = some (.int .i64 c.v.1) := rfl
theorem Cel.g4 (c : Cel) : c.cs[4]? = some (.int .i64 c.v.2) := rfl
theorem Cel.eqs (a b : Cel) : eqsV [.i,.s,.i,.i,.i] a.val b.val = some (decide (a = b)) := by
 obtain ⟨k,s,n,v,w⟩ := a
 obtain ⟨k',s',n',v',w'⟩ := b
 simp [eqsV,cellsEq,Cel.val,Cel.cs]
 rw [Bool.eq_iff_iff]
 simp
 omega
section
variable (d : Nat) (σ : Store)
end
section
variable (d : Nat) (σ : Store)
end
section
variable (d : Nat) (σ : Store)
end
section
variable (d : Nat) (σ : Store)
end
section
variable (d : Nat) (σ : Store)
def isT (t : List Cel) (s : List UInt8) (n : Int) : Bool := match t with
 | [] => false
 | c :: _ => decide (c.s = s) && ((decide (c.k = 3) && decide (c.n = n)) || (decide (n = 0) && decide (c.k = 2)))
end
theorem faddr_at {σ : Store} {p : AVal} {cs : List AVal} {off : Nat} (h : behind σ p = some (cs,off)) (o : Nat) : ∃ q,faddrV o p = some q ∧ behind σ q = some (cs,off + o) := by
 cases p with
 | ptr i k =>
  simp only [behind] at h
  split at h
  ·rename_i cs' ho
   injection h with h; injection h with h1 h2; subst h1; subst h2
   exact ⟨.ptr i (k + o),rfl,by simp only [behind,ho]⟩
  ·cases h
 | eptr i ep j k =>
  simp only [behind] at h
  split at h
  ·rename_i sz es epo fl ho
   split at h
   ·rename_i hf
    rw [Option.map_eq_some_iff] at h
    obtain ⟨e,he,h⟩ := h
    injection h with h1 h2; subst h1; subst h2
    exact ⟨.eptr i ep j (k + o),rfl,by simp only [behind,ho,if_pos hf,he,Option.map_some]⟩
   ·cases h
  ·cases h
 | fptr t cs' k =>
  simp only [behind,Option.some.injEq,Prod.mk.injEq] at h
  obtain ⟨rfl,rfl⟩ := h
  exact ⟨.fptr t cs' (k + o),rfl,by simp [behind]⟩
 | _ => simp [behind] at h
theorem load_at {σ : Store} {q : AVal} {cs : List AVal} {off : Nat} (h : behind σ q = some (cs,off)) : loadV σ 1 false q = cs[off]? := by simp only [loadV,h]; rfl
theorem loadN_at {σ : Store} {q : AVal} {cs : List AVal} {off : Nat} (h : behind σ q = some (cs,off)) {n : Nat} (hn : off + n ≤ cs.length) : loadV σ n true q = some (.agg ((cs.drop off).take n)) := by
 simp only [loadV,h,ld,if_true,hn]
theorem nm_eqs (a b : Nm) : eqsV [.i,.i] (nmV a) (nmV b) = some (decide (a = b)) := by
 obtain ⟨a1,a2⟩ := a; obtain ⟨b1,b2⟩ := b
 simp only [nmV,eqsV,cellsEq,cellEq,if_true,Bool.and_true]
 congr 1
 rw [Bool.eq_iff_iff]
 simp [Prod.ext_iff]
theorem nm_keyEq (a b : Nm) : keyEq true [.i,.i] (nmV a) (nmV b) = some (decide (a = b)) := nm_eqs a b
theorem find_nm (v : Nm) : ∀ (H : Hp),∃ o : Option Nat,findK true [.i,.i] (nmV v) (H.map fun p => nmV p.1) = some o ∧ (match o with | some i => ∃ p,H[i]? = some p ∧ p.1 = v ∧ lk H v = some p.2 | none => lk H v = none)
 | [] => ⟨none,rfl,rfl⟩
 | p :: r => by
  obtain ⟨o,h1,h2⟩ := find_nm v r
  by_cases e : v = p.1
  ·refine ⟨some 0,?_,p,rfl,e.symm,?_⟩
   ·simp only [List.map_cons,findK,nm_keyEq,decide_eq_true e]
   ·simp [lk,e]
  ·have hk : lk (p :: r) v = lk r v := by simp only [lk]; rw [if_neg fun h => e h.symm]
   refine ⟨o.map (· + 1),?_,?_⟩
   ·simp only [List.map_cons,findK,nm_keyEq,decide_eq_false e,h1]
    cases o <;> rfl
   ·cases o with
    | none => simp only [Option.map_none]; rw [hk]; exact h2
    | some i =>
     obtain ⟨q,q1,q2,q3⟩ := h2
     simp only [Option.map_some]
     exact ⟨q,by simpa using q1,q2,by rw [hk]; exact q3⟩
abbrev Told (u : AVal) (t : List Cel) : Prop := ∀ σ' : Store,SlOf σ' 5 u (CC t)
theorem Told.nil : Told .nilslice [] := fun σ' => SlOf.nil σ' 5
structure HeapP (σ : Store) (id mid : Nat) (vs : List AVal) (H : Hp) : Prop where
 obj : σ[id]? = some (.cells [.map mid])
 map : σ[mid]? = some (.map (H.map fun p => nmV p.1) vs)
 vals : Two (fun u p => Told u p.2) vs H
 wf : WF H
theorem HeapP.keeps {σ σ' : Store} {id mid : Nat} {vs : List AVal} {H : Hp} (h : HeapP σ id mid vs H) {M : Nat → Prop} (hk : Keeps M σ σ') (h1 : ¬ M id) (h2 : ¬ M mid) : HeapP σ' id mid vs H :=
 ⟨hk.get h.obj h1,hk.get h.map h2,h.vals,h.wf⟩
theorem HeapP.grow {σ σ' : Store} {id mid : Nat} {vs : List AVal} {H : Hp} (h : HeapP σ id mid vs H) (hk : Grows σ σ') : HeapP σ' id mid vs H := h.keeps hk (fun h => h) (fun h => h)
theorem HeapP.set {σ : Store} {id mid : Nat} {vs : List AVal} {H : Hp} (h : HeapP σ id mid vs H) {v : Nm} {u : AVal} {t : List Cel} (hl : lk H v = none) (hu : Told u t) (hok : okB (v,t)) :
  ∃ σ',mapsetV σ true [.i,.i] (.map mid) (nmV v) u = some σ' ∧ HeapP σ' id mid (vs ++ [u]) (H ++ [(v,t)]) ∧ Keeps (fun i => i = mid) σ σ' := by
 obtain ⟨o,h1,h2⟩ := find_nm v H
 have hk : keyEq true [.i,.i] (nmV v) (nmV v) = some true := by rw [nm_keyEq,decide_eq_true rfl]
 have hf : findKK true [.i,.i] (nmV v) (H.map fun p => nmV p.1) = some o := by simp only [findKK,hk,Option.isSome_some,if_true,h1]
 have hmo := h.map
 have ho : o = none := by
  cases o with
  | none => rfl
  | some i => obtain ⟨p,_,_,p3⟩ := h2; rw [hl] at p3; cases p3
 subst ho
 have hne : id ≠ mid := fun e => by have h1 := h.obj; rw [e,h.map] at h1; cases h1
 refine ⟨σ.set mid (.map ((H.map fun p => nmV p.1) ++ [nmV v]) (vs ++ [u])),by simp only [mapsetV,hmo,hf],⟨?_,?_,h.vals.push hu,?_⟩,Keeps.set _ _ _⟩
 ·rw [List.getElem?_set_ne (fun e => hne e.symm)]; exact h.obj
 ·rw [get_set h.map]; simp
 ·have := h.wf.bind v t
  rwa [bindH,if_pos (bindE_of hok hl)] at this
def HeapV (σ : Store) (hv : AVal) (H : Hp) : Prop := (hv = .nilptr ∧ H = []) ∨ ∃ id mid vs,hv = .ptr id 0 ∧ HeapP σ id mid vs H
theorem HeapV.wf {σ : Store} {hv : AVal} {H : Hp} (h : HeapV σ hv H) : WF H := by
 rcases h with ⟨_,rfl⟩ | ⟨_,_,_,_,h⟩
 ·exact WF.nil
 ·exact h.wf
theorem HeapV.grow {σ σ' : Store} {hv : AVal} {H : Hp} (h : HeapV σ hv H) (g : Grows σ σ') : HeapV σ' hv H := by
 rcases h with h | ⟨id,mid,vs,e,h⟩
 ·exact .inl h
 ·exact .inr ⟨id,mid,vs,e,h.grow g⟩
theorem HeapP.v {σ : Store} {id mid : Nat} {vs : List AVal} {H : Hp} (h : HeapP σ id mid vs H) : HeapV σ (.ptr id 0) H := .inr ⟨id,mid,vs,rfl,h⟩
section
variable (d : Nat) (σ : Store)
end
def Small (t : List Cel) : Prop := t.length < 2 ^ 30 ∧ ∀ c ∈ t,c.k < 256 ∧ c.s.length < 2 ^ 40
section
variable (d : Nat) (σ : Store)
end
theorem Told.lit (tg : Nat) (full : Bool) (t : List Cel) : Told (.fslice tg full 5 (CC t)) t := fun σ' => SlOf.fs _ _ _ _ _
section
variable (d : Nat) (σ : Store)
end
def bdV (v : Nm) (u : AVal) : AVal := .agg [.int .i64 v.1,.int .i64 v.2,u]
def bdC (v : Nm) (u : AVal) : List AVal := [.int .i64 v.1,.int .i64 v.2,u]
def BdRel (σ : Store) (A : Nat → Prop) (e : AVal) (p : Nm × List Cel) : Prop := ∃ u,e = bdV p.1 u ∧ SlOf σ 5 u (CC p.2) ∧ ∀ i,u.sid = some i → A i
theorem BdRel.keeps {σ σ' : Store} {A B M : Nat → Prop} {e : AVal} {p : Nm × List Cel} (h : BdRel σ A e p) (hk : Keeps M σ σ') (ha : ∀ i,i < σ.length → A i → B i ∧ ¬ M i) : BdRel σ' B e p := by
 obtain ⟨u,h1,h2,h3⟩ := h
 exact ⟨u,h1,h2.keeps hk fun i hi => (ha i (h2.lt hi) (h3 i hi)).2,fun i hi => (ha i (h2.lt hi) (h3 i hi)).1⟩
def RefP (σ : Store) (A : Nat → Prop) (id : Nat) (R : Hp) : Prop := ∃ w es,σ[id]? = some (.cells [w]) ∧ SlOf σ 3 w es ∧ (∀ i,w.sid = some i → A i) ∧ Two (BdRel σ A) es R
theorem RefP.keeps {σ σ' : Store} {A B M : Nat → Prop} {id : Nat} {R : Hp} (h : RefP σ A id R) (hk : Keeps M σ σ') (hi : ¬ M id) (ha : ∀ i,i < σ.length → A i → B i ∧ ¬ M i) : RefP σ' B id R := by
 obtain ⟨w,es,h1,h2,h3,h4⟩ := h
 exact ⟨w,es,hk.get h1 hi,h2.keeps hk fun i hw => (ha i (h2.lt hw) (h3 i hw)).2,fun i hw => (ha i (h2.lt hw) (h3 i hw)).1,h4.mono fun e p he => he.keeps hk ha⟩
theorem RefP.grow {σ σ' : Store} {A : Nat → Prop} {id : Nat} {R : Hp} (h : RefP σ A id R) (g : Grows σ σ') : RefP σ' A id R := h.keeps g (fun h => h) fun i _ a => ⟨a,fun h => h⟩
def RefV (σ : Store) (rv : AVal) (R : Hp) : Prop := (rv = .nilptr ∧ R = []) ∨ ∃ id A,rv = .ptr id 0 ∧ RefP σ A id R
theorem RefV.grow {σ σ' : Store} {rv : AVal} {R : Hp} (h : RefV σ rv R) (g : Grows σ σ') : RefV σ' rv R := by
 rcases h with h | ⟨id,A,e,h⟩
 ·exact .inl h
 ·exact .inr ⟨id,A,e,h.grow g⟩
theorem RefP.v {σ : Store} {A : Nat → Prop} {id : Nat} {R : Hp} (h : RefP σ A id R) : RefV σ (.ptr id 0) R := .inr ⟨id,A,rfl,h⟩
section
variable (d : Nat) (σ : Store)
end
section
variable (d : Nat) (σ : Store)
end
def Terms (σ : Store) (l : AVal) (ts : List (List Cel)) : Prop := ∃ es,SlOf σ 1 l es ∧ Two (fun e t => SlOf σ 5 e (CC t)) es ts
theorem Terms.grow {σ σ' : Store} {l : AVal} {ts : List (List Cel)} (h : Terms σ l ts) (g : Grows σ σ') : Terms σ' l ts := by
 obtain ⟨es,h1,h2⟩ := h
 exact ⟨es,h1.grow g,h2.mono fun e t he => he.grow g⟩
theorem Terms.len {σ : Store} {l : AVal} {ts : List (List Cel)} (h : Terms σ l ts) : lenSV l = some ts.length := by
 obtain ⟨es,h1,h2⟩ := h
 rw [← h2.len]; exact h1.len
theorem Terms.at {σ : Store} {l : AVal} {ts : List (List Cel)} (h : Terms σ l ts) {i : Nat} (hi : i < ts.length) : ∃ e,iaddrV 1 l (.int .i64 i) = some (addrOf 1 l i) ∧ loadV σ 1 false (addrOf 1 l i) = some e ∧ SlOf σ 5 e (CC ts[i]) := by
 obtain ⟨es,h1,h2⟩ := h
 have hl : i < es.length := by rw [h2.len]; exact hi
 obtain ⟨e,e1,e2⟩ := h2.get hi
 have he : es[i] = e := by rw [List.getElem?_eq_getElem hl] at e1; exact Option.some.inj e1
 have := h1.load1 hl (by rw [he]; exact e2.one) 1
 rw [he] at this
 exact ⟨e,h1.iaddr hl .i64,this,e2⟩
theorem Terms.nil (σ : Store) : Terms σ .nilslice [] := ⟨[],SlOf.nil _ _,.nil⟩
section
variable (d : Nat) (σ : Store)
end
theorem CC_len (l : List Cel) : (CC l).length = l.length := by simp
def mkC (n : Int) : Cel := ⟨0,[],n,(0,0)⟩
def cmarks : List Cel := (List.range 9).map fun j : Nat => mkC (-700 - (j : Int))
structure HandedC (σ : Store) (v : AVal) (x : List Cel) (id : Nat) : Prop where
 val : v = .slice 5 id 0 0 x.length (some (x.length + 9))
 obj : σ[id]? = some (.arr 5 (CC (x ++ cmarks)) 0 0)
theorem HandedC.sl {σ : Store} {v : AVal} {x : List Cel} {id : Nat} (h : HandedC σ v x id) : SlOf σ 5 v (CC x) := by
 obtain ⟨rfl,ho⟩ := h
 refine ⟨?_,by simp [lenSV,CC_len],fun s id' ep off len c hc => ?_⟩
 ·simp [elems,ho]
 ·injection hc with _ _ _ _ e5 e6; injection e6 with e6; omega
theorem HandedC.keep {σ σ' : Store} {v : AVal} {x : List Cel} {id : Nat} (h : HandedC σ v x id) {M : Nat → Prop} (hk : Keeps M σ σ') (hm : ¬ M id) : HandedC σ' v x id := ⟨h.val,hk.get h.obj hm⟩
section
variable (d : Nat) (σ : Store)
end
def sCel (s : List UInt8) (n : Nat) : Cel := ⟨3,s,n,(0,0)⟩
def makeE (s : List UInt8) (ts : List (List Cel)) : Int := if !(sCel s ts.length).ok || ts.any (fun t => !right t) then 6 else if 256 < 1 + ts.flatten.length then 5 else 0
def makeT (s : List UInt8) (ts : List (List Cel)) : List Cel := if makeE s ts = 0 then sCel s ts.length :: ts.flatten else []
section
variable (d : Nat) (σ : Store)
end
section
variable (d : Nat) (σ : Store)
end
section
variable (d : Nat) (σ : Store)
end
def isEqT (t : List Cel) : Bool := right t && isT t [61] 2
def EqR (σ σ' : Store) (t : List Cel) (a b : AVal) : Prop := Grows σ σ' ∧ match isEqT t with
 | true => ∃ x y,args t = [x,y] ∧ Own σ' 5 a (CC x) ∧ Own σ' 5 b (CC y) ∧ Fresh σ.length a ∧ Fresh σ.length b ∧ NoLit a ∧ NoLit b ∧ ∀ j,a.sid = some j → b.sid ≠ some j
 | false => a = .nilslice ∧ b = .nilslice
section
variable (d : Nat) (σ : Store)
end
theorem ORows.cell {σ σ' : Store} {lo sz : Nat} {l : AVal} {es : List AVal} {ps : List (List AVal)} {id : Nat} {cs : List AVal} (h : ORows σ lo sz l es ps) (ho : σ[id]? = some (.cells cs)) (hk : Keeps (fun i => i = id) σ σ') : ORows σ' lo sz l es ps :=
 ⟨h.row.keeps hk fun i hi e => h.row.noCell ho (by rw [← e]; exact hi),h.len,fun i e p h1 h2 => (h.one i e p h1 h2).keeps hk fun j hj e' => (h.one i e p h1 h2).noCell ho (by rw [← e']; exact hj),h.frs,h.frl,h.apart,h.off,h.lit,h.litl⟩
section
variable (d : Nat) (σ : Store)
end
section
variable (d : Nat) (σ : Store)
end
end Go.Proofs.YteojknfmmbmckaaGreatDoor.Am
