/-
  The abstract machine and the functions of the law, 8: texts put together.
-/
import Derived.Test.YtelpjaejmneplaaGreatDoorReachPathsPkF
import Derived.Test.YtelpjaejmneplaaGreatDoorReachPathsPkG
import Derived.Test.YtelpjaejmneplaaGreatDoorReachPathsPkC
import Derived.Test.YtelpjaejmneplaaGreatDoorReachPathsPkB
set_option linter.unusedVariables false
set_option linter.unusedSimpArgs false
set_option linter.unusedSectionVars false
set_option maxRecDepth 100000
namespace Go.Proofs.YtelpjaejmneplaaGreatDoor.Am
open Go
theorem BRows.keeps {σ σ' : Store} {M : Nat → Prop} {lo : Nat} {l : AVal} {us : List AVal} {R : Hp} (h : BRows σ lo l us R) (g : Keeps M σ σ') (hm : ∀ i,i < σ.length → lo ≤ i → ¬ M i) : BRows σ' lo l us R := XRows.keeps h g hm
theorem Told.at {u : AVal} {t : List Cel} (h : Told u t) (σ : Store) : SlOf σ 5 u (CC t) := h σ
theorem XRows.at {σ : Store} {lo sz : Nat} {l : AVal} {es : List AVal} {ps : List (List AVal)} (h : XRows σ lo 1 sz l es es ps) {i : Nat} (hi : i < ps.length) :
  ∃ e,es[i]? = some e ∧ iaddrV 1 l (.int .i64 i) = some (addrOf 1 l i) ∧ loadV σ 1 false (addrOf 1 l i) = some e ∧ Own σ sz e ps[i] ∧ NoLit e := by
 have hi' : i < es.length := by rw [h.len]; exact hi
 have o := h.one i es[i] ps[i] (List.getElem?_eq_getElem hi') (List.getElem?_eq_getElem hi)
 exact ⟨es[i],List.getElem?_eq_getElem hi',h.row.sl.iaddr hi' .i64,h.row.sl.load1 hi' o.one 1,o,h.lit i _ (List.getElem?_eq_getElem hi')⟩
theorem HeapV.none (σ : Store) : HeapV σ .nilptr [] := .inl ⟨rfl,rfl⟩
section
variable (d : Nat) (σ : Store)
end
inductive Repl : List Cel → List Cel → Prop
 | nil : Repl [] []
 | keep (c : Cel) {t r : List Cel} : c.ok = true → Repl t r → Repl (c :: t) (c :: r)
 | put (c : Cel) (w : List Cel) {t r : List Cel} : c.parts = 0 → right w = true → Repl t r → Repl (c :: t) (w ++ r)
theorem Repl.len {t r : List Cel} (h : Repl t r) : t.length ≤ r.length := by
 induction h with
 | nil => exact Nat.le_refl _
 | keep c _ _ ih => simp; omega
 | put c w _ hw _ ih => have := (right_len hw).1; simp; omega
theorem Repl.oks {t r : List Cel} (h : Repl t r) : ∀ c ∈ r,c.ok = true := by
 induction h with
 | nil => simp
 | keep c hc _ ih => 
  intro x hx
  rcases List.mem_cons.1 hx with rfl | hx
  ·exact hc
  ·exact ih x hx
 | put c w _ hw _ ih => 
  intro x hx
  rcases List.mem_append.1 hx with hx | hx
  ·exact right_ok_mem hw hx
  ·exact ih x hx
theorem Repl.ends {L L' : Nat} (hL : L ≤ L') {t r : List Cel} (h : Repl t r) (hl : r.length ≤ L') : ∀ {q a b : Nat},endAt L t q a = a + t.length → 0 < a + t.length → endAt L' r q b = b + r.length := by
 induction h with
 | nil =>
  intro q a b h h0
  cases q with
  | zero => rw [endAt_zero]; rfl
  | succ q => rw [endAt_nil] at h; simp at h h0; omega
 | keep c hc hr ih =>
  intro q a b h h0
  cases q with
  | zero => rw [endAt_zero] at h; simp at h
  | succ q =>
   rw [endAt_cons] at h
   simp only [List.length_cons] at h hl ⊢
   split at h
   ·omega
   ·rename_i hp
    rw [endAt_cons,if_neg (by omega),ih (by omega) (a := a + 1) (b := b + 1) (by omega) (by omega)]
    omega
 | put c w hp hw hr ih =>
  intro q a b h h0
  cases q with
  | zero => rw [endAt_zero] at h; simp at h
  | succ q =>
   rw [endAt_cons] at h
   simp only [List.length_cons,List.length_append] at h hl ⊢
   rw [hp,Nat.add_zero] at h
   split at h
   ·omega
   ·rw [show q + 1 = 1 + q by omega,endAt_right hw (by omega),ih (by omega) (a := a + 1) (b := b + w.length) (by omega) (by omega)]
    omega
theorem Repl.right {t r : List Cel} (h : Repl t r) (ht : right t = true) (hl : r.length ≤ 256) : right r = true := by
 have h1 := (right_len ht).1
 have h2 := h.len
 have he := right_end ht
 have e := h.ends (L := t.length) (L' := r.length) h2 (Nat.le_refl _) (b := 0) he (by omega)
 rw [Nat.zero_add] at e
 have ho : r.all Cel.ok = true := List.all_eq_true.2 h.oks
 simp only [Am.right,Bool.and_eq_true,decide_eq_true_eq]
 exact ⟨⟨⟨by omega,hl⟩,e⟩,ho⟩
theorem Own.noMap {σ : Store} {sz : Nat} {v : AVal} {es ks vs : List AVal} {id : Nat} (h : Own σ sz v es) (ho : σ[id]? = some (.map ks vs)) : v.sid ≠ some id := by
 intro hs
 rcases h.own with ⟨rfl,_⟩ | ⟨t,rfl⟩ | ⟨id',ep,off,cap,xs,epo,fl,rfl,h1,_⟩
 ·cases hs
 ·cases hs
 ·injection hs with hs; subst hs; rw [ho] at h1; cases h1
def Mv (id aid : Nat) (nv : AVal) : Nat → Prop := fun i => i = id ∨ i = aid ∨ nv.sid = some i
structure Att (fm : AVal → List AVal) (σ0 : Store) (id aid : Nat) (σ : Store) (nv : AVal) (s : TSt) : Prop where
 old : Grows σ0 σ
 lid : σ0.length ≤ id
 laid : σ0.length ≤ aid
 lnv : Fresh σ0.length nv
 obj : σ[id]? = some (.cells (fm nv))
 names : Own σ 2 nv (NN s.ws)
 arr : ∃ es,σ[aid]? = some (.arr 1 es 0 0) ∧ Two (fun e t => Own σ 5 e (CC t)) es s.ls
theorem Own.noArr {σ : Store} {sz sz' i ep fl : Nat} {v : AVal} {es xs : List AVal} (h : Own σ sz v es) (ho : σ[i]? = some (.arr sz' xs ep fl)) (hn : sz ≠ sz') : v.sid ≠ some i := by
 intro hv
 rcases h.own with ⟨rfl,_⟩ | ⟨t,rfl⟩ | ⟨id,ep,off,cap,ys,epo,fl,rfl,h1,_⟩
 ·cases hv
 ·cases hv
 ·injection hv with hv
  subst hv
  rw [ho] at h1; injection h1 with h1; injection h1 with h1; exact hn h1.symm
section
variable {fm : AVal → List AVal} {σ0 : Store} {id aid : Nat} {σ σ' : Store} {nv : AVal} {s : TSt}
theorem Att.lt (h : Att fm σ0 id aid σ nv s) : id < σ.length ∧ aid < σ.length := by
 obtain ⟨es,ha,-⟩ := h.arr
 exact ⟨(List.getElem?_eq_some_iff.1 h.obj).1,(List.getElem?_eq_some_iff.1 ha).1⟩
theorem Att.own5 (h : Att fm σ0 id aid σ nv s) {e : AVal} {p : List AVal} (he : Own σ 5 e p) (i : Nat) (hi : e.sid = some i) : ¬ Mv id aid nv i := by
 obtain ⟨es,ha,-⟩ := h.arr
 rintro (rfl | rfl | hv)
 ·exact he.noCell h.obj hi
 ·exact he.noArr ha (by decide) hi
 ·exact he.sizes h.names (by decide) hi hv
theorem Att.keep5 (h : Att fm σ0 id aid σ nv s) {e : AVal} {p : List AVal} (he : Own σ 5 e p) (hk : Keeps (Mv id aid nv) σ σ') : Own σ' 5 e p :=
 he.keeps hk fun i hi => h.own5 he i hi
theorem Att.grow (h : Att fm σ0 id aid σ nv s) (g : Grows σ σ') : Att fm σ0 id aid σ' nv s := by
 obtain ⟨es,ha,ht⟩ := h.arr
 exact ⟨h.old.trans g,h.lid,h.laid,h.lnv,g.get h.obj,h.names.grow g,es,g.get ha,ht.mono fun e t ho => ho.grow g⟩
theorem Mv.trans {nv1 : AVal} {σ1 σ2 : Store} (h1 : Keeps (Mv id aid nv) σ σ1) (hs : ∀ i,nv1.sid = some i → nv.sid = some i ∨ σ.length ≤ i) (h2 : Keeps (Mv id aid nv1) σ1 σ2) : Keeps (Mv id aid nv) σ σ2 :=
 Keeps.trans h1 h2 fun i hi e => by
  rcases e with rfl | rfl | e
  ·exact .inl rfl
  ·exact .inr (.inl rfl)
  ·rcases hs i e with e | e
   ·exact .inr (.inr e)
   ·omega
structure OT (σ : Store) (lo : Nat) (l : AVal) (es : List AVal) (ts : List (List Cel)) : Prop where
 row : Own σ 1 l es
 two : Two (fun e t => Own σ 5 e (CC t)) es ts
 frl : Fresh lo l
theorem OT.grow {lo : Nat} {l : AVal} {es : List AVal} {ts : List (List Cel)} (h : OT σ lo l es ts) (g : Grows σ σ') : OT σ' lo l es ts :=
 ⟨h.row.grow g,h.two.mono fun e t ho => ho.grow g,h.frl⟩
theorem OT.keep {lo : Nat} {l : AVal} {es : List AVal} {ts : List (List Cel)} (h : OT σ lo l es ts) (ha : Att fm σ0 id aid σ nv s) (h1 : id < lo) (h2 : aid < lo) (hk : Keeps (Mv id aid nv) σ σ') : OT σ' lo l es ts := by
 refine ⟨h.row.keeps hk fun i hi => ?_,h.two.mono fun e t ho => ha.keep5 ho hk,h.frl⟩
 have := h.frl i hi
 rintro (rfl | rfl | hv)
 ·omega
 ·omega
 ·exact h.row.sizes ha.names (by decide) hi hv
theorem OT.at {lo : Nat} {l : AVal} {es : List AVal} {ts : List (List Cel)} (h : OT σ lo l es ts) {i : Nat} (hi : i < ts.length) : ∃ e,iaddrV 1 l (.int .i64 i) = some (addrOf 1 l i) ∧ loadV σ 1 false (addrOf 1 l i) = some e ∧ Own σ 5 e (CC ts[i]) := by
 have hi' : i < es.length := by rw [h.two.len]; exact hi
 obtain ⟨e,he1,he2⟩ := h.two.get hi
 have hee : es[i] = e := by rw [List.getElem?_eq_getElem hi'] at he1; exact Option.some.inj he1
 refine ⟨e,h.row.sl.iaddr hi' .i64,?_,he2⟩
 have := h.row.sl.load1 hi' (by rw [hee]; exact he2.one) 1
 rw [hee] at this; exact this
theorem OT.len {lo : Nat} {l : AVal} {es : List AVal} {ts : List (List Cel)} (h : OT σ lo l es ts) : lenSV l = some ts.length := by
 rw [← h.two.len]; exact h.row.sl.len
end
def StepQ (fm : AVal → List AVal) (σ0 : Store) (id aid : Nat) (res : Option TSt) (s : TSt) (add : Nat) (nv : AVal) (σ : Store) : AVal → Store → Prop := fun r σ' =>
 ∃ (b : Bool) (nv' : AVal) (s' : TSt),r = .bool b ∧ Att fm σ0 id aid σ' nv' s' ∧ Keeps (Mv id aid nv) σ σ' ∧ (∀ i,nv'.sid = some i → nv.sid = some i ∨ σ.length ≤ i) ∧ res = (if b then some s' else none) ∧ s'.ws.length ≤ s.ws.length + add ∧ s'.ls.length = s.ls.length
section
variable (d : Nat)
theorem Two.set {α β : Type} {R : α → β → Prop} {us : List α} {ws : List β} (h : Two R us ws) (j : Nat) {a : α} {b : β} (hr : R a b) : Two R (us.set j a) (ws.set j b) :=
 Two.of_get (by simp [h.len]) fun i x y hx hy => by
  rw [List.getElem?_set] at hx hy
  split at hx
  ·rename_i hij
   rw [if_pos hij] at hy
   split at hx
   ·split at hy
    ·injection hx with hx; injection hy with hy; subst hx; subst hy; exact hr
    ·cases hy
   ·cases hx
  ·rename_i hij
   rw [if_neg hij] at hy
   exact h.at hx hy
theorem StepQ.plain {fm : AVal → List AVal} {σ0 : Store} {id aid : Nat} {res : Option TSt} {s : TSt} {add : Nat} {nv : AVal} {σ σ' : Store} (ha : Att fm σ0 id aid σ nv s) (g : Grows σ σ') (hr : res = none) : StepQ fm σ0 id aid res s add nv σ (.bool false) σ' :=
 ⟨false,nv,s,rfl,ha.grow g,g.any,fun i h => .inl h,by rw [hr]; rfl,by omega,rfl⟩
theorem Att.put {fm : AVal → List AVal} {σ0 : Store} {id aid : Nat} {nv : AVal} {s : TSt} {σ : Store} (ha : Att fm σ0 id aid σ nv s) {j : Nat} {u : AVal} {t : List Cel} (hu : Own σ 5 u (CC t)) (hj : j < s.ls.length) :
  ∃ σ',storeV σ 1 (.eptr aid 0 j 0) u = some σ' ∧ Att fm σ0 id aid σ' nv ⟨s.ls.set j t,s.ws⟩ ∧ Keeps (fun i => i = aid) σ σ' := by
 obtain ⟨es,h1,h2⟩ := ha.arr
 have hj' : j < es.length := by rw [h2.len]; exact hj
 obtain ⟨e,he1,he2⟩ := h2.get hj
 have hee : es[j] = e := by rw [List.getElem?_eq_getElem hj'] at he1; exact Option.some.inj he1
 have st := arr_store1 h1 hj' hu.one (by rw [hee]; exact he2.one)
 have k := Keeps.set σ aid (.arr 1 (es.set j u) 0 0)
 have hne : id ≠ aid := fun e => by have a := ha.obj; rw [e,h1] at a; cases a
 refine ⟨_,st,⟨?_,ha.lid,ha.laid,ha.lnv,k.get ha.obj hne,ha.names.keeps k fun i hi e => ha.names.noArr h1 (by decide) (by rw [← e]; exact hi),es.set j u,get_set h1,?_⟩,k⟩
 ·exact Keeps.trans ha.old k fun i hi e => by have := ha.laid; omega
 ·refine Two.set (h2.mono fun e t ho => ho.keeps k fun i hi e' => ho.noArr h1 (by decide) (by rw [← e']; exact hi)) j ?_
  exact hu.keeps k fun i hi e' => hu.noArr h1 (by decide) (by rw [← e']; exact hi)
theorem Att.get {fm : AVal → List AVal} {σ0 : Store} {id aid : Nat} {nv : AVal} {s : TSt} {σ : Store} (ha : Att fm σ0 id aid σ nv s) {j : Nat} (hj : j < s.ls.length) : ∃ e,loadV σ 1 false (.eptr aid 0 j 0) = some e ∧ lenSV e = some (s.ls[j]).length := by
 obtain ⟨es,h1,h2⟩ := ha.arr
 have hj' : j < es.length := by rw [h2.len]; exact hj
 obtain ⟨e,he1,he2⟩ := h2.get hj
 have hee : es[j] = e := by rw [List.getElem?_eq_getElem hj'] at he1; exact Option.some.inj he1
 refine ⟨e,?_,by have := he2.sl.len; rwa [List.length_map] at this⟩
 rw [arr_load1 h1 (Nat.le_refl _) hj' (by rw [hee]; exact he2.one),hee]
end
section
variable (d : Nat)
structure Tried (fm : AVal → List AVal) (σ0 : Store) (id aid : Nat) (F : TSt → List Cel → List Cel → Option TSt) (s : TSt) (azs bs : List (List Cel)) (lo : Nat) (al bl : AVal) (es fs : List AVal) (nv : AVal) (σ2 σ' : Store) (k : Nat) (nk : AVal) (sk : TSt) : Prop where
 att : Att fm σ0 id aid σ' nk sk
 keep : Keeps (Mv id aid nv) σ2 σ'
 nam : ∀ i,nk.sid = some i → nv.sid = some i ∨ σ2.length ≤ i
 ra : OT σ' lo al es azs
 rb : OT σ' lo bl fs bs
 res : foldO F s azs bs = foldO F sk (azs.drop k) (bs.drop k)
 ws : sk.ws.length ≤ s.ws.length + (azs.take k).flatten.length
 ls : sk.ls.length = s.ls.length
theorem Tried.step {fm : AVal → List AVal} {σ0 : Store} {id aid : Nat} {F : TSt → List Cel → List Cel → Option TSt} {s : TSt} {azs bs : List (List Cel)} {lo : Nat} {al bl : AVal} {es fs : List AVal} {nv : AVal} {σ2 σ' : Store} {k : Nat} {nk : AVal} {sk : TSt} (h : Tried fm σ0 id aid F s azs bs lo al bl es fs nv σ2 σ' k nk sk)
  (hk : k < azs.length) (hb : k < bs.length) (h1 : id < lo) (h2 : aid < lo) {σ3 : Store} {r : AVal} (hq : StepQ fm σ0 id aid (F sk azs[k] bs[k]) sk (azs[k]).length nk σ' r σ3) :
  ∃ b : Bool,r = .bool b ∧ ∃ nk' sk',Att fm σ0 id aid σ3 nk' sk' ∧ Keeps (Mv id aid nv) σ2 σ3 ∧ (∀ i,nk'.sid = some i → nv.sid = some i ∨ σ2.length ≤ i) ∧ sk'.ws.length ≤ s.ws.length + (azs.take (k + 1)).flatten.length ∧ sk'.ls.length = s.ls.length ∧ (b = true → Tried fm σ0 id aid F s azs bs lo al bl es fs nv σ2 σ3 (k + 1) nk' sk') ∧ (b = false → foldO F s azs bs = none) := by
 obtain ⟨b,nk',sk',rfl,a1,a2,a3,a4,a5,a6⟩ := hq
 have hfs := flat_step hk
 have stp := foldO_step (f := F) (s := sk) hk hb
 have c1 := Mv.trans h.keep h.nam a2
 have c2 : ∀ i,nk'.sid = some i → nv.sid = some i ∨ σ2.length ≤ i := fun i hi => (a3 i hi).elim (h.nam i) (fun e => .inr (by have := h.keep.1; omega))
 have c3 : sk'.ws.length ≤ s.ws.length + (azs.take (k + 1)).flatten.length := by have := h.ws; omega
 have c4 : sk'.ls.length = s.ls.length := by rw [a6]; exact h.ls
 refine ⟨b,rfl,nk',sk',a1,c1,c2,c3,c4,fun hb' => ?_,fun hb' => ?_⟩
 ·refine ⟨a1,c1,c2,h.ra.keep h.att h1 h2 a2,h.rb.keep h.att h1 h2 a2,?_,c3,c4⟩
  rw [h.res,stp,a4,hb']; rfl
 ·rw [h.res,stp,a4,hb']; rfl
end
theorem HeapV.one {σ : Store} {hv : AVal} {H : Hp} (h : HeapV σ hv H) : hv.one = true := by
 rcases h with ⟨rfl,_⟩ | ⟨id,mid,vs,rfl,_⟩ <;> rfl
theorem RefV.one {σ : Store} {rv : AVal} {R : Hp} (h : RefV σ rv R) : rv.one = true := by
 rcases h with ⟨rfl,_⟩ | ⟨id,A,rfl,_⟩ <;> rfl
def TryOk (σ : Store) (r : AVal) (x : TryR) : Prop := ∃ lv wv,r = .agg (tryC x.k lv wv) ∧ Terms σ lv x.ls ∧ SlOf σ 2 wv (NN x.ws)
theorem TryOk.grow {σ σ' : Store} {r : AVal} {x : TryR} (h : TryOk σ r x) (g : Grows σ σ') : TryOk σ' r x := by
 obtain ⟨lv,wv,h1,h2,h3⟩ := h
 exact ⟨lv,wv,h1,h2.grow g,h3.grow g⟩
theorem Terms.one {σ : Store} {l : AVal} {ts : List (List Cel)} (h : Terms σ l ts) : l.one = true := by obtain ⟨es,h1,-⟩ := h; exact h1.one
theorem try_told {σ σ0 : Store} {i k : Nat} {lv wv : AVal} {x : TryR} (ho : σ[i]? = some (.cells tryZ)) (hk : x.k = k) (h1 : Terms σ lv x.ls) (h2 : SlOf σ 2 wv (NN x.ws)) (hi : σ0.length ≤ i) (g : Grows σ0 σ) (n1 : ∀ j,lv.sid = some j → j ≠ i) (n2 : ∀ j,wv.sid = some j → j ≠ i) (n3 : ∀ (es : List AVal) (e : AVal) (j : Nat),SlOf σ 1 lv es → e ∈ es → e.sid = some j → j ≠ i) :
  ∃ σ',storeV σ 4 (.ptr i 0) (.agg (tryC k lv wv)) = some σ' ∧ loadV σ' 4 true (.ptr i 0) = some (.agg (tryC k lv wv)) ∧ Grows σ0 σ' ∧ TryOk σ' (.agg (tryC k lv wv)) x := by
 obtain ⟨p1,p2⟩ := try_put (σ' := σ) (k := k) ho h1.one h2.one
 have kk := Keeps.set σ i (.cells (tryC k lv wv))
 refine ⟨_,p1,p2,Keeps.trans g kk fun j hj e => by omega,lv,wv,by rw [hk],?_,h2.keeps kk fun j hj e => n2 j hj e⟩
 obtain ⟨es,a1,a2⟩ := h1
 refine ⟨es,a1.keeps kk fun j hj e => n1 j hj e,a2.mono_mem fun e t he ht hs => hs.keeps kk fun j hj e' => n3 es e j a1 he hj e'⟩
theorem Att.new (fm : AVal → List AVal) (σ : Store) (n : Nat) : Att fm σ (σ.length + 1) σ.length ((σ ++ [.arr 1 (List.replicate n .nilslice) 0 0]) ++ [.cells (fm .nilslice)]) .nilslice ⟨List.replicate n [],[]⟩ := by
 refine ⟨Grows.trans (Grows.app _ _) (Grows.app _ _),by omega,Nat.le_refl _,Fresh.nil _,by simp,Own.nil _ _,List.replicate n .nilslice,by simp,?_⟩
 refine Two.of_get (by simp) fun i a b ha hb => ?_
 rw [List.getElem?_replicate] at ha hb
 by_cases h : i < n
 ·rw [if_pos h] at ha hb
  cases ha; cases hb; exact Own.nil _ _
 ·rw [if_neg h] at ha
  cases ha
theorem Att.terms {fm : AVal → List AVal} {σ0 : Store} {id aid : Nat} {nv : AVal} {s : TSt} {σ : Store} (ha : Att fm σ0 id aid σ nv s) : ∃ es,Own σ 1 (.slice 1 aid 0 0 s.ls.length (some s.ls.length)) es ∧ Two (fun e t => Own σ 5 e (CC t)) es s.ls := by
 obtain ⟨es,h1,h2⟩ := ha.arr
 refine ⟨es,⟨.inr (.inr ⟨aid,0,0,some s.ls.length,es,0,0,by rw [h2.len],h1,Nat.le_refl _,by simp,fun _ => by simp,.inr (by rw [h2.len])⟩)⟩,h2⟩
section
variable (d : Nat) (σ : Store)
end
section
variable (d : Nat) (σ : Store)
end
theorem TryOk.put {σ σ0 : Store} {i : Nat} {r : AVal} {x : TryR} (h : TryOk σ r x) (ho : σ[i]? = some (.cells tryZ)) (hi : σ0.length ≤ i) (g : Grows σ0 σ) :
  ∃ σ',storeV σ 4 (.ptr i 0) r = some σ' ∧ loadV σ' 4 true (.ptr i 0) = some r ∧ Grows σ0 σ' ∧ TryOk σ' r x := by
 obtain ⟨lv,wv,rfl,h2,h3⟩ := h
 have h2' := h2
 obtain ⟨es,a1,a2⟩ := h2'
 refine try_told ho rfl h2 h3 hi g (fun j h e => a1.noCell ho (by rw [← e]; exact h)) (fun j h e => h3.noCell ho (by rw [← e]; exact h)) (fun fs e j hf he hj e' => ?_)
 have : fs = es := Option.some.inj (hf.1.symm.trans a1.1)
 subst this
 obtain ⟨b,_,hb⟩ := a2.mem_left he
 exact hb.noCell ho (by rw [← e']; exact hj)
theorem Terms.lit {σ : Store} {v : AVal} {p : List Cel} (tg : Nat) (h : SlOf σ 5 v (CC p)) : Terms σ (.fslice tg true 1 [v]) [p] := ⟨[v],SlOf.fs _ _ _ _ _,Two.one h⟩
theorem I64.of {i : Int} (h : I64 i) : -9223372036854775808 ≤ i ∧ i < 9223372036854775808 := h
section
variable (d : Nat) (σ : Store)
theorem rvarsof_ok (pv : AVal) (p : List Cel) (sp : Small p) (hp : SlOf σ 5 pv (CC p)) : Called CU.cfg d 120 [pv] σ fun r σ' => Grows σ σ' ∧ Own σ' 2 r (NN (varsL [] p)) := by
 refine called_of (fn := CU.a120) rfl (Nat.le_of_ble_eq_true rfl) ?_
 simp only [CU.a120, CU.o]
 simp -dsimp only [↓WPd,↓Zm,↓Zn,WPu,Za,Zb,Zc,Zd,Ze,Zf,Zg,Zh,Nat.reduceEqDiff,Nat.reduceLT,Zi,Zj,Zk,Zl,Nat.reduceBEq,lit1_ok hp.one]
 refine calledW_of (rvars_ok d σ _ [p] (by simpa using sp.1) (by simp) (Terms.lit _ hp)) ?_
 rintro l σ2 ⟨g2,ol,-⟩
 have hfl : [p].flatten = p := by simp
 rw [hfl] at ol
 simp -dsimp only [↓WPd,↓Zm,↓Zn,WPu,Za,Zb,Zc,Zd,Ze,Zf,Zg,Zh,Nat.reduceEqDiff,Nat.reduceLT,Zi,Zj,Zk,Zl,Nat.reduceBEq]
 exact ⟨g2,ol⟩
end
section
variable (d : Nat) (σ : Store)
end
theorem find_names (v : Nm) : ∀ (l : List Nm),∃ o : Option Nat,findK true [.i,.i] (nmV v) (l.map nmV) = some o ∧ (match o with | some i => l[i]? = some v | none => v ∉ l)
 | [] => ⟨none,rfl,by simp⟩
 | p :: r => by
  obtain ⟨o,h1,h2⟩ := find_names v r
  by_cases e : v = p
  ·refine ⟨some 0,?_,by simp [e]⟩
   simp only [List.map_cons,findK,nm_keyEq,decide_eq_true e]
  ·refine ⟨o.map (· + 1),?_,?_⟩
   ·simp only [List.map_cons,findK,nm_keyEq,decide_eq_false e,h1]
    cases o <;> rfl
   ·cases o with
    | none => simp only [Option.map_none]; simp only at h2; simp [e,h2]
    | some i => simpa using h2
structure WayS (σ : Store) (fi li mid : Nat) (lv : AVal) (l bs : List Nm) : Prop where
 fc : σ[fi]? = some (.cells [.map mid])
 lc : σ[li]? = some (.cells [lv])
 mc : σ[mid]? = some (.map (l.map nmV) (bs.map nmV))
 len : bs.length = l.length
 own : Own σ 2 lv (NN l)
 nilc : l = [] → lv = .nilslice
theorem WayS.grow {σ σ' : Store} {fi li mid : Nat} {lv : AVal} {l bs : List Nm} (h : WayS σ fi li mid lv l bs) (g : Grows σ σ') : WayS σ' fi li mid lv l bs :=
 ⟨g.get h.fc,g.get h.lc,g.get h.mc,h.len,h.own.grow g,h.nilc⟩
def ComeT (mid li : Nat) (lv : AVal) (i : Nat) : Prop := i = mid ∨ i = li ∨ lv.sid = some i
set_option maxHeartbeats 1000000 in
theorem come_ok (d : Nat) (σ : Store) (fi li mid : Nat) (lv : AVal) (l bs : List Nm) (v b : Nm) (h : WayS σ fi li mid lv l bs) (hl : l.length < 2 ^ 40) :
  Called CU.cfg d 115 [nmV v,nmV b,.ptr fi 0,.ptr li 0] σ fun r σ' => (∃ lv',WayS σ' fi li mid lv' (addN l v) (addB l bs v b) ∧ ∀ i,lv'.sid = some i → lv.sid = some i ∨ σ.length ≤ i) ∧ Keeps (ComeT mid li lv) σ σ' := by
 refine called_of (fn := CU.a115) rfl (Nat.le_of_ble_eq_true rfl) ?_
 simp only [CU.a115, CU.o]
 simp -dsimp only [↓WPd,↓Zm,↓Zn,WPu,Za,Zb,Zc,Zd,Ze,Zf,Zg,Zh,Nat.reduceEqDiff,Nat.reduceLT,Zi,Zj,Zk,Zl,Nat.reduceBEq,WPm,nm_cells,nm_one]
 have ov : (σ ++ [AObj.cells (nmC v)] ++ [AObj.cells (nmC b)])[σ.length]? = some (.cells (nmC v)) := by simp
 have ob : (σ ++ [AObj.cells (nmC v)] ++ [AObj.cells (nmC b)])[(σ ++ [AObj.cells (nmC v)]).length]? = some (.cells (nmC b)) := by simp
 have g0 : Grows σ (σ ++ [AObj.cells (nmC v)] ++ [AObj.cells (nmC b)]) := (Grows.app _ _).trans (Grows.app _ _)
 have hbl : σ.length < (σ ++ [AObj.cells (nmC v)]).length := by simp
 generalize (σ ++ [AObj.cells (nmC v)]).length = ib at ob hbl
 generalize σ ++ [AObj.cells (nmC v)] ++ [AObj.cells (nmC b)] = σ1 at ov ob g0
 have h1 := h.grow g0
 obtain ⟨o,f1,f2⟩ := find_names v l
 have hk : keyEq true [.i,.i] (nmV v) (nmV v) = some true := by rw [nm_keyEq,decide_eq_true rfl]
 have hf : findKK true [.i,.i] (nmV v) (l.map nmV) = some o := by simp only [findKK,hk,Option.isSome_some,if_true,f1]
 have hm : mapOf σ1 (.map mid) = some (l.map nmV,bs.map nmV) := by simp only [mapOf,h1.mc]
 have e1 : ([AVal.map mid] : List AVal)[0]? = some (.map mid) := rfl
 have e2 : ([lv] : List AVal)[0]? = some lv := rfl
 obtain ⟨x,hlook⟩ : ∃ x : Nm,lookupV σ1 true [.i,.i] (.agg [.int .i64 0,.int .i64 0]) (.map mid) (nmV v) true = some (.tuple [nmV x,.bool o.isSome]) := by
  cases o with
  | none => exact ⟨(0,0),by simp only [lookupV,hm,hf]; rfl⟩
  | some i =>
   have hi : i < bs.length := by rw [h.len]; exact (List.getElem?_eq_some_iff.1 f2).1
   have e : (bs.map nmV)[i]? = some (nmV bs[i]) := by simp [hi]
   exact ⟨bs[i],by simp only [lookupV,hm,hf,e,Option.map_some]; rfl⟩
 simp -dsimp only [↓WPd,↓Zm,↓Zn,WPu,Za,Zb,Zc,Zd,Ze,Zf,Zg,Zh,Nat.reduceEqDiff,Nat.reduceLT,Zi,Zj,Zk,Zl,Nat.reduceBEq,WPm,load_cells h1.fc,e1,load_nm ov,hlook,List.getElem?_cons_zero,List.getElem?_cons_succ,nm_putB]
 have g2 : Grows σ1 (σ1 ++ [AObj.cells (nmC x)]) := Grows.app _ _
 generalize σ1 ++ [AObj.cells (nmC x)] = σ2 at g2
 have h2 := h1.grow g2
 have ov2 := g2.get ov
 have ob2 := g2.get ob
 have g02 := g0.trans g2
 have hr : ∀ s : FS,resultsA [] s = some (.tuple []) := fun _ => rfl
 cases o with
 | some i =>
  have hc : l.contains v = true := by simpa using List.mem_of_getElem? f2
  have ha : addN l v = l := by unfold addN; rw [if_pos hc]
  simp -dsimp only [↓WPd,↓Zm,↓Zn,WPu,Za,Zb,Zc,Zd,Ze,Zf,Zg,Zh,Nat.reduceEqDiff,Nat.reduceLT,Zi,Zj,Zk,Zl,Nat.reduceBEq,WPm,Option.isSome_some,hr]
  have hb : addB l bs v b = bs := by unfold addB; rw [if_pos hc]
  rw [ha,hb]
  exact ⟨⟨lv,h2,fun i hi => .inl hi⟩,g02.any⟩
 | none =>
  have hc : ¬ l.contains v = true := by simpa using f2
  have ha : addN l v = l ++ [v] := by unfold addN; rw [if_neg hc]
  have hb : addB l bs v b = bs ++ [b] := by unfold addB; rw [if_neg hc]
  rw [ha,hb]
  have hset : mapsetV σ2 true [.i,.i] (.map mid) (nmV v) (nmV b) = some (σ2.set mid (.map (l.map nmV ++ [nmV v]) (bs.map nmV ++ [nmV b]))) := by simp only [mapsetV,h2.mc,hf]
  have k3 : Keeps (fun i => i = mid) σ2 (σ2.set mid (.map (l.map nmV ++ [nmV v]) (bs.map nmV ++ [nmV b]))) := Keeps.set _ _ _
  have m3 : (σ2.set mid (.map (l.map nmV ++ [nmV v]) (bs.map nmV ++ [nmV b])))[mid]? = some (.map (l.map nmV ++ [nmV v]) (bs.map nmV ++ [nmV b])) := get_set h2.mc
  simp -dsimp only [↓WPd,↓Zm,↓Zn,WPu,Za,Zb,Zc,Zd,Ze,Zf,Zg,Zh,Nat.reduceEqDiff,Nat.reduceLT,Zi,Zj,Zk,Zl,Nat.reduceBEq,WPm,Option.isSome_none,load_cells h2.fc,e1,load_nm ov2,load_nm ob2,hset]
  generalize σ2.set mid (.map (l.map nmV ++ [nmV v]) (bs.map nmV ++ [nmV b])) = σ3 at k3 m3
  have nmid : fi ≠ mid ∧ li ≠ mid := ⟨(fun e => by have := h2.fc; rw [e,h2.mc] at this; cases this),(fun e => by have := h2.lc; rw [e,h2.mc] at this; cases this)⟩
  have nfl : fi ≠ li := fun e => by
   have := h2.fc
   rw [e,h2.lc] at this
   injection this with this; injection this with this; injection this with this
   exact absurd h2.own.sl.len (by rw [this]; simp [lenSV])
  have hmlt : mid < σ.length := (List.getElem?_eq_some_iff.1 h.mc).1
  have f3 := k3.get h2.fc nmid.1
  have l3 := k3.get h2.lc nmid.2
  have w3 := h2.own.keeps k3 fun i hi e => h2.own.noMap h2.mc (e ▸ hi)
  have ov3 := k3.get ov2 (by omega)
  obtain ⟨y,σ4,a1,a2,a3,a4,a5⟩ := w3.append [nmV v] 16 (by rw [List.length_map]; simp; omega)
  have lit : fillL 2 true (List.replicate 1 (zel [AVal.int IntKind.i64 0,AVal.int IntKind.i64 0] true)) [(0,nmV v)] = some [nmV v] := rfl
  have fl := elems_fs 2 (AVal.tagL [nmV v]) true σ3 [nmV v]
  have l4 := a3.get l3 (fun e => w3.noCell l3 e)
  have f4 := a3.get f3 (fun e => w3.noCell f3 e)
  have m4 := a3.get m3 (fun e => w3.noMap m3 e)
  have st := store_cells l4 (off := 0) (v := y) (by simp) a2.one
  simp -dsimp only [↓WPd,↓Zm,↓Zn,WPu,Za,Zb,Zc,Zd,Ze,Zf,Zg,Zh,Nat.reduceEqDiff,Nat.reduceLT,Zi,Zj,Zk,Zl,Nat.reduceBEq,WPm,load_cells l3,e2,load_nm ov3,lit,fl,a1,st,hr]
  have k5 : Keeps (fun i => i = li) σ4 (σ4.set li (.cells [y])) := Keeps.set _ _ _
  refine ⟨⟨y,⟨k5.get f4 nfl,get_set l4,?_,by simp [h.len],?_,fun e => by simp at e⟩,fun i hi => ?_⟩,?_⟩
  ·have := k5.get m4 (fun e => nmid.2 e.symm)
   simpa using this
  ·have e : NN (l ++ [v]) = NN l ++ [nmV v] := by simp [NN]
   rw [e]
   exact a2.keeps k5 fun i hi e => a2.noCell l4 (e ▸ hi)
  ·rcases a4 i hi with e | e
   ·exact .inl e
   ·have := g02.1; have := k3.1; exact .inr (by omega)
  ·refine Keeps.trans (Keeps.trans (Keeps.trans (g02.any (M := ComeT mid li lv)) k3 fun i hi e => ?_) a3 fun i hi e => ?_) k5 fun i hi e => ?_
   ·exact .inl e
   ·exact .inr (.inr e)
   ·exact .inr (.inl e)
theorem nextn_ok (d : Nat) (σ : Store) (hv : AVal) (H : Hp) (hw : WF H) (v : Nm) (h : HeapV σ hv H) : Called CU.cfg d 77 [hv,nmV v] σ fun r σ' => Grows σ σ' ∧ Own σ' 2 r (NN (stepN H v)) ∧ Fresh σ.length r := by
 refine called_of (fn := CU.a77) rfl (Nat.le_of_ble_eq_true rfl) ?_
 simp only [CU.a77, CU.o]
 simp -dsimp only [↓WPd,↓Zm,↓Zn,WPu,Za,Zb,Zc,Zd,Ze,Zf,Zg,Zh,Nat.reduceEqDiff,Nat.reduceLT,Zi,Zj,Zk,Zl,Nat.reduceBEq,WPm,nm_cells,nm_one]
 have ho : (σ ++ [AObj.cells (nmC v)])[σ.length]? = some (.cells (nmC v)) := by simp
 have g0 : Grows σ (σ ++ [AObj.cells (nmC v)]) := Grows.app _ _
 have h1 := h.grow g0
 generalize σ ++ [AObj.cells (nmC v)] = σ1 at ho g0 h1
 have hsh := hw.lk_short v
 simp -dsimp only [↓WPd,↓Zm,↓Zn,WPu,Za,Zb,Zc,Zd,Ze,Zf,Zg,Zh,Nat.reduceEqDiff,Nat.reduceLT,Zi,Zj,Zk,Zl,Nat.reduceBEq,WPm,load_nm ho]
 refine calledW_of (hvalue_ok d σ1 hv H v h1 (by omega)) ?_
 rintro r σ2 ⟨u,rfl,ou,-,-,g2⟩
 have e1 : fillL 1 false (List.replicate 1 (zel [AVal.nilslice] false)) [(0,u)] = some [u] := by
  have hu := ou.one
  have hc : u.cells = [u] := by cases u <;> simp_all [AVal.one]
  have h1 : [u].all AVal.one = true := by simp only [List.all_cons,List.all_nil,hu]; rfl
  have h2 : isAggV u = false := by cases u <;> first | (cases hu; done) | rfl
  simp only [fillL,hc,h1,h2]
  rfl
 simp -dsimp only [↓WPd,↓Zm,↓Zn,WPu,Za,Zb,Zc,Zd,Ze,Zf,Zg,Zh,Nat.reduceEqDiff,Nat.reduceLT,Zi,Zj,Zk,Zl,Nat.reduceBEq,WPm,List.getElem?_cons_zero,List.getElem?_cons_succ,e1]
 refine calledW_of (vars_ok d σ2 _ [(lk H v).getD []] (by simp; omega) (by simp) (Terms.lit _ ou.sl)) ?_
 rintro r σ3 ⟨g3,or,fr⟩
 have hfl : [(lk H v).getD []].flatten = (lk H v).getD [] := by simp
 rw [hfl] at or
 simp -dsimp only [↓WPd,↓Zm,↓Zn,WPu,Za,Zb,Zc,Zd,Ze,Zf,Zg,Zh,Nat.reduceEqDiff,Nat.reduceLT,Zi,Zj,Zk,Zl,Nat.reduceBEq]
 exact ⟨(g0.trans g2).trans g3,or,fr.le (g0.trans g2).1⟩
theorem names_load {σ : Store} {l : AVal} {ws : List Nm} (hl : SlOf σ 2 l (NN ws)) {i : Nat} (hi : i < ws.length) : iaddrV 2 l (.int .i64 i) = some (addrOf 2 l i) ∧ loadV σ 2 true (addrOf 2 l i) = some (nmV ws[i]) := names_at hl hi
theorem adds_len (l ws : List Nm) : (adds l ws).length ≤ l.length + ws.length := by
 induction ws generalizing l with
 | nil => simp [adds]
 | cons v ws ih =>
  have := ih (addN l v)
  have h2 := addN_len l v
  simp only [adds,List.foldl_cons,List.length_cons] at this ⊢
  omega
theorem set_here {σ : Store} {i : Nat} {o : AObj} (h : σ[i]? = some o) : σ.set i o = σ := by
 apply List.ext_getElem?
 intro j
 rw [List.getElem?_set]
 split
 ·rename_i e
  subst e
  rw [h,if_pos (List.getElem?_eq_some_iff.1 h).1]
 ·rfl
set_option maxHeartbeats 4000000 in
theorem walk_ok (d : Nat) (σ : Store) (hv : AVal) (H : Hp) (hw : WF H) (hH : H.length < 2 ^ 28) (rsv : AVal) (rs : List Nm) (h : HeapV σ hv H) (hr : SlOf σ 2 rsv (NN rs)) (hrs : rs.length < 2 ^ 38) :
  Called CU.cfg d 60 [hv,rsv] σ fun r σ' => Grows σ σ' ∧ ∃ (lv : AVal) (mid : Nat) (l bs : List Nm),r = .tuple [lv,.map mid] ∧ Own σ' 2 lv (NN l) ∧ Fresh σ.length lv ∧ l.Nodup ∧ (∀ v,v ∈ l ↔ Rea H rs v) ∧ σ'[mid]? = some (.map (l.map nmV) (bs.map nmV)) ∧ σ.length ≤ mid ∧ (l = [] → lv = .nilslice) ∧ ComeA H rs l bs := by
 refine called_of (fn := CU.a60) rfl (Nat.le_of_ble_eq_true rfl) ?_
 simp only [CU.a60, CU.o]
 have hu := univ_len hw rs
 have hu2 : (univ H rs).length < 2 ^ 39 := by omega
 simp -dsimp only [↓WPd,↓Zm,↓Zn,WPu,Za,Zb,Zc,Zd,Ze,Zf,Zg,Zh,Nat.reduceEqDiff,Nat.reduceLT,Zi,Zj,Zk,Zl,Nat.reduceBEq,WPm]
 have oL : (σ ++ [AObj.cells [.nilslice]] ++ [AObj.cells [.nilmap]] ++ [AObj.map [] []])[σ.length]? = some (.cells [.nilslice]) := by simp
 have oF : (σ ++ [AObj.cells [.nilslice]] ++ [AObj.cells [.nilmap]] ++ [AObj.map [] []])[(σ ++ [AObj.cells [.nilslice]]).length]? = some (.cells [.nilmap]) := by simp
 have oM : (σ ++ [AObj.cells [.nilslice]] ++ [AObj.cells [.nilmap]] ++ [AObj.map [] []])[(σ ++ [AObj.cells [.nilslice]] ++ [AObj.cells [.nilmap]]).length]? = some (.map [] []) := by simp
 have gA : Grows σ (σ ++ [AObj.cells [.nilslice]] ++ [AObj.cells [.nilmap]] ++ [AObj.map [] []]) := ((Grows.app _ _).trans (Grows.app _ _)).trans (Grows.app _ _)
 have lf : σ.length < (σ ++ [AObj.cells [.nilslice]]).length := by simp
 have lm : (σ ++ [AObj.cells [.nilslice]]).length < (σ ++ [AObj.cells [.nilslice]] ++ [AObj.cells [.nilmap]]).length := by simp
 generalize (σ ++ [AObj.cells [.nilslice]] ++ [AObj.cells [.nilmap]]).length = mid at oM lm
 generalize (σ ++ [AObj.cells [.nilslice]]).length = fi at oF lf lm
 generalize σ ++ [AObj.cells [.nilslice]] ++ [AObj.cells [.nilmap]] ++ [AObj.map [] []] = σ3 at oL oF oM gA
 have st := store_cells oF (off := 0) (v := .map mid) (by simp) rfl
 have k4 : Keeps (fun i => i = fi) σ3 (σ3.set fi (.cells ([.nilmap].set 0 (.map mid)))) := Keeps.set _ _ _
 have f4 : (σ3.set fi (.cells ([.nilmap].set 0 (.map mid))))[fi]? = some (.cells [.map mid]) := get_set oF
 generalize σ3.set fi (.cells ([.nilmap].set 0 (.map mid))) = σ4 at st k4 f4
 generalize hli : σ.length = li at oL lf
 have l4 := k4.get oL (by omega)
 have m4 := k4.get oM (by omega)
 have g4 : Grows σ σ4 := Keeps.trans gA k4 fun i hi e => by omega
 have W4 : WayS σ4 fi li mid .nilslice [] [] := ⟨f4,l4,m4,rfl,Own.nil _ _,fun _ => rfl⟩
 have lr := (hr.grow g4).len
 rw [List.length_map] at lr
 simp -dsimp only [↓WPd,↓Zm,↓Zn,WPu,Za,Zb,Zc,Zd,Ze,Zf,Zg,Zh,Nat.reduceEqDiff,Nat.reduceLT,Zi,Zj,Zk,Zl,Nat.reduceBEq,WPm,st,lr]
 refine loop_rule2 (fun m xs σ' => ∃ (k : Nat) (lv : AVal) (bs : List Nm),k ≤ rs.length ∧ m = rs.length - k ∧ xs = [hv,.ptr li 0,.ptr fi 0,.func 115 [] [.ptr fi 0,.ptr li 0],rsv,.int .i64 rs.length,.int .i64 (k : Nat)] ∧ Grows σ σ' ∧ WayS σ' fi li mid lv (adds [] (rs.take k)) bs ∧ Fresh li lv ∧ Come H rs (adds [] (rs.take k)) bs)
  [0,4,5,6] (fun e xs σ' => e = .exit 0 ∧ xs = [hv,.ptr li 0,.ptr fi 0,.func 115 [] [.ptr fi 0,.ptr li 0]] ∧ Grows σ σ' ∧ ∃ lv bs,WayS σ' fi li mid lv (adds [] rs) bs ∧ Fresh li lv ∧ Come H rs (adds [] rs) bs) rs.length
  ⟨0,.nilslice,[],Nat.zero_le _,rfl,?_,g4,W4,Fresh.nil _,Come.nil H rs⟩ ?_ ?_
 ·simp -dsimp only [↓WPd,↓Zm,↓Zn,WPu,Za,Zb,Zc,Zd,Ze,Zf,Zg,Zh,Nat.reduceEqDiff,Nat.reduceLT,Zi,Zj,Zk,Zl,Nat.reduceBEq]; rfl
 ·rintro m xs σ' ⟨k,lv,bs,hk,rfl,rfl,g,W,fl,cm⟩
  simp -dsimp only [↓WPd,↓Zm,↓Zn,WPu,Za,Zb,Zc,Zd,Ze,Zf,Zg,Zh,Nat.reduceEqDiff,Nat.reduceLT,Zi,Zj,Zk,Zl,Nat.reduceBEq]
  refine condP_dec (fun hc => ?_) (fun hc => ?_)
  ·have hk' : k < rs.length := by omega
   obtain ⟨n1,n2⟩ := names_load (hr.grow g) hk'
   have oj : (σ' ++ [AObj.cells (nmC rs[k])])[σ'.length]? = some (.cells (nmC rs[k])) := by simp
   have g1 : Grows σ' (σ' ++ [AObj.cells (nmC rs[k])]) := Grows.app _ _
   simp -dsimp only [↓WPd,↓Zm,↓Zn,WPu,Za,Zb,Zc,Zd,Ze,Zf,Zg,Zh,Nat.reduceEqDiff,Nat.reduceLT,Zi,Zj,Zk,Zl,Nat.reduceBEq,WPm,n1,n2,nm_putB]
   generalize σ' ++ [AObj.cells (nmC rs[k])] = σ5 at oj g1
   have hal := adds_len [] (rs.take k)
   have htl : (rs.take k).length ≤ rs.length := by simp; omega
   simp only [List.length_nil] at hal
   simp -dsimp only [↓WPd,↓Zm,↓Zn,WPu,Za,Zb,Zc,Zd,Ze,Zf,Zg,Zh,Nat.reduceEqDiff,Nat.reduceLT,Zi,Zj,Zk,Zl,Nat.reduceBEq,WPm,load_nm oj]
   refine calledW_of (come_ok d σ5 fi li mid lv _ bs rs[k] rs[k] (W.grow g1) (by omega)) ?_
   rintro r σ6 ⟨⟨lv',W6,hs6⟩,k6⟩
   have ht : rs.take (k + 1) = rs.take k ++ [rs[k]] := List.take_succ_eq_append_getElem hk'
   simp -dsimp only [↓WPd,↓Zm,↓Zn,WPu,Za,Zb,Zc,Zd,Ze,Zf,Zg,Zh,Nat.reduceEqDiff,Nat.reduceLT,Zi,Zj,Zk,Zl,Nat.reduceBEq,WPm]
   refine ⟨rs.length - (k + 1),by omega,k + 1,lv',_,by omega,rfl,by rw [wrap_i64 (by omega) (by omega),Int.natCast_add,Int.natCast_one],Keeps.trans (g.trans g1) k6 fun i hi e => ?_,by rw [ht,adds_snoc]; exact W6,fun i hi => ?_,by rw [ht,adds_snoc]; exact cm.add (.inl ⟨List.getElem_mem hk',rfl⟩)⟩
   ·rcases e with e | e | e
    ·omega
    ·omega
    ·have := fl i e; omega
   ·rcases hs6 i hi with e | e
    ·exact fl i e
    ·have := (g.trans g1).1; omega
  ·have : k = rs.length := by omega
   subst this
   rw [List.take_length] at W cm
   simp -dsimp only [↓WPd,↓Zm,↓Zn,WPu,Za,Zb,Zc,Zd,Ze,Zf,Zg,Zh,Nat.reduceEqDiff,Nat.reduceLT,Zi,Zj,Zk,Zl,Nat.reduceBEq]
   exact ⟨g,lv,bs,W,fl,cm⟩
 ·rintro e σ5 env ⟨rfl,hv',g5,lv,bs,W5,fl5,cm5⟩
  simp only [List.map_cons,List.map_nil,List.cons.injEq,and_true] at hv'
  obtain ⟨v0,v4,v5,v6⟩ := hv'
  simp -dsimp only [↓WPd,↓Zm,↓Zn,WPu,Za,Zb,Zc,Zd,Ze,Zf,Zg,Zh,Nat.reduceEqDiff,Nat.reduceLT,Zi,Zj,Zk,Zl,Nat.reduceBEq,WPm,v0,v4,v5,v6]
  refine loop_rule2 (fun m xs σ' => ∃ (i : Nat) (lv : AVal) (l bs : List Nm),i ≤ l.length ∧ m = (univ H rs).length - i ∧ xs = [hv,.ptr li 0,.ptr fi 0,.func 115 [] [.ptr fi 0,.ptr li 0],.int .i64 (i : Nat)] ∧ Grows σ σ' ∧ WayS σ' fi li mid lv l bs ∧ Fresh li lv ∧ Way H rs l i ∧ Come H rs l bs)
   [4,5] (fun e xs σ' => e = .exit 2 ∧ xs = [.ptr li 0,.ptr fi 0] ∧ Grows σ σ' ∧ ∃ (lv : AVal) (l bs : List Nm),WayS σ' fi li mid lv l bs ∧ Fresh li lv ∧ Way H rs l l.length ∧ Come H rs l bs) (univ H rs).length
   ⟨0,lv,adds [] rs,bs,Nat.zero_le _,rfl,?_,g5,W5,fl5,Way.start H rs,cm5⟩ ?_ ?_
  ·simp -dsimp only [↓WPd,↓Zm,↓Zn,WPu,Za,Zb,Zc,Zd,Ze,Zf,Zg,Zh,Nat.reduceEqDiff,Nat.reduceLT,Zi,Zj,Zk,Zl,Nat.reduceBEq,v0,v4,v5,v6]; rfl
  ·rintro m xs σ' ⟨i,lv,l,bs,hi,rfl,rfl,g,W,fl,wy,cm⟩
   have e1 : ([lv] : List AVal)[0]? = some lv := rfl
   have ll := W.own.sl.len
   rw [List.length_map] at ll
   have hlu := wy.len
   simp -dsimp only [↓WPd,↓Zm,↓Zn,WPu,Za,Zb,Zc,Zd,Ze,Zf,Zg,Zh,Nat.reduceEqDiff,Nat.reduceLT,Zi,Zj,Zk,Zl,Nat.reduceBEq,WPm,load_cells W.lc,e1,ll]
   refine condP_dec (fun hc => ?_) (fun hc => ?_)
   ·have hi' : i < l.length := by omega
    obtain ⟨n1,n2⟩ := names_load W.own.sl hi'
    simp -dsimp only [↓WPd,↓Zm,↓Zn,WPu,Za,Zb,Zc,Zd,Ze,Zf,Zg,Zh,Nat.reduceEqDiff,Nat.reduceLT,Zi,Zj,Zk,Zl,Nat.reduceBEq,WPm,load_cells W.lc,e1,n1,n2]
    refine calledW_of (nextn_ok d σ' hv H hw l[i] (h.grow g)) ?_
    rintro r σ6 ⟨g6,or,fr⟩
    have sl := stepN_len hw l[i]
    have lr6 := or.sl.len
    rw [List.length_map] at lr6
    have hg6 := g6.1
    have W6 := W.grow g6
    have fl6 : ∀ j,lv.sid = some j → r.sid ≠ some j := fun j hj e => by have := W.own.sl.lt hj; have := fr j e; omega
    have hrs6 : ∀ j,r.sid = some j → j < σ6.length := fun j hj => or.sl.lt hj
    obtain ⟨w0,hw0⟩ : ∃ w0,w0 = l[i] := ⟨_,rfl⟩
    rw [← hw0] at or sl lr6
    simp -dsimp only [↓WPd,↓Zm,↓Zn,WPu,Za,Zb,Zc,Zd,Ze,Zf,Zg,Zh,Nat.reduceEqDiff,Nat.reduceLT,Zi,Zj,Zk,Zl,Nat.reduceBEq,WPm,lr6]
    refine loop_rule2 (fun m xs σ' => ∃ (k : Nat) (lv2 : AVal) (l2 bs2 : List Nm),k ≤ (stepN H w0).length ∧ m = (stepN H w0).length - k ∧ xs = [hv,.ptr li 0,.ptr fi 0,.func 115 [] [.ptr fi 0,.ptr li 0],.int .i64 (i : Nat),r,.int .i64 (stepN H w0).length,.int .i64 (k : Nat)] ∧ Grows σ σ' ∧ σ6.length ≤ σ'.length ∧ l2 = adds l ((stepN H w0).take k) ∧ WayS σ' fi li mid lv2 l2 bs2 ∧ Fresh li lv2 ∧ Own σ' 2 r (NN (stepN H w0)) ∧ (∀ j,lv2.sid = some j → r.sid ≠ some j) ∧ Come H rs l2 bs2)
     [0,4,5,6,9] (fun e xs σ' => e = .exit 4 ∧ xs = [hv,.ptr li 0,.ptr fi 0,.func 115 [] [.ptr fi 0,.ptr li 0],.int .i64 (i : Nat)] ∧ Grows σ σ' ∧ ∃ (lv2 : AVal) (bs2 : List Nm),WayS σ' fi li mid lv2 (adds l (stepN H w0)) bs2 ∧ Fresh li lv2 ∧ Come H rs (adds l (stepN H w0)) bs2) (stepN H w0).length
     ⟨0,lv,l,bs,Nat.zero_le _,rfl,?_,g.trans g6,Nat.le_refl _,by simp [adds],W6,fl,or,fl6,cm⟩ ?_ ?_
    ·simp -dsimp only [↓WPd,↓Zm,↓Zn,WPu,Za,Zb,Zc,Zd,Ze,Zf,Zg,Zh,Nat.reduceEqDiff,Nat.reduceLT,Zi,Zj,Zk,Zl,Nat.reduceBEq]; rfl
    ·rintro m xs σ7 ⟨k,lv2,l2,bs2,hk,rfl,rfl,g7,hl7,hl2,W7,f7,o7,d7,cm7⟩
     simp -dsimp only [↓WPd,↓Zm,↓Zn,WPu,Za,Zb,Zc,Zd,Ze,Zf,Zg,Zh,Nat.reduceEqDiff,Nat.reduceLT,Zi,Zj,Zk,Zl,Nat.reduceBEq]
     refine condP_dec (fun hc => ?_) (fun hc => ?_)
     ·have hk' : k < (stepN H w0).length := by omega
      obtain ⟨m1,m2⟩ := names_load o7.sl hk'
      have oj : (σ7 ++ [AObj.cells (nmC (stepN H w0)[k])])[σ7.length]? = some (.cells (nmC (stepN H w0)[k])) := by simp
      have g8 : Grows σ7 (σ7 ++ [AObj.cells (nmC (stepN H w0)[k])]) := Grows.app _ _
      simp -dsimp only [↓WPd,↓Zm,↓Zn,WPu,Za,Zb,Zc,Zd,Ze,Zf,Zg,Zh,Nat.reduceEqDiff,Nat.reduceLT,Zi,Zj,Zk,Zl,Nat.reduceBEq,WPm,m1,m2,nm_putB]
      generalize σ7 ++ [AObj.cells (nmC (stepN H w0)[k])] = σ8 at oj g8
      have W8 := W7.grow g8
      have e2 : ([lv2] : List AVal)[0]? = some lv2 := rfl
      obtain ⟨x,hx⟩ := adds_pre ((stepN H w0).take k) l
      have hl2i : i < l2.length := by rw [hl2,hx,List.length_append]; omega
      obtain ⟨p1,p2⟩ := names_load W8.own.sl hl2i
      have hl2l : l2.length ≤ l.length + 256 := by
       have := adds_len l ((stepN H w0).take k)
       rw [hl2]
       have : ((stepN H w0).take k).length ≤ 256 := by simp; omega
       omega
      simp -dsimp only [↓WPd,↓Zm,↓Zn,WPu,Za,Zb,Zc,Zd,Ze,Zf,Zg,Zh,Nat.reduceEqDiff,Nat.reduceLT,Zi,Zj,Zk,Zl,Nat.reduceBEq,WPm,load_nm oj,load_cells W8.lc,e2,p1,p2]
      refine calledW_of (come_ok d σ8 fi li mid lv2 l2 bs2 _ _ W8 (by omega)) ?_
      rintro r9 σ9 ⟨⟨lv3,W9,hs9⟩,k9⟩
      have ht : (stepN H w0).take (k + 1) = (stepN H w0).take k ++ [(stepN H w0)[k]] := List.take_succ_eq_append_getElem hk'
      have o8 := o7.grow g8
      have hk9 := k9.1
      have hg8 := g8.1
      have hg7 := g7.1
      simp -dsimp only [↓WPd,↓Zm,↓Zn,WPu,Za,Zb,Zc,Zd,Ze,Zf,Zg,Zh,Nat.reduceEqDiff,Nat.reduceLT,Zi,Zj,Zk,Zl,Nat.reduceBEq,WPm]
      refine ⟨(stepN H w0).length - (k + 1),by omega,k + 1,lv3,addN l2 (stepN H w0)[k],_,by omega,rfl,by rw [wrap_i64 (by omega) (by omega),Int.natCast_add,Int.natCast_one],Keeps.trans (g7.trans g8) k9 fun j hj e => ?_,by omega,by rw [ht,adds_snoc,hl2],W9,fun j hj => ?_,o8.keeps k9 fun j hj e => ?_,fun j hj e => ?_,cm7.add (.inr ⟨i,hl2i,rfl,?_⟩)⟩
      ·rcases e with e | e | e
       ·omega
       ·omega
       ·have := f7 j e; omega
      ·rcases hs9 j hj with e | e
       ·exact f7 j e
       ·omega
      ·rcases e with e | e | e
       ·exact o8.noMap W8.mc (e ▸ hj)
       ·exact o8.noCell W8.lc (e ▸ hj)
       ·exact d7 j e hj
      ·rcases hs9 j hj with e' | e'
       ·exact d7 j e' e
       ·have := hrs6 j e; omega
      ·have key : ∀ (y : List Nm) (hy : y = l ++ x) (j : Nat) (hj : j < l.length) (h : j < y.length),y[j] = l[j] := by
        intro y hy j hj h; subst hy; exact List.getElem_append_left hj
       have e : l2[i] = w0 := by
        rw [hw0]; exact key l2 (by rw [hl2,hx]) i hi' hl2i
       refine ⟨by rw [e]; exact List.getElem_mem hk',fun hn j hj hm => hn ?_⟩
       rw [key l2 (by rw [hl2,hx]) j (by omega) (by omega)] at hm
       have := wy.done j (by omega) hj _ hm
       rw [hl2]; exact adds_mem.2 (.inl this)
     ·have : k = (stepN H w0).length := by omega
      subst this
      rw [List.take_length] at hl2
      subst hl2
      simp -dsimp only [↓WPd,↓Zm,↓Zn,WPu,Za,Zb,Zc,Zd,Ze,Zf,Zg,Zh,Nat.reduceEqDiff,Nat.reduceLT,Zi,Zj,Zk,Zl,Nat.reduceBEq]
      exact ⟨g7,lv2,bs2,W7,f7,cm7⟩
    ·rintro e σ7 env ⟨rfl,hv',g7,lv2,bs2,W7,f7,cm7⟩
     simp only [List.map_cons,List.map_nil,List.cons.injEq,and_true] at hv'
     obtain ⟨v0,v4,v5,v6,v9⟩ := hv'
     have wn := wy.next hi'
     rw [← hw0] at wn
     have hil : i + 1 ≤ (adds l (stepN H w0)).length := by
      obtain ⟨x,hx⟩ := adds_pre (stepN H w0) l
      rw [hx,List.length_append]; omega
     have hnu := wn.len
     simp -dsimp only [↓WPd,↓Zm,↓Zn,WPu,Za,Zb,Zc,Zd,Ze,Zf,Zg,Zh,Nat.reduceEqDiff,Nat.reduceLT,Zi,Zj,Zk,Zl,Nat.reduceBEq,WPm,v0,v4,v5,v6,v9]
     refine ⟨(univ H rs).length - (i + 1),by omega,i + 1,lv2,_,bs2,hil,rfl,by rw [wrap_i64 (by omega) (by omega),Int.natCast_add,Int.natCast_one],g7,W7,f7,wn,cm7⟩
   ·have : i = l.length := by omega
    subst this
    simp -dsimp only [↓WPd,↓Zm,↓Zn,WPu,Za,Zb,Zc,Zd,Ze,Zf,Zg,Zh,Nat.reduceEqDiff,Nat.reduceLT,Zi,Zj,Zk,Zl,Nat.reduceBEq]
    exact ⟨g,lv,l,bs,W,fl,wy,cm⟩
  ·rintro e σ6 env ⟨rfl,hv',g6,lv,l,bs,W,fl,wy,cm⟩
   simp only [List.map_cons,List.map_nil,List.cons.injEq,and_true] at hv'
   obtain ⟨v4,v5⟩ := hv'
   have e1 : ([lv] : List AVal)[0]? = some lv := rfl
   have e2 : ([AVal.map mid] : List AVal)[0]? = some (.map mid) := rfl
   simp -dsimp only [↓WPd,↓Zm,↓Zn,WPu,Za,Zb,Zc,Zd,Ze,Zf,Zg,Zh,Nat.reduceEqDiff,Nat.reduceLT,Zi,Zj,Zk,Zl,Nat.reduceBEq,WPm,v4,v5]
   refine drawnP_of rfl ?_
   have s1 : storeV σ6 1 (.ptr li 0) lv = some σ6 := by
    rw [store_cells W.lc (off := 0) (by simp) W.own.one]
    exact congrArg some (set_here W.lc)
   have s2 : storeV σ6 1 (.ptr fi 0) (.map mid) = some σ6 := by
    rw [store_cells W.fc (off := 0) (by simp) rfl]
    exact congrArg some (set_here W.fc)
   simp -dsimp only [↓WPd,↓Zm,↓Zn,WPu,Za,Zb,Zc,Zd,Ze,Zf,Zg,Zh,Nat.reduceEqDiff,Nat.reduceLT,Zi,Zj,Zk,Zl,Nat.reduceBEq,↓WPed,WPeu,Nat.reduceAdd,and_self,v4,v5,load_cells W.lc,load_cells W.fc,e1,e2,s1,s2,resultsA,resOf,mapO]
   exact ⟨g6,lv,mid,l,bs,rfl,W.own,fl,wy.nodup,wy.all,W.mc,by omega,W.nilc,⟨cm,wy.tr⟩⟩
theorem Own.shape {σ : Store} {sz : Nat} {v : AVal} {es : List AVal} (h : Own σ sz v es) (hn : NoLit v) (he : es ≠ []) : ∃ id ep fl,v = .slice sz id ep 0 es.length none ∧ σ[id]? = some (.arr sz es ep fl) := by
 rcases h.own with ⟨_,e⟩ | ⟨t,rfl⟩ | ⟨id,ep,off,cap,xs,epo,fl,rfl,ho,hf,he',hl,hc⟩
 ·exact (he e).elim
 ·exact (he hn).elim
 ·rcases hc with ⟨rfl,rfl,rfl,rfl⟩ | rfl
  ·exact ⟨id,_,fl,rfl,ho⟩
  ·exact hn.elim
theorem nclone_ok (d : Nat) (σ : Store) (b : AVal) (t : List Nm) (hs : t.length < 2 ^ 40) (hb : SlOf σ 2 b (NN t)) (hnil : t = [] → b = .nilslice) : Called CU.cfg d 75 [b] σ fun v σ' => Grows σ σ' ∧ Own σ' 2 v (NN t) ∧ Fresh σ.length v ∧ NoLit v ∧ (t = [] → v = .nilslice) := by
 refine called_of (fn := CU.a75) rfl (Nat.le_of_ble_eq_true rfl) ?_
 obtain ⟨x,hx,hx'⟩ := hb.isnil
 simp only [CU.a75, CU.o]
 simp -dsimp only [↓WPd,↓Zm,↓Zn,WPu,Za,Zb,Zc,Zd,Ze,Zf,Zg,Zh,Nat.reduceEqDiff,Nat.reduceLT,Zi,Zj,Zk,Zl,Nat.reduceBEq,hx,Bool.false_eq_true]
 refine condP_intro (fun h => ?_) (fun h => ?_)
 ·obtain ⟨rfl,he⟩ := hx' h
  simp -dsimp only [↓WPd,↓Zm,↓Zn,WPu,Za,Zb,Zc,Zd,Ze,Zf,Zg,Zh,Nat.reduceEqDiff,Nat.reduceLT,Zi,Zj,Zk,Zl,Nat.reduceBEq]
  exact ⟨Keeps.refl _ _,by rw [he]; exact Own.nil _ _,(fun id h => by cases h),trivial,fun _ => trivial⟩
 ·have hne : t ≠ [] := fun e => by
   rw [hnil e] at hx
   cases hx
   cases h
  simp -dsimp only [↓WPd,↓Zm,↓Zn,WPu,Za,Zb,Zc,Zd,Ze,Zf,Zg,Zh,Nat.reduceEqDiff,Nat.reduceLT,Zi,Zj,Zk,Zl,Nat.reduceBEq,hb.els]
  refine stepP_of [] rfl ?_
  have ho : Own σ 2 (.fslice (AVal.tagL []) true 2 []) [] := ⟨.inr (.inl ⟨_,rfl⟩)⟩
  obtain ⟨v',σ',h1,h2,h3,h4,h5⟩ := ho.append (NN t) 16 (by rw [List.length_map]; simp; omega)
  simp -dsimp only [↓WPd,↓Zm,↓Zn,WPu,Za,Zb,Zc,Zd,Ze,Zf,Zg,Zh,Nat.reduceEqDiff,Nat.reduceLT,Zi,Zj,Zk,Zl,Nat.reduceBEq,hb.els,h1]
  refine ⟨h3.mono (fun i _ h => by cases h),by simpa using h2,fun id hid => ?_,h5 (.inl rfl),fun e => (hne e).elim⟩
  rcases h4 id hid with h | h
  ·cases h
  ·omega
theorem sortf_ok (d : Nat) (σ : Store) (v : AVal) (l : List Nm) (h : Own σ 2 v (NN l)) (hn : NoLit v) (hnil : l = [] → v = .nilslice) (hl : l.length < 2 ^ 40) : Called CU.cfg d 116 [v,.func 117 [] []] σ fun r σ' => Own σ' 2 v (NN (sortN l)) ∧ Keeps (fun i => v.sid = some i) σ σ' := by
 cases l with
 | nil =>
  rw [hnil rfl]
  refine called_nat (g := natSO 117) rfl rfl ⟨Own.nil _ _,Keeps.refl _ _⟩
 | cons x r =>
  obtain ⟨id,ep,fl,rfl,ho⟩ := h.shape hn (by simp)
  have he : natSO 117 [.slice 2 id ep 0 (NN (x :: r)).length none,.func 117 [] []] σ = some (.tuple [],σ.set id (.arr 2 ((sortN (x :: r)).map nmV) ep ep)) := by
   have hp : 0 < (NN (x :: r)).length ∧ (NN (x :: r)).length ≤ 8796093022208 := by rw [List.length_map]; simp only [List.length_cons] at hl ⊢; omega
   simp only [natSO,if_true,ho,hp,and_self,nmsOf_map]
  refine called_nat (g := natSO 117) rfl he ⟨?_,Keeps.set _ _ _ |>.mono fun i _ e => by rw [e]; rfl⟩
  have hlen : (NN (sortN (x :: r))).length = (NN (x :: r)).length := by rw [List.length_map,List.length_map,sortN_len]
  have hw := Own.whole (σ := σ.set id (.arr 2 (NN (sortN (x :: r))) ep ep)) (sz := 2) (id := id) (ep := ep) (fl := ep) (es := NN (sortN (x :: r))) (get_set ho) (Nat.le_refl _)
  rw [hlen] at hw
  exact hw
theorem from_look {σ : Store} {mid : Nat} {l bs : List Nm} (hm : σ[mid]? = some (.map (l.map nmV) (bs.map nmV))) (hl : bs.length = l.length) (v : Nm) :
  ∃ x : Nm,lookupV σ true [.i,.i] (.agg [.int .i64 0,.int .i64 0]) (.map mid) (nmV v) true = some (.tuple [nmV x,.bool (l.contains v)]) ∧
   lookupV σ true [.i,.i] (.agg [.int .i64 0,.int .i64 0]) (.map mid) (nmV v) false = some (nmV x) ∧ (v ∈ l → ∃ (i : Nat) (hi : i < l.length) (hb : i < bs.length),l[i] = v ∧ x = bs[i]) := by
 obtain ⟨o,f1,f2⟩ := find_names v l
 have hk : keyEq true [.i,.i] (nmV v) (nmV v) = some true := by rw [nm_keyEq,decide_eq_true rfl]
 have hf : findKK true [.i,.i] (nmV v) (l.map nmV) = some o := by simp only [findKK,hk,Option.isSome_some,if_true,f1]
 have hmo : mapOf σ (.map mid) = some (l.map nmV,bs.map nmV) := by simp only [mapOf,hm]
 cases o with
 | none =>
  have hc : l.contains v = false := by simpa using f2
  refine ⟨(0,0),?_,?_,fun h => (f2 h).elim⟩
  ·rw [hc]; simp only [lookupV,hmo,hf]; rfl
  ·simp only [lookupV,hmo,hf]; rfl
 | some i =>
  obtain ⟨hi,he⟩ := List.getElem?_eq_some_iff.1 f2
  have hib : i < bs.length := by rw [hl]; exact hi
  have hc : l.contains v = true := by simpa using List.mem_of_getElem? f2
  have e : (bs.map nmV)[i]? = some (nmV bs[i]) := by simp [hib]
  refine ⟨bs[i],?_,?_,fun _ => ⟨i,hi,hib,he,rfl⟩⟩
  ·rw [hc]; simp only [lookupV,hmo,hf,e,Option.map_some]; rfl
  ·simp only [lookupV,hmo,hf,e,Option.map_some]; rfl
theorem WF.lk_small {H : Hp} (hw : WF H) {v : Nm} {t : List Cel} (h : lk H v = some t) : Small t := right_small (glob_right (hw.ok _ (lk_mem h)).2.2.1)
section
variable (d : Nat) (σ : Store)
theorem rnext_ok (rv : AVal) (R : Hp) (v : Nm) (h : RefV σ rv R) (hw : WF R) (hR : R.length < 2 ^ 30) : Called CU.cfg d 64 [rv,nmV v] σ fun r σ' => Grows σ σ' ∧ SlOf σ' 2 r (NN (stepN R v)) := by
 refine called_of (fn := CU.a64) rfl (Nat.le_of_ble_eq_true rfl) ?_
 simp only [CU.a64, CU.o]
 simp -dsimp only [↓WPd,↓Zm,↓Zn,WPu,Za,Zb,Zc,Zd,Ze,Zf,Zg,Zh,Nat.reduceEqDiff,Nat.reduceLT,Zi,Zj,Zk,Zl,Nat.reduceBEq,WPm,nm_cells,nm_one]
 have ho : (σ ++ [AObj.cells (nmC v)])[σ.length]? = some (.cells (nmC v)) := by simp
 have g0 : Grows σ (σ ++ [AObj.cells (nmC v)]) := Grows.app _ _
 have h1 := h.grow g0
 generalize σ ++ [AObj.cells (nmC v)] = σ1 at ho g0 h1
 simp -dsimp only [↓WPd,↓Zm,↓Zn,WPu,Za,Zb,Zc,Zd,Ze,Zf,Zg,Zh,Nat.reduceEqDiff,Nat.reduceLT,Zi,Zj,Zk,Zl,Nat.reduceBEq,WPm,load_nm ho]
 refine calledW_of (rvalue_ok d σ1 σ1 rv R v h1 (Keeps.refl _ _) (by omega)) ?_
 rintro r σ2 ⟨u,rfl,su,g2⟩
 unfold stepN
 cases hl : lk R v with
 | none =>
  simp -dsimp only [↓WPd,↓Zm,↓Zn,WPu,Za,Zb,Zc,Zd,Ze,Zf,Zg,Zh,Nat.reduceEqDiff,Nat.reduceLT,Zi,Zj,Zk,Zl,Nat.reduceBEq,WPm,List.getElem?_cons_zero,List.getElem?_cons_succ,Option.isSome_none]
  exact ⟨g0.trans g2,SlOf.nil _ _⟩
 | some t =>
  rw [hl] at su
  simp -dsimp only [↓WPd,↓Zm,↓Zn,WPu,Za,Zb,Zc,Zd,Ze,Zf,Zg,Zh,Nat.reduceEqDiff,Nat.reduceLT,Zi,Zj,Zk,Zl,Nat.reduceBEq,WPm,List.getElem?_cons_zero,List.getElem?_cons_succ,Option.isSome_some]
  refine calledW_of (rvarsof_ok d σ2 u t (hw.lk_small hl) (su.grow g2)) ?_
  rintro r σ3 ⟨g3,or⟩
  simp -dsimp only [↓WPd,↓Zm,↓Zn,WPu,Za,Zb,Zc,Zd,Ze,Zf,Zg,Zh,Nat.reduceEqDiff,Nat.reduceLT,Zi,Zj,Zk,Zl,Nat.reduceBEq]
  exact ⟨(g0.trans g2).trans g3,or.sl⟩
set_option maxHeartbeats 1000000 in
theorem rising_ok (mv : AVal) (ms : List Nm) (hd : ms.Nodup) (hn : ms.length < 2 ^ 39) (hm : SlOf σ 2 mv (NN ms)) : Called CU.cfg d 65 [.nilslice,mv] σ fun r σ' => Grows σ σ' ∧ SlOf σ' 2 r (NN (sortN ms)) := by
 refine called_of (fn := CU.a65) rfl (Nat.le_of_ble_eq_true rfl) ?_
 simp only [CU.a65, CU.o]
 simp -dsimp only [↓WPd,↓Zm,↓Zn,WPu,Za,Zb,Zc,Zd,Ze,Zf,Zg,Zh,Nat.reduceEqDiff,Nat.reduceLT,Zi,Zj,Zk,Zl,Nat.reduceBEq]
 refine loop_rule2 (fun m xs σ' => ∃ (i : Nat) (lv : AVal),i ≤ ms.length ∧ m = ms.length - i ∧ xs = [lv,mv,.int .i64 (i : Nat)] ∧ Grows σ σ' ∧ SlOf σ' 2 lv (NN (riseN [] (ms.take i))))
  [0] (fun e xs σ' => e = .exit 0 ∧ ∃ lv,xs = [lv] ∧ Grows σ σ' ∧ SlOf σ' 2 lv (NN (riseN [] ms))) ms.length
  ⟨0,.nilslice,Nat.zero_le _,rfl,?_,Keeps.refl _ _,SlOf.nil _ _⟩ ?_ ?_
 ·simp -dsimp only [↓WPd,↓Zm,↓Zn,WPu,Za,Zb,Zc,Zd,Ze,Zf,Zg,Zh,Nat.reduceEqDiff,Nat.reduceLT,Zi,Zj,Zk,Zl,Nat.reduceBEq]; rfl
 ·rintro m xs σ1 ⟨i,lv,hi,rfl,rfl,g1,sl⟩
  have lm := (hm.grow g1).len
  rw [List.length_map] at lm
  simp -dsimp only [↓WPd,↓Zm,↓Zn,WPu,Za,Zb,Zc,Zd,Ze,Zf,Zg,Zh,Nat.reduceEqDiff,Nat.reduceLT,Zi,Zj,Zk,Zl,Nat.reduceBEq,lm]
  refine condP_dec (fun hc => ?_) (fun hc => ?_)
  ·have hi' : i < ms.length := by omega
   obtain ⟨x,hx⟩ : ∃ x,x = ms[i] := ⟨_,rfl⟩
   have hrl := riseN_len [] (ms.take i)
   rw [List.length_take,Nat.min_eq_left (by omega)] at hrl
   simp only [List.length_nil,Nat.zero_add] at hrl
   have hxn : x ∉ riseN [] (ms.take i) := fun h => by
    rcases riseN_mem.1 h with h | h
    ·cases h
    ·obtain ⟨j,hj,hje⟩ := List.mem_iff_getElem.1 h
     rw [List.getElem_take] at hje
     have hji : j < i := by simp at hj; omega
     exact List.pairwise_iff_getElem.1 hd j i (by omega) hi' hji (by rw [hje,hx])
   have ht : ms.take (i + 1) = ms.take i ++ [x] := by rw [hx]; exact List.take_succ_eq_append_getElem hi'
   have hins : riseN [] (ms.take (i + 1)) = insN x (riseN [] (ms.take i)) := by rw [ht,riseN_snoc]
   generalize riseN [] (ms.take i) = ls at sl hrl hxn hins
   have mx : ∀ {σ' : Store},Grows σ σ' → iaddrV 2 mv (.int .i64 i) = some (addrOf 2 mv i) ∧ loadV σ' 2 true (addrOf 2 mv i) = some (nmV x) := fun g => by rw [hx]; exact names_at (hm.grow g) hi'
   simp -dsimp only [↓WPd,↓Zm,↓Zn,WPu,Za,Zb,Zc,Zd,Ze,Zf,Zg,Zh,Nat.reduceEqDiff,Nat.reduceLT,Zi,Zj,Zk,Zl,Nat.reduceBEq]
   refine loop_rule2 (fun m xs σ' => ∃ (k : Nat) (nx : AVal),k ≤ ls.length ∧ m = ls.length - k ∧ xs = [lv,mv,.int .i64 (i : Nat),nx,.int .i64 (k : Nat)] ∧ Grows σ σ' ∧ SlOf σ' 2 lv (NN ls) ∧ Own σ' 2 nx (NN (ls.take k)) ∧ Fresh σ.length nx ∧ ∀ (j : Nat) (hj : j < ls.length),j < k → nless ls[j] x = true)
    [0,1,5,6,7] (fun e xs σ' => e = .exit 2 ∧ ∃ (k : Nat) (nx : AVal),k ≤ ls.length ∧ xs = [lv,mv,.int .i64 (i : Nat),nx,.int .i64 (k : Nat)] ∧ Grows σ σ' ∧ SlOf σ' 2 lv (NN ls) ∧ Own σ' 2 nx (NN (ls.take k)) ∧ Fresh σ.length nx ∧ (∀ (j : Nat) (hj : j < ls.length),j < k → nless ls[j] x = true) ∧ ∀ hk : k < ls.length,nless ls[k] x = false) ls.length
    ⟨0,.nilslice,Nat.zero_le _,rfl,?_,g1,sl,Own.nil _ _,Fresh.nil _,fun j _ h => by omega⟩ ?_ ?_
   ·simp -dsimp only [↓WPd,↓Zm,↓Zn,WPu,Za,Zb,Zc,Zd,Ze,Zf,Zg,Zh,Nat.reduceEqDiff,Nat.reduceLT,Zi,Zj,Zk,Zl,Nat.reduceBEq]; rfl
   ·rintro m xs σ2 ⟨k,nx,hk,rfl,rfl,g2,sl2,on,fn,hlt⟩
    have ll := sl2.len
    rw [List.length_map] at ll
    obtain ⟨x1,x2⟩ := mx g2
    by_cases hc : k < ls.length
    ·have dc : decide ((k : Int) < (ls.length : Int)) = true := decide_eq_true (by omega)
     obtain ⟨n1,n2⟩ := names_at sl2 hc
     simp -dsimp only [↓WPd,↓Zm,↓Zn,WPu,Za,Zb,Zc,Zd,Ze,Zf,Zg,Zh,Nat.reduceEqDiff,Nat.reduceLT,Zi,Zj,Zk,Zl,Nat.reduceBEq,ll,dc,n1,n2,x1,x2]
     refine calledW_of (rless_ok d σ2 ls[k] x) ?_
     rintro r σ3 ⟨rfl,g3⟩
     cases hle : nless ls[k] x with
     | true =>
      have sl3 := sl2.grow g3
      obtain ⟨m1,m2⟩ := names_at sl3 hc
      obtain ⟨nx',σ4,a1,a2,a3,a4,a5⟩ := (on.grow g3).name ls[k] (by simp; omega)
      have fl := elems2 (AVal.tagL [nmV ls[k]]) σ3 (nmV ls[k])
      simp -dsimp only [↓WPd,↓Zm,↓Zn,WPu,Za,Zb,Zc,Zd,Ze,Zf,Zg,Zh,Nat.reduceEqDiff,Nat.reduceLT,Zi,Zj,Zk,Zl,Nat.reduceBEq,m1,m2,nm_lit,fl,a1]
      have tk : ls.take (k + 1) = ls.take k ++ [ls[k]] := List.take_succ_eq_append_getElem hc
      refine ⟨ls.length - (k + 1),by omega,k + 1,nx',by omega,rfl,by rw [wrap_i64 (by omega) (by omega),Int.natCast_add,Int.natCast_one],Keeps.trans (g2.trans g3) a3 fun j hj e => by have := fn j e; omega,(on.grow g3).append_view a1 sl3,by rw [tk]; exact a2,fun j hj => ?_,fun j hj hjk => ?_⟩
      ·rcases a4 j hj with e | e
       ·exact fn j e
       ·have := (g2.trans g3).1; omega
      ·by_cases e : j = k
       ·subst e; exact hle
       ·exact hlt j hj (by omega)
     | false =>
      simp -dsimp only [↓WPd,↓Zm,↓Zn,WPu,Za,Zb,Zc,Zd,Ze,Zf,Zg,Zh,Nat.reduceEqDiff,Nat.reduceLT,Zi,Zj,Zk,Zl,Nat.reduceBEq]
      exact ⟨k,nx,hk,rfl,g2.trans g3,sl2.grow g3,on.grow g3,fn,hlt,fun _ => hle⟩
    ·have dc : decide ((k : Int) < (ls.length : Int)) = false := decide_eq_false (by omega)
     simp -dsimp only [↓WPd,↓Zm,↓Zn,WPu,Za,Zb,Zc,Zd,Ze,Zf,Zg,Zh,Nat.reduceEqDiff,Nat.reduceLT,Zi,Zj,Zk,Zl,Nat.reduceBEq,ll,dc]
     exact ⟨k,nx,hk,rfl,g2,sl2,on,fn,hlt,fun h => absurd h hc⟩
   ·rintro e σ2 env ⟨rfl,k,nx,hk,hv,g2,sl2,on,fn,hlt,hst⟩
    simp only [List.map_cons,List.map_nil,List.cons.injEq,and_true] at hv
    obtain ⟨v0,v1,v5,v6,v7⟩ := hv
    have ll := sl2.len
    rw [List.length_map] at ll
    obtain ⟨x1,x2⟩ := mx g2
    obtain ⟨nx',σ3,a1,a2,a3,a4,a5⟩ := on.name x (by simp; omega)
    have fl := elems2 (AVal.tagL [nmV x]) σ2 (nmV x)
    have sl3 := on.append_view a1 sl2
    have g3 : Grows σ σ3 := Keeps.trans g2 a3 fun j hj e => by have := fn j e; omega
    have f3 : Fresh σ.length nx' := fun j hj => by
     rcases a4 j hj with e | e
     ·exact fn j e
     ·have := g2.1; omega
    obtain ⟨y1,y2⟩ := mx g3
    have ll3 := sl3.len
    rw [List.length_map] at ll3
    have hkn : k ≤ (NN ls).length := by rw [List.length_map]; exact hk
    obtain ⟨dv,d1,d2,d3⟩ := sl3.sub_lo hkn .i64
    have ed : (NN ls).drop k = NN (ls.drop k) := by simp [List.map_drop]
    rw [ed] at d2
    obtain ⟨z,σ4,b1,b2,b3,b4,b5⟩ := a2.append (NN (ls.drop k)) 16 (by simp; omega)
    have ez : NN (ls.take k ++ [x]) ++ NN (ls.drop k) = NN (insN x ls) := by
     rw [← insN_at hk hxn hlt hst]; simp
    rw [ez] at b2
    have fin : ∃ m',m' < ms.length - i ∧ ∃ (i_1 : Nat) (lv : AVal),i_1 ≤ ms.length ∧ m' = ms.length - i_1 ∧ [z,mv,AVal.int .i64 (IntKind.i64.wrap ((i : Int) + 1))] = [lv,mv,.int .i64 (i_1 : Nat)] ∧ Grows σ σ4 ∧ SlOf σ4 2 lv (NN (riseN [] (ms.take i_1))) :=
     ⟨ms.length - (i + 1),by omega,i + 1,z,by omega,rfl,by rw [wrap_i64 (by omega) (by omega),Int.natCast_add,Int.natCast_one],Keeps.trans g3 b3 fun j hj e => by have := f3 j e; omega,by rw [hins]; exact b2.sl⟩
    by_cases hc : k < ls.length
    ·have dc : decide ((k : Int) < (ls.length : Int)) = true := decide_eq_true (by omega)
     obtain ⟨n1,n2⟩ := names_at sl3 hc
     have hne : ls[k] ≠ x := fun e => hxn (by rw [← e]; exact List.getElem_mem hc)
     simp -dsimp only [↓WPd,↓Zm,↓Zn,WPu,Za,Zb,Zc,Zd,Ze,Zf,Zg,Zh,Nat.reduceEqDiff,Nat.reduceLT,Zi,Zj,Zk,Zl,Nat.reduceBEq,v0,v1,v5,v6,v7,x1,x2,nm_lit,fl,a1,ll3,dc,n1,n2,y1,y2,nm_eqs,decide_eq_false hne,oev,d1,d2.els,b1]
     exact fin
    ·have dc : decide ((k : Int) < (ls.length : Int)) = false := decide_eq_false (by omega)
     simp -dsimp only [↓WPd,↓Zm,↓Zn,WPu,Za,Zb,Zc,Zd,Ze,Zf,Zg,Zh,Nat.reduceEqDiff,Nat.reduceLT,Zi,Zj,Zk,Zl,Nat.reduceBEq,v0,v1,v5,v6,v7,x1,x2,nm_lit,fl,a1,ll3,dc,oev,d1,d2.els,b1]
     exact fin
  ·have : i = ms.length := by omega
   subst this
   rw [List.take_length] at sl
   simp -dsimp only [↓WPd,↓Zm,↓Zn,WPu,Za,Zb,Zc,Zd,Ze,Zf,Zg,Zh,Nat.reduceEqDiff,Nat.reduceLT,Zi,Zj,Zk,Zl,Nat.reduceBEq]
   exact ⟨lv,rfl,g1,sl⟩
 ·rintro e σ' env ⟨rfl,lv,hv,g,sl⟩
  simp only [List.map_cons,List.map_nil,List.cons.injEq,and_true] at hv
  simp -dsimp only [↓WPd,↓Zm,↓Zn,WPu,Za,Zb,Zc,Zd,Ze,Zf,Zg,Zh,Nat.reduceEqDiff,Nat.reduceLT,Zi,Zj,Zk,Zl,Nat.reduceBEq,hv]
  rw [riseN_sort] at sl
  exact ⟨g,sl⟩
theorem addN_in {l : List Nm} {v : Nm} (h : l.contains v = true) : addN l v = l := by unfold addN; rw [if_pos h]
theorem addN_out {l : List Nm} {v : Nm} (h : l.contains v = false) : addN l v = l ++ [v] := by unfold addN; rw [if_neg (by rw [h]; simp)]
set_option maxHeartbeats 2000000 in
theorem rneeded_ok (rv : AVal) (R : Hp) (hw : WF R) (hR : R.length < 2 ^ 28) (rsv : AVal) (rs : List Nm) (h : RefV σ rv R) (hr : SlOf σ 2 rsv (NN rs)) (hrs : rs.length < 2 ^ 37) :
  Called CU.cfg d 16 [rv,rsv] σ fun r σ' => Grows σ σ' ∧ ∃ l,SlOf σ' 2 r (NN (sortN l)) ∧ l.Nodup ∧ (∀ v,v ∈ l ↔ Rea R rs v) ∧ l.length < 2 ^ 39 := by
 refine called_of (fn := CU.a16) rfl (Nat.le_of_ble_eq_true rfl) ?_
 simp only [CU.a16, CU.o]
 have hu := univ_len hw rs
 have hu2 : (univ R rs).length < 2 ^ 38 := by omega
 simp -dsimp only [↓WPd,↓Zm,↓Zn,WPu,Za,Zb,Zc,Zd,Ze,Zf,Zg,Zh,Nat.reduceEqDiff,Nat.reduceLT,Zi,Zj,Zk,Zl,Nat.reduceBEq]
 refine loop_rule2 (fun m xs σ' => ∃ (k : Nat) (lv : AVal) (l : List Nm),k ≤ rs.length ∧ m = rs.length - k ∧ xs = [rv,rsv,lv,.int .i64 (k : Nat)] ∧ Grows σ σ' ∧ l = adds [] (rs.take k) ∧ Own σ' 2 lv (NN l) ∧ Fresh σ.length lv)
  [0,5] (fun e xs σ' => e = .exit 0 ∧ ∃ lv,xs = [rv,lv] ∧ Grows σ σ' ∧ Own σ' 2 lv (NN (adds [] rs)) ∧ Fresh σ.length lv) rs.length
  ⟨0,.nilslice,[],Nat.zero_le _,rfl,?_,Keeps.refl _ _,by simp [adds],Own.nil _ _,Fresh.nil _⟩ ?_ ?_
 ·simp -dsimp only [↓WPd,↓Zm,↓Zn,WPu,Za,Zb,Zc,Zd,Ze,Zf,Zg,Zh,Nat.reduceEqDiff,Nat.reduceLT,Zi,Zj,Zk,Zl,Nat.reduceBEq]; rfl
 ·rintro m xs σ' ⟨k,lv,l,hk,rfl,rfl,g,hl,ol,fl⟩
  have lr := (hr.grow g).len
  rw [List.length_map] at lr
  simp -dsimp only [↓WPd,↓Zm,↓Zn,WPu,Za,Zb,Zc,Zd,Ze,Zf,Zg,Zh,Nat.reduceEqDiff,Nat.reduceLT,Zi,Zj,Zk,Zl,Nat.reduceBEq,lr]
  refine condP_dec (fun hc => ?_) (fun hc => ?_)
  ·have hk' : k < rs.length := by omega
   have hal : l.length ≤ rs.length := by
    have := adds_len [] (rs.take k)
    rw [hl]
    simp only [List.length_nil,List.length_take] at this
    omega
   obtain ⟨n1,n2⟩ := names_at (hr.grow g) hk'
   have ht : addN l rs[k] = adds [] (rs.take (k + 1)) := by rw [List.take_succ_eq_append_getElem hk',adds_snoc,hl]
   simp -dsimp only [↓WPd,↓Zm,↓Zn,WPu,Za,Zb,Zc,Zd,Ze,Zf,Zg,Zh,Nat.reduceEqDiff,Nat.reduceLT,Zi,Zj,Zk,Zl,Nat.reduceBEq,n1,n2]
   refine calledW_of (hasname_ok d σ' lv l rs[k] (by omega) ol.sl) ?_
   rintro r σ2 ⟨rfl,g2⟩
   cases hcn : l.contains rs[k] with
   | true =>
    simp -dsimp only [↓WPd,↓Zm,↓Zn,WPu,Za,Zb,Zc,Zd,Ze,Zf,Zg,Zh,Nat.reduceEqDiff,Nat.reduceLT,Zi,Zj,Zk,Zl,Nat.reduceBEq]
    exact ⟨rs.length - (k + 1),by omega,k + 1,lv,l,by omega,rfl,by rw [wrap_i64 (by omega) (by omega),Int.natCast_add,Int.natCast_one],g.trans g2,by rw [← ht,addN_in hcn],ol.grow g2,fl⟩
   | false =>
    obtain ⟨m1,m2⟩ := names_at (hr.grow (g.trans g2)) hk'
    obtain ⟨lv',σ3,a1,a2,a3,a4,a5⟩ := (ol.grow g2).name rs[k] (by omega)
    have fe := elems2 (AVal.tagL [nmV rs[k]]) σ2 (nmV rs[k])
    simp -dsimp only [↓WPd,↓Zm,↓Zn,WPu,Za,Zb,Zc,Zd,Ze,Zf,Zg,Zh,Nat.reduceEqDiff,Nat.reduceLT,Zi,Zj,Zk,Zl,Nat.reduceBEq,m1,m2,nm_lit,fe,a1]
    refine ⟨rs.length - (k + 1),by omega,k + 1,lv',l ++ [rs[k]],by omega,rfl,by rw [wrap_i64 (by omega) (by omega),Int.natCast_add,Int.natCast_one],Keeps.trans (g.trans g2) a3 fun j hj e => by have := fl j e; omega,by rw [← ht,addN_out hcn],a2,fun j hj => ?_⟩
    rcases a4 j hj with e | e
    ·exact fl j e
    ·have := (g.trans g2).1; omega
  ·have : k = rs.length := by omega
   subst this
   rw [List.take_length] at hl
   subst hl
   simp -dsimp only [↓WPd,↓Zm,↓Zn,WPu,Za,Zb,Zc,Zd,Ze,Zf,Zg,Zh,Nat.reduceEqDiff,Nat.reduceLT,Zi,Zj,Zk,Zl,Nat.reduceBEq]
   exact ⟨lv,rfl,g,ol,fl⟩
 ·rintro e σ1 env ⟨rfl,lv,hv,g1,ol1,fl1⟩
  simp only [List.map_cons,List.map_nil,List.cons.injEq,and_true] at hv
  obtain ⟨v0,v5⟩ := hv
  simp -dsimp only [↓WPd,↓Zm,↓Zn,WPu,Za,Zb,Zc,Zd,Ze,Zf,Zg,Zh,Nat.reduceEqDiff,Nat.reduceLT,Zi,Zj,Zk,Zl,Nat.reduceBEq,v0,v5]
  refine loop_rule2 (fun m xs σ' => ∃ (i : Nat) (lv : AVal) (l : List Nm),i ≤ l.length ∧ m = (univ R rs).length - i ∧ xs = [rv,lv,.int .i64 (i : Nat)] ∧ Grows σ σ' ∧ Own σ' 2 lv (NN l) ∧ Fresh σ.length lv ∧ Way R rs l i)
   [5] (fun e xs σ' => e = .exit 2 ∧ ∃ (lv : AVal) (l : List Nm),xs = [lv] ∧ Grows σ σ' ∧ Own σ' 2 lv (NN l) ∧ Way R rs l l.length) (univ R rs).length
   ⟨0,lv,adds [] rs,Nat.zero_le _,rfl,?_,g1,ol1,fl1,Way.start R rs⟩ ?_ ?_
  ·simp -dsimp only [↓WPd,↓Zm,↓Zn,WPu,Za,Zb,Zc,Zd,Ze,Zf,Zg,Zh,Nat.reduceEqDiff,Nat.reduceLT,Zi,Zj,Zk,Zl,Nat.reduceBEq,v0,v5]; rfl
  ·rintro m xs σ' ⟨i,lv,l,hi,rfl,rfl,g,ol,fl,wy⟩
   have ll := ol.sl.len
   rw [List.length_map] at ll
   have hlu := wy.len
   simp -dsimp only [↓WPd,↓Zm,↓Zn,WPu,Za,Zb,Zc,Zd,Ze,Zf,Zg,Zh,Nat.reduceEqDiff,Nat.reduceLT,Zi,Zj,Zk,Zl,Nat.reduceBEq,ll]
   refine condP_dec (fun hc => ?_) (fun hc => ?_)
   ·have hi' : i < l.length := by omega
    obtain ⟨n1,n2⟩ := names_at ol.sl hi'
    simp -dsimp only [↓WPd,↓Zm,↓Zn,WPu,Za,Zb,Zc,Zd,Ze,Zf,Zg,Zh,Nat.reduceEqDiff,Nat.reduceLT,Zi,Zj,Zk,Zl,Nat.reduceBEq,n1,n2]
    refine calledW_of (rnext_ok d σ' rv R l[i] (h.grow g) hw (by omega)) ?_
    rintro mv σ2 ⟨g2,sm⟩
    have hsl := stepN_len hw l[i]
    obtain ⟨w0,hw0⟩ : ∃ w0,w0 = l[i] := ⟨_,rfl⟩
    rw [← hw0] at sm hsl
    simp -dsimp only [↓WPd,↓Zm,↓Zn,WPu,Za,Zb,Zc,Zd,Ze,Zf,Zg,Zh,Nat.reduceEqDiff,Nat.reduceLT,Zi,Zj,Zk,Zl,Nat.reduceBEq]
    have hlt2 : ∀ j,mv.sid = some j → j < σ2.length := fun j hj => sm.lt hj
    refine loop_rule2 (fun m xs σ' => ∃ (k : Nat) (lv2 : AVal) (l2 : List Nm),k ≤ (stepN R w0).length ∧ m = (stepN R w0).length - k ∧ xs = [rv,lv2,.int .i64 (i : Nat),mv,.int .i64 (k : Nat)] ∧ Grows σ σ' ∧ l2 = adds l ((stepN R w0).take k) ∧ Own σ' 2 lv2 (NN l2) ∧ Fresh σ.length lv2 ∧ SlOf σ' 2 mv (NN (stepN R w0)))
     [0,5,7] (fun e xs σ' => e = .exit 4 ∧ ∃ lv2 : AVal,xs = [rv,lv2,.int .i64 (i : Nat)] ∧ Grows σ σ' ∧ Own σ' 2 lv2 (NN (adds l (stepN R w0))) ∧ Fresh σ.length lv2) (stepN R w0).length
     ⟨0,lv,l,Nat.zero_le _,rfl,?_,g.trans g2,by simp [adds],ol.grow g2,fl,sm⟩ ?_ ?_
    ·simp -dsimp only [↓WPd,↓Zm,↓Zn,WPu,Za,Zb,Zc,Zd,Ze,Zf,Zg,Zh,Nat.reduceEqDiff,Nat.reduceLT,Zi,Zj,Zk,Zl,Nat.reduceBEq]; rfl
    ·rintro m xs σ3 ⟨k,lv2,l2,hk,rfl,rfl,g3,hl2,ol2,fl2,sm3⟩
     have lm := sm3.len
     rw [List.length_map] at lm
     simp -dsimp only [↓WPd,↓Zm,↓Zn,WPu,Za,Zb,Zc,Zd,Ze,Zf,Zg,Zh,Nat.reduceEqDiff,Nat.reduceLT,Zi,Zj,Zk,Zl,Nat.reduceBEq,lm]
     refine condP_dec (fun hc => ?_) (fun hc => ?_)
     ·have hk' : k < (stepN R w0).length := by omega
      have hl2l : l2.length ≤ l.length + 256 := by
       have := adds_len l ((stepN R w0).take k)
       rw [hl2]
       simp only [List.length_take] at this
       omega
      obtain ⟨p1,p2⟩ := names_at sm3 hk'
      have ht : addN l2 (stepN R w0)[k] = adds l ((stepN R w0).take (k + 1)) := by rw [List.take_succ_eq_append_getElem hk',adds_snoc,hl2]
      simp -dsimp only [↓WPd,↓Zm,↓Zn,WPu,Za,Zb,Zc,Zd,Ze,Zf,Zg,Zh,Nat.reduceEqDiff,Nat.reduceLT,Zi,Zj,Zk,Zl,Nat.reduceBEq,p1,p2]
      refine calledW_of (hasname_ok d σ3 lv2 l2 (stepN R w0)[k] (by omega) ol2.sl) ?_
      rintro r σ4 ⟨rfl,g4⟩
      have sm4 := sm3.grow g4
      cases hcn : l2.contains (stepN R w0)[k] with
      | true =>
       simp -dsimp only [↓WPd,↓Zm,↓Zn,WPu,Za,Zb,Zc,Zd,Ze,Zf,Zg,Zh,Nat.reduceEqDiff,Nat.reduceLT,Zi,Zj,Zk,Zl,Nat.reduceBEq]
       exact ⟨(stepN R w0).length - (k + 1),by omega,k + 1,lv2,l2,by omega,rfl,by rw [wrap_i64 (by omega) (by omega),Int.natCast_add,Int.natCast_one],g3.trans g4,by rw [← ht,addN_in hcn],ol2.grow g4,fl2,sm4⟩
      | false =>
       obtain ⟨q1,q2⟩ := names_at sm4 hk'
       obtain ⟨lv',σ5,a1,a2,a3,a4,a5⟩ := (ol2.grow g4).name (stepN R w0)[k] (by omega)
       have fe := elems2 (AVal.tagL [nmV (stepN R w0)[k]]) σ4 (nmV (stepN R w0)[k])
       simp -dsimp only [↓WPd,↓Zm,↓Zn,WPu,Za,Zb,Zc,Zd,Ze,Zf,Zg,Zh,Nat.reduceEqDiff,Nat.reduceLT,Zi,Zj,Zk,Zl,Nat.reduceBEq,q1,q2,nm_lit,fe,a1]
       refine ⟨(stepN R w0).length - (k + 1),by omega,k + 1,lv',l2 ++ [(stepN R w0)[k]],by omega,rfl,by rw [wrap_i64 (by omega) (by omega),Int.natCast_add,Int.natCast_one],Keeps.trans (g3.trans g4) a3 fun j hj e => by have := fl2 j e; omega,by rw [← ht,addN_out hcn],a2,fun j hj => ?_,(ol2.grow g4).append_view a1 sm4⟩
       rcases a4 j hj with e | e
       ·exact fl2 j e
       ·have := (g3.trans g4).1; omega
     ·have : k = (stepN R w0).length := by omega
      subst this
      rw [List.take_length] at hl2
      subst hl2
      simp -dsimp only [↓WPd,↓Zm,↓Zn,WPu,Za,Zb,Zc,Zd,Ze,Zf,Zg,Zh,Nat.reduceEqDiff,Nat.reduceLT,Zi,Zj,Zk,Zl,Nat.reduceBEq]
      exact ⟨lv2,rfl,g3,ol2,fl2⟩
    ·rintro e σ3 env ⟨rfl,lv2,hv,g3,ol2,fl2⟩
     simp only [List.map_cons,List.map_nil,List.cons.injEq,and_true] at hv
     obtain ⟨v0,v5,v7⟩ := hv
     have wy2 := wy.next hi'
     rw [← hw0] at wy2
     have := wy2.len
     have hal : l.length ≤ (adds l (stepN R w0)).length := by obtain ⟨x,hx⟩ := adds_pre (stepN R w0) l; rw [hx,List.length_append]; omega
     simp -dsimp only [↓WPd,↓Zm,↓Zn,WPu,Za,Zb,Zc,Zd,Ze,Zf,Zg,Zh,Nat.reduceEqDiff,Nat.reduceLT,Zi,Zj,Zk,Zl,Nat.reduceBEq,v0,v5,v7]
     exact ⟨(univ R rs).length - (i + 1),by omega,i + 1,lv2,_,by omega,rfl,by rw [wrap_i64 (by omega) (by omega),Int.natCast_add,Int.natCast_one],g3,ol2,fl2,wy2⟩
   ·have : i = l.length := by omega
    subst this
    simp -dsimp only [↓WPd,↓Zm,↓Zn,WPu,Za,Zb,Zc,Zd,Ze,Zf,Zg,Zh,Nat.reduceEqDiff,Nat.reduceLT,Zi,Zj,Zk,Zl,Nat.reduceBEq]
    exact ⟨lv,l,rfl,g,ol,wy⟩
  ·rintro e σ2 env ⟨rfl,lv,l,hv,g2,ol,wy⟩
   simp only [List.map_cons,List.map_nil,List.cons.injEq,and_true] at hv
   have hlu := wy.len
   simp -dsimp only [↓WPd,↓Zm,↓Zn,WPu,Za,Zb,Zc,Zd,Ze,Zf,Zg,Zh,Nat.reduceEqDiff,Nat.reduceLT,Zi,Zj,Zk,Zl,Nat.reduceBEq,hv]
   refine calledW_of (rising_ok d σ2 lv l wy.nodup (by omega) ol.sl) ?_
   rintro r σ3 ⟨g3,sr⟩
   simp -dsimp only [↓WPd,↓Zm,↓Zn,WPu,Za,Zb,Zc,Zd,Ze,Zf,Zg,Zh,Nat.reduceEqDiff,Nat.reduceLT,Zi,Zj,Zk,Zl,Nat.reduceBEq]
   exact ⟨g2.trans g3,l,sr,wy.nodup,wy.all,by omega⟩
end
theorem itL_pre (H : Hp) (l0 : List Nm) (i : Nat) : ∀ k,∃ x,itL H l0 (i + k) = itL H l0 i ++ x
 | 0 => ⟨[],by simp⟩
 | k + 1 => by
  obtain ⟨x,hx⟩ := itL_pre H l0 i k
  rw [← Nat.add_assoc]
  simp only [itL]
  split
  ·rename_i v hv
   obtain ⟨y,hy⟩ := adds_pre (stepN H v) (itL H l0 (i + k))
   exact ⟨x ++ y,by rw [hy,hx,List.append_assoc]⟩
  ·exact ⟨x,hx⟩
inductive Lin (H : Hp) (f : Nm) (L : List Nm) : Nat → List Nm → Prop
 | root (h0 : 0 < L.length) (e : L[0] = f) : Lin H f L 0 [f]
 | step {i j : Nat} {p : List Nm} (hj : j < L.length) (hij : i < j) : Lin H f L i p → L[j] ∈ stepN H (L[i]'(by omega)) → (∀ (k : Nat) (hk : k < i),L[j] ∉ stepN H (L[k]'(by omega))) → Lin H f L j (p ++ [L[j]])
theorem Lin.one {H : Hp} {f : Nm} {L : List Nm} : ∀ {j : Nat} {p q : List Nm},Lin H f L j p → Lin H f L j q → p = q := by
 intro j p q hp
 induction hp generalizing q with
 | root h0 e =>
  intro hq
  cases hq with
  | root _ _ => rfl
  | step _ hij _ _ _ => omega
 | step hj hij h1 h2 h3 ih =>
  rename_i i j p
  intro hq
  cases hq with
  | root _ _ => omega
  | step hj' hij' g1 g2 g3 =>
   rename_i i' p'
   have : i = i' := by
    rcases Nat.lt_trichotomy i i' with h | h | h
    ·exact (g3 i h h2).elim
    ·exact h
    ·exact (h3 i' h g2).elim
   subst this
   rw [ih g1]
theorem Lin.lift {H : Hp} {f : Nm} {L x : List Nm} {j : Nat} {p : List Nm} (h : Lin H f L j p) : Lin H f (L ++ x) j p := by
 have key : ∀ (t : Nat) (ht : t < L.length) (ht' : t < (L ++ x).length),(L ++ x)[t] = L[t] := fun t ht _ => List.getElem_append_left ht
 induction h with
 | root h0 e => exact .root (by simp; omega) (by rw [key 0 h0]; exact e)
 | step hj hij h1 h2 h3 ih =>
  rename_i i j p
  have hj' : j < (L ++ x).length := by simp; omega
  have e := key j hj hj'
  rw [← e]
  refine .step hj' hij ih ?_ fun k hk => ?_
  ·rw [e,key i (by omega)]; exact h2
  ·rw [e,key k (by omega)]; exact h3 k hk
theorem Lin.last {H : Hp} {f : Nm} {L : List Nm} {j : Nat} {p : List Nm} (h : Lin H f L j p) : ∃ hj : j < L.length,p.getLast? = some L[j] := by
 cases h with
 | root h0 e => exact ⟨h0,by simp [e]⟩
 | step hj hij h1 h2 h3 => exact ⟨hj,by simp⟩
theorem Lin.len {H : Hp} {f : Nm} {L : List Nm} {j : Nat} {p : List Nm} (h : Lin H f L j p) : p.length ≤ j + 1 := by
 induction h with
 | root h0 e => simp
 | step hj hij h1 h2 h3 ih => simp; omega
theorem Lin.pos {H : Hp} {f : Nm} {L : List Nm} {j : Nat} {p : List Nm} (h : Lin H f L j p) : 0 < p.length := by
 cases h <;> simp
theorem Lin.start {H : Hp} {f : Nm} {L : List Nm} {j : Nat} {p : List Nm} (h : Lin H f L j p) : ∃ h0 : 0 < L.length,L[0] = f := by
 induction h with
 | root h0 e => exact ⟨h0,e⟩
 | step _ _ _ _ _ ih => exact ih
theorem Lin.same {H : Hp} {f t : Nm} {a b : List Nm} {n m i j : Nat} {p q : List Nm} (ha : a = itL H [f] n) (hb : b = itL H [f] m) (na : a.Nodup) (nb : b.Nodup) (hp : Lin H f a i p) (hq : Lin H f b j q) (hi : i < a.length) (hj : j < b.length) (e1 : a[i] = t) (e2 : b[j] = t) : p = q := by
 have key : ∀ {a x : List Nm} {i j : Nat} {p q : List Nm} (hi : i < a.length) (hj : j < (a ++ x).length),(a ++ x).Nodup → Lin H f a i p → Lin H f (a ++ x) j q → a[i] = t → (a ++ x)[j] = t → p = q := by
  intro a x i j p q hi hj hn hp hq e1 e2
  have e3 : (a ++ x)[i]'(by simp; omega) = t := by rw [List.getElem_append_left hi]; exact e1
  have hij : i = j := by
   have := List.pairwise_iff_getElem.1 hn
   rcases Nat.lt_trichotomy i j with h | h | h
   ·exact (this i j (by simp; omega) hj h (e3.trans e2.symm)).elim
   ·exact h
   ·exact (this j i hj (by simp; omega) h (e2.trans e3.symm)).elim
  subst hij
  exact hp.lift.one hq
 rcases Nat.le_total n m with h | h
 ·obtain ⟨x,hx⟩ := itL_pre H [f] n (m - n)
  rw [Nat.add_sub_cancel' h,← ha,← hb] at hx
  subst hx
  exact key hi hj nb hp hq e1 e2
 ·obtain ⟨x,hx⟩ := itL_pre H [f] m (n - m)
  rw [Nat.add_sub_cancel' h,← ha,← hb] at hx
  subst hx
  exact (key hj hi na hq hp e2 e1).symm
theorem Same.step {H R : Hp} (hs : Same H R) (v : Nm) : stepN R v = stepN H v := by unfold stepN; rw [hs.lk]
theorem Same.itL {H R : Hp} (hs : Same H R) (l0 : List Nm) : ∀ n,itL R l0 n = itL H l0 n
 | 0 => rfl
 | n + 1 => by
  have ih := Same.itL hs l0 n
  simp only [Am.itL,ih,hs.step]
theorem Same.lin {H R : Hp} (hs : Same H R) {f : Nm} {L : List Nm} {j : Nat} {p : List Nm} (h : Lin R f L j p) : Lin H f L j p := by
 induction h with
 | root h0 e => exact .root h0 e
 | step hj hij h1 h2 h3 ih => exact .step hj hij ih (by rw [← hs.step]; exact h2) fun k hk => by rw [← hs.step]; exact h3 k hk
def PartC (cap : Option Nat) (σ : Store) (sz : Nat) (v : AVal) (es : List AVal) : Prop :=
 ∃ id ep azs fl,v = .slice sz id ep 0 es.length cap ∧ σ[id]? = some (.arr sz azs ep fl) ∧ fl ≤ ep ∧ azs.take es.length = es
abbrev Part := PartC none
def PO (σ : Store) (sz : Nat) (v : AVal) (es : List AVal) : Prop := (Own σ sz v es ∧ NoLit v) ∨ Part σ sz v es ∨ PartC (some es.length) σ sz v es
section
variable {σ σ' : Store} {sz : Nat} {v : AVal} {es : List AVal}
theorem Part.le {azs es : List AVal} (h : azs.take es.length = es) : es.length ≤ azs.length := by
 have := congrArg List.length h
 rw [List.length_take] at this
 omega
theorem Part.sl (h : Part σ sz v es) : SlOf σ sz v es := by
 obtain ⟨id,ep,azs,fl,rfl,ho,hf,ht⟩ := h
 exact ⟨by simp [ho,hf,ht],rfl,fun s id' ep' off' len c hc => by injection hc with _ _ _ _ _ e; cases e⟩
theorem PartC.own (h : PartC (some es.length) σ sz v es) : Own σ sz v es := by
 obtain ⟨id,ep,azs,fl,rfl,ho,hf,ht⟩ := h
 have hl := Part.le ht
 exact ⟨.inr (.inr ⟨id,ep,0,_,azs,ep,fl,rfl,ho,hf,by simpa using ht.symm,fun _ => by omega,.inr rfl⟩)⟩
theorem PO.sl (h : PO σ sz v es) : SlOf σ sz v es := by
 rcases h with h | h | h
 ·exact h.1.sl
 ·exact Part.sl h
 ·exact h.own.sl
theorem PartC.keep {cap : Option Nat} (h : PartC cap σ sz v es) (hk : ∀ id,v.sid = some id → σ'[id]? = σ[id]?) : PartC cap σ' sz v es := by
 obtain ⟨id,ep,azs,fl,rfl,ho,hr⟩ := h
 exact ⟨id,ep,azs,fl,rfl,by rw [hk id rfl]; exact ho,hr⟩
theorem PO.keep (h : PO σ sz v es) (hk : ∀ id,v.sid = some id → σ'[id]? = σ[id]?) : PO σ' sz v es := by
 rcases h with h | h | h
 ·exact .inl ⟨h.1.keep hk,h.2⟩
 ·exact .inr (.inl (h.keep hk))
 ·exact .inr (.inr (h.keep hk))
theorem PO.keeps {M : Nat → Prop} (h : PO σ sz v es) (hk : Keeps M σ σ') (hm : ∀ id,v.sid = some id → ¬ M id) : PO σ' sz v es :=
 h.keep fun id hid => hk.2 id (h.sl.lt hid) (hm id hid)
theorem PO.grow (h : PO σ sz v es) (hk : Grows σ σ') : PO σ' sz v es := h.keeps hk fun _ _ h => h
theorem PartC.store {cap : Option Nat} (h : PartC cap σ sz v es) {i : Nat} (hi : i < es.length) {x : AVal} (hx : x.cells.all AVal.one = true) (hxl : x.cells.length = sz) (hel : (es[i]).cells.length = sz) (hre : (es[i]).reform x.cells = x) :
  ∃ σ',storeV σ sz (addrOf sz v i) x = some σ' ∧ PartC cap σ' sz v (es.set i x) ∧ Keeps (fun j => v.sid = some j) σ σ' ∧ σ'.length = σ.length := by
 obtain ⟨id,ep,azs,fl,rfl,ho,hf,ht⟩ := h
 have hle := Part.le ht
 have hia : i < azs.length := by omega
 have hai : azs[i] = es[i] := by
  have h1 : (azs.take es.length)[i]? = es[i]? := by rw [ht]
  rw [List.getElem?_take_of_lt hi,List.getElem?_eq_getElem hia,List.getElem?_eq_getElem hi] at h1
  exact Option.some.inj h1
 have ha : addrOf sz (.slice sz id ep 0 es.length cap) i = .eptr id ep i 0 := by
  have e : (0 : Int) ≤ (i : Int) ∧ (i : Int) < (es.length : Int) := by omega
  simp [addrOf,iaddrV,e]
 have hsp : splice (azs[i]).cells 0 x.cells = x.cells := by
  simp only [splice,List.take_zero,List.nil_append,Nat.zero_add]
  rw [List.drop_eq_nil_of_le (by rw [hai]; omega),List.append_nil]
 refine ⟨σ.set id (.arr sz (azs.set i x) ep ep),?_,⟨id,ep,azs.set i x,ep,by simp,by rw [List.getElem?_set_self (List.getElem?_eq_some_iff.1 ho).1],Nat.le_refl _,?_⟩,(Keeps.set _ _ _).mono fun j _ h => by rw [h]; rfl,by simp⟩
 ·rw [ha]
  have hre' : (azs[i]).reform x.cells = x := by rw [hai]; exact hre
  simp only [storeV,hxl,hx,and_self,if_true,ho,List.getElem?_eq_getElem hia,hsp,hre',Nat.zero_add]
  rw [if_pos ⟨trivial,by rw [hai]; omega⟩]
 ·rw [List.length_set]
  have : (azs.set i x).take es.length = (azs.take es.length).set i x := by
   apply List.ext_getElem?
   intro j
   by_cases hj : j < es.length
   ·rw [List.getElem?_take_of_lt hj,List.getElem?_set,List.getElem?_set,List.getElem?_take_of_lt hj]
    by_cases hij : i = j
    ·subst hij
     rw [if_pos rfl,if_pos rfl,if_pos hia,if_pos (by rw [List.length_take]; omega)]
    ·rw [if_neg hij,if_neg hij]
   ·rw [List.getElem?_eq_none (by simp; omega),List.getElem?_eq_none (by simp; omega)]
  rw [this,ht]
theorem PO.store (h : PO σ sz v es) {i : Nat} (hi : i < es.length) {x : AVal} (hx : x.cells.all AVal.one = true) (hxl : x.cells.length = sz) (hel : (es[i]).cells.length = sz) (hre : (es[i]).reform x.cells = x) :
  ∃ σ',storeV σ sz (addrOf sz v i) x = some σ' ∧ PO σ' sz v (es.set i x) ∧ Keeps (fun j => v.sid = some j) σ σ' ∧ σ'.length = σ.length := by
 rcases h with h | h | h
 ·obtain ⟨σ',h1,h2,h3,h4⟩ := h.1.store h.2 hi hx hxl hel hre
  exact ⟨σ',h1,.inl ⟨h2,h.2⟩,h3,h4⟩
 ·obtain ⟨σ',h1,h2,h3,h4⟩ := h.store hi hx hxl hel hre
  exact ⟨σ',h1,.inr (.inl h2),h3,h4⟩
 ·obtain ⟨σ',h1,h2,h3,h4⟩ := h.store hi hx hxl hel hre
  exact ⟨σ',h1,.inr (.inr (by rw [List.length_set]; exact h2)),h3,h4⟩
def Gro (σ : Store) (sz : Nat) (u : AVal) (xs : List AVal) (v : AVal) (es : List AVal) : Prop :=
 SlOf σ sz u xs ∧ (Own σ sz v es ∨ (Part σ sz v es ∧ Part σ sz u xs ∧ xs.length ≤ es.length ∧ ∃ id ep m n,v = .slice sz id ep 0 m none ∧ u = .slice sz id ep 0 n none))
theorem Gro.start (h : PO σ sz v es) : Gro σ sz v es v es := by
 refine ⟨h.sl,?_⟩
 rcases h with h | h | h
 ·exact .inl h.1
 ·refine .inr ⟨h,h,Nat.le_refl _,?_⟩
  obtain ⟨id,ep,azs,fl,rfl,_⟩ := h
  exact ⟨id,ep,_,_,rfl,rfl⟩
 ·exact .inl h.own
theorem Gro.one {u : AVal} {xs : List AVal} (h : Gro σ sz u xs v es) : v.one = true := by
 rcases h.2 with h | h
 ·exact h.sl.one
 ·exact (Part.sl h.1).one
theorem Gro.sl {u : AVal} {xs : List AVal} (h : Gro σ sz u xs v es) : SlOf σ sz v es := by
 rcases h.2 with h | h
 ·exact h.sl
 ·exact Part.sl h.1
theorem Gro.grow {u : AVal} {xs : List AVal} (h : Gro σ sz u xs v es) (g : Grows σ σ') : Gro σ' sz u xs v es :=
 ⟨h.1.grow g,h.2.imp (·.grow g) fun ⟨a,b,c⟩ => ⟨a.keep fun id hid => g.2 id ((Part.sl a).lt hid) (fun h => h),b.keep fun id hid => g.2 id ((Part.sl b).lt hid) (fun h => h),c⟩⟩
theorem Gro.append {u : AVal} {xs : List AVal} (h : Gro σ sz u xs v es) (y : AVal) (bytes : Nat) (hb : (es.length + 1) * bytes ≤ 70368744177664) :
  ∃ v' σ',appendV σ sz bytes v [y] = some (v',σ') ∧ Gro σ' sz u xs v' (es ++ [y]) ∧ Keeps (fun i => v.sid = some i) σ σ' ∧ (∀ id,v'.sid = some id → v.sid = some id ∨ id = σ.length) := by
 rcases h with ⟨hu,h | ⟨hv,hu',hle,id0,ep0,m0,n0,e1,e2⟩⟩
 ·obtain ⟨v',σ',h1,h2,h3,h4,h5⟩ := h.append [y] bytes hb
  exact ⟨v',σ',h1,⟨h.append_view h1 hu,.inl h2⟩,h3,h4⟩
 ·obtain ⟨id,ep,azs,fl,rfl,ho,hf,ht⟩ := hv
  injection e1 with _ i1 i2 _ i4 _
  subst i1; subst i2
  obtain ⟨id',ep',azs',fl',i5,ho',hf',ht'⟩ := hu'
  rw [i5] at e2
  injection e2 with _ i1 i2 _ i6 _
  have i1 := i1.symm
  have i2 := i2.symm
  subst i1; subst i2
  rw [ho] at ho'
  injection ho' with ho'
  injection ho' with _ i7 _ i8
  subst i7; subst i8
  have hl := Part.le ht
  have hil := (List.getElem?_eq_some_iff.1 ho).1
  by_cases hw : es.length = azs.length
  ·have : azs = es := by rw [← ht,hw,List.take_length]
   subst this
   have hO : Own σ sz (.slice sz id ep 0 azs.length none) azs := Own.whole ho hf
   obtain ⟨v',σ',h1,h2,h3,h4,h5⟩ := hO.append [y] bytes hb
   exact ⟨v',σ',h1,⟨hO.append_view h1 hu,.inl h2⟩,h3,h4⟩
  ·have hlt : es.length < azs.length := by omega
   have hb' : (es.length + 1) * bytes ≤ apLim := hb
   have hnew : (azs.take (0 + es.length) ++ [y] ++ azs.drop (0 + es.length + 1)).take (es ++ [y]).length = es ++ [y] := by
    rw [Nat.zero_add,ht,List.take_left]
   have hxs : (azs.take (0 + es.length) ++ [y] ++ azs.drop (0 + es.length + 1)).take xs.length = xs := by
    rw [Nat.zero_add,List.append_assoc,List.take_append_of_le_length (by rw [List.length_take]; omega),List.take_take,Nat.min_eq_left hle]; exact ht'
   refine ⟨.slice sz id ep 0 (es.length + 1) none,σ.set id (.arr sz (azs.take (0 + es.length) ++ [y] ++ azs.drop (0 + es.length + 1)) ep ep),?_,?_,(Keeps.set _ _ _).mono fun i _ h => by rw [h]; rfl,fun i h => .inl (by simpa [AVal.sid] using h)⟩
   ·have e1' : ¬ ((none : Option Nat).getD (azs.length - 0) < es.length + 1) := by simp; omega
    simp only [appendV,growV,List.isEmpty_cons,Bool.false_eq_true,if_false,ho,if_true,List.length_singleton,true_and]
    rw [if_pos ⟨hb',hf⟩,if_neg e1']
   ·have hset : (σ.set id (.arr sz (azs.take (0 + es.length) ++ [y] ++ azs.drop (0 + es.length + 1)) ep ep))[id]? = some (.arr sz (azs.take (0 + es.length) ++ [y] ++ azs.drop (0 + es.length + 1)) ep ep) := List.getElem?_set_self hil
    have hP : Part (σ.set id (.arr sz (azs.take (0 + es.length) ++ [y] ++ azs.drop (0 + es.length + 1)) ep ep)) sz (.slice sz id ep 0 (es.length + 1) none) (es ++ [y]) :=
     ⟨id,ep,_,ep,by simp,hset,Nat.le_refl _,hnew⟩
    have hQ : Part (σ.set id (.arr sz (azs.take (0 + es.length) ++ [y] ++ azs.drop (0 + es.length + 1)) ep ep)) sz u xs := ⟨id,ep,_,ep,i5,hset,Nat.le_refl _,hxs⟩
    exact ⟨Part.sl hQ,.inr ⟨hP,hQ,by simp; omega,id,ep,_,_,rfl,i5⟩⟩
theorem Own.cutoff (h : Own σ sz v es) (hn : NoLit v) (he : es ≠ []) {i : Nat} (hi : i ≤ es.length) (z : List AVal) (agg : Bool) :
  ∃ dv σ' hv,sliceV sz v (some (.int .i64 i)) none none = some dv ∧ clrV σ sz z agg dv = some σ' ∧ sliceV sz v none (some (.int .i64 i)) none = some hv ∧ Part σ' sz hv (es.take i) ∧ Keeps (fun j => v.sid = some j) σ σ' ∧ hv.sid = v.sid := by
 rcases h.own with ⟨_,e⟩ | ⟨t,rfl⟩ | ⟨id,ep,off,cap,xs,epo,fl,rfl,ho,hf,he',hl,hc⟩
 ·exact (he e).elim
 ·exact (he hn).elim
 ·rcases hc with ⟨rfl,rfl,rfl,rfl⟩ | rfl
  ·have il := (List.getElem?_eq_some_iff.1 ho).1
   have b1 : (0 : Int) ≤ (i : Int) ∧ (i : Int) ≤ (xs.length : Int) := by omega
   have e1 : sliceV sz (.slice sz id epo 0 xs.length none) (some (.int .i64 i)) none none = some (.slice sz id epo i (xs.length - i) none) := by
    simp [sliceV,obnd,bnd,b1]
   have e2 : sliceV sz (.slice sz id epo 0 xs.length none) none (some (.int .i64 i)) none = some (.slice sz id epo 0 i none) := by
    simp [sliceV,obnd,bnd,b1]
   by_cases hz : xs.length - i = 0
   ·have : i = xs.length := by omega
    subst this
    refine ⟨_,σ,_,e1,by simp [hz],e2,⟨id,epo,xs,fl,by simp,ho,hf,by simp⟩,Keeps.refl _ _,rfl⟩
   ·refine ⟨_,σ.set id (.arr sz (xs.take i ++ (List.replicate (xs.length - i) (zel z agg) ++ xs.drop (i + (xs.length - i)))) epo epo),_,e1,?_,e2,⟨id,epo,_,epo,by simp [Nat.min_eq_left hi],List.getElem?_set_self il,Nat.le_refl _,?_⟩,(Keeps.set _ _ _).mono fun j _ h => by rw [h]; rfl,rfl⟩
    ·have b2 : i + (xs.length - i) ≤ xs.length := by omega
     simp only [clrV,if_neg hz,ho,b2,and_self,if_true]
    ·have : (xs.take i).length = i := by simp; omega
     rw [this,List.take_append_of_le_length (by omega),List.take_take,Nat.min_self]
  ·exact hn.elim
end
theorem lit1_one {e : AVal} (h : e.one = true) : fillL 1 false (List.replicate 1 (zel [AVal.nilslice] false)) [(0,e)] = some [e] := by
 have hc : e.cells = [e] := by cases e <;> simp_all [AVal.one]
 have h1 : [e].all AVal.one = true := by simp only [List.all_cons,List.all_nil,h]; rfl
 have h2 : isAggV e = false := by cases e <;> first | (cases h; done) | rfl
 simp only [fillL,hc,h1,h2]
 rfl
structure PR (σ : Store) (H : Hp) (f : Nm) (kv rv : AVal) (l : List Nm) (es : List AVal) (ps : List (List Nm)) : Prop where
 kn : Own σ 2 kv (NN l)
 row : Own σ 1 rv es
 le : es.length = l.length
 lp : ps.length = l.length
 one : ∀ (j : Nat) (e : AVal) (p : List Nm),es[j]? = some e → ps[j]? = some p → SlOf σ 2 e (NN p)
 lin : ∀ (j : Nat) (p : List Nm),ps[j]? = some p → Lin H f l j p
theorem PR.grow {σ σ' : Store} {H : Hp} {f : Nm} {kv rv : AVal} {l : List Nm} {es : List AVal} {ps : List (List Nm)} (h : PR σ H f kv rv l es ps) (g : Grows σ σ') : PR σ' H f kv rv l es ps :=
 ⟨h.kn.grow g,h.row.grow g,h.le,h.lp,fun j e p h1 h2 => (h.one j e p h1 h2).grow g,h.lin⟩
theorem PR.get {σ : Store} {H : Hp} {f : Nm} {kv rv : AVal} {l : List Nm} {es : List AVal} {ps : List (List Nm)} (h : PR σ H f kv rv l es ps) {i : Nat} (hi : i < l.length) :
  ∃ e p,es[i]? = some e ∧ ps[i]? = some p ∧ SlOf σ 2 e (NN p) ∧ Lin H f l i p ∧ iaddrV 1 rv (.int .i64 i) = some (addrOf 1 rv i) ∧ loadV σ 1 false (addrOf 1 rv i) = some e ∧ p.getLast? = some l[i] := by
 have hie : i < es.length := by rw [h.le]; exact hi
 have hip : i < ps.length := by rw [h.lp]; exact hi
 have e1 : es[i]? = some es[i] := List.getElem?_eq_getElem hie
 have e2 : ps[i]? = some ps[i] := List.getElem?_eq_getElem hip
 have s := h.one i _ _ e1 e2
 have ln := h.lin i _ e2
 obtain ⟨_,hl⟩ := ln.last
 exact ⟨_,_,e1,e2,s,ln,h.row.sl.iaddr hie .i64,h.row.sl.load1 hie s.one 1,hl⟩
section
variable (d : Nat) (σ : Store)
set_option maxHeartbeats 4000000 in
theorem rpath_ok (rv : AVal) (R : Hp) (hw : WF R) (hR : R.length < 2 ^ 28) (f t : Nm) (h : RefV σ rv R) :
  Called CU.cfg d 24 [rv,nmV f,nmV t] σ fun r σ' => Grows σ σ' ∧ ∃ u ok,r = .tuple [u,.bool ok] ∧ (ok = true ↔ Rea R [f] t) ∧ (ok = false → u = .nilslice) ∧ (ok = true → ∃ p : List Nm,SlOf σ' 2 u (NN p) ∧ ∃ (L : List Nm) (n j : Nat) (hj : j < L.length),L = itL R [f] n ∧ L.Nodup ∧ L[j] = t ∧ Lin R f L j p) := by
 refine called_of (fn := CU.a24) rfl (Nat.le_of_ble_eq_true rfl) ?_
 simp only [CU.a24, CU.o]
 have hu := univ_len hw [f]
 simp only [List.length_singleton] at hu
 simp -dsimp only [↓WPd,↓Zm,↓Zn,WPu,Za,Zb,Zc,Zd,Ze,Zf,Zg,Zh,Nat.reduceEqDiff,Nat.reduceLT,Zi,Zj,Zk,Zl,Nat.reduceBEq,WPm,nm_cells,nm_one]
 have of0 : (σ ++ [AObj.cells (nmC f)] ++ [AObj.cells (nmC t)])[σ.length]? = some (.cells (nmC f)) := by simp
 have ot0 : (σ ++ [AObj.cells (nmC f)] ++ [AObj.cells (nmC t)])[(σ ++ [AObj.cells (nmC f)]).length]? = some (.cells (nmC t)) := by simp
 have g0 : Grows σ (σ ++ [AObj.cells (nmC f)] ++ [AObj.cells (nmC t)]) := (Grows.app _ _).trans (Grows.app _ _)
 have hlt : σ.length < (σ ++ [AObj.cells (nmC f)]).length := by simp
 generalize (σ ++ [AObj.cells (nmC f)]).length = it at ot0 hlt
 generalize σ ++ [AObj.cells (nmC f)] ++ [AObj.cells (nmC t)] = σ0 at of0 ot0 g0
 generalize hif : σ.length = jf at of0 hlt
 have l1 : ∀ (tg : Nat) (es : List AVal),fillL 1 false (List.replicate 1 (zel [AVal.nilslice] false)) [(0,.fslice tg true 2 es)] = some [.fslice tg true 2 es] := fun tg es => lit1_one rfl
 simp -dsimp only [↓WPd,↓Zm,↓Zn,WPu,Za,Zb,Zc,Zd,Ze,Zf,Zg,Zh,Nat.reduceEqDiff,Nat.reduceLT,Zi,Zj,Zk,Zl,Nat.reduceBEq,WPm,load_nm of0,nm_lit,l1]
 have hfl : adds [] [f] = [f] := by simp [adds,addN]
 refine loop_rule2 (fun m xs σ' => ∃ (i : Nat) (kv rw_ : AVal) (l : List Nm) (es : List AVal) (ps : List (List Nm)),i ≤ l.length ∧ m = (univ R [f]).length - i ∧ xs = [rv,.ptr it 0,kv,rw_,.int .i64 (i : Nat)] ∧ Grows σ0 σ' ∧ PR σ' R f kv rw_ l es ps ∧ (Fresh σ0.length kv ∧ Fresh σ0.length rw_ ∧ ∀ s,kv.sid = some s → rw_.sid ≠ some s) ∧ Way R [f] l i ∧ ∀ (j : Nat) (hj : j < l.length),j < i → l[j] ≠ t)
  [6,7] (fun e xs σ' => Grows σ0 σ' ∧ ((e = .exit 0 ∧ ¬ Rea R [f] t) ∨ (e = .ret ∧ ∃ (u : AVal) (p l : List Nm) (i : Nat) (hi : i < l.length),xs = [u,.bool true] ∧ SlOf σ' 2 u (NN p) ∧ l = itL R [f] i ∧ l.Nodup ∧ l[i] = t ∧ Lin R f l i p ∧ Rea R [f] t))) (univ R [f]).length
  ⟨0,.fslice (AVal.tagL [nmV f]) true 2 [nmV f],.fslice (AVal.tagL [.fslice (AVal.tagL [nmV f]) true 2 [nmV f]]) true 1 [.fslice (AVal.tagL [nmV f]) true 2 [nmV f]],[f],[.fslice (AVal.tagL [nmV f]) true 2 [nmV f]],[[f]],Nat.zero_le _,rfl,?_,Keeps.refl _ _,
   ⟨Own.lit _ _ _ _,Own.lit _ _ _ _,rfl,rfl,fun j e p h1 h2 => ?_,fun j p h2 => ?_⟩,⟨(fun _ h => by cases h),(fun _ h => by cases h),(fun _ h => by cases h)⟩,by have := Way.start R [f]; rw [hfl] at this; exact this,fun j _ h => by omega⟩ ?_ ?_
 ·simp -dsimp only [↓WPd,↓Zm,↓Zn,WPu,Za,Zb,Zc,Zd,Ze,Zf,Zg,Zh,Nat.reduceEqDiff,Nat.reduceLT,Zi,Zj,Zk,Zl,Nat.reduceBEq]; rfl
 ·cases j with
  | zero =>
   simp only [List.getElem?_cons_zero,Option.some.injEq] at h1 h2
   subst h1; subst h2
   exact SlOf.fs _ _ _ _ _
  | succ j => simp at h1
 ·cases j with
  | zero =>
   simp only [List.getElem?_cons_zero,Option.some.injEq] at h2
   subst h2
   exact .root (by simp) rfl
  | succ j => simp at h2
 ·rintro m xs σ' ⟨i,kv,rw_,l,es,ps,hi,rfl,rfl,g,pr,⟨fk,fr,fd⟩,wy,hnot⟩
  have lr := pr.row.sl.len
  rw [pr.le] at lr
  have hlu := wy.len
  simp -dsimp only [↓WPd,↓Zm,↓Zn,WPu,Za,Zb,Zc,Zd,Ze,Zf,Zg,Zh,Nat.reduceEqDiff,Nat.reduceLT,Zi,Zj,Zk,Zl,Nat.reduceBEq,WPm,lr]
  refine condP_dec (fun hc => ?_) (fun hc => ?_)
  ·have hi' : i < l.length := by omega
   obtain ⟨e,p,he,hp,sp,ln,ia,ld,lst⟩ := pr.get hi'
   have hlp : p.length ≤ i + 1 := ln.len
   have hp0 := ln.pos
   have lp := sp.len
   rw [List.length_map] at lp
   have w1 : IntKind.i64.wrap ((p.length : Int) - 1) = ((p.length - 1 : Nat) : Int) := by rw [wrap_i64 (by omega) (by omega)]; omega
   have hpl : p[p.length - 1]'(by omega) = l[i] := by
    rw [List.getLast?_eq_getElem?,List.getElem?_eq_getElem (by omega)] at lst
    exact Option.some.inj lst
   obtain ⟨n1,n2⟩ := names_at sp (i := p.length - 1) (by omega)
   rw [hpl] at n2
   have ol : (σ' ++ [AObj.cells (nmC l[i])])[σ'.length]? = some (.cells (nmC l[i])) := by simp
   have g1 : Grows σ' (σ' ++ [AObj.cells (nmC l[i])]) := Grows.app _ _
   have ga : Grows σ' (σ' ++ [AObj.cells [AVal.int .i64 0,.int .i64 0]]) := Grows.app _ _
   have pr1 := pr.grow g1
   obtain ⟨e',p',he',hp',sp',-,ia',ld',-⟩ := pr1.get hi'
   rw [he] at he'; rw [hp] at hp'
   obtain rfl := Option.some.inj he'
   obtain rfl := Option.some.inj hp'
   obtain ⟨m1,m2⟩ := names_at sp' (i := p.length - 1) (by omega)
   rw [hpl] at m2
   obtain ⟨e',p',he',hp',sz_,-,iaz,ldz,-⟩ := (pr.grow ga).get hi'
   rw [he] at he'; rw [hp] at hp'
   obtain rfl := Option.some.inj he'
   obtain rfl := Option.some.inj hp'
   obtain ⟨mz1,mz2⟩ := names_at sz_ (i := p.length - 1) (by omega)
   rw [hpl] at mz2
   simp -dsimp only [↓WPd,↓Zm,↓Zn,WPu,Za,Zb,Zc,Zd,Ze,Zf,Zg,Zh,Nat.reduceEqDiff,Nat.reduceLT,Zi,Zj,Zk,Zl,Nat.reduceBEq,WPm]
   refine drawnP_of rfl ?_
   simp -dsimp only [↓WPd,↓Zm,↓Zn,WPu,Za,Zb,Zc,Zd,Ze,Zf,Zg,Zh,Nat.reduceEqDiff,Nat.reduceLT,Zi,Zj,Zk,Zl,Nat.reduceBEq,↓WPed,WPeu,Nat.reduceAdd,and_self,ia,ld,lp,w1,n1,n2,ldz,mz2,nm_putB]
   generalize σ' ++ [AObj.cells (nmC l[i])] = σ1 at ol g1 pr1 sp' ld' m2
   generalize σ'.length = q at ol
   have g01 := g.trans g1
   have ot1 := g01.get ot0
   simp -dsimp only [↓WPd,↓Zm,↓Zn,WPu,Za,Zb,Zc,Zd,Ze,Zf,Zg,Zh,Nat.reduceEqDiff,Nat.reduceLT,Zi,Zj,Zk,Zl,Nat.reduceBEq,WPm,load_nm ol,load_nm ot1,nm_eqs]
   by_cases hlt' : l[i] = t
   ·simp -dsimp only [↓WPd,↓Zm,↓Zn,WPu,Za,Zb,Zc,Zd,Ze,Zf,Zg,Zh,Nat.reduceEqDiff,Nat.reduceLT,Zi,Zj,Zk,Zl,Nat.reduceBEq,WPm,decide_eq_true hlt',ia',ld']
    exact ⟨g01,.inr ⟨e,p,l,i,hi',rfl,sp',by have := wy.tr; rw [hfl] at this; exact this,wy.nodup,hlt',ln,by rw [← hlt']; exact wy.rea _ (List.getElem_mem hi')⟩⟩
   ·simp -dsimp only [↓WPd,↓Zm,↓Zn,WPu,Za,Zb,Zc,Zd,Ze,Zf,Zg,Zh,Nat.reduceEqDiff,Nat.reduceLT,Zi,Zj,Zk,Zl,Nat.reduceBEq,WPm,decide_eq_false hlt',load_nm ol]
    refine calledW_of (rnext_ok d σ1 rv R l[i] (h.grow (g0.trans g01)) hw (by omega)) ?_
    rintro mv σ2 ⟨g2,sm⟩
    have hsl := stepN_len hw l[i]
    obtain ⟨w0,hw0⟩ : ∃ w0,w0 = l[i] := ⟨_,rfl⟩
    rw [← hw0] at sm hsl
    have wn := wy.next hi'
    rw [← hw0] at wn
    have hnl := wn.len
    simp -dsimp only [↓WPd,↓Zm,↓Zn,WPu,Za,Zb,Zc,Zd,Ze,Zf,Zg,Zh,Nat.reduceEqDiff,Nat.reduceLT,Zi,Zj,Zk,Zl,Nat.reduceBEq,WPm]
    refine loop_rule2 (fun m xs σ' => ∃ (k : Nat) (kv2 rw2 : AVal) (l2 : List Nm) (es2 : List AVal) (ps2 : List (List Nm)),k ≤ (stepN R w0).length ∧ m = (stepN R w0).length - k ∧ xs = [rv,.ptr it 0,kv2,rw2,.int .i64 (i : Nat),mv,.int .i64 (k : Nat)] ∧ Grows σ0 σ' ∧ l2 = adds l ((stepN R w0).take k) ∧ PR σ' R f kv2 rw2 l2 es2 ps2 ∧ (Fresh σ0.length kv2 ∧ Fresh σ0.length rw2 ∧ ∀ s,kv2.sid = some s → rw2.sid ≠ some s) ∧ SlOf σ' 2 mv (NN (stepN R w0)))
     [0,5,8,9,10] (fun e xs σ' => e = .exit 2 ∧ ∃ (kv2 rw2 : AVal) (es2 : List AVal) (ps2 : List (List Nm)),xs = [rv,.ptr it 0,kv2,rw2,.int .i64 (i : Nat)] ∧ Grows σ0 σ' ∧ PR σ' R f kv2 rw2 (adds l (stepN R w0)) es2 ps2 ∧ (Fresh σ0.length kv2 ∧ Fresh σ0.length rw2 ∧ ∀ s,kv2.sid = some s → rw2.sid ≠ some s)) (stepN R w0).length
     ⟨0,kv,rw_,l,es,ps,Nat.zero_le _,rfl,?_,g01.trans g2,by simp [adds],pr1.grow g2,⟨fk,fr,fd⟩,sm⟩ ?_ ?_
    ·simp -dsimp only [↓WPd,↓Zm,↓Zn,WPu,Za,Zb,Zc,Zd,Ze,Zf,Zg,Zh,Nat.reduceEqDiff,Nat.reduceLT,Zi,Zj,Zk,Zl,Nat.reduceBEq]; rfl
    ·rintro m xs σ3 ⟨k,kv2,rw2,l2,es2,ps2,hk,rfl,rfl,g3,hl2,pr3,⟨fk3,fr3,fd3⟩,sm3⟩
     have lm := sm3.len
     rw [List.length_map] at lm
     simp -dsimp only [↓WPd,↓Zm,↓Zn,WPu,Za,Zb,Zc,Zd,Ze,Zf,Zg,Zh,Nat.reduceEqDiff,Nat.reduceLT,Zi,Zj,Zk,Zl,Nat.reduceBEq,WPm,lm]
     refine condP_dec (fun hc => ?_) (fun hc => ?_)
     ·have hk' : k < (stepN R w0).length := by omega
      have hl2l : l2.length ≤ l.length + 256 := by
       have := adds_len l ((stepN R w0).take k)
       rw [hl2]
       simp only [List.length_take] at this
       omega
      obtain ⟨x,hx⟩ := adds_pre ((stepN R w0).take k) l
      have hil2 : i < l2.length := by rw [hl2,hx,List.length_append]; omega
      have hl2i : l2[i] = w0 := by
       have key : ∀ (y : List Nm) (hy : y = l ++ x) (h : i < y.length),y[i] = l[i] := by
        intro y hy h; subst hy; exact List.getElem_append_left hi'
       rw [hw0]; exact key l2 (by rw [hl2,hx]) hil2
      obtain ⟨p1,p2⟩ := names_at sm3 hk'
      have ht : addN l2 (stepN R w0)[k] = adds l ((stepN R w0).take (k + 1)) := by rw [List.take_succ_eq_append_getElem hk',adds_snoc,hl2]
      have hmem := List.getElem_mem hk'
      generalize (stepN R w0)[k] = y at p2 ht hmem
      have w2 : IntKind.i64.wrap ((k : Int) + 1) = ((k + 1 : Nat) : Int) := by rw [wrap_i64 (by omega) (by omega),Int.natCast_add,Int.natCast_one]
      simp -dsimp only [↓WPd,↓Zm,↓Zn,WPu,Za,Zb,Zc,Zd,Ze,Zf,Zg,Zh,Nat.reduceEqDiff,Nat.reduceLT,Zi,Zj,Zk,Zl,Nat.reduceBEq,WPm,p1,p2]
      refine calledW_of (hasname_ok d σ3 kv2 l2 y (by omega) pr3.kn.sl) ?_
      rintro r σ4 ⟨rfl,g4⟩
      have sm4 := sm3.grow g4
      have pr4 := pr3.grow g4
      cases hcn : l2.contains y with
      | true =>
       simp -dsimp only [↓WPd,↓Zm,↓Zn,WPu,Za,Zb,Zc,Zd,Ze,Zf,Zg,Zh,Nat.reduceEqDiff,Nat.reduceLT,Zi,Zj,Zk,Zl,Nat.reduceBEq,WPm,Bool.not_true,w2]
       exact ⟨(stepN R w0).length - (k + 1),by omega,k + 1,kv2,rw2,l2,es2,ps2,by omega,rfl,rfl,g3.trans g4,by rw [← ht,addN_in hcn],pr4,⟨fk3,fr3,fd3⟩,sm4⟩
      | false =>
       have hny : y ∉ l2 := by simpa using hcn
       have q2 : loadV σ4 2 true (addrOf 2 mv k) = some (nmV y) := by
        have h1 := (names_at sm4 hk').2
        have h2 := (names_at sm3 hk').2
        rw [p2] at h2
        have h3 := Option.some.inj h2
        rw [h1,← h3]
       obtain ⟨kv3,σ5,a1,a2,a3,a4,a5⟩ := pr4.kn.name y (by omega)
       have fe := elems2 (AVal.tagL [nmV y]) σ4 (nmV y)
       have sm5 := pr4.kn.append_view a1 sm4
       have q5 : loadV σ5 2 true (addrOf 2 mv k) = some (nmV y) := by
        have h1 := (names_at sm5 hk').2
        have h2 := (names_at sm4 hk').2
        rw [q2] at h2
        have h3 := Option.some.inj h2
        rw [h1,← h3]
       simp -dsimp only [↓WPd,↓Zm,↓Zn,WPu,Za,Zb,Zc,Zd,Ze,Zf,Zg,Zh,Nat.reduceEqDiff,Nat.reduceLT,Zi,Zj,Zk,Zl,Nat.reduceBEq,WPm,Bool.not_false,p1,q2,nm_lit,fe,a1]
       have row5 : Own σ5 1 rw2 es2 := pr4.row.keeps a3 fun s hs e => fd3 s e hs
       have one5 : ∀ (j : Nat) (e : AVal) (p : List Nm),es2[j]? = some e → ps2[j]? = some p → SlOf σ5 2 e (NN p) := fun j e p h1 h2 => pr4.kn.append_view a1 (pr4.one j e p h1 h2)
       have hie2 : i < es2.length := by rw [pr4.le]; exact hil2
       have hip2 : i < ps2.length := by rw [pr4.lp]; exact hil2
       have e1 : es2[i]? = some es2[i] := List.getElem?_eq_getElem hie2
       have e2 : ps2[i]? = some ps2[i] := List.getElem?_eq_getElem hip2
       have s5 := one5 i _ _ e1 e2
       have lni := pr4.lin i _ e2
       have ia5 : iaddrV 1 rw2 (.int .i64 i) = some (addrOf 1 rw2 i) := row5.sl.iaddr hie2 .i64
       have ld5 := row5.sl.load1 hie2 s5.one 1
       generalize es2[i] = ei at e1 s5 ld5
       generalize ps2[i] = pi at e2 s5 lni
       have lpi := lni.len
       have ol : Own σ5 2 (.fslice (AVal.tagL []) true 2 []) (NN []) := Own.lit _ _ _ _
       obtain ⟨u,σ6,b1,b2,b3,b4,b5⟩ := ol.append (NN pi) 16 (by rw [List.length_map,List.length_map,List.length_nil]; omega)
       have g56 : Grows σ5 σ6 := b3.mono fun s _ h => by cases h
       have eu : NN [] ++ NN pi = NN pi := rfl
       rw [eu] at b2
       obtain ⟨z,σ7,c1,c2,c3,c4,c5⟩ := b2.name y (by omega)
       have q6 : loadV σ6 2 true (addrOf 2 mv k) = some (nmV y) := by
        have h1 := (names_at (sm5.grow g56) hk').2
        have h2 := (names_at sm5 hk').2
        rw [q5] at h2
        have h3 := Option.some.inj h2
        rw [h1,← h3]
       have fe6 := elems2 (AVal.tagL [nmV y]) σ6 (nmV y)
       have fu : Fresh σ5.length u := fun s hs => by
        rcases b4 s hs with e | e
        ·cases e
        ·omega
       have g57 : Grows σ5 σ7 := Keeps.trans g56 c3 fun s hs e => by have := fu s e; omega
       have fz : Fresh σ5.length z := fun s hs => by
        rcases c4 s hs with e | e
        ·exact fu s e
        ·have := g56.1; omega
       have row7 := row5.grow g57
       have fe7 := elems1 (AVal.tagL [z]) σ7 z
       obtain ⟨rw3,σ8,r1,r2,r3,r4,r5⟩ := row7.append [z] 24 (by rw [pr4.le]; simp only [List.length_singleton]; omega)
       have lz := lit1_one c2.sl.one
       have l0 : fillL 2 true (List.replicate 0 (zel [AVal.int IntKind.i64 0,AVal.int IntKind.i64 0] true)) [] = some [] := rfl
       have l0' : elems 2 σ5 (.fslice (AVal.tagL []) true 2 []) = some [] := rfl
       refine drawnP_of rfl ?_
       simp -dsimp only [↓WPd,↓Zm,↓Zn,WPu,Za,Zb,Zc,Zd,Ze,Zf,Zg,Zh,Nat.reduceEqDiff,Nat.reduceLT,Zi,Zj,Zk,Zl,Nat.reduceBEq,↓WPed,WPeu,Nat.reduceAdd,and_self,l0,ia5,ld5,s5.els,b1,p1,q5,q6,nm_lit,fe6,c1,lz,fe7,r1]
       simp -dsimp only [↓WPd,↓Zm,↓Zn,WPu,Za,Zb,Zc,Zd,Ze,Zf,Zg,Zh,Nat.reduceEqDiff,Nat.reduceLT,Zi,Zj,Zk,Zl,Nat.reduceBEq,WPm,w2]
       have hk8 : Keeps (fun s => σ0.length ≤ s) σ4 σ8 := Keeps.trans (Keeps.trans (a3.mono fun s _ e => fk3 s e) g57 fun s _ h => h.elim) r3 fun s _ e => fr3 s e
       have hg4 := g4.1
       have hg3 := g3.1
       have ha := a3.1
       have hb := g57.1
       refine ⟨(stepN R w0).length - (k + 1),by omega,k + 1,kv3,rw3,l2 ++ [y],es2 ++ [z],ps2 ++ [pi ++ [y]],by omega,rfl,rfl,?_,by rw [← ht,addN_out hcn],⟨?_,r2,by simp [pr4.le],by simp [pr4.lp],fun j e p h1 h2 => ?_,fun j p h2 => ?_⟩,⟨fun s hs => ?_,fun s hs => ?_,fun s hs => ?_⟩,?_⟩
       ·exact Keeps.trans (g3.trans g4) hk8 fun s hs e => by omega
       ·refine (a2.grow g57).keeps r3 fun s hs e => ?_
        rcases a4 s hs with e' | e'
        ·exact fd3 s e' e
        ·have := pr4.row.sl.lt e; omega
       ·by_cases hj : j < es2.length
        ·rw [List.getElem?_append_left hj] at h1
         rw [List.getElem?_append_left (by rw [pr4.lp,← pr4.le]; exact hj)] at h2
         exact row7.append_view r1 ((one5 j e p h1 h2).grow g57)
        ·rw [List.getElem?_append_right (by omega),List.getElem?_singleton] at h1
         rw [List.getElem?_append_right (by rw [pr4.lp,← pr4.le]; omega),List.getElem?_singleton] at h2
         split at h1
         ·rename_i hj0
          rw [if_pos (by rw [pr4.lp,← pr4.le]; exact hj0)] at h2
          injection h1 with h1; injection h2 with h2
          subst h1; subst h2
          exact row7.append_view r1 c2.sl
         ·cases h1
       ·by_cases hj : j < ps2.length
        ·rw [List.getElem?_append_left hj] at h2
         exact (pr4.lin j p h2).lift
        ·rw [List.getElem?_append_right (by omega),List.getElem?_singleton] at h2
         split at h2
         ·rename_i hj0
          injection h2 with h2
          subst h2
          have hjl : j = l2.length := by have := pr4.lp; omega
          subst hjl
          have ey : (l2 ++ [y])[l2.length]'(by simp) = y := by simp
          have key : ∀ (t : Nat) (ht : t < l2.length),(l2 ++ [y])[t]'(by simp; omega) = l2[t] := fun t ht => List.getElem_append_left ht
          have := Lin.step (H := R) (f := f) (L := l2 ++ [y]) (i := i) (j := l2.length) (p := pi) (by simp) hil2 lni.lift (by rw [ey,key i hil2,hl2i]; exact hmem) (fun q hq => by
           rw [ey,key q (by omega)]
           intro hm
           have hql : q < l.length := by omega
           have e : l2[q]'(by omega) = l[q] := by
            have key2 : ∀ (z : List Nm) (hz : z = l ++ x) (h : q < z.length),z[q] = l[q] := by
             intro z hz h; subst hz; exact List.getElem_append_left hql
            exact key2 l2 (by rw [hl2,hx]) (by omega)
           rw [e] at hm
           exact hny (by rw [hl2]; exact adds_mem.2 (.inl (wy.done q hql hq y hm))))
          rw [ey] at this
          exact this
         ·cases h2
       ·rcases a4 s hs with e | e
        ·exact fk3 s e
        ·omega
       ·rcases r4 s hs with e | e
        ·exact fr3 s e
        ·omega
       ·rintro e
        rcases r4 s e with e' | e' <;> rcases a4 s hs with e'' | e''
        ·exact fd3 s e'' e'
        ·have := pr4.row.sl.lt e'; omega
        ·have := pr4.kn.sl.lt e''; omega
        ·have := a2.sl.lt hs; omega
       ·exact row7.append_view r1 (sm5.grow g57)
     ·have : k = (stepN R w0).length := by omega
      subst this
      rw [List.take_length] at hl2
      subst hl2
      simp -dsimp only [↓WPd,↓Zm,↓Zn,WPu,Za,Zb,Zc,Zd,Ze,Zf,Zg,Zh,Nat.reduceEqDiff,Nat.reduceLT,Zi,Zj,Zk,Zl,Nat.reduceBEq]
      exact ⟨kv2,rw2,es2,ps2,rfl,g3,pr3,fk3,fr3,fd3⟩
    ·rintro e σ3 env ⟨rfl,kv2,rw2,es2,ps2,hv,g3,pr3,ff⟩
     simp only [List.map_cons,List.map_nil,List.cons.injEq,and_true] at hv
     obtain ⟨v0,v5,v8,v9,v10⟩ := hv
     have hal : l.length ≤ (adds l (stepN R w0)).length := by obtain ⟨x,hx⟩ := adds_pre (stepN R w0) l; rw [hx,List.length_append]; omega
     have w3 : IntKind.i64.wrap ((i : Int) + 1) = ((i + 1 : Nat) : Int) := by rw [wrap_i64 (by omega) (by omega),Int.natCast_add,Int.natCast_one]
     simp -dsimp only [↓WPd,↓Zm,↓Zn,WPu,Za,Zb,Zc,Zd,Ze,Zf,Zg,Zh,Nat.reduceEqDiff,Nat.reduceLT,Zi,Zj,Zk,Zl,Nat.reduceBEq,WPm,v0,v5,v8,v9,v10,w3]
     refine ⟨(univ R [f]).length - (i + 1),by omega,i + 1,kv2,rw2,_,es2,ps2,by omega,rfl,rfl,g3,pr3,ff,wn,fun j hj hji => ?_⟩
     obtain ⟨x,hx⟩ := adds_pre (stepN R w0) l
     have hjl : j < l.length := by omega
     have ej : (adds l (stepN R w0))[j] = l[j] := by
      have key : ∀ (y : List Nm) (hy : y = l ++ x) (h : j < y.length),y[j] = l[j] := by
       intro y hy h; subst hy; exact List.getElem_append_left hjl
      exact key _ hx hj
     rw [ej]
     by_cases e : j = i
     ·subst e; exact hlt'
     ·exact hnot j hjl (by omega)
  ·have : i = l.length := by omega
   subst this
   simp -dsimp only [↓WPd,↓Zm,↓Zn,WPu,Za,Zb,Zc,Zd,Ze,Zf,Zg,Zh,Nat.reduceEqDiff,Nat.reduceLT,Zi,Zj,Zk,Zl,Nat.reduceBEq]
   refine ⟨g,.inl fun hr => ?_⟩
   obtain ⟨j,hj,hjt⟩ := List.mem_iff_getElem.1 ((wy.all t).2 hr)
   exact hnot j hj hj hjt
 ·rintro e σ' env ⟨g,⟨rfl,hn⟩ | ⟨rfl,u,p,l,i,hi,hv,sp,hl,hd,hlt,ln,hr⟩⟩
  ·simp -dsimp only [↓WPd,↓Zm,↓Zn,WPu,Za,Zb,Zc,Zd,Ze,Zf,Zg,Zh,Nat.reduceEqDiff,Nat.reduceLT,Zi,Zj,Zk,Zl,Nat.reduceBEq]
   exact ⟨g0.trans g,_,_,rfl,⟨(fun h => by cases h),fun h => (hn h).elim⟩,fun _ => rfl,fun h => by cases h⟩
  ·simp only [List.map_cons,List.map_nil,List.cons.injEq,and_true] at hv
   obtain ⟨v6,v7⟩ := hv
   simp -dsimp only [↓WPd,↓Zm,↓Zn,WPu,Za,Zb,Zc,Zd,Ze,Zf,Zg,Zh,Nat.reduceEqDiff,Nat.reduceLT,Zi,Zj,Zk,Zl,Nat.reduceBEq,v6,v7]
   exact ⟨g0.trans g,_,_,rfl,⟨fun _ => hr,fun _ => rfl⟩,(fun h => by cases h),fun _ => ⟨p,sp,l,i,i,hi,hl,hd,hlt,ln⟩⟩
end
section
variable (d : Nat) (σ : Store)
def cyc (H : Hp) (v : Nm) (b : Bool) : Prop := b = true ↔ Rea H (stepN H v) v
theorem cyc_one {H : Hp} {v : Nm} {a b : Bool} (ha : cyc H v a) (hb : cyc H v b) : a = b := by
 unfold cyc at ha hb
 rw [Bool.eq_iff_iff,ha,hb]
theorem Same.cyc {H R : Hp} (hs : Same H R) {v : Nm} {b : Bool} (h : cyc R v b) : cyc H v b := by
 unfold Am.cyc at *
 rw [h,hs.step,hs.rea]
theorem cyclic_ok (hv : AVal) (H : Hp) (hw : WF H) (hH : H.length < 2 ^ 28) (v : Nm) (h : HeapV σ hv H) : Called CU.cfg d 26 [hv,nmV v] σ fun r σ' => Grows σ σ' ∧ ∃ b,r = .bool b ∧ cyc H v b := by
 refine called_of (fn := CU.a26) rfl (Nat.le_of_ble_eq_true rfl) ?_
 simp only [CU.a26, CU.o]
 simp -dsimp only [↓WPd,↓Zm,↓Zn,WPu,Za,Zb,Zc,Zd,Ze,Zf,Zg,Zh,Nat.reduceEqDiff,Nat.reduceLT,Zi,Zj,Zk,Zl,Nat.reduceBEq,WPm,nm_cells,nm_one]
 have ho : (σ ++ [AObj.cells (nmC v)])[σ.length]? = some (.cells (nmC v)) := by simp
 have g0 : Grows σ (σ ++ [AObj.cells (nmC v)]) := Grows.app _ _
 generalize σ ++ [AObj.cells (nmC v)] = σ1 at ho g0
 simp -dsimp only [↓WPd,↓Zm,↓Zn,WPu,Za,Zb,Zc,Zd,Ze,Zf,Zg,Zh,Nat.reduceEqDiff,Nat.reduceLT,Zi,Zj,Zk,Zl,Nat.reduceBEq,WPm,load_nm ho]
 refine calledW_of (nextn_ok d σ1 hv H hw v (h.grow g0)) ?_
 rintro nv σ2 ⟨g2,on,-⟩
 have hsl := stepN_len hw v
 simp -dsimp only [↓WPd,↓Zm,↓Zn,WPu,Za,Zb,Zc,Zd,Ze,Zf,Zg,Zh,Nat.reduceEqDiff,Nat.reduceLT,Zi,Zj,Zk,Zl,Nat.reduceBEq,WPm]
 refine calledW_of (walk_ok d σ2 hv H hw hH nv _ (h.grow (g0.trans g2)) on.sl (by omega)) ?_
 rintro r σ3 ⟨g3,lv,mid,l,bs,rfl,ol,fl,hd,hm,-,-,-,-⟩
 have hu := univ_len hw (stepN H v)
 have hll : l.length ≤ (univ H (stepN H v)).length := nodup_le hd fun v hv => ((hm v).1 hv).univ
 simp -dsimp only [↓WPd,↓Zm,↓Zn,WPu,Za,Zb,Zc,Zd,Ze,Zf,Zg,Zh,Nat.reduceEqDiff,Nat.reduceLT,Zi,Zj,Zk,Zl,Nat.reduceBEq,WPm,List.getElem?_cons_zero,List.getElem?_cons_succ,load_nm (g3.get (g2.get ho))]
 refine calledW_of (ncontains_ok d σ3 lv l v (by omega) ol.sl) ?_
 rintro r σ4 ⟨rfl,g4⟩
 simp -dsimp only [↓WPd,↓Zm,↓Zn,WPu,Za,Zb,Zc,Zd,Ze,Zf,Zg,Zh,Nat.reduceEqDiff,Nat.reduceLT,Zi,Zj,Zk,Zl,Nat.reduceBEq,WPm]
 exact ⟨((g0.trans g2).trans g3).trans g4,_,rfl,by unfold cyc; rw [← hm]; simp⟩
theorem rcyclic_ok (rv : AVal) (R : Hp) (hw : WF R) (hR : R.length < 2 ^ 28) (v : Nm) (h : RefV σ rv R) : Called CU.cfg d 27 [rv,nmV v] σ fun r σ' => Grows σ σ' ∧ ∃ b,r = .bool b ∧ cyc R v b := by
 refine called_of (fn := CU.a27) rfl (Nat.le_of_ble_eq_true rfl) ?_
 simp only [CU.a27, CU.o]
 simp -dsimp only [↓WPd,↓Zm,↓Zn,WPu,Za,Zb,Zc,Zd,Ze,Zf,Zg,Zh,Nat.reduceEqDiff,Nat.reduceLT,Zi,Zj,Zk,Zl,Nat.reduceBEq,WPm,nm_cells,nm_one]
 have ho : (σ ++ [AObj.cells (nmC v)])[σ.length]? = some (.cells (nmC v)) := by simp
 have g0 : Grows σ (σ ++ [AObj.cells (nmC v)]) := Grows.app _ _
 generalize σ ++ [AObj.cells (nmC v)] = σ1 at ho g0
 refine drawnP_of rfl ?_
 simp -dsimp only [↓WPd,↓Zm,↓Zn,WPu,Za,Zb,Zc,Zd,Ze,Zf,Zg,Zh,Nat.reduceEqDiff,Nat.reduceLT,Zi,Zj,Zk,Zl,Nat.reduceBEq,↓WPed,WPeu,Nat.reduceAdd,and_self,load_nm ho]
 refine calledW_of (rnext_ok d σ1 rv R v (h.grow g0) hw (by omega)) ?_
 rintro nv σ2 ⟨g2,sn⟩
 have hsl := stepN_len hw v
 simp -dsimp only [↓WPd,↓Zm,↓Zn,WPu,Za,Zb,Zc,Zd,Ze,Zf,Zg,Zh,Nat.reduceEqDiff,Nat.reduceLT,Zi,Zj,Zk,Zl,Nat.reduceBEq,↓WPed,WPeu,Nat.reduceAdd,and_self,load_nm ho]
 refine calledW_of (rneeded_ok d σ2 rv R hw hR nv _ (h.grow (g0.trans g2)) sn (by omega)) ?_
 rintro r σ3 ⟨g3,l,sl,hd,hm,hl⟩
 have hsl' : (sortN l).length < 2 ^ 39 := by rw [sortN_len]; exact hl
 simp -dsimp only [↓WPd,↓Zm,↓Zn,WPu,Za,Zb,Zc,Zd,Ze,Zf,Zg,Zh,Nat.reduceEqDiff,Nat.reduceLT,Zi,Zj,Zk,Zl,Nat.reduceBEq,↓WPed,WPeu,Nat.reduceAdd,and_self,load_nm ho,load_nm (g2.get ho),load_nm (g3.get (g2.get ho))]
 refine calledW_of (hasname_ok d σ3 r (sortN l) v (by omega) sl) ?_
 rintro r σ4 ⟨rfl,g4⟩
 simp -dsimp only [↓WPd,↓Zm,↓Zn,WPu,Za,Zb,Zc,Zd,Ze,Zf,Zg,Zh,Nat.reduceEqDiff,Nat.reduceLT,Zi,Zj,Zk,Zl,Nat.reduceBEq,↓WPed,WPeu,Nat.reduceAdd,and_self,load_nm ho,load_nm (g2.get ho),load_nm (g3.get (g2.get ho))]
 exact ⟨((g0.trans g2).trans g3).trans g4,_,rfl,by unfold cyc; rw [← hm]; simp [(sortN_perm l).mem_iff]⟩
end
abbrev StrN (l : List Nm) : Prop := l.Pairwise fun a b => nless a b = true
theorem StrN.up {l : List Nm} (h : StrN l) : UpN l := h.imp fun h => nless_asymm h
theorem StrN.nodup {l : List Nm} (h : StrN l) : l.Nodup := h.imp fun h => nless_ne h
theorem str_one {a b : List Nm} (ha : StrN a) (hb : StrN b) (hm : ∀ v,v ∈ a ↔ v ∈ b) : a = b :=
 up_one ha.up hb.up ((List.perm_ext_iff_of_nodup ha.nodup hb.nodup).2 hm)
def insD (x : Nm) : List Nm → List Nm
 | [] => [x]
 | y :: r => if nless y x = true then y :: insD x r else if y = x then x :: r else x :: y :: r
theorem insD_mem (x v : Nm) : ∀ l,v ∈ insD x l ↔ v = x ∨ v ∈ l
 | [] => by simp [insD]
 | y :: r => by
  simp only [insD]
  split
  ·simp only [List.mem_cons,insD_mem x v r]
   constructor
   ·rintro (h | h | h)
    ·exact .inr (.inl h)
    ·exact .inl h
    ·exact .inr (.inr h)
   ·rintro (h | h | h)
    ·exact .inr (.inl h)
    ·exact .inl h
    ·exact .inr (.inr h)
  ·split
   ·rename_i e; subst e; simp
   ·simp
theorem insD_str (x : Nm) : ∀ {l : List Nm},StrN l → StrN (insD x l)
 | [],_ => by simp [insD]
 | y :: r,h => by
  have h' := h
  simp only [List.pairwise_cons] at h
  obtain ⟨h1,h2⟩ := h
  simp only [insD]
  split
  ·rename_i hl
   refine List.pairwise_cons.2 ⟨fun z hz => ?_,insD_str x h2⟩
   rcases (insD_mem x z r).1 hz with rfl | hz
   ·exact hl
   ·exact h1 z hz
  ·rename_i hl
   split
   ·rename_i e; subst e; exact h'
   ·rename_i hne
    have hxy : nless x y = true := nless_not (by simpa using hl) hne
    refine List.pairwise_cons.2 ⟨fun z hz => ?_,h'⟩
    rcases List.mem_cons.1 hz with rfl | hz
    ·exact hxy
    ·exact nless_trans hxy (h1 z hz)
def risD (l ms : List Nm) : List Nm := ms.foldl (fun l x => insD x l) l
theorem risD_mem (v : Nm) : ∀ (ms l : List Nm),v ∈ risD l ms ↔ v ∈ l ∨ v ∈ ms
 | [],l => by simp [risD]
 | x :: r,l => by
  have ih := risD_mem v r (insD x l)
  simp only [risD,List.foldl_cons] at ih ⊢
  rw [ih,insD_mem]
  simp only [List.mem_cons]
  constructor
  ·rintro ((h | h) | h)
   ·exact .inr (.inl h)
   ·exact .inl h
   ·exact .inr (.inr h)
  ·rintro (h | h | h)
   ·exact .inl (.inr h)
   ·exact .inl (.inl h)
   ·exact .inr h
theorem risD_str : ∀ (ms : List Nm) {l : List Nm},StrN l → StrN (risD l ms)
 | [],_,h => h
 | x :: r,l,h => risD_str r (l := insD x l) (insD_str x h)
theorem risD_snoc (l ms : List Nm) (x : Nm) : risD l (ms ++ [x]) = insD x (risD l ms) := by simp [risD]
def compF : Nm → List Nm → List Nm
 | _,[] => []
 | a,b :: r => if b = a then compF a r else b :: compF b r
def compN : List Nm → List Nm
 | [] => []
 | a :: r => a :: compF a r
theorem compF_mem : ∀ (r : List Nm) (a v : Nm),(v = a ∨ v ∈ compF a r) ↔ (v = a ∨ v ∈ r)
 | [],a,v => by simp [compF]
 | b :: r,a,v => by
  simp only [compF]
  split
  ·rename_i e
   subst e
   rw [compF_mem r b v]
   simp
  ·have := compF_mem r b v
   simp only [List.mem_cons]
   rw [this]
theorem compN_mem (l : List Nm) (v : Nm) : v ∈ compN l ↔ v ∈ l := by
 cases l with
 | nil => simp [compN]
 | cons a r => simp only [compN,List.mem_cons]; exact compF_mem r a v
theorem compF_str : ∀ (r : List Nm) (a : Nm),UpN (a :: r) → StrN (a :: compF a r)
 | [],a,_ => by simp [compF]
 | b :: r,a,h => by
  have h' := h
  simp only [List.pairwise_cons] at h
  obtain ⟨h1,h2,h3⟩ := h
  simp only [compF]
  split
  ·rename_i e
   subst e
   exact compF_str r b (List.pairwise_cons.2 ⟨h2,h3⟩)
  ·rename_i hne
   have ih := compF_str r b (List.pairwise_cons.2 ⟨h2,h3⟩)
   have hab : nless a b = true := by
    have := h1 b List.mem_cons_self
    exact nless_not this hne
   refine List.pairwise_cons.2 ⟨fun z hz => ?_,ih⟩
   rcases List.mem_cons.1 hz with rfl | hz
   ·exact hab
   ·exact nless_trans hab ((List.pairwise_cons.1 ih).1 z hz)
theorem compN_str {l : List Nm} (h : UpN l) : StrN (compN l) := by
 cases l with
 | nil => exact List.Pairwise.nil
 | cons a r => exact compF_str r a h
theorem comp_ris (ms : List Nm) : compN (sortN ms) = risD [] ms :=
 str_one (compN_str (sortN_up ms)) (risD_str ms List.Pairwise.nil) fun v => by
  rw [compN_mem,(sortN_perm ms).mem_iff,risD_mem]; simp
theorem compF_snoc : ∀ (r : List Nm) (a b : Nm),compF a (r ++ [b]) = compF a r ++ (if b = (a :: r).getLast (by simp) then [] else [b])
 | [],a,b => by by_cases h : b = a <;> simp [compF,h]
 | c :: r,a,b => by
  simp only [List.cons_append,compF]
  have hl : (a :: c :: r).getLast (by simp) = (c :: r).getLast (by simp) := List.getLast_cons (by simp)
  split
  ·rename_i e
   subst e
   rw [compF_snoc r c b,hl]
  ·rw [compF_snoc r c b,hl,List.cons_append]
theorem risD_len : ∀ (ms l : List Nm),(risD l ms).length ≤ l.length + ms.length
 | [],l => by simp [risD]
 | x :: r,l => by
  have ih := risD_len r (insD x l)
  have h1 : ∀ l : List Nm,(insD x l).length ≤ l.length + 1 := by
   intro l
   induction l with
   | nil => simp [insD]
   | cons y r ih =>
    simp only [insD]
    split
    ·simp only [List.length_cons]; omega
    ·split <;> simp
  have := h1 l
  simp only [risD,List.foldl_cons,List.length_cons] at ih ⊢
  omega
theorem insD_at {x : Nm} : ∀ {l : List Nm} {k : Nat} (hk : k ≤ l.length) (h2 : ∀ hk : k < l.length,nless l[k] x = false ∧ l[k] ≠ x) (h1 : ∀ (j : Nat) (hj : j < l.length),j < k → nless l[j] x = true),l.take k ++ [x] ++ l.drop k = insD x l
 | [],k,hk,_,_ => by simp [insD]
 | y :: r,0,hk,h2,h1 => by
  obtain ⟨h,hne⟩ := h2 (by simp)
  simp only [List.getElem_cons_zero] at h hne
  simp [insD,h,hne]
 | y :: r,k + 1,hk,h2,h1 => by
  have h := h1 0 (by simp) (by omega)
  simp only [List.getElem_cons_zero] at h
  have ih := insD_at (x := x) (l := r) (k := k) (by simpa using hk) (fun hk' => by
   have := h2 (by simpa using hk')
   simpa using this) (fun j hj hjk => by
   have := h1 (j + 1) (by simpa using hj) (by omega)
   simpa using this)
  simp only [List.take_succ_cons,List.drop_succ_cons,List.cons_append,insD,h,if_true]
  rw [← ih]
theorem insD_eq {x : Nm} : ∀ {l : List Nm} {k : Nat} (hk : k < l.length) (h2 : l[k] = x) (h1 : ∀ (j : Nat) (hj : j < l.length),j < k → nless l[j] x = true),l.take k ++ [x] ++ l.drop (k + 1) = insD x l
 | [],k,hk,_,_ => by simp at hk
 | y :: r,0,hk,h2,h1 => by
  simp only [List.getElem_cons_zero] at h2
  subst h2
  have h : nless y y = false := by
   cases h : nless y y with
   | false => rfl
   | true => exact (nless_ne h rfl).elim
  simp [insD,h]
 | y :: r,k + 1,hk,h2,h1 => by
  have h := h1 0 (by simp) (by omega)
  simp only [List.getElem_cons_zero] at h
  have ih := insD_eq (x := x) (l := r) (k := k) (by simpa using hk) (by simpa using h2) (fun j hj hjk => by
   have := h1 (j + 1) (by simpa using hj) (by omega)
   simpa using this)
  simp only [List.take_succ_cons,List.drop_succ_cons,List.cons_append,insD,h,if_true]
  rw [← ih]
section
variable (d : Nat) (σ : Store)
set_option maxHeartbeats 1000000 in
theorem rising2_ok (mv : AVal) (ms : List Nm) (hn : ms.length < 2 ^ 39) (hm : SlOf σ 2 mv (NN ms)) : Called CU.cfg d 65 [.nilslice,mv] σ fun r σ' => Grows σ σ' ∧ SlOf σ' 2 r (NN (risD [] ms)) := by
 refine called_of (fn := CU.a65) rfl (Nat.le_of_ble_eq_true rfl) ?_
 simp only [CU.a65, CU.o]
 simp -dsimp only [↓WPd,↓Zm,↓Zn,WPu,Za,Zb,Zc,Zd,Ze,Zf,Zg,Zh,Nat.reduceEqDiff,Nat.reduceLT,Zi,Zj,Zk,Zl,Nat.reduceBEq]
 refine loop_rule2 (fun m xs σ' => ∃ (i : Nat) (lv : AVal),i ≤ ms.length ∧ m = ms.length - i ∧ xs = [lv,mv,.int .i64 (i : Nat)] ∧ Grows σ σ' ∧ SlOf σ' 2 lv (NN (risD [] (ms.take i))))
  [0] (fun e xs σ' => e = .exit 0 ∧ ∃ lv,xs = [lv] ∧ Grows σ σ' ∧ SlOf σ' 2 lv (NN (risD [] ms))) ms.length
  ⟨0,.nilslice,Nat.zero_le _,rfl,?_,Keeps.refl _ _,SlOf.nil _ _⟩ ?_ ?_
 ·simp -dsimp only [↓WPd,↓Zm,↓Zn,WPu,Za,Zb,Zc,Zd,Ze,Zf,Zg,Zh,Nat.reduceEqDiff,Nat.reduceLT,Zi,Zj,Zk,Zl,Nat.reduceBEq]; rfl
 ·rintro m xs σ1 ⟨i,lv,hi,rfl,rfl,g1,sl⟩
  have lm := (hm.grow g1).len
  rw [List.length_map] at lm
  simp -dsimp only [↓WPd,↓Zm,↓Zn,WPu,Za,Zb,Zc,Zd,Ze,Zf,Zg,Zh,Nat.reduceEqDiff,Nat.reduceLT,Zi,Zj,Zk,Zl,Nat.reduceBEq,lm]
  refine condP_dec (fun hc => ?_) (fun hc => ?_)
  ·have hi' : i < ms.length := by omega
   obtain ⟨x,hx⟩ : ∃ x,x = ms[i] := ⟨_,rfl⟩
   have hrl := risD_len (ms.take i) []
   rw [List.length_take,Nat.min_eq_left (by omega)] at hrl
   simp only [List.length_nil,Nat.zero_add] at hrl
   have ht : ms.take (i + 1) = ms.take i ++ [x] := by rw [hx]; exact List.take_succ_eq_append_getElem hi'
   have hins : risD [] (ms.take (i + 1)) = insD x (risD [] (ms.take i)) := by rw [ht,risD_snoc]
   generalize risD [] (ms.take i) = ls at sl hrl hins
   have mx : ∀ {σ' : Store},Grows σ σ' → iaddrV 2 mv (.int .i64 i) = some (addrOf 2 mv i) ∧ loadV σ' 2 true (addrOf 2 mv i) = some (nmV x) := fun g => by rw [hx]; exact names_at (hm.grow g) hi'
   simp -dsimp only [↓WPd,↓Zm,↓Zn,WPu,Za,Zb,Zc,Zd,Ze,Zf,Zg,Zh,Nat.reduceEqDiff,Nat.reduceLT,Zi,Zj,Zk,Zl,Nat.reduceBEq]
   refine loop_rule2 (fun m xs σ' => ∃ (k : Nat) (nx : AVal),k ≤ ls.length ∧ m = ls.length - k ∧ xs = [lv,mv,.int .i64 (i : Nat),nx,.int .i64 (k : Nat)] ∧ Grows σ σ' ∧ SlOf σ' 2 lv (NN ls) ∧ Own σ' 2 nx (NN (ls.take k)) ∧ Fresh σ.length nx ∧ ∀ (j : Nat) (hj : j < ls.length),j < k → nless ls[j] x = true)
    [0,1,5,6,7] (fun e xs σ' => e = .exit 2 ∧ ∃ (k : Nat) (nx : AVal),k ≤ ls.length ∧ xs = [lv,mv,.int .i64 (i : Nat),nx,.int .i64 (k : Nat)] ∧ Grows σ σ' ∧ SlOf σ' 2 lv (NN ls) ∧ Own σ' 2 nx (NN (ls.take k)) ∧ Fresh σ.length nx ∧ (∀ (j : Nat) (hj : j < ls.length),j < k → nless ls[j] x = true) ∧ ∀ hk : k < ls.length,nless ls[k] x = false) ls.length
    ⟨0,.nilslice,Nat.zero_le _,rfl,?_,g1,sl,Own.nil _ _,Fresh.nil _,fun j _ h => by omega⟩ ?_ ?_
   ·simp -dsimp only [↓WPd,↓Zm,↓Zn,WPu,Za,Zb,Zc,Zd,Ze,Zf,Zg,Zh,Nat.reduceEqDiff,Nat.reduceLT,Zi,Zj,Zk,Zl,Nat.reduceBEq]; rfl
   ·rintro m xs σ2 ⟨k,nx,hk,rfl,rfl,g2,sl2,on,fn,hlt⟩
    have ll := sl2.len
    rw [List.length_map] at ll
    obtain ⟨x1,x2⟩ := mx g2
    by_cases hc : k < ls.length
    ·have dc : decide ((k : Int) < (ls.length : Int)) = true := decide_eq_true (by omega)
     obtain ⟨n1,n2⟩ := names_at sl2 hc
     simp -dsimp only [↓WPd,↓Zm,↓Zn,WPu,Za,Zb,Zc,Zd,Ze,Zf,Zg,Zh,Nat.reduceEqDiff,Nat.reduceLT,Zi,Zj,Zk,Zl,Nat.reduceBEq,ll,dc,n1,n2,x1,x2]
     refine calledW_of (rless_ok d σ2 ls[k] x) ?_
     rintro r σ3 ⟨rfl,g3⟩
     cases hle : nless ls[k] x with
     | true =>
      have sl3 := sl2.grow g3
      obtain ⟨m1,m2⟩ := names_at sl3 hc
      obtain ⟨nx',σ4,a1,a2,a3,a4,a5⟩ := (on.grow g3).name ls[k] (by simp; omega)
      have fl := elems2 (AVal.tagL [nmV ls[k]]) σ3 (nmV ls[k])
      simp -dsimp only [↓WPd,↓Zm,↓Zn,WPu,Za,Zb,Zc,Zd,Ze,Zf,Zg,Zh,Nat.reduceEqDiff,Nat.reduceLT,Zi,Zj,Zk,Zl,Nat.reduceBEq,m1,m2,nm_lit,fl,a1]
      have tk : ls.take (k + 1) = ls.take k ++ [ls[k]] := List.take_succ_eq_append_getElem hc
      refine ⟨ls.length - (k + 1),by omega,k + 1,nx',by omega,rfl,by rw [wrap_i64 (by omega) (by omega),Int.natCast_add,Int.natCast_one],Keeps.trans (g2.trans g3) a3 fun j hj e => by have := fn j e; omega,(on.grow g3).append_view a1 sl3,by rw [tk]; exact a2,fun j hj => ?_,fun j hj hjk => ?_⟩
      ·rcases a4 j hj with e | e
       ·exact fn j e
       ·have := (g2.trans g3).1; omega
      ·by_cases e : j = k
       ·subst e; exact hle
       ·exact hlt j hj (by omega)
     | false =>
      simp -dsimp only [↓WPd,↓Zm,↓Zn,WPu,Za,Zb,Zc,Zd,Ze,Zf,Zg,Zh,Nat.reduceEqDiff,Nat.reduceLT,Zi,Zj,Zk,Zl,Nat.reduceBEq]
      exact ⟨k,nx,hk,rfl,g2.trans g3,sl2.grow g3,on.grow g3,fn,hlt,fun _ => hle⟩
    ·have dc : decide ((k : Int) < (ls.length : Int)) = false := decide_eq_false (by omega)
     simp -dsimp only [↓WPd,↓Zm,↓Zn,WPu,Za,Zb,Zc,Zd,Ze,Zf,Zg,Zh,Nat.reduceEqDiff,Nat.reduceLT,Zi,Zj,Zk,Zl,Nat.reduceBEq,ll,dc]
     exact ⟨k,nx,hk,rfl,g2,sl2,on,fn,hlt,fun h => absurd h hc⟩
   ·rintro e σ2 env ⟨rfl,k,nx,hk,hv,g2,sl2,on,fn,hlt,hst⟩
    simp only [List.map_cons,List.map_nil,List.cons.injEq,and_true] at hv
    obtain ⟨v0,v1,v5,v6,v7⟩ := hv
    have ll := sl2.len
    rw [List.length_map] at ll
    obtain ⟨x1,x2⟩ := mx g2
    obtain ⟨nx',σ3,a1,a2,a3,a4,a5⟩ := on.name x (by simp; omega)
    have fl := elems2 (AVal.tagL [nmV x]) σ2 (nmV x)
    have sl3 := on.append_view a1 sl2
    have g3 : Grows σ σ3 := Keeps.trans g2 a3 fun j hj e => by have := fn j e; omega
    have f3 : Fresh σ.length nx' := fun j hj => by
     rcases a4 j hj with e | e
     ·exact fn j e
     ·have := g2.1; omega
    obtain ⟨y1,y2⟩ := mx g3
    have ll3 := sl3.len
    rw [List.length_map] at ll3
    have tail : ∀ (q : Nat),q ≤ ls.length → ls.take k ++ [x] ++ ls.drop q = insD x ls → ∃ dv z σ4,sliceV 2 lv (some (.int .i64 q)) none none = some dv ∧ elems 2 σ3 dv = some (NN (ls.drop q)) ∧ appendV σ3 2 16 nx' (NN (ls.drop q)) = some (z,σ4) ∧
      ∃ m',m' < ms.length - i ∧ ∃ (i_1 : Nat) (lv : AVal),i_1 ≤ ms.length ∧ m' = ms.length - i_1 ∧ [z,mv,AVal.int .i64 (IntKind.i64.wrap ((i : Int) + 1))] = [lv,mv,.int .i64 (i_1 : Nat)] ∧ Grows σ σ4 ∧ SlOf σ4 2 lv (NN (risD [] (ms.take i_1))) := fun q hq hqe => by
     have hkn : q ≤ (NN ls).length := by rw [List.length_map]; exact hq
     obtain ⟨dv,d1,d2,d3⟩ := sl3.sub_lo hkn .i64
     have ed : (NN ls).drop q = NN (ls.drop q) := by simp [List.map_drop]
     rw [ed] at d2
     obtain ⟨z,σ4,b1,b2,b3,b4,b5⟩ := a2.append (NN (ls.drop q)) 16 (by simp; omega)
     have ez : NN (ls.take k ++ [x]) ++ NN (ls.drop q) = NN (insD x ls) := by
      rw [← hqe]; simp
     rw [ez] at b2
     exact ⟨dv,z,σ4,d1,d2.els,b1,ms.length - (i + 1),by omega,i + 1,z,by omega,rfl,by rw [wrap_i64 (by omega) (by omega),Int.natCast_add,Int.natCast_one],Keeps.trans g3 b3 fun j hj e => by have := f3 j e; omega,by rw [hins]; exact b2.sl⟩
    by_cases hc : k < ls.length
    ·have dc : decide ((k : Int) < (ls.length : Int)) = true := decide_eq_true (by omega)
     obtain ⟨n1,n2⟩ := names_at sl3 hc
     by_cases hne : ls[k] = x
     ·obtain ⟨dv,z,σ4,d1,d2,b1,fin⟩ := tail (k + 1) (by omega) (insD_eq hc hne hlt)
      have wk : IntKind.i64.wrap ((k : Int) + 1) = ((k + 1 : Nat) : Int) := by rw [wrap_i64 (by omega) (by omega),Int.natCast_add,Int.natCast_one]
      simp -dsimp only [↓WPd,↓Zm,↓Zn,WPu,Za,Zb,Zc,Zd,Ze,Zf,Zg,Zh,Nat.reduceEqDiff,Nat.reduceLT,Zi,Zj,Zk,Zl,Nat.reduceBEq,v0,v1,v5,v6,v7,x1,x2,nm_lit,fl,a1,ll3,dc,n1,n2,y1,y2,nm_eqs,decide_eq_true hne,oev,wk,d1,d2,b1]
      exact fin
     ·obtain ⟨dv,z,σ4,d1,d2,b1,fin⟩ := tail k (by omega) (insD_at hk (fun hk' => ⟨hst hk',fun e => hne e⟩) hlt)
      simp -dsimp only [↓WPd,↓Zm,↓Zn,WPu,Za,Zb,Zc,Zd,Ze,Zf,Zg,Zh,Nat.reduceEqDiff,Nat.reduceLT,Zi,Zj,Zk,Zl,Nat.reduceBEq,v0,v1,v5,v6,v7,x1,x2,nm_lit,fl,a1,ll3,dc,n1,n2,y1,y2,nm_eqs,decide_eq_false hne,oev,d1,d2,b1]
      exact fin
    ·obtain ⟨dv,z,σ4,d1,d2,b1,fin⟩ := tail k (by omega) (insD_at hk (fun hk' => absurd hk' hc) hlt)
     have dc : decide ((k : Int) < (ls.length : Int)) = false := decide_eq_false (by omega)
     simp -dsimp only [↓WPd,↓Zm,↓Zn,WPu,Za,Zb,Zc,Zd,Ze,Zf,Zg,Zh,Nat.reduceEqDiff,Nat.reduceLT,Zi,Zj,Zk,Zl,Nat.reduceBEq,v0,v1,v5,v6,v7,x1,x2,nm_lit,fl,a1,ll3,dc,oev,d1,d2,b1]
     exact fin
  ·have : i = ms.length := by omega
   subst this
   rw [List.take_length] at sl
   simp -dsimp only [↓WPd,↓Zm,↓Zn,WPu,Za,Zb,Zc,Zd,Ze,Zf,Zg,Zh,Nat.reduceEqDiff,Nat.reduceLT,Zi,Zj,Zk,Zl,Nat.reduceBEq]
   exact ⟨lv,rfl,g1,sl⟩
 ·rintro e σ' env ⟨rfl,lv,hv,g,sl⟩
  simp only [List.map_cons,List.map_nil,List.cons.injEq,and_true] at hv
  simp -dsimp only [↓WPd,↓Zm,↓Zn,WPu,Za,Zb,Zc,Zd,Ze,Zf,Zg,Zh,Nat.reduceEqDiff,Nat.reduceLT,Zi,Zj,Zk,Zl,Nat.reduceBEq,hv]
  exact ⟨g,sl⟩
end
theorem take_set_app {α : Type} (x : α) : ∀ (c : List α) (i : Nat),i < c.length → (c.set i x).take (i + 1) = c.take i ++ [x]
 | [],i,h => by simp at h
 | a :: r,0,_ => by simp
 | a :: r,i + 1,h => by
  have := take_set_app x r i (by simpa using h)
  simp only [List.set_cons_succ,List.take_succ_cons,List.cons_append,this]
theorem compN_take {l : List Nm} {j : Nat} (h1 : 1 ≤ j) (hj : j < l.length) : compN (l.take (j + 1)) = compN (l.take j) ++ if l[j] = l[j - 1] then [] else [l[j]] := by
 cases l with
 | nil => simp at hj
 | cons a r =>
  obtain ⟨i,rfl⟩ : ∃ i,j = i + 1 := ⟨j - 1,by omega⟩
  have hi : i < r.length := by simpa using hj
  have ht : r.take (i + 1) = r.take i ++ [r[i]] := List.take_succ_eq_append_getElem hi
  simp only [List.take_succ_cons,compN,ht,compF_snoc,List.getElem_cons_succ,Nat.add_sub_cancel,List.cons_append]
  have hl : (a :: r.take i).getLast (by simp) = (a :: r)[i]'(by simp; omega) := by
   rw [List.getLast_eq_getElem]
   have e : (a :: r.take i).length - 1 = i := by simp; omega
   have h1 : (a :: r.take i)[(a :: r.take i).length - 1]? = (a :: r)[i]? := by
    rw [e]
    have : a :: r.take i = (a :: r).take (i + 1) := rfl
    rw [this,List.getElem?_take_of_lt (by omega)]
   rw [List.getElem?_eq_getElem,List.getElem?_eq_getElem] at h1
   ·exact Option.some.inj h1
   ·simp; omega
   ·simp
  rw [hl]
section
variable (d : Nat) (σ : Store)
theorem nidx_ok (f : FuncId) (c : AVal) (p : Nm → Bool) (l : AVal) (ws : List Nm) (hx : ws.length < 2 ^ 40) (hl : SlOf σ 2 l (NN ws)) (hf : ∀ (v : Nm) (σ' : Store),Grows σ σ' → Called CU.cfg d f [nmV v,c] σ' fun r σ'' => r = .bool (p v) ∧ Grows σ' σ'') :
  Called CU.cfg d 122 [l,.func f [] [c]] σ fun r σ' => Grows σ σ' ∧ ((r = .int .i64 (-1) ∧ ∀ v ∈ ws,p v = false) ∨ ∃ (k : Nat) (hk : k < ws.length),r = .int .i64 k ∧ p ws[k] = true ∧ ∀ (j : Nat) (hj : j < ws.length),j < k → p ws[j] = false) := by
 refine called_of (fn := CU.a122) rfl (Nat.le_of_ble_eq_true rfl) ?_
 have ll := hl.len
 rw [List.length_map] at ll
 simp only [CU.a122, CU.o]
 simp -dsimp only [↓WPd,↓Zm,↓Zn,WPu,Za,Zb,Zc,Zd,Ze,Zf,Zg,Zh,Nat.reduceEqDiff,Nat.reduceLT,Zi,Zj,Zk,Zl,Nat.reduceBEq,ll]
 refine loop_rule2 (fun m vs σ' => ∃ k,k ≤ ws.length ∧ m = ws.length - k ∧ vs = [l,.func f [] [c],.int .i64 ws.length,.int .i64 k] ∧ Grows σ σ' ∧ ∀ (j : Nat) (hj : j < ws.length),j < k → p ws[j] = false) [4]
  (fun e vs σ' => Grows σ σ' ∧ ((e = .exit 0 ∧ ∀ v ∈ ws,p v = false) ∨ (e = .ret ∧ ∃ (k : Nat) (hk : k < ws.length),vs = [.int .i64 k] ∧ p ws[k] = true ∧ ∀ (j : Nat) (hj : j < ws.length),j < k → p ws[j] = false))) ws.length ⟨0,Nat.zero_le _,rfl,?_,Keeps.refl _ _,fun j _ h => by omega⟩ ?_ ?_
 ·simp -dsimp only [↓WPd,↓Zm,↓Zn,WPu,Za,Zb,Zc,Zd,Ze,Zf,Zg,Zh,Nat.reduceEqDiff,Nat.reduceLT,Zi,Zj,Zk,Zl,Nat.reduceBEq]; rfl
 ·rintro m vs σ' ⟨k,hk,rfl,rfl,g,hall⟩
  simp -dsimp only [↓WPd,↓Zm,↓Zn,WPu,Za,Zb,Zc,Zd,Ze,Zf,Zg,Zh,Nat.reduceEqDiff,Nat.reduceLT,Zi,Zj,Zk,Zl,Nat.reduceBEq]
  refine condP_dec (fun h => ?_) (fun h => ?_)
  ·have hk' : k < ws.length := by omega
   obtain ⟨n1,n2⟩ := names_at (hl.grow g) hk'
   simp -dsimp only [↓WPd,↓Zm,↓Zn,WPu,Za,Zb,Zc,Zd,Ze,Zf,Zg,Zh,Nat.reduceEqDiff,Nat.reduceLT,Zi,Zj,Zk,Zl,Nat.reduceBEq,n1,n2]
   refine calledW_of (hf ws[k] σ' g) ?_
   rintro v σ'' ⟨rfl,g2⟩
   simp -dsimp only [↓WPd,↓Zm,↓Zn,WPu,Za,Zb,Zc,Zd,Ze,Zf,Zg,Zh,Nat.reduceEqDiff,Nat.reduceLT,Zi,Zj,Zk,Zl,Nat.reduceBEq]
   refine condP_intro (fun h => ?_) (fun h => ?_)
   ·simp -dsimp only [↓WPd,↓Zm,↓Zn,WPu,Za,Zb,Zc,Zd,Ze,Zf,Zg,Zh,Nat.reduceEqDiff,Nat.reduceLT,Zi,Zj,Zk,Zl,Nat.reduceBEq]
    exact ⟨g.trans g2,.inr ⟨k,hk',rfl,h,hall⟩⟩
   ·simp -dsimp only [↓WPd,↓Zm,↓Zn,WPu,Za,Zb,Zc,Zd,Ze,Zf,Zg,Zh,Nat.reduceEqDiff,Nat.reduceLT,Zi,Zj,Zk,Zl,Nat.reduceBEq]
    refine ⟨ws.length - (k + 1),by omega,k + 1,by omega,rfl,by rw [wrap_i64 (by omega) (by omega),Int.natCast_add,Int.natCast_one],g.trans g2,fun j hj hjk => ?_⟩
    by_cases e : j = k
    ·subst e; exact h
    ·exact hall j hj (by omega)
  ·simp -dsimp only [↓WPd,↓Zm,↓Zn,WPu,Za,Zb,Zc,Zd,Ze,Zf,Zg,Zh,Nat.reduceEqDiff,Nat.reduceLT,Zi,Zj,Zk,Zl,Nat.reduceBEq]
   refine ⟨g,.inl fun v hv => ?_⟩
   obtain ⟨j,hj,rfl⟩ := List.getElem_of_mem hv
   exact hall j hj (by omega)
 ·rintro e σ' env ⟨g,h⟩
  rcases h with ⟨rfl,h⟩ | ⟨rfl,k,hk,hv,h1,h2⟩
  ·simp -dsimp only [↓WPd,↓Zm,↓Zn,WPu,Za,Zb,Zc,Zd,Ze,Zf,Zg,Zh,Nat.reduceEqDiff,Nat.reduceLT,Zi,Zj,Zk,Zl,Nat.reduceBEq]
   exact ⟨g,.inl h⟩
  ·simp only [List.map_cons,List.map_nil,List.cons.injEq,and_true] at hv
   simp -dsimp only [↓WPd,↓Zm,↓Zn,WPu,Za,Zb,Zc,Zd,Ze,Zf,Zg,Zh,Nat.reduceEqDiff,Nat.reduceLT,Zi,Zj,Zk,Zl,Nat.reduceBEq,hv]
   exact ⟨g,.inr ⟨k,hk,rfl,h1,h2⟩⟩
set_option maxHeartbeats 2000000 in
theorem delf_ok (f : FuncId) (c : AVal) (p : Nm → Bool) (v : AVal) (ws : List Nm) (hx : ws.length < 2 ^ 40) (h : Own σ 2 v (NN ws)) (hn : NoLit v) (hf : ∀ (u : Nm) (σ' : Store),Keeps (fun i => v.sid = some i) σ σ' → Called CU.cfg d f [nmV u,c] σ' fun r σ'' => r = .bool (p u) ∧ Grows σ' σ'') :
  Called CU.cfg d 74 [v,.func f [] [c]] σ fun r σ' => SlOf σ' 2 r (NN (ws.filter fun u => !p u)) ∧ Keeps (fun i => v.sid = some i) σ σ' := by
 refine called_of (fn := CU.a74) rfl (Nat.le_of_ble_eq_true rfl) ?_
 simp only [CU.a74, CU.o]
 have ll := h.sl.len
 rw [List.length_map] at ll
 simp -dsimp only [↓WPd,↓Zm,↓Zn,WPu,Za,Zb,Zc,Zd,Ze,Zf,Zg,Zh,Nat.reduceEqDiff,Nat.reduceLT,Zi,Zj,Zk,Zl,Nat.reduceBEq]
 refine calledW_of (nidx_ok d σ f c p v ws hx h.sl fun u σ' g => hf u σ' g.any) ?_
 rintro r σ1 ⟨g1,⟨rfl,hno⟩ | ⟨k0,hk0,rfl,hp0,hb0⟩⟩
 ·have e0 : ((-1 : Int) == -1) = true := rfl
  have ef : (ws.filter fun u => !p u) = ws := List.filter_eq_self.2 fun u hu => by rw [hno u hu]; rfl
  simp -dsimp only [↓WPd,↓Zm,↓Zn,WPu,Za,Zb,Zc,Zd,Ze,Zf,Zg,Zh,Nat.reduceEqDiff,Nat.reduceLT,Zi,Zj,Zk,Zl,Nat.reduceBEq,e0]
  rw [ef]
  exact ⟨h.sl.grow g1,g1.any⟩
 ·have e0 : (((k0 : Nat) : Int) == -1) = false := by rw [beq_eq_false_iff_ne]; omega
  have w1 : IntKind.i64.wrap ((k0 : Int) + 1) = ((k0 + 1 : Nat) : Int) := by rw [wrap_i64 (by omega) (by omega),Int.natCast_add,Int.natCast_one]
  simp -dsimp only [↓WPd,↓Zm,↓Zn,WPu,Za,Zb,Zc,Zd,Ze,Zf,Zg,Zh,Nat.reduceEqDiff,Nat.reduceLT,Zi,Zj,Zk,Zl,Nat.reduceBEq,e0,w1]
  have hinit : ws.take k0 = (ws.take (k0 + 1)).filter fun u => !p u := by
   rw [List.take_succ_eq_append_getElem hk0,List.filter_append,List.filter_eq_self.2 fun u hu => ?_]
   ·simp [hp0]
   ·obtain ⟨j,hj,rfl⟩ := List.getElem_of_mem hu
    rw [List.getElem_take]
    rw [hb0 j (by simp at hj; omega) (by simp at hj; omega)]; rfl
  refine loop_rule2 (fun m vs σ' => ∃ (i j : Nat) (cs : List Nm),i < j ∧ j ≤ ws.length ∧ m = ws.length - j ∧ vs = [v,.func f [] [c],.int .i64 (i : Nat),.int .i64 (j : Nat)] ∧ Keeps (fun i => v.sid = some i) σ σ' ∧ Own σ' 2 v (NN cs) ∧ cs.length = ws.length ∧ cs.take i = (ws.take j).filter (fun u => !p u) ∧ cs.drop j = ws.drop j)
   [0,5] (fun e vs σ' => e = .exit 0 ∧ ∃ (i : Nat) (cs : List Nm),vs = [v,.int .i64 (i : Nat)] ∧ i ≤ ws.length ∧ Keeps (fun i => v.sid = some i) σ σ' ∧ Own σ' 2 v (NN cs) ∧ cs.length = ws.length ∧ cs.take i = ws.filter (fun u => !p u)) (ws.length - (k0 + 1))
   ⟨k0,k0 + 1,ws,by omega,by omega,rfl,?_,g1.any,h.grow g1,rfl,hinit,rfl⟩ ?_ ?_
  ·simp -dsimp only [↓WPd,↓Zm,↓Zn,WPu,Za,Zb,Zc,Zd,Ze,Zf,Zg,Zh,Nat.reduceEqDiff,Nat.reduceLT,Zi,Zj,Zk,Zl,Nat.reduceBEq]
  ·rintro m vs σ' ⟨i,j,cs,hij,hj,rfl,rfl,K,o,hcl,ht,hd⟩
   simp -dsimp only [↓WPd,↓Zm,↓Zn,WPu,Za,Zb,Zc,Zd,Ze,Zf,Zg,Zh,Nat.reduceEqDiff,Nat.reduceLT,Zi,Zj,Zk,Zl,Nat.reduceBEq,ll]
   refine condP_dec (fun hc => ?_) (fun hc => ?_)
   ·have hj' : j < ws.length := by omega
    have hjc : j < cs.length := by omega
    have hcj : cs[j] = ws[j] := by
     have h1 : (cs.drop j)[0]? = (ws.drop j)[0]? := by rw [hd]
     rw [List.getElem?_drop,List.getElem?_drop,Nat.add_zero,List.getElem?_eq_getElem hjc,List.getElem?_eq_getElem hj'] at h1
     exact Option.some.inj h1
    obtain ⟨n1,n2⟩ := names_at o.sl hjc
    rw [hcj] at n2
    have ow : (σ' ++ [AObj.cells (nmC ws[j])])[σ'.length]? = some (.cells (nmC ws[j])) := by simp
    have g2 : Grows σ' (σ' ++ [AObj.cells (nmC ws[j])]) := Grows.app _ _
    simp -dsimp only [↓WPd,↓Zm,↓Zn,WPu,Za,Zb,Zc,Zd,Ze,Zf,Zg,Zh,Nat.reduceEqDiff,Nat.reduceLT,Zi,Zj,Zk,Zl,Nat.reduceBEq,WPm,n1,n2,nm_putB]
    have K2 : Keeps (fun i => v.sid = some i) σ (σ' ++ [AObj.cells (nmC ws[j])]) := Keeps.trans K g2 fun _ _ h => h.elim
    have o2 := o.grow g2
    generalize σ' ++ [AObj.cells (nmC ws[j])] = σ2 at ow g2 K2 o2
    generalize σ'.length = q at ow
    simp -dsimp only [↓WPd,↓Zm,↓Zn,WPu,Za,Zb,Zc,Zd,Ze,Zf,Zg,Zh,Nat.reduceEqDiff,Nat.reduceLT,Zi,Zj,Zk,Zl,Nat.reduceBEq,WPm,load_nm ow]
    refine calledW_of (hf ws[j] σ2 K2) ?_
    rintro r σ3 ⟨rfl,g3⟩
    have ow3 := g3.get ow
    have K3 : Keeps (fun i => v.sid = some i) σ σ3 := Keeps.trans K2 g3 fun _ _ h => h.elim
    have o3 := o2.grow g3
    have w2 : IntKind.i64.wrap ((j : Int) + 1) = ((j + 1 : Nat) : Int) := by rw [wrap_i64 (by omega) (by omega),Int.natCast_add,Int.natCast_one]
    have w3 : IntKind.i64.wrap ((i : Int) + 1) = ((i + 1 : Nat) : Int) := by rw [wrap_i64 (by omega) (by omega),Int.natCast_add,Int.natCast_one]
    have htk : ws.take (j + 1) = ws.take j ++ [ws[j]] := List.take_succ_eq_append_getElem hj'
    have hdd : ∀ cs' : List Nm,cs'.drop j = ws.drop j → cs'.drop (j + 1) = ws.drop (j + 1) := fun cs' h => by
     rw [← List.drop_drop,← List.drop_drop,h]
    cases hp : p ws[j] with
    | true =>
     simp -dsimp only [↓WPd,↓Zm,↓Zn,WPu,Za,Zb,Zc,Zd,Ze,Zf,Zg,Zh,Nat.reduceEqDiff,Nat.reduceLT,Zi,Zj,Zk,Zl,Nat.reduceBEq,WPm,Bool.not_true,w2]
     exact ⟨ws.length - (j + 1),by omega,i,j + 1,cs,by omega,by omega,rfl,rfl,K3,o3,hcl,by rw [htk,List.filter_append,ht]; simp [hp],hdd cs hd⟩
    | false =>
     have hic : i < cs.length := by omega
     have ia := (names_at o3.sl hic).1
     obtain ⟨σ4,s1,s2,s3,-⟩ := o3.store hn (i := i) (by simpa using hic) (x := nmV ws[j]) (nm_one ws[j]) rfl (by simp; rfl) (by simp; rfl)
     have es : (NN cs).set i (nmV ws[j]) = NN (cs.set i ws[j]) := List.map_set.symm
     rw [es] at s2
     simp -dsimp only [↓WPd,↓Zm,↓Zn,WPu,Za,Zb,Zc,Zd,Ze,Zf,Zg,Zh,Nat.reduceEqDiff,Nat.reduceLT,Zi,Zj,Zk,Zl,Nat.reduceBEq,WPm,Bool.not_false,load_nm ow3,ia,s1,w2,w3]
     refine ⟨ws.length - (j + 1),by omega,i + 1,j + 1,cs.set i ws[j],by omega,by omega,rfl,rfl,Keeps.trans K3 s3 fun _ _ h => h,s2,by simpa using hcl,?_,?_⟩
     ·rw [take_set_app _ _ _ hic,htk,List.filter_append,ht]; simp [hp]
     ·refine hdd _ ?_
      rw [List.drop_set_of_lt hij,hd]
   ·have : j = ws.length := by omega
    subst this
    rw [List.take_length] at ht
    simp -dsimp only [↓WPd,↓Zm,↓Zn,WPu,Za,Zb,Zc,Zd,Ze,Zf,Zg,Zh,Nat.reduceEqDiff,Nat.reduceLT,Zi,Zj,Zk,Zl,Nat.reduceBEq]
    exact ⟨i,cs,rfl,by omega,K,o,hcl,ht⟩
  ·rintro e σ' env ⟨rfl,i,cs,hv,hi,K,o,hcl,ht⟩
   simp only [List.map_cons,List.map_nil,List.cons.injEq,and_true] at hv
   obtain ⟨v0,v5⟩ := hv
   have hne : NN cs ≠ [] := fun e => by
    have h0 : cs = [] := by simpa using e
    have h1 : cs.length = 0 := by rw [h0]; rfl
    omega
   obtain ⟨dv,σ2,hv2,c1,c2,c3,c4,c5,c6⟩ := o.cutoff hn hne (i := i) (by simp; omega) [.int .i64 0,.int .i64 0] true
   have et : (NN cs).take i = NN (cs.take i) := by simp [List.map_take]
   rw [et,ht] at c4
   simp -dsimp only [↓WPd,↓Zm,↓Zn,WPu,Za,Zb,Zc,Zd,Ze,Zf,Zg,Zh,Nat.reduceEqDiff,Nat.reduceLT,Zi,Zj,Zk,Zl,Nat.reduceBEq,v0,v5,oev,c1,c2,c3]
   exact ⟨Part.sl c4,Keeps.trans K c5 fun _ _ h => h⟩
set_option maxHeartbeats 4000000 in
theorem compact2_ok (v : AVal) (l : List Nm) (h : Own σ 2 v (NN l)) (hn : NoLit v) (hl : l.length < 2 ^ 40) : Called CU.cfg d 118 [v] σ fun r σ' => PO σ' 2 r (NN (compN l)) ∧ Keeps (fun i => v.sid = some i) σ σ' ∧ r.sid = v.sid := by
 refine called_of (fn := CU.a118) rfl (Nat.le_of_ble_eq_true rfl) ?_
 simp only [CU.a118, CU.o]
 have ll := h.sl.len
 rw [List.length_map] at ll
 simp -dsimp only [↓WPd,↓Zm,↓Zn,WPu,Za,Zb,Zc,Zd,Ze,Zf,Zg,Zh,Nat.reduceEqDiff,Nat.reduceLT,Zi,Zj,Zk,Zl,Nat.reduceBEq,ll]
 refine condP_dec (fun hc => ?_) (fun hc => ?_)
 ·have e : compN l = l := by
   match l,hc with
   | [],_ => rfl
   | [a],_ => rfl
   | a :: b :: r,hc => simp at hc; omega
  simp -dsimp only [↓WPd,↓Zm,↓Zn,WPu,Za,Zb,Zc,Zd,Ze,Zf,Zg,Zh,Nat.reduceEqDiff,Nat.reduceLT,Zi,Zj,Zk,Zl,Nat.reduceBEq]
  rw [e]
  exact ⟨.inl ⟨h,hn⟩,Keeps.refl _ _,trivial⟩
 ·simp -dsimp only [↓WPd,↓Zm,↓Zn,WPu,Za,Zb,Zc,Zd,Ze,Zf,Zg,Zh,Nat.reduceEqDiff,Nat.reduceLT,Zi,Zj,Zk,Zl,Nat.reduceBEq]
  refine loop_rule2 (fun m vs σ' => ∃ k : Nat,1 ≤ k ∧ k ≤ l.length ∧ m = l.length - k ∧ vs = [v,.int .i64 (k : Nat)] ∧ σ' = σ ∧ compN (l.take k) = l.take k) [0,2]
   (fun e vs σ' => (e = .exit 0 ∧ (∃ x,vs = [v,x]) ∧ σ' = σ ∧ compN l = l) ∨ (e = .ret ∧ ∃ x r,vs = [x,r] ∧ PO σ' 2 r (NN (compN l)) ∧ Keeps (fun i => v.sid = some i) σ σ' ∧ r.sid = v.sid)) (l.length - 1) ⟨1,Nat.le_refl _,by omega,rfl,?_,rfl,?_⟩ ?_ ?_
  ·simp -dsimp only [↓WPd,↓Zm,↓Zn,WPu,Za,Zb,Zc,Zd,Ze,Zf,Zg,Zh,Nat.reduceEqDiff,Nat.reduceLT,Zi,Zj,Zk,Zl,Nat.reduceBEq]; rfl
  ·match l with
   | [] => rfl
   | a :: r => rfl
  ·rintro m vs σ' ⟨k,hk1,hk,rfl,rfl,rfl,hcm⟩
   simp -dsimp only [↓WPd,↓Zm,↓Zn,WPu,Za,Zb,Zc,Zd,Ze,Zf,Zg,Zh,Nat.reduceEqDiff,Nat.reduceLT,Zi,Zj,Zk,Zl,Nat.reduceBEq,ll]
   refine condP_dec (fun hc => ?_) (fun hc => ?_)
   ·have hk' : k < l.length := by omega
    have e1 : IntKind.i64.wrap ((k : Int) - 1) = ((k - 1 : Nat) : Int) := by rw [wrap_i64 (by omega) (by omega)]; omega
    have w1 : IntKind.i64.wrap ((k : Int) + 1) = ((k + 1 : Nat) : Int) := by rw [wrap_i64 (by omega) (by omega),Int.natCast_add,Int.natCast_one]
    obtain ⟨n1,n2⟩ := names_at h.sl hk'
    obtain ⟨m1,m2⟩ := names_at h.sl (show k - 1 < l.length by omega)
    have ct := compN_take hk1 hk'
    by_cases he : l[k] = l[k - 1]
    ·rw [if_pos he,List.append_nil,hcm] at ct
     obtain ⟨dv,d1,d2,d3⟩ := h.sl.sub_lo (lo := k) (by simp; omega) .i64
     simp -dsimp only [↓WPd,↓Zm,↓Zn,WPu,Za,Zb,Zc,Zd,Ze,Zf,Zg,Zh,Nat.reduceEqDiff,Nat.reduceLT,Zi,Zj,Zk,Zl,Nat.reduceBEq,WPm,n1,n2,e1,m1,m2,nm_eqs,decide_eq_true he,oev,d1]
     have dl := d2.len
     simp only [List.length_drop,List.length_map] at dl
     refine loop_rule2 (fun m vs σ2 => ∃ (kk k2 : Nat) (cs : List Nm),1 ≤ k2 ∧ k + k2 ≤ l.length ∧ kk < k + k2 ∧ m = l.length - (k + k2) ∧ vs = [v,.int .i64 (kk : Nat),dv,.int .i64 (k2 : Nat)] ∧ Keeps (fun i => v.sid = some i) σ' σ2 ∧ Own σ2 2 v (NN cs) ∧ cs.length = l.length ∧ cs.take kk = compN (l.take (k + k2)) ∧ cs.drop (k + k2 - 1) = l.drop (k + k2 - 1))
      [0,3] (fun e vs σ2 => e = .exit 2 ∧ ∃ (kk : Nat) (cs : List Nm),vs = [v,.int .i64 (kk : Nat)] ∧ kk ≤ l.length ∧ Keeps (fun i => v.sid = some i) σ' σ2 ∧ Own σ2 2 v (NN cs) ∧ cs.length = l.length ∧ cs.take kk = compN l) (l.length - (k + 1))
      ⟨k,1,l,Nat.le_refl _,by omega,by omega,rfl,?_,Keeps.refl _ _,h,rfl,ct.symm,rfl⟩ ?_ ?_
     ·simp -dsimp only [↓WPd,↓Zm,↓Zn,WPu,Za,Zb,Zc,Zd,Ze,Zf,Zg,Zh,Nat.reduceEqDiff,Nat.reduceLT,Zi,Zj,Zk,Zl,Nat.reduceBEq]; rfl
     ·rintro m vs σ2 ⟨kk,k2,cs,h1,h2,h3,rfl,rfl,K,o,hcl,hct,hcd⟩
      simp -dsimp only [↓WPd,↓Zm,↓Zn,WPu,Za,Zb,Zc,Zd,Ze,Zf,Zg,Zh,Nat.reduceEqDiff,Nat.reduceLT,Zi,Zj,Zk,Zl,Nat.reduceBEq,dl]
      refine condP_dec (fun hc2 => ?_) (fun hc2 => ?_)
      ·have hj : k + k2 < l.length := by omega
       have hjc : k + k2 < cs.length := by omega
       obtain ⟨dv',q1,q2,-⟩ := o.sl.sub_lo (lo := k) (by simp; omega) .i64
       have edv : dv' = dv := by rw [d1] at q1; exact (Option.some.inj q1).symm
       rw [edv] at q2
       have eq2 : (NN cs).drop k = NN (cs.drop k) := by simp [List.map_drop]
       rw [eq2] at q2
       have e2 : IntKind.i64.wrap ((k2 : Int) - 1) = ((k2 - 1 : Nat) : Int) := by rw [wrap_i64 (by omega) (by omega)]; omega
       have w2 : IntKind.i64.wrap ((k2 : Int) + 1) = ((k2 + 1 : Nat) : Int) := by rw [wrap_i64 (by omega) (by omega),Int.natCast_add,Int.natCast_one]
       have w3 : IntKind.i64.wrap ((kk : Int) + 1) = ((kk + 1 : Nat) : Int) := by rw [wrap_i64 (by omega) (by omega),Int.natCast_add,Int.natCast_one]
       obtain ⟨a1,a2⟩ := names_at q2 (i := k2) (by simp; omega)
       obtain ⟨b1,b2⟩ := names_at q2 (i := k2 - 1) (by simp; omega)
       have same : ∀ t (ht : t < l.length) (ht' : t < cs.length),k + k2 - 1 ≤ t → cs[t] = l[t] := fun t ht ht' hle => by
        have h1 : (cs.drop (k + k2 - 1))[t - (k + k2 - 1)]? = (l.drop (k + k2 - 1))[t - (k + k2 - 1)]? := by rw [hcd]
        rw [List.getElem?_drop,List.getElem?_drop,Nat.add_sub_cancel' hle,List.getElem?_eq_getElem ht',List.getElem?_eq_getElem ht] at h1
        exact Option.some.inj h1
       have x1 : (cs.drop k)[k2]'(by simp; omega) = l[k + k2] := by rw [List.getElem_drop]; exact same _ hj hjc (by omega)
       have x2 : (cs.drop k)[k2 - 1]'(by simp; omega) = l[k + k2 - 1]'(by omega) := by
        rw [List.getElem_drop]
        have : k + (k2 - 1) = k + k2 - 1 := by omega
        simp only [this]
        exact same _ (by omega) (by omega) (Nat.le_refl _)
       rw [x1] at a2
       rw [x2] at b2
       have ct2 := compN_take (l := l) (j := k + k2) (by omega) hj
       have hdd : ∀ cs' : List Nm,cs'.drop (k + k2) = l.drop (k + k2) → cs'.drop (k + (k2 + 1) - 1) = l.drop (k + (k2 + 1) - 1) := fun cs' h => by
        have : k + (k2 + 1) - 1 = k + k2 := by omega
        rw [this,h]
       have hd0 : cs.drop (k + k2) = l.drop (k + k2) := by
        have e : k + k2 = (k + k2 - 1) + 1 := by omega
        rw [e,← List.drop_drop,← List.drop_drop,hcd]
       by_cases hq : l[k + k2] = l[k + k2 - 1]'(by omega)
       ·rw [if_pos hq,List.append_nil] at ct2
        simp -dsimp only [↓WPd,↓Zm,↓Zn,WPu,Za,Zb,Zc,Zd,Ze,Zf,Zg,Zh,Nat.reduceEqDiff,Nat.reduceLT,Zi,Zj,Zk,Zl,Nat.reduceBEq,WPm,a1,a2,e2,b1,b2,nm_eqs,hq,decide_true,w2]
        refine ⟨l.length - (k + (k2 + 1)),by omega,kk,k2 + 1,cs,by omega,by omega,by omega,rfl,rfl,K,o,hcl,?_,hdd _ hd0⟩
        have : k + (k2 + 1) = k + k2 + 1 := by omega
        rw [this,ct2,hct]
       ·rw [if_neg hq] at ct2
        have hkc : kk < cs.length := by omega
        have ia := (names_at o.sl hkc).1
        obtain ⟨σ4,s1,s2,s3,-⟩ := o.store hn (i := kk) (by simpa using hkc) (x := nmV l[k + k2]) (nm_one _) rfl (by simp; rfl) (by simp; rfl)
        have es : (NN cs).set kk (nmV l[k + k2]) = NN (cs.set kk l[k + k2]) := List.map_set.symm
        rw [es] at s2
        simp -dsimp only [↓WPd,↓Zm,↓Zn,WPu,Za,Zb,Zc,Zd,Ze,Zf,Zg,Zh,Nat.reduceEqDiff,Nat.reduceLT,Zi,Zj,Zk,Zl,Nat.reduceBEq,WPm,a1,a2,e2,b1,b2,nm_eqs,decide_eq_false hq,Bool.not_false,ia,s1,w2,w3]
        refine ⟨l.length - (k + (k2 + 1)),by omega,kk + 1,k2 + 1,cs.set kk l[k + k2],by omega,by omega,by omega,rfl,rfl,Keeps.trans K s3 fun _ _ h => h,s2,by simpa using hcl,?_,hdd _ ?_⟩
        ·have : k + (k2 + 1) = k + k2 + 1 := by omega
         rw [this,ct2,take_set_app _ _ _ hkc,hct]
        ·rw [List.drop_set_of_lt h3,hd0]
      ·have : k + k2 = l.length := by omega
       rw [this,List.take_length] at hct
       simp -dsimp only [↓WPd,↓Zm,↓Zn,WPu,Za,Zb,Zc,Zd,Ze,Zf,Zg,Zh,Nat.reduceEqDiff,Nat.reduceLT,Zi,Zj,Zk,Zl,Nat.reduceBEq]
       exact ⟨kk,cs,rfl,by omega,K,o,hcl,hct⟩
     ·rintro e σ2 env ⟨rfl,kk,cs,hv,hkk,K,o,hcl,hct⟩
      simp only [List.map_cons,List.map_nil,List.cons.injEq,and_true] at hv
      obtain ⟨v0,v3⟩ := hv
      have hne2 : NN cs ≠ [] := fun e => by
       have h0 : cs = [] := by simpa using e
       have h1 : cs.length = 0 := by rw [h0]; rfl
       omega
      obtain ⟨dv2,σ3,hv2,c1,c2,c3,c4,c5,c6⟩ := o.cutoff hn hne2 (i := kk) (by simp; omega) [.int .i64 0,.int .i64 0] true
      have et : (NN cs).take kk = NN (cs.take kk) := by simp [List.map_take]
      rw [et,hct] at c4
      simp -dsimp only [↓WPd,↓Zm,↓Zn,WPu,Za,Zb,Zc,Zd,Ze,Zf,Zg,Zh,Nat.reduceEqDiff,Nat.reduceLT,Zi,Zj,Zk,Zl,Nat.reduceBEq,v0,v3,oev,c1,c2,c3]
      exact .inr ⟨_,_,rfl,.inr (.inl c4),Keeps.trans K c5 fun _ _ h => h,c6⟩
    ·rw [if_neg he,hcm] at ct
     simp -dsimp only [↓WPd,↓Zm,↓Zn,WPu,Za,Zb,Zc,Zd,Ze,Zf,Zg,Zh,Nat.reduceEqDiff,Nat.reduceLT,Zi,Zj,Zk,Zl,Nat.reduceBEq,WPm,n1,n2,e1,m1,m2,nm_eqs,decide_eq_false he,w1]
     refine ⟨l.length - (k + 1),by omega,k + 1,by omega,by omega,rfl,rfl,?_⟩
     rw [ct,List.take_succ_eq_append_getElem hk']
   ·have : k = l.length := by omega
    subst this
    rw [List.take_length] at hcm
    simp -dsimp only [↓WPd,↓Zm,↓Zn,WPu,Za,Zb,Zc,Zd,Ze,Zf,Zg,Zh,Nat.reduceEqDiff,Nat.reduceLT,Zi,Zj,Zk,Zl,Nat.reduceBEq]
    exact .inl ⟨⟨_,rfl⟩,hcm⟩
  ·rintro e σ' env (⟨rfl,⟨x,hv⟩,rfl,hcm⟩ | ⟨rfl,x,r,hv,q⟩)
   ·simp only [List.map_cons,List.map_nil,List.cons.injEq,and_true] at hv
    simp -dsimp only [↓WPd,↓Zm,↓Zn,WPu,Za,Zb,Zc,Zd,Ze,Zf,Zg,Zh,Nat.reduceEqDiff,Nat.reduceLT,Zi,Zj,Zk,Zl,Nat.reduceBEq,hv]
    rw [hcm]
    exact ⟨.inl ⟨h,hn⟩,Keeps.refl _ _,trivial⟩
   ·simp only [List.map_cons,List.map_nil,List.cons.injEq,and_true] at hv
    simp -dsimp only [↓WPd,↓Zm,↓Zn,WPu,Za,Zb,Zc,Zd,Ze,Zf,Zg,Zh,Nat.reduceEqDiff,Nat.reduceLT,Zi,Zj,Zk,Zl,Nat.reduceBEq,hv]
    exact q
theorem nclone2_ok (b : AVal) (t : List Nm) (hs : t.length < 2 ^ 40) (hb : SlOf σ 2 b (NN t)) : Called CU.cfg d 75 [b] σ fun v σ' => Grows σ σ' ∧ Own σ' 2 v (NN t) ∧ Fresh σ.length v ∧ NoLit v ∧ (t = [] → Nix v) := by
 cases t with
 | cons a r => exact (nclone_ok d σ b (a :: r) hs hb (fun h => by cases h)).mono fun v σ' ⟨h1,h2,h3,h4,_⟩ => ⟨h1,h2,h3,h4,fun h => by cases h⟩
 | nil =>
  refine called_of (fn := CU.a75) rfl (Nat.le_of_ble_eq_true rfl) ?_
  obtain ⟨x,hx,hx'⟩ := hb.isnil
  simp only [CU.a75, CU.o]
  simp -dsimp only [↓WPd,↓Zm,↓Zn,WPu,Za,Zb,Zc,Zd,Ze,Zf,Zg,Zh,Nat.reduceEqDiff,Nat.reduceLT,Zi,Zj,Zk,Zl,Nat.reduceBEq,hx,Bool.false_eq_true]
  refine condP_intro (fun h => ?_) (fun h => ?_)
  ·simp -dsimp only [↓WPd,↓Zm,↓Zn,WPu,Za,Zb,Zc,Zd,Ze,Zf,Zg,Zh,Nat.reduceEqDiff,Nat.reduceLT,Zi,Zj,Zk,Zl,Nat.reduceBEq]
   exact ⟨Keeps.refl _ _,Own.nil _ _,(fun id h => by cases h),trivial,fun _ => .nil⟩
  ·simp -dsimp only [↓WPd,↓Zm,↓Zn,WPu,Za,Zb,Zc,Zd,Ze,Zf,Zg,Zh,Nat.reduceEqDiff,Nat.reduceLT,Zi,Zj,Zk,Zl,Nat.reduceBEq,hb.els]
   refine stepP_of [] rfl ?_
   have ha : ∀ tg,appendV σ 2 16 (.fslice tg true 2 []) [] = some (.fslice tg true 2 [],σ) := fun tg => rfl
   simp -dsimp only [↓WPd,↓Zm,↓Zn,WPu,Za,Zb,Zc,Zd,Ze,Zf,Zg,Zh,Nat.reduceEqDiff,Nat.reduceLT,Zi,Zj,Zk,Zl,Nat.reduceBEq,hb.els,ha]
   exact ⟨Keeps.refl _ _,Own.lit _ _ _ _,(fun id h => by cases h),rfl,fun _ => .fs _ _⟩
theorem sortf2_ok (v : AVal) (l : List Nm) (h : Own σ 2 v (NN l)) (hn : NoLit v) (hnil : l = [] → Nix v) (hl : l.length < 2 ^ 40) : Called CU.cfg d 116 [v,.func 117 [] []] σ fun r σ' => Own σ' 2 v (NN (sortN l)) ∧ Keeps (fun i => v.sid = some i) σ σ' := by
 cases l with
 | nil => exact called_nat (g := natSO 117) rfl (natSO_nix _ (hnil rfl) σ) ⟨h,Keeps.refl _ _⟩
 | cons x r => exact sortf_ok d σ v (x :: r) h hn (fun h => by cases h) hl
theorem nsorted2_ok (lv : AVal) (l : List Nm) (h : SlOf σ 2 lv (NN l)) (hl : l.length < 2 ^ 40) : Called CU.cfg d 61 [lv] σ fun r σ' => Grows σ σ' ∧ PO σ' 2 r (NN (risD [] l)) ∧ Fresh σ.length r := by
 refine called_of (fn := CU.a61) rfl (Nat.le_of_ble_eq_true rfl) ?_
 simp only [CU.a61, CU.o]
 simp -dsimp only [↓WPd,↓Zm,↓Zn,WPu,Za,Zb,Zc,Zd,Ze,Zf,Zg,Zh,Nat.reduceEqDiff,Nat.reduceLT,Zi,Zj,Zk,Zl,Nat.reduceBEq]
 refine calledW_of (nclone2_ok d σ lv l hl h) ?_
 rintro v σ1 ⟨g1,ov,fv,nv,hvn⟩
 simp -dsimp only [↓WPd,↓Zm,↓Zn,WPu,Za,Zb,Zc,Zd,Ze,Zf,Zg,Zh,Nat.reduceEqDiff,Nat.reduceLT,Zi,Zj,Zk,Zl,Nat.reduceBEq]
 refine calledW_of (sortf2_ok d σ1 v l ov nv hvn hl) ?_
 rintro r σ2 ⟨os,k2⟩
 simp -dsimp only [↓WPd,↓Zm,↓Zn,WPu,Za,Zb,Zc,Zd,Ze,Zf,Zg,Zh,Nat.reduceEqDiff,Nat.reduceLT,Zi,Zj,Zk,Zl,Nat.reduceBEq]
 refine calledW_of (compact2_ok d σ2 v (sortN l) os nv (by rw [sortN_len]; exact hl)) ?_
 rintro r σ3 ⟨po,k3,hs⟩
 rw [comp_ris] at po
 simp -dsimp only [↓WPd,↓Zm,↓Zn,WPu,Za,Zb,Zc,Zd,Ze,Zf,Zg,Zh,Nat.reduceEqDiff,Nat.reduceLT,Zi,Zj,Zk,Zl,Nat.reduceBEq]
 exact ⟨Keeps.trans (Keeps.trans g1 k2 fun i hi e => by have := fv i e; omega) k3 fun i hi e => by have := fv i e; omega,po,fun id hid => fv id (by rw [← hs]; exact hid)⟩
abbrev forN (nd : Int) (l : List Nm) : List Nm := l.filter fun v => !decide (v.1 = nd)
theorem forN_snoc (nd : Int) (l : List Nm) (x : Nm) : forN nd (l ++ [x]) = forN nd l ++ (if x.1 = nd then [] else [x]) := by
 by_cases h : x.1 = nd <;> simp [forN,List.filter_append,h]
theorem foreign1_ok (k : Nat) (nd : Int) (v : Nm) (hk : σ[k]? = some (.cells [.int .i64 nd])) : Called CU.cfg d 76 [nmV v,.ptr k 0] σ fun r σ' => r = .bool (decide (v.1 = nd)) ∧ Grows σ σ' := by
 refine called_of (fn := CU.a76) rfl (Nat.le_of_ble_eq_true rfl) ?_
 simp only [CU.a76, CU.o]
 simp -dsimp only [↓WPd,↓Zm,↓Zn,WPu,Za,Zb,Zc,Zd,Ze,Zf,Zg,Zh,Nat.reduceEqDiff,Nat.reduceLT,Zi,Zj,Zk,Zl,Nat.reduceBEq,WPm,nm_cells,nm_one]
 have ho : (σ ++ [AObj.cells (nmC v)])[σ.length]? = some (.cells (nmC v)) := by simp
 have g0 : Grows σ (σ ++ [AObj.cells (nmC v)]) := Grows.app _ _
 generalize σ ++ [AObj.cells (nmC v)] = σ1 at ho g0
 have e0 : ([AVal.int .i64 nd] : List AVal)[0]? = some (.int .i64 nd) := rfl
 have eb : (v.1 == nd) = decide (v.1 = nd) := by rw [Bool.eq_iff_iff]; simp
 simp -dsimp only [↓WPd,↓Zm,↓Zn,WPu,Za,Zb,Zc,Zd,Ze,Zf,Zg,Zh,Nat.reduceEqDiff,Nat.reduceLT,Zi,Zj,Zk,Zl,Nat.reduceBEq,WPm,load_cells (g0.get hk),e0,faddr_ptr,Nat.add_zero,load_cells ho,nm_g0,eb]
 exact g0
theorem foreign_ok (nd : Int) (lv : AVal) (l : List Nm) (h : SlOf σ 2 lv (NN l)) (hl : l.length < 2 ^ 40) : Called CU.cfg d 25 [.int .i64 nd,lv] σ fun r σ' => Grows σ σ' ∧ PO σ' 2 r (NN (risD [] (forN nd l))) ∧ Fresh σ.length r := by
 refine called_of (fn := CU.a25) rfl (Nat.le_of_ble_eq_true rfl) ?_
 simp only [CU.a25, CU.o]
 have c1 : (AVal.int .i64 nd).cells = [.int .i64 nd] := rfl
 have c2 : [AVal.int .i64 nd].all AVal.one = true := rfl
 simp -dsimp only [↓WPd,↓Zm,↓Zn,WPu,Za,Zb,Zc,Zd,Ze,Zf,Zg,Zh,Nat.reduceEqDiff,Nat.reduceLT,Zi,Zj,Zk,Zl,Nat.reduceBEq,WPm,c1,c2]
 have ho : (σ ++ [AObj.cells [.int .i64 nd]])[σ.length]? = some (.cells [.int .i64 nd]) := by simp
 have g0 : Grows σ (σ ++ [AObj.cells [.int .i64 nd]]) := Grows.app _ _
 have hlt : σ.length < (σ ++ [AObj.cells [.int .i64 nd]]).length := by simp
 generalize σ ++ [AObj.cells [.int .i64 nd]] = σ1 at ho g0 hlt
 generalize hk : σ.length = k at ho hlt
 refine calledW_of (nclone2_ok d σ1 lv l hl (h.grow g0)) ?_
 rintro v σ2 ⟨g2,ov,fv,nv,-⟩
 simp -dsimp only [↓WPd,↓Zm,↓Zn,WPu,Za,Zb,Zc,Zd,Ze,Zf,Zg,Zh,Nat.reduceEqDiff,Nat.reduceLT,Zi,Zj,Zk,Zl,Nat.reduceBEq,WPm]
 have hk2 := g2.get ho
 refine calledW_of (delf_ok d σ2 76 (.ptr k 0) (fun u => decide (u.1 = nd)) v l hl ov nv fun u σ' K => foreign1_ok d σ' k nd u (K.get hk2 fun e => by have := fv k e; omega)) ?_
 rintro r σ3 ⟨sr,k3⟩
 have hfl : (forN nd l).length ≤ l.length := List.length_filter_le _ _
 simp -dsimp only [↓WPd,↓Zm,↓Zn,WPu,Za,Zb,Zc,Zd,Ze,Zf,Zg,Zh,Nat.reduceEqDiff,Nat.reduceLT,Zi,Zj,Zk,Zl,Nat.reduceBEq,WPm]
 refine calledW_of (nsorted2_ok d σ3 r (forN nd l) sr (by omega)) ?_
 rintro r σ4 ⟨g4,po,f4⟩
 simp -dsimp only [↓WPd,↓Zm,↓Zn,WPu,Za,Zb,Zc,Zd,Ze,Zf,Zg,Zh,Nat.reduceEqDiff,Nat.reduceLT,Zi,Zj,Zk,Zl,Nat.reduceBEq,WPm]
 have gg : Grows σ σ3 := Keeps.trans (g0.trans g2) k3 fun i hi e => by have := fv i e; omega
 exact ⟨gg.trans g4,po,by have := f4.le gg.1; rw [hk] at this; exact this⟩
set_option maxHeartbeats 1000000 in
theorem rforeign_ok (nd : Int) (lv : AVal) (l : List Nm) (h : SlOf σ 2 lv (NN l)) (hl : l.length < 2 ^ 38) : Called CU.cfg d 28 [.int .i64 nd,lv] σ fun r σ' => Grows σ σ' ∧ SlOf σ' 2 r (NN (risD [] (forN nd l))) := by
 refine called_of (fn := CU.a28) rfl (Nat.le_of_ble_eq_true rfl) ?_
 simp only [CU.a28, CU.o]
 simp -dsimp only [↓WPd,↓Zm,↓Zn,WPu,Za,Zb,Zc,Zd,Ze,Zf,Zg,Zh,Nat.reduceEqDiff,Nat.reduceLT,Zi,Zj,Zk,Zl,Nat.reduceBEq]
 refine loop_rule2 (fun m xs σ' => ∃ (i : Nat) (o : AVal),i ≤ l.length ∧ m = l.length - i ∧ xs = [.int .i64 nd,lv,o,.int .i64 (i : Nat)] ∧ Grows σ σ' ∧ Own σ' 2 o (NN (forN nd (l.take i))) ∧ Fresh σ.length o)
  [5] (fun e xs σ' => e = .exit 0 ∧ ∃ o,xs = [o] ∧ Grows σ σ' ∧ Own σ' 2 o (NN (forN nd l))) l.length
  ⟨0,.nilslice,Nat.zero_le _,rfl,?_,Keeps.refl _ _,Own.nil _ _,Fresh.nil _⟩ ?_ ?_
 ·simp -dsimp only [↓WPd,↓Zm,↓Zn,WPu,Za,Zb,Zc,Zd,Ze,Zf,Zg,Zh,Nat.reduceEqDiff,Nat.reduceLT,Zi,Zj,Zk,Zl,Nat.reduceBEq]; rfl
 ·rintro m xs σ1 ⟨i,o,hi,rfl,rfl,g,oo,fo⟩
  have sl := h.grow g
  have lm := sl.len
  rw [List.length_map] at lm
  simp -dsimp only [↓WPd,↓Zm,↓Zn,WPu,Za,Zb,Zc,Zd,Ze,Zf,Zg,Zh,Nat.reduceEqDiff,Nat.reduceLT,Zi,Zj,Zk,Zl,Nat.reduceBEq,lm]
  refine condP_dec (fun hc => ?_) (fun hc => ?_)
  ·have hi' : i < l.length := by omega
   have hie : i < (NN l).length := by simpa using hi'
   obtain ⟨n1,n2⟩ := names_at sl hi'
   have hb := (sl.addr hie .i64).2
   have hb' : behind σ1 (addrOf 2 lv i) = some (nmC l[i],0) := by rw [hb]; simp only [List.getElem_map,nm_cells]
   obtain ⟨q0,p0,b0⟩ := faddr_at hb' 0
   have r0 : loadV σ1 1 false q0 = some (.int .i64 l[i].1) := by
    simp only [loadV,b0,ld,nmC]
    rfl
   have ht : l.take (i + 1) = l.take i ++ [l[i]] := List.take_succ_eq_append_getElem hi'
   have w1 : IntKind.i64.wrap ((i : Int) + 1) = ((i + 1 : Nat) : Int) := by rw [wrap_i64 (by omega) (by omega),Int.natCast_add,Int.natCast_one]
   have hfl : (forN nd (l.take i)).length ≤ l.length := by
    have h1 : (forN nd (l.take i)).length ≤ (l.take i).length := List.length_filter_le _ _
    rw [List.length_take] at h1
    omega
   by_cases he : l[i].1 = nd
   ·have eb : (l[i].1 != nd) = false := by simp [he]
    simp -dsimp only [↓WPd,↓Zm,↓Zn,WPu,Za,Zb,Zc,Zd,Ze,Zf,Zg,Zh,Nat.reduceEqDiff,Nat.reduceLT,Zi,Zj,Zk,Zl,Nat.reduceBEq,WPm,n1,p0,r0,eb,w1]
    refine ⟨l.length - (i + 1),by omega,i + 1,o,by omega,rfl,rfl,g,?_,fo⟩
    have : forN nd (l.take (i + 1)) = forN nd (l.take i) := by rw [ht,forN_snoc,if_pos he,List.append_nil]
    rw [this]; exact oo
   ·have eb : (l[i].1 != nd) = true := by simp [he]
    obtain ⟨o',σ2,a1,a2,a3,a4,a5⟩ := oo.name l[i] (by omega)
    have fe := elems2 (AVal.tagL [nmV l[i]]) σ1 (nmV l[i])
    simp -dsimp only [↓WPd,↓Zm,↓Zn,WPu,Za,Zb,Zc,Zd,Ze,Zf,Zg,Zh,Nat.reduceEqDiff,Nat.reduceLT,Zi,Zj,Zk,Zl,Nat.reduceBEq,WPm,n1,n2,p0,r0,eb,nm_lit,fe,a1,w1]
    refine ⟨l.length - (i + 1),by omega,i + 1,o',by omega,rfl,rfl,Keeps.trans g a3 fun j hj e => by have := fo j e; omega,?_,fun j hj => ?_⟩
    ·have : forN nd (l.take (i + 1)) = forN nd (l.take i) ++ [l[i]] := by rw [ht,forN_snoc,if_neg he]
     rw [this]; exact a2
    ·rcases a4 j hj with e | e
     ·exact fo j e
     ·have := g.1; omega
  ·have : i = l.length := by omega
   subst this
   rw [List.take_length] at oo
   simp -dsimp only [↓WPd,↓Zm,↓Zn,WPu,Za,Zb,Zc,Zd,Ze,Zf,Zg,Zh,Nat.reduceEqDiff,Nat.reduceLT,Zi,Zj,Zk,Zl,Nat.reduceBEq]
   exact ⟨o,rfl,g,oo⟩
 ·rintro e σ1 env ⟨rfl,o,hv,g,oo⟩
  simp only [List.map_cons,List.map_nil,List.cons.injEq,and_true] at hv
  have hfl : (forN nd l).length ≤ l.length := List.length_filter_le _ _
  simp -dsimp only [↓WPd,↓Zm,↓Zn,WPu,Za,Zb,Zc,Zd,Ze,Zf,Zg,Zh,Nat.reduceEqDiff,Nat.reduceLT,Zi,Zj,Zk,Zl,Nat.reduceBEq,hv]
  refine calledW_of (rising2_ok d σ1 o (forN nd l) (by omega) oo.sl) ?_
  rintro r σ2 ⟨g2,sr⟩
  simp -dsimp only [↓WPd,↓Zm,↓Zn,WPu,Za,Zb,Zc,Zd,Ze,Zf,Zg,Zh,Nat.reduceEqDiff,Nat.reduceLT,Zi,Zj,Zk,Zl,Nat.reduceBEq]
  exact ⟨g.trans g2,sr⟩
end
structure Half (l c : List Nm) (i : Nat) : Prop where
 len : c.length = l.length
 at_ : ∀ (t : Nat) (ht : t < c.length),c[t] = if t < i ∨ l.length ≤ t + i then l[l.length - 1 - t]'(by have := len; omega) else l[t]'(by have := len; omega)
theorem Half.start (l : List Nm) : Half l l 0 := ⟨rfl,fun t ht => by rw [if_neg (by omega)]⟩
theorem Half.done {l c : List Nm} {i : Nat} (h : Half l c i) (hi : l.length ≤ 2 * i + 1) : c = l.reverse := by
 apply List.ext_getElem (by rw [h.len]; simp)
 intro t h1 h2
 rw [h.at_ t h1,List.getElem_reverse]
 have hl := h.len
 split
 ·rfl
 ·rename_i hn
  have : l.length - 1 - t = t := by omega
  simp only [this]
theorem Half.step {l c : List Nm} {i : Nat} (h : Half l c i) (hi : 2 * i + 1 < l.length) : Half l ((c.set i (c[l.length - 1 - i]'(by have := h.len; omega))).set (l.length - 1 - i) (c[i]'(by have := h.len; omega))) (i + 1) := by
 have hl := h.len
 refine ⟨by simp [hl],fun t ht => ?_⟩
 rw [List.getElem_set,List.getElem_set]
 have htl : t < l.length := by simp [hl] at ht; exact ht
 by_cases h1 : l.length - 1 - i = t
 ·rw [if_pos h1]
  refine (h.at_ i (by omega)).trans ?_
  rw [if_neg (by omega),if_pos (by omega)]
  simp only [show l.length - 1 - t = i by omega]
 ·rw [if_neg h1]
  by_cases h2 : i = t
  ·subst h2
   rw [if_pos rfl]
   refine (h.at_ _ (by omega)).trans ?_
   rw [if_neg (by omega),if_pos (by omega)]
  ·rw [if_neg h2]
   refine (h.at_ t (by omega)).trans ?_
   by_cases h3 : t < i ∨ l.length ≤ t + i
   ·rw [if_pos h3,if_pos (by omega)]
   ·rw [if_neg h3,if_neg (by omega)]
set_option maxHeartbeats 1000000 in
theorem reverse_ok (d : Nat) (σ : Store) (v : AVal) (l : List Nm) (h : Own σ 2 v (NN l)) (hn : l.length ≤ 1 ∨ NoLit v) (hl : l.length < 2 ^ 40) : Called CU.cfg d 73 [v] σ fun r σ' => Own σ' 2 v (NN l.reverse) ∧ Keeps (fun i => v.sid = some i) σ σ' := by
 refine called_of (fn := CU.a73) rfl (Nat.le_of_ble_eq_true rfl) ?_
 simp only [CU.a73, CU.o]
 have ll := h.sl.len
 rw [List.length_map] at ll
 have e1 : IntKind.i64.wrap ((l.length : Int) - 1) = (l.length : Int) - 1 := wrap_i64 (by omega) (by omega)
 have hr : ∀ s : FS,resultsA [] s = some (.tuple []) := fun _ => rfl
 simp -dsimp only [↓WPd,↓Zm,↓Zn,WPu,Za,Zb,Zc,Zd,Ze,Zf,Zg,Zh,Nat.reduceEqDiff,Nat.reduceLT,Zi,Zj,Zk,Zl,Nat.reduceBEq,ll,e1]
 refine loop_rule2 (fun m xs σ' => ∃ (i : Nat) (c : List Nm),2 * i ≤ l.length + 1 ∧ m = l.length - i ∧ xs = [v,.int .i64 (i : Nat),.int .i64 ((l.length : Int) - 1 - (i : Nat))] ∧ Half l c i ∧ Own σ' 2 v (NN c) ∧ Keeps (fun i => v.sid = some i) σ σ')
  [] (fun e xs σ' => e = .exit 0 ∧ Own σ' 2 v (NN l.reverse) ∧ Keeps (fun i => v.sid = some i) σ σ') l.length
  ⟨0,l,by omega,rfl,?_,Half.start l,h,Keeps.refl _ _⟩ ?_ ?_
 ·simp -dsimp only [↓WPd,↓Zm,↓Zn,WPu,Za,Zb,Zc,Zd,Ze,Zf,Zg,Zh,Nat.reduceEqDiff,Nat.reduceLT,Zi,Zj,Zk,Zl,Nat.reduceBEq]; simp
 ·rintro m xs σ' ⟨i,c,hi,rfl,rfl,hh,oc,k⟩
  simp -dsimp only [↓WPd,↓Zm,↓Zn,WPu,Za,Zb,Zc,Zd,Ze,Zf,Zg,Zh,Nat.reduceEqDiff,Nat.reduceLT,Zi,Zj,Zk,Zl,Nat.reduceBEq]
  refine condP_dec (fun hc => ?_) (fun hc => ?_)
  ·have hlt : 2 * i + 1 < l.length := by omega
   have hcl := hh.len
   have ej : ((l.length : Int) - 1 - (i : Nat)) = ((l.length - 1 - i : Nat) : Int) := by omega
   have nl : NoLit v := hn.resolve_left (by omega)
   rw [ej]
   have hi1 : i < c.length := by omega
   have hj1 : l.length - 1 - i < c.length := by omega
   obtain ⟨n1,n2⟩ := names_at oc.sl hi1
   obtain ⟨m1,m2⟩ := names_at oc.sl hj1
   have hs := fun (x : Nm) (c' : List Nm) (σ1 : Store) (o : Own σ1 2 v (NN c')) (t : Nat) (ht : t < c'.length) => o.store nl (i := t) (by simpa using ht) (x := nmV x) (nm_one x) rfl (by simp; rfl) (by simp; rfl)
   obtain ⟨σ1,s1,s2,s3,-⟩ := hs c[l.length - 1 - i] c σ' oc i hi1
   have es : (NN c).set i (nmV c[l.length - 1 - i]) = NN (c.set i c[l.length - 1 - i]) := List.map_set.symm
   rw [es] at s2
   obtain ⟨σ2,t1,t2,t3,-⟩ := hs c[i] _ σ1 s2 (l.length - 1 - i) (by simpa using hj1)
   have es2 : (NN (c.set i c[l.length - 1 - i])).set (l.length - 1 - i) (nmV c[i]) = NN ((c.set i c[l.length - 1 - i]).set (l.length - 1 - i) c[i]) := List.map_set.symm
   rw [es2] at t2
   simp -dsimp only [↓WPd,↓Zm,↓Zn,WPu,Za,Zb,Zc,Zd,Ze,Zf,Zg,Zh,Nat.reduceEqDiff,Nat.reduceLT,Zi,Zj,Zk,Zl,Nat.reduceBEq,n1,n2,m1,m2,s1,t1]
   have w1 : IntKind.i64.wrap ((i : Int) + 1) = ((i + 1 : Nat) : Int) := by rw [wrap_i64 (by omega) (by omega),Int.natCast_add,Int.natCast_one]
   have w2 : IntKind.i64.wrap (((l.length - 1 - i : Nat) : Int) - 1) = (l.length : Int) - 1 - ((i + 1 : Nat) : Int) := by rw [wrap_i64 (by omega) (by omega)]; omega
   refine ⟨l.length - (i + 1),by omega,i + 1,_,by omega,rfl,by rw [w1,w2],hh.step hlt,t2,Keeps.trans (Keeps.trans k s3 fun _ _ e => e) t3 fun _ _ e => e⟩
  ·have := hh.done (by omega)
   subst this
   simp -dsimp only [↓WPd,↓Zm,↓Zn,WPu,Za,Zb,Zc,Zd,Ze,Zf,Zg,Zh,Nat.reduceEqDiff,Nat.reduceLT,Zi,Zj,Zk,Zl,Nat.reduceBEq]
   exact ⟨oc,k⟩
 ·rintro e σ' env ⟨rfl,o,k⟩
  simp -dsimp only [↓WPd,↓Zm,↓Zn,WPu,Za,Zb,Zc,Zd,Ze,Zf,Zg,Zh,Nat.reduceEqDiff,Nat.reduceLT,Zi,Zj,Zk,Zl,Nat.reduceBEq,hr]
  exact ⟨o,k⟩
structure PathOf (H : Hp) (f t : Nm) (p : List Nm) : Prop where
 head : p.head? = some f
 last : p.getLast? = some t
 step : ∀ (k : Nat) (h : k + 1 < p.length),p[k + 1] ∈ stepN H (p[k]'(by omega))
structure Back (H : Hp) (t v : Nm) (q : List Nm) : Prop where
 head : q.head? = some t
 last : q.getLast? = some v
 step : ∀ (k : Nat) (h : k + 1 < q.length),q[k]'(by omega) ∈ stepN H q[k + 1]
theorem Back.one (H : Hp) (t : Nm) : Back H t t [t] := ⟨rfl,rfl,fun k h => by simp at h⟩
theorem Back.push {H : Hp} {t v w : Nm} {q : List Nm} (h : Back H t v q) (hw : v ∈ stepN H w) : Back H t w (q ++ [w]) := by
 refine ⟨?_,by simp,fun k hk => ?_⟩
 ·cases q with
  | nil => have := h.head; simp at this
  | cons a r => simpa using h.head
 ·by_cases hk' : k + 1 < q.length
  ·have e1 : (q ++ [w])[k] = q[k] := List.getElem_append_left (by omega)
   have e2 : (q ++ [w])[k + 1] = q[k + 1] := List.getElem_append_left hk'
   rw [e1,e2]
   exact h.step k hk'
  ·have hq : k + 1 = q.length := by simp at hk; omega
   have e1 : (q ++ [w])[k + 1] = w := by
    rw [List.getElem_append_right (by omega)]; simp
   have e2 : (q ++ [w])[k] = v := by
    rw [List.getElem_append_left (by omega)]
    have := h.last
    rw [List.getLast?_eq_getElem?] at this
    obtain ⟨h1,h2⟩ := List.getElem?_eq_some_iff.1 this
    have : q.length - 1 = k := by omega
    simp only [this] at h2
    exact h2
   rw [e1,e2]; exact hw
theorem Back.path {H : Hp} {f t : Nm} {q : List Nm} (h : Back H t f q) : PathOf H f t q.reverse := by
 refine ⟨by rw [List.head?_reverse]; exact h.last,by rw [List.getLast?_reverse]; exact h.head,fun k hk => ?_⟩
 rw [List.length_reverse] at hk
 rw [List.getElem_reverse,List.getElem_reverse]
 have := h.step (q.length - 1 - (k + 1)) (by omega)
 have e : q.length - 1 - (k + 1) + 1 = q.length - 1 - k := by omega
 simp only [e] at this
 exact this
structure PathA (H : Hp) (f t : Nm) (p : List Nm) : Prop extends PathOf H f t p where
 lin : ∃ (L : List Nm) (n j : Nat) (hj : j < L.length),L = itL H [f] n ∧ L.Nodup ∧ L[j] = t ∧ Lin H f L j p
def Lnk (H : Hp) (f : Nm) (l : List Nm) (j0 j : Nat) (q : List Nm) : Prop := ∃ (v : Nm) (rest : List Nm),l[j]? = some v ∧ q.reverse = v :: rest ∧ ∀ p,Lin H f l j p → Lin H f l j0 (p ++ rest)
theorem Lnk.start {H : Hp} {f t : Nm} {l : List Nm} {j0 : Nat} (h : l[j0]? = some t) : Lnk H f l j0 j0 [t] := ⟨t,[],h,rfl,fun p hp => by simpa using hp⟩
theorem Lnk.push {H : Hp} {f : Nm} {l : List Nm} {j0 j i : Nat} {q : List Nm} (h : Lnk H f l j0 j q) (hj : j < l.length) (hi : i < j) (h1 : l[j] ∈ stepN H (l[i]'(by omega))) (h2 : ∀ (k : Nat) (hk : k < i),l[j] ∉ stepN H (l[k]'(by omega))) : Lnk H f l j0 i (q ++ [l[i]'(by omega)]) := by
 obtain ⟨v,rest,e1,e2,e3⟩ := h
 have ev : v = l[j] := by rw [List.getElem?_eq_getElem hj] at e1; exact (Option.some.inj e1).symm
 refine ⟨_,v :: rest,List.getElem?_eq_getElem _,by rw [List.reverse_append,e2]; rfl,fun p hp => ?_⟩
 have := e3 _ (Lin.step hj hi hp h1 h2)
 rw [ev]
 simpa using this
theorem Lnk.done {H : Hp} {f : Nm} {l : List Nm} {j0 : Nat} {q : List Nm} (h : Lnk H f l j0 0 q) (h0 : 0 < l.length) (e : l[0] = f) : Lin H f l j0 q.reverse := by
 obtain ⟨v,rest,e1,e2,e3⟩ := h
 have ev : v = l[0] := by rw [List.getElem?_eq_getElem h0] at e1; exact (Option.some.inj e1).symm
 have := e3 _ (Lin.root h0 e)
 rw [e2,ev,e]
 exact this
theorem itL_head {H : Hp} {f : Nm} {l : List Nm} {n : Nat} (h : l = itL H (adds [] [f]) n) : ∃ h0 : 0 < l.length,l[0] = f := by
 obtain ⟨x,hx⟩ := itL_pre H (adds [] [f]) 0 n
 rw [Nat.zero_add,← h] at hx
 have e : adds [] [f] = [f] := by simp [adds,addN]
 simp only [itL,e] at hx
 subst hx
 exact ⟨by simp,by simp⟩
theorem litA_part (σ : Store) (x : AVal) : PartC (some 1) (σ ++ [AObj.arr 2 [x] 0 0]) 2 (.slice 2 σ.length 0 0 1 (some 1)) [x] :=
 ⟨σ.length,0,[x],0,rfl,by simp,Nat.le_refl _,rfl⟩
theorem reverse1_ok (d : Nat) (σ : Store) (v : AVal) (l : List Nm) (h : SlOf σ 2 v (NN l)) (hl : l.length ≤ 1) : Called CU.cfg d 73 [v] σ fun r σ' => σ' = σ := by
 refine called_of (fn := CU.a73) rfl (Nat.le_of_ble_eq_true rfl) ?_
 simp only [CU.a73, CU.o]
 have ll := h.len
 rw [List.length_map] at ll
 have e1 : IntKind.i64.wrap ((l.length : Int) - 1) = (l.length : Int) - 1 := wrap_i64 (by omega) (by omega)
 have hr : ∀ s : FS,resultsA [] s = some (.tuple []) := fun _ => rfl
 simp -dsimp only [↓WPd,↓Zm,↓Zn,WPu,Za,Zb,Zc,Zd,Ze,Zf,Zg,Zh,Nat.reduceEqDiff,Nat.reduceLT,Zi,Zj,Zk,Zl,Nat.reduceBEq,ll,e1]
 refine loop_rule2 (fun m xs σ' => xs = [v,.int .i64 0,.int .i64 ((l.length : Int) - 1)] ∧ σ' = σ) [] (fun e xs σ' => e = .exit 0 ∧ σ' = σ) 0 ⟨?_,rfl⟩ ?_ ?_
 ·simp -dsimp only [↓WPd,↓Zm,↓Zn,WPu,Za,Zb,Zc,Zd,Ze,Zf,Zg,Zh,Nat.reduceEqDiff,Nat.reduceLT,Zi,Zj,Zk,Zl,Nat.reduceBEq]
 ·rintro m xs σ' ⟨rfl,rfl⟩
  have d0 : decide ((0 : Int) < (l.length : Int) - 1) = false := decide_eq_false (by omega)
  simp -dsimp only [↓WPd,↓Zm,↓Zn,WPu,Za,Zb,Zc,Zd,Ze,Zf,Zg,Zh,Nat.reduceEqDiff,Nat.reduceLT,Zi,Zj,Zk,Zl,Nat.reduceBEq,d0]
 ·rintro e σ' env ⟨rfl,rfl⟩
  simp -dsimp only [↓WPd,↓Zm,↓Zn,WPu,Za,Zb,Zc,Zd,Ze,Zf,Zg,Zh,Nat.reduceEqDiff,Nat.reduceLT,Zi,Zj,Zk,Zl,Nat.reduceBEq,hr]
set_option maxHeartbeats 2000000 in
theorem path_ok (d : Nat) (σ : Store) (hv : AVal) (H : Hp) (hw : WF H) (hH : H.length < 2 ^ 28) (f t : Nm) (h : HeapV σ hv H) :
  Called CU.cfg d 23 [hv,nmV f,nmV t] σ fun r σ' => Grows σ σ' ∧ ∃ u ok,r = .tuple [u,.bool ok] ∧ (ok = true ↔ Rea H [f] t) ∧ (ok = false → u = .nilslice) ∧ (ok = true → ∃ p : List Nm,PO σ' 2 u (NN p) ∧ Fresh σ.length u ∧ PathA H f t p ∧ p.length < 2 ^ 38) := by
 refine called_of (fn := CU.a23) rfl (Nat.le_of_ble_eq_true rfl) ?_
 simp only [CU.a23, CU.o]
 simp -dsimp only [↓WPd,↓Zm,↓Zn,WPu,Za,Zb,Zc,Zd,Ze,Zf,Zg,Zh,Nat.reduceEqDiff,Nat.reduceLT,Zi,Zj,Zk,Zl,Nat.reduceBEq,WPm,nm_cells,nm_one]
 have of0 : (σ ++ [AObj.cells (nmC f)] ++ [AObj.cells (nmC t)])[σ.length]? = some (.cells (nmC f)) := by simp
 have ot0 : (σ ++ [AObj.cells (nmC f)] ++ [AObj.cells (nmC t)])[(σ ++ [AObj.cells (nmC f)]).length]? = some (.cells (nmC t)) := by simp
 have g0 : Grows σ (σ ++ [AObj.cells (nmC f)] ++ [AObj.cells (nmC t)]) := (Grows.app _ _).trans (Grows.app _ _)
 have hlt : σ.length < (σ ++ [AObj.cells (nmC f)]).length := by simp
 generalize (σ ++ [AObj.cells (nmC f)]).length = it at ot0 hlt
 generalize σ ++ [AObj.cells (nmC f)] ++ [AObj.cells (nmC t)] = σ0 at of0 ot0 g0
 generalize hif : σ.length = jf at of0 hlt
 have lit : ∀ v : Nm,fillL 2 true (List.replicate 1 (zel [AVal.int IntKind.i64 0,AVal.int IntKind.i64 0] true)) [(0,nmV v)] = some [nmV v] := fun v => rfl
 simp -dsimp only [↓WPd,↓Zm,↓Zn,WPu,Za,Zb,Zc,Zd,Ze,Zf,Zg,Zh,Nat.reduceEqDiff,Nat.reduceLT,Zi,Zj,Zk,Zl,Nat.reduceBEq,WPm,load_nm of0,lit]
 have gl : Grows σ0 (σ0 ++ [AObj.arr 2 [nmV f] 0 0]) := Grows.app _ _
 have pl := (litA_part σ0 (nmV f)).own.sl
 refine calledW_of (walk_ok d _ hv H hw hH _ [f] ((h.grow g0).grow gl) pl (by simp)) ?_
 rintro r σ1 ⟨g1',lv,fm,l,bs,rfl,ol,fl,hd,hm,hfm,lfm,-,cm⟩
 have g1 := gl.trans g1'
 have hu := univ_len hw [f]
 have hll : l.length ≤ (univ H [f]).length := nodup_le hd fun v hv => ((hm v).1 hv).univ
 simp only [List.length_singleton] at hu
 have of1 := g1.get of0
 have ot1 := g1.get ot0
 obtain ⟨x,k1,-,kx⟩ := from_look hfm cm.len t
 simp -dsimp only [↓WPd,↓Zm,↓Zn,WPu,Za,Zb,Zc,Zd,Ze,Zf,Zg,Zh,Nat.reduceEqDiff,Nat.reduceLT,Zi,Zj,Zk,Zl,Nat.reduceBEq,WPm,List.getElem?_cons_zero,List.getElem?_cons_succ,load_nm ot1,k1,nm_putB]
 have g2 : Grows σ1 (σ1 ++ [AObj.cells (nmC x)]) := Grows.app _ _
 generalize σ1 ++ [AObj.cells (nmC x)] = σ2 at g2
 have g02 := (g0.trans g1).trans g2
 have of2 := g2.get of1
 have ot2 := g2.get ot1
 have hfm2 := g2.get hfm
 cases hcl : l.contains t with
 | false =>
  have hn : t ∉ l := by simpa using hcl
  simp -dsimp only [↓WPd,↓Zm,↓Zn,WPu,Za,Zb,Zc,Zd,Ze,Zf,Zg,Zh,Nat.reduceEqDiff,Nat.reduceLT,Zi,Zj,Zk,Zl,Nat.reduceBEq,WPm]
  exact ⟨g02,_,_,rfl,⟨(fun h => by cases h),fun h => (hn ((hm t).2 h)).elim⟩,fun _ => rfl,fun h => by cases h⟩
 | true =>
  have ht : t ∈ l := by simpa using hcl
  obtain ⟨j0,hj0,hj0t⟩ := List.mem_iff_getElem.1 ht
  have nj : it ≠ fm := fun e => by rw [e,hfm2] at ot2; cases ot2
  have gb : Grows σ2 (σ2 ++ [AObj.arr 2 [nmV t] 0 0]) := Grows.app _ _
  have pb := litA_part σ2 (nmV t)
  have fb : Fresh jf (.slice 2 σ2.length 0 0 1 (some 1)) := fun i hi => by
   simp only [AVal.sid,Option.some.injEq] at hi
   have := g02.1
   omega
  simp -dsimp only [↓WPd,↓Zm,↓Zn,WPu,Za,Zb,Zc,Zd,Ze,Zf,Zg,Zh,Nat.reduceEqDiff,Nat.reduceLT,Zi,Zj,Zk,Zl,Nat.reduceBEq,WPm,load_nm ot2,lit]
  have g02 := g02.trans gb
  have of2 := gb.get of2
  have ot2 := gb.get ot2
  have hfm2 := gb.get hfm2
  generalize AVal.slice 2 σ2.length 0 0 1 (some 1) = row0 at pb fb
  generalize σ2 ++ [AObj.arr 2 [nmV t] 0 0] = σ2b at gb pb g02 of2 ot2 hfm2
  refine loop_rule2 (fun m xs σ' => ∃ (j : Nat) (hj : j < l.length) (row : AVal) (q : List Nm),m = j ∧ xs = [.ptr jf 0,.ptr it 0,.map fm,row] ∧ Grows σ σ' ∧ σ'[jf]? = some (.cells (nmC f)) ∧ σ'[it]? = some (.cells (nmC l[j])) ∧ σ'[fm]? = some (.map (l.map nmV) (bs.map nmV)) ∧ PO σ' 2 row (NN q) ∧ Own σ' 2 row (NN q) ∧ Fresh jf row ∧ (q.length ≤ 1 ∨ NoLit row) ∧ Back H t l[j] q ∧ q.length + j ≤ l.length ∧ Lnk H f l j0 j q)
   [12] (fun e xs σ' => e = .exit 0 ∧ ∃ (row : AVal) (q : List Nm),xs = [row] ∧ Grows σ σ' ∧ PO σ' 2 row (NN q) ∧ Own σ' 2 row (NN q) ∧ Fresh jf row ∧ (q.length ≤ 1 ∨ NoLit row) ∧ Back H t f q ∧ q.length ≤ l.length ∧ Lin H f l j0 q.reverse) j0
   ⟨j0,hj0,row0,[t],rfl,?_,g02,of2,by rw [hj0t]; exact ot2,hfm2,.inr (.inr pb),PartC.own pb,fb,.inl (by simp),by rw [hj0t]; exact Back.one H t,by simp; omega,Lnk.start (by rw [List.getElem?_eq_getElem hj0,hj0t])⟩ ?_ ?_
  ·simp -dsimp only [↓WPd,↓Zm,↓Zn,WPu,Za,Zb,Zc,Zd,Ze,Zf,Zg,Zh,Nat.reduceEqDiff,Nat.reduceLT,Zi,Zj,Zk,Zl,Nat.reduceBEq]
  ·rintro m xs σ' ⟨j,hj,row,q,rfl,rfl,g,of',ot',fm',po,oq,fq,nq,bk,hql,lk⟩
   simp -dsimp only [↓WPd,↓Zm,↓Zn,WPu,Za,Zb,Zc,Zd,Ze,Zf,Zg,Zh,Nat.reduceEqDiff,Nat.reduceLT,Zi,Zj,Zk,Zl,Nat.reduceBEq,WPm,load_nm ot',load_nm of',nm_eqs]
   by_cases he : l[m] = f
   ·simp -dsimp only [↓WPd,↓Zm,↓Zn,WPu,Za,Zb,Zc,Zd,Ze,Zf,Zg,Zh,Nat.reduceEqDiff,Nat.reduceLT,Zi,Zj,Zk,Zl,Nat.reduceBEq,WPm,decide_eq_true he,Bool.not_true]
    refine ⟨row,q,rfl,g,po,oq,fq,nq,by rw [← he]; exact bk,by omega,?_⟩
    obtain ⟨h0,hf0⟩ := itL_head cm.tr
    have hm0 : m = 0 := by
     have := List.pairwise_iff_getElem.1 hd
     rcases Nat.eq_zero_or_pos m with h | h
     ·exact h
     ·exact (this 0 m h0 hj h (hf0.trans he.symm)).elim
    subst hm0
    exact lk.done h0 hf0
   ·obtain ⟨y,-,y1,y2⟩ := from_look fm' cm.len l[m]
    obtain ⟨i',hi',hb',e1,e2⟩ := y2 (List.getElem_mem hj)
    have hii : i' = m := by
     have := List.pairwise_iff_getElem.1 hd
     rcases Nat.lt_trichotomy i' m with h | h | h
     ·exact (this i' m hi' hj h e1).elim
     ·exact h
     ·exact (this m i' hj hi' h e1.symm).elim
    subst hii
    rcases cm.by_ i' hj hb' with ⟨h1,_⟩ | ⟨i,hi,h1,h2,h3⟩
    ·exact (he (by simpa using h1)).elim
    ·rw [h1] at e2
     have st : storeV σ' 2 (.ptr it 0) (nmV y) = some (σ'.set it (.cells (nmC y))) := by
      rw [nm_agg,storeN_cells (cs' := nmC y) (n := 2) ot' rfl rfl rfl]
     have k2 : Keeps (fun i => i = it) σ' (σ'.set it (.cells (nmC y))) := Keeps.set _ _ _
     have ot3 : (σ'.set it (.cells (nmC y)))[it]? = some (.cells (nmC y)) := get_set ot'
     have nfi : jf ≠ it := by omega
     have of3 := k2.get of' nfi
     have fm3 := k2.get fm' (fun e => nj e.symm)
     have oq3 := oq.keeps k2 fun i hi e => oq.noCell ot' (e ▸ hi)
     simp -dsimp only [↓WPd,↓Zm,↓Zn,WPu,Za,Zb,Zc,Zd,Ze,Zf,Zg,Zh,Nat.reduceEqDiff,Nat.reduceLT,Zi,Zj,Zk,Zl,Nat.reduceBEq,WPm,decide_eq_false he,Bool.not_false,load_nm ot',y1,st]
     generalize σ'.set it (.cells (nmC y)) = σ3 at k2 ot3 of3 fm3 oq3
     have gc : Grows σ3 (σ3 ++ [AObj.arr 2 [nmV y] 0 0]) := Grows.app _ _
     have fle := (litA_part σ3 (nmV y)).own.sl.els
     obtain ⟨z,σ4,a1,a2,a3,a4,a5⟩ := (oq3.grow gc).append [nmV y] 16 (by rw [List.length_map]; simp; omega)
     simp -dsimp only [↓WPd,↓Zm,↓Zn,WPu,Za,Zb,Zc,Zd,Ze,Zf,Zg,Zh,Nat.reduceEqDiff,Nat.reduceLT,Zi,Zj,Zk,Zl,Nat.reduceBEq,WPm,load_nm ot3,lit,fle,a1]
     have hlc : (σ3 ++ [AObj.arr 2 [nmV y] 0 0]).length = σ3.length + 1 := by simp
     have e : NN (q ++ [y]) = NN q ++ [nmV y] := by simp [NN]
     have g3 : Grows σ σ3 := Keeps.trans g k2 fun i hi e => by omega
     refine ⟨i,hi,i,by omega,z,q ++ [y],rfl,rfl,Keeps.trans (g3.trans gc) a3 fun i hi e => by have := fq i e; omega,a3.get (gc.get of3) (fun e => oq3.noCell of3 e),?_,a3.get (gc.get fm3) (fun e => oq3.noMap fm3 e),.inl ⟨by rw [e]; exact a2,a5 (.inr (by simp))⟩,by rw [e]; exact a2,fun i hi => ?_,.inr (a5 (.inr (by simp))),?_,by simp; omega,?_⟩
     ·rw [← e2]; exact a3.get (gc.get ot3) (fun e => oq3.noCell ot3 e)
     ·rcases a4 i hi with e | e
      ·exact fq i e
      ·have := g3.1; have := gc.1; omega
     ·rw [e2]; exact bk.push h2
     ·rw [e2]; exact lk.push hj hi h2 h3
  ·rintro e σ' env ⟨rfl,row,q,hv',g,po,oq,fq,nq,bk,hql,hlin⟩
   simp only [List.map_cons,List.map_nil,List.cons.injEq,and_true] at hv'
   simp -dsimp only [↓WPd,↓Zm,↓Zn,WPu,Za,Zb,Zc,Zd,Ze,Zf,Zg,Zh,Nat.reduceEqDiff,Nat.reduceLT,Zi,Zj,Zk,Zl,Nat.reduceBEq,WPm,hv']
   have htr : l = itL H [f] l.length := by
    have e : adds [] [f] = [f] := by simp [adds,addN]
    rw [← e]; exact cm.tr
   have hR : Called CU.cfg d 73 [row] σ' fun r σ3 => PO σ3 2 row (NN q.reverse) ∧ Keeps (fun i => row.sid = some i) σ' σ3 := by
    rcases nq with nq | nq
    ·refine (reverse1_ok d σ' row q oq.sl nq).mono ?_
     rintro r σ3 rfl
     have : q.reverse = q := by
      match q,nq with
      | [],_ => rfl
      | [a],_ => rfl
      | a :: b :: r,h => simp at h
     rw [this]
     exact ⟨po,Keeps.refl _ _⟩
    ·exact (reverse_ok d σ' row q oq (.inr nq) (by omega)).mono fun r σ3 ⟨o3,k3⟩ => ⟨.inl ⟨o3,nq⟩,k3⟩
   refine calledW_of hR ?_
   rintro r σ3 ⟨o3,k3⟩
   simp -dsimp only [↓WPd,↓Zm,↓Zn,WPu,Za,Zb,Zc,Zd,Ze,Zf,Zg,Zh,Nat.reduceEqDiff,Nat.reduceLT,Zi,Zj,Zk,Zl,Nat.reduceBEq,WPm,hv']
   refine ⟨Keeps.trans g k3 fun i hi e => by have := fq i e; omega,_,_,rfl,⟨fun _ => (hm t).1 ht,fun _ => rfl⟩,(fun h => by cases h),fun _ => ⟨q.reverse,o3,fq,⟨bk.path,⟨l,l.length,j0,hj0,htr,hd,hj0t,hlin⟩⟩,by rw [List.length_reverse]; omega⟩⟩
end Go.Proofs.YtelpjaejmneplaaGreatDoor.Am
