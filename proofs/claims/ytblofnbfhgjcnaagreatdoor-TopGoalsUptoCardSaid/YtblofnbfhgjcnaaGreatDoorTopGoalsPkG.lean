/-
  The abstract machine and the functions of the law, 7: texts put together.
-/
import Derived.Test.YtblofnbfhgjcnaaGreatDoorTopGoalsPkE
import Derived.Test.YtblofnbfhgjcnaaGreatDoorTopGoalsPkF
set_option linter.unusedVariables false
set_option linter.unusedSimpArgs false
set_option linter.unusedSectionVars false
set_option maxRecDepth 100000
namespace Go.Proofs.YtblofnbfhgjcnaaGreatDoor.Am
open Go
theorem BRows.keeps {σ σ' : Store} {M : Nat → Prop} {lo : Nat} {l : AVal} {us : List AVal} {R : Hp} (h : BRows σ lo l us R) (g : Keeps M σ σ') (hm : ∀ i,i < σ.length → lo ≤ i → ¬ M i) : BRows σ' lo l us R := XRows.keeps h g hm
theorem Told.at {u : AVal} {t : List Cel} (h : Told u t) (σ : Store) : SlOf σ 5 u (CC t) := h σ
theorem XRows.at {σ : Store} {lo sz : Nat} {l : AVal} {es : List AVal} {ps : List (List AVal)} (h : XRows σ lo 1 sz l es es ps) {i : Nat} (hi : i < ps.length) :
  ∃ e,es[i]? = some e ∧ iaddrV 1 l (.int .i64 i) = some (addrOf 1 l i) ∧ loadV σ 1 false (addrOf 1 l i) = some e ∧ Own σ sz e ps[i] ∧ NoLit e := by
 have hi' : i < es.length := by rw [h.len]; exact hi
 have o := h.one i es[i] ps[i] (List.getElem?_eq_getElem hi') (List.getElem?_eq_getElem hi)
 exact ⟨es[i],List.getElem?_eq_getElem hi',h.row.sl.iaddr hi' .i64,h.row.sl.load1 hi' o.one 1,o,h.lit i _ (List.getElem?_eq_getElem hi')⟩
theorem HeapV.none (σ : Store) : HeapV σ .nilptr [] := .inl ⟨rfl,rfl⟩
section
variable (d : Nat) (σ : Store)
end
inductive Repl : List Cel → List Cel → Prop
 | nil : Repl [] []
 | keep (c : Cel) {t r : List Cel} : c.ok = true → Repl t r → Repl (c :: t) (c :: r)
 | put (c : Cel) (w : List Cel) {t r : List Cel} : c.parts = 0 → right w = true → Repl t r → Repl (c :: t) (w ++ r)
theorem Repl.len {t r : List Cel} (h : Repl t r) : t.length ≤ r.length := by
 induction h with
 | nil => exact Nat.le_refl _
 | keep c _ _ ih => simp; omega
 | put c w _ hw _ ih => have := (right_len hw).1; simp; omega
theorem Repl.oks {t r : List Cel} (h : Repl t r) : ∀ c ∈ r,c.ok = true := by
 induction h with
 | nil => simp
 | keep c hc _ ih => 
  intro x hx
  rcases List.mem_cons.1 hx with rfl | hx
  ·exact hc
  ·exact ih x hx
 | put c w _ hw _ ih => 
  intro x hx
  rcases List.mem_append.1 hx with hx | hx
  ·exact right_ok_mem hw hx
  ·exact ih x hx
theorem Repl.ends {L L' : Nat} (hL : L ≤ L') {t r : List Cel} (h : Repl t r) (hl : r.length ≤ L') : ∀ {q a b : Nat},endAt L t q a = a + t.length → 0 < a + t.length → endAt L' r q b = b + r.length := by
 induction h with
 | nil =>
  intro q a b h h0
  cases q with
  | zero => rw [endAt_zero]; rfl
  | succ q => rw [endAt_nil] at h; simp at h h0; omega
 | keep c hc hr ih =>
  intro q a b h h0
  cases q with
  | zero => rw [endAt_zero] at h; simp at h
  | succ q =>
   rw [endAt_cons] at h
   simp only [List.length_cons] at h hl ⊢
   split at h
   ·omega
   ·rename_i hp
    rw [endAt_cons,if_neg (by omega),ih (by omega) (a := a + 1) (b := b + 1) (by omega) (by omega)]
    omega
 | put c w hp hw hr ih =>
  intro q a b h h0
  cases q with
  | zero => rw [endAt_zero] at h; simp at h
  | succ q =>
   rw [endAt_cons] at h
   simp only [List.length_cons,List.length_append] at h hl ⊢
   rw [hp,Nat.add_zero] at h
   split at h
   ·omega
   ·rw [show q + 1 = 1 + q by omega,endAt_right hw (by omega),ih (by omega) (a := a + 1) (b := b + w.length) (by omega) (by omega)]
    omega
theorem Repl.right {t r : List Cel} (h : Repl t r) (ht : right t = true) (hl : r.length ≤ 256) : right r = true := by
 have h1 := (right_len ht).1
 have h2 := h.len
 have he := right_end ht
 have e := h.ends (L := t.length) (L' := r.length) h2 (Nat.le_refl _) (b := 0) he (by omega)
 rw [Nat.zero_add] at e
 have ho : r.all Cel.ok = true := List.all_eq_true.2 h.oks
 simp only [Am.right,Bool.and_eq_true,decide_eq_true_eq]
 exact ⟨⟨⟨by omega,hl⟩,e⟩,ho⟩
theorem Own.noMap {σ : Store} {sz : Nat} {v : AVal} {es ks vs : List AVal} {id : Nat} (h : Own σ sz v es) (ho : σ[id]? = some (.map ks vs)) : v.sid ≠ some id := by
 intro hs
 rcases h.own with ⟨rfl,_⟩ | ⟨t,rfl⟩ | ⟨id',ep,off,cap,xs,epo,fl,rfl,h1,_⟩
 ·cases hs
 ·cases hs
 ·injection hs with hs; subst hs; rw [ho] at h1; cases h1
def Mv (id aid : Nat) (nv : AVal) : Nat → Prop := fun i => i = id ∨ i = aid ∨ nv.sid = some i
structure Att (fm : AVal → List AVal) (σ0 : Store) (id aid : Nat) (σ : Store) (nv : AVal) (s : TSt) : Prop where
 old : Grows σ0 σ
 lid : σ0.length ≤ id
 laid : σ0.length ≤ aid
 lnv : Fresh σ0.length nv
 obj : σ[id]? = some (.cells (fm nv))
 names : Own σ 2 nv (NN s.ws)
 arr : ∃ es,σ[aid]? = some (.arr 1 es 0 0) ∧ Two (fun e t => Own σ 5 e (CC t)) es s.ls
theorem Own.noArr {σ : Store} {sz sz' i ep fl : Nat} {v : AVal} {es xs : List AVal} (h : Own σ sz v es) (ho : σ[i]? = some (.arr sz' xs ep fl)) (hn : sz ≠ sz') : v.sid ≠ some i := by
 intro hv
 rcases h.own with ⟨rfl,_⟩ | ⟨t,rfl⟩ | ⟨id,ep,off,cap,ys,epo,fl,rfl,h1,_⟩
 ·cases hv
 ·cases hv
 ·injection hv with hv
  subst hv
  rw [ho] at h1; injection h1 with h1; injection h1 with h1; exact hn h1.symm
section
variable {fm : AVal → List AVal} {σ0 : Store} {id aid : Nat} {σ σ' : Store} {nv : AVal} {s : TSt}
theorem Att.lt (h : Att fm σ0 id aid σ nv s) : id < σ.length ∧ aid < σ.length := by
 obtain ⟨es,ha,-⟩ := h.arr
 exact ⟨(List.getElem?_eq_some_iff.1 h.obj).1,(List.getElem?_eq_some_iff.1 ha).1⟩
theorem Att.own5 (h : Att fm σ0 id aid σ nv s) {e : AVal} {p : List AVal} (he : Own σ 5 e p) (i : Nat) (hi : e.sid = some i) : ¬ Mv id aid nv i := by
 obtain ⟨es,ha,-⟩ := h.arr
 rintro (rfl | rfl | hv)
 ·exact he.noCell h.obj hi
 ·exact he.noArr ha (by decide) hi
 ·exact he.sizes h.names (by decide) hi hv
theorem Att.keep5 (h : Att fm σ0 id aid σ nv s) {e : AVal} {p : List AVal} (he : Own σ 5 e p) (hk : Keeps (Mv id aid nv) σ σ') : Own σ' 5 e p :=
 he.keeps hk fun i hi => h.own5 he i hi
theorem Att.grow (h : Att fm σ0 id aid σ nv s) (g : Grows σ σ') : Att fm σ0 id aid σ' nv s := by
 obtain ⟨es,ha,ht⟩ := h.arr
 exact ⟨h.old.trans g,h.lid,h.laid,h.lnv,g.get h.obj,h.names.grow g,es,g.get ha,ht.mono fun e t ho => ho.grow g⟩
theorem Mv.trans {nv1 : AVal} {σ1 σ2 : Store} (h1 : Keeps (Mv id aid nv) σ σ1) (hs : ∀ i,nv1.sid = some i → nv.sid = some i ∨ σ.length ≤ i) (h2 : Keeps (Mv id aid nv1) σ1 σ2) : Keeps (Mv id aid nv) σ σ2 :=
 Keeps.trans h1 h2 fun i hi e => by
  rcases e with rfl | rfl | e
  ·exact .inl rfl
  ·exact .inr (.inl rfl)
  ·rcases hs i e with e | e
   ·exact .inr (.inr e)
   ·omega
structure OT (σ : Store) (lo : Nat) (l : AVal) (es : List AVal) (ts : List (List Cel)) : Prop where
 row : Own σ 1 l es
 two : Two (fun e t => Own σ 5 e (CC t)) es ts
 frl : Fresh lo l
theorem OT.grow {lo : Nat} {l : AVal} {es : List AVal} {ts : List (List Cel)} (h : OT σ lo l es ts) (g : Grows σ σ') : OT σ' lo l es ts :=
 ⟨h.row.grow g,h.two.mono fun e t ho => ho.grow g,h.frl⟩
theorem OT.keep {lo : Nat} {l : AVal} {es : List AVal} {ts : List (List Cel)} (h : OT σ lo l es ts) (ha : Att fm σ0 id aid σ nv s) (h1 : id < lo) (h2 : aid < lo) (hk : Keeps (Mv id aid nv) σ σ') : OT σ' lo l es ts := by
 refine ⟨h.row.keeps hk fun i hi => ?_,h.two.mono fun e t ho => ha.keep5 ho hk,h.frl⟩
 have := h.frl i hi
 rintro (rfl | rfl | hv)
 ·omega
 ·omega
 ·exact h.row.sizes ha.names (by decide) hi hv
theorem OT.at {lo : Nat} {l : AVal} {es : List AVal} {ts : List (List Cel)} (h : OT σ lo l es ts) {i : Nat} (hi : i < ts.length) : ∃ e,iaddrV 1 l (.int .i64 i) = some (addrOf 1 l i) ∧ loadV σ 1 false (addrOf 1 l i) = some e ∧ Own σ 5 e (CC ts[i]) := by
 have hi' : i < es.length := by rw [h.two.len]; exact hi
 obtain ⟨e,he1,he2⟩ := h.two.get hi
 have hee : es[i] = e := by rw [List.getElem?_eq_getElem hi'] at he1; exact Option.some.inj he1
 refine ⟨e,h.row.sl.iaddr hi' .i64,?_,he2⟩
 have := h.row.sl.load1 hi' (by rw [hee]; exact he2.one) 1
 rw [hee] at this; exact this
theorem OT.len {lo : Nat} {l : AVal} {es : List AVal} {ts : List (List Cel)} (h : OT σ lo l es ts) : lenSV l = some ts.length := by
 rw [← h.two.len]; exact h.row.sl.len
end
def StepQ (fm : AVal → List AVal) (σ0 : Store) (id aid : Nat) (res : Option TSt) (s : TSt) (add : Nat) (nv : AVal) (σ : Store) : AVal → Store → Prop := fun r σ' =>
 ∃ (b : Bool) (nv' : AVal) (s' : TSt),r = .bool b ∧ Att fm σ0 id aid σ' nv' s' ∧ Keeps (Mv id aid nv) σ σ' ∧ (∀ i,nv'.sid = some i → nv.sid = some i ∨ σ.length ≤ i) ∧ res = (if b then some s' else none) ∧ s'.ws.length ≤ s.ws.length + add ∧ s'.ls.length = s.ls.length
section
variable (d : Nat)
theorem Two.set {α β : Type} {R : α → β → Prop} {us : List α} {ws : List β} (h : Two R us ws) (j : Nat) {a : α} {b : β} (hr : R a b) : Two R (us.set j a) (ws.set j b) :=
 Two.of_get (by simp [h.len]) fun i x y hx hy => by
  rw [List.getElem?_set] at hx hy
  split at hx
  ·rename_i hij
   rw [if_pos hij] at hy
   split at hx
   ·split at hy
    ·injection hx with hx; injection hy with hy; subst hx; subst hy; exact hr
    ·cases hy
   ·cases hx
  ·rename_i hij
   rw [if_neg hij] at hy
   exact h.at hx hy
theorem StepQ.plain {fm : AVal → List AVal} {σ0 : Store} {id aid : Nat} {res : Option TSt} {s : TSt} {add : Nat} {nv : AVal} {σ σ' : Store} (ha : Att fm σ0 id aid σ nv s) (g : Grows σ σ') (hr : res = none) : StepQ fm σ0 id aid res s add nv σ (.bool false) σ' :=
 ⟨false,nv,s,rfl,ha.grow g,g.any,fun i h => .inl h,by rw [hr]; rfl,by omega,rfl⟩
theorem Att.put {fm : AVal → List AVal} {σ0 : Store} {id aid : Nat} {nv : AVal} {s : TSt} {σ : Store} (ha : Att fm σ0 id aid σ nv s) {j : Nat} {u : AVal} {t : List Cel} (hu : Own σ 5 u (CC t)) (hj : j < s.ls.length) :
  ∃ σ',storeV σ 1 (.eptr aid 0 j 0) u = some σ' ∧ Att fm σ0 id aid σ' nv ⟨s.ls.set j t,s.ws⟩ ∧ Keeps (fun i => i = aid) σ σ' := by
 obtain ⟨es,h1,h2⟩ := ha.arr
 have hj' : j < es.length := by rw [h2.len]; exact hj
 obtain ⟨e,he1,he2⟩ := h2.get hj
 have hee : es[j] = e := by rw [List.getElem?_eq_getElem hj'] at he1; exact Option.some.inj he1
 have st := arr_store1 h1 hj' hu.one (by rw [hee]; exact he2.one)
 have k := Keeps.set σ aid (.arr 1 (es.set j u) 0 0)
 have hne : id ≠ aid := fun e => by have a := ha.obj; rw [e,h1] at a; cases a
 refine ⟨_,st,⟨?_,ha.lid,ha.laid,ha.lnv,k.get ha.obj hne,ha.names.keeps k fun i hi e => ha.names.noArr h1 (by decide) (by rw [← e]; exact hi),es.set j u,get_set h1,?_⟩,k⟩
 ·exact Keeps.trans ha.old k fun i hi e => by have := ha.laid; omega
 ·refine Two.set (h2.mono fun e t ho => ho.keeps k fun i hi e' => ho.noArr h1 (by decide) (by rw [← e']; exact hi)) j ?_
  exact hu.keeps k fun i hi e' => hu.noArr h1 (by decide) (by rw [← e']; exact hi)
theorem Att.get {fm : AVal → List AVal} {σ0 : Store} {id aid : Nat} {nv : AVal} {s : TSt} {σ : Store} (ha : Att fm σ0 id aid σ nv s) {j : Nat} (hj : j < s.ls.length) : ∃ e,loadV σ 1 false (.eptr aid 0 j 0) = some e ∧ lenSV e = some (s.ls[j]).length := by
 obtain ⟨es,h1,h2⟩ := ha.arr
 have hj' : j < es.length := by rw [h2.len]; exact hj
 obtain ⟨e,he1,he2⟩ := h2.get hj
 have hee : es[j] = e := by rw [List.getElem?_eq_getElem hj'] at he1; exact Option.some.inj he1
 refine ⟨e,?_,by have := he2.sl.len; rwa [List.length_map] at this⟩
 rw [arr_load1 h1 (Nat.le_refl _) hj' (by rw [hee]; exact he2.one),hee]
end
section
variable (d : Nat)
structure Tried (fm : AVal → List AVal) (σ0 : Store) (id aid : Nat) (F : TSt → List Cel → List Cel → Option TSt) (s : TSt) (azs bs : List (List Cel)) (lo : Nat) (al bl : AVal) (es fs : List AVal) (nv : AVal) (σ2 σ' : Store) (k : Nat) (nk : AVal) (sk : TSt) : Prop where
 att : Att fm σ0 id aid σ' nk sk
 keep : Keeps (Mv id aid nv) σ2 σ'
 nam : ∀ i,nk.sid = some i → nv.sid = some i ∨ σ2.length ≤ i
 ra : OT σ' lo al es azs
 rb : OT σ' lo bl fs bs
 res : foldO F s azs bs = foldO F sk (azs.drop k) (bs.drop k)
 ws : sk.ws.length ≤ s.ws.length + (azs.take k).flatten.length
 ls : sk.ls.length = s.ls.length
theorem Tried.step {fm : AVal → List AVal} {σ0 : Store} {id aid : Nat} {F : TSt → List Cel → List Cel → Option TSt} {s : TSt} {azs bs : List (List Cel)} {lo : Nat} {al bl : AVal} {es fs : List AVal} {nv : AVal} {σ2 σ' : Store} {k : Nat} {nk : AVal} {sk : TSt} (h : Tried fm σ0 id aid F s azs bs lo al bl es fs nv σ2 σ' k nk sk)
  (hk : k < azs.length) (hb : k < bs.length) (h1 : id < lo) (h2 : aid < lo) {σ3 : Store} {r : AVal} (hq : StepQ fm σ0 id aid (F sk azs[k] bs[k]) sk (azs[k]).length nk σ' r σ3) :
  ∃ b : Bool,r = .bool b ∧ ∃ nk' sk',Att fm σ0 id aid σ3 nk' sk' ∧ Keeps (Mv id aid nv) σ2 σ3 ∧ (∀ i,nk'.sid = some i → nv.sid = some i ∨ σ2.length ≤ i) ∧ sk'.ws.length ≤ s.ws.length + (azs.take (k + 1)).flatten.length ∧ sk'.ls.length = s.ls.length ∧ (b = true → Tried fm σ0 id aid F s azs bs lo al bl es fs nv σ2 σ3 (k + 1) nk' sk') ∧ (b = false → foldO F s azs bs = none) := by
 obtain ⟨b,nk',sk',rfl,a1,a2,a3,a4,a5,a6⟩ := hq
 have hfs := flat_step hk
 have stp := foldO_step (f := F) (s := sk) hk hb
 have c1 := Mv.trans h.keep h.nam a2
 have c2 : ∀ i,nk'.sid = some i → nv.sid = some i ∨ σ2.length ≤ i := fun i hi => (a3 i hi).elim (h.nam i) (fun e => .inr (by have := h.keep.1; omega))
 have c3 : sk'.ws.length ≤ s.ws.length + (azs.take (k + 1)).flatten.length := by have := h.ws; omega
 have c4 : sk'.ls.length = s.ls.length := by rw [a6]; exact h.ls
 refine ⟨b,rfl,nk',sk',a1,c1,c2,c3,c4,fun hb' => ?_,fun hb' => ?_⟩
 ·refine ⟨a1,c1,c2,h.ra.keep h.att h1 h2 a2,h.rb.keep h.att h1 h2 a2,?_,c3,c4⟩
  rw [h.res,stp,a4,hb']; rfl
 ·rw [h.res,stp,a4,hb']; rfl
end
theorem HeapV.one {σ : Store} {hv : AVal} {H : Hp} (h : HeapV σ hv H) : hv.one = true := by
 rcases h with ⟨rfl,_⟩ | ⟨id,mid,vs,rfl,_⟩ <;> rfl
theorem RefV.one {σ : Store} {rv : AVal} {R : Hp} (h : RefV σ rv R) : rv.one = true := by
 rcases h with ⟨rfl,_⟩ | ⟨id,A,rfl,_⟩ <;> rfl
def TryOk (σ : Store) (r : AVal) (x : TryR) : Prop := ∃ lv wv,r = .agg (tryC x.k lv wv) ∧ Terms σ lv x.ls ∧ SlOf σ 2 wv (NN x.ws)
theorem TryOk.grow {σ σ' : Store} {r : AVal} {x : TryR} (h : TryOk σ r x) (g : Grows σ σ') : TryOk σ' r x := by
 obtain ⟨lv,wv,h1,h2,h3⟩ := h
 exact ⟨lv,wv,h1,h2.grow g,h3.grow g⟩
theorem Terms.one {σ : Store} {l : AVal} {ts : List (List Cel)} (h : Terms σ l ts) : l.one = true := by obtain ⟨es,h1,-⟩ := h; exact h1.one
theorem try_told {σ σ0 : Store} {i k : Nat} {lv wv : AVal} {x : TryR} (ho : σ[i]? = some (.cells tryZ)) (hk : x.k = k) (h1 : Terms σ lv x.ls) (h2 : SlOf σ 2 wv (NN x.ws)) (hi : σ0.length ≤ i) (g : Grows σ0 σ) (n1 : ∀ j,lv.sid = some j → j ≠ i) (n2 : ∀ j,wv.sid = some j → j ≠ i) (n3 : ∀ (es : List AVal) (e : AVal) (j : Nat),SlOf σ 1 lv es → e ∈ es → e.sid = some j → j ≠ i) :
  ∃ σ',storeV σ 4 (.ptr i 0) (.agg (tryC k lv wv)) = some σ' ∧ loadV σ' 4 true (.ptr i 0) = some (.agg (tryC k lv wv)) ∧ Grows σ0 σ' ∧ TryOk σ' (.agg (tryC k lv wv)) x := by
 obtain ⟨p1,p2⟩ := try_put (σ' := σ) (k := k) ho h1.one h2.one
 have kk := Keeps.set σ i (.cells (tryC k lv wv))
 refine ⟨_,p1,p2,Keeps.trans g kk fun j hj e => by omega,lv,wv,by rw [hk],?_,h2.keeps kk fun j hj e => n2 j hj e⟩
 obtain ⟨es,a1,a2⟩ := h1
 refine ⟨es,a1.keeps kk fun j hj e => n1 j hj e,a2.mono_mem fun e t he ht hs => hs.keeps kk fun j hj e' => n3 es e j a1 he hj e'⟩
theorem Att.new (fm : AVal → List AVal) (σ : Store) (n : Nat) : Att fm σ (σ.length + 1) σ.length ((σ ++ [.arr 1 (List.replicate n .nilslice) 0 0]) ++ [.cells (fm .nilslice)]) .nilslice ⟨List.replicate n [],[]⟩ := by
 refine ⟨Grows.trans (Grows.app _ _) (Grows.app _ _),by omega,Nat.le_refl _,Fresh.nil _,by simp,Own.nil _ _,List.replicate n .nilslice,by simp,?_⟩
 refine Two.of_get (by simp) fun i a b ha hb => ?_
 rw [List.getElem?_replicate] at ha hb
 by_cases h : i < n
 ·rw [if_pos h] at ha hb
  cases ha; cases hb; exact Own.nil _ _
 ·rw [if_neg h] at ha
  cases ha
theorem Att.terms {fm : AVal → List AVal} {σ0 : Store} {id aid : Nat} {nv : AVal} {s : TSt} {σ : Store} (ha : Att fm σ0 id aid σ nv s) : ∃ es,Own σ 1 (.slice 1 aid 0 0 s.ls.length (some s.ls.length)) es ∧ Two (fun e t => Own σ 5 e (CC t)) es s.ls := by
 obtain ⟨es,h1,h2⟩ := ha.arr
 refine ⟨es,⟨.inr (.inr ⟨aid,0,0,some s.ls.length,es,0,0,by rw [h2.len],h1,Nat.le_refl _,by simp,fun _ => by simp,.inr (by rw [h2.len])⟩)⟩,h2⟩
section
variable (d : Nat) (σ : Store)
end
section
variable (d : Nat) (σ : Store)
end
theorem TryOk.put {σ σ0 : Store} {i : Nat} {r : AVal} {x : TryR} (h : TryOk σ r x) (ho : σ[i]? = some (.cells tryZ)) (hi : σ0.length ≤ i) (g : Grows σ0 σ) :
  ∃ σ',storeV σ 4 (.ptr i 0) r = some σ' ∧ loadV σ' 4 true (.ptr i 0) = some r ∧ Grows σ0 σ' ∧ TryOk σ' r x := by
 obtain ⟨lv,wv,rfl,h2,h3⟩ := h
 have h2' := h2
 obtain ⟨es,a1,a2⟩ := h2'
 refine try_told ho rfl h2 h3 hi g (fun j h e => a1.noCell ho (by rw [← e]; exact h)) (fun j h e => h3.noCell ho (by rw [← e]; exact h)) (fun fs e j hf he hj e' => ?_)
 have : fs = es := Option.some.inj (hf.1.symm.trans a1.1)
 subst this
 obtain ⟨b,_,hb⟩ := a2.mem_left he
 exact hb.noCell ho (by rw [← e']; exact hj)
theorem Terms.lit {σ : Store} {v : AVal} {p : List Cel} (tg : Nat) (h : SlOf σ 5 v (CC p)) : Terms σ (.fslice tg true 1 [v]) [p] := ⟨[v],SlOf.fs _ _ _ _ _,Two.one h⟩
theorem I64.of {i : Int} (h : I64 i) : -9223372036854775808 ≤ i ∧ i < 9223372036854775808 := h
section
variable (d : Nat) (σ : Store)
end
section
variable (d : Nat) (σ : Store)
end
theorem find_names (v : Nm) : ∀ (l : List Nm),∃ o : Option Nat,findK true [.i,.i] (nmV v) (l.map nmV) = some o ∧ (match o with | some i => l[i]? = some v | none => v ∉ l)
 | [] => ⟨none,rfl,by simp⟩
 | p :: r => by
  obtain ⟨o,h1,h2⟩ := find_names v r
  by_cases e : v = p
  ·refine ⟨some 0,?_,by simp [e]⟩
   simp only [List.map_cons,findK,nm_keyEq,decide_eq_true e]
  ·refine ⟨o.map (· + 1),?_,?_⟩
   ·simp only [List.map_cons,findK,nm_keyEq,decide_eq_false e,h1]
    cases o <;> rfl
   ·cases o with
    | none => simp only [Option.map_none]; simp only at h2; simp [e,h2]
    | some i => simpa using h2
structure WayS (σ : Store) (fi li mid : Nat) (lv : AVal) (l bs : List Nm) : Prop where
 fc : σ[fi]? = some (.cells [.map mid])
 lc : σ[li]? = some (.cells [lv])
 mc : σ[mid]? = some (.map (l.map nmV) (bs.map nmV))
 len : bs.length = l.length
 own : Own σ 2 lv (NN l)
 nilc : l = [] → lv = .nilslice
theorem WayS.grow {σ σ' : Store} {fi li mid : Nat} {lv : AVal} {l bs : List Nm} (h : WayS σ fi li mid lv l bs) (g : Grows σ σ') : WayS σ' fi li mid lv l bs :=
 ⟨g.get h.fc,g.get h.lc,g.get h.mc,h.len,h.own.grow g,h.nilc⟩
theorem nmap_look {σ : Store} {m : Nat} {ks : List Nm} {vs : List AVal} (h : σ[m]? = some (.map (ks.map nmV) vs)) (hl : vs.length = ks.length) (v : Nm) (z : AVal) :
  (v ∉ ks → lookupV σ true [.i,.i] z (.map m) (nmV v) false = some z) ∧ (v ∈ ks → ∃ u ∈ vs,lookupV σ true [.i,.i] z (.map m) (nmV v) false = some u) := by
 obtain ⟨o,f1,f2⟩ := find_names v ks
 have hk : keyEq true [.i,.i] (nmV v) (nmV v) = some true := by rw [nm_keyEq,decide_eq_true rfl]
 have hf : findKK true [.i,.i] (nmV v) (ks.map nmV) = some o := by simp only [findKK,hk,Option.isSome_some,if_true,f1]
 have hm : mapOf σ (.map m) = some (ks.map nmV,vs) := by simp only [mapOf,h]
 cases o with
 | none =>
  simp only at f2
  exact ⟨fun _ => by simp only [lookupV,hm,hf]; rfl,fun hv => (f2 hv).elim⟩
 | some i =>
  simp only at f2
  have hi : i < vs.length := by rw [hl]; exact (List.getElem?_eq_some_iff.1 f2).1
  refine ⟨fun hv => (hv (List.mem_of_getElem? f2)).elim,fun _ => ⟨vs[i],List.getElem_mem hi,?_⟩⟩
  simp only [lookupV,hm,hf,List.getElem?_eq_getElem hi,Option.map_some]; rfl
theorem nmap_set {σ : Store} {m : Nat} {ks : List Nm} {vs : List AVal} (h : σ[m]? = some (.map (ks.map nmV) vs)) (hl : vs.length = ks.length) (v : Nm) (u : AVal) :
  ∃ ks' vs',mapsetV σ true [.i,.i] (.map m) (nmV v) u = some (σ.set m (.map (ks'.map nmV) vs')) ∧ vs'.length = ks'.length ∧ (∀ x ∈ vs',x ∈ vs ∨ x = u) ∧ (v ∉ ks → ks' = ks ++ [v]) := by
 obtain ⟨o,f1,f2⟩ := find_names v ks
 have hk : keyEq true [.i,.i] (nmV v) (nmV v) = some true := by rw [nm_keyEq,decide_eq_true rfl]
 have hf : findKK true [.i,.i] (nmV v) (ks.map nmV) = some o := by simp only [findKK,hk,Option.isSome_some,if_true,f1]
 cases o with
 | none =>
  refine ⟨ks ++ [v],vs ++ [u],?_,by simp [hl],fun x hx => by simpa using hx,fun _ => rfl⟩
  simp only [mapsetV,h,hf,List.map_append,List.map_cons,List.map_nil]
 | some i =>
  simp only at f2
  refine ⟨ks,vs.set i u,?_,by simp [hl],fun x hx => List.mem_or_eq_of_mem_set hx,fun hv => (hv (List.mem_of_getElem? f2)).elim⟩
  simp only [mapsetV,h,hf]
structure MdlS (σ : Store) (mi g u w : Nat) (gs us : List Nm) : Prop where
 obj : ∃ p h b,σ[mi]? = some (.cells [p,.int .i64 1,.map g,.map u,.map w,h,b])
 goals : ∃ gv,σ[g]? = some (.map (gs.map nmV) gv) ∧ gv.length = gs.length ∧ ∀ x ∈ gv,∃ t : List Cel,SlOf σ 5 x (CC t) ∧ t.length < 2 ^ 30
 used : ∃ uv,σ[u]? = some (.map (us.map nmV) uv) ∧ uv.length = us.length ∧ ∀ x ∈ uv,x = .bool true
 vars : ∃ (ws : List Nm) (wv : List AVal),σ[w]? = some (.map (ws.map nmV) wv) ∧ wv.length = ws.length
 ne : g ≠ u ∧ g ≠ w ∧ u ≠ w
theorem MdlS.move {σ σ' : Store} {mi g u w : Nat} {gs us : List Nm} (h : MdlS σ mi g u w gs us) {M : Nat → Prop} (k : Keeps M σ σ') (v : Vw σ σ') (h1 : ¬ M mi) (h2 : ¬ M g) (h3 : ¬ M u) (h4 : ¬ M w) : MdlS σ' mi g u w gs us := by
 obtain ⟨⟨p,q,b,o⟩,⟨gv,a1,a2,a3⟩,⟨uv,b1,b2,b3⟩,⟨ws,wv,c1,c2⟩,hn⟩ := h
 exact ⟨⟨p,q,b,k.get o h1⟩,⟨gv,k.get a1 h2,a2,fun x hx => by obtain ⟨t,t1,t2⟩ := a3 x hx; exact ⟨t,v _ _ _ t1,t2⟩⟩,⟨uv,k.get b1 h3,b2,b3⟩,⟨ws,wv,k.get c1 h4,c2⟩,hn⟩
theorem MdlS.grow {σ σ' : Store} {mi g u w : Nat} {gs us : List Nm} (h : MdlS σ mi g u w gs us) (k : Grows σ σ') : MdlS σ' mi g u w gs us := h.move k (Vw.grow k) (fun h => h) (fun h => h) (fun h => h) (fun h => h)
section
variable (d : Nat) (σ : Store)
theorem nindexf_ok (f : FuncId) (c : AVal) (p : Nm → Bool) (l : AVal) (ws : List Nm) (hx : ws.length < 2 ^ 40) (hl : SlOf σ 2 l (NN ws)) (hf : ∀ (v : Nm) (σ' : Store),Grows σ σ' → Called CU.cfg d f [nmV v,c] σ' fun r σ'' => r = .bool (p v) ∧ Grows σ' σ'') :
  Called CU.cfg d 37 [l,.func f [] [c]] σ fun r σ' => (∃ i : Int,r = .int .i64 i ∧ (decide (i ≥ 0)) = ws.any p) ∧ Grows σ σ' := by
 refine called_of (fn := CU.a37) rfl (Nat.le_of_ble_eq_true rfl) ?_
 have ll := hl.len
 rw [List.length_map] at ll
 simp only [CU.a37, CU.o]
 simp -dsimp only [↓WPd,↓Zm,↓Zn,WPu,Za,Zb,Zc,Zd,Ze,Zf,Zg,Zh,Nat.reduceEqDiff,Nat.reduceLT,Zi,Zj,Zk,Zl,Nat.reduceBEq,ll]
 refine loop_rule2 (fun m vs σ' => ∃ k,k ≤ ws.length ∧ m = ws.length - k ∧ vs = [l,.func f [] [c],.int .i64 ws.length,.int .i64 k] ∧ Grows σ σ' ∧ ∀ (j : Nat) (hj : j < ws.length),j < k → p ws[j] = false) [4]
  (fun e vs σ' => Grows σ σ' ∧ ((e = .exit 0 ∧ ws.any p = false) ∨ (e = .ret ∧ ws.any p = true ∧ ∃ k : Nat,vs = [.int .i64 k]))) ws.length ⟨0,Nat.zero_le _,rfl,?_,Keeps.refl _ _,fun j _ h => by omega⟩ ?_ ?_
 ·simp -dsimp only [↓WPd,↓Zm,↓Zn,WPu,Za,Zb,Zc,Zd,Ze,Zf,Zg,Zh,Nat.reduceEqDiff,Nat.reduceLT,Zi,Zj,Zk,Zl,Nat.reduceBEq]; rfl
 ·rintro m vs σ' ⟨k,hk,rfl,rfl,g,hall⟩
  simp -dsimp only [↓WPd,↓Zm,↓Zn,WPu,Za,Zb,Zc,Zd,Ze,Zf,Zg,Zh,Nat.reduceEqDiff,Nat.reduceLT,Zi,Zj,Zk,Zl,Nat.reduceBEq]
  refine condP_dec (fun h => ?_) (fun h => ?_)
  ·have hk' : k < ws.length := by omega
   have hke : k < (NN ws).length := by simpa using hk'
   have ia : iaddrV 2 l (.int .i64 k) = some (addrOf 2 l k) := (hl.grow g).iaddr hke .i64
   have hb := ((hl.grow g).addr hke .i64).2
   have hb' : behind σ' (addrOf 2 l k) = some (nmC ws[k],0) := by rw [hb]; simp only [List.getElem_map,nm_cells]
   have ld : loadV σ' 2 true (addrOf 2 l k) = some (nmV ws[k]) := loadN_at hb' (by simp [nmC])
   simp -dsimp only [↓WPd,↓Zm,↓Zn,WPu,Za,Zb,Zc,Zd,Ze,Zf,Zg,Zh,Nat.reduceEqDiff,Nat.reduceLT,Zi,Zj,Zk,Zl,Nat.reduceBEq,ia,ld]
   refine calledW_of (hf ws[k] σ' g) ?_
   rintro v σ'' ⟨rfl,g2⟩
   simp -dsimp only [↓WPd,↓Zm,↓Zn,WPu,Za,Zb,Zc,Zd,Ze,Zf,Zg,Zh,Nat.reduceEqDiff,Nat.reduceLT,Zi,Zj,Zk,Zl,Nat.reduceBEq]
   refine condP_intro (fun h => ?_) (fun h => ?_)
   ·simp -dsimp only [↓WPd,↓Zm,↓Zn,WPu,Za,Zb,Zc,Zd,Ze,Zf,Zg,Zh,Nat.reduceEqDiff,Nat.reduceLT,Zi,Zj,Zk,Zl,Nat.reduceBEq]
    exact ⟨g.trans g2,.inr ⟨by rw [List.any_eq_true]; exact ⟨_,List.getElem_mem _,h⟩,k,rfl⟩⟩
   ·simp -dsimp only [↓WPd,↓Zm,↓Zn,WPu,Za,Zb,Zc,Zd,Ze,Zf,Zg,Zh,Nat.reduceEqDiff,Nat.reduceLT,Zi,Zj,Zk,Zl,Nat.reduceBEq]
    refine ⟨ws.length - (k + 1),by omega,k + 1,by omega,rfl,by rw [wrap_i64 (by omega) (by omega),Int.natCast_add,Int.natCast_one],g.trans g2,fun j hj hjk => ?_⟩
    by_cases e : j = k
    ·subst e; exact h
    ·exact hall j hj (by omega)
  ·simp -dsimp only [↓WPd,↓Zm,↓Zn,WPu,Za,Zb,Zc,Zd,Ze,Zf,Zg,Zh,Nat.reduceEqDiff,Nat.reduceLT,Zi,Zj,Zk,Zl,Nat.reduceBEq]
   refine ⟨g,.inl ?_⟩
   rw [List.any_eq_false]
   intro x hx
   obtain ⟨j,hj,rfl⟩ := List.getElem_of_mem hx
   simpa using hall j hj (by omega)
 ·rintro e σ' env ⟨g,h⟩
  rcases h with ⟨rfl,h⟩ | ⟨rfl,h,k,hv⟩
  ·simp -dsimp only [↓WPd,↓Zm,↓Zn,WPu,Za,Zb,Zc,Zd,Ze,Zf,Zg,Zh,Nat.reduceEqDiff,Nat.reduceLT,Zi,Zj,Zk,Zl,Nat.reduceBEq]
   exact ⟨⟨-1,rfl,by rw [h]; rfl⟩,g⟩
  ·simp only [List.map_cons,List.map_nil,List.cons.injEq,and_true] at hv
   simp -dsimp only [↓WPd,↓Zm,↓Zn,WPu,Za,Zb,Zc,Zd,Ze,Zf,Zg,Zh,Nat.reduceEqDiff,Nat.reduceLT,Zi,Zj,Zk,Zl,Nat.reduceBEq,hv]
   exact ⟨⟨k,rfl,by rw [h]; simp⟩,g⟩
theorem ncf_ok (f : FuncId) (c : AVal) (p : Nm → Bool) (l : AVal) (ws : List Nm) (hx : ws.length < 2 ^ 40) (hl : SlOf σ 2 l (NN ws)) (hf : ∀ (v : Nm) (σ' : Store),Grows σ σ' → Called CU.cfg d f [nmV v,c] σ' fun r σ'' => r = .bool (p v) ∧ Grows σ' σ'') :
  Called CU.cfg d 21 [l,.func f [] [c]] σ fun r σ' => r = .bool (ws.any p) ∧ Grows σ σ' := by
 refine called_of (fn := CU.a21) rfl (Nat.le_of_ble_eq_true rfl) ?_
 simp only [CU.a21, CU.o]
 simp -dsimp only [↓WPd,↓Zm,↓Zn,WPu,Za,Zb,Zc,Zd,Ze,Zf,Zg,Zh,Nat.reduceEqDiff,Nat.reduceLT,Zi,Zj,Zk,Zl,Nat.reduceBEq]
 refine calledW_of (nindexf_ok d σ f c p l ws hx hl hf) ?_
 rintro r σ1 ⟨⟨i,rfl,hi⟩,g⟩
 simp -dsimp only [↓WPd,↓Zm,↓Zn,WPu,Za,Zb,Zc,Zd,Ze,Zf,Zg,Zh,Nat.reduceEqDiff,Nat.reduceLT,Zi,Zj,Zk,Zl,Nat.reduceBEq,hi]
 exact g
theorem node_ok (mi g u w : Nat) (gs us : List Nm) (i : Int) (h : MdlS σ mi g u w gs us) : Called CU.cfg d 20 [.ptr mi 0,.int .i64 i] σ fun r σ' => r = .bool (decide (i ≥ 0) && decide (i < 1)) ∧ σ' = σ := by
 refine called_of (fn := CU.a20) rfl (Nat.le_of_ble_eq_true rfl) ?_
 simp only [CU.a20, CU.o]
 obtain ⟨p,q,b,o⟩ := h.obj
 have e1 : ∀ p a b c d e f : AVal,[p,a,b,c,d,e,f][1]? = some a := fun _ _ _ _ _ _ _ => rfl
 cases hd : decide (i ≥ 0) with
 | false => simp -dsimp only [↓WPd,↓Zm,↓Zn,WPu,Za,Zb,Zc,Zd,Ze,Zf,Zg,Zh,Nat.reduceEqDiff,Nat.reduceLT,Zi,Zj,Zk,Zl,Nat.reduceBEq,WPm,hd,Bool.false_and]
 | true => simp -dsimp only [↓WPd,↓Zm,↓Zn,WPu,Za,Zb,Zc,Zd,Ze,Zf,Zg,Zh,Nat.reduceEqDiff,Nat.reduceLT,Zi,Zj,Zk,Zl,Nat.reduceBEq,WPm,hd,faddr_ptr,Nat.add_zero,load_cells o,e1,Bool.true_and]
theorem submit1_ok (mi g u w k : Nat) (gs us : List Nm) (v : Nm) (h : MdlS σ mi g u w gs us) (hk : σ[k]? = some (.cells [.ptr mi 0])) : Called CU.cfg d 22 [nmV v,.ptr k 0] σ fun r σ' => r = .bool (!(decide (v.1 ≥ 0) && decide (v.1 < 1))) ∧ Grows σ σ' := by
 refine called_of (fn := CU.a22) rfl (Nat.le_of_ble_eq_true rfl) ?_
 simp only [CU.a22, CU.o]
 simp -dsimp only [↓WPd,↓Zm,↓Zn,WPu,Za,Zb,Zc,Zd,Ze,Zf,Zg,Zh,Nat.reduceEqDiff,Nat.reduceLT,Zi,Zj,Zk,Zl,Nat.reduceBEq,WPm,nm_cells,nm_one]
 have ho : (σ ++ [AObj.cells (nmC v)])[σ.length]? = some (.cells (nmC v)) := by simp
 have g0 : Grows σ (σ ++ [AObj.cells (nmC v)]) := Grows.app _ _
 generalize σ ++ [AObj.cells (nmC v)] = σ1 at ho g0
 have e0 : ([AVal.ptr mi 0] : List AVal)[0]? = some (.ptr mi 0) := rfl
 simp -dsimp only [↓WPd,↓Zm,↓Zn,WPu,Za,Zb,Zc,Zd,Ze,Zf,Zg,Zh,Nat.reduceEqDiff,Nat.reduceLT,Zi,Zj,Zk,Zl,Nat.reduceBEq,WPm,load_cells (g0.get hk),e0,faddr_ptr,Nat.add_zero,load_cells ho,nm_g0]
 refine calledW_of (node_ok d σ1 mi g u w gs us v.1 (h.grow g0)) ?_
 rintro r σ2 ⟨rfl,rfl⟩
 simp -dsimp only [↓WPd,↓Zm,↓Zn,WPu,Za,Zb,Zc,Zd,Ze,Zf,Zg,Zh,Nat.reduceEqDiff,Nat.reduceLT,Zi,Zj,Zk,Zl,Nat.reduceBEq,WPm,notV_bool]
 exact g0
theorem use_ok (mi m : Nat) (l : AVal) (ns ks : List Nm) (vs : List AVal) (h : σ[m]? = some (.map (ks.map nmV) vs)) (hl : vs.length = ks.length) (hn : SlOf σ 2 l (NN ns)) (hx : ns.length < 2 ^ 40) :
  Called CU.cfg d 23 [.ptr mi 0,.map m,l] σ fun _ σ' => Keeps (fun i => i = m) σ σ' ∧ ∃ (ks' : List Nm) (vs' : List AVal),σ'[m]? = some (.map (ks'.map nmV) vs') ∧ vs'.length = ks'.length := by
 refine called_of (fn := CU.a23) rfl (Nat.le_of_ble_eq_true rfl) ?_
 simp only [CU.a23, CU.o]
 have ll := hn.len
 rw [List.length_map] at ll
 have hr : ∀ s : FS,resultsA [] s = some (.tuple []) := fun _ => rfl
 have hmlt : m < σ.length := (List.getElem?_eq_some_iff.1 h).1
 simp -dsimp only [↓WPd,↓Zm,↓Zn,WPu,Za,Zb,Zc,Zd,Ze,Zf,Zg,Zh,Nat.reduceEqDiff,Nat.reduceLT,Zi,Zj,Zk,Zl,Nat.reduceBEq,ll]
 refine loop_rule2 (fun q xs σ' => ∃ k,k ≤ ns.length ∧ q = ns.length - k ∧ xs = [.map m,l,.int .i64 ns.length,.int .i64 (k : Nat)] ∧ Keeps (fun i => i = m) σ σ' ∧ ∃ (ks' : List Nm) (vs' : List AVal),σ'[m]? = some (.map (ks'.map nmV) vs') ∧ vs'.length = ks'.length)
  [] (fun e xs σ' => e = .exit 0 ∧ Keeps (fun i => i = m) σ σ' ∧ ∃ (ks' : List Nm) (vs' : List AVal),σ'[m]? = some (.map (ks'.map nmV) vs') ∧ vs'.length = ks'.length) ns.length ⟨0,Nat.zero_le _,rfl,?_,Keeps.refl _ _,ks,vs,h,hl⟩ ?_ ?_
 ·simp -dsimp only [↓WPd,↓Zm,↓Zn,WPu,Za,Zb,Zc,Zd,Ze,Zf,Zg,Zh,Nat.reduceEqDiff,Nat.reduceLT,Zi,Zj,Zk,Zl,Nat.reduceBEq]; rfl
 ·rintro q xs σ' ⟨k,hk,rfl,rfl,K,ks',vs',h',hl'⟩
  simp -dsimp only [↓WPd,↓Zm,↓Zn,WPu,Za,Zb,Zc,Zd,Ze,Zf,Zg,Zh,Nat.reduceEqDiff,Nat.reduceLT,Zi,Zj,Zk,Zl,Nat.reduceBEq]
  refine condP_dec (fun hc => ?_) (fun hc => ?_)
  ·have hk' : k < ns.length := by omega
   have hke : k < (NN ns).length := by simpa using hk'
   have hn' := hn.keeps K fun i hi e => hn.noMap h (e ▸ hi)
   have ia : iaddrV 2 l (.int .i64 k) = some (addrOf 2 l k) := hn'.iaddr hke .i64
   have hb := (hn'.addr hke .i64).2
   have hb' : behind σ' (addrOf 2 l k) = some (nmC ns[k],0) := by rw [hb]; simp only [List.getElem_map,nm_cells]
   have ld : loadV σ' 2 true (addrOf 2 l k) = some (nmV ns[k]) := loadN_at hb' (by simp [nmC])
   have ho : (σ' ++ [AObj.cells (nmC ns[k])])[σ'.length]? = some (.cells (nmC ns[k])) := by simp
   have g3 : Grows σ' (σ' ++ [AObj.cells (nmC ns[k])]) := Grows.app _ _
   simp -dsimp only [↓WPd,↓Zm,↓Zn,WPu,Za,Zb,Zc,Zd,Ze,Zf,Zg,Zh,Nat.reduceEqDiff,Nat.reduceLT,Zi,Zj,Zk,Zl,Nat.reduceBEq,ia,ld,nm_putB]
   generalize σ' ++ [AObj.cells (nmC ns[k])] = σ3 at ho g3
   obtain ⟨k2,v2,a1,a2,-,-⟩ := nmap_set (g3.get h') hl' ns[k] (.bool true)
   simp -dsimp only [↓WPd,↓Zm,↓Zn,WPu,Za,Zb,Zc,Zd,Ze,Zf,Zg,Zh,Nat.reduceEqDiff,Nat.reduceLT,Zi,Zj,Zk,Zl,Nat.reduceBEq,load_nm ho,a1]
   refine ⟨ns.length - (k + 1),by omega,k + 1,by omega,rfl,by rw [wrap_i64 (by omega) (by omega),Int.natCast_add,Int.natCast_one],Keeps.trans (Keeps.trans K g3 fun i hi e => e.elim) (Keeps.set _ _ _) fun i hi e => e,k2,v2,get_set (g3.get h'),a2⟩
  ·simp -dsimp only [↓WPd,↓Zm,↓Zn,WPu,Za,Zb,Zc,Zd,Ze,Zf,Zg,Zh,Nat.reduceEqDiff,Nat.reduceLT,Zi,Zj,Zk,Zl,Nat.reduceBEq]
   exact ⟨K,ks',vs',h',hl'⟩
 ·rintro e σ' env ⟨rfl,h⟩
  simp -dsimp only [↓WPd,↓Zm,↓Zn,WPu,Za,Zb,Zc,Zd,Ze,Zf,Zg,Zh,Nat.reduceEqDiff,Nat.reduceLT,Zi,Zj,Zk,Zl,Nat.reduceBEq,hr]
  exact h
theorem put_ok (mi g u w : Nat) (gs us : List Nm) (v : Nm) (tv : AVal) (t : List Cel) (h : MdlS σ mi g u w gs us) (h1 : v ∉ gs) (h2 : v ∉ us) (ht : SlOf σ 5 tv (CC t)) (hs : t.length < 2 ^ 30) :
  Called CU.cfg d 24 [.ptr mi 0,.agg (bdC v tv)] σ fun _ σ' => MdlS σ' mi g u w (gs ++ [v]) (us ++ [v]) ∧ Keeps (fun i => i = g ∨ i = u) σ σ' ∧ Vw σ σ' := by
 refine called_of (fn := CU.a24) rfl (Nat.le_of_ble_eq_true rfl) ?_
 simp only [CU.a24, CU.o]
 have hr : ∀ s : FS,resultsA [] s = some (.tuple []) := fun _ => rfl
 simp -dsimp only [↓WPd,↓Zm,↓Zn,WPu,Za,Zb,Zc,Zd,Ze,Zf,Zg,Zh,Nat.reduceEqDiff,Nat.reduceLT,Zi,Zj,Zk,Zl,Nat.reduceBEq,WPm,cells_agg,bdV_one v ht]
 have ho : (σ ++ [AObj.cells (bdC v tv)])[σ.length]? = some (.cells (bdC v tv)) := by simp
 have g0 : Grows σ (σ ++ [AObj.cells (bdC v tv)]) := Grows.app _ _
 generalize σ ++ [AObj.cells (bdC v tv)] = σ1 at ho g0
 have h' := h.grow g0
 have ht1 := ht.grow g0
 obtain ⟨⟨p,q,b,o⟩,⟨gv,a1,a2,a3⟩,⟨uv,b1,b2,b3⟩,⟨ws,wv,c1,c2⟩,n1,n2,n3⟩ := h'
 have e2 : ∀ p a b c d e f : AVal,[p,a,b,c,d,e,f][2]? = some b := fun _ _ _ _ _ _ _ => rfl
 have e3 : ∀ p a b c d e f : AVal,[p,a,b,c,d,e,f][3]? = some c := fun _ _ _ _ _ _ _ => rfl
 have u2 : (bdC v tv)[2]? = some tv := rfl
 have nm : ∀ {σ' : Store},σ'[σ.length]? = some (.cells (bdC v tv)) → loadV σ' 2 true (.ptr σ.length 0) = some (nmV v) := fun {σ'} ho => loadN_at (q := .ptr σ.length 0) (cs := bdC v tv) (off := 0) (by simp only [behind,ho]) (by simp [bdC])
 refine drawnP_of rfl ?_
 simp -dsimp only [↓WPd,↓Zm,↓Zn,WPu,Za,Zb,Zc,Zd,Ze,Zf,Zg,Zh,Nat.reduceEqDiff,Nat.reduceLT,Zi,Zj,Zk,Zl,Nat.reduceBEq,↓WPed,WPeu,Nat.reduceAdd,and_self,isnil_ptr,faddr_ptr,Nat.add_zero,Nat.zero_add,load_cells o,e2,nm ho,load_cells ho,u2]
 refine calledW_of (cclone_ok d σ1 tv t hs ht1) ?_
 rintro x σ2 ⟨g2,ox,fx,nx⟩
 obtain ⟨k2,v2,s1,s2,s3,s4⟩ := nmap_set (g2.get a1) a2 v x
 have hk2 := s4 h1
 subst hk2
 simp -dsimp only [↓WPd,↓Zm,↓Zn,WPu,Za,Zb,Zc,Zd,Ze,Zf,Zg,Zh,Nat.reduceEqDiff,Nat.reduceLT,Zi,Zj,Zk,Zl,Nat.reduceBEq,↓WPed,WPeu,Nat.reduceAdd,and_self,isnil_ptr,faddr_ptr,Nat.add_zero,Nat.zero_add,load_cells (g2.get o),load_cells o,e2,nm ho,nm (g2.get ho),load_cells ho,u2,s1]
 have k3 : Keeps (fun i => i = g) σ2 (σ2.set g (.map ((gs ++ [v]).map nmV) v2)) := Keeps.set _ _ _
 have m3 : (σ2.set g (.map ((gs ++ [v]).map nmV) v2))[g]? = some (.map ((gs ++ [v]).map nmV) v2) := get_set (g2.get a1)
 have w3 : Vw σ2 (σ2.set g (.map ((gs ++ [v]).map nmV) v2)) := Vw.map (g2.get a1) k3
 generalize σ2.set g (.map ((gs ++ [v]).map nmV) v2) = σ3 at k3 m3 w3
 have o3 := k3.get (g2.get o) (fun e => by have := g2.get a1; rw [← e,g2.get o] at this; cases this)
 have ho3 := k3.get (g2.get ho) (fun e => by have := g2.get a1; rw [← e,g2.get ho] at this; cases this)
 have b3' := k3.get (g2.get b1) (fun e => n1 e.symm)
 have c3' := k3.get (g2.get c1) (fun e => n2 e.symm)
 obtain ⟨k4,v4,r1,r2,r3,r4⟩ := nmap_set b3' b2 v (.bool true)
 have hk4 := r4 h2
 subst hk4
 simp -dsimp only [↓WPd,↓Zm,↓Zn,WPu,Za,Zb,Zc,Zd,Ze,Zf,Zg,Zh,Nat.reduceEqDiff,Nat.reduceLT,Zi,Zj,Zk,Zl,Nat.reduceBEq,WPm,isnil_ptr,faddr_ptr,Nat.add_zero,Nat.zero_add,load_cells o3,e3,nm ho3,r1,hr]
 have k5 : Keeps (fun i => i = u) σ3 (σ3.set u (.map ((us ++ [v]).map nmV) v4)) := Keeps.set _ _ _
 have m5 : (σ3.set u (.map ((us ++ [v]).map nmV) v4))[u]? = some (.map ((us ++ [v]).map nmV) v4) := get_set b3'
 have w5 : Vw σ3 (σ3.set u (.map ((us ++ [v]).map nmV) v4)) := Vw.map b3' k5
 generalize σ3.set u (.map ((us ++ [v]).map nmV) v4) = σ5 at k5 m5 w5
 have w25 := w3.trans w5
 refine ⟨⟨⟨p,q,b,k5.get o3 (fun e => by rw [← e,o3] at b3'; cases b3')⟩,⟨v2,k5.get m3 n1,s2,fun y hy => ?_⟩,⟨v4,m5,r2,fun y hy => ?_⟩,⟨ws,wv,k5.get c3' (fun e => n3 e.symm),c2⟩,n1,n2,n3⟩,?_,?_⟩
 ·rcases s3 y hy with hy | rfl
  ·obtain ⟨t',t1,t2⟩ := a3 y hy
   exact ⟨t',w25 _ _ _ (t1.grow g2),t2⟩
  ·exact ⟨t,w25 _ _ _ ox.sl,hs⟩
 ·rcases r3 y hy with hy | rfl
  ·exact b3 y hy
  ·rfl
 ·exact Keeps.trans (Keeps.trans (g0.trans g2).any k3 fun i hi e => .inl e) k5 fun i hi e => .inr e
 ·exact (Vw.grow (g0.trans g2)).trans w25
end
section
variable (d : Nat) (σ : Store)
theorem callable_ok (tv : AVal) (c : Cel) (s : List Cel) (ht : SlOf σ 5 tv (CC (c :: s))) : Called CU.cfg d 19 [tv] σ fun r σ' => (∃ b,r = .bool b) ∧ σ' = σ := by
 refine called_of (fn := CU.a19) rfl (Nat.le_of_ble_eq_true rfl) ?_
 simp only [CU.a19, CU.o]
 have hi : 0 < (CC (c :: s)).length := by simp
 have hb := (ht.addr hi .i64).2
 have hb' : behind σ (addrOf 5 tv 0) = some (c.cs,0) := hb
 obtain ⟨q0,p0,b0⟩ := faddr_at hb' 0
 have ia : iaddrV 5 tv (.int .i64 0) = some (addrOf 5 tv 0) := ht.iaddr hi .i64
 have ld : loadV σ 1 false q0 = some (.int .u8 c.k) := load_at b0
 cases hk : ((c.k : Int) == 2) with
 | true =>
  simp -dsimp only [↓WPd,↓Zm,↓Zn,WPu,Za,Zb,Zc,Zd,Ze,Zf,Zg,Zh,Nat.reduceEqDiff,Nat.reduceLT,Zi,Zj,Zk,Zl,Nat.reduceBEq,WPm,ia,p0,ld,hk]
  exact ⟨⟨_,rfl⟩,trivial⟩
 | false =>
  simp -dsimp only [↓WPd,↓Zm,↓Zn,WPu,Za,Zb,Zc,Zd,Ze,Zf,Zg,Zh,Nat.reduceEqDiff,Nat.reduceLT,Zi,Zj,Zk,Zl,Nat.reduceBEq,WPm,ia,p0,ld,hk]
  exact ⟨⟨_,rfl⟩,trivial⟩
set_option maxHeartbeats 2000000 in
theorem submit_ok (mi g u w : Nat) (gs us : List Nm) (v : Nm) (tv : AVal) (t : List Cel) (h : MdlS σ mi g u w gs us) (h1 : v ∉ gs) (h2 : v ∉ us) (ht : SlOf σ 5 tv (CC t)) (hs : Small t) (hl : t.length < 2 ^ 28) :
  Called CU.cfg d 6 [.ptr mi 0,.agg (bdC v tv)] σ fun r σ' => Vw σ σ' ∧ Keeps (fun i => i = g ∨ i = u ∨ i = w) σ σ' ∧ ((r = .int .i64 0 ∧ MdlS σ' mi g u w (gs ++ [v]) (us ++ [v])) ∨ (r = .int .i64 6 ∧ MdlS σ' mi g u w gs us)) := by
 refine called_of (fn := CU.a6) rfl (Nat.le_of_ble_eq_true rfl) ?_
 simp only [CU.a6, CU.o]
 have hc : (AVal.ptr mi 0).cells = [.ptr mi 0] := rfl
 have hc1 : [AVal.ptr mi 0].all AVal.one = true := rfl
 simp -dsimp only [↓WPd,↓Zm,↓Zn,WPu,Za,Zb,Zc,Zd,Ze,Zf,Zg,Zh,Nat.reduceEqDiff,Nat.reduceLT,Zi,Zj,Zk,Zl,Nat.reduceBEq,WPm,cells_agg,bdV_one v ht,hc,hc1]
 have om : (σ ++ [AObj.cells [.ptr mi 0]] ++ [AObj.cells (bdC v tv)])[σ.length]? = some (.cells [.ptr mi 0]) := by simp
 have og : (σ ++ [AObj.cells [.ptr mi 0]] ++ [AObj.cells (bdC v tv)])[(σ ++ [AObj.cells [.ptr mi 0]]).length]? = some (.cells (bdC v tv)) := by simp
 have g1 : Grows σ (σ ++ [AObj.cells [.ptr mi 0]] ++ [AObj.cells (bdC v tv)]) := (Grows.app _ _).trans (Grows.app _ _)
 generalize (σ ++ [AObj.cells [.ptr mi 0]]).length = kg at og
 generalize σ ++ [AObj.cells [.ptr mi 0]] ++ [AObj.cells (bdC v tv)] = σ1 at om og g1
 generalize σ.length = km at om
 have e0 : ([AVal.ptr mi 0] : List AVal)[0]? = some (.ptr mi 0) := rfl
 have u2 : (bdC v tv)[2]? = some tv := rfl
 have u0 : (bdC v tv)[0]? = some (.int .i64 v.1) := rfl
 have nm : ∀ {σ' : Store},σ'[kg]? = some (.cells (bdC v tv)) → loadV σ' 2 true (.ptr kg 0) = some (nmV v) := fun {σ'} ho => loadN_at (q := .ptr kg 0) (cs := bdC v tv) (off := 0) (by simp only [behind,ho]) (by simp [bdC])
 have ht1 := ht.grow g1
 have l1 := lit1_ok (a := tv) ht.one
 simp -dsimp only [↓WPd,↓Zm,↓Zn,WPu,Za,Zb,Zc,Zd,Ze,Zf,Zg,Zh,Nat.reduceEqDiff,Nat.reduceLT,Zi,Zj,Zk,Zl,Nat.reduceBEq,WPm,load_cells om,e0,isnil_ptr,faddr_ptr,Nat.zero_add,Nat.add_zero,load_cells og,u2,l1]
 refine calledW_of (vars_ok d σ1 _ [t] (by simp; omega) (by simp) ⟨[tv],SlOf.fs _ _ _ _ _,Two.one ht1⟩) ?_
 rintro vr σ2 ⟨g2,ov,-⟩
 have om2 := g2.get om
 have og2 := g2.get og
 have ht2 := ht1.grow g2
 have h2' := (h.grow g1).grow g2
 have g02 := g1.trans g2
 simp -dsimp only [↓WPd,↓Zm,↓Zn,WPu,Za,Zb,Zc,Zd,Ze,Zf,Zg,Zh,Nat.reduceEqDiff,Nat.reduceLT,Zi,Zj,Zk,Zl,Nat.reduceBEq,WPm,load_cells om2,e0,faddr_ptr,Nat.zero_add,Nat.add_zero,load_cells og2,u2]
 refine calledW_of (global_ok d σ2 tv t hs ht2) ?_
 rintro r σ3 ⟨rfl,g3⟩
 have om3 := g3.get om2
 have og3 := g3.get og2
 have ht3 := ht2.grow g3
 have h3 := h2'.grow g3
 have g03 := g02.trans g3
 have bad : ∀ {σ' : Store},Grows σ σ' → Vw σ σ' ∧ Keeps (fun i => i = g ∨ i = u ∨ i = w) σ σ' ∧ ((AVal.int .i64 6 = .int .i64 0 ∧ MdlS σ' mi g u w (gs ++ [v]) (us ++ [v])) ∨ MdlS σ' mi g u w gs us) := fun g' => ⟨Vw.grow g',g'.any,.inr (h.grow g')⟩
 cases hg : glob t with
 | false =>
  simp -dsimp only [↓WPd,↓Zm,↓Zn,WPu,Za,Zb,Zc,Zd,Ze,Zf,Zg,Zh,Nat.reduceEqDiff,Nat.reduceLT,Zi,Zj,Zk,Zl,Nat.reduceBEq,WPm]
  exact bad g03
 | true =>
  obtain ⟨c,s,rfl⟩ : ∃ c s,t = c :: s := List.exists_cons_of_ne_nil (right_ne (glob_right hg))
  simp -dsimp only [↓WPd,↓Zm,↓Zn,WPu,Za,Zb,Zc,Zd,Ze,Zf,Zg,Zh,Nat.reduceEqDiff,Nat.reduceLT,Zi,Zj,Zk,Zl,Nat.reduceBEq,WPm,load_cells om3,e0,faddr_ptr,Nat.zero_add,Nat.add_zero,load_cells og3,u2]
  refine calledW_of (callable_ok d σ3 tv c s ht3) ?_
  rintro r σ4 ⟨⟨b,rfl⟩,rfl⟩
  cases b with
  | false =>
   simp -dsimp only [↓WPd,↓Zm,↓Zn,WPu,Za,Zb,Zc,Zd,Ze,Zf,Zg,Zh,Nat.reduceEqDiff,Nat.reduceLT,Zi,Zj,Zk,Zl,Nat.reduceBEq,WPm]
   exact bad g03
  | true =>
   obtain ⟨p,q,bb,o⟩ := h3.obj
   obtain ⟨uv,b1,b2,b3⟩ := h3.used
   have e3 : ∀ p a b c d e f : AVal,[p,a,b,c,d,e,f][3]? = some c := fun _ _ _ _ _ _ _ => rfl
   have e4 : ∀ p a b c d e f : AVal,[p,a,b,c,d,e,f][4]? = some d := fun _ _ _ _ _ _ _ => rfl
   have lk := (nmap_look b1 b2 v (.bool false)).1 h2
   simp -dsimp only [↓WPd,↓Zm,↓Zn,WPu,Za,Zb,Zc,Zd,Ze,Zf,Zg,Zh,Nat.reduceEqDiff,Nat.reduceLT,Zi,Zj,Zk,Zl,Nat.reduceBEq,WPm,load_cells om3,e0,faddr_ptr,Nat.zero_add,Nat.add_zero,load_cells og3,u0,load_cells o,e3,nm og3,lk]
   refine calledW_of (node_ok d σ4 mi g u w gs us v.1 h3) ?_
   rintro r σ5 ⟨rfl,rfl⟩
   cases hn : (decide (v.1 ≥ 0) && decide (v.1 < 1)) with
   | false =>
    simp -dsimp only [↓WPd,↓Zm,↓Zn,WPu,Za,Zb,Zc,Zd,Ze,Zf,Zg,Zh,Nat.reduceEqDiff,Nat.reduceLT,Zi,Zj,Zk,Zl,Nat.reduceBEq,WPm]
    exact bad g03
   | true =>
    simp -dsimp only [↓WPd,↓Zm,↓Zn,WPu,Za,Zb,Zc,Zd,Ze,Zf,Zg,Zh,Nat.reduceEqDiff,Nat.reduceLT,Zi,Zj,Zk,Zl,Nat.reduceBEq,WPm]
    have vl := varsL_len [] (c :: s)
    simp only [List.length_nil] at vl
    have efl : [c :: s].flatten = c :: s := by simp
    rw [efl] at ov
    refine calledW_of (ncf_ok d σ5 22 (.ptr km 0) (fun x => !(decide (x.1 ≥ 0) && decide (x.1 < 1))) vr (varsL [] (c :: s)) (by omega) (ov.grow g3).sl (fun x σ' g' => submit1_ok d σ' mi g u w km gs us x (h3.grow g') (g'.get om3))) ?_
    rintro r σ6 ⟨rfl,g6⟩
    have g06 := g03.trans g6
    cases hany : (varsL [] (c :: s)).any (fun x => !(decide (x.1 ≥ 0) && decide (x.1 < 1))) with
    | true =>
     simp -dsimp only [↓WPd,↓Zm,↓Zn,WPu,Za,Zb,Zc,Zd,Ze,Zf,Zg,Zh,Nat.reduceEqDiff,Nat.reduceLT,Zi,Zj,Zk,Zl,Nat.reduceBEq,WPm]
     exact bad g06
    | false =>
     have om6 := g6.get om3
     have og6 := g6.get og3
     have h6 := h3.grow g6
     obtain ⟨ws,wv,c1,c2⟩ := h6.vars
     simp -dsimp only [↓WPd,↓Zm,↓Zn,WPu,Za,Zb,Zc,Zd,Ze,Zf,Zg,Zh,Nat.reduceEqDiff,Nat.reduceLT,Zi,Zj,Zk,Zl,Nat.reduceBEq,WPm,load_cells om6,e0,faddr_ptr,Nat.zero_add,Nat.add_zero,load_cells (g6.get o),e4]
     refine calledW_of (use_ok d σ6 mi w vr (varsL [] (c :: s)) ws wv c1 c2 ((ov.grow g3).grow g6).sl (by omega)) ?_
     rintro r σ7 ⟨k7,ws',wv',c1',c2'⟩
     have w7 : Vw σ6 σ7 := Vw.map c1 k7
     have nw : ∀ {j : Nat} {cs : List AVal},σ6[j]? = some (.cells cs) → j ≠ w := fun ho e => by rw [e,c1] at ho; cases ho
     have om7 := k7.get om6 (nw om6)
     have og7 := k7.get og6 (nw og6)
     obtain ⟨⟨p6,q6,b6,o6⟩,⟨gv6,x1,x2,x3⟩,⟨uv6,y1,y2,y3⟩,-,n1,n2,n3⟩ := h6
     have h7 : MdlS σ7 mi g u w gs us := ⟨⟨p6,q6,b6,k7.get o6 (nw o6)⟩,⟨gv6,k7.get x1 n2,x2,fun x hx => by obtain ⟨t',t1,t2⟩ := x3 x hx; exact ⟨t',w7 _ _ _ t1,t2⟩⟩,⟨uv6,k7.get y1 n3,y2,y3⟩,⟨ws',wv',c1',c2'⟩,n1,n2,n3⟩
     have ht7 := w7 _ _ _ (ht3.grow g6)
     simp -dsimp only [↓WPd,↓Zm,↓Zn,WPu,Za,Zb,Zc,Zd,Ze,Zf,Zg,Zh,Nat.reduceEqDiff,Nat.reduceLT,Zi,Zj,Zk,Zl,Nat.reduceBEq,WPm,load_cells om7,e0,loadN_cells og7 (n := 3) rfl]
     refine calledW_of (put_ok d σ7 mi g u w gs us v tv (c :: s) h7 h1 h2 ht7 (by omega)) ?_
     rintro r σ8 ⟨h8,k8,w8⟩
     simp -dsimp only [↓WPd,↓Zm,↓Zn,WPu,Za,Zb,Zc,Zd,Ze,Zf,Zg,Zh,Nat.reduceEqDiff,Nat.reduceLT,Zi,Zj,Zk,Zl,Nat.reduceBEq,WPm]
     refine ⟨((Vw.grow g06).trans w7).trans w8,Keeps.trans (Keeps.trans g06.any k7 fun i hi e => .inr (.inr e)) k8 fun i hi e => ?_,.inl h8⟩
     rcases e with e | e
     ·exact .inl e
     ·exact .inr (.inl e)
set_option maxHeartbeats 2000000 in
theorem goals_ok (mi g u w : Nat) (gs us : List Nm) (h : MdlS σ mi g u w gs us) (hn : gs.length < 2 ^ 20) : Called CU.cfg d 11 [.ptr mi 0] σ fun r σ' => lenSV r = some gs.length ∧ Grows σ σ' := by
 refine called_of (fn := CU.a11) rfl (Nat.le_of_ble_eq_true rfl) ?_
 simp only [CU.a11, CU.o]
 obtain ⟨p,q,bb,o⟩ := h.obj
 obtain ⟨gv,a1,a2,a3⟩ := h.goals
 have e2 : ∀ p a b c d e f : AVal,[p,a,b,c,d,e,f][2]? = some b := fun _ _ _ _ _ _ _ => rfl
 simp -dsimp only [↓WPd,↓Zm,↓Zn,WPu,Za,Zb,Zc,Zd,Ze,Zf,Zg,Zh,Nat.reduceEqDiff,Nat.reduceLT,Zi,Zj,Zk,Zl,Nat.reduceBEq,WPm,isnil_ptr,faddr_ptr,Nat.zero_add,Nat.add_zero,load_cells o,e2]
 refine calledW_of (mkeys_ok d σ (.map g) rfl) ?_
 rintro r σ1 ⟨rfl,rfl⟩
 have g1 : Grows σ (σ ++ [AObj.cells [.map g]]) := Grows.app _ _
 have ho : (σ ++ [AObj.cells [.map g]])[σ.length]? = some (.cells [.map g]) := by simp
 generalize σ ++ [AObj.cells [.map g]] = σ1 at g1 ho
 simp -dsimp only [↓WPd,↓Zm,↓Zn,WPu,Za,Zb,Zc,Zd,Ze,Zf,Zg,Zh,Nat.reduceEqDiff,Nat.reduceLT,Zi,Zj,Zk,Zl,Nat.reduceBEq,WPm]
 refine calledW_of (sorted_ok d σ1 σ.length g gs gv ho (g1.get a1) (by omega)) ?_
 rintro r σ2 ⟨hr,g2⟩
 have g02 := g1.trans g2
 have lr : lenSV r = some gs.length := by rw [hr.len]; simp [sortN_len]
 simp -dsimp only [↓WPd,↓Zm,↓Zn,WPu,Za,Zb,Zc,Zd,Ze,Zf,Zg,Zh,Nat.reduceEqDiff,Nat.reduceLT,Zi,Zj,Zk,Zl,Nat.reduceBEq,WPm,lr]
 refine loop_rule2 (fun m xs σ' => ∃ (k : Nat) (l : AVal) (es : List AVal),k ≤ gs.length ∧ m = gs.length - k ∧ xs = [.ptr mi 0,l,r,.int .i64 gs.length,.int .i64 (k : Nat)] ∧ Grows σ2 σ' ∧ Own σ' 3 l es ∧ es.length = k ∧ Fresh σ2.length l)
  [3] (fun e xs σ' => e = .exit 0 ∧ ∃ (l : AVal),xs = [l] ∧ Grows σ2 σ' ∧ lenSV l = some gs.length) gs.length
  ⟨0,.nilslice,[],Nat.zero_le _,rfl,?_,Keeps.refl _ _,Own.nil _ _,rfl,Fresh.nil _⟩ ?_ ?_
 ·simp -dsimp only [↓WPd,↓Zm,↓Zn,WPu,Za,Zb,Zc,Zd,Ze,Zf,Zg,Zh,Nat.reduceEqDiff,Nat.reduceLT,Zi,Zj,Zk,Zl,Nat.reduceBEq]; rfl
 ·rintro m xs σ' ⟨k,l,es,hk,rfl,rfl,g',ol,hel,fl0⟩
  simp -dsimp only [↓WPd,↓Zm,↓Zn,WPu,Za,Zb,Zc,Zd,Ze,Zf,Zg,Zh,Nat.reduceEqDiff,Nat.reduceLT,Zi,Zj,Zk,Zl,Nat.reduceBEq]
  refine condP_dec (fun hc => ?_) (fun hc => ?_)
  ·have hk' : k < gs.length := by omega
   have hks : k < (sortN gs).length := by rw [sortN_len]; exact hk'
   have hr' := hr.grow g'
   have hke : k < ((sortN gs).map nmV).length := by simpa using hks
   have ia : iaddrV 2 r (.int .i64 k) = some (addrOf 2 r k) := hr'.iaddr hke .i64
   have hb := (hr'.addr hke .i64).2
   have hb' : behind σ' (addrOf 2 r k) = some (nmC (sortN gs)[k],0) := by rw [hb]; simp only [List.getElem_map,nm_cells]
   have ld : loadV σ' 2 true (addrOf 2 r k) = some (nmV (sortN gs)[k]) := loadN_at hb' (by simp [nmC])
   have ho' : (σ' ++ [AObj.cells (nmC (sortN gs)[k])])[σ'.length]? = some (.cells (nmC (sortN gs)[k])) := by simp
   have g3 : Grows σ' (σ' ++ [AObj.cells (nmC (sortN gs)[k])]) := Grows.app _ _
   simp -dsimp only [↓WPd,↓Zm,↓Zn,WPu,Za,Zb,Zc,Zd,Ze,Zf,Zg,Zh,Nat.reduceEqDiff,Nat.reduceLT,Zi,Zj,Zk,Zl,Nat.reduceBEq,WPm,ia,ld,nm_putB]
   have hl3 : σ2.length ≤ (σ' ++ [AObj.cells (nmC (sortN gs)[k])]).length := (g'.trans g3).1
   generalize σ' ++ [AObj.cells (nmC (sortN gs)[k])] = σ3 at ho' g3 hl3
   have g03 := (g02.trans g').trans g3
   have hmem : (sortN gs)[k] ∈ gs := (sortN_perm gs).mem_iff.1 (List.getElem_mem hks)
   obtain ⟨x,hx,lk⟩ := (nmap_look (g03.get a1) a2 (sortN gs)[k] .nilslice).2 hmem
   obtain ⟨t,t1,t2⟩ := a3 x hx
   refine drawnP_of rfl ?_
   simp -dsimp only [↓WPd,↓Zm,↓Zn,WPu,Za,Zb,Zc,Zd,Ze,Zf,Zg,Zh,Nat.reduceEqDiff,Nat.reduceLT,Zi,Zj,Zk,Zl,Nat.reduceBEq,↓WPed,WPeu,Nat.reduceAdd,and_self,load_nm ho',isnil_ptr,faddr_ptr,Nat.add_zero,Nat.zero_add,load_cells (g03.get o),e2,lk]
   refine calledW_of (cclone_ok d σ3 x t t2 (t1.grow g03)) ?_
   rintro y σ4 ⟨g4,oy,fy,ny⟩
   obtain ⟨l',σ5,b1,b2,b3,b4,-⟩ := ((ol.grow g3).grow g4).append [bdV (sortN gs)[k] y] 40 (by simp; omega)
   have fl := elems_fs 3 (AVal.tagL [bdV (sortN gs)[k] y]) true σ4 [bdV (sortN gs)[k] y]
   simp -dsimp only [↓WPd,↓Zm,↓Zn,WPu,Za,Zb,Zc,Zd,Ze,Zf,Zg,Zh,Nat.reduceEqDiff,Nat.reduceLT,Zi,Zj,Zk,Zl,Nat.reduceBEq,↓WPed,WPeu,Nat.reduceAdd,and_self,load_nm ho',load_nm (g4.get ho'),isnil_ptr,faddr_ptr,Nat.add_zero,Nat.zero_add,load_cells (g03.get o),e2,bd_build (sortN gs)[k] y oy.one,bd_lit (sortN gs)[k] y oy.one,fl,b1]
   refine ⟨gs.length - (k + 1),by omega,k + 1,l',es ++ [bdV (sortN gs)[k] y],by omega,rfl,by rw [wrap_i64 (by omega) (by omega),Int.natCast_add,Int.natCast_one],Keeps.trans ((g'.trans g3).trans g4) b3 fun i hi e => by have := fl0 i e; omega,b2,by simp [hel],fun i hi => ?_⟩
   rcases b4 i hi with e | e
   ·exact fl0 i e
   ·have := g4.1; omega
  ·have : k = gs.length := by omega
   simp -dsimp only [↓WPd,↓Zm,↓Zn,WPu,Za,Zb,Zc,Zd,Ze,Zf,Zg,Zh,Nat.reduceEqDiff,Nat.reduceLT,Zi,Zj,Zk,Zl,Nat.reduceBEq]
   exact ⟨l,rfl,g',by rw [ol.sl.len,hel,this]⟩
 ·rintro e σ' env ⟨rfl,l,hv,g',hl'⟩
  simp only [List.map_cons,List.map_nil,List.cons.injEq,and_true] at hv
  simp -dsimp only [↓WPd,↓Zm,↓Zn,WPu,Za,Zb,Zc,Zd,Ze,Zf,Zg,Zh,Nat.reduceEqDiff,Nat.reduceLT,Zi,Zj,Zk,Zl,Nat.reduceBEq,hv]
  exact ⟨hl',g02.trans g'⟩
end
def newB (x : Option (AVal × Store)) : Bool := match x with
 | some (.tuple [.ptr mi 0,.int .i64 0],σ) => match σ[mi]? with
  | some (.cells [_,.int .i64 1,.map g,.map u,.map w,_,_]) => (match σ[g]?,σ[u]?,σ[w]? with
   | some (.map [] []),some (.map [] []),some (.map [] []) => true
   | _,_,_ => false) && (g != u && g != w && u != w)
  | _ => false
 | _ => false
theorem newB_ran : newB (run CU.cfg 300 0 4 [.nilslice,.int .i64 1] []) = true := by kernel_rfl
theorem new_ok : Called CU.cfg 0 4 [.nilslice,.int .i64 1] [] fun r σ' => ∃ mi g u w,r = .tuple [.ptr mi 0,.int .i64 0] ∧ MdlS σ' mi g u w [] [] := by
 have h := newB_ran
 cases hx : run CU.cfg 300 0 4 [.nilslice,.int .i64 1] [] with
 | none => rw [hx] at h; cases h
 | some x =>
  obtain ⟨v,σ'⟩ := x
  rw [hx] at h
  refine ⟨300,v,σ',hx,?_⟩
  unfold newB at h
  split at h
  ·rename_i mi σ1 heq
   injection heq with heq
   injection heq with e1 e2
   subst e1; subst e2
   split at h
   ·rename_i p g u w q b ho
    simp only [Bool.and_eq_true,bne_iff_ne,ne_eq] at h
    obtain ⟨h,⟨n1,n2⟩,n3⟩ := h
    split at h
    ·rename_i a1 a2 a3
     exact ⟨mi,g,u,w,rfl,⟨p,q,b,ho⟩,⟨[],a1,rfl,fun x hx => by cases hx⟩,⟨[],a2,rfl,fun x hx => by cases hx⟩,⟨[],[],a3,rfl⟩,n1,n2,n3⟩
    ·cases h
   ·cases h
  ·cases h
def GoalRow (σ : Store) (es : List AVal) (ns : List Nm) : Prop := Two (fun e v => ∃ (u : AVal) (t : List Cel),e = bdV v u ∧ SlOf σ 5 u (CC t) ∧ t.length < 2 ^ 30) es ns
theorem GoalRow.vw {σ σ' : Store} {es : List AVal} {ns : List Nm} (h : GoalRow σ es ns) (w : Vw σ σ') : GoalRow σ' es ns := h.mono fun e v ⟨u,t,h1,h2,h3⟩ => ⟨u,t,h1,w _ _ _ h2,h3⟩
def waC (v : Nm) (u x : AVal) : List AVal := [.int .i64 v.1,.int .i64 v.2,u,x]
def WaitRow (σ : Store) (es : List AVal) (ps : List (Nm × List Nm)) : Prop := Two (fun e (p : Nm × List Nm) => ∃ (u x : AVal) (t : List Cel),e = .agg (waC p.1 u x) ∧ SlOf σ 5 u (CC t) ∧ t.length < 2 ^ 30 ∧ SlOf σ 2 x (NN p.2)) es ps
theorem WaitRow.vw {σ σ' : Store} {es : List AVal} {ps : List (Nm × List Nm)} (h : WaitRow σ es ps) (w : Vw σ σ') : WaitRow σ' es ps := h.mono fun e v ⟨u,x,t,h1,h2,h3,h4⟩ => ⟨u,x,t,h1,w _ _ _ h2,h3,w _ _ _ h4⟩
structure QueS (σ : Store) (qi : Nat) (rv wv : AVal) (rd : List Nm) (wt : List (Nm × List Nm)) : Prop where
 obj : σ[qi]? = some (.cells [rv,wv])
 rdy : ∃ es,Own σ 3 rv es ∧ GoalRow σ es rd
 wai : ∃ es,Own σ 4 wv es ∧ WaitRow σ es wt
theorem QueS.move {σ σ' : Store} {qi : Nat} {rv wv : AVal} {rd : List Nm} {wt : List (Nm × List Nm)} (h : QueS σ qi rv wv rd wt) {M : Nat → Prop} (k : Keeps M σ σ') (w : Vw σ σ') (h1 : ¬ M qi) (h2 : ∀ i,rv.sid = some i → ¬ M i) (h3 : ∀ i,wv.sid = some i → ¬ M i) : QueS σ' qi rv wv rd wt := by
 obtain ⟨o,⟨es,a1,a2⟩,⟨fs,b1,b2⟩⟩ := h
 exact ⟨k.get o h1,⟨es,a1.keeps k h2,a2.vw w⟩,⟨fs,b1.keeps k h3,b2.vw w⟩⟩
theorem QueS.grow {σ σ' : Store} {qi : Nat} {rv wv : AVal} {rd : List Nm} {wt : List (Nm × List Nm)} (h : QueS σ qi rv wv rd wt) (g : Grows σ σ') : QueS σ' qi rv wv rd wt := h.move g (Vw.grow g) (fun h => h) (fun _ _ h => h) (fun _ _ h => h)
def QueM (σ : Store) (qi : Nat) (rv wv : AVal) (i : Nat) : Prop := i = qi ∨ rv.sid = some i ∨ wv.sid = some i
section
variable (d : Nat) (σ : Store)
theorem qcopied_ok (v : Nm) (u : AVal) (t : List Cel) (hu : SlOf σ 5 u (CC t)) (ht : t.length < 2 ^ 30) : Called CU.cfg d 25 [.agg (bdC v u)] σ fun r σ' => Grows σ σ' ∧ ∃ x,r = bdV v x ∧ SlOf σ' 5 x (CC t) := by
 refine called_of (fn := CU.a25) rfl (Nat.le_of_ble_eq_true rfl) ?_
 simp only [CU.a25, CU.o]
 simp -dsimp only [↓WPd,↓Zm,↓Zn,WPu,Za,Zb,Zc,Zd,Ze,Zf,Zg,Zh,Nat.reduceEqDiff,Nat.reduceLT,Zi,Zj,Zk,Zl,Nat.reduceBEq,WPm,cells_agg,bdV_one v hu]
 have o1 : (σ ++ [AObj.cells (bdC v u)] ++ [AObj.cells [.int .i64 0,.int .i64 0,.nilslice]])[σ.length]? = some (.cells (bdC v u)) := by simp
 have o2 : (σ ++ [AObj.cells (bdC v u)] ++ [AObj.cells [.int .i64 0,.int .i64 0,.nilslice]])[(σ ++ [AObj.cells (bdC v u)]).length]? = some (.cells [.int .i64 0,.int .i64 0,.nilslice]) := by simp
 have g1 : Grows σ (σ ++ [AObj.cells (bdC v u)] ++ [AObj.cells [.int .i64 0,.int .i64 0,.nilslice]]) := (Grows.app _ _).trans (Grows.app _ _)
 have hi : σ.length < (σ ++ [AObj.cells (bdC v u)]).length := by simp
 generalize (σ ++ [AObj.cells (bdC v u)]).length = k2 at o2 hi
 generalize σ ++ [AObj.cells (bdC v u)] ++ [AObj.cells [.int .i64 0,.int .i64 0,.nilslice]] = σ1 at o1 o2 g1
 generalize hk1 : σ.length = k1 at o1 hi
 have u2 : (bdC v u)[2]? = some u := rfl
 have nm : ∀ {σ' : Store},σ'[k1]? = some (.cells (bdC v u)) → loadV σ' 2 true (.ptr k1 0) = some (nmV v) := fun {σ'} ho => loadN_at (q := .ptr k1 0) (cs := bdC v u) (off := 0) (by simp only [behind,ho]) (by simp [bdC])
 refine drawnP_of rfl ?_
 simp -dsimp only [↓WPd,↓Zm,↓Zn,WPu,Za,Zb,Zc,Zd,Ze,Zf,Zg,Zh,Nat.reduceEqDiff,Nat.reduceLT,Zi,Zj,Zk,Zl,Nat.reduceBEq,↓WPed,WPeu,Nat.reduceAdd,and_self,faddr_ptr,Nat.add_zero,Nat.zero_add,nm o1,load_cells o1,u2]
 refine calledW_of (cclone_ok d σ1 u t ht (hu.grow g1)) ?_
 rintro x σ2 ⟨g2,ox,fx,nx⟩
 have sv := storeN_cells (g2.get o2) (n := 3) (cs' := bdC v x) rfl rfl (bdV_one v ox.sl)
 have k3 : Keeps (fun i => i = k2) σ2 (σ2.set k2 (.cells (bdC v x))) := Keeps.set _ _ _
 have ld := loadN_cells (get_set (g2.get o2) (o' := .cells (bdC v x))) (n := 3) rfl
 simp -dsimp only [↓WPd,↓Zm,↓Zn,WPu,Za,Zb,Zc,Zd,Ze,Zf,Zg,Zh,Nat.reduceEqDiff,Nat.reduceLT,Zi,Zj,Zk,Zl,Nat.reduceBEq,↓WPed,WPeu,Nat.reduceAdd,and_self,faddr_ptr,Nat.add_zero,Nat.zero_add,nm o1,nm (g2.get o1),load_cells o1,u2,bd_build v x ox.one,sv,ld]
 exact ⟨Keeps.trans (g1.trans g2) k3 fun i hi' e => by omega,x,rfl,ox.sl.keeps k3 fun i hi' e => ox.noCell (g2.get o2) (e ▸ hi')⟩
theorem qall_ok (l : AVal) (es : List AVal) (ns : List Nm) (hl : SlOf σ 3 l es) (hr : GoalRow σ es ns) (hn : ns.length < 2 ^ 30) : Called CU.cfg d 27 [l] σ fun r σ' => Grows σ σ' ∧ ∃ es',Own σ' 3 r es' ∧ GoalRow σ' es' ns ∧ Fresh σ.length r := by
 refine called_of (fn := CU.a27) rfl (Nat.le_of_ble_eq_true rfl) ?_
 simp only [CU.a27, CU.o]
 have hen := hr.len
 have ll := hl.len
 rw [hen] at ll
 simp -dsimp only [↓WPd,↓Zm,↓Zn,WPu,Za,Zb,Zc,Zd,Ze,Zf,Zg,Zh,Nat.reduceEqDiff,Nat.reduceLT,Zi,Zj,Zk,Zl,Nat.reduceBEq,WPm,ll]
 refine loop_rule2 (fun m xs σ' => ∃ (k : Nat) (o : AVal) (os : List AVal),k ≤ ns.length ∧ m = ns.length - k ∧ xs = [o,l,.int .i64 ns.length,.int .i64 (k : Nat)] ∧ Grows σ σ' ∧ Own σ' 3 o os ∧ GoalRow σ' os (ns.take k) ∧ Fresh σ.length o)
  [3] (fun e xs σ' => e = .exit 0 ∧ ∃ (o : AVal) (os : List AVal),xs = [o] ∧ Grows σ σ' ∧ Own σ' 3 o os ∧ GoalRow σ' os ns ∧ Fresh σ.length o) ns.length ⟨0,.nilslice,[],Nat.zero_le _,rfl,?_,Keeps.refl _ _,Own.nil _ _,.nil,Fresh.nil _⟩ ?_ ?_
 ·simp -dsimp only [↓WPd,↓Zm,↓Zn,WPu,Za,Zb,Zc,Zd,Ze,Zf,Zg,Zh,Nat.reduceEqDiff,Nat.reduceLT,Zi,Zj,Zk,Zl,Nat.reduceBEq]; rfl
 ·rintro m xs σ' ⟨k,o,os,hk,rfl,rfl,g,ol,hg,fo⟩
  simp -dsimp only [↓WPd,↓Zm,↓Zn,WPu,Za,Zb,Zc,Zd,Ze,Zf,Zg,Zh,Nat.reduceEqDiff,Nat.reduceLT,Zi,Zj,Zk,Zl,Nat.reduceBEq,WPm]
  refine condP_dec (fun hc => ?_) (fun hc => ?_)
  ·have hk' : k < ns.length := by omega
   have hke : k < es.length := by omega
   have hl' := hl.grow g
   have hr' := hr.vw (Vw.grow g)
   obtain ⟨e,ee,u,t,e1,e2,e3⟩ := hr'.get hk'
   have hee : es[k] = bdV ns[k] u := by rw [List.getElem?_eq_getElem hke] at ee; rw [Option.some.inj ee,e1]
   have ia := hl'.iaddr hke .i64
   have ld := hl'.loadA hke (cs := bdC ns[k] u) hee
   have z3 : storeV (σ' ++ [.cells [.int .i64 0,.int .i64 0,.nilslice]]) 3 (.ptr σ'.length 0) (.agg (bdC ns[k] u)) = some (σ' ++ [.cells (bdC ns[k] u)]) := by
    have h : (σ' ++ [AObj.cells [.int .i64 0,.int .i64 0,.nilslice]])[σ'.length]? = some (.cells [.int .i64 0,.int .i64 0,.nilslice]) := by simp
    rw [storeN_cells (cs' := bdC ns[k] u) (n := 3) h rfl rfl (bdV_one _ e2),set_last]
   have ld3 : loadV σ' 3 true (addrOf 3 l k) = some (.agg (bdC ns[k] u)) := ld
   simp -dsimp only [↓WPd,↓Zm,↓Zn,WPu,Za,Zb,Zc,Zd,Ze,Zf,Zg,Zh,Nat.reduceEqDiff,Nat.reduceLT,Zi,Zj,Zk,Zl,Nat.reduceBEq,WPm,ia,ld3,z3]
   have o3 : (σ' ++ [AObj.cells (bdC ns[k] u)])[σ'.length]? = some (.cells (bdC ns[k] u)) := by simp
   have g3 : Grows σ' (σ' ++ [AObj.cells (bdC ns[k] u)]) := Grows.app _ _
   generalize σ' ++ [AObj.cells (bdC ns[k] u)] = σ3 at o3 g3
   simp -dsimp only [↓WPd,↓Zm,↓Zn,WPu,Za,Zb,Zc,Zd,Ze,Zf,Zg,Zh,Nat.reduceEqDiff,Nat.reduceLT,Zi,Zj,Zk,Zl,Nat.reduceBEq,WPm,loadN_cells o3 (n := 3) rfl]
   refine calledW_of (qcopied_ok d σ3 ns[k] u t (e2.grow g3) e3) ?_
   rintro r σ4 ⟨g4,x,rfl,hx⟩
   have hol := ol.sl.len
   have hos := hg.len
   rw [List.length_take,Nat.min_eq_left (by omega)] at hos
   have ol4 := (ol.grow g3).grow g4
   obtain ⟨o',σ5,b1,b2,b3,b4,-⟩ := ol4.append [bdV ns[k] x] 40 (by simp; omega)
   have fl := elems_fs 3 (AVal.tagL [bdV ns[k] x]) true σ4 [bdV ns[k] x]
   have bl := bd_lit ns[k] x hx.one
   have bl' : fillL 3 true (List.replicate 1 (zel [AVal.int IntKind.i64 0,AVal.int IntKind.i64 0,AVal.nilslice] true)) [(0,bdV ns[k] x)] = some [bdV ns[k] x] := bl
   simp -dsimp only [↓WPd,↓Zm,↓Zn,WPu,Za,Zb,Zc,Zd,Ze,Zf,Zg,Zh,Nat.reduceEqDiff,Nat.reduceLT,Zi,Zj,Zk,Zl,Nat.reduceBEq,WPm,bl',fl,b1]
   have w5 : Vw σ' σ5 := (Vw.grow (g3.trans g4)).trans (Vw.app ol4 b1)
   have ht : ns.take (k + 1) = ns.take k ++ [ns[k]] := List.take_succ_eq_append_getElem hk'
   have gl := g.1
   have g3l := g3.1
   have g4l := g4.1
   refine ⟨ns.length - (k + 1),by omega,k + 1,o',os ++ [bdV ns[k] x],by omega,rfl,by rw [wrap_i64 (by omega) (by omega),Int.natCast_add,Int.natCast_one],Keeps.trans ((g.trans g3).trans g4) b3 fun i hi e => by have := fo i e; omega,b2,?_,fun i hi => ?_⟩
   ·rw [ht]
    exact Two.append (hg.vw w5) (Two.one ⟨x,t,rfl,(Vw.app ol4 b1) _ _ _ hx,e3⟩)
   ·rcases b4 i hi with e | e
    ·exact fo i e
    ·omega
  ·have : k = ns.length := by omega
   subst this
   rw [List.take_length] at hg
   simp -dsimp only [↓WPd,↓Zm,↓Zn,WPu,Za,Zb,Zc,Zd,Ze,Zf,Zg,Zh,Nat.reduceEqDiff,Nat.reduceLT,Zi,Zj,Zk,Zl,Nat.reduceBEq]
   exact ⟨o,os,rfl,g,ol,hg,fo⟩
 ·rintro e σ' env ⟨rfl,o,os,hv,g,ol,hg,fo⟩
  simp only [List.map_cons,List.map_nil,List.cons.injEq,and_true] at hv
  simp -dsimp only [↓WPd,↓Zm,↓Zn,WPu,Za,Zb,Zc,Zd,Ze,Zf,Zg,Zh,Nat.reduceEqDiff,Nat.reduceLT,Zi,Zj,Zk,Zl,Nat.reduceBEq,hv]
  exact ⟨g,os,ol,hg,fo⟩
theorem qnew_ok : Called CU.cfg d 5 [] σ fun r σ' => ∃ qi,r = .ptr qi 0 ∧ QueS σ' qi .nilslice .nilslice [] [] ∧ Grows σ σ' := by
 refine called_of (fn := CU.a5) rfl (Nat.le_of_ble_eq_true rfl) ?_
 simp only [CU.a5, CU.o]
 have e1 : fillA [AVal.nilslice,.nilslice] [] = some [AVal.nilslice,.nilslice] := rfl
 have e2 : [AVal.nilslice,.nilslice].all AVal.one = true := rfl
 simp -dsimp only [↓WPd,↓Zm,↓Zn,WPu,Za,Zb,Zc,Zd,Ze,Zf,Zg,Zh,Nat.reduceEqDiff,Nat.reduceLT,Zi,Zj,Zk,Zl,Nat.reduceBEq,WPm,e1,e2,cells_agg]
 exact ⟨_,rfl,⟨by simp,⟨[],Own.nil _ _,.nil⟩,⟨[],Own.nil _ _,.nil⟩⟩,Grows.app _ _⟩
theorem qput_ok (qi : Nat) (rv wv l : AVal) (rd : List Nm) (wt : List (Nm × List Nm)) (h : QueS σ qi rv wv rd wt) (es : List AVal) (ns : List Nm) (hl : SlOf σ 3 l es) (hr : GoalRow σ es ns) (hn : rd.length + ns.length < 2 ^ 30) :
  Called CU.cfg d 8 [.ptr qi 0,l] σ fun r σ' => r = .int .i64 0 ∧ ∃ rv',QueS σ' qi rv' wv (rd ++ ns) wt ∧ Keeps (QueM σ qi rv wv) σ σ' ∧ Vw σ σ' := by
 refine called_of (fn := CU.a8) rfl (Nat.le_of_ble_eq_true rfl) ?_
 simp only [CU.a8, CU.o]
 have e0 : ∀ a b : AVal,([a,b] : List AVal)[0]? = some a := fun _ _ => rfl
 simp -dsimp only [↓WPd,↓Zm,↓Zn,WPu,Za,Zb,Zc,Zd,Ze,Zf,Zg,Zh,Nat.reduceEqDiff,Nat.reduceLT,Zi,Zj,Zk,Zl,Nat.reduceBEq,WPm,isnil_ptr]
 refine drawnP_of rfl ?_
 simp -dsimp only [↓WPd,↓Zm,↓Zn,WPu,Za,Zb,Zc,Zd,Ze,Zf,Zg,Zh,Nat.reduceEqDiff,Nat.reduceLT,Zi,Zj,Zk,Zl,Nat.reduceBEq,↓WPed,WPeu,Nat.reduceAdd,and_self,isnil_ptr,faddr_ptr,Nat.add_zero,Nat.zero_add,load_cells h.obj,e0]
 refine calledW_of (qall_ok d σ l es ns hl hr (by omega)) ?_
 rintro r σ1 ⟨g1,os,oo,go,fo⟩
 obtain ⟨o1,⟨es1,a1,a2⟩,⟨fs1,b1,b2⟩⟩ := h.grow g1
 have l1 := a2.len
 have l2 := go.len
 obtain ⟨rv',σ2,c1,c2,c3,c4,-⟩ := a1.append os 40 (by omega)
 have o2 := c3.get o1 (fun e => a1.noCell o1 e)
 have st := store_cells o2 (off := 0) (by simp) (v := rv') c2.sl.one
 simp only [List.set_cons_zero] at st
 simp -dsimp only [↓WPd,↓Zm,↓Zn,WPu,Za,Zb,Zc,Zd,Ze,Zf,Zg,Zh,Nat.reduceEqDiff,Nat.reduceLT,Zi,Zj,Zk,Zl,Nat.reduceBEq,↓WPed,WPeu,Nat.reduceAdd,and_self,isnil_ptr,faddr_ptr,Nat.add_zero,Nat.zero_add,load_cells h.obj,load_cells o1,e0,oo.sl.els,c1,st]
 have k3 : Keeps (fun i => i = qi) σ2 (σ2.set qi (.cells [rv',wv])) := Keeps.set _ _ _
 have o3 : (σ2.set qi (.cells [rv',wv]))[qi]? = some (.cells [rv',wv]) := get_set o2
 have w3 : Vw σ2 (σ2.set qi (.cells [rv',wv])) := Vw.cell o2 k3
 generalize σ2.set qi (.cells [rv',wv]) = σ3 at k3 o3 w3
 have w2 : Vw σ1 σ2 := Vw.app a1 c1
 have w13 := w2.trans w3
 have b13 : Own σ3 4 wv fs1 := (b1.keeps c3 fun i hi e => a1.sizes b1 (by decide) e hi).keeps k3 fun i hi e => by
  subst e
  exact (b1.keeps c3 fun i hi e => a1.sizes b1 (by decide) e hi).noCell o2 hi
 refine ⟨rv',⟨o3,⟨es1 ++ os,c2.keeps k3 fun i hi e => c2.noCell o2 (e ▸ hi),Two.append (a2.vw w13) (go.vw w13)⟩,⟨fs1,b13,b2.vw w13⟩⟩,Keeps.trans (Keeps.trans g1.any c3 fun i hi e => .inr (.inl e)) k3 fun i hi e => .inl e,(Vw.grow g1).trans w13⟩
end
theorem waC_one {u x : AVal} (v : Nm) (h1 : u.one = true) (h2 : x.one = true) : (waC v u x).all AVal.one = true := by
 simp only [waC,List.all_cons,List.all_nil,h1,h2]; rfl
theorem wa_build (v : Nm) (x : AVal) (h : x.one = true) : fillA [AVal.int IntKind.i64 0,AVal.int IntKind.i64 0,AVal.nilslice,AVal.nilslice] [(0,3,bdV v x)] = some (waC v x .nilslice) := by
 have h1 : [AVal.int .i64 v.1,.int .i64 v.2,x].all AVal.one = true := by simp only [List.all_cons,List.all_nil,h]; rfl
 simp only [fillA,bdV,cells_agg,h1]
 rfl
theorem wa_lit (v : Nm) (u x : AVal) (h1 : u.one = true) (h2 : x.one = true) : fillL 4 true (List.replicate 1 (zel [AVal.int IntKind.i64 0,AVal.int IntKind.i64 0,AVal.nilslice,AVal.nilslice] true)) [(0,.agg (waC v u x))] = some [.agg (waC v u x)] := by
 have := waC_one v h1 h2
 simp only [fillL,cells_agg,this]
 rfl
section
variable (d : Nat) (σ : Store)
set_option maxHeartbeats 2000000 in
theorem qwait_ok (qi : Nat) (rv wv wl u : AVal) (v : Nm) (t : List Cel) (ws : List Nm) (rd : List Nm) (wt : List (Nm × List Nm)) (h : QueS σ qi rv wv rd wt) (hu : SlOf σ 5 u (CC t)) (ht : t.length < 2 ^ 30) (hw : ∀ σ : Store,SlOf σ 2 wl (NN ws)) (hwn : ws ≠ []) (hwl : ws.length < 2 ^ 30) (hn : wt.length < 2 ^ 20) :
  Called CU.cfg d 7 [.ptr qi 0,.agg (bdC v u),wl] σ fun r σ' => r = .int .i64 0 ∧ ∃ wv' p2,QueS σ' qi rv wv' rd (wt ++ [(v,p2)]) ∧ p2 ≠ [] ∧ (∀ x ∈ p2,x ∈ ws) ∧ p2.length ≤ ws.length ∧ Keeps (QueM σ qi rv wv) σ σ' ∧ Vw σ σ' := by
 refine called_of (fn := CU.a7) rfl (Nat.le_of_ble_eq_true rfl) ?_
 simp only [CU.a7, CU.o]
 have lw : lenSV wl = some ws.length := by rw [(hw σ).len]; simp
 have z0 : (((ws.length : Nat) : Int) == 0) = false := by
  have := List.length_pos_iff.2 hwn
  simp; omega
 simp -dsimp only [↓WPd,↓Zm,↓Zn,WPu,Za,Zb,Zc,Zd,Ze,Zf,Zg,Zh,Nat.reduceEqDiff,Nat.reduceLT,Zi,Zj,Zk,Zl,Nat.reduceBEq,WPm,cells_agg,bdV_one v hu,isnil_ptr,lw,z0]
 have o1 : (σ ++ [AObj.cells (bdC v u)])[σ.length]? = some (.cells (bdC v u)) := by simp
 have g1 : Grows σ (σ ++ [AObj.cells (bdC v u)]) := Grows.app _ _
 generalize σ ++ [AObj.cells (bdC v u)] = σ1 at o1 g1
 simp -dsimp only [↓WPd,↓Zm,↓Zn,WPu,Za,Zb,Zc,Zd,Ze,Zf,Zg,Zh,Nat.reduceEqDiff,Nat.reduceLT,Zi,Zj,Zk,Zl,Nat.reduceBEq,WPm,loadN_cells o1 (n := 3) rfl]
 refine calledW_of (qcopied_ok d σ1 v u t (hu.grow g1) ht) ?_
 rintro r σ2 ⟨g2,x,rfl,hx⟩
 have z4 : storeV (σ2 ++ [.cells [.int .i64 0,.int .i64 0,.nilslice,.nilslice]]) 4 (.ptr σ2.length 0) (.agg (waC v x .nilslice)) = some (σ2 ++ [.cells (waC v x .nilslice)]) := by
  have h : (σ2 ++ [AObj.cells [.int .i64 0,.int .i64 0,.nilslice,.nilslice]])[σ2.length]? = some (.cells [.int .i64 0,.int .i64 0,.nilslice,.nilslice]) := by simp
  rw [storeN_cells (cs' := waC v x .nilslice) (n := 4) h rfl rfl (waC_one v hx.one rfl),set_last]
 simp -dsimp only [↓WPd,↓Zm,↓Zn,WPu,Za,Zb,Zc,Zd,Ze,Zf,Zg,Zh,Nat.reduceEqDiff,Nat.reduceLT,Zi,Zj,Zk,Zl,Nat.reduceBEq,WPm,wa_build v x hx.one,z4,lw]
 have o3 : (σ2 ++ [AObj.cells (waC v x .nilslice)])[σ2.length]? = some (.cells (waC v x .nilslice)) := by simp
 have g3 : Grows σ2 (σ2 ++ [AObj.cells (waC v x .nilslice)]) := Grows.app _ _
 have l3 : σ2.length < (σ2 ++ [AObj.cells (waC v x .nilslice)]).length := by simp
 generalize σ2 ++ [AObj.cells (waC v x .nilslice)] = σ3 at o3 g3 l3
 generalize hi7 : σ2.length = i7 at o3 l3
 have g03 := (g1.trans g2).trans g3
 have h3 := h.grow g03
 have l12 := (g1.trans g2).1
 have hx3 := hx.grow g3
 refine loop_rule2 (fun m xs σ' => ∃ (k : Nat) (y : AVal) (acc : List Nm),k ≤ ws.length ∧ m = ws.length - k ∧ xs = [.ptr qi 0,.ptr i7 0,wl,.int .i64 ws.length,.int .i64 (k : Nat)] ∧ σ'[i7]? = some (.cells (waC v x y)) ∧ Own σ' 2 y (NN acc) ∧ Fresh σ3.length y ∧ (0 < k → acc ≠ []) ∧ (∀ z ∈ acc,z ∈ ws) ∧ acc.length ≤ k ∧ Keeps (fun i => i = i7) σ3 σ' ∧ Vw σ3 σ')
  [0,7] (fun e xs σ' => e = .exit 1 ∧ ∃ (y : AVal) (acc : List Nm),xs = [.ptr qi 0,.ptr i7 0] ∧ σ'[i7]? = some (.cells (waC v x y)) ∧ Own σ' 2 y (NN acc) ∧ Fresh σ3.length y ∧ acc ≠ [] ∧ (∀ z ∈ acc,z ∈ ws) ∧ acc.length ≤ ws.length ∧ Keeps (fun i => i = i7) σ3 σ' ∧ Vw σ3 σ') ws.length
  ⟨0,.nilslice,[],Nat.zero_le _,rfl,?_,o3,Own.nil _ _,Fresh.nil _,(fun h => by omega),(fun z h => by cases h),Nat.le_refl _,Keeps.refl _ _,Vw.refl _⟩ ?_ ?_
 ·simp -dsimp only [↓WPd,↓Zm,↓Zn,WPu,Za,Zb,Zc,Zd,Ze,Zf,Zg,Zh,Nat.reduceEqDiff,Nat.reduceLT,Zi,Zj,Zk,Zl,Nat.reduceBEq]; rfl
 ·rintro m xs σ' ⟨k,y,acc,hk,rfl,rfl,o',oy,fy,hne,hin,hal,K,V⟩
  simp -dsimp only [↓WPd,↓Zm,↓Zn,WPu,Za,Zb,Zc,Zd,Ze,Zf,Zg,Zh,Nat.reduceEqDiff,Nat.reduceLT,Zi,Zj,Zk,Zl,Nat.reduceBEq]
  refine condP_dec (fun hc => ?_) (fun hc => ?_)
  ·have hk' : k < ws.length := by omega
   have hke : k < (NN ws).length := by simpa using hk'
   have ia := (hw σ').iaddr hke .i64
   have hb := ((hw σ').addr hke .i64).2
   have hb' : behind σ' (addrOf 2 wl k) = some (nmC ws[k],0) := by rw [hb]; simp only [List.getElem_map,nm_cells]
   have ld : loadV σ' 2 true (addrOf 2 wl k) = some (nmV ws[k]) := loadN_at hb' (by simp [nmC])
   have ho : (σ' ++ [AObj.cells (nmC ws[k])])[σ'.length]? = some (.cells (nmC ws[k])) := by simp
   have g4 : Grows σ' (σ' ++ [AObj.cells (nmC ws[k])]) := Grows.app _ _
   have c3 : ∀ y : AVal,(waC v x y)[3]? = some y := fun _ => rfl
   simp -dsimp only [↓WPd,↓Zm,↓Zn,WPu,Za,Zb,Zc,Zd,Ze,Zf,Zg,Zh,Nat.reduceEqDiff,Nat.reduceLT,Zi,Zj,Zk,Zl,Nat.reduceBEq,WPm,ia,ld,nm_putB]
   generalize σ' ++ [AObj.cells (nmC ws[k])] = σ4 at ho g4
   have o4 := g4.get o'
   simp -dsimp only [↓WPd,↓Zm,↓Zn,WPu,Za,Zb,Zc,Zd,Ze,Zf,Zg,Zh,Nat.reduceEqDiff,Nat.reduceLT,Zi,Zj,Zk,Zl,Nat.reduceBEq,WPm,faddr_ptr,Nat.zero_add,Nat.add_zero,load_cells o4,c3,load_nm ho]
   refine calledW_of (ncontains_ok d σ4 y acc ws[k] (by omega) (oy.grow g4).sl) ?_
   rintro r σ5 ⟨rfl,g5⟩
   have o5 := g5.get o4
   have ho5 := g5.get ho
   have oy5 := (oy.grow g4).grow g5
   have g45 := g4.trans g5
   have K5 : Keeps (fun i => i = i7) σ3 σ5 := Keeps.trans K g45 fun i hi e => e.elim
   have V5 := V.trans (Vw.grow g45)
   cases hcn : acc.contains ws[k] with
   | true =>
    simp -dsimp only [↓WPd,↓Zm,↓Zn,WPu,Za,Zb,Zc,Zd,Ze,Zf,Zg,Zh,Nat.reduceEqDiff,Nat.reduceLT,Zi,Zj,Zk,Zl,Nat.reduceBEq,WPm]
    refine ⟨ws.length - (k + 1),by omega,k + 1,y,acc,by omega,rfl,by rw [wrap_i64 (by omega) (by omega),Int.natCast_add,Int.natCast_one],o5,oy5,fy,fun _ e => ?_,hin,by omega,K5,V5⟩
    rw [e] at hcn; cases hcn
   | false =>
    have lit : fillL 2 true (List.replicate 1 (zel [AVal.int IntKind.i64 0,AVal.int IntKind.i64 0] true)) [(0,nmV ws[k])] = some [nmV ws[k]] := rfl
    have fl := elems_fs 2 (AVal.tagL [nmV ws[k]]) true σ5 [nmV ws[k]]
    obtain ⟨y',σ6,a1,a2,a3,a4,-⟩ := oy5.append [nmV ws[k]] 16 (by rw [List.length_map]; simp; omega)
    have o6 := a3.get o5 (fun e => oy5.noCell o5 e)
    have st := store_cells o6 (off := 3) (by simp [waC]) (v := y') a2.sl.one
    have est : (waC v x y).set 3 y' = waC v x y' := rfl
    rw [est] at st
    simp -dsimp only [↓WPd,↓Zm,↓Zn,WPu,Za,Zb,Zc,Zd,Ze,Zf,Zg,Zh,Nat.reduceEqDiff,Nat.reduceLT,Zi,Zj,Zk,Zl,Nat.reduceBEq,WPm,faddr_ptr,Nat.zero_add,Nat.add_zero,load_cells o5,c3,load_nm ho5,lit,fl,a1,st]
    have k7 : Keeps (fun i => i = i7) σ6 (σ6.set i7 (.cells (waC v x y'))) := Keeps.set _ _ _
    have o7 : (σ6.set i7 (.cells (waC v x y')))[i7]? = some (.cells (waC v x y')) := get_set o6
    have w7 : Vw σ6 (σ6.set i7 (.cells (waC v x y'))) := Vw.cell o6 k7
    generalize σ6.set i7 (.cells (waC v x y')) = σ7 at k7 o7 w7
    refine ⟨ws.length - (k + 1),by omega,k + 1,y',acc ++ [ws[k]],by omega,rfl,by rw [wrap_i64 (by omega) (by omega),Int.natCast_add,Int.natCast_one],o7,?_,fun i hi => ?_,fun _ e => by simp at e,fun z hz => ?_,by simp; omega,?_,(V5.trans (Vw.app oy5 a1)).trans w7⟩
    ·have := a2.keeps k7 fun i hi e => a2.noCell o6 (e ▸ hi)
     simpa using this
    ·rcases a4 i hi with e | e
     ·exact fy i e
     ·have := K5.1; omega
    ·rcases List.mem_append.1 hz with hz | hz
     ·exact hin z hz
     ·rw [List.mem_singleton.1 hz]; exact List.getElem_mem hk'
    ·exact Keeps.trans (Keeps.trans K5 a3 fun i hi e => by have := fy i e; omega) k7 fun i hi e => e
  ·have : k = ws.length := by omega
   have hpos := List.length_pos_iff.2 hwn
   simp -dsimp only [↓WPd,↓Zm,↓Zn,WPu,Za,Zb,Zc,Zd,Ze,Zf,Zg,Zh,Nat.reduceEqDiff,Nat.reduceLT,Zi,Zj,Zk,Zl,Nat.reduceBEq]
   exact ⟨y,acc,o',oy,fy,hne (by omega),hin,by omega,K,V⟩
 ·rintro e σ' env ⟨rfl,y,acc,hv,o',oy,fy,hne,hin,hacl,K,V⟩
  simp only [List.map_cons,List.map_nil,List.cons.injEq,and_true] at hv
  obtain ⟨v0,v7⟩ := hv
  have hqlt : qi < σ.length := (List.getElem?_eq_some_iff.1 h.obj).1
  have hrl : ∀ i,rv.sid = some i → i < σ.length := fun i hi => by obtain ⟨es,a1,-⟩ := h.rdy; exact a1.sl.lt hi
  have hwvl : ∀ i,wv.sid = some i → i < σ.length := fun i hi => by obtain ⟨es,a1,-⟩ := h.wai; exact a1.sl.lt hi
  have h' := h3.move K V (by omega) (fun i hi e => by have := hrl i hi; omega) (fun i hi e => by have := hwvl i hi; omega)
  obtain ⟨oq,⟨es,a1,a2⟩,⟨fs,b1,b2⟩⟩ := h'
  have e1 : ∀ a b : AVal,([a,b] : List AVal)[1]? = some b := fun _ _ => rfl
  have hx' := V _ _ _ hx3
  have lfs := b2.len
  obtain ⟨wv',σ5,c1,c2,c3,c4,-⟩ := b1.append [.agg (waC v x y)] 64 (by simp; omega)
  have oq5 := c3.get oq (fun e => b1.noCell oq e)
  have st := store_cells oq5 (off := 1) (by simp) (v := wv') c2.sl.one
  simp only [List.set_cons_zero,List.set_cons_succ] at st
  have fl := elems_fs 4 (AVal.tagL [.agg (waC v x y)]) true σ' [.agg (waC v x y)]
  have ld7 := loadN_cells o' (n := 4) rfl
  simp -dsimp only [↓WPd,↓Zm,↓Zn,WPu,Za,Zb,Zc,Zd,Ze,Zf,Zg,Zh,Nat.reduceEqDiff,Nat.reduceLT,Zi,Zj,Zk,Zl,Nat.reduceBEq,WPm,v0,v7,isnil_ptr,faddr_ptr,Nat.zero_add,Nat.add_zero,load_cells oq,e1,ld7,wa_lit v x y hx'.one oy.sl.one,fl,c1,st]
  have k6 : Keeps (fun i => i = qi) σ5 (σ5.set qi (.cells [rv,wv'])) := Keeps.set _ _ _
  have o6 : (σ5.set qi (.cells [rv,wv']))[qi]? = some (.cells [rv,wv']) := get_set oq5
  have w6 : Vw σ5 (σ5.set qi (.cells [rv,wv'])) := Vw.cell oq5 k6
  generalize σ5.set qi (.cells [rv,wv']) = σ6 at k6 o6 w6
  have w5 := (Vw.app b1 c1).trans w6
  have a13 := a1.keeps c3 fun i hi e => b1.sizes a1 (by decide) e hi
  refine ⟨wv',acc,⟨o6,⟨es,a13.keeps k6 fun i hi e => a13.noCell oq5 (e ▸ hi),a2.vw w5⟩,⟨fs ++ [.agg (waC v x y)],c2.keeps k6 fun i hi e => c2.noCell oq5 (e ▸ hi),Two.append (b2.vw w5) (Two.one ⟨x,y,t,rfl,w5 _ _ _ hx',ht,w5 _ _ _ oy.sl⟩)⟩⟩,hne,hin,hacl,?_,((Vw.grow g03).trans V).trans w5⟩
  have g03l := g03.1
  exact Keeps.trans (Keeps.trans (Keeps.trans g03.any K fun i hi e => by omega) c3 fun i hi e => .inr (.inr e)) k6 fun i hi e => .inl e
end
structure QueR (σ : Store) (qi : Nat) (rv : AVal) (rd : List Nm) : Prop where
 obj : σ[qi]? = some (.cells [rv,.nilslice])
 rdy : ∃ es,SlOf σ 3 rv es ∧ GoalRow σ es rd
theorem QueR.grow {σ σ' : Store} {qi : Nat} {rv : AVal} {rd : List Nm} (h : QueR σ qi rv rd) (g : Grows σ σ') : QueR σ' qi rv rd := by
 obtain ⟨o,es,a1,a2⟩ := h
 exact ⟨g.get o,es,a1.grow g,a2.vw (Vw.grow g)⟩
section
variable (d : Nat) (σ : Store)
theorem wake1_ok (k : Nat) (wl : AVal) (v : Nm) (ws : List Nm) (hk : σ[k]? = some (.cells [wl])) (hw : ∀ σ : Store,SlOf σ 2 wl (NN ws)) (hwl : ws.length < 2 ^ 30) : Called CU.cfg d 28 [nmV v,.ptr k 0] σ fun r σ' => r = .bool (ws.contains v) ∧ Grows σ σ' := by
 refine called_of (fn := CU.a28) rfl (Nat.le_of_ble_eq_true rfl) ?_
 simp only [CU.a28, CU.o]
 simp -dsimp only [↓WPd,↓Zm,↓Zn,WPu,Za,Zb,Zc,Zd,Ze,Zf,Zg,Zh,Nat.reduceEqDiff,Nat.reduceLT,Zi,Zj,Zk,Zl,Nat.reduceBEq,WPm,nm_cells,nm_one]
 have ho : (σ ++ [AObj.cells (nmC v)])[σ.length]? = some (.cells (nmC v)) := by simp
 have g0 : Grows σ (σ ++ [AObj.cells (nmC v)]) := Grows.app _ _
 generalize σ ++ [AObj.cells (nmC v)] = σ1 at ho g0
 have e0 : ([wl] : List AVal)[0]? = some wl := rfl
 simp -dsimp only [↓WPd,↓Zm,↓Zn,WPu,Za,Zb,Zc,Zd,Ze,Zf,Zg,Zh,Nat.reduceEqDiff,Nat.reduceLT,Zi,Zj,Zk,Zl,Nat.reduceBEq,WPm,load_cells (g0.get hk),e0,load_nm ho]
 refine calledW_of (ncontains_ok d σ1 wl ws v (by omega) (hw σ1)) ?_
 rintro r σ2 ⟨rfl,g2⟩
 simp -dsimp only [↓WPd,↓Zm,↓Zn,WPu,Za,Zb,Zc,Zd,Ze,Zf,Zg,Zh,Nat.reduceEqDiff,Nat.reduceLT,Zi,Zj,Zk,Zl,Nat.reduceBEq,WPm]
 exact g0.trans g2
set_option maxHeartbeats 2000000 in
theorem qwake_ok (qi : Nat) (rv wv wl : AVal) (ws : List Nm) (rd : List Nm) (wt : List (Nm × List Nm)) (h : QueS σ qi rv wv rd wt) (hw : ∀ σ : Store,SlOf σ 2 wl (NN ws)) (hwl : ws.length < 2 ^ 30) (hn : rd.length + wt.length < 2 ^ 20) (hp : ∀ p ∈ wt,p.2 ≠ [] ∧ (∀ x ∈ p.2,x ∈ ws) ∧ p.2.length < 2 ^ 30) :
  Called CU.cfg d 9 [.ptr qi 0,wl] σ fun _ σ' => (∃ rv',QueR σ' qi rv' (rd ++ wt.map (·.1))) ∧ Keeps (QueM σ qi rv wv) σ σ' ∧ Vw σ σ' := by
 refine called_of (fn := CU.a9) rfl (Nat.le_of_ble_eq_true rfl) ?_
 simp only [CU.a9, CU.o]
 have hc : wl.cells = [wl] := by have := (hw σ).one; cases wl <;> simp_all [AVal.one]
 have hc1 : [wl].all AVal.one = true := by simp only [List.all_cons,List.all_nil,(hw σ).one]; rfl
 have e1 : ∀ a b : AVal,([a,b] : List AVal)[1]? = some b := fun _ _ => rfl
 have e0 : ∀ a b : AVal,([a,b] : List AVal)[0]? = some a := fun _ _ => rfl
 simp -dsimp only [↓WPd,↓Zm,↓Zn,WPu,Za,Zb,Zc,Zd,Ze,Zf,Zg,Zh,Nat.reduceEqDiff,Nat.reduceLT,Zi,Zj,Zk,Zl,Nat.reduceBEq,WPm,hc,hc1,isnil_ptr]
 have ok : (σ ++ [AObj.cells [wl]])[σ.length]? = some (.cells [wl]) := by simp
 have g1 : Grows σ (σ ++ [AObj.cells [wl]]) := Grows.app _ _
 have lk : σ.length < (σ ++ [AObj.cells [wl]]).length := by simp
 generalize σ ++ [AObj.cells [wl]] = σ1 at ok g1 lk
 generalize hkk : σ.length = kk at ok lk
 have h1 := h.grow g1
 obtain ⟨oq,⟨es,a1,a2⟩,⟨fs,b1,b2⟩⟩ := h1
 have lfs := b2.len
 have lwv : lenSV wv = some wt.length := by rw [b1.sl.len,lfs]
 simp -dsimp only [↓WPd,↓Zm,↓Zn,WPu,Za,Zb,Zc,Zd,Ze,Zf,Zg,Zh,Nat.reduceEqDiff,Nat.reduceLT,Zi,Zj,Zk,Zl,Nat.reduceBEq,WPm,isnil_ptr,faddr_ptr,Nat.add_zero,Nat.zero_add,load_cells oq,e1,lwv]
 refine loop_rule2 (fun m xs σ' => ∃ (k : Nat) (o : AVal) (os : List AVal),k ≤ wt.length ∧ m = wt.length - k ∧ xs = [.ptr qi 0,.ptr kk 0,o,.nilslice,wv,.int .i64 wt.length,.int .i64 (k : Nat)] ∧ Grows σ1 σ' ∧ Own σ' 3 o os ∧ GoalRow σ' os ((wt.map (·.1)).take k) ∧ Fresh σ1.length o)
  [0,5,6] (fun e xs σ' => e = .exit 0 ∧ ∃ (o : AVal) (os : List AVal),xs = [.ptr qi 0,o,.nilslice] ∧ Grows σ1 σ' ∧ Own σ' 3 o os ∧ GoalRow σ' os (wt.map (·.1)) ∧ Fresh σ1.length o) wt.length ⟨0,.nilslice,[],Nat.zero_le _,rfl,?_,Keeps.refl _ _,Own.nil _ _,.nil,Fresh.nil _⟩ ?_ ?_
 ·simp -dsimp only [↓WPd,↓Zm,↓Zn,WPu,Za,Zb,Zc,Zd,Ze,Zf,Zg,Zh,Nat.reduceEqDiff,Nat.reduceLT,Zi,Zj,Zk,Zl,Nat.reduceBEq]; rfl
 ·rintro m xs σ' ⟨k,o,os,hk,rfl,rfl,g,ol,hg,fo⟩
  simp -dsimp only [↓WPd,↓Zm,↓Zn,WPu,Za,Zb,Zc,Zd,Ze,Zf,Zg,Zh,Nat.reduceEqDiff,Nat.reduceLT,Zi,Zj,Zk,Zl,Nat.reduceBEq,WPm]
  refine condP_dec (fun hc => ?_) (fun hc => ?_)
  ·have hk' : k < wt.length := by omega
   have hke : k < fs.length := by omega
   have b1' := b1.sl.grow g
   have b2' := b2.vw (Vw.grow g)
   obtain ⟨e,ee,u,x,t,f1,f2,f3,f4⟩ := b2'.get hk'
   have hee : fs[k] = .agg (waC wt[k].1 u x) := by rw [List.getElem?_eq_getElem hke] at ee; rw [Option.some.inj ee,f1]
   have ia := b1'.iaddr hke .i64
   have ld : loadV σ' 4 true (addrOf 4 wv k) = some (.agg (waC wt[k].1 u x)) := b1'.loadA hke (cs := waC wt[k].1 u x) hee
   have z4 : storeV (σ' ++ [.cells [.int .i64 0,.int .i64 0,.nilslice,.nilslice]]) 4 (.ptr σ'.length 0) (.agg (waC wt[k].1 u x)) = some (σ' ++ [.cells (waC wt[k].1 u x)]) := by
    have h : (σ' ++ [AObj.cells [.int .i64 0,.int .i64 0,.nilslice,.nilslice]])[σ'.length]? = some (.cells [.int .i64 0,.int .i64 0,.nilslice,.nilslice]) := by simp
    rw [storeN_cells (cs' := waC wt[k].1 u x) (n := 4) h rfl rfl (waC_one _ f2.one f4.one),set_last]
   simp -dsimp only [↓WPd,↓Zm,↓Zn,WPu,Za,Zb,Zc,Zd,Ze,Zf,Zg,Zh,Nat.reduceEqDiff,Nat.reduceLT,Zi,Zj,Zk,Zl,Nat.reduceBEq,WPm,ia,ld,z4]
   have o3 : (σ' ++ [AObj.cells (waC wt[k].1 u x)])[σ'.length]? = some (.cells (waC wt[k].1 u x)) := by simp
   have g3 : Grows σ' (σ' ++ [AObj.cells (waC wt[k].1 u x)]) := Grows.app _ _
   generalize σ' ++ [AObj.cells (waC wt[k].1 u x)] = σ3 at o3 g3
   have c3 : (waC wt[k].1 u x)[3]? = some x := rfl
   obtain ⟨p1,p2,p3⟩ := hp _ (List.getElem_mem hk')
   simp -dsimp only [↓WPd,↓Zm,↓Zn,WPu,Za,Zb,Zc,Zd,Ze,Zf,Zg,Zh,Nat.reduceEqDiff,Nat.reduceLT,Zi,Zj,Zk,Zl,Nat.reduceBEq,WPm,faddr_ptr,Nat.add_zero,Nat.zero_add,load_cells o3,c3]
   have ok3 := (g.trans g3).get ok
   refine calledW_of (ncf_ok d σ3 28 (.ptr kk 0) (fun v => ws.contains v) x wt[k].2 (by omega) (f4.grow g3) (fun v σ' g' => wake1_ok d σ' kk wl v ws (g'.get ok3) hw hwl)) ?_
   rintro r σ4 ⟨rfl,g4⟩
   have hany : wt[k].2.any (fun v => ws.contains v) = true := by
    obtain ⟨z,hz⟩ := List.exists_mem_of_ne_nil _ p1
    exact List.any_eq_true.2 ⟨z,hz,by simpa using p2 z hz⟩
   rw [hany]
   have o4 := g4.get o3
   have ld3 : loadV σ4 3 true (.ptr σ'.length 0) = some (bdV wt[k].1 u) := loadN_at (q := .ptr σ'.length 0) (cs := waC wt[k].1 u x) (off := 0) (by simp only [behind,o4]) (by simp [waC])
   have g14 := g3.trans g4
   have ol4 := ol.grow g14
   have hol := hg.len
   rw [List.length_take,List.length_map,Nat.min_eq_left (by omega)] at hol
   obtain ⟨o',σ5,c1,c2,c3',c4,-⟩ := ol4.append [bdV wt[k].1 u] 40 (by simp; omega)
   have fl := elems_fs 3 (AVal.tagL [bdV wt[k].1 u]) true σ4 [bdV wt[k].1 u]
   have bl' : fillL 3 true (List.replicate 1 (zel [AVal.int IntKind.i64 0,AVal.int IntKind.i64 0,AVal.nilslice] true)) [(0,bdV wt[k].1 u)] = some [bdV wt[k].1 u] := bd_lit wt[k].1 u f2.one
   simp -dsimp only [↓WPd,↓Zm,↓Zn,WPu,Za,Zb,Zc,Zd,Ze,Zf,Zg,Zh,Nat.reduceEqDiff,Nat.reduceLT,Zi,Zj,Zk,Zl,Nat.reduceBEq,WPm,faddr_ptr,Nat.add_zero,Nat.zero_add,ld3,bl',fl,c1]
   have w5 : Vw σ' σ5 := (Vw.grow g14).trans (Vw.app ol4 c1)
   have hkm : k < (wt.map (·.1)).length := by simpa using hk'
   have ht : (wt.map (·.1)).take (k + 1) = (wt.map (·.1)).take k ++ [wt[k].1] := by rw [List.take_succ_eq_append_getElem hkm]; simp
   have gl := g.1
   have g14l := g14.1
   refine ⟨wt.length - (k + 1),by omega,k + 1,o',os ++ [bdV wt[k].1 u],by omega,rfl,by rw [wrap_i64 (by omega) (by omega),Int.natCast_add,Int.natCast_one],Keeps.trans (g.trans g14) c3' fun i hi e => by have := fo i e; omega,c2,?_,fun i hi => ?_⟩
   ·rw [ht]
    exact Two.append (hg.vw w5) (Two.one ⟨u,t,rfl,w5 _ _ _ f2,f3⟩)
   ·rcases c4 i hi with e | e
    ·exact fo i e
    ·omega
  ·have : k = wt.length := by omega
   subst this
   rw [List.take_of_length_le (by simp)] at hg
   simp -dsimp only [↓WPd,↓Zm,↓Zn,WPu,Za,Zb,Zc,Zd,Ze,Zf,Zg,Zh,Nat.reduceEqDiff,Nat.reduceLT,Zi,Zj,Zk,Zl,Nat.reduceBEq]
   exact ⟨o,os,rfl,g,ol,hg,fo⟩
 ·rintro e σ' env ⟨rfl,o,os,hv,g,ol,hg,fo⟩
  simp only [List.map_cons,List.map_nil,List.cons.injEq,and_true] at hv
  obtain ⟨v0,v5,v6⟩ := hv
  have oq' := g.get oq
  have st1 := store_cells oq' (off := 1) (by simp) (v := .nilslice) rfl
  simp only [List.set_cons_zero,List.set_cons_succ] at st1
  have k2 : Keeps (fun i => i = qi) σ' (σ'.set qi (.cells [rv,.nilslice])) := Keeps.set _ _ _
  have o2 : (σ'.set qi (.cells [rv,.nilslice]))[qi]? = some (.cells [rv,.nilslice]) := get_set oq'
  have w2 : Vw σ' (σ'.set qi (.cells [rv,.nilslice])) := Vw.cell oq' k2
  have ol2 := ol.keeps k2 fun i hi e => ol.noCell oq' (e ▸ hi)
  have a1' := (a1.grow g).keeps k2 fun i hi e => (a1.grow g).noCell oq' (e ▸ hi)
  simp -dsimp only [↓WPd,↓Zm,↓Zn,WPu,Za,Zb,Zc,Zd,Ze,Zf,Zg,Zh,Nat.reduceEqDiff,Nat.reduceLT,Zi,Zj,Zk,Zl,Nat.reduceBEq,WPm,v0,v5,v6,isnil_ptr,faddr_ptr,Nat.add_zero,Nat.zero_add,st1]
  generalize σ'.set qi (.cells [rv,.nilslice]) = σ2 at k2 o2 w2 ol2 a1'
  have la := a2.len
  have lo := hg.len
  rw [List.length_map] at lo
  obtain ⟨rv',σ3,c1,c2,c3,c4,-⟩ := a1'.append os 40 (by omega)
  have o3 := c3.get o2 (fun e => a1'.noCell o2 e)
  have st := store_cells o3 (off := 0) (by simp) (v := rv') c2.sl.one
  simp only [List.set_cons_zero] at st
  have w3 := Vw.app a1' c1
  simp -dsimp only [↓WPd,↓Zm,↓Zn,WPu,Za,Zb,Zc,Zd,Ze,Zf,Zg,Zh,Nat.reduceEqDiff,Nat.reduceLT,Zi,Zj,Zk,Zl,Nat.reduceBEq,WPm,v0,v5,isnil_ptr,faddr_ptr,Nat.add_zero,Nat.zero_add,load_cells o2,e0,ol2.sl.els,c1,st]
  have k4 : Keeps (fun i => i = qi) σ3 (σ3.set qi (.cells [rv',.nilslice])) := Keeps.set _ _ _
  have o4 : (σ3.set qi (.cells [rv',.nilslice]))[qi]? = some (.cells [rv',.nilslice]) := get_set o3
  have w4 : Vw σ3 (σ3.set qi (.cells [rv',.nilslice])) := Vw.cell o3 k4
  generalize σ3.set qi (.cells [rv',.nilslice]) = σ4 at k4 o4 w4
  have w14 := (w2.trans w3).trans w4
  have hg4 := hg.vw w14
  refine calledW_of (qall_ok d σ4 o os (wt.map (·.1)) (w14 _ _ _ ol.sl) hg4 (by simp; omega)) ?_
  rintro r σ5 ⟨g5,-⟩
  simp -dsimp only [↓WPd,↓Zm,↓Zn,WPu,Za,Zb,Zc,Zd,Ze,Zf,Zg,Zh,Nat.reduceEqDiff,Nat.reduceLT,Zi,Zj,Zk,Zl,Nat.reduceBEq,WPm]
  have V := ((Vw.grow g).trans w14).trans (Vw.grow g5)
  refine ⟨⟨rv',g5.get o4,es ++ os,(w4 _ _ _ c2.sl).grow g5,Two.append (a2.vw V) (hg4.vw (Vw.grow g5))⟩,?_,(Vw.grow g1).trans V⟩
  exact Keeps.trans (Keeps.trans (Keeps.trans (Keeps.trans (g1.trans g).any k2 fun i hi e => .inl e) c3 fun i hi e => .inr (.inl e)) k4 fun i hi e => .inl e) g5 fun i hi e => e.elim
theorem qlen_ok (qi : Nat) (rv : AVal) (rd : List Nm) (h : QueR σ qi rv rd) : Called CU.cfg d 12 [.ptr qi 0] σ fun r σ' => r = .tuple [.int .i64 rd.length,.int .i64 0] ∧ σ' = σ := by
 refine called_of (fn := CU.a12) rfl (Nat.le_of_ble_eq_true rfl) ?_
 simp only [CU.a12, CU.o]
 obtain ⟨o,es,a1,a2⟩ := h
 have e1 : ∀ a b : AVal,([a,b] : List AVal)[1]? = some b := fun _ _ => rfl
 have e0 : ∀ a b : AVal,([a,b] : List AVal)[0]? = some a := fun _ _ => rfl
 have l1 : lenSV rv = some rd.length := by rw [a1.len,a2.len]
 have l2 : lenSV .nilslice = some 0 := rfl
 simp -dsimp only [↓WPd,↓Zm,↓Zn,WPu,Za,Zb,Zc,Zd,Ze,Zf,Zg,Zh,Nat.reduceEqDiff,Nat.reduceLT,Zi,Zj,Zk,Zl,Nat.reduceBEq,WPm,isnil_ptr,faddr_ptr,Nat.add_zero,Nat.zero_add,load_cells o,e0,e1,l1,l2]
 exact ⟨rfl,trivial⟩
theorem qpeek_ok (qi : Nat) (rv : AVal) (rd : List Nm) (h : QueR σ qi rv rd) : Called CU.cfg d 29 [.ptr qi 0] σ fun r σ' => Grows σ σ' ∧ match rd with
  | [] => r = .tuple [.agg [.int .i64 0,.int .i64 0,.nilslice],.bool false]
  | v :: _ => ∃ x t,r = .tuple [bdV v x,.bool true] ∧ SlOf σ' 5 x (CC t) := by
 refine called_of (fn := CU.a29) rfl (Nat.le_of_ble_eq_true rfl) ?_
 simp only [CU.a29, CU.o]
 simp -dsimp only [↓WPd,↓Zm,↓Zn,WPu,Za,Zb,Zc,Zd,Ze,Zf,Zg,Zh,Nat.reduceEqDiff,Nat.reduceLT,Zi,Zj,Zk,Zl,Nat.reduceBEq,WPm]
 have o1 : (σ ++ [AObj.cells [.int .i64 0,.int .i64 0,.nilslice]])[σ.length]? = some (.cells [.int .i64 0,.int .i64 0,.nilslice]) := by simp
 have g1 : Grows σ (σ ++ [AObj.cells [.int .i64 0,.int .i64 0,.nilslice]]) := Grows.app _ _
 generalize σ ++ [AObj.cells [.int .i64 0,.int .i64 0,.nilslice]] = σ1 at o1 g1
 generalize hk : σ.length = k1 at o1
 obtain ⟨o,es,a1,a2⟩ := h.grow g1
 have e0 : ∀ a b : AVal,([a,b] : List AVal)[0]? = some a := fun _ _ => rfl
 have l1 : lenSV rv = some rd.length := by rw [a1.len,a2.len]
 cases rd with
 | nil =>
  have z : ((((([] : List Nm).length : Nat)) : Int) == 0) = true := rfl
  have e : fillA [AVal.int IntKind.i64 0,AVal.int IntKind.i64 0,AVal.nilslice] [] = some [AVal.int IntKind.i64 0,AVal.int IntKind.i64 0,AVal.nilslice] := rfl
  have sv := storeN_cells o1 (n := 3) (cs' := [.int .i64 0,.int .i64 0,.nilslice]) rfl rfl rfl
  have ld := loadN_cells (get_set o1 (o' := .cells [.int .i64 0,.int .i64 0,.nilslice])) (n := 3) rfl
  simp -dsimp only [↓WPd,↓Zm,↓Zn,WPu,Za,Zb,Zc,Zd,Ze,Zf,Zg,Zh,Nat.reduceEqDiff,Nat.reduceLT,Zi,Zj,Zk,Zl,Nat.reduceBEq,WPm,isnil_ptr,faddr_ptr,Nat.add_zero,Nat.zero_add,load_cells o,e0,l1,z,e,sv,ld,resultsA,mapO]
  exact ⟨Keeps.trans g1 (Keeps.set σ1 k1 _) fun i hi (e : i = k1) => by omega,trivial⟩
 | cons v rest =>
  have z : ((((v :: rest).length : Nat) : Int) == 0) = false := by simp; omega
  obtain ⟨e,ee,u,t,f1,f2,f3⟩ := a2.get (i := 0) (by simp)
  have hke : 0 < es.length := by rw [a2.len]; simp
  have hee : es[0] = bdV v u := by rw [List.getElem?_eq_getElem hke] at ee; rw [Option.some.inj ee,f1]; rfl
  have ia : iaddrV 3 rv (.int .i64 0) = some (addrOf 3 rv 0) := a1.iaddr hke .i64
  have ld : loadV σ1 3 true (addrOf 3 rv 0) = some (.agg (bdC v u)) := a1.loadA hke (cs := bdC v u) hee
  simp -dsimp only [↓WPd,↓Zm,↓Zn,WPu,Za,Zb,Zc,Zd,Ze,Zf,Zg,Zh,Nat.reduceEqDiff,Nat.reduceLT,Zi,Zj,Zk,Zl,Nat.reduceBEq,WPm,isnil_ptr,faddr_ptr,Nat.add_zero,Nat.zero_add,load_cells o,e0,l1,z,ia,ld]
  refine calledW_of (qcopied_ok d σ1 v u t f2 f3) ?_
  rintro r σ2 ⟨g2,x,rfl,hx⟩
  have sv := storeN_cells (g2.get o1) (n := 3) (cs' := bdC v x) rfl rfl (bdV_one v hx)
  have sv' : storeV σ2 3 (.ptr k1 0) (bdV v x) = some (σ2.set k1 (.cells (bdC v x))) := sv
  have ld2 := loadN_cells (get_set (g2.get o1) (o' := .cells (bdC v x))) (n := 3) rfl
  simp -dsimp only [↓WPd,↓Zm,↓Zn,WPu,Za,Zb,Zc,Zd,Ze,Zf,Zg,Zh,Nat.reduceEqDiff,Nat.reduceLT,Zi,Zj,Zk,Zl,Nat.reduceBEq,WPm,sv',ld2,resultsA,mapO]
  exact ⟨Keeps.trans (g1.trans g2) (Keeps.set σ2 k1 _) fun i hi (e : i = k1) => by omega,x,t,rfl,hx.keeps (Keeps.set σ2 k1 _) fun i hi (e : i = k1) => hx.noCell (g2.get o1) (e ▸ hi)⟩
theorem qnext_ok (qi : Nat) (rv : AVal) (rd : List Nm) (h : QueR σ qi rv rd) : Called CU.cfg d 10 [.ptr qi 0] σ fun r σ' => match rd with
  | [] => ∃ cs : List AVal,r = .tuple [.agg cs,.bool false] ∧ cs.length = 3 ∧ cs.all AVal.one = true ∧ QueR σ' qi rv [] ∧ Grows σ σ'
  | v :: rest => ∃ x rv',r = .tuple [bdV v x,.bool true] ∧ x.one = true ∧ QueR σ' qi rv' rest ∧ Keeps (fun i => i = qi) σ σ' ∧ Vw σ σ' := by
 refine called_of (fn := CU.a10) rfl (Nat.le_of_ble_eq_true rfl) ?_
 simp only [CU.a10, CU.o]
 simp -dsimp only [↓WPd,↓Zm,↓Zn,WPu,Za,Zb,Zc,Zd,Ze,Zf,Zg,Zh,Nat.reduceEqDiff,Nat.reduceLT,Zi,Zj,Zk,Zl,Nat.reduceBEq,WPm]
 have o1 : (σ ++ [AObj.cells [.int .i64 0,.int .i64 0,.nilslice]])[σ.length]? = some (.cells [.int .i64 0,.int .i64 0,.nilslice]) := by simp
 have g1 : Grows σ (σ ++ [AObj.cells [.int .i64 0,.int .i64 0,.nilslice]]) := Grows.app _ _
 have hqlt : qi < σ.length := (List.getElem?_eq_some_iff.1 h.obj).1
 generalize σ ++ [AObj.cells [.int .i64 0,.int .i64 0,.nilslice]] = σ1 at o1 g1
 generalize hk : σ.length = k1 at o1 hqlt
 refine calledW_of (qpeek_ok d σ1 qi rv rd (h.grow g1)) ?_
 have z3 : ∀ (σ : Store) (cs : List AVal),cs.length = 3 → cs.all AVal.one = true → storeV (σ ++ [.cells [.int .i64 0,.int .i64 0,.nilslice]]) 3 (.ptr σ.length 0) (.agg cs) = some (σ ++ [.cells cs]) := fun σ cs h1 h2 => by
  have h : (σ ++ [AObj.cells [.int .i64 0,.int .i64 0,.nilslice]])[σ.length]? = some (.cells [.int .i64 0,.int .i64 0,.nilslice]) := by simp
  rw [storeN_cells (cs' := cs) (n := 3) h rfl h1 h2,set_last]
 cases rd with
 | nil =>
  rintro r σ2 ⟨g2,rfl⟩
  have h2 := (h.grow g1).grow g2
  have o2 := g2.get o1
  simp -dsimp only [↓WPd,↓Zm,↓Zn,WPu,Za,Zb,Zc,Zd,Ze,Zf,Zg,Zh,Nat.reduceEqDiff,Nat.reduceLT,Zi,Zj,Zk,Zl,Nat.reduceBEq,WPm,List.getElem?_cons_zero,List.getElem?_cons_succ,z3 σ2 [.int .i64 0,.int .i64 0,.nilslice] rfl rfl]
  have o3 : (σ2 ++ [AObj.cells [.int .i64 0,.int .i64 0,.nilslice]])[σ2.length]? = some (.cells [.int .i64 0,.int .i64 0,.nilslice]) := by simp
  have g3 : Grows σ2 (σ2 ++ [AObj.cells [.int .i64 0,.int .i64 0,.nilslice]]) := Grows.app _ _
  generalize σ2 ++ [AObj.cells [.int .i64 0,.int .i64 0,.nilslice]] = σ3 at o3 g3
  have sv := storeN_cells (g3.get o2) (n := 3) (cs' := [.int .i64 0,.int .i64 0,.nilslice]) rfl rfl rfl
  have ld := loadN_cells (get_set (g3.get o2) (o' := .cells [.int .i64 0,.int .i64 0,.nilslice])) (n := 3) rfl
  have k4 : Keeps (fun i => i = k1) σ3 (σ3.set k1 (.cells [.int .i64 0,.int .i64 0,.nilslice])) := Keeps.set _ _ _
  have gg : Grows σ (σ3.set k1 (.cells [.int .i64 0,.int .i64 0,.nilslice])) := Keeps.trans ((g1.trans g2).trans g3) k4 fun i hi e => by omega
  simp -dsimp only [↓WPd,↓Zm,↓Zn,WPu,Za,Zb,Zc,Zd,Ze,Zf,Zg,Zh,Nat.reduceEqDiff,Nat.reduceLT,Zi,Zj,Zk,Zl,Nat.reduceBEq,WPm,loadN_cells o3 (n := 3) rfl,sv,ld,resultsA,mapO]
  exact ⟨_,rfl,rfl,rfl,h.grow gg,gg⟩
 | cons v rest =>
  rintro r σ2 ⟨g2,x,t,rfl,hx⟩
  obtain ⟨oq,es,a1,a2⟩ := (h.grow g1).grow g2
  have o2 := g2.get o1
  have e0 : ∀ a b : AVal,([a,b] : List AVal)[0]? = some a := fun _ _ => rfl
  have z3' : storeV (σ2 ++ [.cells [.int .i64 0,.int .i64 0,.nilslice]]) 3 (.ptr σ2.length 0) (bdV v x) = some (σ2 ++ [.cells (bdC v x)]) := z3 σ2 (bdC v x) rfl (bdV_one v hx)
  simp -dsimp only [↓WPd,↓Zm,↓Zn,WPu,Za,Zb,Zc,Zd,Ze,Zf,Zg,Zh,Nat.reduceEqDiff,Nat.reduceLT,Zi,Zj,Zk,Zl,Nat.reduceBEq,WPm,List.getElem?_cons_zero,List.getElem?_cons_succ,z3']
  have o3 : (σ2 ++ [AObj.cells (bdC v x)])[σ2.length]? = some (.cells (bdC v x)) := by simp
  have g3 : Grows σ2 (σ2 ++ [AObj.cells (bdC v x)]) := Grows.app _ _
  have l3 : σ2.length < (σ2 ++ [AObj.cells (bdC v x)]).length := by simp
  generalize σ2 ++ [AObj.cells (bdC v x)] = σ3 at o3 g3 l3
  generalize hk4 : σ2.length = k4 at o3 l3
  have oq3 := g3.get oq
  have a13 := a1.grow g3
  have hlen : 1 ≤ es.length := by rw [a2.len]; simp
  obtain ⟨rv',b1,b2,-⟩ := a13.sub_lo (lo := 1) hlen .i64
  have st := store_cells oq3 (off := 0) (by simp) (v := rv') b2.one
  simp only [List.set_cons_zero] at st
  have b1' : sliceV 3 rv (some (.int .i64 1)) none none = some rv' := b1
  simp -dsimp only [↓WPd,↓Zm,↓Zn,WPu,Za,Zb,Zc,Zd,Ze,Zf,Zg,Zh,Nat.reduceEqDiff,Nat.reduceLT,Zi,Zj,Zk,Zl,Nat.reduceBEq,WPm,oev,isnil_ptr,faddr_ptr,Nat.add_zero,Nat.zero_add,load_cells oq3,e0,b1',st]
  have k5 : Keeps (fun i => i = qi) σ3 (σ3.set qi (.cells [rv',.nilslice])) := Keeps.set _ _ _
  have o5 : (σ3.set qi (.cells [rv',.nilslice]))[qi]? = some (.cells [rv',.nilslice]) := get_set oq3
  have w5 : Vw σ3 (σ3.set qi (.cells [rv',.nilslice])) := Vw.cell oq3 k5
  generalize σ3.set qi (.cells [rv',.nilslice]) = σ5 at k5 o5 w5
  have l12 := g1.1
  have l23 := g2.1
  have ok5 := k5.get o3 (by omega)
  have o15 := k5.get (g3.get o2) (by omega)
  have sv := storeN_cells o15 (n := 3) (cs' := bdC v x) rfl rfl (bdV_one v hx)
  have ld := loadN_cells (get_set o15 (o' := .cells (bdC v x))) (n := 3) rfl
  have k6 : Keeps (fun i => i = k1) σ5 (σ5.set k1 (.cells (bdC v x))) := Keeps.set _ _ _
  have w6 : Vw σ5 (σ5.set k1 (.cells (bdC v x))) := Vw.cell o15 k6
  simp -dsimp only [↓WPd,↓Zm,↓Zn,WPu,Za,Zb,Zc,Zd,Ze,Zf,Zg,Zh,Nat.reduceEqDiff,Nat.reduceLT,Zi,Zj,Zk,Zl,Nat.reduceBEq,WPm,loadN_cells ok5 (n := 3) rfl,sv,ld,resultsA,mapO]
  have a2' : GoalRow σ2 (es.drop 1) rest := by
   cases a2 with
   | cons _ r => exact r
  refine ⟨x,rv',rfl,hx.one,⟨k6.get o5 (by omega),es.drop 1,w6 _ _ _ (w5 _ _ _ b2),((a2'.vw (Vw.grow g3)).vw w5).vw w6⟩,Keeps.trans (Keeps.trans ((g1.trans g2).trans g3).any k5 fun i hi e => e) k6 fun i hi e => by omega,((Vw.grow ((g1.trans g2).trans g3)).trans w5).trans w6⟩
end
def lkL (ls : List (List Cel)) (i : Nat) : List Cel := ls[i]?.getD []
def isLoc (c : Cel) : Bool := decide (c.k = 4) && decide (c.v.1 = -1)
def badT (l : List Cel) : Bool := decide (l ≠ []) && !right l
def putB (t : List Cel) (ls : List (List Cel)) : Bool := t.any fun c => isLoc c && decide (lkL ls c.v.2.toNat = [])
def putC (ls : List (List Cel)) (c : Cel) : List Cel := if isLoc c then lkL ls c.v.2.toNat else [c]
def putO (t : List Cel) (ls : List (List Cel)) : List Cel := (t.map (putC ls)).flatten
def putE (t : List Cel) (ls : List (List Cel)) : Int := if !right t || ls.any badT then 6 else if putB t ls then 4 else if 256 < (putO t ls).length then 5 else 0
def putT (t : List Cel) (ls : List (List Cel)) : List Cel := if putE t ls = 0 then putO t ls else []
section
variable (d : Nat) (σ : Store)
def PutOk (σ σ' : Store) (r : AVal) (t : List Cel) (ls : List (List Cel)) : Prop := ∃ u,r = .tuple [u,.int .i64 (putE t ls)] ∧ Grows σ σ' ∧ Own σ' 5 u (CC (putT t ls)) ∧ Fresh σ.length u ∧ NoLit u
theorem PutOk.fail {σ σ' : Store} {t : List Cel} {ls : List (List Cel)} {e : Int} (h : putE t ls = e) (he : e ≠ 0) (g : Grows σ σ') : PutOk σ σ' (.tuple [.nilslice,.int .i64 e]) t ls :=
 ⟨.nilslice,by rw [h],g,by rw [putT,if_neg (by rw [h]; exact he)]; exact Own.nil _ _,Fresh.nil _,trivial⟩
end
section
variable (d : Nat) (σ : Store)
end
section
variable (d : Nat) (σ : Store)
end
def TT (σ : Store) (v : AVal) (ls : List (List Cel)) : Prop := ∃ es,Own σ 1 v es ∧ NoLit v ∧ Two Told es ls
theorem TT.terms {σ : Store} {v : AVal} {ls : List (List Cel)} (h : TT σ v ls) : Terms σ v ls := by
 obtain ⟨es,h1,-,h3⟩ := h
 exact ⟨es,h1.sl,h3.mono fun e t h => h σ⟩
theorem TT.grow {σ σ' : Store} {v : AVal} {ls : List (List Cel)} (h : TT σ v ls) (g : Grows σ σ') : TT σ' v ls := by
 obtain ⟨es,h1,h2,h3⟩ := h
 exact ⟨es,h1.grow g,h2,h3⟩
theorem TT.len {σ : Store} {v : AVal} {ls : List (List Cel)} (h : TT σ v ls) : lenSV v = some ls.length := h.terms.len
def TA (v : AVal) (ls : List (List Cel)) : Prop := ∃ es,(∀ σ : Store,SlOf σ 1 v es) ∧ Two Told es ls
theorem TA.terms {v : AVal} {ls : List (List Cel)} (h : TA v ls) (σ : Store) : Terms σ v ls := by
 obtain ⟨es,h1,h3⟩ := h
 exact ⟨es,h1 σ,h3.mono fun e t h => h σ⟩
theorem TT.set {σ : Store} {v : AVal} {ls : List (List Cel)} {lo j : Nat} {u : AVal} {t : List Cel} (h : TT σ v ls) (hf : Fresh lo v) (hj : j < ls.length) (hu : Told u t) : ∃ σ',storeV σ 1 (addrOf 1 v j) u = some σ' ∧ TT σ' v (ls.set j t) ∧ Keeps (fun i => lo ≤ i) σ σ' := by
 obtain ⟨es,h1,h2,h3⟩ := h
 have hj' : j < es.length := by rw [h3.len]; exact hj
 obtain ⟨e,e1,e2⟩ := h3.get hj
 have hee : es[j] = e := by rw [List.getElem?_eq_getElem hj'] at e1; exact Option.some.inj e1
 have o1 := (e2 σ).one
 have o2 := (hu σ).one
 have hc : u.cells = [u] := by cases u <;> simp_all [AVal.one]
 have hc2 : e.cells = [e] := by cases e <;> simp_all [AVal.one]
 have hr : e.reform [u] = u := by cases e <;> simp_all [AVal.one,AVal.reform]
 obtain ⟨σ',p1,p2,p3,-⟩ := h1.store h2 hj' (x := u) (by rw [hc]; simp only [List.all_cons,List.all_nil,o2]; rfl) (by rw [hc]; rfl) (by rw [hee,hc2]; rfl) (by rw [hee,hc]; exact hr)
 exact ⟨σ',p1,⟨_,p2,h2,Two.set h3 j hu⟩,p3.mono fun i _ e => hf i e⟩
section
variable (d : Nat) (σ : Store)
end
def AR (σ : Store) (aid : Nat) (ls : List (List Cel)) : Prop := ∃ es,σ[aid]? = some (.arr 1 es 0 0) ∧ Two Told es ls
theorem AR.grow {σ σ' : Store} {aid : Nat} {ls : List (List Cel)} (h : AR σ aid ls) (g : Grows σ σ') : AR σ' aid ls := by
 obtain ⟨es,h1,h2⟩ := h; exact ⟨es,g.get h1,h2⟩
theorem AR.terms {σ : Store} {aid : Nat} {ls : List (List Cel)} (h : AR σ aid ls) {N : Nat} (hN : ls.length = N) : Terms σ (.slice 1 aid 0 0 N (some N)) ls := by
 obtain ⟨es,h1,h2⟩ := h
 subst hN
 have ho : Own σ 1 (.slice 1 aid 0 0 ls.length (some ls.length)) es := ⟨.inr (.inr ⟨aid,0,0,some ls.length,es,0,0,by rw [h2.len],h1,Nat.le_refl _,by simp,fun _ => by simp,.inr (by rw [h2.len])⟩)⟩
 exact ⟨es,ho.sl,h2.mono fun e t h => h σ⟩
theorem AR.set {σ : Store} {aid : Nat} {ls : List (List Cel)} (h : AR σ aid ls) {j : Nat} (hj : j < ls.length) {u : AVal} {t : List Cel} (hu : Told u t) : ∃ σ',storeV σ 1 (.eptr aid 0 j 0) u = some σ' ∧ AR σ' aid (ls.set j t) ∧ Keeps (fun i => i = aid) σ σ' := by
 obtain ⟨es,h1,h2⟩ := h
 have hj' : j < es.length := by rw [h2.len]; exact hj
 obtain ⟨e,e1,e2⟩ := h2.get hj
 have hee : es[j] = e := by rw [List.getElem?_eq_getElem hj'] at e1; exact Option.some.inj e1
 have st := arr_store1 h1 hj' (hu σ).one (by rw [hee]; exact (e2 σ).one)
 exact ⟨_,st,⟨_,get_set h1,Two.set h2 j hu⟩,Keeps.set _ _ _⟩
section
variable (d : Nat) (σ : Store)
end
theorem MdlS.que {σ σ' : Store} {mi g u w qi : Nat} {gs us rd : List Nm} {rv wv : AVal} {wt : List (Nm × List Nm)} (h : MdlS σ mi g u w gs us) (q : QueS σ qi rv wv rd wt) (k : Keeps (QueM σ qi rv wv) σ σ') (v : Vw σ σ') : MdlS σ' mi g u w gs us := by
 obtain ⟨p,hh,b,o⟩ := h.obj
 obtain ⟨gv,a1,-,-⟩ := h.goals
 obtain ⟨uv,b1,-,-⟩ := h.used
 obtain ⟨ws,wv',c1,-⟩ := h.vars
 obtain ⟨oq,⟨es,r1,-⟩,⟨fs,r2,-⟩⟩ := q
 have nm : ∀ {j : Nat} {ks vs : List AVal},σ[j]? = some (.map ks vs) → ¬ QueM σ qi rv wv j := fun ho e => by
  rcases e with rfl | e | e
  ·rw [oq] at ho; cases ho
  ·exact r1.sl.noMap ho e
  ·exact r2.sl.noMap ho e
 refine h.move k v (fun e => ?_) (nm a1) (nm b1) (nm c1)
 rcases e with rfl | e | e
 ·rw [oq] at o; injection o with o; injection o with o; exact absurd (congrArg List.length o) (by simp)
 ·exact r1.noCell o e
 ·exact r2.noCell o e
theorem QueS.mdl {σ σ' : Store} {mi g u w qi : Nat} {gs us rd : List Nm} {rv wv : AVal} {wt : List (Nm × List Nm)} (q : QueS σ qi rv wv rd wt) (h : MdlS σ mi g u w gs us) (k : Keeps (fun i => i = g ∨ i = u ∨ i = w) σ σ') (v : Vw σ σ') : QueS σ' qi rv wv rd wt := by
 obtain ⟨gv,a1,-,-⟩ := h.goals
 obtain ⟨uv,b1,-,-⟩ := h.used
 obtain ⟨ws,wv',c1,-⟩ := h.vars
 have hq := q
 obtain ⟨oq,⟨es,r1,-⟩,⟨fs,r2,-⟩⟩ := hq
 refine q.move k v (fun e => ?_) (fun i hi e => ?_) (fun i hi e => ?_)
 ·rcases e with rfl | rfl | rfl
  ·rw [oq] at a1; cases a1
  ·rw [oq] at b1; cases b1
  ·rw [oq] at c1; cases c1
 ·rcases e with rfl | rfl | rfl
  ·exact r1.sl.noMap a1 hi
  ·exact r1.sl.noMap b1 hi
  ·exact r1.sl.noMap c1 hi
 ·rcases e with rfl | rfl | rfl
  ·exact r2.sl.noMap a1 hi
  ·exact r2.sl.noMap b1 hi
  ·exact r2.sl.noMap c1 hi
theorem MdlS.quer {σ σ' : Store} {mi g u w qi : Nat} {gs us rd : List Nm} {rv : AVal} (h : MdlS σ mi g u w gs us) (q : QueR σ qi rv rd) (k : Keeps (fun i => i = qi) σ σ') (v : Vw σ σ') : MdlS σ' mi g u w gs us := by
 obtain ⟨p,hh,b,o⟩ := h.obj
 obtain ⟨gv,a1,-,-⟩ := h.goals
 obtain ⟨uv,b1,-,-⟩ := h.used
 obtain ⟨ws,wv',c1,-⟩ := h.vars
 obtain ⟨oq,-⟩ := q
 refine h.move k v (fun e => ?_) (fun e => ?_) (fun e => ?_) (fun e => ?_)
 ·rw [e,oq] at o; injection o with o; injection o with o; exact absurd (congrArg List.length o) (by simp)
 ·rw [e,oq] at a1; cases a1
 ·rw [e,oq] at b1; cases b1
 ·rw [e,oq] at c1; cases c1
set_option maxHeartbeats 4000000 in
theorem goals_run (lv wl : AVal) (l : List (List Cel)) (ws : List Nm) (hl : TA lv l) (hsm : ∀ t ∈ l,Small t ∧ t.length < 2 ^ 28) (hw : ∀ σ : Store,SlOf σ 2 wl (NN ws)) (hwl : ws.length < 2 ^ 28) (hlen : l.length < 2 ^ 27) :
  Called CU.cfg 0 3 [lv,wl] [] fun v _ => v = .bool true := by
 refine called_of (fn := CU.a3) rfl (Nat.le_of_ble_eq_true rfl) ?_
 simp only [CU.a3, CU.o]
 simp -dsimp only [↓WPd,↓Zm,↓Zn,WPu,Za,Zb,Zc,Zd,Ze,Zf,Zg,Zh,Nat.reduceEqDiff,Nat.reduceLT,Zi,Zj,Zk,Zl,Nat.reduceBEq,WPm]
 refine calledW_of new_ok ?_
 rintro r σ1 ⟨mi,g,u,w,rfl,hM⟩
 have n0 : ((0 : Int) != 0) = false := rfl
 simp -dsimp only [↓WPd,↓Zm,↓Zn,WPu,Za,Zb,Zc,Zd,Ze,Zf,Zg,Zh,Nat.reduceEqDiff,Nat.reduceLT,Zi,Zj,Zk,Zl,Nat.reduceBEq,WPm,List.getElem?_cons_zero,List.getElem?_cons_succ,n0]
 refine calledW_of (qnew_ok 0 σ1) ?_
 rintro r σ2 ⟨qi,rfl,hQ,g2⟩
 have hM2 := hM.grow g2
 have ll := (hl.terms σ2).len
 have lw : lenSV wl = some ws.length := by rw [(hw σ2).len]; simp
 simp -dsimp only [↓WPd,↓Zm,↓Zn,WPu,Za,Zb,Zc,Zd,Ze,Zf,Zg,Zh,Nat.reduceEqDiff,Nat.reduceLT,Zi,Zj,Zk,Zl,Nat.reduceBEq,WPm]
 refine loop_rule2 (fun m xs σ' => ∃ (k : Nat) (gs us : List Nm) (rv wv : AVal) (rd : List Nm) (wt : List (Nm × List Nm)),k ≤ l.length ∧ m = l.length - k ∧ xs = [lv,wl,.ptr mi 0,.ptr qi 0,.int .i64 gs.length,.int .i64 (k : Nat)] ∧ MdlS σ' mi g u w gs us ∧ QueS σ' qi rv wv rd wt ∧ (∀ v ∈ gs,0 ≤ v.2 ∧ v.2 < k) ∧ (∀ v ∈ us,0 ≤ v.2 ∧ v.2 < k) ∧ rd.length + wt.length = gs.length ∧ (∀ v ∈ rd,0 ≤ v.2 ∧ v.2 < k) ∧ (∀ p ∈ wt,(0 ≤ p.1.2 ∧ p.1.2 < k) ∧ p.2 ≠ [] ∧ (∀ x ∈ p.2,x ∈ ws) ∧ p.2.length < 2 ^ 30) ∧ gs.length ≤ k ∧ k ≤ 100)
  [0,1,5,7,8] (fun x xs σ' => x = .exit 0 ∧ ∃ (gs us : List Nm) (rv wv : AVal) (rd : List Nm) (wt : List (Nm × List Nm)),xs = [lv,wl,.ptr mi 0,.ptr qi 0,.int .i64 gs.length] ∧ MdlS σ' mi g u w gs us ∧ QueS σ' qi rv wv rd wt ∧ rd.length + wt.length = gs.length ∧ (∀ v ∈ rd,0 ≤ v.2 ∧ v.2 < l.length) ∧ (∀ p ∈ wt,(0 ≤ p.1.2 ∧ p.1.2 < l.length) ∧ p.2 ≠ [] ∧ (∀ x ∈ p.2,x ∈ ws) ∧ p.2.length < 2 ^ 30) ∧ gs.length ≤ 100) l.length
  ⟨0,[],[],.nilslice,.nilslice,[],[],Nat.zero_le _,rfl,?_,hM2,hQ,(fun v h => by cases h),(fun v h => by cases h),rfl,(fun v h => by cases h),(fun v h => by cases h),Nat.le_refl _,by omega⟩ ?_ ?_
 ·simp -dsimp only [↓WPd,↓Zm,↓Zn,WPu,Za,Zb,Zc,Zd,Ze,Zf,Zg,Zh,Nat.reduceEqDiff,Nat.reduceLT,Zi,Zj,Zk,Zl,Nat.reduceBEq]; rfl
 ·rintro m xs σ' ⟨k,gs,us,rv,wv,rd,wt,hk,rfl,rfl,hM,hQ,hgs,hus,hsum,hrd,hwt,hgl,hk100⟩
  simp -dsimp only [↓WPd,↓Zm,↓Zn,WPu,Za,Zb,Zc,Zd,Ze,Zf,Zg,Zh,Nat.reduceEqDiff,Nat.reduceLT,Zi,Zj,Zk,Zl,Nat.reduceBEq,WPm,ll]
  by_cases hc1 : k < l.length
  ·by_cases hc2 : k < 100
   ·have t1 : decide ((k : Int) < ((l.length : Nat) : Int)) = true := decide_eq_true (by omega)
    have t2 : decide ((k : Int) < 100) = true := decide_eq_true (by omega)
    obtain ⟨te,e1,e2,e3⟩ := (hl.terms σ').at hc1
    obtain ⟨sm,sl⟩ := hsm _ (List.getElem_mem hc1)
    have bn : fillA [AVal.int IntKind.i64 0,AVal.int IntKind.i64 0] [(1,1,AVal.int IntKind.i64 (k : Nat))] = some (nmC (0,(k : Int))) := rfl
    have bn2 : AVal.agg (nmC (0,(k : Int))) = nmV (0,(k : Int)) := rfl
    have z3 : storeV (σ' ++ [.cells [.int .i64 0,.int .i64 0,.nilslice]]) 3 (.ptr σ'.length 0) (.agg (bdC (0,(k : Int)) te)) = some (σ' ++ [.cells (bdC (0,(k : Int)) te)]) := by
     have h : (σ' ++ [AObj.cells [.int .i64 0,.int .i64 0,.nilslice]])[σ'.length]? = some (.cells [.int .i64 0,.int .i64 0,.nilslice]) := by simp
     rw [storeN_cells (cs' := bdC (0,(k : Int)) te) (n := 3) h rfl rfl (bdV_one _ e3),set_last]
    have t12 : (decide ((k : Int) < ((l.length : Nat) : Int)) && decide ((k : Int) < 100)) = true := by rw [t1,t2]; rfl
    simp -dsimp only [↓WPd,↓Zm,↓Zn,WPu,Za,Zb,Zc,Zd,Ze,Zf,Zg,Zh,Nat.reduceEqDiff,Nat.reduceLT,Zi,Zj,Zk,Zl,Nat.reduceBEq,WPm,t12,bn,bn2,e1,e2,bd_build (0,(k : Int)) te e3.one,z3]
    have o3 : (σ' ++ [AObj.cells (bdC (0,(k : Int)) te)])[σ'.length]? = some (.cells (bdC (0,(k : Int)) te)) := by simp
    have g3 : Grows σ' (σ' ++ [AObj.cells (bdC (0,(k : Int)) te)]) := Grows.app _ _
    generalize σ' ++ [AObj.cells (bdC (0,(k : Int)) te)] = σ3 at o3 g3
    generalize hk3 : σ'.length = k3 at o3
    have hM3 := hM.grow g3
    have hQ3 := hQ.grow g3
    have f1 : ((0 : Int),(k : Int)) ∉ gs := fun h => by have := (hgs _ h).2; simp at this
    have f2 : ((0 : Int),(k : Int)) ∉ us := fun h => by have := (hus _ h).2; simp at this
    simp -dsimp only [↓WPd,↓Zm,↓Zn,WPu,Za,Zb,Zc,Zd,Ze,Zf,Zg,Zh,Nat.reduceEqDiff,Nat.reduceLT,Zi,Zj,Zk,Zl,Nat.reduceBEq,WPm,loadN_cells o3 (n := 3) rfl]
    refine calledW_of (submit_ok 0 σ3 mi g u w gs us (0,(k : Int)) te l[k] hM3 f1 f2 (e3.grow g3) sm sl) ?_
    rintro r σ4 ⟨V4,K4,hr⟩
    have hQ4 := hQ3.mdl hM3 K4 V4
    have wk : IntKind.i64.wrap ((k : Int) + 1) = ((k + 1 : Nat) : Int) := by rw [wrap_i64 (by omega) (by omega),Int.natCast_add,Int.natCast_one]
    rcases hr with ⟨rfl,hM4⟩ | ⟨rfl,hM4⟩
    ·have o4 : σ4[k3]? = some (.cells (bdC (0,(k : Int)) te)) := K4.get o3 (fun e => by
      obtain ⟨gv,a1,-⟩ := hM3.goals
      obtain ⟨uv,b1,-⟩ := hM3.used
      obtain ⟨ws',wv',c1,-⟩ := hM3.vars
      rcases e with rfl | rfl | rfl
      ·rw [o3] at a1; cases a1
      ·rw [o3] at b1; cases b1
      ·rw [o3] at c1; cases c1)
     have wn : IntKind.i64.wrap (((gs.length : Nat) : Int) + 1) = ((gs.length + 1 : Nat) : Int) := by rw [wrap_i64 (by omega) (by omega),Int.natCast_add,Int.natCast_one]
     have hrem : iopV .rem (.int .i64 ((k : Nat) : Int)) (.int .i64 3) = some (.int .i64 (((k : Nat) : Int).tmod 3)) := by rw [iop_rem]; rfl
     have e4 : SlOf σ4 5 te (CC l[k]) := V4 _ _ _ (e3.grow g3)
     have old : ∀ v : Nm,(0 ≤ v.2 ∧ v.2 < (k : Int)) → 0 ≤ v.2 ∧ v.2 < ((k + 1 : Nat) : Int) := fun v h => ⟨h.1,by omega⟩
     have gs' : ∀ v ∈ gs ++ [((0 : Int),(k : Int))],0 ≤ v.2 ∧ v.2 < ((k + 1 : Nat) : Int) := fun v hv => by
      rcases List.mem_append.1 hv with hv | hv
      ·exact old v (hgs v hv)
      ·rw [List.mem_singleton.1 hv]; exact ⟨by show (0 : Int) ≤ (k : Int); omega,by show (k : Int) < _; omega⟩
     have us' : ∀ v ∈ us ++ [((0 : Int),(k : Int))],0 ≤ v.2 ∧ v.2 < ((k + 1 : Nat) : Int) := fun v hv => by
      rcases List.mem_append.1 hv with hv | hv
      ·exact old v (hus v hv)
      ·rw [List.mem_singleton.1 hv]; exact ⟨by show (0 : Int) ≤ (k : Int); omega,by show (k : Int) < _; omega⟩
     have rd' : ∀ v ∈ rd,0 ≤ v.2 ∧ v.2 < ((k + 1 : Nat) : Int) := fun v hv => old v (hrd v hv)
     have wt' : ∀ p ∈ wt,(0 ≤ p.1.2 ∧ p.1.2 < ((k + 1 : Nat) : Int)) ∧ p.2 ≠ [] ∧ (∀ x ∈ p.2,x ∈ ws) ∧ p.2.length < 2 ^ 30 := fun p hp => ⟨old p.1 (hwt p hp).1,(hwt p hp).2⟩
     simp -dsimp only [↓WPd,↓Zm,↓Zn,WPu,Za,Zb,Zc,Zd,Ze,Zf,Zg,Zh,Nat.reduceEqDiff,Nat.reduceLT,Zi,Zj,Zk,Zl,Nat.reduceBEq,WPm,n0,wn,hrem,lw]
     have hgl' : (gs ++ [((0 : Int),(k : Int))]).length = gs.length + 1 := by simp
     cases hcb : ((((k : Nat) : Int).tmod 3 == 0) && decide (((ws.length : Nat) : Int) > 0)) with
     | true =>
      have hwn : ws ≠ [] := fun e => by rw [e] at hcb; simp at hcb
      simp -dsimp only [↓WPd,↓Zm,↓Zn,WPu,Za,Zb,Zc,Zd,Ze,Zf,Zg,Zh,Nat.reduceEqDiff,Nat.reduceLT,Zi,Zj,Zk,Zl,Nat.reduceBEq,WPm,loadN_cells o4 (n := 3) rfl]
      refine calledW_of (qwait_ok 0 σ4 qi rv wv wl te (0,(k : Int)) l[k] ws rd wt hQ4 e4 (by omega) hw hwn (by omega) (by omega)) ?_
      rintro r σ5 ⟨rfl,wv',p2,hQ5,p1,p2',p3,K5,V5⟩
      have hM5 := hM4.que hQ4 K5 V5
      simp -dsimp only [↓WPd,↓Zm,↓Zn,WPu,Za,Zb,Zc,Zd,Ze,Zf,Zg,Zh,Nat.reduceEqDiff,Nat.reduceLT,Zi,Zj,Zk,Zl,Nat.reduceBEq,WPm,n0,wk]
      refine ⟨l.length - (k + 1),by omega,k + 1,gs ++ [(0,(k : Int))],us ++ [(0,(k : Int))],rv,wv',rd,wt ++ [((0,(k : Int)),p2)],by omega,rfl,by rw [hgl'],hM5,hQ5,gs',us',by simp; omega,rd',fun p hp => ?_,by omega,by omega⟩
      rcases List.mem_append.1 hp with hp | hp
      ·exact wt' p hp
      ·rw [List.mem_singleton.1 hp]
       exact ⟨⟨by show (0 : Int) ≤ (k : Int); omega,by show (k : Int) < _; omega⟩,p1,p2',by simp only; omega⟩
     | false =>
      have bl' : fillL 3 true (List.replicate 1 (zel [AVal.int IntKind.i64 0,AVal.int IntKind.i64 0,AVal.nilslice] true)) [(0,AVal.agg (bdC (0,(k : Int)) te))] = some [bdV (0,(k : Int)) te] := bd_lit (0,(k : Int)) te e4.one
      simp -dsimp only [↓WPd,↓Zm,↓Zn,WPu,Za,Zb,Zc,Zd,Ze,Zf,Zg,Zh,Nat.reduceEqDiff,Nat.reduceLT,Zi,Zj,Zk,Zl,Nat.reduceBEq,WPm,loadN_cells o4 (n := 3) rfl,bl']
      refine calledW_of (qput_ok 0 σ4 qi rv wv _ rd wt hQ4 [bdV (0,(k : Int)) te] [(0,(k : Int))] (SlOf.fs _ _ _ _ _) (Two.one ⟨te,l[k],rfl,e4,by omega⟩) (by simp; omega)) ?_
      rintro r σ5 ⟨rfl,rv',hQ5,K5,V5⟩
      have hM5 := hM4.que hQ4 K5 V5
      simp -dsimp only [↓WPd,↓Zm,↓Zn,WPu,Za,Zb,Zc,Zd,Ze,Zf,Zg,Zh,Nat.reduceEqDiff,Nat.reduceLT,Zi,Zj,Zk,Zl,Nat.reduceBEq,WPm,n0,wk]
      refine ⟨l.length - (k + 1),by omega,k + 1,gs ++ [(0,(k : Int))],us ++ [(0,(k : Int))],rv',wv,rd ++ [(0,(k : Int))],wt,by omega,rfl,by rw [hgl'],hM5,hQ5,gs',us',by simp; omega,fun v hv => ?_,wt',by omega,by omega⟩
      rcases List.mem_append.1 hv with hv | hv
      ·exact rd' v hv
      ·rw [List.mem_singleton.1 hv]; exact ⟨by show (0 : Int) ≤ (k : Int); omega,by show (k : Int) < _; omega⟩
    ·have n6 : ((6 : Int) != 0) = true := rfl
     simp -dsimp only [↓WPd,↓Zm,↓Zn,WPu,Za,Zb,Zc,Zd,Ze,Zf,Zg,Zh,Nat.reduceEqDiff,Nat.reduceLT,Zi,Zj,Zk,Zl,Nat.reduceBEq,WPm,n6,wk]
     exact ⟨l.length - (k + 1),by omega,k + 1,gs,us,rv,wv,rd,wt,by omega,rfl,rfl,hM4,hQ4,fun v hv => ⟨(hgs v hv).1,by have := (hgs v hv).2; omega⟩,fun v hv => ⟨(hus v hv).1,by have := (hus v hv).2; omega⟩,hsum,fun v hv => ⟨(hrd v hv).1,by have := (hrd v hv).2; omega⟩,fun p hp => ⟨⟨(hwt p hp).1.1,by have := (hwt p hp).1.2; omega⟩,(hwt p hp).2⟩,by omega,by omega⟩
   ·have t1 : decide ((k : Int) < ((l.length : Nat) : Int)) = true := decide_eq_true (by omega)
    have t2 : decide ((k : Int) < 100) = false := decide_eq_false (by omega)
    have t12 : (decide ((k : Int) < ((l.length : Nat) : Int)) && decide ((k : Int) < 100)) = false := by rw [t1,t2]; rfl
    simp -dsimp only [↓WPd,↓Zm,↓Zn,WPu,Za,Zb,Zc,Zd,Ze,Zf,Zg,Zh,Nat.reduceEqDiff,Nat.reduceLT,Zi,Zj,Zk,Zl,Nat.reduceBEq,WPm,t12]
    exact ⟨gs,us,rv,wv,rd,wt,rfl,hM,hQ,hsum,fun v hv => ⟨(hrd v hv).1,by have := (hrd v hv).2; omega⟩,fun p hp => ⟨⟨(hwt p hp).1.1,by have := (hwt p hp).1.2; omega⟩,(hwt p hp).2⟩,by omega⟩
  ·have t1 : decide ((k : Int) < ((l.length : Nat) : Int)) = false := decide_eq_false (by omega)
   have t12 : (decide ((k : Int) < ((l.length : Nat) : Int)) && decide ((k : Int) < 100)) = false := by rw [t1]; rfl
   simp -dsimp only [↓WPd,↓Zm,↓Zn,WPu,Za,Zb,Zc,Zd,Ze,Zf,Zg,Zh,Nat.reduceEqDiff,Nat.reduceLT,Zi,Zj,Zk,Zl,Nat.reduceBEq,WPm,t12]
   exact ⟨gs,us,rv,wv,rd,wt,rfl,hM,hQ,hsum,fun v hv => ⟨(hrd v hv).1,by have := (hrd v hv).2; omega⟩,fun p hp => ⟨⟨(hwt p hp).1.1,by have := (hwt p hp).1.2; omega⟩,(hwt p hp).2⟩,by omega⟩
 ·rintro x σ' env ⟨rfl,gs,us,rv,wv,rd,wt,hv,hM,hQ,hsum,hrd,hwt,hgl⟩
  simp only [List.map_cons,List.map_nil,List.cons.injEq,and_true] at hv
  obtain ⟨v0,v1,v5,v7,v8⟩ := hv
  simp -dsimp only [↓WPd,↓Zm,↓Zn,WPu,Za,Zb,Zc,Zd,Ze,Zf,Zg,Zh,Nat.reduceEqDiff,Nat.reduceLT,Zi,Zj,Zk,Zl,Nat.reduceBEq,WPm,v1,v7]
  refine calledW_of (qwake_ok 0 σ' qi rv wv wl ws rd wt hQ hw (by omega) (by omega) (fun p hp => (hwt p hp).2)) ?_
  rintro r σ3 ⟨⟨rv3,hR⟩,k3,w3⟩
  have hM3 := hM.que hQ k3 w3
  have hall : ∀ v ∈ rd ++ wt.map (·.1),0 ≤ v.2 ∧ v.2 < l.length := fun v hv => by
   rcases List.mem_append.1 hv with hv | hv
   ·exact hrd v hv
   ·obtain ⟨p,hp,rfl⟩ := List.mem_map.1 hv
    exact (hwt p hp).1
  have hcnt : (rd ++ wt.map (·.1)).length = gs.length := by simp; omega
  generalize rd ++ wt.map (·.1) = row at hR hall hcnt
  simp -dsimp only [↓WPd,↓Zm,↓Zn,WPu,Za,Zb,Zc,Zd,Ze,Zf,Zg,Zh,Nat.reduceEqDiff,Nat.reduceLT,Zi,Zj,Zk,Zl,Nat.reduceBEq,WPm,v0,v5,v7,v8]
  refine loop_rule2 (fun m xs σ' => ∃ (j : Nat) (rest : List Nm) (rv : AVal),m = rest.length ∧ xs = [lv,.ptr mi 0,.ptr qi 0,.int .i64 gs.length,.int .i64 (j : Nat)] ∧ j + rest.length = gs.length ∧ QueR σ' qi rv rest ∧ MdlS σ' mi g u w gs us ∧ ∀ v ∈ rest,0 ≤ v.2 ∧ v.2 < l.length)
   [5,7,8,11] (fun x xs σ' => x = .exit 2 ∧ ∃ rv,xs = [.ptr mi 0,.ptr qi 0,.int .i64 gs.length,.int .i64 gs.length] ∧ QueR σ' qi rv [] ∧ MdlS σ' mi g u w gs us) row.length
   ⟨0,row,rv3,rfl,?_,by omega,hR,hM3,hall⟩ ?_ ?_
  ·simp -dsimp only [↓WPd,↓Zm,↓Zn,WPu,Za,Zb,Zc,Zd,Ze,Zf,Zg,Zh,Nat.reduceEqDiff,Nat.reduceLT,Zi,Zj,Zk,Zl,Nat.reduceBEq,v0,v5,v7,v8]; rfl
  ·rintro m xs σ4 ⟨j,rest,rv4,rfl,rfl,hj,hR4,hM4,hall4⟩
   simp -dsimp only [↓WPd,↓Zm,↓Zn,WPu,Za,Zb,Zc,Zd,Ze,Zf,Zg,Zh,Nat.reduceEqDiff,Nat.reduceLT,Zi,Zj,Zk,Zl,Nat.reduceBEq,WPm]
   refine calledW_of (qnext_ok 0 σ4 qi rv4 rest hR4) ?_
   have z3 : ∀ (σ : Store) (cs : List AVal),cs.length = 3 → cs.all AVal.one = true → storeV (σ ++ [.cells [.int .i64 0,.int .i64 0,.nilslice]]) 3 (.ptr σ.length 0) (.agg cs) = some (σ ++ [.cells cs]) := fun σ cs h1 h2 => by
    have h : (σ ++ [AObj.cells [.int .i64 0,.int .i64 0,.nilslice]])[σ.length]? = some (.cells [.int .i64 0,.int .i64 0,.nilslice]) := by simp
    rw [storeN_cells (cs' := cs) (n := 3) h rfl h1 h2,set_last]
   cases rest with
   | nil =>
    rintro r σ5 ⟨cs,rfl,hc1,hc2,hR5,g5⟩
    have hjj : j = gs.length := by simpa using hj
    simp -dsimp only [↓WPd,↓Zm,↓Zn,WPu,Za,Zb,Zc,Zd,Ze,Zf,Zg,Zh,Nat.reduceEqDiff,Nat.reduceLT,Zi,Zj,Zk,Zl,Nat.reduceBEq,WPm,List.getElem?_cons_zero,List.getElem?_cons_succ,z3 σ5 cs hc1 hc2]
    exact ⟨rv4,by rw [hjj],hR5.grow (Grows.app _ _),(hM4.grow g5).grow (Grows.app _ _)⟩
   | cons v rest' =>
    rintro r σ5 ⟨x,rv5,rfl,hx,hR5,k5,w5⟩
    have hM5 := hM4.quer hR4 k5 w5
    have hb : (bdC v x).all AVal.one = true := by simp only [bdC,List.all_cons,List.all_nil,hx]; rfl
    have z3' : storeV (σ5 ++ [.cells [.int .i64 0,.int .i64 0,.nilslice]]) 3 (.ptr σ5.length 0) (bdV v x) = some (σ5 ++ [.cells (bdC v x)]) := z3 σ5 (bdC v x) rfl hb
    simp -dsimp only [↓WPd,↓Zm,↓Zn,WPu,Za,Zb,Zc,Zd,Ze,Zf,Zg,Zh,Nat.reduceEqDiff,Nat.reduceLT,Zi,Zj,Zk,Zl,Nat.reduceBEq,WPm,List.getElem?_cons_zero,List.getElem?_cons_succ,z3']
    have o6 : (σ5 ++ [AObj.cells (bdC v x)])[σ5.length]? = some (.cells (bdC v x)) := by simp
    have g6 : Grows σ5 (σ5 ++ [AObj.cells (bdC v x)]) := Grows.app _ _
    generalize σ5 ++ [AObj.cells (bdC v x)] = σ6 at o6 g6
    refine calledW_of (goals_ok 0 σ6 mi g u w gs us (hM5.grow g6) (by omega)) ?_
    rintro r σ7 ⟨hlr,g7⟩
    have o7 := g7.get o6
    obtain ⟨hv1,hv2⟩ := hall4 v List.mem_cons_self
    have b1 : (bdC v x)[0 + 1]? = some (.int .i64 v.2) := rfl
    have b1' : (bdC v x)[1]? = some (.int .i64 v.2) := rfl
    have t1 : decide (v.2 < 0) = false := decide_eq_false (by omega)
    have t2 : decide (v.2 ≥ ((l.length : Nat) : Int)) = false := decide_eq_false (by omega)
    have t3 : (((gs.length : Nat) : Int) != ((gs.length : Nat) : Int)) = false := by simp
    simp -dsimp only [↓WPd,↓Zm,↓Zn,WPu,Za,Zb,Zc,Zd,Ze,Zf,Zg,Zh,Nat.reduceEqDiff,Nat.reduceLT,Zi,Zj,Zk,Zl,Nat.reduceBEq,WPm,faddr_ptr,Nat.zero_add,Nat.add_zero,load_cells o7,b1,b1',t1,ll,t2,hlr,t3]
    simp only [List.length_cons] at hj
    exact ⟨rest'.length,by simp,j + 1,rest',rv5,rfl,by rw [wrap_i64 (by omega) (by omega),Int.natCast_add,Int.natCast_one],by omega,(hR5.grow g6).grow g7,(hM5.grow g6).grow g7,fun v hv => hall4 v (List.mem_cons_of_mem _ hv)⟩
  ·rintro x σ4 env' ⟨rfl,rv4,hv,hR4,hM4⟩
   simp only [List.map_cons,List.map_nil,List.cons.injEq,and_true] at hv
   obtain ⟨u5,u7,u8,u11⟩ := hv
   simp -dsimp only [↓WPd,↓Zm,↓Zn,WPu,Za,Zb,Zc,Zd,Ze,Zf,Zg,Zh,Nat.reduceEqDiff,Nat.reduceLT,Zi,Zj,Zk,Zl,Nat.reduceBEq,WPm,u7]
   refine calledW_of (qlen_ok 0 σ4 qi rv4 [] hR4) ?_
   rintro r σ5 ⟨rfl,rfl⟩
   have t3 : (((gs.length : Nat) : Int) == ((gs.length : Nat) : Int)) = true := by simp
   have t4 : ((((([] : List Nm).length : Nat)) : Int) == 0) = true := rfl
   have t5 : ((0 : Int) == 0) = true := rfl
   simp -dsimp only [↓WPd,↓Zm,↓Zn,WPu,Za,Zb,Zc,Zd,Ze,Zf,Zg,Zh,Nat.reduceEqDiff,Nat.reduceLT,Zi,Zj,Zk,Zl,Nat.reduceBEq,WPm,List.getElem?_cons_zero,List.getElem?_cons_succ,u5,u8,u11,t3,t4,t5]
   refine calledW_of (goals_ok 0 σ5 mi g u w gs us hM4 (by omega)) ?_
   rintro r σ6 ⟨hlr,-⟩
   simp -dsimp only [↓WPd,↓Zm,↓Zn,WPu,Za,Zb,Zc,Zd,Ze,Zf,Zg,Zh,Nat.reduceEqDiff,Nat.reduceLT,Zi,Zj,Zk,Zl,Nat.reduceBEq,WPm,hlr,u8,t3]
end Go.Proofs.YtblofnbfhgjcnaaGreatDoor.Am
namespace Go.Proofs.YtblofnbfhgjcnaaGreatDoor.Am
open Go Go.RowKit Go.ChangeShapes Go.WideShapes Go.ChangeAt Go.Proofs.YtblofnbfhgjcnaaGreatDoor.Rows
section
variable {H : Type}
theorem names_rd {n : Nat} {d : DataW H} (h : Typed Tryz.prog (n + 3) 23 d) (hb : uptoBulk d ≤ 1048576) : ∃ fr : List Nm,(∀ σ : Store,SlOf σ 2 (argV Tryz.prog (n + 3) 23 d) (NN fr)) ∧ fr.length ≤ uptoBulk d := by
 rcases slice_of Tryz.underlying23 h with rfl | ⟨ds,rest,rfl,hd,ha,hb2⟩
 ·exact ⟨[],fun σ => by rw [argV_nil Tryz.underlying23]; exact SlOf.nil σ 2,Nat.zero_le _⟩
 ·obtain ⟨xs,h1,h2,h3,h4⟩ := list_of (R := fun a (v : Nm) => a = nmV v) (size := fun _ => 0) (fun d h => by
   obtain ⟨v,a1,a2⟩ := name_at (n := n) h
   exact ⟨v,by rw [struct_argV Tryz.underlying31,a1]; rfl,Nat.zero_le _⟩) ds hd
  have e : (ds.map fun x => argV Tryz.prog (n + 2) 31 x) = NN xs := by
   refine List.ext_getElem? fun i => ?_
   by_cases hi : i < ds.length
   ·have e1 : (ds.map fun x => argV Tryz.prog (n + 2) 31 x)[i]? = some (argV Tryz.prog (n + 2) 31 ds[i]) := by simp [List.getElem?_eq_getElem hi]
    have e2 : xs[i]? = some (xs[i]'(by omega)) := List.getElem?_eq_getElem (by omega)
    rw [e1,h2 i _ _ e1 e2,List.getElem?_map,e2]; rfl
   ·rw [List.getElem?_eq_none (by simp; omega),List.getElem?_eq_none (by simp; omega)]
  refine ⟨xs,fun σ => ?_,by omega⟩
  rw [ha,e]; exact SlOf.fs _ _ _ _ _
end
theorem flat_sum (f : List Cel → Nat) (hf : ∀ x,x.length ≤ f x) : ∀ xs : List (List Cel),xs.flatten.length ≤ (xs.map f).sum
 | [] => by simp
 | x :: xs => by
  have ih := flat_sum f hf xs
  have := hf x
  simp only [List.flatten_cons,List.length_append,List.map_cons,List.sum_cons]
  omega
section
variable {H : Type}
theorem terms_rd2 {n : Nat} {d : DataW H} (h : Typed Tryz.prog (n + 5) 22 d) (hb : uptoBulk d ≤ 1048576) : ∃ ls : List (List Cel),TA (argV Tryz.prog (n + 5) 22 d) ls ∧ (∀ t ∈ ls,Small t ∧ t.length < 2 ^ 28) ∧ ls.length ≤ uptoBulk d ∧ ls.flatten.length ≤ uptoBulk d := by
 rcases slice_of Tryz.underlying22 h with rfl | ⟨ds,rest,rfl,hd,ha,hb2⟩
 ·exact ⟨[],⟨[],fun σ => by rw [argV_nil Tryz.underlying22]; exact SlOf.nil σ 1,.nil⟩,(fun t ht => by cases ht),Nat.zero_le _,Nat.zero_le _⟩
 ·obtain ⟨xs,h1,h2,h3,h4⟩ := list_of (R := fun a (cs : List Cel) => Told a cs ∧ ∀ c ∈ cs,c.In) (size := fun cs : List Cel => max cs.length (cs.map fun c => c.s.length).sum) (fun d h => by
   obtain ⟨cs,a1,a2,a3,a4⟩ := term_at (n := n) h
   exact ⟨cs,⟨a1,a2⟩,by omega⟩) ds hd
  have hget : ∀ (i : Nat) (cs : List Cel),xs[i]? = some cs → Told ((ds.map fun x => argV Tryz.prog (n + 4) 33 x)[i]?.getD .undef) cs ∧ ∀ c ∈ cs,c.In := fun i cs hi => by
   have hlt := (List.getElem?_eq_some_iff.1 hi).1
   have e1 : (ds.map fun x => argV Tryz.prog (n + 4) 33 x)[i]? = some (argV Tryz.prog (n + 4) 33 (ds[i]'(by omega))) := by simp [List.getElem?_eq_getElem (show i < ds.length by omega)]
   rw [e1]; exact h2 i _ _ e1 hi
  refine ⟨xs,⟨_,fun σ => by rw [ha]; exact SlOf.fs _ _ _ _ _,Two.of_get (by rw [List.length_map]; exact h1.symm) fun i a b h5 h6 => ?_⟩,fun t ht => ?_,by omega,?_⟩
  ·have := (hget i b h6).1; rw [h5] at this; exact this
  ·obtain ⟨i,hi⟩ := List.getElem?_of_mem ht
   have h7 := mem_sum (fun cs : List Cel => max cs.length (cs.map fun c => c.s.length).sum) ht
   have h8 := (hget i t hi).2
   exact ⟨⟨by omega,cells_in (b := 1048576) h8 (by omega) (by omega)⟩,by omega⟩
  ·have := flat_sum (fun cs : List Cel => max cs.length (cs.map fun c => c.s.length).sum) (fun x => Nat.le_max_left _ _) xs
   omega
end
end Go.Proofs.YtblofnbfhgjcnaaGreatDoor.Am
