/-
  The abstract machine and the functions of the law, 8: texts put together.
-/
import Derived.Test.YtelpjaejmneplaaDoorReachWaysPkF
import Derived.Test.YtelpjaejmneplaaDoorReachWaysPkG
import Derived.Test.YtelpjaejmneplaaDoorReachWaysPkC
set_option linter.unusedVariables false
set_option linter.unusedSimpArgs false
set_option linter.unusedSectionVars false
set_option maxRecDepth 100000
namespace Go.Proofs.YtelpjaejmneplaaDoor.Am
open Go
theorem BRows.keeps {σ σ' : Store} {M : Nat → Prop} {lo : Nat} {l : AVal} {us : List AVal} {R : Hp} (h : BRows σ lo l us R) (g : Keeps M σ σ') (hm : ∀ i,i < σ.length → lo ≤ i → ¬ M i) : BRows σ' lo l us R := XRows.keeps h g hm
theorem Told.at {u : AVal} {t : List Cel} (h : Told u t) (σ : Store) : SlOf σ 5 u (CC t) := h σ
theorem XRows.at {σ : Store} {lo sz : Nat} {l : AVal} {es : List AVal} {ps : List (List AVal)} (h : XRows σ lo 1 sz l es es ps) {i : Nat} (hi : i < ps.length) :
  ∃ e,es[i]? = some e ∧ iaddrV 1 l (.int .i64 i) = some (addrOf 1 l i) ∧ loadV σ 1 false (addrOf 1 l i) = some e ∧ Own σ sz e ps[i] ∧ NoLit e := by
 have hi' : i < es.length := by rw [h.len]; exact hi
 have o := h.one i es[i] ps[i] (List.getElem?_eq_getElem hi') (List.getElem?_eq_getElem hi)
 exact ⟨es[i],List.getElem?_eq_getElem hi',h.row.sl.iaddr hi' .i64,h.row.sl.load1 hi' o.one 1,o,h.lit i _ (List.getElem?_eq_getElem hi')⟩
theorem HeapV.none (σ : Store) : HeapV σ .nilptr [] := .inl ⟨rfl,rfl⟩
section
variable (d : Nat) (σ : Store)
end
inductive Repl : List Cel → List Cel → Prop
 | nil : Repl [] []
 | keep (c : Cel) {t r : List Cel} : c.ok = true → Repl t r → Repl (c :: t) (c :: r)
 | put (c : Cel) (w : List Cel) {t r : List Cel} : c.parts = 0 → right w = true → Repl t r → Repl (c :: t) (w ++ r)
theorem Repl.len {t r : List Cel} (h : Repl t r) : t.length ≤ r.length := by
 induction h with
 | nil => exact Nat.le_refl _
 | keep c _ _ ih => simp; omega
 | put c w _ hw _ ih => have := (right_len hw).1; simp; omega
theorem Repl.oks {t r : List Cel} (h : Repl t r) : ∀ c ∈ r,c.ok = true := by
 induction h with
 | nil => simp
 | keep c hc _ ih => 
  intro x hx
  rcases List.mem_cons.1 hx with rfl | hx
  ·exact hc
  ·exact ih x hx
 | put c w _ hw _ ih => 
  intro x hx
  rcases List.mem_append.1 hx with hx | hx
  ·exact right_ok_mem hw hx
  ·exact ih x hx
theorem Repl.ends {L L' : Nat} (hL : L ≤ L') {t r : List Cel} (h : Repl t r) (hl : r.length ≤ L') : ∀ {q a b : Nat},endAt L t q a = a + t.length → 0 < a + t.length → endAt L' r q b = b + r.length := by
 induction h with
 | nil =>
  intro q a b h h0
  cases q with
  | zero => rw [endAt_zero]; rfl
  | succ q => rw [endAt_nil] at h; simp at h h0; omega
 | keep c hc hr ih =>
  intro q a b h h0
  cases q with
  | zero => rw [endAt_zero] at h; simp at h
  | succ q =>
   rw [endAt_cons] at h
   simp only [List.length_cons] at h hl ⊢
   split at h
   ·omega
   ·rename_i hp
    rw [endAt_cons,if_neg (by omega),ih (by omega) (a := a + 1) (b := b + 1) (by omega) (by omega)]
    omega
 | put c w hp hw hr ih =>
  intro q a b h h0
  cases q with
  | zero => rw [endAt_zero] at h; simp at h
  | succ q =>
   rw [endAt_cons] at h
   simp only [List.length_cons,List.length_append] at h hl ⊢
   rw [hp,Nat.add_zero] at h
   split at h
   ·omega
   ·rw [show q + 1 = 1 + q by omega,endAt_right hw (by omega),ih (by omega) (a := a + 1) (b := b + w.length) (by omega) (by omega)]
    omega
theorem Repl.right {t r : List Cel} (h : Repl t r) (ht : right t = true) (hl : r.length ≤ 256) : right r = true := by
 have h1 := (right_len ht).1
 have h2 := h.len
 have he := right_end ht
 have e := h.ends (L := t.length) (L' := r.length) h2 (Nat.le_refl _) (b := 0) he (by omega)
 rw [Nat.zero_add] at e
 have ho : r.all Cel.ok = true := List.all_eq_true.2 h.oks
 simp only [Am.right,Bool.and_eq_true,decide_eq_true_eq]
 exact ⟨⟨⟨by omega,hl⟩,e⟩,ho⟩
theorem Own.noMap {σ : Store} {sz : Nat} {v : AVal} {es ks vs : List AVal} {id : Nat} (h : Own σ sz v es) (ho : σ[id]? = some (.map ks vs)) : v.sid ≠ some id := by
 intro hs
 rcases h.own with ⟨rfl,_⟩ | ⟨t,rfl⟩ | ⟨id',ep,off,cap,xs,epo,fl,rfl,h1,_⟩
 ·cases hs
 ·cases hs
 ·injection hs with hs; subst hs; rw [ho] at h1; cases h1
def Mv (id aid : Nat) (nv : AVal) : Nat → Prop := fun i => i = id ∨ i = aid ∨ nv.sid = some i
structure Att (fm : AVal → List AVal) (σ0 : Store) (id aid : Nat) (σ : Store) (nv : AVal) (s : TSt) : Prop where
 old : Grows σ0 σ
 lid : σ0.length ≤ id
 laid : σ0.length ≤ aid
 lnv : Fresh σ0.length nv
 obj : σ[id]? = some (.cells (fm nv))
 names : Own σ 2 nv (NN s.ws)
 arr : ∃ es,σ[aid]? = some (.arr 1 es 0 0) ∧ Two (fun e t => Own σ 5 e (CC t)) es s.ls
theorem Own.noArr {σ : Store} {sz sz' i ep fl : Nat} {v : AVal} {es xs : List AVal} (h : Own σ sz v es) (ho : σ[i]? = some (.arr sz' xs ep fl)) (hn : sz ≠ sz') : v.sid ≠ some i := by
 intro hv
 rcases h.own with ⟨rfl,_⟩ | ⟨t,rfl⟩ | ⟨id,ep,off,cap,ys,epo,fl,rfl,h1,_⟩
 ·cases hv
 ·cases hv
 ·injection hv with hv
  subst hv
  rw [ho] at h1; injection h1 with h1; injection h1 with h1; exact hn h1.symm
section
variable {fm : AVal → List AVal} {σ0 : Store} {id aid : Nat} {σ σ' : Store} {nv : AVal} {s : TSt}
theorem Att.lt (h : Att fm σ0 id aid σ nv s) : id < σ.length ∧ aid < σ.length := by
 obtain ⟨es,ha,-⟩ := h.arr
 exact ⟨(List.getElem?_eq_some_iff.1 h.obj).1,(List.getElem?_eq_some_iff.1 ha).1⟩
theorem Att.own5 (h : Att fm σ0 id aid σ nv s) {e : AVal} {p : List AVal} (he : Own σ 5 e p) (i : Nat) (hi : e.sid = some i) : ¬ Mv id aid nv i := by
 obtain ⟨es,ha,-⟩ := h.arr
 rintro (rfl | rfl | hv)
 ·exact he.noCell h.obj hi
 ·exact he.noArr ha (by decide) hi
 ·exact he.sizes h.names (by decide) hi hv
theorem Att.keep5 (h : Att fm σ0 id aid σ nv s) {e : AVal} {p : List AVal} (he : Own σ 5 e p) (hk : Keeps (Mv id aid nv) σ σ') : Own σ' 5 e p :=
 he.keeps hk fun i hi => h.own5 he i hi
theorem Att.grow (h : Att fm σ0 id aid σ nv s) (g : Grows σ σ') : Att fm σ0 id aid σ' nv s := by
 obtain ⟨es,ha,ht⟩ := h.arr
 exact ⟨h.old.trans g,h.lid,h.laid,h.lnv,g.get h.obj,h.names.grow g,es,g.get ha,ht.mono fun e t ho => ho.grow g⟩
theorem Mv.trans {nv1 : AVal} {σ1 σ2 : Store} (h1 : Keeps (Mv id aid nv) σ σ1) (hs : ∀ i,nv1.sid = some i → nv.sid = some i ∨ σ.length ≤ i) (h2 : Keeps (Mv id aid nv1) σ1 σ2) : Keeps (Mv id aid nv) σ σ2 :=
 Keeps.trans h1 h2 fun i hi e => by
  rcases e with rfl | rfl | e
  ·exact .inl rfl
  ·exact .inr (.inl rfl)
  ·rcases hs i e with e | e
   ·exact .inr (.inr e)
   ·omega
structure OT (σ : Store) (lo : Nat) (l : AVal) (es : List AVal) (ts : List (List Cel)) : Prop where
 row : Own σ 1 l es
 two : Two (fun e t => Own σ 5 e (CC t)) es ts
 frl : Fresh lo l
theorem ORows.ot {σ : Store} {lo : Nat} {l : AVal} {es : List AVal} {ts : List (List Cel)} (h : ORows σ lo 5 l es (ts.map CC)) : OT σ lo l es ts :=
 ⟨h.row,Two.of_get (by rw [h.len,List.length_map]) fun i a b ha hb => h.one i a (CC b) ha (by rw [List.getElem?_map,hb]; rfl),h.frl⟩
theorem OT.grow {lo : Nat} {l : AVal} {es : List AVal} {ts : List (List Cel)} (h : OT σ lo l es ts) (g : Grows σ σ') : OT σ' lo l es ts :=
 ⟨h.row.grow g,h.two.mono fun e t ho => ho.grow g,h.frl⟩
theorem OT.keep {lo : Nat} {l : AVal} {es : List AVal} {ts : List (List Cel)} (h : OT σ lo l es ts) (ha : Att fm σ0 id aid σ nv s) (h1 : id < lo) (h2 : aid < lo) (hk : Keeps (Mv id aid nv) σ σ') : OT σ' lo l es ts := by
 refine ⟨h.row.keeps hk fun i hi => ?_,h.two.mono fun e t ho => ha.keep5 ho hk,h.frl⟩
 have := h.frl i hi
 rintro (rfl | rfl | hv)
 ·omega
 ·omega
 ·exact h.row.sizes ha.names (by decide) hi hv
theorem OT.at {lo : Nat} {l : AVal} {es : List AVal} {ts : List (List Cel)} (h : OT σ lo l es ts) {i : Nat} (hi : i < ts.length) : ∃ e,iaddrV 1 l (.int .i64 i) = some (addrOf 1 l i) ∧ loadV σ 1 false (addrOf 1 l i) = some e ∧ Own σ 5 e (CC ts[i]) := by
 have hi' : i < es.length := by rw [h.two.len]; exact hi
 obtain ⟨e,he1,he2⟩ := h.two.get hi
 have hee : es[i] = e := by rw [List.getElem?_eq_getElem hi'] at he1; exact Option.some.inj he1
 refine ⟨e,h.row.sl.iaddr hi' .i64,?_,he2⟩
 have := h.row.sl.load1 hi' (by rw [hee]; exact he2.one) 1
 rw [hee] at this; exact this
theorem OT.len {lo : Nat} {l : AVal} {es : List AVal} {ts : List (List Cel)} (h : OT σ lo l es ts) : lenSV l = some ts.length := by
 rw [← h.two.len]; exact h.row.sl.len
end
def StepQ (fm : AVal → List AVal) (σ0 : Store) (id aid : Nat) (res : Option TSt) (s : TSt) (add : Nat) (nv : AVal) (σ : Store) : AVal → Store → Prop := fun r σ' =>
 ∃ (b : Bool) (nv' : AVal) (s' : TSt),r = .bool b ∧ Att fm σ0 id aid σ' nv' s' ∧ Keeps (Mv id aid nv) σ σ' ∧ (∀ i,nv'.sid = some i → nv.sid = some i ∨ σ.length ≤ i) ∧ res = (if b then some s' else none) ∧ s'.ws.length ≤ s.ws.length + add ∧ s'.ls.length = s.ls.length
section
variable (d : Nat)
theorem Two.set {α β : Type} {R : α → β → Prop} {us : List α} {ws : List β} (h : Two R us ws) (j : Nat) {a : α} {b : β} (hr : R a b) : Two R (us.set j a) (ws.set j b) :=
 Two.of_get (by simp [h.len]) fun i x y hx hy => by
  rw [List.getElem?_set] at hx hy
  split at hx
  ·rename_i hij
   rw [if_pos hij] at hy
   split at hx
   ·split at hy
    ·injection hx with hx; injection hy with hy; subst hx; subst hy; exact hr
    ·cases hy
   ·cases hx
  ·rename_i hij
   rw [if_neg hij] at hy
   exact h.at hx hy
theorem StepQ.plain {fm : AVal → List AVal} {σ0 : Store} {id aid : Nat} {res : Option TSt} {s : TSt} {add : Nat} {nv : AVal} {σ σ' : Store} (ha : Att fm σ0 id aid σ nv s) (g : Grows σ σ') (hr : res = none) : StepQ fm σ0 id aid res s add nv σ (.bool false) σ' :=
 ⟨false,nv,s,rfl,ha.grow g,g.any,fun i h => .inl h,by rw [hr]; rfl,by omega,rfl⟩
theorem Att.put {fm : AVal → List AVal} {σ0 : Store} {id aid : Nat} {nv : AVal} {s : TSt} {σ : Store} (ha : Att fm σ0 id aid σ nv s) {j : Nat} {u : AVal} {t : List Cel} (hu : Own σ 5 u (CC t)) (hj : j < s.ls.length) :
  ∃ σ',storeV σ 1 (.eptr aid 0 j 0) u = some σ' ∧ Att fm σ0 id aid σ' nv ⟨s.ls.set j t,s.ws⟩ ∧ Keeps (fun i => i = aid) σ σ' := by
 obtain ⟨es,h1,h2⟩ := ha.arr
 have hj' : j < es.length := by rw [h2.len]; exact hj
 obtain ⟨e,he1,he2⟩ := h2.get hj
 have hee : es[j] = e := by rw [List.getElem?_eq_getElem hj'] at he1; exact Option.some.inj he1
 have st := arr_store1 h1 hj' hu.one (by rw [hee]; exact he2.one)
 have k := Keeps.set σ aid (.arr 1 (es.set j u) 0 0)
 have hne : id ≠ aid := fun e => by have a := ha.obj; rw [e,h1] at a; cases a
 refine ⟨_,st,⟨?_,ha.lid,ha.laid,ha.lnv,k.get ha.obj hne,ha.names.keeps k fun i hi e => ha.names.noArr h1 (by decide) (by rw [← e]; exact hi),es.set j u,get_set h1,?_⟩,k⟩
 ·exact Keeps.trans ha.old k fun i hi e => by have := ha.laid; omega
 ·refine Two.set (h2.mono fun e t ho => ho.keeps k fun i hi e' => ho.noArr h1 (by decide) (by rw [← e']; exact hi)) j ?_
  exact hu.keeps k fun i hi e' => hu.noArr h1 (by decide) (by rw [← e']; exact hi)
theorem Att.get {fm : AVal → List AVal} {σ0 : Store} {id aid : Nat} {nv : AVal} {s : TSt} {σ : Store} (ha : Att fm σ0 id aid σ nv s) {j : Nat} (hj : j < s.ls.length) : ∃ e,loadV σ 1 false (.eptr aid 0 j 0) = some e ∧ lenSV e = some (s.ls[j]).length := by
 obtain ⟨es,h1,h2⟩ := ha.arr
 have hj' : j < es.length := by rw [h2.len]; exact hj
 obtain ⟨e,he1,he2⟩ := h2.get hj
 have hee : es[j] = e := by rw [List.getElem?_eq_getElem hj'] at he1; exact Option.some.inj he1
 refine ⟨e,?_,by have := he2.sl.len; rwa [List.length_map] at this⟩
 rw [arr_load1 h1 (Nat.le_refl _) hj' (by rw [hee]; exact he2.one),hee]
end
section
variable (d : Nat)
structure Tried (fm : AVal → List AVal) (σ0 : Store) (id aid : Nat) (F : TSt → List Cel → List Cel → Option TSt) (s : TSt) (azs bs : List (List Cel)) (lo : Nat) (al bl : AVal) (es fs : List AVal) (nv : AVal) (σ2 σ' : Store) (k : Nat) (nk : AVal) (sk : TSt) : Prop where
 att : Att fm σ0 id aid σ' nk sk
 keep : Keeps (Mv id aid nv) σ2 σ'
 nam : ∀ i,nk.sid = some i → nv.sid = some i ∨ σ2.length ≤ i
 ra : OT σ' lo al es azs
 rb : OT σ' lo bl fs bs
 res : foldO F s azs bs = foldO F sk (azs.drop k) (bs.drop k)
 ws : sk.ws.length ≤ s.ws.length + (azs.take k).flatten.length
 ls : sk.ls.length = s.ls.length
theorem Tried.step {fm : AVal → List AVal} {σ0 : Store} {id aid : Nat} {F : TSt → List Cel → List Cel → Option TSt} {s : TSt} {azs bs : List (List Cel)} {lo : Nat} {al bl : AVal} {es fs : List AVal} {nv : AVal} {σ2 σ' : Store} {k : Nat} {nk : AVal} {sk : TSt} (h : Tried fm σ0 id aid F s azs bs lo al bl es fs nv σ2 σ' k nk sk)
  (hk : k < azs.length) (hb : k < bs.length) (h1 : id < lo) (h2 : aid < lo) {σ3 : Store} {r : AVal} (hq : StepQ fm σ0 id aid (F sk azs[k] bs[k]) sk (azs[k]).length nk σ' r σ3) :
  ∃ b : Bool,r = .bool b ∧ ∃ nk' sk',Att fm σ0 id aid σ3 nk' sk' ∧ Keeps (Mv id aid nv) σ2 σ3 ∧ (∀ i,nk'.sid = some i → nv.sid = some i ∨ σ2.length ≤ i) ∧ sk'.ws.length ≤ s.ws.length + (azs.take (k + 1)).flatten.length ∧ sk'.ls.length = s.ls.length ∧ (b = true → Tried fm σ0 id aid F s azs bs lo al bl es fs nv σ2 σ3 (k + 1) nk' sk') ∧ (b = false → foldO F s azs bs = none) := by
 obtain ⟨b,nk',sk',rfl,a1,a2,a3,a4,a5,a6⟩ := hq
 have hfs := flat_step hk
 have stp := foldO_step (f := F) (s := sk) hk hb
 have c1 := Mv.trans h.keep h.nam a2
 have c2 : ∀ i,nk'.sid = some i → nv.sid = some i ∨ σ2.length ≤ i := fun i hi => (a3 i hi).elim (h.nam i) (fun e => .inr (by have := h.keep.1; omega))
 have c3 : sk'.ws.length ≤ s.ws.length + (azs.take (k + 1)).flatten.length := by have := h.ws; omega
 have c4 : sk'.ls.length = s.ls.length := by rw [a6]; exact h.ls
 refine ⟨b,rfl,nk',sk',a1,c1,c2,c3,c4,fun hb' => ?_,fun hb' => ?_⟩
 ·refine ⟨a1,c1,c2,h.ra.keep h.att h1 h2 a2,h.rb.keep h.att h1 h2 a2,?_,c3,c4⟩
  rw [h.res,stp,a4,hb']; rfl
 ·rw [h.res,stp,a4,hb']; rfl
end
theorem HeapV.one {σ : Store} {hv : AVal} {H : Hp} (h : HeapV σ hv H) : hv.one = true := by
 rcases h with ⟨rfl,_⟩ | ⟨id,mid,vs,rfl,_⟩ <;> rfl
theorem RefV.one {σ : Store} {rv : AVal} {R : Hp} (h : RefV σ rv R) : rv.one = true := by
 rcases h with ⟨rfl,_⟩ | ⟨id,A,rfl,_⟩ <;> rfl
def TryOk (σ : Store) (r : AVal) (x : TryR) : Prop := ∃ lv wv,r = .agg (tryC x.k lv wv) ∧ Terms σ lv x.ls ∧ SlOf σ 2 wv (NN x.ws)
theorem TryOk.grow {σ σ' : Store} {r : AVal} {x : TryR} (h : TryOk σ r x) (g : Grows σ σ') : TryOk σ' r x := by
 obtain ⟨lv,wv,h1,h2,h3⟩ := h
 exact ⟨lv,wv,h1,h2.grow g,h3.grow g⟩
theorem Terms.one {σ : Store} {l : AVal} {ts : List (List Cel)} (h : Terms σ l ts) : l.one = true := by obtain ⟨es,h1,-⟩ := h; exact h1.one
theorem try_told {σ σ0 : Store} {i k : Nat} {lv wv : AVal} {x : TryR} (ho : σ[i]? = some (.cells tryZ)) (hk : x.k = k) (h1 : Terms σ lv x.ls) (h2 : SlOf σ 2 wv (NN x.ws)) (hi : σ0.length ≤ i) (g : Grows σ0 σ) (n1 : ∀ j,lv.sid = some j → j ≠ i) (n2 : ∀ j,wv.sid = some j → j ≠ i) (n3 : ∀ (es : List AVal) (e : AVal) (j : Nat),SlOf σ 1 lv es → e ∈ es → e.sid = some j → j ≠ i) :
  ∃ σ',storeV σ 4 (.ptr i 0) (.agg (tryC k lv wv)) = some σ' ∧ loadV σ' 4 true (.ptr i 0) = some (.agg (tryC k lv wv)) ∧ Grows σ0 σ' ∧ TryOk σ' (.agg (tryC k lv wv)) x := by
 obtain ⟨p1,p2⟩ := try_put (σ' := σ) (k := k) ho h1.one h2.one
 have kk := Keeps.set σ i (.cells (tryC k lv wv))
 refine ⟨_,p1,p2,Keeps.trans g kk fun j hj e => by omega,lv,wv,by rw [hk],?_,h2.keeps kk fun j hj e => n2 j hj e⟩
 obtain ⟨es,a1,a2⟩ := h1
 refine ⟨es,a1.keeps kk fun j hj e => n1 j hj e,a2.mono_mem fun e t he ht hs => hs.keeps kk fun j hj e' => n3 es e j a1 he hj e'⟩
theorem Att.new (fm : AVal → List AVal) (σ : Store) (n : Nat) : Att fm σ (σ.length + 1) σ.length ((σ ++ [.arr 1 (List.replicate n .nilslice) 0 0]) ++ [.cells (fm .nilslice)]) .nilslice ⟨List.replicate n [],[]⟩ := by
 refine ⟨Grows.trans (Grows.app _ _) (Grows.app _ _),by omega,Nat.le_refl _,Fresh.nil _,by simp,Own.nil _ _,List.replicate n .nilslice,by simp,?_⟩
 refine Two.of_get (by simp) fun i a b ha hb => ?_
 rw [List.getElem?_replicate] at ha hb
 by_cases h : i < n
 ·rw [if_pos h] at ha hb
  cases ha; cases hb; exact Own.nil _ _
 ·rw [if_neg h] at ha
  cases ha
theorem Att.terms {fm : AVal → List AVal} {σ0 : Store} {id aid : Nat} {nv : AVal} {s : TSt} {σ : Store} (ha : Att fm σ0 id aid σ nv s) : ∃ es,Own σ 1 (.slice 1 aid 0 0 s.ls.length (some s.ls.length)) es ∧ Two (fun e t => Own σ 5 e (CC t)) es s.ls := by
 obtain ⟨es,h1,h2⟩ := ha.arr
 refine ⟨es,⟨.inr (.inr ⟨aid,0,0,some s.ls.length,es,0,0,by rw [h2.len],h1,Nat.le_refl _,by simp,fun _ => by simp,.inr (by rw [h2.len])⟩)⟩,h2⟩
section
variable (d : Nat) (σ : Store)
end
section
variable (d : Nat) (σ : Store)
end
theorem TryOk.put {σ σ0 : Store} {i : Nat} {r : AVal} {x : TryR} (h : TryOk σ r x) (ho : σ[i]? = some (.cells tryZ)) (hi : σ0.length ≤ i) (g : Grows σ0 σ) :
  ∃ σ',storeV σ 4 (.ptr i 0) r = some σ' ∧ loadV σ' 4 true (.ptr i 0) = some r ∧ Grows σ0 σ' ∧ TryOk σ' r x := by
 obtain ⟨lv,wv,rfl,h2,h3⟩ := h
 have h2' := h2
 obtain ⟨es,a1,a2⟩ := h2'
 refine try_told ho rfl h2 h3 hi g (fun j h e => a1.noCell ho (by rw [← e]; exact h)) (fun j h e => h3.noCell ho (by rw [← e]; exact h)) (fun fs e j hf he hj e' => ?_)
 have : fs = es := Option.some.inj (hf.1.symm.trans a1.1)
 subst this
 obtain ⟨b,_,hb⟩ := a2.mem_left he
 exact hb.noCell ho (by rw [← e']; exact hj)
theorem Terms.lit {σ : Store} {v : AVal} {p : List Cel} (tg : Nat) (h : SlOf σ 5 v (CC p)) : Terms σ (.fslice tg true 1 [v]) [p] := ⟨[v],SlOf.fs _ _ _ _ _,Two.one h⟩
theorem I64.of {i : Int} (h : I64 i) : -9223372036854775808 ≤ i ∧ i < 9223372036854775808 := h
section
variable (d : Nat) (σ : Store)
theorem rvarsof_ok (pv : AVal) (p : List Cel) (sp : Small p) (hp : SlOf σ 5 pv (CC p)) : Called CU.cfg d 11 [pv] σ fun r σ' => Grows σ σ' ∧ Own σ' 2 r (NN (varsL [] p)) := by
 refine called_of (fn := CU.a11) rfl (Nat.le_of_ble_eq_true rfl) ?_
 simp only [CU.a11, CU.o]
 simp -dsimp only [↓WPd,↓Zm,↓Zn,WPu,Za,Zb,Zc,Zd,Ze,Zf,Zg,Zh,Nat.reduceEqDiff,Nat.reduceLT,Zi,Zj,Zk,Zl,Nat.reduceBEq,lit1_ok hp.one]
 refine calledW_of (rvars_ok d σ _ [p] (by simpa using sp.1) (by simp) (Terms.lit _ hp)) ?_
 rintro l σ2 ⟨g2,ol,-⟩
 have hfl : [p].flatten = p := by simp
 rw [hfl] at ol
 simp -dsimp only [↓WPd,↓Zm,↓Zn,WPu,Za,Zb,Zc,Zd,Ze,Zf,Zg,Zh,Nat.reduceEqDiff,Nat.reduceLT,Zi,Zj,Zk,Zl,Nat.reduceBEq]
 exact ⟨g2,ol⟩
end
section
variable (d : Nat) (σ : Store)
end
theorem find_names (v : Nm) : ∀ (l : List Nm),∃ o : Option Nat,findK true [.i,.i] (nmV v) (l.map nmV) = some o ∧ (match o with | some i => l[i]? = some v | none => v ∉ l)
 | [] => ⟨none,rfl,by simp⟩
 | p :: r => by
  obtain ⟨o,h1,h2⟩ := find_names v r
  by_cases e : v = p
  ·refine ⟨some 0,?_,by simp [e]⟩
   simp only [List.map_cons,findK,nm_keyEq,decide_eq_true e]
  ·refine ⟨o.map (· + 1),?_,?_⟩
   ·simp only [List.map_cons,findK,nm_keyEq,decide_eq_false e,h1]
    cases o <;> rfl
   ·cases o with
    | none => simp only [Option.map_none]; simp only at h2; simp [e,h2]
    | some i => simpa using h2
structure WayS (σ : Store) (fi li mid : Nat) (lv : AVal) (l bs : List Nm) : Prop where
 fc : σ[fi]? = some (.cells [.map mid])
 lc : σ[li]? = some (.cells [lv])
 mc : σ[mid]? = some (.map (l.map nmV) (bs.map nmV))
 len : bs.length = l.length
 own : Own σ 2 lv (NN l)
 nilc : l = [] → lv = .nilslice
theorem WayS.grow {σ σ' : Store} {fi li mid : Nat} {lv : AVal} {l bs : List Nm} (h : WayS σ fi li mid lv l bs) (g : Grows σ σ') : WayS σ' fi li mid lv l bs :=
 ⟨g.get h.fc,g.get h.lc,g.get h.mc,h.len,h.own.grow g,h.nilc⟩
def ComeT (mid li : Nat) (lv : AVal) (i : Nat) : Prop := i = mid ∨ i = li ∨ lv.sid = some i
set_option maxHeartbeats 1000000 in
theorem come_ok (d : Nat) (σ : Store) (fi li mid : Nat) (lv : AVal) (l bs : List Nm) (v b : Nm) (h : WayS σ fi li mid lv l bs) (hl : l.length < 2 ^ 40) :
  Called CU.cfg d 56 [nmV v,nmV b,.ptr fi 0,.ptr li 0] σ fun r σ' => (∃ lv',WayS σ' fi li mid lv' (addN l v) (addB l bs v b) ∧ ∀ i,lv'.sid = some i → lv.sid = some i ∨ σ.length ≤ i) ∧ Keeps (ComeT mid li lv) σ σ' := by
 refine called_of (fn := CU.a56) rfl (Nat.le_of_ble_eq_true rfl) ?_
 simp only [CU.a56, CU.o]
 simp -dsimp only [↓WPd,↓Zm,↓Zn,WPu,Za,Zb,Zc,Zd,Ze,Zf,Zg,Zh,Nat.reduceEqDiff,Nat.reduceLT,Zi,Zj,Zk,Zl,Nat.reduceBEq,WPm,nm_cells,nm_one]
 have ov : (σ ++ [AObj.cells (nmC v)] ++ [AObj.cells (nmC b)])[σ.length]? = some (.cells (nmC v)) := by simp
 have ob : (σ ++ [AObj.cells (nmC v)] ++ [AObj.cells (nmC b)])[(σ ++ [AObj.cells (nmC v)]).length]? = some (.cells (nmC b)) := by simp
 have g0 : Grows σ (σ ++ [AObj.cells (nmC v)] ++ [AObj.cells (nmC b)]) := (Grows.app _ _).trans (Grows.app _ _)
 have hbl : σ.length < (σ ++ [AObj.cells (nmC v)]).length := by simp
 generalize (σ ++ [AObj.cells (nmC v)]).length = ib at ob hbl
 generalize σ ++ [AObj.cells (nmC v)] ++ [AObj.cells (nmC b)] = σ1 at ov ob g0
 have h1 := h.grow g0
 obtain ⟨o,f1,f2⟩ := find_names v l
 have hk : keyEq true [.i,.i] (nmV v) (nmV v) = some true := by rw [nm_keyEq,decide_eq_true rfl]
 have hf : findKK true [.i,.i] (nmV v) (l.map nmV) = some o := by simp only [findKK,hk,Option.isSome_some,if_true,f1]
 have hm : mapOf σ1 (.map mid) = some (l.map nmV,bs.map nmV) := by simp only [mapOf,h1.mc]
 have e1 : ([AVal.map mid] : List AVal)[0]? = some (.map mid) := rfl
 have e2 : ([lv] : List AVal)[0]? = some lv := rfl
 obtain ⟨x,hlook⟩ : ∃ x : Nm,lookupV σ1 true [.i,.i] (.agg [.int .i64 0,.int .i64 0]) (.map mid) (nmV v) true = some (.tuple [nmV x,.bool o.isSome]) := by
  cases o with
  | none => exact ⟨(0,0),by simp only [lookupV,hm,hf]; rfl⟩
  | some i =>
   have hi : i < bs.length := by rw [h.len]; exact (List.getElem?_eq_some_iff.1 f2).1
   have e : (bs.map nmV)[i]? = some (nmV bs[i]) := by simp [hi]
   exact ⟨bs[i],by simp only [lookupV,hm,hf,e,Option.map_some]; rfl⟩
 simp -dsimp only [↓WPd,↓Zm,↓Zn,WPu,Za,Zb,Zc,Zd,Ze,Zf,Zg,Zh,Nat.reduceEqDiff,Nat.reduceLT,Zi,Zj,Zk,Zl,Nat.reduceBEq,WPm,load_cells h1.fc,e1,load_nm ov,hlook,List.getElem?_cons_zero,List.getElem?_cons_succ,nm_putB]
 have g2 : Grows σ1 (σ1 ++ [AObj.cells (nmC x)]) := Grows.app _ _
 generalize σ1 ++ [AObj.cells (nmC x)] = σ2 at g2
 have h2 := h1.grow g2
 have ov2 := g2.get ov
 have ob2 := g2.get ob
 have g02 := g0.trans g2
 have hr : ∀ s : FS,resultsA [] s = some (.tuple []) := fun _ => rfl
 cases o with
 | some i =>
  have hc : l.contains v = true := by simpa using List.mem_of_getElem? f2
  have ha : addN l v = l := by unfold addN; rw [if_pos hc]
  simp -dsimp only [↓WPd,↓Zm,↓Zn,WPu,Za,Zb,Zc,Zd,Ze,Zf,Zg,Zh,Nat.reduceEqDiff,Nat.reduceLT,Zi,Zj,Zk,Zl,Nat.reduceBEq,WPm,Option.isSome_some,hr]
  have hb : addB l bs v b = bs := by unfold addB; rw [if_pos hc]
  rw [ha,hb]
  exact ⟨⟨lv,h2,fun i hi => .inl hi⟩,g02.any⟩
 | none =>
  have hc : ¬ l.contains v = true := by simpa using f2
  have ha : addN l v = l ++ [v] := by unfold addN; rw [if_neg hc]
  have hb : addB l bs v b = bs ++ [b] := by unfold addB; rw [if_neg hc]
  rw [ha,hb]
  have hset : mapsetV σ2 true [.i,.i] (.map mid) (nmV v) (nmV b) = some (σ2.set mid (.map (l.map nmV ++ [nmV v]) (bs.map nmV ++ [nmV b]))) := by simp only [mapsetV,h2.mc,hf]
  have k3 : Keeps (fun i => i = mid) σ2 (σ2.set mid (.map (l.map nmV ++ [nmV v]) (bs.map nmV ++ [nmV b]))) := Keeps.set _ _ _
  have m3 : (σ2.set mid (.map (l.map nmV ++ [nmV v]) (bs.map nmV ++ [nmV b])))[mid]? = some (.map (l.map nmV ++ [nmV v]) (bs.map nmV ++ [nmV b])) := get_set h2.mc
  simp -dsimp only [↓WPd,↓Zm,↓Zn,WPu,Za,Zb,Zc,Zd,Ze,Zf,Zg,Zh,Nat.reduceEqDiff,Nat.reduceLT,Zi,Zj,Zk,Zl,Nat.reduceBEq,WPm,Option.isSome_none,load_cells h2.fc,e1,load_nm ov2,load_nm ob2,hset]
  generalize σ2.set mid (.map (l.map nmV ++ [nmV v]) (bs.map nmV ++ [nmV b])) = σ3 at k3 m3
  have nmid : fi ≠ mid ∧ li ≠ mid := ⟨(fun e => by have := h2.fc; rw [e,h2.mc] at this; cases this),(fun e => by have := h2.lc; rw [e,h2.mc] at this; cases this)⟩
  have nfl : fi ≠ li := fun e => by
   have := h2.fc
   rw [e,h2.lc] at this
   injection this with this; injection this with this; injection this with this
   exact absurd h2.own.sl.len (by rw [this]; simp [lenSV])
  have hmlt : mid < σ.length := (List.getElem?_eq_some_iff.1 h.mc).1
  have f3 := k3.get h2.fc nmid.1
  have l3 := k3.get h2.lc nmid.2
  have w3 := h2.own.keeps k3 fun i hi e => h2.own.noMap h2.mc (e ▸ hi)
  have ov3 := k3.get ov2 (by omega)
  obtain ⟨y,σ4,a1,a2,a3,a4,a5⟩ := w3.append [nmV v] 16 (by rw [List.length_map]; simp; omega)
  have lit : fillL 2 true (List.replicate 1 (zel [AVal.int IntKind.i64 0,AVal.int IntKind.i64 0] true)) [(0,nmV v)] = some [nmV v] := rfl
  have fl := elems_fs 2 (AVal.tagL [nmV v]) true σ3 [nmV v]
  have l4 := a3.get l3 (fun e => w3.noCell l3 e)
  have f4 := a3.get f3 (fun e => w3.noCell f3 e)
  have m4 := a3.get m3 (fun e => w3.noMap m3 e)
  have st := store_cells l4 (off := 0) (v := y) (by simp) a2.one
  simp -dsimp only [↓WPd,↓Zm,↓Zn,WPu,Za,Zb,Zc,Zd,Ze,Zf,Zg,Zh,Nat.reduceEqDiff,Nat.reduceLT,Zi,Zj,Zk,Zl,Nat.reduceBEq,WPm,load_cells l3,e2,load_nm ov3,lit,fl,a1,st,hr]
  have k5 : Keeps (fun i => i = li) σ4 (σ4.set li (.cells [y])) := Keeps.set _ _ _
  refine ⟨⟨y,⟨k5.get f4 nfl,get_set l4,?_,by simp [h.len],?_,fun e => by simp at e⟩,fun i hi => ?_⟩,?_⟩
  ·have := k5.get m4 (fun e => nmid.2 e.symm)
   simpa using this
  ·have e : NN (l ++ [v]) = NN l ++ [nmV v] := by simp [NN]
   rw [e]
   exact a2.keeps k5 fun i hi e => a2.noCell l4 (e ▸ hi)
  ·rcases a4 i hi with e | e
   ·exact .inl e
   ·have := g02.1; have := k3.1; exact .inr (by omega)
  ·refine Keeps.trans (Keeps.trans (Keeps.trans (g02.any (M := ComeT mid li lv)) k3 fun i hi e => ?_) a3 fun i hi e => ?_) k5 fun i hi e => ?_
   ·exact .inl e
   ·exact .inr (.inr e)
   ·exact .inr (.inl e)
theorem nextn_ok (d : Nat) (σ : Store) (hv : AVal) (H : Hp) (hw : WF H) (v : Nm) (h : HeapV σ hv H) : Called CU.cfg d 51 [hv,nmV v] σ fun r σ' => Grows σ σ' ∧ Own σ' 2 r (NN (stepN H v)) ∧ Fresh σ.length r := by
 refine called_of (fn := CU.a51) rfl (Nat.le_of_ble_eq_true rfl) ?_
 simp only [CU.a51, CU.o]
 simp -dsimp only [↓WPd,↓Zm,↓Zn,WPu,Za,Zb,Zc,Zd,Ze,Zf,Zg,Zh,Nat.reduceEqDiff,Nat.reduceLT,Zi,Zj,Zk,Zl,Nat.reduceBEq,WPm,nm_cells,nm_one]
 have ho : (σ ++ [AObj.cells (nmC v)])[σ.length]? = some (.cells (nmC v)) := by simp
 have g0 : Grows σ (σ ++ [AObj.cells (nmC v)]) := Grows.app _ _
 have h1 := h.grow g0
 generalize σ ++ [AObj.cells (nmC v)] = σ1 at ho g0 h1
 have hsh := hw.lk_short v
 simp -dsimp only [↓WPd,↓Zm,↓Zn,WPu,Za,Zb,Zc,Zd,Ze,Zf,Zg,Zh,Nat.reduceEqDiff,Nat.reduceLT,Zi,Zj,Zk,Zl,Nat.reduceBEq,WPm,load_nm ho]
 refine calledW_of (hvalue_ok d σ1 hv H v h1 (by omega)) ?_
 rintro r σ2 ⟨u,rfl,ou,-,-,g2⟩
 have e1 : fillL 1 false (List.replicate 1 (zel [AVal.nilslice] false)) [(0,u)] = some [u] := by
  have hu := ou.one
  have hc : u.cells = [u] := by cases u <;> simp_all [AVal.one]
  have h1 : [u].all AVal.one = true := by simp only [List.all_cons,List.all_nil,hu]; rfl
  have h2 : isAggV u = false := by cases u <;> first | (cases hu; done) | rfl
  simp only [fillL,hc,h1,h2]
  rfl
 simp -dsimp only [↓WPd,↓Zm,↓Zn,WPu,Za,Zb,Zc,Zd,Ze,Zf,Zg,Zh,Nat.reduceEqDiff,Nat.reduceLT,Zi,Zj,Zk,Zl,Nat.reduceBEq,WPm,List.getElem?_cons_zero,List.getElem?_cons_succ,e1]
 refine calledW_of (vars_ok d σ2 _ [(lk H v).getD []] (by simp; omega) (by simp) (Terms.lit _ ou.sl)) ?_
 rintro r σ3 ⟨g3,or,fr⟩
 have hfl : [(lk H v).getD []].flatten = (lk H v).getD [] := by simp
 rw [hfl] at or
 simp -dsimp only [↓WPd,↓Zm,↓Zn,WPu,Za,Zb,Zc,Zd,Ze,Zf,Zg,Zh,Nat.reduceEqDiff,Nat.reduceLT,Zi,Zj,Zk,Zl,Nat.reduceBEq]
 exact ⟨(g0.trans g2).trans g3,or,fr.le (g0.trans g2).1⟩
theorem names_load {σ : Store} {l : AVal} {ws : List Nm} (hl : SlOf σ 2 l (NN ws)) {i : Nat} (hi : i < ws.length) : iaddrV 2 l (.int .i64 i) = some (addrOf 2 l i) ∧ loadV σ 2 true (addrOf 2 l i) = some (nmV ws[i]) := names_at hl hi
theorem adds_len (l ws : List Nm) : (adds l ws).length ≤ l.length + ws.length := by
 induction ws generalizing l with
 | nil => simp [adds]
 | cons v ws ih =>
  have := ih (addN l v)
  have h2 := addN_len l v
  simp only [adds,List.foldl_cons,List.length_cons] at this ⊢
  omega
theorem set_here {σ : Store} {i : Nat} {o : AObj} (h : σ[i]? = some o) : σ.set i o = σ := by
 apply List.ext_getElem?
 intro j
 rw [List.getElem?_set]
 split
 ·rename_i e
  subst e
  rw [h,if_pos (List.getElem?_eq_some_iff.1 h).1]
 ·rfl
set_option maxHeartbeats 4000000 in
theorem walk_ok (d : Nat) (σ : Store) (hv : AVal) (H : Hp) (hw : WF H) (hH : H.length < 2 ^ 28) (rsv : AVal) (rs : List Nm) (h : HeapV σ hv H) (hr : SlOf σ 2 rsv (NN rs)) (hrs : rs.length < 2 ^ 38) :
  Called CU.cfg d 30 [hv,rsv] σ fun r σ' => Grows σ σ' ∧ ∃ (lv : AVal) (mid : Nat) (l bs : List Nm),r = .tuple [lv,.map mid] ∧ Own σ' 2 lv (NN l) ∧ Fresh σ.length lv ∧ l.Nodup ∧ (∀ v,v ∈ l ↔ Rea H rs v) ∧ σ'[mid]? = some (.map (l.map nmV) (bs.map nmV)) ∧ σ.length ≤ mid ∧ (l = [] → lv = .nilslice) ∧ Come H rs l bs := by
 refine called_of (fn := CU.a30) rfl (Nat.le_of_ble_eq_true rfl) ?_
 simp only [CU.a30, CU.o]
 have hu := univ_len hw rs
 have hu2 : (univ H rs).length < 2 ^ 39 := by omega
 simp -dsimp only [↓WPd,↓Zm,↓Zn,WPu,Za,Zb,Zc,Zd,Ze,Zf,Zg,Zh,Nat.reduceEqDiff,Nat.reduceLT,Zi,Zj,Zk,Zl,Nat.reduceBEq,WPm]
 have oL : (σ ++ [AObj.cells [.nilslice]] ++ [AObj.cells [.nilmap]] ++ [AObj.map [] []])[σ.length]? = some (.cells [.nilslice]) := by simp
 have oF : (σ ++ [AObj.cells [.nilslice]] ++ [AObj.cells [.nilmap]] ++ [AObj.map [] []])[(σ ++ [AObj.cells [.nilslice]]).length]? = some (.cells [.nilmap]) := by simp
 have oM : (σ ++ [AObj.cells [.nilslice]] ++ [AObj.cells [.nilmap]] ++ [AObj.map [] []])[(σ ++ [AObj.cells [.nilslice]] ++ [AObj.cells [.nilmap]]).length]? = some (.map [] []) := by simp
 have gA : Grows σ (σ ++ [AObj.cells [.nilslice]] ++ [AObj.cells [.nilmap]] ++ [AObj.map [] []]) := ((Grows.app _ _).trans (Grows.app _ _)).trans (Grows.app _ _)
 have lf : σ.length < (σ ++ [AObj.cells [.nilslice]]).length := by simp
 have lm : (σ ++ [AObj.cells [.nilslice]]).length < (σ ++ [AObj.cells [.nilslice]] ++ [AObj.cells [.nilmap]]).length := by simp
 generalize (σ ++ [AObj.cells [.nilslice]] ++ [AObj.cells [.nilmap]]).length = mid at oM lm
 generalize (σ ++ [AObj.cells [.nilslice]]).length = fi at oF lf lm
 generalize σ ++ [AObj.cells [.nilslice]] ++ [AObj.cells [.nilmap]] ++ [AObj.map [] []] = σ3 at oL oF oM gA
 have st := store_cells oF (off := 0) (v := .map mid) (by simp) rfl
 have k4 : Keeps (fun i => i = fi) σ3 (σ3.set fi (.cells ([.nilmap].set 0 (.map mid)))) := Keeps.set _ _ _
 have f4 : (σ3.set fi (.cells ([.nilmap].set 0 (.map mid))))[fi]? = some (.cells [.map mid]) := get_set oF
 generalize σ3.set fi (.cells ([.nilmap].set 0 (.map mid))) = σ4 at st k4 f4
 generalize hli : σ.length = li at oL lf
 have l4 := k4.get oL (by omega)
 have m4 := k4.get oM (by omega)
 have g4 : Grows σ σ4 := Keeps.trans gA k4 fun i hi e => by omega
 have W4 : WayS σ4 fi li mid .nilslice [] [] := ⟨f4,l4,m4,rfl,Own.nil _ _,fun _ => rfl⟩
 have lr := (hr.grow g4).len
 rw [List.length_map] at lr
 simp -dsimp only [↓WPd,↓Zm,↓Zn,WPu,Za,Zb,Zc,Zd,Ze,Zf,Zg,Zh,Nat.reduceEqDiff,Nat.reduceLT,Zi,Zj,Zk,Zl,Nat.reduceBEq,WPm,st,lr]
 refine loop_rule2 (fun m xs σ' => ∃ (k : Nat) (lv : AVal) (bs : List Nm),k ≤ rs.length ∧ m = rs.length - k ∧ xs = [hv,.ptr li 0,.ptr fi 0,.func 56 [] [.ptr fi 0,.ptr li 0],rsv,.int .i64 rs.length,.int .i64 (k : Nat)] ∧ Grows σ σ' ∧ WayS σ' fi li mid lv (adds [] (rs.take k)) bs ∧ Fresh li lv ∧ Come H rs (adds [] (rs.take k)) bs)
  [0,4,5,6] (fun e xs σ' => e = .exit 0 ∧ xs = [hv,.ptr li 0,.ptr fi 0,.func 56 [] [.ptr fi 0,.ptr li 0]] ∧ Grows σ σ' ∧ ∃ lv bs,WayS σ' fi li mid lv (adds [] rs) bs ∧ Fresh li lv ∧ Come H rs (adds [] rs) bs) rs.length
  ⟨0,.nilslice,[],Nat.zero_le _,rfl,?_,g4,W4,Fresh.nil _,Come.nil H rs⟩ ?_ ?_
 ·simp -dsimp only [↓WPd,↓Zm,↓Zn,WPu,Za,Zb,Zc,Zd,Ze,Zf,Zg,Zh,Nat.reduceEqDiff,Nat.reduceLT,Zi,Zj,Zk,Zl,Nat.reduceBEq]; rfl
 ·rintro m xs σ' ⟨k,lv,bs,hk,rfl,rfl,g,W,fl,cm⟩
  simp -dsimp only [↓WPd,↓Zm,↓Zn,WPu,Za,Zb,Zc,Zd,Ze,Zf,Zg,Zh,Nat.reduceEqDiff,Nat.reduceLT,Zi,Zj,Zk,Zl,Nat.reduceBEq]
  refine condP_dec (fun hc => ?_) (fun hc => ?_)
  ·have hk' : k < rs.length := by omega
   obtain ⟨n1,n2⟩ := names_load (hr.grow g) hk'
   have oj : (σ' ++ [AObj.cells (nmC rs[k])])[σ'.length]? = some (.cells (nmC rs[k])) := by simp
   have g1 : Grows σ' (σ' ++ [AObj.cells (nmC rs[k])]) := Grows.app _ _
   simp -dsimp only [↓WPd,↓Zm,↓Zn,WPu,Za,Zb,Zc,Zd,Ze,Zf,Zg,Zh,Nat.reduceEqDiff,Nat.reduceLT,Zi,Zj,Zk,Zl,Nat.reduceBEq,WPm,n1,n2,nm_putB]
   generalize σ' ++ [AObj.cells (nmC rs[k])] = σ5 at oj g1
   have hal := adds_len [] (rs.take k)
   have htl : (rs.take k).length ≤ rs.length := by simp; omega
   simp only [List.length_nil] at hal
   simp -dsimp only [↓WPd,↓Zm,↓Zn,WPu,Za,Zb,Zc,Zd,Ze,Zf,Zg,Zh,Nat.reduceEqDiff,Nat.reduceLT,Zi,Zj,Zk,Zl,Nat.reduceBEq,WPm,load_nm oj]
   refine calledW_of (come_ok d σ5 fi li mid lv _ bs rs[k] rs[k] (W.grow g1) (by omega)) ?_
   rintro r σ6 ⟨⟨lv',W6,hs6⟩,k6⟩
   have ht : rs.take (k + 1) = rs.take k ++ [rs[k]] := List.take_succ_eq_append_getElem hk'
   simp -dsimp only [↓WPd,↓Zm,↓Zn,WPu,Za,Zb,Zc,Zd,Ze,Zf,Zg,Zh,Nat.reduceEqDiff,Nat.reduceLT,Zi,Zj,Zk,Zl,Nat.reduceBEq,WPm]
   refine ⟨rs.length - (k + 1),by omega,k + 1,lv',_,by omega,rfl,by rw [wrap_i64 (by omega) (by omega),Int.natCast_add,Int.natCast_one],Keeps.trans (g.trans g1) k6 fun i hi e => ?_,by rw [ht,adds_snoc]; exact W6,fun i hi => ?_,by rw [ht,adds_snoc]; exact cm.add (.inl ⟨List.getElem_mem hk',rfl⟩)⟩
   ·rcases e with e | e | e
    ·omega
    ·omega
    ·have := fl i e; omega
   ·rcases hs6 i hi with e | e
    ·exact fl i e
    ·have := (g.trans g1).1; omega
  ·have : k = rs.length := by omega
   subst this
   rw [List.take_length] at W cm
   simp -dsimp only [↓WPd,↓Zm,↓Zn,WPu,Za,Zb,Zc,Zd,Ze,Zf,Zg,Zh,Nat.reduceEqDiff,Nat.reduceLT,Zi,Zj,Zk,Zl,Nat.reduceBEq]
   exact ⟨g,lv,bs,W,fl,cm⟩
 ·rintro e σ5 env ⟨rfl,hv',g5,lv,bs,W5,fl5,cm5⟩
  simp only [List.map_cons,List.map_nil,List.cons.injEq,and_true] at hv'
  obtain ⟨v0,v4,v5,v6⟩ := hv'
  simp -dsimp only [↓WPd,↓Zm,↓Zn,WPu,Za,Zb,Zc,Zd,Ze,Zf,Zg,Zh,Nat.reduceEqDiff,Nat.reduceLT,Zi,Zj,Zk,Zl,Nat.reduceBEq,WPm,v0,v4,v5,v6]
  refine loop_rule2 (fun m xs σ' => ∃ (i : Nat) (lv : AVal) (l bs : List Nm),i ≤ l.length ∧ m = (univ H rs).length - i ∧ xs = [hv,.ptr li 0,.ptr fi 0,.func 56 [] [.ptr fi 0,.ptr li 0],.int .i64 (i : Nat)] ∧ Grows σ σ' ∧ WayS σ' fi li mid lv l bs ∧ Fresh li lv ∧ Way H rs l i ∧ Come H rs l bs)
   [4,5] (fun e xs σ' => e = .exit 2 ∧ xs = [.ptr li 0,.ptr fi 0] ∧ Grows σ σ' ∧ ∃ (lv : AVal) (l bs : List Nm),WayS σ' fi li mid lv l bs ∧ Fresh li lv ∧ Way H rs l l.length ∧ Come H rs l bs) (univ H rs).length
   ⟨0,lv,adds [] rs,bs,Nat.zero_le _,rfl,?_,g5,W5,fl5,Way.start H rs,cm5⟩ ?_ ?_
  ·simp -dsimp only [↓WPd,↓Zm,↓Zn,WPu,Za,Zb,Zc,Zd,Ze,Zf,Zg,Zh,Nat.reduceEqDiff,Nat.reduceLT,Zi,Zj,Zk,Zl,Nat.reduceBEq,v0,v4,v5,v6]; rfl
  ·rintro m xs σ' ⟨i,lv,l,bs,hi,rfl,rfl,g,W,fl,wy,cm⟩
   have e1 : ([lv] : List AVal)[0]? = some lv := rfl
   have ll := W.own.sl.len
   rw [List.length_map] at ll
   have hlu := wy.len
   simp -dsimp only [↓WPd,↓Zm,↓Zn,WPu,Za,Zb,Zc,Zd,Ze,Zf,Zg,Zh,Nat.reduceEqDiff,Nat.reduceLT,Zi,Zj,Zk,Zl,Nat.reduceBEq,WPm,load_cells W.lc,e1,ll]
   refine condP_dec (fun hc => ?_) (fun hc => ?_)
   ·have hi' : i < l.length := by omega
    obtain ⟨n1,n2⟩ := names_load W.own.sl hi'
    simp -dsimp only [↓WPd,↓Zm,↓Zn,WPu,Za,Zb,Zc,Zd,Ze,Zf,Zg,Zh,Nat.reduceEqDiff,Nat.reduceLT,Zi,Zj,Zk,Zl,Nat.reduceBEq,WPm,load_cells W.lc,e1,n1,n2]
    refine calledW_of (nextn_ok d σ' hv H hw l[i] (h.grow g)) ?_
    rintro r σ6 ⟨g6,or,fr⟩
    have sl := stepN_len hw l[i]
    have lr6 := or.sl.len
    rw [List.length_map] at lr6
    have hg6 := g6.1
    have W6 := W.grow g6
    have fl6 : ∀ j,lv.sid = some j → r.sid ≠ some j := fun j hj e => by have := W.own.sl.lt hj; have := fr j e; omega
    have hrs6 : ∀ j,r.sid = some j → j < σ6.length := fun j hj => or.sl.lt hj
    obtain ⟨w0,hw0⟩ : ∃ w0,w0 = l[i] := ⟨_,rfl⟩
    rw [← hw0] at or sl lr6
    simp -dsimp only [↓WPd,↓Zm,↓Zn,WPu,Za,Zb,Zc,Zd,Ze,Zf,Zg,Zh,Nat.reduceEqDiff,Nat.reduceLT,Zi,Zj,Zk,Zl,Nat.reduceBEq,WPm,lr6]
    refine loop_rule2 (fun m xs σ' => ∃ (k : Nat) (lv2 : AVal) (l2 bs2 : List Nm),k ≤ (stepN H w0).length ∧ m = (stepN H w0).length - k ∧ xs = [hv,.ptr li 0,.ptr fi 0,.func 56 [] [.ptr fi 0,.ptr li 0],.int .i64 (i : Nat),r,.int .i64 (stepN H w0).length,.int .i64 (k : Nat)] ∧ Grows σ σ' ∧ σ6.length ≤ σ'.length ∧ l2 = adds l ((stepN H w0).take k) ∧ WayS σ' fi li mid lv2 l2 bs2 ∧ Fresh li lv2 ∧ Own σ' 2 r (NN (stepN H w0)) ∧ (∀ j,lv2.sid = some j → r.sid ≠ some j) ∧ Come H rs l2 bs2)
     [0,4,5,6,9] (fun e xs σ' => e = .exit 4 ∧ xs = [hv,.ptr li 0,.ptr fi 0,.func 56 [] [.ptr fi 0,.ptr li 0],.int .i64 (i : Nat)] ∧ Grows σ σ' ∧ ∃ (lv2 : AVal) (bs2 : List Nm),WayS σ' fi li mid lv2 (adds l (stepN H w0)) bs2 ∧ Fresh li lv2 ∧ Come H rs (adds l (stepN H w0)) bs2) (stepN H w0).length
     ⟨0,lv,l,bs,Nat.zero_le _,rfl,?_,g.trans g6,Nat.le_refl _,by simp [adds],W6,fl,or,fl6,cm⟩ ?_ ?_
    ·simp -dsimp only [↓WPd,↓Zm,↓Zn,WPu,Za,Zb,Zc,Zd,Ze,Zf,Zg,Zh,Nat.reduceEqDiff,Nat.reduceLT,Zi,Zj,Zk,Zl,Nat.reduceBEq]; rfl
    ·rintro m xs σ7 ⟨k,lv2,l2,bs2,hk,rfl,rfl,g7,hl7,hl2,W7,f7,o7,d7,cm7⟩
     simp -dsimp only [↓WPd,↓Zm,↓Zn,WPu,Za,Zb,Zc,Zd,Ze,Zf,Zg,Zh,Nat.reduceEqDiff,Nat.reduceLT,Zi,Zj,Zk,Zl,Nat.reduceBEq]
     refine condP_dec (fun hc => ?_) (fun hc => ?_)
     ·have hk' : k < (stepN H w0).length := by omega
      obtain ⟨m1,m2⟩ := names_load o7.sl hk'
      have oj : (σ7 ++ [AObj.cells (nmC (stepN H w0)[k])])[σ7.length]? = some (.cells (nmC (stepN H w0)[k])) := by simp
      have g8 : Grows σ7 (σ7 ++ [AObj.cells (nmC (stepN H w0)[k])]) := Grows.app _ _
      simp -dsimp only [↓WPd,↓Zm,↓Zn,WPu,Za,Zb,Zc,Zd,Ze,Zf,Zg,Zh,Nat.reduceEqDiff,Nat.reduceLT,Zi,Zj,Zk,Zl,Nat.reduceBEq,WPm,m1,m2,nm_putB]
      generalize σ7 ++ [AObj.cells (nmC (stepN H w0)[k])] = σ8 at oj g8
      have W8 := W7.grow g8
      have e2 : ([lv2] : List AVal)[0]? = some lv2 := rfl
      obtain ⟨x,hx⟩ := adds_pre ((stepN H w0).take k) l
      have hl2i : i < l2.length := by rw [hl2,hx,List.length_append]; omega
      obtain ⟨p1,p2⟩ := names_load W8.own.sl hl2i
      have hl2l : l2.length ≤ l.length + 256 := by
       have := adds_len l ((stepN H w0).take k)
       rw [hl2]
       have : ((stepN H w0).take k).length ≤ 256 := by simp; omega
       omega
      simp -dsimp only [↓WPd,↓Zm,↓Zn,WPu,Za,Zb,Zc,Zd,Ze,Zf,Zg,Zh,Nat.reduceEqDiff,Nat.reduceLT,Zi,Zj,Zk,Zl,Nat.reduceBEq,WPm,load_nm oj,load_cells W8.lc,e2,p1,p2]
      refine calledW_of (come_ok d σ8 fi li mid lv2 l2 bs2 _ _ W8 (by omega)) ?_
      rintro r9 σ9 ⟨⟨lv3,W9,hs9⟩,k9⟩
      have ht : (stepN H w0).take (k + 1) = (stepN H w0).take k ++ [(stepN H w0)[k]] := List.take_succ_eq_append_getElem hk'
      have o8 := o7.grow g8
      have hk9 := k9.1
      have hg8 := g8.1
      have hg7 := g7.1
      simp -dsimp only [↓WPd,↓Zm,↓Zn,WPu,Za,Zb,Zc,Zd,Ze,Zf,Zg,Zh,Nat.reduceEqDiff,Nat.reduceLT,Zi,Zj,Zk,Zl,Nat.reduceBEq,WPm]
      refine ⟨(stepN H w0).length - (k + 1),by omega,k + 1,lv3,addN l2 (stepN H w0)[k],_,by omega,rfl,by rw [wrap_i64 (by omega) (by omega),Int.natCast_add,Int.natCast_one],Keeps.trans (g7.trans g8) k9 fun j hj e => ?_,by omega,by rw [ht,adds_snoc,hl2],W9,fun j hj => ?_,o8.keeps k9 fun j hj e => ?_,fun j hj e => ?_,cm7.add (.inr ⟨i,hl2i,rfl,?_⟩)⟩
      ·rcases e with e | e | e
       ·omega
       ·omega
       ·have := f7 j e; omega
      ·rcases hs9 j hj with e | e
       ·exact f7 j e
       ·omega
      ·rcases e with e | e | e
       ·exact o8.noMap W8.mc (e ▸ hj)
       ·exact o8.noCell W8.lc (e ▸ hj)
       ·exact d7 j e hj
      ·rcases hs9 j hj with e' | e'
       ·exact d7 j e' e
       ·have := hrs6 j e; omega
      ·have e : l2[i] = w0 := by
        have key : ∀ (y : List Nm) (hy : y = l ++ x) (h : i < y.length),y[i] = l[i] := by
         intro y hy h; subst hy; exact List.getElem_append_left hi'
        rw [hw0]; exact key l2 (by rw [hl2,hx]) hl2i
       rw [e]; exact List.getElem_mem hk'
     ·have : k = (stepN H w0).length := by omega
      subst this
      rw [List.take_length] at hl2
      subst hl2
      simp -dsimp only [↓WPd,↓Zm,↓Zn,WPu,Za,Zb,Zc,Zd,Ze,Zf,Zg,Zh,Nat.reduceEqDiff,Nat.reduceLT,Zi,Zj,Zk,Zl,Nat.reduceBEq]
      exact ⟨g7,lv2,bs2,W7,f7,cm7⟩
    ·rintro e σ7 env ⟨rfl,hv',g7,lv2,bs2,W7,f7,cm7⟩
     simp only [List.map_cons,List.map_nil,List.cons.injEq,and_true] at hv'
     obtain ⟨v0,v4,v5,v6,v9⟩ := hv'
     have wn := wy.next hi'
     rw [← hw0] at wn
     have hil : i + 1 ≤ (adds l (stepN H w0)).length := by
      obtain ⟨x,hx⟩ := adds_pre (stepN H w0) l
      rw [hx,List.length_append]; omega
     have hnu := wn.len
     simp -dsimp only [↓WPd,↓Zm,↓Zn,WPu,Za,Zb,Zc,Zd,Ze,Zf,Zg,Zh,Nat.reduceEqDiff,Nat.reduceLT,Zi,Zj,Zk,Zl,Nat.reduceBEq,WPm,v0,v4,v5,v6,v9]
     refine ⟨(univ H rs).length - (i + 1),by omega,i + 1,lv2,_,bs2,hil,rfl,by rw [wrap_i64 (by omega) (by omega),Int.natCast_add,Int.natCast_one],g7,W7,f7,wn,cm7⟩
   ·have : i = l.length := by omega
    subst this
    simp -dsimp only [↓WPd,↓Zm,↓Zn,WPu,Za,Zb,Zc,Zd,Ze,Zf,Zg,Zh,Nat.reduceEqDiff,Nat.reduceLT,Zi,Zj,Zk,Zl,Nat.reduceBEq]
    exact ⟨g,lv,l,bs,W,fl,wy,cm⟩
  ·rintro e σ6 env ⟨rfl,hv',g6,lv,l,bs,W,fl,wy,cm⟩
   simp only [List.map_cons,List.map_nil,List.cons.injEq,and_true] at hv'
   obtain ⟨v4,v5⟩ := hv'
   have e1 : ([lv] : List AVal)[0]? = some lv := rfl
   have e2 : ([AVal.map mid] : List AVal)[0]? = some (.map mid) := rfl
   simp -dsimp only [↓WPd,↓Zm,↓Zn,WPu,Za,Zb,Zc,Zd,Ze,Zf,Zg,Zh,Nat.reduceEqDiff,Nat.reduceLT,Zi,Zj,Zk,Zl,Nat.reduceBEq,WPm,v4,v5]
   refine drawnP_of rfl ?_
   have s1 : storeV σ6 1 (.ptr li 0) lv = some σ6 := by
    rw [store_cells W.lc (off := 0) (by simp) W.own.one]
    exact congrArg some (set_here W.lc)
   have s2 : storeV σ6 1 (.ptr fi 0) (.map mid) = some σ6 := by
    rw [store_cells W.fc (off := 0) (by simp) rfl]
    exact congrArg some (set_here W.fc)
   simp -dsimp only [↓WPd,↓Zm,↓Zn,WPu,Za,Zb,Zc,Zd,Ze,Zf,Zg,Zh,Nat.reduceEqDiff,Nat.reduceLT,Zi,Zj,Zk,Zl,Nat.reduceBEq,↓WPed,WPeu,Nat.reduceAdd,and_self,v4,v5,load_cells W.lc,load_cells W.fc,e1,e2,s1,s2,resultsA,resOf,mapO]
   exact ⟨g6,lv,mid,l,bs,rfl,W.own,fl,wy.nodup,wy.all,W.mc,by omega,W.nilc,cm⟩
theorem Own.shape {σ : Store} {sz : Nat} {v : AVal} {es : List AVal} (h : Own σ sz v es) (hn : NoLit v) (he : es ≠ []) : ∃ id ep fl,v = .slice sz id ep 0 es.length none ∧ σ[id]? = some (.arr sz es ep fl) := by
 rcases h.own with ⟨_,e⟩ | ⟨t,rfl⟩ | ⟨id,ep,off,cap,xs,epo,fl,rfl,ho,hf,he',hl,hc⟩
 ·exact (he e).elim
 ·exact (he hn).elim
 ·rcases hc with ⟨rfl,rfl,rfl,rfl⟩ | rfl
  ·exact ⟨id,_,fl,rfl,ho⟩
  ·exact hn.elim
theorem nclone_ok (d : Nat) (σ : Store) (b : AVal) (t : List Nm) (hs : t.length < 2 ^ 40) (hb : SlOf σ 2 b (NN t)) (hnil : t = [] → b = .nilslice) : Called CU.cfg d 57 [b] σ fun v σ' => Grows σ σ' ∧ Own σ' 2 v (NN t) ∧ Fresh σ.length v ∧ NoLit v ∧ (t = [] → v = .nilslice) := by
 refine called_of (fn := CU.a57) rfl (Nat.le_of_ble_eq_true rfl) ?_
 obtain ⟨x,hx,hx'⟩ := hb.isnil
 simp only [CU.a57, CU.o]
 simp -dsimp only [↓WPd,↓Zm,↓Zn,WPu,Za,Zb,Zc,Zd,Ze,Zf,Zg,Zh,Nat.reduceEqDiff,Nat.reduceLT,Zi,Zj,Zk,Zl,Nat.reduceBEq,hx,Bool.false_eq_true]
 refine condP_intro (fun h => ?_) (fun h => ?_)
 ·obtain ⟨rfl,he⟩ := hx' h
  simp -dsimp only [↓WPd,↓Zm,↓Zn,WPu,Za,Zb,Zc,Zd,Ze,Zf,Zg,Zh,Nat.reduceEqDiff,Nat.reduceLT,Zi,Zj,Zk,Zl,Nat.reduceBEq]
  exact ⟨Keeps.refl _ _,by rw [he]; exact Own.nil _ _,(fun id h => by cases h),trivial,fun _ => trivial⟩
 ·have hne : t ≠ [] := fun e => by
   rw [hnil e] at hx
   cases hx
   cases h
  simp -dsimp only [↓WPd,↓Zm,↓Zn,WPu,Za,Zb,Zc,Zd,Ze,Zf,Zg,Zh,Nat.reduceEqDiff,Nat.reduceLT,Zi,Zj,Zk,Zl,Nat.reduceBEq,hb.els]
  refine stepP_of [] rfl ?_
  have ho : Own σ 2 (.fslice (AVal.tagL []) true 2 []) [] := ⟨.inr (.inl ⟨_,rfl⟩)⟩
  obtain ⟨v',σ',h1,h2,h3,h4,h5⟩ := ho.append (NN t) 16 (by rw [List.length_map]; simp; omega)
  simp -dsimp only [↓WPd,↓Zm,↓Zn,WPu,Za,Zb,Zc,Zd,Ze,Zf,Zg,Zh,Nat.reduceEqDiff,Nat.reduceLT,Zi,Zj,Zk,Zl,Nat.reduceBEq,hb.els,h1]
  refine ⟨h3.mono (fun i _ h => by cases h),by simpa using h2,fun id hid => ?_,h5 (.inl rfl),fun e => (hne e).elim⟩
  rcases h4 id hid with h | h
  ·cases h
  ·omega
theorem sortf_ok (d : Nat) (σ : Store) (v : AVal) (l : List Nm) (h : Own σ 2 v (NN l)) (hn : NoLit v) (hnil : l = [] → v = .nilslice) (hl : l.length < 2 ^ 40) : Called CU.cfg d 58 [v,.func 59 [] []] σ fun r σ' => Own σ' 2 v (NN (sortN l)) ∧ Keeps (fun i => v.sid = some i) σ σ' := by
 cases l with
 | nil =>
  rw [hnil rfl]
  refine called_nat (g := natSO 59) rfl rfl ⟨Own.nil _ _,Keeps.refl _ _⟩
 | cons x r =>
  obtain ⟨id,ep,fl,rfl,ho⟩ := h.shape hn (by simp)
  have he : natSO 59 [.slice 2 id ep 0 (NN (x :: r)).length none,.func 59 [] []] σ = some (.tuple [],σ.set id (.arr 2 ((sortN (x :: r)).map nmV) ep ep)) := by
   have hp : 0 < (NN (x :: r)).length ∧ (NN (x :: r)).length ≤ 8796093022208 := by rw [List.length_map]; simp only [List.length_cons] at hl ⊢; omega
   simp only [natSO,if_true,ho,hp,and_self,nmsOf_map]
  refine called_nat (g := natSO 59) rfl he ⟨?_,Keeps.set _ _ _ |>.mono fun i _ e => by rw [e]; rfl⟩
  have hlen : (NN (sortN (x :: r))).length = (NN (x :: r)).length := by rw [List.length_map,List.length_map,sortN_len]
  have hw := Own.whole (σ := σ.set id (.arr 2 (NN (sortN (x :: r))) ep ep)) (sz := 2) (id := id) (ep := ep) (fl := ep) (es := NN (sortN (x :: r))) (get_set ho) (Nat.le_refl _)
  rw [hlen] at hw
  exact hw
theorem names_eqs {σ : Store} {l : AVal} {ws : List Nm} (hl : SlOf σ 2 l (NN ws)) {i : Nat} (hi : i < ws.length) : iaddrV 2 l (.int .i64 i) = some (addrOf 2 l i) ∧ loadV σ 2 true (addrOf 2 l i) = some (nmV ws[i]) := names_at hl hi
theorem compact_ok (d : Nat) (σ : Store) (v : AVal) (l : List Nm) (h : SlOf σ 2 v (NN l)) (hd : l.Nodup) (hl : l.length < 2 ^ 40) : Called CU.cfg d 60 [v] σ fun r σ' => r = v ∧ σ' = σ := by
 refine called_of (fn := CU.a60) rfl (Nat.le_of_ble_eq_true rfl) ?_
 simp only [CU.a60, CU.o]
 have ll := h.len
 rw [List.length_map] at ll
 simp -dsimp only [↓WPd,↓Zm,↓Zn,WPu,Za,Zb,Zc,Zd,Ze,Zf,Zg,Zh,Nat.reduceEqDiff,Nat.reduceLT,Zi,Zj,Zk,Zl,Nat.reduceBEq,ll]
 refine condP_dec (fun hc => ?_) (fun hc => ?_)
 ·simp -dsimp only [↓WPd,↓Zm,↓Zn,WPu,Za,Zb,Zc,Zd,Ze,Zf,Zg,Zh,Nat.reduceEqDiff,Nat.reduceLT,Zi,Zj,Zk,Zl,Nat.reduceBEq]
 ·simp -dsimp only [↓WPd,↓Zm,↓Zn,WPu,Za,Zb,Zc,Zd,Ze,Zf,Zg,Zh,Nat.reduceEqDiff,Nat.reduceLT,Zi,Zj,Zk,Zl,Nat.reduceBEq]
  refine loop_rule2 (fun m vs σ' => ∃ k : Nat,1 ≤ k ∧ k ≤ l.length ∧ m = l.length - k ∧ vs = [v,.int .i64 (k : Nat)] ∧ σ' = σ) [0] (fun e vs σ' => e = .exit 0 ∧ vs = [v] ∧ σ' = σ) (l.length - 1) ⟨1,Nat.le_refl _,by omega,rfl,?_,rfl⟩ ?_ ?_
  ·simp -dsimp only [↓WPd,↓Zm,↓Zn,WPu,Za,Zb,Zc,Zd,Ze,Zf,Zg,Zh,Nat.reduceEqDiff,Nat.reduceLT,Zi,Zj,Zk,Zl,Nat.reduceBEq]; rfl
  ·rintro m vs σ' ⟨k,hk1,hk,rfl,rfl,rfl⟩
   simp -dsimp only [↓WPd,↓Zm,↓Zn,WPu,Za,Zb,Zc,Zd,Ze,Zf,Zg,Zh,Nat.reduceEqDiff,Nat.reduceLT,Zi,Zj,Zk,Zl,Nat.reduceBEq,ll]
   refine condP_dec (fun hc => ?_) (fun hc => ?_)
   ·have hk' : k < l.length := by omega
    have e1 : IntKind.i64.wrap ((k : Int) - 1) = ((k - 1 : Nat) : Int) := by rw [wrap_i64 (by omega) (by omega)]; omega
    obtain ⟨n1,n2⟩ := names_eqs h hk'
    obtain ⟨m1,m2⟩ := names_eqs h (show k - 1 < l.length by omega)
    have hne : l[k] ≠ l[k - 1] := fun e => List.pairwise_iff_getElem.1 hd (k - 1) k (by omega) hk' (by omega) e.symm
    simp -dsimp only [↓WPd,↓Zm,↓Zn,WPu,Za,Zb,Zc,Zd,Ze,Zf,Zg,Zh,Nat.reduceEqDiff,Nat.reduceLT,Zi,Zj,Zk,Zl,Nat.reduceBEq,WPm,n1,n2,e1,m1,m2,nm_eqs,decide_eq_false hne]
    refine ⟨l.length - (k + 1),by omega,k + 1,by omega,by omega,rfl,by rw [wrap_i64 (by omega) (by omega),Int.natCast_add,Int.natCast_one],trivial⟩
   ·simp -dsimp only [↓WPd,↓Zm,↓Zn,WPu,Za,Zb,Zc,Zd,Ze,Zf,Zg,Zh,Nat.reduceEqDiff,Nat.reduceLT,Zi,Zj,Zk,Zl,Nat.reduceBEq]
  ·rintro e σ' env ⟨rfl,hv,rfl⟩
   simp only [List.map_cons,List.map_nil,List.cons.injEq,and_true] at hv
   simp -dsimp only [↓WPd,↓Zm,↓Zn,WPu,Za,Zb,Zc,Zd,Ze,Zf,Zg,Zh,Nat.reduceEqDiff,Nat.reduceLT,Zi,Zj,Zk,Zl,Nat.reduceBEq,hv]
theorem nsorted_ok (d : Nat) (σ : Store) (lv : AVal) (l : List Nm) (h : SlOf σ 2 lv (NN l)) (hd : l.Nodup) (hnil : l = [] → lv = .nilslice) (hl : l.length < 2 ^ 40) : Called CU.cfg d 35 [lv] σ fun r σ' => Grows σ σ' ∧ Own σ' 2 r (NN (sortN l)) ∧ Fresh σ.length r ∧ NoLit r := by
 refine called_of (fn := CU.a35) rfl (Nat.le_of_ble_eq_true rfl) ?_
 simp only [CU.a35, CU.o]
 simp -dsimp only [↓WPd,↓Zm,↓Zn,WPu,Za,Zb,Zc,Zd,Ze,Zf,Zg,Zh,Nat.reduceEqDiff,Nat.reduceLT,Zi,Zj,Zk,Zl,Nat.reduceBEq]
 refine calledW_of (nclone_ok d σ lv l hl h hnil) ?_
 rintro v σ1 ⟨g1,ov,fv,nv,hvn⟩
 simp -dsimp only [↓WPd,↓Zm,↓Zn,WPu,Za,Zb,Zc,Zd,Ze,Zf,Zg,Zh,Nat.reduceEqDiff,Nat.reduceLT,Zi,Zj,Zk,Zl,Nat.reduceBEq]
 refine calledW_of (sortf_ok d σ1 v l ov nv hvn hl) ?_
 rintro r σ2 ⟨os,k2⟩
 simp -dsimp only [↓WPd,↓Zm,↓Zn,WPu,Za,Zb,Zc,Zd,Ze,Zf,Zg,Zh,Nat.reduceEqDiff,Nat.reduceLT,Zi,Zj,Zk,Zl,Nat.reduceBEq]
 refine calledW_of (compact_ok d σ2 v (sortN l) os.sl ((sortN_perm l).nodup_iff.2 hd) (by rw [sortN_len]; exact hl)) ?_
 rintro r σ3 ⟨rfl,rfl⟩
 simp -dsimp only [↓WPd,↓Zm,↓Zn,WPu,Za,Zb,Zc,Zd,Ze,Zf,Zg,Zh,Nat.reduceEqDiff,Nat.reduceLT,Zi,Zj,Zk,Zl,Nat.reduceBEq]
 exact ⟨Keeps.trans g1 k2 fun i hi e => by have := fv i e; omega,os,fv,nv⟩
theorem needed_ok (d : Nat) (σ : Store) (hv : AVal) (H : Hp) (hw : WF H) (hH : H.length < 2 ^ 28) (rsv : AVal) (rs : List Nm) (h : HeapV σ hv H) (hr : SlOf σ 2 rsv (NN rs)) (hrs : rs.length < 2 ^ 38) :
  Called CU.cfg d 12 [hv,rsv] σ fun r σ' => Grows σ σ' ∧ ∃ l,Own σ' 2 r (NN (sortN l)) ∧ (Fresh σ.length r ∧ NoLit r) ∧ l.Nodup ∧ (∀ v,v ∈ l ↔ Rea H rs v) ∧ l.length < 2 ^ 40 := by
 refine called_of (fn := CU.a12) rfl (Nat.le_of_ble_eq_true rfl) ?_
 simp only [CU.a12, CU.o]
 simp -dsimp only [↓WPd,↓Zm,↓Zn,WPu,Za,Zb,Zc,Zd,Ze,Zf,Zg,Zh,Nat.reduceEqDiff,Nat.reduceLT,Zi,Zj,Zk,Zl,Nat.reduceBEq]
 refine calledW_of (walk_ok d σ hv H hw hH rsv rs h hr hrs) ?_
 rintro r σ1 ⟨g1,lv,mid,l,bs,rfl,ol,fl,hd,hm,-,-,hnil,-⟩
 have hu := univ_len hw rs
 have hll : l.length ≤ (univ H rs).length := nodup_le hd fun v hv => ((hm v).1 hv).univ
 simp -dsimp only [↓WPd,↓Zm,↓Zn,WPu,Za,Zb,Zc,Zd,Ze,Zf,Zg,Zh,Nat.reduceEqDiff,Nat.reduceLT,Zi,Zj,Zk,Zl,Nat.reduceBEq,List.getElem?_cons_zero,List.getElem?_cons_succ]
 refine calledW_of (nsorted_ok d σ1 lv l ol.sl hd hnil (by omega)) ?_
 rintro r σ2 ⟨g2,os,fs⟩
 simp -dsimp only [↓WPd,↓Zm,↓Zn,WPu,Za,Zb,Zc,Zd,Ze,Zf,Zg,Zh,Nat.reduceEqDiff,Nat.reduceLT,Zi,Zj,Zk,Zl,Nat.reduceBEq]
 exact ⟨g1.trans g2,l,os,⟨fs.1.le g1.1,fs.2⟩,hd,hm,by omega⟩
theorem from_look {σ : Store} {mid : Nat} {l bs : List Nm} (hm : σ[mid]? = some (.map (l.map nmV) (bs.map nmV))) (hl : bs.length = l.length) (v : Nm) :
  ∃ x : Nm,lookupV σ true [.i,.i] (.agg [.int .i64 0,.int .i64 0]) (.map mid) (nmV v) true = some (.tuple [nmV x,.bool (l.contains v)]) ∧
   lookupV σ true [.i,.i] (.agg [.int .i64 0,.int .i64 0]) (.map mid) (nmV v) false = some (nmV x) ∧ (v ∈ l → ∃ (i : Nat) (hi : i < l.length) (hb : i < bs.length),l[i] = v ∧ x = bs[i]) := by
 obtain ⟨o,f1,f2⟩ := find_names v l
 have hk : keyEq true [.i,.i] (nmV v) (nmV v) = some true := by rw [nm_keyEq,decide_eq_true rfl]
 have hf : findKK true [.i,.i] (nmV v) (l.map nmV) = some o := by simp only [findKK,hk,Option.isSome_some,if_true,f1]
 have hmo : mapOf σ (.map mid) = some (l.map nmV,bs.map nmV) := by simp only [mapOf,hm]
 cases o with
 | none =>
  have hc : l.contains v = false := by simpa using f2
  refine ⟨(0,0),?_,?_,fun h => (f2 h).elim⟩
  ·rw [hc]; simp only [lookupV,hmo,hf]; rfl
  ·simp only [lookupV,hmo,hf]; rfl
 | some i =>
  obtain ⟨hi,he⟩ := List.getElem?_eq_some_iff.1 f2
  have hib : i < bs.length := by rw [hl]; exact hi
  have hc : l.contains v = true := by simpa using List.mem_of_getElem? f2
  have e : (bs.map nmV)[i]? = some (nmV bs[i]) := by simp [hib]
  refine ⟨bs[i],?_,?_,fun _ => ⟨i,hi,hib,he,rfl⟩⟩
  ·rw [hc]; simp only [lookupV,hmo,hf,e,Option.map_some]; rfl
  ·simp only [lookupV,hmo,hf,e,Option.map_some]; rfl
structure Half (l c : List Nm) (i : Nat) : Prop where
 len : c.length = l.length
 at_ : ∀ (t : Nat) (ht : t < c.length),c[t] = if t < i ∨ l.length ≤ t + i then l[l.length - 1 - t]'(by have := len; omega) else l[t]'(by have := len; omega)
theorem Half.start (l : List Nm) : Half l l 0 := ⟨rfl,fun t ht => by rw [if_neg (by omega)]⟩
theorem Half.done {l c : List Nm} {i : Nat} (h : Half l c i) (hi : l.length ≤ 2 * i + 1) : c = l.reverse := by
 apply List.ext_getElem (by rw [h.len]; simp)
 intro t h1 h2
 rw [h.at_ t h1,List.getElem_reverse]
 have hl := h.len
 split
 ·rfl
 ·rename_i hn
  have : l.length - 1 - t = t := by omega
  simp only [this]
theorem Half.step {l c : List Nm} {i : Nat} (h : Half l c i) (hi : 2 * i + 1 < l.length) : Half l ((c.set i (c[l.length - 1 - i]'(by have := h.len; omega))).set (l.length - 1 - i) (c[i]'(by have := h.len; omega))) (i + 1) := by
 have hl := h.len
 refine ⟨by simp [hl],fun t ht => ?_⟩
 rw [List.getElem_set,List.getElem_set]
 have htl : t < l.length := by simp [hl] at ht; exact ht
 by_cases h1 : l.length - 1 - i = t
 ·rw [if_pos h1]
  refine (h.at_ i (by omega)).trans ?_
  rw [if_neg (by omega),if_pos (by omega)]
  simp only [show l.length - 1 - t = i by omega]
 ·rw [if_neg h1]
  by_cases h2 : i = t
  ·subst h2
   rw [if_pos rfl]
   refine (h.at_ _ (by omega)).trans ?_
   rw [if_neg (by omega),if_pos (by omega)]
  ·rw [if_neg h2]
   refine (h.at_ t (by omega)).trans ?_
   by_cases h3 : t < i ∨ l.length ≤ t + i
   ·rw [if_pos h3,if_pos (by omega)]
   ·rw [if_neg h3,if_neg (by omega)]
set_option maxHeartbeats 1000000 in
theorem reverse_ok (d : Nat) (σ : Store) (v : AVal) (l : List Nm) (h : Own σ 2 v (NN l)) (hn : l.length ≤ 1 ∨ NoLit v) (hl : l.length < 2 ^ 40) : Called CU.cfg d 31 [v] σ fun r σ' => Own σ' 2 v (NN l.reverse) ∧ Keeps (fun i => v.sid = some i) σ σ' := by
 refine called_of (fn := CU.a31) rfl (Nat.le_of_ble_eq_true rfl) ?_
 simp only [CU.a31, CU.o]
 have ll := h.sl.len
 rw [List.length_map] at ll
 have e1 : IntKind.i64.wrap ((l.length : Int) - 1) = (l.length : Int) - 1 := wrap_i64 (by omega) (by omega)
 have hr : ∀ s : FS,resultsA [] s = some (.tuple []) := fun _ => rfl
 simp -dsimp only [↓WPd,↓Zm,↓Zn,WPu,Za,Zb,Zc,Zd,Ze,Zf,Zg,Zh,Nat.reduceEqDiff,Nat.reduceLT,Zi,Zj,Zk,Zl,Nat.reduceBEq,ll,e1]
 refine loop_rule2 (fun m xs σ' => ∃ (i : Nat) (c : List Nm),2 * i ≤ l.length + 1 ∧ m = l.length - i ∧ xs = [v,.int .i64 (i : Nat),.int .i64 ((l.length : Int) - 1 - (i : Nat))] ∧ Half l c i ∧ Own σ' 2 v (NN c) ∧ Keeps (fun i => v.sid = some i) σ σ')
  [] (fun e xs σ' => e = .exit 0 ∧ Own σ' 2 v (NN l.reverse) ∧ Keeps (fun i => v.sid = some i) σ σ') l.length
  ⟨0,l,by omega,rfl,?_,Half.start l,h,Keeps.refl _ _⟩ ?_ ?_
 ·simp -dsimp only [↓WPd,↓Zm,↓Zn,WPu,Za,Zb,Zc,Zd,Ze,Zf,Zg,Zh,Nat.reduceEqDiff,Nat.reduceLT,Zi,Zj,Zk,Zl,Nat.reduceBEq]; simp
 ·rintro m xs σ' ⟨i,c,hi,rfl,rfl,hh,oc,k⟩
  simp -dsimp only [↓WPd,↓Zm,↓Zn,WPu,Za,Zb,Zc,Zd,Ze,Zf,Zg,Zh,Nat.reduceEqDiff,Nat.reduceLT,Zi,Zj,Zk,Zl,Nat.reduceBEq]
  refine condP_dec (fun hc => ?_) (fun hc => ?_)
  ·have hlt : 2 * i + 1 < l.length := by omega
   have hcl := hh.len
   have ej : ((l.length : Int) - 1 - (i : Nat)) = ((l.length - 1 - i : Nat) : Int) := by omega
   have nl : NoLit v := hn.resolve_left (by omega)
   rw [ej]
   have hi1 : i < c.length := by omega
   have hj1 : l.length - 1 - i < c.length := by omega
   obtain ⟨n1,n2⟩ := names_at oc.sl hi1
   obtain ⟨m1,m2⟩ := names_at oc.sl hj1
   have hs := fun (x : Nm) (c' : List Nm) (σ1 : Store) (o : Own σ1 2 v (NN c')) (t : Nat) (ht : t < c'.length) => o.store nl (i := t) (by simpa using ht) (x := nmV x) (nm_one x) rfl (by simp; rfl) (by simp; rfl)
   obtain ⟨σ1,s1,s2,s3,-⟩ := hs c[l.length - 1 - i] c σ' oc i hi1
   have es : (NN c).set i (nmV c[l.length - 1 - i]) = NN (c.set i c[l.length - 1 - i]) := List.map_set.symm
   rw [es] at s2
   obtain ⟨σ2,t1,t2,t3,-⟩ := hs c[i] _ σ1 s2 (l.length - 1 - i) (by simpa using hj1)
   have es2 : (NN (c.set i c[l.length - 1 - i])).set (l.length - 1 - i) (nmV c[i]) = NN ((c.set i c[l.length - 1 - i]).set (l.length - 1 - i) c[i]) := List.map_set.symm
   rw [es2] at t2
   simp -dsimp only [↓WPd,↓Zm,↓Zn,WPu,Za,Zb,Zc,Zd,Ze,Zf,Zg,Zh,Nat.reduceEqDiff,Nat.reduceLT,Zi,Zj,Zk,Zl,Nat.reduceBEq,n1,n2,m1,m2,s1,t1]
   have w1 : IntKind.i64.wrap ((i : Int) + 1) = ((i + 1 : Nat) : Int) := by rw [wrap_i64 (by omega) (by omega),Int.natCast_add,Int.natCast_one]
   have w2 : IntKind.i64.wrap (((l.length - 1 - i : Nat) : Int) - 1) = (l.length : Int) - 1 - ((i + 1 : Nat) : Int) := by rw [wrap_i64 (by omega) (by omega)]; omega
   refine ⟨l.length - (i + 1),by omega,i + 1,_,by omega,rfl,by rw [w1,w2],hh.step hlt,t2,Keeps.trans (Keeps.trans k s3 fun _ _ e => e) t3 fun _ _ e => e⟩
  ·have := hh.done (by omega)
   subst this
   simp -dsimp only [↓WPd,↓Zm,↓Zn,WPu,Za,Zb,Zc,Zd,Ze,Zf,Zg,Zh,Nat.reduceEqDiff,Nat.reduceLT,Zi,Zj,Zk,Zl,Nat.reduceBEq]
   exact ⟨oc,k⟩
 ·rintro e σ' env ⟨rfl,o,k⟩
  simp -dsimp only [↓WPd,↓Zm,↓Zn,WPu,Za,Zb,Zc,Zd,Ze,Zf,Zg,Zh,Nat.reduceEqDiff,Nat.reduceLT,Zi,Zj,Zk,Zl,Nat.reduceBEq,hr]
  exact ⟨o,k⟩
structure PathOf (H : Hp) (f t : Nm) (p : List Nm) : Prop where
 head : p.head? = some f
 last : p.getLast? = some t
 step : ∀ (k : Nat) (h : k + 1 < p.length),p[k + 1] ∈ stepN H (p[k]'(by omega))
structure Back (H : Hp) (t v : Nm) (q : List Nm) : Prop where
 head : q.head? = some t
 last : q.getLast? = some v
 step : ∀ (k : Nat) (h : k + 1 < q.length),q[k]'(by omega) ∈ stepN H q[k + 1]
theorem Back.one (H : Hp) (t : Nm) : Back H t t [t] := ⟨rfl,rfl,fun k h => by simp at h⟩
theorem Back.push {H : Hp} {t v w : Nm} {q : List Nm} (h : Back H t v q) (hw : v ∈ stepN H w) : Back H t w (q ++ [w]) := by
 refine ⟨?_,by simp,fun k hk => ?_⟩
 ·cases q with
  | nil => have := h.head; simp at this
  | cons a r => simpa using h.head
 ·by_cases hk' : k + 1 < q.length
  ·have e1 : (q ++ [w])[k] = q[k] := List.getElem_append_left (by omega)
   have e2 : (q ++ [w])[k + 1] = q[k + 1] := List.getElem_append_left hk'
   rw [e1,e2]
   exact h.step k hk'
  ·have hq : k + 1 = q.length := by simp at hk; omega
   have e1 : (q ++ [w])[k + 1] = w := by
    rw [List.getElem_append_right (by omega)]; simp
   have e2 : (q ++ [w])[k] = v := by
    rw [List.getElem_append_left (by omega)]
    have := h.last
    rw [List.getLast?_eq_getElem?] at this
    obtain ⟨h1,h2⟩ := List.getElem?_eq_some_iff.1 this
    have : q.length - 1 = k := by omega
    simp only [this] at h2
    exact h2
   rw [e1,e2]; exact hw
theorem Back.path {H : Hp} {f t : Nm} {q : List Nm} (h : Back H t f q) : PathOf H f t q.reverse := by
 refine ⟨by rw [List.head?_reverse]; exact h.last,by rw [List.getLast?_reverse]; exact h.head,fun k hk => ?_⟩
 rw [List.length_reverse] at hk
 rw [List.getElem_reverse,List.getElem_reverse]
 have := h.step (q.length - 1 - (k + 1)) (by omega)
 have e : q.length - 1 - (k + 1) + 1 = q.length - 1 - k := by omega
 simp only [e] at this
 exact this
set_option maxHeartbeats 2000000 in
theorem path_ok (d : Nat) (σ : Store) (hv : AVal) (H : Hp) (hw : WF H) (hH : H.length < 2 ^ 28) (f t : Nm) (h : HeapV σ hv H) :
  Called CU.cfg d 8 [hv,nmV f,nmV t] σ fun r σ' => Grows σ σ' ∧ ∃ u ok,r = .tuple [u,.bool ok] ∧ (ok = true ↔ Rea H [f] t) ∧ (ok = false → u = .nilslice) ∧ (ok = true → ∃ p : List Nm,Own σ' 2 u (NN p) ∧ Fresh σ.length u ∧ PathOf H f t p ∧ p.length < 2 ^ 39) := by
 refine called_of (fn := CU.a8) rfl (Nat.le_of_ble_eq_true rfl) ?_
 simp only [CU.a8, CU.o]
 simp -dsimp only [↓WPd,↓Zm,↓Zn,WPu,Za,Zb,Zc,Zd,Ze,Zf,Zg,Zh,Nat.reduceEqDiff,Nat.reduceLT,Zi,Zj,Zk,Zl,Nat.reduceBEq,WPm,nm_cells,nm_one]
 have of0 : (σ ++ [AObj.cells (nmC f)] ++ [AObj.cells (nmC t)])[σ.length]? = some (.cells (nmC f)) := by simp
 have ot0 : (σ ++ [AObj.cells (nmC f)] ++ [AObj.cells (nmC t)])[(σ ++ [AObj.cells (nmC f)]).length]? = some (.cells (nmC t)) := by simp
 have g0 : Grows σ (σ ++ [AObj.cells (nmC f)] ++ [AObj.cells (nmC t)]) := (Grows.app _ _).trans (Grows.app _ _)
 have hlt : σ.length < (σ ++ [AObj.cells (nmC f)]).length := by simp
 generalize (σ ++ [AObj.cells (nmC f)]).length = it at ot0 hlt
 generalize σ ++ [AObj.cells (nmC f)] ++ [AObj.cells (nmC t)] = σ0 at of0 ot0 g0
 generalize hif : σ.length = jf at of0 hlt
 have lit : ∀ v : Nm,fillL 2 true (List.replicate 1 (zel [AVal.int IntKind.i64 0,AVal.int IntKind.i64 0] true)) [(0,nmV v)] = some [nmV v] := fun v => rfl
 simp -dsimp only [↓WPd,↓Zm,↓Zn,WPu,Za,Zb,Zc,Zd,Ze,Zf,Zg,Zh,Nat.reduceEqDiff,Nat.reduceLT,Zi,Zj,Zk,Zl,Nat.reduceBEq,WPm,load_nm of0,lit]
 refine calledW_of (walk_ok d σ0 hv H hw hH _ [f] (h.grow g0) (SlOf.fs _ _ _ _ _) (by simp)) ?_
 rintro r σ1 ⟨g1,lv,fm,l,bs,rfl,ol,fl,hd,hm,hfm,lfm,-,cm⟩
 have hu := univ_len hw [f]
 have hll : l.length ≤ (univ H [f]).length := nodup_le hd fun v hv => ((hm v).1 hv).univ
 simp only [List.length_singleton] at hu
 have of1 := g1.get of0
 have ot1 := g1.get ot0
 obtain ⟨x,k1,-,kx⟩ := from_look hfm cm.len t
 simp -dsimp only [↓WPd,↓Zm,↓Zn,WPu,Za,Zb,Zc,Zd,Ze,Zf,Zg,Zh,Nat.reduceEqDiff,Nat.reduceLT,Zi,Zj,Zk,Zl,Nat.reduceBEq,WPm,List.getElem?_cons_zero,List.getElem?_cons_succ,load_nm ot1,k1,nm_putB]
 have g2 : Grows σ1 (σ1 ++ [AObj.cells (nmC x)]) := Grows.app _ _
 generalize σ1 ++ [AObj.cells (nmC x)] = σ2 at g2
 have g02 := (g0.trans g1).trans g2
 have of2 := g2.get of1
 have ot2 := g2.get ot1
 have hfm2 := g2.get hfm
 cases hcl : l.contains t with
 | false =>
  have hn : t ∉ l := by simpa using hcl
  simp -dsimp only [↓WPd,↓Zm,↓Zn,WPu,Za,Zb,Zc,Zd,Ze,Zf,Zg,Zh,Nat.reduceEqDiff,Nat.reduceLT,Zi,Zj,Zk,Zl,Nat.reduceBEq,WPm]
  exact ⟨g02,_,_,rfl,⟨(fun h => by cases h),fun h => (hn ((hm t).2 h)).elim⟩,fun _ => rfl,fun h => by cases h⟩
 | true =>
  have ht : t ∈ l := by simpa using hcl
  obtain ⟨j0,hj0,hj0t⟩ := List.mem_iff_getElem.1 ht
  have nj : it ≠ fm := fun e => by rw [e,hfm2] at ot2; cases ot2
  simp -dsimp only [↓WPd,↓Zm,↓Zn,WPu,Za,Zb,Zc,Zd,Ze,Zf,Zg,Zh,Nat.reduceEqDiff,Nat.reduceLT,Zi,Zj,Zk,Zl,Nat.reduceBEq,WPm,load_nm ot2,lit]
  refine loop_rule2 (fun m xs σ' => ∃ (j : Nat) (hj : j < l.length) (row : AVal) (q : List Nm),m = j ∧ xs = [.ptr jf 0,.ptr it 0,.map fm,row] ∧ Grows σ σ' ∧ σ'[jf]? = some (.cells (nmC f)) ∧ σ'[it]? = some (.cells (nmC l[j])) ∧ σ'[fm]? = some (.map (l.map nmV) (bs.map nmV)) ∧ Own σ' 2 row (NN q) ∧ Fresh jf row ∧ (q.length ≤ 1 ∨ NoLit row) ∧ Back H t l[j] q ∧ q.length + j ≤ l.length)
   [12] (fun e xs σ' => e = .exit 0 ∧ ∃ (row : AVal) (q : List Nm),xs = [row] ∧ Grows σ σ' ∧ Own σ' 2 row (NN q) ∧ Fresh jf row ∧ (q.length ≤ 1 ∨ NoLit row) ∧ Back H t f q ∧ q.length ≤ l.length) j0
   ⟨j0,hj0,.fslice (AVal.tagL [nmV t]) true 2 [nmV t],[t],rfl,?_,g02,of2,by rw [hj0t]; exact ot2,hfm2,Own.lit _ _ _ _,(fun i h => by cases h),.inl (by simp),by rw [hj0t]; exact Back.one H t,by simp; omega⟩ ?_ ?_
  ·simp -dsimp only [↓WPd,↓Zm,↓Zn,WPu,Za,Zb,Zc,Zd,Ze,Zf,Zg,Zh,Nat.reduceEqDiff,Nat.reduceLT,Zi,Zj,Zk,Zl,Nat.reduceBEq]
  ·rintro m xs σ' ⟨j,hj,row,q,rfl,rfl,g,of',ot',fm',oq,fq,nq,bk,hql⟩
   simp -dsimp only [↓WPd,↓Zm,↓Zn,WPu,Za,Zb,Zc,Zd,Ze,Zf,Zg,Zh,Nat.reduceEqDiff,Nat.reduceLT,Zi,Zj,Zk,Zl,Nat.reduceBEq,WPm,load_nm ot',load_nm of',nm_eqs]
   by_cases he : l[m] = f
   ·simp -dsimp only [↓WPd,↓Zm,↓Zn,WPu,Za,Zb,Zc,Zd,Ze,Zf,Zg,Zh,Nat.reduceEqDiff,Nat.reduceLT,Zi,Zj,Zk,Zl,Nat.reduceBEq,WPm,decide_eq_true he,Bool.not_true]
    exact ⟨row,q,rfl,g,oq,fq,nq,by rw [← he]; exact bk,by omega⟩
   ·obtain ⟨y,-,y1,y2⟩ := from_look fm' cm.len l[m]
    obtain ⟨i',hi',hb',e1,e2⟩ := y2 (List.getElem_mem hj)
    have hii : i' = m := by
     have := List.pairwise_iff_getElem.1 hd
     rcases Nat.lt_trichotomy i' m with h | h | h
     ·exact (this i' m hi' hj h e1).elim
     ·exact h
     ·exact (this m i' hj hi' h e1.symm).elim
    subst hii
    rcases cm.by_ i' hj hb' with ⟨h1,_⟩ | ⟨i,hi,h1,h2⟩
    ·exact (he (by simpa using h1)).elim
    ·rw [h1] at e2
     have st : storeV σ' 2 (.ptr it 0) (nmV y) = some (σ'.set it (.cells (nmC y))) := by
      rw [nm_agg,storeN_cells (cs' := nmC y) (n := 2) ot' rfl rfl rfl]
     have k2 : Keeps (fun i => i = it) σ' (σ'.set it (.cells (nmC y))) := Keeps.set _ _ _
     have ot3 : (σ'.set it (.cells (nmC y)))[it]? = some (.cells (nmC y)) := get_set ot'
     have nfi : jf ≠ it := by omega
     have of3 := k2.get of' nfi
     have fm3 := k2.get fm' (fun e => nj e.symm)
     have oq3 := oq.keeps k2 fun i hi e => oq.noCell ot' (e ▸ hi)
     simp -dsimp only [↓WPd,↓Zm,↓Zn,WPu,Za,Zb,Zc,Zd,Ze,Zf,Zg,Zh,Nat.reduceEqDiff,Nat.reduceLT,Zi,Zj,Zk,Zl,Nat.reduceBEq,WPm,decide_eq_false he,Bool.not_false,load_nm ot',y1,st]
     generalize σ'.set it (.cells (nmC y)) = σ3 at k2 ot3 of3 fm3 oq3
     obtain ⟨z,σ4,a1,a2,a3,a4,a5⟩ := oq3.append [nmV y] 16 (by rw [List.length_map]; simp; omega)
     have fle := elems_fs 2 (AVal.tagL [nmV y]) true σ3 [nmV y]
     simp -dsimp only [↓WPd,↓Zm,↓Zn,WPu,Za,Zb,Zc,Zd,Ze,Zf,Zg,Zh,Nat.reduceEqDiff,Nat.reduceLT,Zi,Zj,Zk,Zl,Nat.reduceBEq,WPm,load_nm ot3,lit,fle,a1]
     have e : NN (q ++ [y]) = NN q ++ [nmV y] := by simp [NN]
     have g3 : Grows σ σ3 := Keeps.trans g k2 fun i hi e => by omega
     refine ⟨i,hi,i,by omega,z,q ++ [y],rfl,rfl,Keeps.trans g3 a3 fun i hi e => by have := fq i e; omega,a3.get of3 (fun e => oq3.noCell of3 e),?_,a3.get fm3 (fun e => oq3.noMap fm3 e),by rw [e]; exact a2,fun i hi => ?_,.inr (a5 (.inr (by simp))),?_,by simp; omega⟩
     ·rw [← e2]; exact a3.get ot3 (fun e => oq3.noCell ot3 e)
     ·rcases a4 i hi with e | e
      ·exact fq i e
      ·have := g3.1; omega
     ·rw [e2]; exact bk.push h2
  ·rintro e σ' env ⟨rfl,row,q,hv',g,oq,fq,nq,bk,hql⟩
   simp only [List.map_cons,List.map_nil,List.cons.injEq,and_true] at hv'
   simp -dsimp only [↓WPd,↓Zm,↓Zn,WPu,Za,Zb,Zc,Zd,Ze,Zf,Zg,Zh,Nat.reduceEqDiff,Nat.reduceLT,Zi,Zj,Zk,Zl,Nat.reduceBEq,WPm,hv']
   refine calledW_of (reverse_ok d σ' row q oq nq (by omega)) ?_
   rintro r σ3 ⟨o3,k3⟩
   simp -dsimp only [↓WPd,↓Zm,↓Zn,WPu,Za,Zb,Zc,Zd,Ze,Zf,Zg,Zh,Nat.reduceEqDiff,Nat.reduceLT,Zi,Zj,Zk,Zl,Nat.reduceBEq,WPm,hv']
   refine ⟨Keeps.trans g k3 fun i hi e => by have := fq i e; omega,_,_,rfl,⟨fun _ => (hm t).1 ht,fun _ => rfl⟩,(fun h => by cases h),fun _ => ⟨q.reverse,o3,fq,bk.path,by rw [List.length_reverse]; omega⟩⟩
theorem rea_roots {H : Hp} {rs : List Nm} {v : Nm} : Rea H rs v ↔ ∃ r ∈ rs,Rea H [r] v := by
 constructor
 ·intro h
  induction h with
  | root h => exact ⟨_,h,.root (by simp)⟩
  | step _ hw ih =>
   obtain ⟨r,hr,h⟩ := ih
   exact ⟨r,hr,.step h hw⟩
 ·rintro ⟨r,hr,h⟩
  exact h.more (fun w hw => by simp at hw; subst hw; exact hr) fun _ _ h => h
end Go.Proofs.YtelpjaejmneplaaDoor.Am
