/-
  THE ABSTRACT MACHINE, part 21: an operation, a call among them.
-/
import Derived.Test.YtmocplkpnickgaaAmOpOk
namespace Go.Proofs.Ytmocplkpnickgaa.Am
open Go
set_option linter.unusedVariables false
set_option linter.unusedSimpArgs false

/-- the memory of a world; the rest of it is as it was -/
abbrev Rest := Os × Array (Nat × ByteArray)
def Wh (r : Rest) (w : World) (h : Array Obj) : Prop := w.heap = h ∧ w.os = r.1 ∧ w.output = r.2

/-- what running an operation must come to -/
def Wp1 (P : Program) (E : Env) (cf : FuncId → FuncId) (κ : K) (a : Act) (o : Oper) (v : AVal) (σ' : Store) : Prop :=
  ∀ (r : Rest) (w : World) (Q : Exit → Act → World → Prop) (next : Act → World → Prop), Wh r w κ.h →
    (∀ (cv : Value) (w' : World) (κ' : K), Wh r w' κ'.h → κ'.σ = σ' → κ.Le κ' → κ'.R E cf → κ'.V E cf v cv → next (a.put o.dst cv) w') → o.wp P a w next Q

theorem Wp1.of_GN {P : Program} {E : Env} {cf : FuncId → FuncId} {κ : K} {a : Act} {o : Oper} {v : AVal} {σ' : Store} (h : GN P E cf κ (execOp a.eval o) v σ') : Wp1 P E cf κ a o v σ' := by
  intro r w Q next hw hn
  obtain ⟨nx, w', κ', h1, h2', h3, h4, h5, h6⟩ := h w hw.1
  have h2 : Wh r w' κ'.h := ⟨h2'.1, h2'.2.1.trans hw.2.1, h2'.2.2.trans hw.2.2⟩
  unfold Oper.wp
  rw [h1]
  rcases h6 with ⟨cv, rfl, hv⟩ | ⟨rfl, rfl⟩
  · rw [Oper.upon_value]
    exact hn cv w' κ' h2 h3 h4 h5 hv
  · rw [Oper.upon_skip]
    exact hn undef w' κ' h2 h3 h4 h5 (.tuple _ [] [] (.nil _))

/-- the globals -/
def Gl (cfg : Cfg) (E : Env) (κ : K) : Prop := ∀ g cs, cfg.glob g = some cs → κ.V E cfg.conc (.fptr 0 cs 0) (.pointer (some ⟨g, 0, none⟩))

theorem Gl.le {cfg : Cfg} {E : Env} {κ κ' : K} (hR : κ.Lb) (hle : κ.Le κ') (h : Gl cfg E κ) : Gl cfg E κ' := fun g cs hg => K.V.le hR hle (h g cs hg)

/-- what a call comes to -/
def CallOk (P : Program) (cfg : Cfg) (callF : CallF) : Prop :=
  ∀ d f args σ v σ', callF d f args σ = some (v, σ') →
    (∃ F, P.funcs[cfg.conc f]? = some F ∧ F.name ≠ "runtime.NumGoroutine" ∧ F.body.isSome = true) ∧
    ∀ (E : Env) (κ : K) (cargs : List Value), E.d = d → κ.σ = σ → κ.R E cfg.conc → Gl cfg E κ → κ.VL E cfg.conc args cargs → ∀ (r : Rest) (w : World), Wh r w κ.h →
      Calls P (cfg.conc f) cargs.toArray w fun
        | .returned cv, w' => ∃ κ' : K, Wh r w' κ'.h ∧ κ'.σ = σ' ∧ κ.Le κ' ∧ κ'.R E cfg.conc ∧ κ'.V E cfg.conc v cv
        | _, _ => False

section
variable {P : Program} {cfg : Cfg} {callF : CallF} {E : Env} {κ : K}

/-- the environment of a call in a store of its own -/
def isoE (κ : K) (E : Env) : Env := ⟨E.d + 1, fun k b => (k = E.d ∧ κ.own b) ∨ (k < E.d ∧ E.out k b)⟩
def isoK (κ : K) : K := ⟨κ.h, [], κ.loc, κ.h.size⟩

theorem isoK_own (b : Nat) : ¬ (isoK κ).own b := fun ⟨id, h, _⟩ => by simp [isoK] at h

theorem isoK_safe {t b : Nat} (h : κ.safe E t b) : (isoK κ).safe (isoE κ E) t b :=
  ⟨h.1, isoK_own b, fun k hk hlt ho => by
    rcases ho with ⟨rfl, ho⟩ | ⟨hk', ho⟩
    · exact h.2.1 ho
    · exact h.2.2 k hk hk' ho⟩

theorem isoK_R (hR : κ.R E cfg.conc) : (isoK κ).R (isoE κ E) cfg.conc where
  ok := fun k b _ ho => by
    rcases ho with ⟨rfl, id, hid, rfl⟩ | ⟨hk', ho⟩
    · exact (hR.lb id hid).2
    · exact Nat.lt_of_lt_of_le (hR.ok k b hk' ho) hR.base
  obj := fun id o h => by simp [isoK] at h
  inj := fun i j hi => by simp [isoK] at hi
  lb := fun i hi => by simp [isoK] at hi
  base := Nat.le_refl _
  fz := fun b c e f hb hc => by
    have : b < κ.h.size := (Array.getElem?_eq_some_iff.1 hc).1
    simp only [isoK] at hb; omega

theorem isoK_gl (h : Gl cfg E κ) : Gl cfg (isoE κ E) (isoK κ) := by
  intro g cs hg
  have := h g cs hg
  generalize hv : AVal.fptr 0 cs 0 = av at this
  generalize hc : Value.pointer (some ⟨g, 0, none⟩) = cv at this
  cases this with
  | fptr _ _ _ _ b o vs hs hl h1 h2 hr =>
    cases hv
    exact .fptr _ _ _ _ _ _ _ (isoK_safe hs) (VRelL.mono (fun t b h => ⟨isoK_safe h, rfl⟩) (Ids.le_refl _) hl) h1 h2 hr
  | _ => cases hv

/-- the caller's memory, after a call in a store of its own -/
theorem iso_back (hR : κ.R E cfg.conc) {κ1 : K} (hle : (isoK κ).Le κ1) (hR1 : κ1.R (isoE κ E) cfg.conc) :
    κ.Le ⟨κ1.h, κ.σ, κ.loc, κ.base⟩ ∧ (⟨κ1.h, κ.σ, κ.loc, κ.base⟩ : K).R E cfg.conc := by
  have hkeep : ∀ b, b < κ.h.size → κ1.h[b]? = κ.h[b]? := fun b hb => (hle.keep b hb (isoK_own b)).1
  have hLe : κ.Le ⟨κ1.h, κ.σ, κ.loc, κ.base⟩ :=
    { base := rfl
      size := hle.size
      keep := fun b hb ho => ⟨hkeep b hb, ho⟩
      len := Nat.le_refl _
      cells := fun _ cs h => ⟨⟨cs, h⟩, rfl⟩
      map := fun _ ks vs h => ⟨⟨ks, vs, h⟩, rfl⟩
      arr := fun id sz es ep fl h => by
        have hk := hkeep (κ.loc id) (hR.lb id (List.getElem?_eq_some_iff.1 h).1).2
        exact ⟨es, ep, fl, h, Nat.le_refl _, Nat.le_refl _, Nat.le_refl _, fun _ => ⟨rfl, rfl, fun vs e f hv => ⟨vs, e, f, by rw [← hk]; exact hv, rfl⟩⟩,
          fun _ _ => .inl rfl, fun _ j _ => cellAt_congr hk j⟩ }
  have hfz : ∀ b c e f, κ.base ≤ b → κ1.h[b]? = some (.cells c e f) → f = (0, 0) := by
    intro b c e f hb hc
    rcases Nat.lt_or_ge b κ.h.size with hlt | hge
    · rw [hkeep b hlt] at hc
      exact hR.fz b c e f hb hc
    · exact hR1.fz b c e f (by rw [hle.base]; exact hge) hc
  refine ⟨hLe, { ok := hR.ok, obj := fun id o h => ?_, inj := hR.inj, lb := fun i hi => ⟨(hR.lb i hi).1, Nat.lt_of_lt_of_le (hR.lb i hi).2 hle.size⟩, base := Nat.le_trans hR.base hle.size, fz := hfz }⟩
  have hk := hkeep (κ.loc id) (hR.lb id (List.getElem?_eq_some_iff.1 h).1).2
  have hO := hR.obj id o h
  cases o with
  | cells cs =>
    obtain ⟨h1, vs, e, h2, h3⟩ := hO
    exact ⟨h1, vs, e, hk.trans h2, K.VL.le hR.lb hLe h3⟩
  | arr sz es ep fl =>
    obtain ⟨h1, h2, h3, vs, e, us, rest, h4, h5, h6⟩ := hO
    exact ⟨h1, h2, h3, vs, e, us, rest, hk.trans h4, h5, K.VL.le hR.lb hLe h6⟩
  | map ks vs =>
    obtain ⟨es, clock, h1, h2, h3⟩ := hO
    exact ⟨es, clock, hk.trans h1, K.VL.le hR.lb hLe h2, K.VL.le hR.lb hLe h3⟩

theorem doCall_ok (hc : CallOk P cfg callF) (hR : κ.R E cfg.conc) (hg : Gl cfg E κ) {m : Mode} {f : FuncId} {args : List AVal} {cargs : List Value} {v : AVal} {σ' : Store}
    (ha : κ.VL E cfg.conc args cargs) (h : doCall callF E.d m f args κ.σ = some (v, σ')) :
    (∃ F, P.funcs[cfg.conc f]? = some F ∧ F.name ≠ "runtime.NumGoroutine" ∧ F.body.isSome = true) ∧
    ∀ (r : Rest) (w : World), Wh r w κ.h →
      Calls P (cfg.conc f) cargs.toArray w fun
        | .returned cv, w' => ∃ κ' : K, Wh r w' κ'.h ∧ κ'.σ = σ' ∧ κ.Le κ' ∧ κ'.R E cfg.conc ∧ κ'.V E cfg.conc v cv
        | _, _ => False := by
  cases m with
  | shared =>
    simp only [doCall] at h
    obtain ⟨h1, h2⟩ := hc _ _ _ _ _ _ h
    exact ⟨h1, fun r w hw => h2 E κ cargs rfl rfl hR hg ha r w hw⟩
  | iso =>
    simp only [doCall] at h
    split at h
    · rename_i args' hargs
      split at h
      · rename_i v1 σ1 hrun
        split at h
        · rename_i v' hv'
          split at h
          · rename_i htag
            injection h with h
            injection h with e1 e2
            subst e1; subst e2
            obtain ⟨h1, h2⟩ := hc _ _ _ _ _ _ hrun
            refine ⟨h1, fun r w hw => ?_⟩
            have hfz := frz_ok hR (t0 := E.d + 1) (S' := fun t b => (isoK κ).safe (isoE κ E) t b) (fun t b hs => isoK_safe hs)
              (fun b _ hb => ⟨hb, isoK_own b, fun k hk hlt _ => by simp only [isoE] at hlt; omega⟩)
              (fun t t' b ht hs => ⟨hs.1, hs.2.1, fun k hk hlt => hs.2.2 k (Nat.le_trans ht hk) hlt⟩) frzFuel
            have hargs' := hfz.list ha hargs
            have hargs'' : (isoK κ).VL (isoE κ E) cfg.conc args' cargs := VRelL.mono (fun t b h => ⟨h, rfl⟩) (noIds_le _) hargs'
            refine Calls.mono (h2 (isoE κ E) (isoK κ) cargs rfl rfl (isoK_R hR) (isoK_gl hg) hargs'' r w hw) fun e w' he => ?_
            cases e with
            | returned cv =>
              obtain ⟨κ1, k1, k2, k3, k4, k5⟩ := he
              obtain ⟨hLe, hR2⟩ := iso_back hR k3 k4
              have hb1 : κ1.base = κ.h.size := k3.base
              refine ⟨⟨κ1.h, κ.σ, κ.loc, κ.base⟩, k1, rfl, hLe, hR2, ?_⟩
              have hfz2 := frz_ok k4 (t0 := 0) (S' := fun t b => κ1.safe (isoE κ E) t b ∨ (κ1.base ≤ b ∧ b < κ1.h.size)) (fun t b hs => .inl hs)
                (fun b hb hs => .inr ⟨hb, hs⟩)
                (fun t t' b ht hs => hs.imp (fun hs => ⟨hs.1, hs.2.1, fun k hk hlt => hs.2.2 k (Nat.le_trans ht hk) hlt⟩) (fun hs => hs)) frzFuel
              rw [← k2] at hv'
              have hvr := hfz2.ok _ _ _ k5 hv'
              refine VRel.retag (d := E.d) (fun t b ht hs => ⟨?_, rfl⟩) hvr htag (noIds_le _)
              have hno : b < κ1.h.size ∧ ¬ κ.own b ∧ ∀ k, t ≤ k → k < E.d → ¬ E.out k b := by
                rcases hs with hs | ⟨hs1, hs2⟩
                · exact ⟨hs.1, fun ho => hs.2.2 E.d ht (Nat.lt_succ_self _) (.inl ⟨rfl, ho⟩), fun k hk hlt ho => hs.2.2 k hk (Nat.lt_succ_of_lt hlt) (.inr ⟨hlt, ho⟩)⟩
                · rw [hb1] at hs1
                  refine ⟨hs2, fun ⟨id, hid, hl⟩ => ?_, fun k hk hlt ho => ?_⟩
                  · have := (hR.lb id hid).2; omega
                  · have := hR.ok k b hlt ho; have := hR.base; omega
              exact hno
            | panicked c => exact he.elim
            | outgrown => exact he.elim
          · simp at h
        · simp at h
      · simp at h
    · simp at h

/-- a call's check -/
def chkO (cfg : Cfg) (P : Program) (op : AOp) (oop : Op) : Bool :=
  match op, oop with
  | .call _ f args, .call c => (match c.callee with | .value (.func g) => cfg.conc f == g | _ => false) && chkXs cfg args c.args.toList
  | .callv _ f args, .call c => (match c.callee with | .value x => chkX cfg f x | _ => false) && chkXs cfg args c.args.toList
  | op, oop => !isCall op && chkOp cfg P op oop

theorem callFunc_run {f : FuncId} {args : Array Value} (h : ∃ F, P.funcs[f]? = some F ∧ F.name ≠ "runtime.NumGoroutine" ∧ F.body.isSome = true) (w : World) : (callFunc f args).run P w = .ok (.enter f args) w := by
  obtain ⟨F, h1, h2, h3⟩ := h
  have h4 : F.body.isNone = false := by cases hb : F.body <;> simp_all
  simp only [callFunc]
  simp [h1, h2, h4, Result.andThen, -Option.isNone_iff_eq_none]

theorem op1_sound {fr : List AVal} {a : Act} {d : Nat} (hc : CallOk P cfg callF) (hd : E.d = d) (hf : Fr cfg E κ fr a) (hR : κ.R E cfg.conc) {op : AOp} {o : Oper} (hchk : chkO cfg P op o.op = true) {v : AVal} {σ' : Store}
    (h : opStep cfg callF d fr κ.σ op = some (v, σ')) : Wp1 P E cfg.conc κ a o v σ' := by
  subst hd
  obtain ⟨dst, oop, ty, pos, after, guard⟩ := o
  have key : ∀ {f : FuncId} {m : Mode} {args : List AVal} {cargs : List Value} {c : Call}, oop = .call c → (∀ w, (do let d ← resolve a.eval c ty; invoke d.target d.args : Sem Next).run P w = (callFunc (cfg.conc f) cargs.toArray).run P w) →
      κ.VL E cfg.conc args cargs → doCall callF E.d m f args κ.σ = some (v, σ') → Wp1 P E cfg.conc κ a ⟨dst, oop, ty, pos, after, guard⟩ v σ' := by
    intro f m args cargs c hop hrun hl hcall r w Q next hw hn
    subst hop
    obtain ⟨h1, h2⟩ := doCall_ok hc hR hf.gl hl hcall
    unfold Oper.wp
    simp only [execOp]
    rw [hrun w, callFunc_run h1, Oper.upon_enter]
    refine Calls.mono (h2 r w hw) fun e w' he => ?_
    cases e with
    | returned cv =>
      obtain ⟨κ', k1, k2, k3, k4, k5⟩ := he
      exact hn cv w' κ' k1 k2 k3 k4 k5
    | panicked c => exact he.elim
    | outgrown => exact he.elim
  replace hchk : chkO cfg P op oop = true := hchk
  unfold chkO at hchk
  split at hchk
  · rename_i m f args c
    simp only [Bool.and_eq_true] at hchk
    obtain ⟨h1, h2⟩ := hchk
    split at h1
    · rename_i g hg
      simp only [beq_iff_eq] at h1
      subst h1
      refine key (f := f) (m := m) (args := args.map (ev cfg fr)) (cargs := (c.args.map a.eval).toList) rfl (fun w => ?_) (by rw [Array.toList_map]; exact chkXs_ok hf h2) (by simpa using h)
      rw [Array.toArray_toList]
      simp [resolve, hg, Deferred.ofValue, Act.eval, invoke, Result.andThen]
    · simp at h1
  · rename_i m f args c
    simp only [Bool.and_eq_true] at hchk
    obtain ⟨h1, h2⟩ := hchk
    split at h1
    · rename_i x hx
      simp only [opStep] at h
      split at h
      · rename_i g first caps hfv
        have hv := chkX_ok hf h1
        rw [hfv] at hv
        generalize hxx : a.eval x = cx at hv
        cases hv with
        | func _ _ _ _ vs us hvs hus =>
        refine key (f := g) (m := m) (args := first ++ args.map (ev cfg fr) ++ caps) (cargs := vs ++ (c.args.map a.eval).toList ++ us) rfl (fun w => ?_) (VL_append (VL_append hvs (by rw [Array.toList_map]; exact chkXs_ok hf h2)) hus) h
        have e : (vs ++ (c.args.map a.eval).toList ++ us).toArray = vs.toArray ++ c.args.map a.eval ++ us.toArray := by
          apply Array.ext'; simp only [Array.toList_append, List.toList_toArray]
        rw [e]
        simp [resolve, hx, hxx, Deferred.ofValue, invoke, Result.andThen]
      · simp at h
    · simp at h1
  · simp only [Bool.and_eq_true, Bool.not_eq_true'] at hchk
    exact Wp1.of_GN (op_sound (callF := callF) (d := E.d) hf hR hchk.1 hchk.2 h)

end
end Go.Proofs.Ytmocplkpnickgaa.Am
