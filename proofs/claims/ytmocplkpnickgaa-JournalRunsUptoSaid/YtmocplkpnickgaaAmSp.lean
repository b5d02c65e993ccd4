/-
  THE ABSTRACT MACHINE, part 31: what must hold ahead of a text for it to end well (a calculus to prove functions with).
-/
import Derived.Test.YtmocplkpnickgaaAmMono
namespace Go.Proofs.Ytmocplkpnickgaa.Am
open Go
set_option linter.unusedVariables false
set_option linter.unusedSimpArgs false

def noCall : CallF := fun _ _ _ _ => none
theorem noCall_le (F : CallF) : CallF.le noCall F := fun _ _ _ _ _ h => by cases h

/-- the call answers, and Q holds of its answer and of the store behind it -/
def Called (cfg : Cfg) (d : Nat) (f : FuncId) (args : List AVal) (σ : Store) (Q : AVal → Store → Prop) : Prop :=
  ∃ n v σ', run cfg n d f args σ = some (v, σ') ∧ Q v σ'

theorem Called.mono {cfg : Cfg} {d : Nat} {f : FuncId} {args : List AVal} {σ : Store} {Q Q' : AVal → Store → Prop} (h : Called cfg d f args σ Q) (hq : ∀ v σ', Q v σ' → Q' v σ') : Called cfg d f args σ Q' := by
  obtain ⟨n, v, σ', h1, h2⟩ := h; exact ⟨n, v, σ', h1, hq _ _ h2⟩

def callP (cfg : Cfg) (d : Nat) (m : Mode) (f : FuncId) (args : List AVal) (σ : Store) (Q : AVal → Store → Prop) : Prop :=
  match m with
  | .shared => Called cfg d f args σ Q
  | .iso => ∃ args', mapO (frz σ (d + 1) frzFuel) args = some args' ∧ Called cfg (d + 1) f args' [] fun v σ1 => ∃ v', frz σ1 0 frzFuel v = some v' ∧ v'.tag ≤ d ∧ Q v' σ

theorem callP_shared (cfg : Cfg) (d : Nat) (f : FuncId) (args : List AVal) (σ : Store) (Q : AVal → Store → Prop) : callP cfg d .shared f args σ Q = Called cfg d f args σ Q := rfl

theorem callP_sound {cfg : Cfg} {d : Nat} {m : Mode} {f : FuncId} {args : List AVal} {σ : Store} {Q : AVal → Store → Prop} (h : callP cfg d m f args σ Q) : ∃ n v σ', doCall (run cfg n) d m f args σ = some (v, σ') ∧ Q v σ' := by
  cases m with
  | shared => exact h
  | iso =>
    obtain ⟨a, h1, n, v, σ1, h2, v', h3, h4, h5⟩ := h
    exact ⟨n, v', σ, by simp only [doCall, h1, h2, h3, h4, if_true], h5⟩

/-! ### the forms in which a text's meaning is left where it cannot be told yet; Wit keeps the rewriting out of what comes behind -/
inductive Wit {α : Type} (a : α) : Type
  | mk
inductive Wit0 (a : Prop) : Type
  | mk

def optP {α : Type} (x : Option α) (K : α → Prop) (w : Wit K) : Prop := match x with
  | some a => K a
  | none => False
abbrev PostC := AExit → List AVal → Store → Prop
abbrev PostF := List AVal → Store → Prop
def guardP (b : Option Bool) (A B : PostF → Prop) (K : PostF) (w : Wit A) (w' : Wit B) (w'' : Wit K) : Prop := match b with
  | some true => A K
  | some false => B K
  | none => False
def condP (v : AVal) (A B : PostC → Prop) (Q : PostC) (w : Wit A) (w' : Wit B) (w'' : Wit Q) : Prop := match v with
  | .bool true => A Q
  | .bool false => B Q
  | _ => False

/-- the same with the frame and the store beside it, so that they are laid out first -/
def stepP {α : Type} (x : Option α) (fr : List AVal) (σ : Store) (K : List AVal → Store → α → Prop) (w : Wit K) : Prop := match x with
  | some a => K fr σ a
  | none => False
theorem stepP_some {α : Type} (a : α) (fr : List AVal) (σ : Store) (K : List AVal → Store → α → Prop) (w : Wit K) : stepP (some a) fr σ K w = K fr σ a := propext Iff.rfl
theorem stepP_of {α : Type} {x : Option α} {fr : List AVal} {σ : Store} {K : List AVal → Store → α → Prop} {w : Wit K} (a : α) (h : x = some a) (hk : K fr σ a) : stepP x fr σ K w := by rw [h]; exact hk
theorem stepP_ite {α : Type} {c : Prop} [Decidable c] {x : α} {fr : List AVal} {σ : Store} {K : List AVal → Store → α → Prop} {w : Wit K} (hc : c) (h : K fr σ x) : stepP (if c then some x else none) fr σ K w := by
  rw [if_pos hc]; exact h
theorem optP_some {α : Type} (a : α) (K : α → Prop) (w : Wit K) : optP (some a) K w = K a := propext Iff.rfl
theorem optP_none {α : Type} (K : α → Prop) (w : Wit K) : optP none K w = False := propext Iff.rfl
section
variable {A B : PostF → Prop} {K : PostF} {w : Wit A} {w' : Wit B} {w'' : Wit K} {A' B' : PostC → Prop} {Q : PostC} {x : Wit A'} {x' : Wit B'} {x'' : Wit Q}
theorem guardP_true : guardP (some true) A B K w w' w'' = A K := propext Iff.rfl
theorem guardP_false : guardP (some false) A B K w w' w'' = B K := propext Iff.rfl
theorem condP_true : condP (.bool true) A' B' Q x x' x'' = A' Q := propext Iff.rfl
theorem condP_false : condP (.bool false) A' B' Q x x' x'' = B' Q := propext Iff.rfl

theorem condP_intro {b : Bool} (h1 : b = true → A' Q) (h2 : b = false → B' Q) : condP (.bool b) A' B' Q x x' x'' := by
  cases b
  · exact h2 rfl
  · exact h1 rfl
theorem condP_dec {p : Prop} [Decidable p] (h1 : p → A' Q) (h2 : ¬ p → B' Q) : condP (.bool (decide p)) A' B' Q x x' x'' :=
  condP_intro (fun h => h1 (of_decide_eq_true h)) (fun h => h2 (of_decide_eq_false h))
theorem guardP_intro {b : Bool} (h1 : b = true → A K) (h2 : b = false → B K) : guardP (some b) A B K w w' w'' := by
  cases b
  · exact h2 rfl
  · exact h1 rfl
end
theorem optP_of {α : Type} {x : Option α} {K : α → Prop} {w : Wit K} (a : α) (h : x = some a) (hk : K a) : optP x K w := by rw [h]; exact hk
theorem optP_ite {α : Type} {c : Prop} [Decidable c] {x : α} {K : α → Prop} {w : Wit K} (hc : c) (h : K x) : optP (if c then some x else none) K w := by
  rw [if_pos hc]; exact h

/-- an operation, not a call -/
def opE (cfg : Cfg) (d : Nat) (fr : List AVal) (σ : Store) (op : AOp) (Q : AVal → Store → Prop) : Prop := optP (opStep cfg noCall d fr σ op) (fun p => Q p.1 p.2) .mk

def opP (cfg : Cfg) (d : Nat) (fr : List AVal) (σ : Store) (op : AOp) (Q : AVal → Store → Prop) : Prop :=
  match op with
  | .call m f args => callP cfg d m f (args.map (ev cfg fr)) σ Q
  | .callv m f args => match ev cfg fr f with
    | .func g first caps => callP cfg d m g (first ++ args.map (ev cfg fr) ++ caps) σ Q
    | _ => False
  | op => opE cfg d fr σ op Q

def wpOs (cfg : Cfg) (d : Nat) : List AOper → List AVal → Store → (List AVal → Store → Prop) → Prop
  | [], fr, σ, Q => Q fr σ
  | o :: os, fr, σ, Q => guardP (wantedA fr o.guard) (fun Q => opP cfg d fr σ o.op fun v σ' => wpOs cfg d os (put fr o.dst v) σ' Q) (fun Q => wpOs cfg d os (put fr o.dst (.tuple [])) σ Q) Q .mk .mk .mk

def drawnP (cfg : Cfg) (d : Nat) (ops : List AOper) (pairs : List (Nat × Nat)) (fr : List AVal) (σ : Store) (Q : List AVal → Store → Prop) (w : Wit Q) : Prop :=
  ∃ n s', stepOs cfg (run cfg n) d ops (fr, σ) = some s' ∧ pairs.all (steady cfg (run cfg n) d ops (traceOs cfg (run cfg n) d ops (fr, σ))) = true ∧ Q s'.1 s'.2

def loopP (cfg : Cfg) (d : Nat) (live : List Nat) (c : ACode) (fr : List AVal) (σ : Store) (Q : AExit → List AVal → Store → Prop) (w : Wit Q) (w' : Wit c) : Prop :=
  ∃ n x s', iter live (evC cfg (run cfg n) d n c) n (fr, σ) = some (x, s') ∧ Q x s'.1 s'.2

def seqQ (K : List AVal → Store → PostC → Prop) (Q : PostC) : AExit → List AVal → Store → Prop
  | .normal, fr, σ => K fr σ Q
  | x, fr, σ => Q x fr σ
def blockQ (id : Nat) (Q : AExit → List AVal → Store → Prop) : AExit → List AVal → Store → Prop
  | .exit id', fr, σ => Q (if id' = id then .normal else .exit id') fr σ
  | x, fr, σ => Q x fr σ

def wpC (cfg : Cfg) (d : Nat) : ACode → List AVal → Store → (AExit → List AVal → Store → Prop) → Prop
  | .skip, fr, σ, Q => Q .normal fr σ
  | .region ops, fr, σ, Q => wpOs cfg d ops fr σ (Q .normal)
  | .drawn ops pairs, fr, σ, Q => drawnP cfg d ops pairs fr σ (Q .normal) .mk
  | .seq a b, fr, σ, Q => wpC cfg d a fr σ (seqQ (fun fr σ Q => wpC cfg d b fr σ Q) Q)
  | .cond c a b, fr, σ, Q => condP (ev cfg fr c) (fun Q => wpC cfg d a fr σ Q) (fun Q => wpC cfg d b fr σ Q) Q .mk .mk .mk
  | .block id c, fr, σ, Q => wpC cfg d c fr σ (blockQ id Q)
  | .loop live c, fr, σ, Q => loopP cfg d live c fr σ Q .mk .mk
  | .exit id, fr, σ, Q => Q (.exit id) fr σ
  | .ret, fr, σ, Q => Q .ret fr σ
  | .stop, _, _, _ => False

def calledW (cfg : Cfg) (d : Nat) (f : FuncId) (args : List AVal) (fr : List AVal) (σ : Store) (K : List AVal → AVal → Store → Prop) (w : Wit K) : Prop := Called cfg d f args σ (K fr)
theorem calledW_of {cfg : Cfg} {d : Nat} {f : FuncId} {args fr : List AVal} {σ : Store} {Q : AVal → Store → Prop} {K : List AVal → AVal → Store → Prop} {w : Wit K} (h : Called cfg d f args σ Q) (hq : ∀ v σ', Q v σ' → K fr v σ') : calledW cfg d f args fr σ K w := h.mono hq

section
variable {cfg : Cfg} {d : Nat}

theorem opP_sound {fr : List AVal} {σ : Store} {op : AOp} {Q : AVal → Store → Prop} (h : opP cfg d fr σ op Q) : ∃ n v σ', opStep cfg (run cfg n) d fr σ op = some (v, σ') ∧ Q v σ' := by
  have key : opE cfg d fr σ op Q → ∃ n v σ', opStep cfg (run cfg n) d fr σ op = some (v, σ') ∧ Q v σ' := by
    intro h
    unfold opE at h
    cases hs : opStep cfg noCall d fr σ op with
    | none => rw [hs] at h; exact h.elim
    | some p => rw [hs] at h; exact ⟨0, p.1, p.2, opStep_mono (noCall_le _) hs, h⟩
  cases op with
  | call m f args => exact callP_sound h
  | callv m f args =>
    simp only [opP] at h
    simp only [opStep]
    split at h
    · rename_i g first caps hg
      rw [hg]
      exact callP_sound h
    · exact h.elim
  | _ => exact key h

theorem stepO_of {n : Nat} {o : AOper} {fr : List AVal} {σ : Store} {v : AVal} {σ' : Store} (hw : wantedA fr o.guard = some true) (h : opStep cfg (run cfg n) d fr σ o.op = some (v, σ')) : stepO cfg (run cfg n) d o (fr, σ) = some (put fr o.dst v, σ') := by
  simp only [stepO, hw, h]

theorem wpOs_sound : ∀ {os : List AOper} {fr : List AVal} {σ : Store} {Q : List AVal → Store → Prop}, wpOs cfg d os fr σ Q → ∃ n s', stepOs cfg (run cfg n) d os (fr, σ) = some s' ∧ Q s'.1 s'.2
  | [], fr, σ, Q, h => ⟨0, _, rfl, h⟩
  | o :: os, fr, σ, Q, h => by
    simp only [wpOs] at h
    cases hw : wantedA fr o.guard with
    | none => rw [hw] at h; exact h.elim
    | some b =>
      rw [hw] at h
      cases b with
      | true =>
        obtain ⟨n1, v, σ1, h1, h2⟩ := opP_sound h
        obtain ⟨n2, s', h3, h4⟩ := wpOs_sound h2
        refine ⟨max n1 n2, s', ?_, h4⟩
        simp only [stepOs]
        rw [stepO_of hw (opStep_mono (run_le cfg (Nat.le_max_left n1 n2)) h1)]
        exact (stepOs_mono (run_le cfg (Nat.le_max_right n1 n2)) h3).1
      | false =>
        obtain ⟨n2, s', h3, h4⟩ := wpOs_sound h
        refine ⟨n2, s', ?_, h4⟩
        simp only [stepOs, stepO, hw]
        exact h3

theorem wpC_sound : ∀ {c : ACode} {fr : List AVal} {σ : Store} {Q : AExit → List AVal → Store → Prop}, wpC cfg d c fr σ Q → ∃ n x s', evC cfg (run cfg n) d n c (fr, σ) = some (x, s') ∧ Q x s'.1 s'.2
  | .skip, fr, σ, Q, h => ⟨0, .normal, (fr, σ), rfl, h⟩
  | .region ops, fr, σ, Q, h => by
    obtain ⟨n, s', h1, h2⟩ := wpOs_sound h
    exact ⟨n, .normal, s', by simp only [evC, h1], h2⟩
  | .drawn ops pairs, fr, σ, Q, h => by
    obtain ⟨n, s', h1, h2, h3⟩ := h
    exact ⟨n, .normal, s', by simp only [evC, h1, h2, if_true], h3⟩
  | .seq a b, fr, σ, Q, h => by
    obtain ⟨n1, x, s1, h1, h2⟩ := wpC_sound (c := a) h
    cases x with
    | normal =>
      obtain ⟨n2, y, s2, h3, h4⟩ := wpC_sound (c := b) h2
      refine ⟨max n1 n2, y, s2, ?_, h4⟩
      simp only [evC]
      rw [evC_run_mono (Nat.le_max_left n1 n2) h1]
      exact evC_run_mono (Nat.le_max_right n1 n2) h3
    | exit id => exact ⟨n1, .exit id, s1, by simp only [evC, h1], h2⟩
    | ret => exact ⟨n1, .ret, s1, by simp only [evC, h1], h2⟩
  | .cond c a b, fr, σ, Q, h => by
    simp only [wpC] at h
    unfold condP at h
    split at h
    · rename_i hc
      obtain ⟨n, x, s', h1, h2⟩ := wpC_sound (c := a) h
      exact ⟨n, x, s', by simp only [evC, hc]; exact h1, h2⟩
    · rename_i hc
      obtain ⟨n, x, s', h1, h2⟩ := wpC_sound (c := b) h
      exact ⟨n, x, s', by simp only [evC, hc]; exact h1, h2⟩
    · exact h.elim
  | .block id c, fr, σ, Q, h => by
    obtain ⟨n, x, s', h1, h2⟩ := wpC_sound (c := c) h
    cases x with
    | normal => exact ⟨n, .normal, s', by simp only [evC, h1], h2⟩
    | exit id' => exact ⟨n, _, s', by simp only [evC, h1], h2⟩
    | ret => exact ⟨n, .ret, s', by simp only [evC, h1], h2⟩
  | .loop live c, fr, σ, Q, h => by
    obtain ⟨n, x, s', h1, h2⟩ := h
    exact ⟨n, x, s', by simp only [evC]; exact h1, h2⟩
  | .exit id, fr, σ, Q, h => ⟨0, .exit id, (fr, σ), rfl, h⟩
  | .ret, fr, σ, Q, h => ⟨0, .ret, (fr, σ), rfl, h⟩
  | .stop, fr, σ, Q, h => h.elim

/-! ### frames by slots -/
def Fr' (n : Nat) (e : Nat → AVal) : List AVal := (List.range n).map e
def upd (e : Nat → AVal) (k : Nat) (v : AVal) : Nat → AVal := fun t => if t = k then v else e t
def argE : List AVal → Nat → AVal
  | [], _ => .tuple []
  | a :: _, 0 => a
  | _ :: as, t + 1 => argE as t
def liveE : List Nat → List AVal → Nat → AVal
  | k :: ks, v :: vs, t => if t = k then v else liveE ks vs t
  | _, _, _ => .undef

theorem upd_apply (e : Nat → AVal) (k : Nat) (v : AVal) (t : Nat) : upd e k v t = if t = k then v else e t := rfl
theorem argE_zero (a : AVal) (as : List AVal) : argE (a :: as) 0 = a := rfl
theorem argE_succ (a : AVal) (as : List AVal) (t : Nat) : argE (a :: as) (t + 1) = argE as t := rfl
theorem argE_nil (t : Nat) : argE [] t = .tuple [] := rfl
theorem liveE_cons (k : Nat) (ks : List Nat) (v : AVal) (vs : List AVal) (t : Nat) : liveE (k :: ks) (v :: vs) t = if t = k then v else liveE ks vs t := rfl

theorem Fr_get {n t : Nat} {e : Nat → AVal} (h : t < n) : (Fr' n e).getD t .undef = e t := by
  simp [Fr', List.getD_eq_getElem?_getD, List.getElem?_map, List.getElem?_range h]
theorem Fr_ev {n t : Nat} {e : Nat → AVal} (h : t < n) : ev cfg (Fr' n e) (.tmp t) = e t := Fr_get h
theorem ev_const (fr : List AVal) (v : AVal) : ev cfg fr (.const v) = v := rfl
theorem Fr_put {n k : Nat} {e : Nat → AVal} {v : AVal} (h : k < n) : put (Fr' n e) (some k) v = Fr' n (upd e k v) := by
  refine List.ext_getElem? fun i => ?_
  simp only [put, Fr', List.getElem?_set, List.getElem?_map, List.length_map, List.length_range]
  by_cases hi : i < n
  · rw [List.getElem?_range hi]
    by_cases hk : k = i
    · subst hk; simp [h, upd]
    · simp [hk, upd, Ne.symm hk]
  · rw [List.getElem?_eq_none (by simp; omega)]
    have : k ≠ i := by omega
    simp [this]
theorem put_none (fr : List AVal) (v : AVal) : put fr none v = fr := rfl
theorem Fr_args {n : Nat} {args : List AVal} (h : args.length ≤ n) : args ++ List.replicate (n - args.length) (.tuple []) = Fr' n (argE args) := by
  have key : ∀ (args : List AVal) (t : Nat), argE args t = args.getD t (.tuple []) := by
    intro args
    induction args with
    | nil => intro t; simp [argE]
    | cons a as ih => intro t; cases t <;> simp [argE, ih]
  refine List.ext_getElem? fun i => ?_
  simp only [Fr', List.getElem?_map]
  by_cases hi : i < n
  · rw [List.getElem?_range hi]
    simp only [Option.map_some, key]
    by_cases ha : i < args.length
    · rw [List.getElem?_append_left ha]
      simp [List.getD_eq_getElem?_getD, List.getElem?_eq_getElem ha]
    · rw [List.getElem?_append_right (by omega), List.getElem?_replicate, if_pos (by omega)]
      simp [List.getD_eq_getElem?_getD, List.getElem?_eq_none (show args.length ≤ i by omega)]
  · rw [List.getElem?_eq_none (by simp; omega), List.getElem?_eq_none (by simp; omega)]; rfl

theorem cleanFrom_getD (live : List Nat) : ∀ (fr : List AVal) (i t : Nat), (cleanFrom live i fr)[t]? = (fr[t]?).map fun v => if live.contains (i + t) then v else .undef
  | [], i, t => by simp
  | v :: vs, i, 0 => by simp
  | v :: vs, i, t + 1 => by
    simp only [cleanFrom, List.getElem?_cons_succ, cleanFrom_getD live vs (i + 1) t]
    rw [show i + 1 + t = i + (t + 1) by omega]

theorem liveE_map (live : List Nat) (e : Nat → AVal) (t : Nat) : liveE live (live.map e) t = if live.contains t then e t else .undef := by
  induction live with
  | nil => simp [liveE]
  | cons k ks ih =>
    simp only [List.map_cons, liveE_cons, ih, List.contains_cons]
    by_cases h : t = k
    · subst h; simp
    · simp [h]

theorem clean_Fr (live : List Nat) (n : Nat) (e : Nat → AVal) : cleanFrom live 0 (Fr' n e) = Fr' n (liveE live (live.map e)) := by
  refine List.ext_getElem? fun i => ?_
  rw [cleanFrom_getD]
  simp only [Fr', List.getElem?_map, Option.map_map]
  by_cases hi : i < n
  · rw [List.getElem?_range hi]
    simp only [Option.map_some, Function.comp, liveE_map, Nat.zero_add]
  · rw [List.getElem?_eq_none (by simp; omega)]; rfl

theorem Fr_len {n : Nat} {e : Nat → AVal} : (Fr' n e).length = n := by simp [Fr']
theorem Fr_of (fr : List AVal) : fr = Fr' fr.length (fun t => fr.getD t .undef) := by
  refine List.ext_getElem? fun i => ?_
  simp only [Fr', List.getElem?_map]
  by_cases hi : i < fr.length
  · rw [List.getElem?_range hi]; simp [List.getD_eq_getElem?_getD, List.getElem?_eq_getElem hi]
  · rw [List.getElem?_eq_none (by omega), List.getElem?_eq_none (by simp; omega)]; rfl

/-! ### loops -/
def loopQ (live : List Nat) (I : Nat → List AVal → Store → Prop) (m : Nat) (Q : AExit → List AVal → Store → Prop) (n : Nat) : AExit → List AVal → Store → Prop
  | .normal, fr, σ => fr.length = n ∧ ∃ m', m' < m ∧ I m' (live.map fun t => fr.getD t .undef) σ
  | x, fr, σ => Q x fr σ

theorem loop_rule {live : List Nat} {c : ACode} {n : Nat} {e : Nat → AVal} {σ : Store} {Q : AExit → List AVal → Store → Prop} (I : Nat → List AVal → Store → Prop) (m0 : Nat) (h0 : I m0 (live.map e) σ)
    (step : ∀ m vs σ, I m vs σ → wpC cfg d c (Fr' n (liveE live vs)) σ (loopQ live I m Q n)) {w : Wit Q} {w' : Wit c} : loopP cfg d live c (Fr' n e) σ Q w w' := by
  have key : ∀ m vs σ, I m vs σ → ∀ e, live.map e = vs → ∃ N x s', iter live (evC cfg (run cfg N) d N c) N (Fr' n e, σ) = some (x, s') ∧ Q x s'.1 s'.2 := by
    intro m
    induction m using Nat.strongRecOn with
    | _ m ih =>
      intro vs σ hI e he
      obtain ⟨n1, x, s1, h1, h2⟩ := wpC_sound (step m vs σ hI)
      cases x with
      | normal =>
        obtain ⟨hl, m', hm, hI'⟩ := h2
        obtain ⟨n2, y, s2, h3, h4⟩ := ih m' hm _ _ hI' (fun t => s1.1.getD t .undef) rfl
        refine ⟨max n1 n2 + 1, y, s2, ?_, h4⟩
        simp only [iter, clean_Fr, he]
        rw [evC_run_mono (show n1 ≤ max n1 n2 + 1 by omega) h1]
        have e1 : s1.1 = Fr' n (fun t => s1.1.getD t .undef) := by rw [← hl]; exact Fr_of s1.1
        dsimp only
        have e2 : s1 = (Fr' n (fun t => s1.1.getD t .undef), s1.2) := by rw [← e1]
        rw [e2]
        exact iter_mono (fun s r h => evC_run_mono (show n2 ≤ max n1 n2 + 1 by omega) h) (show n2 ≤ max n1 n2 by omega) h3
      | exit id =>
        refine ⟨n1 + 1, .exit id, s1, ?_, h2⟩
        simp only [iter, clean_Fr, he]
        rw [evC_run_mono (Nat.le_succ n1) h1]
      | ret =>
        refine ⟨n1 + 1, .ret, s1, ?_, h2⟩
        simp only [iter, clean_Fr, he]
        rw [evC_run_mono (Nat.le_succ n1) h1]
  exact key m0 _ σ h0 e rfl

/-- .. with what holds behind it, told of the slots that are looked at then -/
theorem loop_rule2 {live : List Nat} {c : ACode} {n : Nat} {e : Nat → AVal} {σ : Store} {Q : AExit → List AVal → Store → Prop} (I : Nat → List AVal → Store → Prop) (lo : List Nat) (J : AExit → List AVal → Store → Prop) (m0 : Nat) (h0 : I m0 (live.map e) σ)
    (step : ∀ m vs σ, I m vs σ → wpC cfg d c (Fr' n (liveE live vs)) σ (loopQ live I m (fun x fr σ => fr.length = n ∧ J x (lo.map fun t => fr.getD t .undef) σ) n))
    (post : ∀ x σ (e : Nat → AVal), J x (lo.map e) σ → Q x (Fr' n e) σ) {w : Wit Q} {w' : Wit c} : loopP cfg d live c (Fr' n e) σ Q w w' := by
  obtain ⟨k, x, s, h1, hl, h2⟩ := loop_rule (w := .mk) (w' := .mk) I m0 h0 step
  refine ⟨k, x, s, h1, ?_⟩
  have := post x s.2 (fun t => s.1.getD t .undef) h2
  rw [← hl, ← Fr_of] at this
  exact this

/-! ### functions -/
def endQ (rs : List ARes) (Q : AVal → Store → Prop) : AExit → List AVal → Store → Prop
  | .exit _, _, _ => False
  | _, fr, σ => stepP (resultsA rs (fr, σ)) fr σ (fun _ σ v => Q v σ) .mk

theorem called_of {f : FuncId} {fn : AFunc} {args : List AVal} {σ : Store} {Q : AVal → Store → Prop} (hf : cfg.ir f = some fn) (hl : args.length ≤ fn.ntmps) (h : wpC cfg d fn.body (Fr' fn.ntmps (argE args)) σ (endQ fn.results Q)) : Called cfg d f args σ Q := by
  obtain ⟨n, x, s, h1, h2⟩ := wpC_sound h
  have key : stepP (resultsA fn.results s) s.1 s.2 (fun _ σ v => Q v σ) .mk → (x = .normal ∨ x = .ret) → Called cfg d f args σ Q := by
    intro h3 h4
    cases hr : resultsA fn.results s with
    | none => rw [hr] at h3; exact h3.elim
    | some v =>
      rw [hr] at h3
      refine ⟨n + 1, v, s.2, ?_, h3⟩
      simp only [run, hf, Fr_args hl, h1]
      rcases h4 with rfl | rfl <;> simp only [hr]
  cases x with
  | normal => exact key h2 (.inl rfl)
  | exit id => exact h2.elim
  | ret => exact key h2 (.inr rfl)
end

/-! ### the rules, to be rewritten with -/
section
variable {cfg : Cfg} {d : Nat} {fr : List AVal} {σ : Store} {Q : AExit → List AVal → Store → Prop} {K : List AVal → Store → Prop} {R : AVal → Store → Prop}

theorem wpC_skip : wpC cfg d .skip fr σ Q = Q .normal fr σ := propext Iff.rfl
theorem wpC_region (ops : List AOper) : wpC cfg d (.region ops) fr σ Q = wpOs cfg d ops fr σ (Q .normal) := propext Iff.rfl
theorem wpC_drawn (ops : List AOper) (pairs : List (Nat × Nat)) : wpC cfg d (.drawn ops pairs) fr σ Q = drawnP cfg d ops pairs fr σ (Q .normal) .mk := propext Iff.rfl
theorem wpC_seq (a b : ACode) : wpC cfg d (.seq a b) fr σ Q = wpC cfg d a fr σ (seqQ (fun fr σ Q => wpC cfg d b fr σ Q) Q) := propext Iff.rfl
theorem wpC_cond (c : Opnd) (a b : ACode) : wpC cfg d (.cond c a b) fr σ Q = condP (ev cfg fr c) (fun Q => wpC cfg d a fr σ Q) (fun Q => wpC cfg d b fr σ Q) Q .mk .mk .mk := propext Iff.rfl
theorem wpC_block (id : Nat) (c : ACode) : wpC cfg d (.block id c) fr σ Q = wpC cfg d c fr σ (blockQ id Q) := propext Iff.rfl
theorem wpC_loop (live : List Nat) (c : ACode) : wpC cfg d (.loop live c) fr σ Q = loopP cfg d live c fr σ Q .mk .mk := propext Iff.rfl
theorem wpC_exit (id : Nat) : wpC cfg d (.exit id) fr σ Q = Q (.exit id) fr σ := propext Iff.rfl
theorem wpC_ret : wpC cfg d .ret fr σ Q = Q .ret fr σ := propext Iff.rfl
theorem wpOs_nil : wpOs cfg d [] fr σ K = K fr σ := propext Iff.rfl
theorem wpOs_cons (o : Option Nat) (op : AOp) (os : List AOper) : wpOs cfg d (⟨o, op, none⟩ :: os) fr σ K = opP cfg d fr σ op (fun v σ' => wpOs cfg d os (put fr o v) σ' K) := propext Iff.rfl
theorem wpOs_guard (o : Option Nat) (op : AOp) (t : Nat) (b : Bool) (os : List AOper) : wpOs cfg d (⟨o, op, some (t, b)⟩ :: os) fr σ K = guardP (wantedA fr (some (t, b))) (fun K => wpOs cfg d (⟨o, op, none⟩ :: os) fr σ K) (fun K => wpOs cfg d os (put fr o (.tuple [])) σ K) K .mk .mk .mk := propext Iff.rfl
def wantV (b : Bool) (v : AVal) : Option Bool := match v with
  | .bool c => some (c == b)
  | .tuple [] => some false
  | _ => none
theorem wantedA_eq (t : Nat) (b : Bool) : wantedA fr (some (t, b)) = wantV b (fr.getD t .undef) := rfl
theorem wantV_bool (b c : Bool) : wantV b (.bool c) = some (c == b) := rfl
theorem wantV_hole (b : Bool) : wantV b (.tuple []) = some false := rfl

variable (K' : List AVal → Store → PostC → Prop)
theorem seqQ_normal : seqQ K' Q .normal fr σ = K' fr σ Q := propext Iff.rfl
theorem seqQ_exit (id : Nat) : seqQ K' Q (.exit id) fr σ = Q (.exit id) fr σ := propext Iff.rfl
theorem seqQ_ret : seqQ K' Q .ret fr σ = Q .ret fr σ := propext Iff.rfl
theorem blockQ_normal (id : Nat) : blockQ id Q .normal fr σ = Q .normal fr σ := propext Iff.rfl
theorem blockQ_hit (id : Nat) : blockQ id Q (.exit id) fr σ = Q .normal fr σ := by simp only [blockQ, if_true]
theorem blockQ_miss (id id' : Nat) (h : (id' == id) = false) : blockQ id Q (.exit id') fr σ = Q (.exit id') fr σ := by
  have h' : ¬ id' = id := by simpa using h
  simp only [blockQ, if_neg h']
theorem blockQ_ret (id : Nat) : blockQ id Q .ret fr σ = Q .ret fr σ := propext Iff.rfl
theorem endQ_normal (rs : List ARes) : endQ rs R .normal fr σ = stepP (resultsA rs (fr, σ)) fr σ (fun _ σ v => R v σ) .mk := propext Iff.rfl
theorem endQ_ret (rs : List ARes) : endQ rs R .ret fr σ = stepP (resultsA rs (fr, σ)) fr σ (fun _ σ v => R v σ) .mk := propext Iff.rfl
theorem loopQ_normal (live : List Nat) (I : Nat → List AVal → Store → Prop) (m n : Nat) : loopQ live I m Q n .normal fr σ = (fr.length = n ∧ ∃ m', m' < m ∧ I m' (live.map fun t => fr.getD t .undef) σ) := propext Iff.rfl
theorem loopQ_exit (live : List Nat) (I : Nat → List AVal → Store → Prop) (m n id : Nat) : loopQ live I m Q n (.exit id) fr σ = Q (.exit id) fr σ := propext Iff.rfl
theorem loopQ_ret (live : List Nat) (I : Nat → List AVal → Store → Prop) (m n : Nat) : loopQ live I m Q n .ret fr σ = Q .ret fr σ := propext Iff.rfl
theorem res_one (r : ARes) : resultsA [r] (fr, σ) = resOf (fr, σ) r := by
  simp only [resultsA, mapO]
  cases resOf (fr, σ) r <;> rfl
theorem res_two (r s : ARes) (v u : AVal) (h1 : resOf (fr, σ) r = some v) (h2 : resOf (fr, σ) s = some u) : resultsA [r, s] (fr, σ) = some (.tuple [v, u]) := by
  simp only [resultsA, mapO, h1, h2]
theorem res2_tmp (a b : Nat) : resultsA [.tmp a, .tmp b] (fr, σ) = some (.tuple [fr.getD a .undef, fr.getD b .undef]) := rfl
theorem res3_tmp (a b c : Nat) : resultsA [.tmp a, .tmp b, .tmp c] (fr, σ) = some (.tuple [fr.getD a .undef, fr.getD b .undef, fr.getD c .undef]) := rfl
theorem res4_tmp (a b c e : Nat) : resultsA [.tmp a, .tmp b, .tmp c, .tmp e] (fr, σ) = some (.tuple [fr.getD a .undef, fr.getD b .undef, fr.getD c .undef, fr.getD e .undef]) := rfl
theorem res_tmp (t : Nat) : resOf (fr, σ) (.tmp t) = some (fr.getD t .undef) := rfl
theorem res_cell (t n : Nat) (agg : Bool) : resOf (fr, σ) (.cell t n agg) = loadV σ n agg (fr.getD t .undef) := rfl

/-! operations -/
theorem opP_move (x : Opnd) : opP cfg d fr σ (.move x) R = R (ev cfg fr x) σ := propext Iff.rfl
def pickV (c a b : AVal) : Option AVal := match c with
  | .bool t => some (if t then a else b)
  | _ => none
theorem pickV_bool (t : Bool) (a b : AVal) : pickV (.bool t) a b = some (if t then a else b) := rfl
theorem opP_pick (c a b : Opnd) : opP cfg d fr σ (.pick c a b) R = optP (pickV (ev cfg fr c) (ev cfg fr a) (ev cfg fr b)) (fun v => R v σ) .mk := by
  simp only [opP, opE, opStep]; cases ev cfg fr c <;> rfl
theorem opP_alloc (z : List AVal) : opP cfg d fr σ (.alloc z) R = R (.ptr σ.length 0) (σ ++ [.cells z]) := propext Iff.rfl
theorem opP_box (x : Opnd) : opP cfg d fr σ (.box x) R = optP (if (ev cfg fr x).cells.all AVal.one then some () else none) (fun _ => R (.ptr σ.length 0) (σ ++ [.cells (ev cfg fr x).cells])) .mk := by
  simp only [opP, opE, opStep]; split <;> rfl
theorem opP_build (z : List AVal) (parts : List (Nat × Nat × Opnd)) : opP cfg d fr σ (.build z parts) R = optP (fillA z (parts.map fun p => (p.1, p.2.1, ev cfg fr p.2.2))) (fun cs => R (.agg cs) σ) .mk := by
  simp only [opP, opE, opStep]; cases fillA z (parts.map fun p => (p.1, p.2.1, ev cfg fr p.2.2)) <;> rfl
theorem opP_lit (sz : Nat) (z : List AVal) (agg : Bool) (n : Nat) (parts : List (Nat × Opnd)) : opP cfg d fr σ (.lit sz z agg n parts) R = optP (fillE sz agg (List.replicate n (zel z agg)) (parts.map fun p => (p.1, ev cfg fr p.2))) (fun es => R (.fslice (AVal.tagL es) true sz es) σ) .mk := by
  simp only [opP, opE, opStep]; cases fillE sz agg (List.replicate n (zel z agg)) (parts.map fun p => (p.1, ev cfg fr p.2)) <;> rfl
theorem opP_litA (sz : Nat) (z : List AVal) (agg : Bool) (n : Nat) (parts : List (Nat × Opnd)) : opP cfg d fr σ (.litA sz z agg n parts) R = optP (fillL sz agg (List.replicate n (zel z agg)) (parts.map fun p => (p.1, ev cfg fr p.2))) (fun es => R (.slice sz σ.length 0 0 n (some n)) (σ ++ [.arr sz es 0 0])) .mk := by
  simp only [opP, opE, opStep]; cases fillL sz agg (List.replicate n (zel z agg)) (parts.map fun p => (p.1, ev cfg fr p.2)) <;> rfl
theorem opP_load (n : Nat) (agg : Bool) (a : Opnd) : opP cfg d fr σ (.load n agg a) R = optP (loadV σ n agg (ev cfg fr a)) (fun v => R v σ) .mk := by
  simp only [opP, opE, opStep]; cases loadV σ n agg (ev cfg fr a) <;> rfl
theorem opP_store (n : Nat) (a v : Opnd) : opP cfg d fr σ (.store n a v) R = optP (storeV σ n (ev cfg fr a) (ev cfg fr v)) (fun σ' => R (.tuple []) σ') .mk := by
  simp only [opP, opE, opStep]; cases storeV σ n (ev cfg fr a) (ev cfg fr v) <;> rfl
def ncV (v : AVal) : Option AVal := match v with
  | .ptr id off => some (.ptr id off)
  | .eptr id ep i off => some (.eptr id ep i off)
  | .fptr t cs off => some (.fptr t cs off)
  | .func f a b => some (.func f a b)
  | _ => none
theorem ncV_ptr (id off : Nat) : ncV (.ptr id off) = some (.ptr id off) := rfl
theorem ncV_eptr (id ep i off : Nat) : ncV (.eptr id ep i off) = some (.eptr id ep i off) := rfl
theorem ncV_fptr (t : Nat) (cs : List AVal) (off : Nat) : ncV (.fptr t cs off) = some (.fptr t cs off) := rfl
theorem ncV_func (f : FuncId) (a b : List AVal) : ncV (.func f a b) = some (.func f a b) := rfl
theorem opP_nilCheck (x : Opnd) : opP cfg d fr σ (.nilCheck x) R = optP (ncV (ev cfg fr x)) (fun v => R v σ) .mk := by
  simp only [opP, opE, opStep]; cases ev cfg fr x <;> rfl
theorem opP_iop (op : BinOp) (x y : Opnd) : opP cfg d fr σ (.iop op x y) R = optP (iopV op (ev cfg fr x) (ev cfg fr y)) (fun v => R v σ) .mk := by
  simp only [opP, opE, opStep]; cases iopV op (ev cfg fr x) (ev cfg fr y) <;> rfl
theorem opP_sop (op : BinOp) (x y : Opnd) : opP cfg d fr σ (.sop op x y) R = optP (sopV op (ev cfg fr x) (ev cfg fr y)) (fun v => R v σ) .mk := by
  simp only [opP, opE, opStep]; cases sopV op (ev cfg fr x) (ev cfg fr y) <;> rfl
def bopV (neg : Bool) (x y : AVal) : Option AVal := match x, y with
  | .bool a, .bool b => some (.bool (if neg then !(a == b) else a == b))
  | _, _ => none
theorem bopV_bool (neg a b : Bool) : bopV neg (.bool a) (.bool b) = some (.bool (if neg then !(a == b) else a == b)) := rfl
theorem opP_bop (neg : Bool) (x y : Opnd) : opP cfg d fr σ (.bop neg x y) R = optP (bopV neg (ev cfg fr x) (ev cfg fr y)) (fun v => R v σ) .mk := by
  simp only [opP, opE, opStep]; cases ev cfg fr x <;> first | rfl | (cases ev cfg fr y <;> rfl)
theorem opP_eqs (neg : Bool) (ks : List EK) (x y : Opnd) : opP cfg d fr σ (.eqs neg ks x y) R = optP (eqsV ks (ev cfg fr x) (ev cfg fr y)) (fun b => R (.bool (if neg then !b else b)) σ) .mk := by
  simp only [opP, opE, opStep]; cases eqsV ks (ev cfg fr x) (ev cfg fr y) <;> rfl
theorem opP_eqnil (neg : Bool) (k : NK) (x : Opnd) : opP cfg d fr σ (.eqnil neg k x) R = optP (isNil k (ev cfg fr x)) (fun b => R (.bool (if neg then !b else b)) σ) .mk := by
  simp only [opP, opE, opStep]; cases isNil k (ev cfg fr x) <;> rfl
def notV (v : AVal) : Option AVal := match v with
  | .bool b => some (.bool !b)
  | _ => none
theorem notV_bool (b : Bool) : notV (.bool b) = some (.bool !b) := rfl
theorem opP_not (x : Opnd) : opP cfg d fr σ (.not x) R = optP (notV (ev cfg fr x)) (fun v => R v σ) .mk := by
  simp only [opP, opE, opStep]; cases ev cfg fr x <;> rfl
def negV (v : AVal) : Option AVal := match v with
  | .int k n => some (.int k (k.wrap (0 - n)))
  | _ => none
theorem negV_int (k : IntKind) (n : Int) : negV (.int k n) = some (.int k (k.wrap (0 - n))) := rfl
theorem opP_neg (x : Opnd) : opP cfg d fr σ (.neg x) R = optP (negV (ev cfg fr x)) (fun v => R v σ) .mk := by
  simp only [opP, opE, opStep]; cases ev cfg fr x <;> rfl
def convV (k : IntKind) (v : AVal) : Option AVal := match v with
  | .int _ n => some (.int k (k.wrap n))
  | _ => none
theorem convV_int (k j : IntKind) (n : Int) : convV k (.int j n) = some (.int k (k.wrap n)) := rfl
theorem opP_convI (k : IntKind) (x : Opnd) : opP cfg d fr σ (.convI k x) R = optP (convV k (ev cfg fr x)) (fun v => R v σ) .mk := by
  simp only [opP, opE, opStep]; cases ev cfg fr x <;> rfl
theorem opP_sliceOp (sz : Nat) (x : Opnd) (lo hi mx : Option Opnd) : opP cfg d fr σ (.sliceOp sz x lo hi mx) R = optP (sliceV sz (ev cfg fr x) (oev cfg fr lo) (oev cfg fr hi) (oev cfg fr mx)) (fun v => R v σ) .mk := by
  simp only [opP, opE, opStep]; cases sliceV sz (ev cfg fr x) (oev cfg fr lo) (oev cfg fr hi) (oev cfg fr mx) <;> rfl
theorem opP_substr (x : Opnd) (lo hi : Option Opnd) : opP cfg d fr σ (.substr x lo hi) R = optP (substrV (ev cfg fr x) (oev cfg fr lo) (oev cfg fr hi)) (fun v => R v σ) .mk := by
  simp only [opP, opE, opStep]; cases substrV (ev cfg fr x) (oev cfg fr lo) (oev cfg fr hi) <;> rfl
theorem opP_faddr (off : Nat) (x : Opnd) : opP cfg d fr σ (.faddr off x) R = optP (faddrV off (ev cfg fr x)) (fun v => R v σ) .mk := by
  simp only [opP, opE, opStep]; cases faddrV off (ev cfg fr x) <;> rfl
def fieldV (off n : Nat) (agg : Bool) (v : AVal) : Option AVal := match v with
  | .agg cs => ld cs off n agg
  | _ => none
theorem fieldV_agg (off n : Nat) (agg : Bool) (cs : List AVal) : fieldV off n agg (.agg cs) = ld cs off n agg := rfl
theorem opP_field (off n : Nat) (agg : Bool) (x : Opnd) : opP cfg d fr σ (.field off n agg x) R = optP (fieldV off n agg (ev cfg fr x)) (fun v => R v σ) .mk := by
  simp only [opP, opE, opStep]
  cases ev cfg fr x <;> try rfl
  rename_i cs
  simp only [fieldV]
  cases ld cs off n agg <;> rfl
theorem opP_iaddr (sz : Nat) (x i : Opnd) : opP cfg d fr σ (.iaddr sz x i) R = optP (iaddrV sz (ev cfg fr x) (ev cfg fr i)) (fun v => R v σ) .mk := by
  simp only [opP, opE, opStep]; cases iaddrV sz (ev cfg fr x) (ev cfg fr i) <;> rfl
theorem opP_aaddr (len sz : Nat) (x i : Opnd) : opP cfg d fr σ (.aaddr len sz x i) R = optP (aaddrV len sz (ev cfg fr x) (ev cfg fr i)) (fun v => R v σ) .mk := by
  simp only [opP, opE, opStep]; cases aaddrV len sz (ev cfg fr x) (ev cfg fr i) <;> rfl
theorem opP_strIdx (x i : Opnd) : opP cfg d fr σ (.strIdx x i) R = optP (strIdxV (ev cfg fr x) (ev cfg fr i)) (fun v => R v σ) .mk := by
  simp only [opP, opE, opStep]; cases strIdxV (ev cfg fr x) (ev cfg fr i) <;> rfl
theorem opP_arrIdx (len sz : Nat) (agg : Bool) (x i : Opnd) : opP cfg d fr σ (.arrIdx len sz agg x i) R = optP (arrIdxV len sz agg (ev cfg fr x) (ev cfg fr i)) (fun v => R v σ) .mk := by
  simp only [opP, opE, opStep]; cases arrIdxV len sz agg (ev cfg fr x) (ev cfg fr i) <;> rfl
theorem opP_lenS (x : Opnd) : opP cfg d fr σ (.lenS x) R = optP (lenSV (ev cfg fr x)) (fun n => R (.int .i64 n) σ) .mk := by
  simp only [opP, opE, opStep]; cases lenSV (ev cfg fr x) <;> rfl
def lenStrV (v : AVal) : Option Nat := match v with
  | .str s => some s.length
  | _ => none
theorem lenStrV_str (s : List UInt8) : lenStrV (.str s) = some s.length := rfl
theorem opP_lenStr (x : Opnd) : opP cfg d fr σ (.lenStr x) R = optP (lenStrV (ev cfg fr x)) (fun n => R (.int .i64 n) σ) .mk := by
  simp only [opP, opE, opStep]; cases ev cfg fr x <;> rfl
theorem opP_lenM (x : Opnd) : opP cfg d fr σ (.lenM x) R = optP (lenMV σ (ev cfg fr x)) (fun n => R (.int .i64 n) σ) .mk := by
  simp only [opP, opE, opStep]; cases lenMV σ (ev cfg fr x) <;> rfl
theorem opP_lenA (n : Nat) : opP cfg d fr σ (.lenA n) R = R (.int .i64 n) σ := propext Iff.rfl
theorem opP_capS (x : Opnd) : opP cfg d fr σ (.capS x) R = optP (capSV (ev cfg fr x)) (fun n => R (.int .i64 n) σ) .mk := by
  simp only [opP, opE, opStep]; cases capSV (ev cfg fr x) <;> rfl
theorem opP_minI (x : Opnd) (xs : List Opnd) : opP cfg d fr σ (.minI (x :: xs)) R = optP (foldV minV (ev cfg fr x) (xs.map (ev cfg fr))) (fun v => R v σ) .mk := by
  simp only [opP, opE, opStep]; cases foldV minV (ev cfg fr x) (xs.map (ev cfg fr)) <;> rfl
theorem opP_maxI (x : Opnd) (xs : List Opnd) : opP cfg d fr σ (.maxI (x :: xs)) R = optP (foldV maxV (ev cfg fr x) (xs.map (ev cfg fr))) (fun v => R v σ) .mk := by
  simp only [opP, opE, opStep]; cases foldV maxV (ev cfg fr x) (xs.map (ev cfg fr)) <;> rfl
theorem opP_append (sz bytes : Nat) (x y : Opnd) : opP cfg d fr σ (.append sz bytes x y) R = optP (elems sz σ (ev cfg fr y)) (fun ys => optP (appendV σ sz bytes (ev cfg fr x) ys) (fun p => R p.1 p.2) .mk) .mk := by
  simp only [opP, opE, opStep]; cases elems sz σ (ev cfg fr y) <;> rfl
theorem opP_appendz (sz bytes : Nat) (z : List AVal) (agg : Bool) (x y : Opnd) : opP cfg d fr σ (.appendz sz bytes z agg x y) R = opE cfg d fr σ (.appendz sz bytes z agg x y) R := propext Iff.rfl
def mkslV (σ : Store) (sz bytes : Nat) (z : List AVal) (agg : Bool) (l c : AVal) : Option (AVal × Store) := match l, c with
  | .int .i64 n, .int .i64 c => if 0 ≤ n ∧ n ≤ c ∧ c * bytes ≤ apLim then
        some (.slice sz σ.length 0 0 n.toNat (if n = c then some n.toNat else none), σ ++ [.arr sz (List.replicate n.toNat (zel z agg)) 0 0]) else none
  | _, _ => none
theorem opP_mkslice (sz bytes : Nat) (z : List AVal) (agg : Bool) (l c : Opnd) : opP cfg d fr σ (.mkslice sz bytes z agg l c) R = optP (mkslV σ sz bytes z agg (ev cfg fr l) (ev cfg fr c)) (fun p => R p.1 p.2) .mk := propext Iff.rfl
def extrV (v : AVal) (i : Nat) : Option AVal := match v with
  | .tuple vs => vs[i]?
  | _ => none
theorem extrV_tuple (vs : List AVal) (i : Nat) : extrV (.tuple vs) i = vs[i]? := rfl
theorem opP_extract (x : Opnd) (i : Nat) : opP cfg d fr σ (.extract x i) R = optP (extrV (ev cfg fr x) i) (fun v => R v σ) .mk := by
  simp only [opP, opE, opStep]
  cases ev cfg fr x <;> try rfl
  rename_i cs
  simp only [extrV]
  cases cs[i]? <;> rfl
theorem opP_mkfunc (f : FuncId) (first caps : List Opnd) : opP cfg d fr σ (.mkfunc f first caps) R = R (.func f (first.map (ev cfg fr)) (caps.map (ev cfg fr))) σ := propext Iff.rfl
theorem opP_mkmap : opP cfg d fr σ .mkmap R = R (.map σ.length) (σ ++ [.map [] []]) := propext Iff.rfl
theorem opP_lookup (g : Bool) (q : List EK) (z : AVal) (x k : Opnd) (ok : Bool) : opP cfg d fr σ (.lookup g q z x k ok) R = optP (lookupV σ g q z (ev cfg fr x) (ev cfg fr k) ok) (fun v => R v σ) .mk := by
  simp only [opP, opE, opStep]; cases lookupV σ g q z (ev cfg fr x) (ev cfg fr k) ok <;> rfl
theorem opP_mapset (g : Bool) (q : List EK) (m k v : Opnd) : opP cfg d fr σ (.mapset g q m k v) R = optP (mapsetV σ g q (ev cfg fr m) (ev cfg fr k) (ev cfg fr v)) (fun σ' => R (.tuple []) σ') .mk := by
  simp only [opP, opE, opStep]; cases mapsetV σ g q (ev cfg fr m) (ev cfg fr k) (ev cfg fr v) <;> rfl
theorem opP_mapdel (g : Bool) (q : List EK) (m k : Opnd) : opP cfg d fr σ (.mapdel g q m k) R = optP (mapdelV σ g q (ev cfg fr m) (ev cfg fr k)) (fun σ' => R (.tuple []) σ') .mk := by
  simp only [opP, opE, opStep]; cases mapdelV σ g q (ev cfg fr m) (ev cfg fr k) <;> rfl
theorem opP_mkiface (t : TypeId) (x : Opnd) : opP cfg d fr σ (.mkiface t x) R = R (.iface t (ev cfg fr x)) σ := propext Iff.rfl
theorem opP_callS (f : FuncId) (args : List Opnd) : opP cfg d fr σ (.call .shared f args) R = calledW cfg d f (args.map (ev cfg fr)) fr σ (fun _ => R) .mk := propext Iff.rfl
theorem opP_call (m : Mode) (f : FuncId) (args : List Opnd) : opP cfg d fr σ (.call m f args) R = callP cfg d m f (args.map (ev cfg fr)) σ R := propext Iff.rfl
def callvP (cfg : Cfg) (d : Nat) (m : Mode) (f : AVal) (args fr : List AVal) (σ : Store) (R : List AVal → AVal → Store → Prop) (w : Wit R) : Prop := match f with
  | .func g first caps => callP cfg d m g (first ++ args ++ caps) σ (R fr)
  | _ => False
theorem callvP_func (g : FuncId) (first caps args fr : List AVal) (R : List AVal → AVal → Store → Prop) (w : Wit R) : callvP cfg d .shared (.func g first caps) args fr σ R w = calledW cfg d g (first ++ args ++ caps) fr σ R .mk := propext Iff.rfl
theorem opP_callv (m : Mode) (f : Opnd) (args : List Opnd) : opP cfg d fr σ (.callv m f args) R = callvP cfg d m (ev cfg fr f) (args.map (ev cfg fr)) fr σ (fun _ => R) .mk := propext Iff.rfl

/-! .. as the first of a row -/
theorem wpO_move (o : Option Nat) (os : List AOper) (x : Opnd) : wpOs cfg d (⟨o, .move x, none⟩ :: os) fr σ K = stepP (some (ev cfg fr x)) fr σ (fun fr σ v => wpOs cfg d os (put fr o v) σ K) .mk := opP_move (cfg := cfg) (d := d) (fr := fr) (σ := σ) (R := fun v σ' => wpOs cfg d os (put fr o v) σ' K) x
theorem wpO_pick (o : Option Nat) (os : List AOper) (c a b : Opnd) : wpOs cfg d (⟨o, .pick c a b, none⟩ :: os) fr σ K = stepP (pickV (ev cfg fr c) (ev cfg fr a) (ev cfg fr b)) fr σ (fun fr σ v => wpOs cfg d os (put fr o v) σ K) .mk := opP_pick (cfg := cfg) (d := d) (fr := fr) (σ := σ) (R := fun v σ' => wpOs cfg d os (put fr o v) σ' K) c a b
theorem wpO_alloc (o : Option Nat) (os : List AOper) (z : List AVal) : wpOs cfg d (⟨o, .alloc z, none⟩ :: os) fr σ K = stepP (some (.ptr σ.length 0)) fr (σ ++ [.cells z]) (fun fr σ v => wpOs cfg d os (put fr o v) σ K) .mk := opP_alloc (cfg := cfg) (d := d) (fr := fr) (σ := σ) (R := fun v σ' => wpOs cfg d os (put fr o v) σ' K) z
theorem wpO_box (o : Option Nat) (os : List AOper) (x : Opnd) : wpOs cfg d (⟨o, .box x, none⟩ :: os) fr σ K = stepP (if (ev cfg fr x).cells.all AVal.one then some () else none) fr σ (fun fr σ _ => wpOs cfg d os (put fr o (.ptr σ.length 0)) (σ ++ [.cells (ev cfg fr x).cells]) K) .mk := opP_box (cfg := cfg) (d := d) (fr := fr) (σ := σ) (R := fun v σ' => wpOs cfg d os (put fr o v) σ' K) x
theorem wpO_build (o : Option Nat) (os : List AOper) (z : List AVal) (parts : List (Nat × Nat × Opnd)) : wpOs cfg d (⟨o, .build z parts, none⟩ :: os) fr σ K = stepP (fillA z (parts.map fun p => (p.1, p.2.1, ev cfg fr p.2.2))) fr σ (fun fr σ cs => wpOs cfg d os (put fr o (.agg cs)) σ K) .mk := opP_build (cfg := cfg) (d := d) (fr := fr) (σ := σ) (R := fun v σ' => wpOs cfg d os (put fr o v) σ' K) z parts
theorem wpO_lit (o : Option Nat) (os : List AOper) (sz : Nat) (z : List AVal) (agg : Bool) (n : Nat) (parts : List (Nat × Opnd)) : wpOs cfg d (⟨o, .lit sz z agg n parts, none⟩ :: os) fr σ K = stepP (fillE sz agg (List.replicate n (zel z agg)) (parts.map fun p => (p.1, ev cfg fr p.2))) fr σ (fun fr σ es => wpOs cfg d os (put fr o (.fslice (AVal.tagL es) true sz es)) σ K) .mk := opP_lit (cfg := cfg) (d := d) (fr := fr) (σ := σ) (R := fun v σ' => wpOs cfg d os (put fr o v) σ' K) sz z agg n parts
theorem wpO_litA (o : Option Nat) (os : List AOper) (sz : Nat) (z : List AVal) (agg : Bool) (n : Nat) (parts : List (Nat × Opnd)) : wpOs cfg d (⟨o, .litA sz z agg n parts, none⟩ :: os) fr σ K = stepP (fillL sz agg (List.replicate n (zel z agg)) (parts.map fun p => (p.1, ev cfg fr p.2))) fr σ (fun fr σ es => wpOs cfg d os (put fr o (.slice sz σ.length 0 0 n (some n))) (σ ++ [.arr sz es 0 0]) K) .mk := opP_litA (cfg := cfg) (d := d) (fr := fr) (σ := σ) (R := fun v σ' => wpOs cfg d os (put fr o v) σ' K) sz z agg n parts
theorem wpO_load (o : Option Nat) (os : List AOper) (n : Nat) (agg : Bool) (a : Opnd) : wpOs cfg d (⟨o, .load n agg a, none⟩ :: os) fr σ K = stepP (loadV σ n agg (ev cfg fr a)) fr σ (fun fr σ v => wpOs cfg d os (put fr o v) σ K) .mk := opP_load (cfg := cfg) (d := d) (fr := fr) (σ := σ) (R := fun v σ' => wpOs cfg d os (put fr o v) σ' K) n agg a
theorem wpO_store (o : Option Nat) (os : List AOper) (n : Nat) (a v : Opnd) : wpOs cfg d (⟨o, .store n a v, none⟩ :: os) fr σ K = stepP (storeV σ n (ev cfg fr a) (ev cfg fr v)) fr σ (fun fr _ σ' => wpOs cfg d os (put fr o (.tuple [])) σ' K) .mk := opP_store (cfg := cfg) (d := d) (fr := fr) (σ := σ) (R := fun v σ' => wpOs cfg d os (put fr o v) σ' K) n a v
theorem wpO_nilCheck (o : Option Nat) (os : List AOper) (x : Opnd) : wpOs cfg d (⟨o, .nilCheck x, none⟩ :: os) fr σ K = stepP (ncV (ev cfg fr x)) fr σ (fun fr σ v => wpOs cfg d os (put fr o v) σ K) .mk := opP_nilCheck (cfg := cfg) (d := d) (fr := fr) (σ := σ) (R := fun v σ' => wpOs cfg d os (put fr o v) σ' K) x
theorem wpO_iop (o : Option Nat) (os : List AOper) (op : BinOp) (x y : Opnd) : wpOs cfg d (⟨o, .iop op x y, none⟩ :: os) fr σ K = stepP (iopV op (ev cfg fr x) (ev cfg fr y)) fr σ (fun fr σ v => wpOs cfg d os (put fr o v) σ K) .mk := opP_iop (cfg := cfg) (d := d) (fr := fr) (σ := σ) (R := fun v σ' => wpOs cfg d os (put fr o v) σ' K) op x y
theorem wpO_sop (o : Option Nat) (os : List AOper) (op : BinOp) (x y : Opnd) : wpOs cfg d (⟨o, .sop op x y, none⟩ :: os) fr σ K = stepP (sopV op (ev cfg fr x) (ev cfg fr y)) fr σ (fun fr σ v => wpOs cfg d os (put fr o v) σ K) .mk := opP_sop (cfg := cfg) (d := d) (fr := fr) (σ := σ) (R := fun v σ' => wpOs cfg d os (put fr o v) σ' K) op x y
theorem wpO_bop (o : Option Nat) (os : List AOper) (neg : Bool) (x y : Opnd) : wpOs cfg d (⟨o, .bop neg x y, none⟩ :: os) fr σ K = stepP (bopV neg (ev cfg fr x) (ev cfg fr y)) fr σ (fun fr σ v => wpOs cfg d os (put fr o v) σ K) .mk := opP_bop (cfg := cfg) (d := d) (fr := fr) (σ := σ) (R := fun v σ' => wpOs cfg d os (put fr o v) σ' K) neg x y
theorem wpO_eqs (o : Option Nat) (os : List AOper) (neg : Bool) (ks : List EK) (x y : Opnd) : wpOs cfg d (⟨o, .eqs neg ks x y, none⟩ :: os) fr σ K = stepP (eqsV ks (ev cfg fr x) (ev cfg fr y)) fr σ (fun fr σ b => wpOs cfg d os (put fr o (.bool (if neg then !b else b))) σ K) .mk := opP_eqs (cfg := cfg) (d := d) (fr := fr) (σ := σ) (R := fun v σ' => wpOs cfg d os (put fr o v) σ' K) neg ks x y
theorem wpO_eqnil (o : Option Nat) (os : List AOper) (neg : Bool) (k : NK) (x : Opnd) : wpOs cfg d (⟨o, .eqnil neg k x, none⟩ :: os) fr σ K = stepP (isNil k (ev cfg fr x)) fr σ (fun fr σ b => wpOs cfg d os (put fr o (.bool (if neg then !b else b))) σ K) .mk := opP_eqnil (cfg := cfg) (d := d) (fr := fr) (σ := σ) (R := fun v σ' => wpOs cfg d os (put fr o v) σ' K) neg k x
theorem wpO_not (o : Option Nat) (os : List AOper) (x : Opnd) : wpOs cfg d (⟨o, .not x, none⟩ :: os) fr σ K = stepP (notV (ev cfg fr x)) fr σ (fun fr σ v => wpOs cfg d os (put fr o v) σ K) .mk := opP_not (cfg := cfg) (d := d) (fr := fr) (σ := σ) (R := fun v σ' => wpOs cfg d os (put fr o v) σ' K) x
theorem wpO_neg (o : Option Nat) (os : List AOper) (x : Opnd) : wpOs cfg d (⟨o, .neg x, none⟩ :: os) fr σ K = stepP (negV (ev cfg fr x)) fr σ (fun fr σ v => wpOs cfg d os (put fr o v) σ K) .mk := opP_neg (cfg := cfg) (d := d) (fr := fr) (σ := σ) (R := fun v σ' => wpOs cfg d os (put fr o v) σ' K) x
theorem wpO_convI (o : Option Nat) (os : List AOper) (k : IntKind) (x : Opnd) : wpOs cfg d (⟨o, .convI k x, none⟩ :: os) fr σ K = stepP (convV k (ev cfg fr x)) fr σ (fun fr σ v => wpOs cfg d os (put fr o v) σ K) .mk := opP_convI (cfg := cfg) (d := d) (fr := fr) (σ := σ) (R := fun v σ' => wpOs cfg d os (put fr o v) σ' K) k x
theorem wpO_sliceOp (o : Option Nat) (os : List AOper) (sz : Nat) (x : Opnd) (lo hi mx : Option Opnd) : wpOs cfg d (⟨o, .sliceOp sz x lo hi mx, none⟩ :: os) fr σ K = stepP (sliceV sz (ev cfg fr x) (oev cfg fr lo) (oev cfg fr hi) (oev cfg fr mx)) fr σ (fun fr σ v => wpOs cfg d os (put fr o v) σ K) .mk := opP_sliceOp (cfg := cfg) (d := d) (fr := fr) (σ := σ) (R := fun v σ' => wpOs cfg d os (put fr o v) σ' K) sz x lo hi mx
theorem wpO_substr (o : Option Nat) (os : List AOper) (x : Opnd) (lo hi : Option Opnd) : wpOs cfg d (⟨o, .substr x lo hi, none⟩ :: os) fr σ K = stepP (substrV (ev cfg fr x) (oev cfg fr lo) (oev cfg fr hi)) fr σ (fun fr σ v => wpOs cfg d os (put fr o v) σ K) .mk := opP_substr (cfg := cfg) (d := d) (fr := fr) (σ := σ) (R := fun v σ' => wpOs cfg d os (put fr o v) σ' K) x lo hi
theorem wpO_faddr (o : Option Nat) (os : List AOper) (off : Nat) (x : Opnd) : wpOs cfg d (⟨o, .faddr off x, none⟩ :: os) fr σ K = stepP (faddrV off (ev cfg fr x)) fr σ (fun fr σ v => wpOs cfg d os (put fr o v) σ K) .mk := opP_faddr (cfg := cfg) (d := d) (fr := fr) (σ := σ) (R := fun v σ' => wpOs cfg d os (put fr o v) σ' K) off x
theorem wpO_field (o : Option Nat) (os : List AOper) (off n : Nat) (agg : Bool) (x : Opnd) : wpOs cfg d (⟨o, .field off n agg x, none⟩ :: os) fr σ K = stepP (fieldV off n agg (ev cfg fr x)) fr σ (fun fr σ v => wpOs cfg d os (put fr o v) σ K) .mk := opP_field (cfg := cfg) (d := d) (fr := fr) (σ := σ) (R := fun v σ' => wpOs cfg d os (put fr o v) σ' K) off n agg x
theorem wpO_iaddr (o : Option Nat) (os : List AOper) (sz : Nat) (x i : Opnd) : wpOs cfg d (⟨o, .iaddr sz x i, none⟩ :: os) fr σ K = stepP (iaddrV sz (ev cfg fr x) (ev cfg fr i)) fr σ (fun fr σ v => wpOs cfg d os (put fr o v) σ K) .mk := opP_iaddr (cfg := cfg) (d := d) (fr := fr) (σ := σ) (R := fun v σ' => wpOs cfg d os (put fr o v) σ' K) sz x i
theorem wpO_aaddr (o : Option Nat) (os : List AOper) (len sz : Nat) (x i : Opnd) : wpOs cfg d (⟨o, .aaddr len sz x i, none⟩ :: os) fr σ K = stepP (aaddrV len sz (ev cfg fr x) (ev cfg fr i)) fr σ (fun fr σ v => wpOs cfg d os (put fr o v) σ K) .mk := opP_aaddr (cfg := cfg) (d := d) (fr := fr) (σ := σ) (R := fun v σ' => wpOs cfg d os (put fr o v) σ' K) len sz x i
theorem wpO_strIdx (o : Option Nat) (os : List AOper) (x i : Opnd) : wpOs cfg d (⟨o, .strIdx x i, none⟩ :: os) fr σ K = stepP (strIdxV (ev cfg fr x) (ev cfg fr i)) fr σ (fun fr σ v => wpOs cfg d os (put fr o v) σ K) .mk := opP_strIdx (cfg := cfg) (d := d) (fr := fr) (σ := σ) (R := fun v σ' => wpOs cfg d os (put fr o v) σ' K) x i
theorem wpO_arrIdx (o : Option Nat) (os : List AOper) (len sz : Nat) (agg : Bool) (x i : Opnd) : wpOs cfg d (⟨o, .arrIdx len sz agg x i, none⟩ :: os) fr σ K = stepP (arrIdxV len sz agg (ev cfg fr x) (ev cfg fr i)) fr σ (fun fr σ v => wpOs cfg d os (put fr o v) σ K) .mk := opP_arrIdx (cfg := cfg) (d := d) (fr := fr) (σ := σ) (R := fun v σ' => wpOs cfg d os (put fr o v) σ' K) len sz agg x i
theorem wpO_lenS (o : Option Nat) (os : List AOper) (x : Opnd) : wpOs cfg d (⟨o, .lenS x, none⟩ :: os) fr σ K = stepP (lenSV (ev cfg fr x)) fr σ (fun fr σ n => wpOs cfg d os (put fr o (.int .i64 n)) σ K) .mk := opP_lenS (cfg := cfg) (d := d) (fr := fr) (σ := σ) (R := fun v σ' => wpOs cfg d os (put fr o v) σ' K) x
theorem wpO_lenStr (o : Option Nat) (os : List AOper) (x : Opnd) : wpOs cfg d (⟨o, .lenStr x, none⟩ :: os) fr σ K = stepP (lenStrV (ev cfg fr x)) fr σ (fun fr σ n => wpOs cfg d os (put fr o (.int .i64 n)) σ K) .mk := opP_lenStr (cfg := cfg) (d := d) (fr := fr) (σ := σ) (R := fun v σ' => wpOs cfg d os (put fr o v) σ' K) x
theorem wpO_lenM (o : Option Nat) (os : List AOper) (x : Opnd) : wpOs cfg d (⟨o, .lenM x, none⟩ :: os) fr σ K = stepP (lenMV σ (ev cfg fr x)) fr σ (fun fr σ n => wpOs cfg d os (put fr o (.int .i64 n)) σ K) .mk := opP_lenM (cfg := cfg) (d := d) (fr := fr) (σ := σ) (R := fun v σ' => wpOs cfg d os (put fr o v) σ' K) x
theorem wpO_lenA (o : Option Nat) (os : List AOper) (n : Nat) : wpOs cfg d (⟨o, .lenA n, none⟩ :: os) fr σ K = stepP (some (.int .i64 n)) fr σ (fun fr σ v => wpOs cfg d os (put fr o v) σ K) .mk := opP_lenA (cfg := cfg) (d := d) (fr := fr) (σ := σ) (R := fun v σ' => wpOs cfg d os (put fr o v) σ' K) n
theorem wpO_capS (o : Option Nat) (os : List AOper) (x : Opnd) : wpOs cfg d (⟨o, .capS x, none⟩ :: os) fr σ K = stepP (capSV (ev cfg fr x)) fr σ (fun fr σ n => wpOs cfg d os (put fr o (.int .i64 n)) σ K) .mk := opP_capS (cfg := cfg) (d := d) (fr := fr) (σ := σ) (R := fun v σ' => wpOs cfg d os (put fr o v) σ' K) x
theorem wpO_minI (o : Option Nat) (os : List AOper) (x : Opnd) (xs : List Opnd) : wpOs cfg d (⟨o, .minI (x :: xs), none⟩ :: os) fr σ K = stepP (foldV minV (ev cfg fr x) (xs.map (ev cfg fr))) fr σ (fun fr σ v => wpOs cfg d os (put fr o v) σ K) .mk := opP_minI (cfg := cfg) (d := d) (fr := fr) (σ := σ) (R := fun v σ' => wpOs cfg d os (put fr o v) σ' K) x xs
theorem wpO_maxI (o : Option Nat) (os : List AOper) (x : Opnd) (xs : List Opnd) : wpOs cfg d (⟨o, .maxI (x :: xs), none⟩ :: os) fr σ K = stepP (foldV maxV (ev cfg fr x) (xs.map (ev cfg fr))) fr σ (fun fr σ v => wpOs cfg d os (put fr o v) σ K) .mk := opP_maxI (cfg := cfg) (d := d) (fr := fr) (σ := σ) (R := fun v σ' => wpOs cfg d os (put fr o v) σ' K) x xs
theorem wpO_append (o : Option Nat) (os : List AOper) (sz bytes : Nat) (x y : Opnd) : wpOs cfg d (⟨o, .append sz bytes x y, none⟩ :: os) fr σ K = stepP (elems sz σ (ev cfg fr y)) fr σ (fun fr σ ys => stepP (appendV σ sz bytes (ev cfg fr x) ys) fr σ (fun fr _ p => wpOs cfg d os (put fr o p.1) p.2 K) .mk) .mk := opP_append (cfg := cfg) (d := d) (fr := fr) (σ := σ) (R := fun v σ' => wpOs cfg d os (put fr o v) σ' K) sz bytes x y
theorem wpO_appendz (o : Option Nat) (os : List AOper) (sz bytes : Nat) (z : List AVal) (agg : Bool) (x y : Opnd) : wpOs cfg d (⟨o, .appendz sz bytes z agg x y, none⟩ :: os) fr σ K = opE cfg d fr σ (.appendz sz bytes z agg x y) (fun v σ' => wpOs cfg d os (put fr o v) σ' K) := opP_appendz (cfg := cfg) (d := d) (fr := fr) (σ := σ) (R := fun v σ' => wpOs cfg d os (put fr o v) σ' K) sz bytes z agg x y
theorem wpO_mkslice (o : Option Nat) (os : List AOper) (sz bytes : Nat) (z : List AVal) (agg : Bool) (l c : Opnd) : wpOs cfg d (⟨o, .mkslice sz bytes z agg l c, none⟩ :: os) fr σ K = stepP (mkslV σ sz bytes z agg (ev cfg fr l) (ev cfg fr c)) fr σ (fun fr _ p => wpOs cfg d os (put fr o p.1) p.2 K) .mk := opP_mkslice (cfg := cfg) (d := d) (fr := fr) (σ := σ) (R := fun v σ' => wpOs cfg d os (put fr o v) σ' K) sz bytes z agg l c
theorem wpO_extract (o : Option Nat) (os : List AOper) (x : Opnd) (i : Nat) : wpOs cfg d (⟨o, .extract x i, none⟩ :: os) fr σ K = stepP (extrV (ev cfg fr x) i) fr σ (fun fr σ v => wpOs cfg d os (put fr o v) σ K) .mk := opP_extract (cfg := cfg) (d := d) (fr := fr) (σ := σ) (R := fun v σ' => wpOs cfg d os (put fr o v) σ' K) x i
theorem wpO_mkfunc (o : Option Nat) (os : List AOper) (f : FuncId) (first caps : List Opnd) : wpOs cfg d (⟨o, .mkfunc f first caps, none⟩ :: os) fr σ K = stepP (some (.func f (first.map (ev cfg fr)) (caps.map (ev cfg fr)))) fr σ (fun fr σ v => wpOs cfg d os (put fr o v) σ K) .mk := opP_mkfunc (cfg := cfg) (d := d) (fr := fr) (σ := σ) (R := fun v σ' => wpOs cfg d os (put fr o v) σ' K) f first caps
theorem wpO_mkmap (o : Option Nat) (os : List AOper) : wpOs cfg d (⟨o, .mkmap, none⟩ :: os) fr σ K = stepP (some (.map σ.length)) fr (σ ++ [.map [] []]) (fun fr σ v => wpOs cfg d os (put fr o v) σ K) .mk := opP_mkmap (cfg := cfg) (d := d) (fr := fr) (σ := σ) (R := fun v σ' => wpOs cfg d os (put fr o v) σ' K)
theorem wpO_lookup (o : Option Nat) (os : List AOper) (g : Bool) (q : List EK) (z : AVal) (x k : Opnd) (ok : Bool) : wpOs cfg d (⟨o, .lookup g q z x k ok, none⟩ :: os) fr σ K = stepP (lookupV σ g q z (ev cfg fr x) (ev cfg fr k) ok) fr σ (fun fr σ v => wpOs cfg d os (put fr o v) σ K) .mk := opP_lookup (cfg := cfg) (d := d) (fr := fr) (σ := σ) (R := fun v σ' => wpOs cfg d os (put fr o v) σ' K) g q z x k ok
theorem wpO_mapset (o : Option Nat) (os : List AOper) (g : Bool) (q : List EK) (m k v : Opnd) : wpOs cfg d (⟨o, .mapset g q m k v, none⟩ :: os) fr σ K = stepP (mapsetV σ g q (ev cfg fr m) (ev cfg fr k) (ev cfg fr v)) fr σ (fun fr _ σ' => wpOs cfg d os (put fr o (.tuple [])) σ' K) .mk := opP_mapset (cfg := cfg) (d := d) (fr := fr) (σ := σ) (R := fun v σ' => wpOs cfg d os (put fr o v) σ' K) g q m k v
theorem wpO_mapdel (o : Option Nat) (os : List AOper) (g : Bool) (q : List EK) (m k : Opnd) : wpOs cfg d (⟨o, .mapdel g q m k, none⟩ :: os) fr σ K = stepP (mapdelV σ g q (ev cfg fr m) (ev cfg fr k)) fr σ (fun fr _ σ' => wpOs cfg d os (put fr o (.tuple [])) σ' K) .mk := opP_mapdel (cfg := cfg) (d := d) (fr := fr) (σ := σ) (R := fun v σ' => wpOs cfg d os (put fr o v) σ' K) g q m k
theorem wpO_mkiface (o : Option Nat) (os : List AOper) (t : TypeId) (x : Opnd) : wpOs cfg d (⟨o, .mkiface t x, none⟩ :: os) fr σ K = stepP (some (.iface t (ev cfg fr x))) fr σ (fun fr σ v => wpOs cfg d os (put fr o v) σ K) .mk := opP_mkiface (cfg := cfg) (d := d) (fr := fr) (σ := σ) (R := fun v σ' => wpOs cfg d os (put fr o v) σ' K) t x
theorem wpO_callS (o : Option Nat) (os : List AOper) (f : FuncId) (args : List Opnd) : wpOs cfg d (⟨o, .call .shared f args, none⟩ :: os) fr σ K = calledW cfg d f (args.map (ev cfg fr)) fr σ (fun fr v σ' => wpOs cfg d os (put fr o v) σ' K) .mk := opP_callS (cfg := cfg) (d := d) (fr := fr) (σ := σ) (R := fun v σ' => wpOs cfg d os (put fr o v) σ' K) f args
theorem wpO_call (o : Option Nat) (os : List AOper) (m : Mode) (f : FuncId) (args : List Opnd) : wpOs cfg d (⟨o, .call m f args, none⟩ :: os) fr σ K = callP cfg d m f (args.map (ev cfg fr)) σ (fun v σ' => wpOs cfg d os (put fr o v) σ' K) := opP_call (cfg := cfg) (d := d) (fr := fr) (σ := σ) (R := fun v σ' => wpOs cfg d os (put fr o v) σ' K) m f args
def isoW (cfg : Cfg) (d : Nat) (f : FuncId) (args : List AVal) (fr : List AVal) (σ : Store) (K : List AVal → Store → AVal → Prop) (w : Wit K) : Prop := callP cfg d .iso f args σ (fun v σ' => K fr σ' v)
theorem wpO_callI (o : Option Nat) (os : List AOper) (f : FuncId) (args : List Opnd) : wpOs cfg d (⟨o, .call .iso f args, none⟩ :: os) fr σ K = isoW cfg d f (args.map (ev cfg fr)) fr σ (fun fr σ v => wpOs cfg d os (put fr o v) σ K) .mk := propext Iff.rfl
/-- a call without arguments in a store of its own, that tells a bool -/
theorem isoW_bool {f : FuncId} {fr : List AVal} {σ : Store} {K : List AVal → Store → AVal → Prop} {w : Wit K} {n : Nat} {b : Bool} (h : (run cfg n (d + 1) f [] []).map (fun p => p.1) = some (.bool b)) (hk : K fr σ (.bool b)) : isoW cfg d f [] fr σ K w := by
  rw [Option.map_eq_some_iff] at h
  obtain ⟨⟨v, σ1⟩, h1, h2⟩ := h
  dsimp only at h2
  subst h2
  exact ⟨[], rfl, n, .bool b, σ1, h1, .bool b, rfl, Nat.zero_le _, hk⟩
theorem wpO_callv (o : Option Nat) (os : List AOper) (m : Mode) (f : Opnd) (args : List Opnd) : wpOs cfg d (⟨o, .callv m f args, none⟩ :: os) fr σ K = callvP cfg d m (ev cfg fr f) (args.map (ev cfg fr)) fr σ (fun fr v σ' => wpOs cfg d os (put fr o v) σ' K) .mk := by
  simp only [wpOs, wantedA, guardP, opP, callvP]

theorem bq_tt : (true == true) = true := rfl
theorem bq_ff : (false == false) = true := rfl
theorem bq_tf : (true == false) = false := rfl
theorem bq_ft : (false == true) = false := rfl

/-! numbers -/
theorem iop_add (k : IntKind) (a b : Int) : iopV .add (.int k a) (.int k b) = some (.int k (k.wrap (a + b))) := by simp
theorem iop_sub (k : IntKind) (a b : Int) : iopV .sub (.int k a) (.int k b) = some (.int k (k.wrap (a - b))) := by simp
theorem iop_mul (k : IntKind) (a b : Int) : iopV .mul (.int k a) (.int k b) = some (.int k (k.wrap (a * b))) := by simp
theorem iop_quo (k : IntKind) (a b : Int) : iopV .quo (.int k a) (.int k b) = if b = 0 then none else some (.int k (k.wrap (a.tdiv b))) := by simp
theorem iop_rem (k : IntKind) (a b : Int) : iopV .rem (.int k a) (.int k b) = if b = 0 then none else some (.int k (a.tmod b)) := by simp
theorem iop_and (k : IntKind) (a b : Int) : iopV .and (.int k a) (.int k b) = some (.int k (k.wrap (BitVec.ofInt k.bits a &&& BitVec.ofInt k.bits b).toNat)) := by simp
theorem iop_or (k : IntKind) (a b : Int) : iopV .or (.int k a) (.int k b) = some (.int k (k.wrap (BitVec.ofInt k.bits a ||| BitVec.ofInt k.bits b).toNat)) := by simp
theorem iop_xor (k : IntKind) (a b : Int) : iopV .xor (.int k a) (.int k b) = some (.int k (k.wrap (BitVec.ofInt k.bits a ^^^ BitVec.ofInt k.bits b).toNat)) := by simp
theorem iop_eql (k : IntKind) (a b : Int) : iopV .eql (.int k a) (.int k b) = some (.bool (a == b)) := by simp
theorem iop_neq (k : IntKind) (a b : Int) : iopV .neq (.int k a) (.int k b) = some (.bool (a != b)) := by simp
theorem iop_lss (k : IntKind) (a b : Int) : iopV .lss (.int k a) (.int k b) = some (.bool (decide (a < b))) := by simp
theorem iop_leq (k : IntKind) (a b : Int) : iopV .leq (.int k a) (.int k b) = some (.bool (decide (a ≤ b))) := by simp
theorem iop_gtr (k : IntKind) (a b : Int) : iopV .gtr (.int k a) (.int k b) = some (.bool (decide (a > b))) := by simp
theorem iop_geq (k : IntKind) (a b : Int) : iopV .geq (.int k a) (.int k b) = some (.bool (decide (a ≥ b))) := by simp
theorem iop_shl (k j : IntKind) (a b : Int) (h : 0 ≤ b) : iopV .shl (.int k a) (.int j b) = some (.int k (k.wrap (a * 2 ^ (min b.toNat k.bits)))) := by
  have : ¬ b < 0 := by omega
  simp [this]
theorem iop_shr (k j : IntKind) (a b : Int) (h : 0 ≤ b) : iopV .shr (.int k a) (.int j b) = some (.int k (a.fdiv (2 ^ (min b.toNat k.bits)))) := by
  have : ¬ b < 0 := by omega
  simp [this]
theorem wrap_i64 {x : Int} (h : -9223372036854775808 ≤ x) (h2 : x < 9223372036854775808) : IntKind.i64.wrap x = x := by
  simp only [IntKind.wrap, IntKind.signed, IntKind.bits, Bool.true_and, decide_eq_true_eq, Nat.reduceSub, Int.reducePow, ge_iff_le]
  split <;> omega
theorem wrap_u {k : IntKind} {x : Int} (hk : k.signed = false) (h : 0 ≤ x) (h2 : x < 2 ^ k.bits) : k.wrap x = x := by
  simp only [IntKind.wrap, hk, Bool.false_and, Bool.false_eq_true, if_false]
  exact Int.emod_eq_of_lt h h2
theorem wrap_u32 {x : Int} (h : 0 ≤ x) (h2 : x < 4294967296) : IntKind.u32.wrap x = x := wrap_u rfl h h2
theorem wrap_u8 {x : Int} (h : 0 ≤ x) (h2 : x < 256) : IntKind.u8.wrap x = x := wrap_u rfl h h2
theorem wrap_u64 {x : Int} (h : 0 ≤ x) (h2 : x < 18446744073709551616) : IntKind.u64.wrap x = x := wrap_u rfl h h2
theorem wrap_u32_mod (x : Int) : IntKind.u32.wrap x = x % 4294967296 := by simp [IntKind.wrap, IntKind.signed, IntKind.bits]
theorem wrap_u8_mod (x : Int) : IntKind.u8.wrap x = x % 256 := by simp [IntKind.wrap, IntKind.signed, IntKind.bits]
end
attribute [irreducible] wpOs wpC stepP optP guardP condP loopP drawnP calledW isoW callvP seqQ blockQ endQ loopQ
end Go.Proofs.Ytmocplkpnickgaa.Am
