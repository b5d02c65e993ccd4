/-
  The abstract machine and the functions of the law, 3: texts put together.
-/
import Derived.Test.YtkjnanfkclijcaaDoorUnifyEquationsPkB
import Derived.Test.YtkjnanfkclijcaaDoorRows
import Derived.Test.YtkjnanfkclijcaaDoorProg
import Derived.ChangeArms
import Derived.OpenShut
import Derived.LaidMore
/-
  THE ABSTRACT MACHINE, part 31: what must hold ahead of a text for it to end well (a calculus to prove functions with).
-/
namespace Go.Proofs.YtkjnanfkclijcaaDoor.Am
open Go
set_option linter.unusedVariables false
set_option linter.unusedSimpArgs false

def noCall : CallF := fun _ _ _ _ => none
theorem noCall_le (F : CallF) : CallF.le noCall F := fun _ _ _ _ _ h => by cases h

/-- the call answers, and Q holds of its answer and of the store behind it -/
def Called (cfg : Cfg) (d : Nat) (f : FuncId) (args : List AVal) (σ : Store) (Q : AVal → Store → Prop) : Prop :=
  ∃ n v σ', run cfg n d f args σ = some (v, σ') ∧ Q v σ'

theorem Called.mono {cfg : Cfg} {d : Nat} {f : FuncId} {args : List AVal} {σ : Store} {Q Q' : AVal → Store → Prop} (h : Called cfg d f args σ Q) (hq : ∀ v σ', Q v σ' → Q' v σ') : Called cfg d f args σ Q' := by
  obtain ⟨n, v, σ', h1, h2⟩ := h; exact ⟨n, v, σ', h1, hq _ _ h2⟩

def callP (cfg : Cfg) (d : Nat) (m : Mode) (f : FuncId) (args : List AVal) (σ : Store) (Q : AVal → Store → Prop) : Prop :=
  match m with
  | .shared => Called cfg d f args σ Q
  | .iso => ∃ args', mapO (frz σ (d + 1) frzFuel) args = some args' ∧ Called cfg (d + 1) f args' [] fun v σ1 => ∃ v', frz σ1 0 frzFuel v = some v' ∧ v'.tag ≤ d ∧ Q v' σ

theorem callP_shared (cfg : Cfg) (d : Nat) (f : FuncId) (args : List AVal) (σ : Store) (Q : AVal → Store → Prop) : callP cfg d .shared f args σ Q = Called cfg d f args σ Q := rfl

theorem callP_sound {cfg : Cfg} {d : Nat} {m : Mode} {f : FuncId} {args : List AVal} {σ : Store} {Q : AVal → Store → Prop} (h : callP cfg d m f args σ Q) : ∃ n v σ', doCall (run cfg n) d m f args σ = some (v, σ') ∧ Q v σ' := by
  cases m with
  | shared => exact h
  | iso =>
    obtain ⟨a, h1, n, v, σ1, h2, v', h3, h4, h5⟩ := h
    exact ⟨n, v', σ, by simp only [doCall, h1, h2, h3, h4, if_true], h5⟩

/-! ### the forms in which a text's meaning is left where it cannot be told yet; Wit keeps the rewriting out of what comes behind -/
inductive Wit {α : Type} (a : α) : Type
  | mk
inductive Wit0 (a : Prop) : Type
  | mk

def optP {α : Type} (x : Option α) (K : α → Prop) (w : Wit K) : Prop := match x with
  | some a => K a
  | none => False
abbrev PostC := AExit → List AVal → Store → Prop
abbrev PostF := List AVal → Store → Prop
def guardP (b : Option Bool) (A B : PostF → Prop) (K : PostF) (w : Wit A) (w' : Wit B) (w'' : Wit K) : Prop := match b with
  | some true => A K
  | some false => B K
  | none => False
def condP (v : AVal) (A B : PostC → Prop) (Q : PostC) (w : Wit A) (w' : Wit B) (w'' : Wit Q) : Prop := match v with
  | .bool true => A Q
  | .bool false => B Q
  | _ => False

/-- the same with the frame and the store beside it, so that they are laid out first -/
def stepP {α : Type} (x : Option α) (fr : List AVal) (σ : Store) (K : List AVal → Store → α → Prop) (w : Wit K) : Prop := match x with
  | some a => K fr σ a
  | none => False
theorem stepP_some {α : Type} (a : α) (fr : List AVal) (σ : Store) (K : List AVal → Store → α → Prop) (w : Wit K) : stepP (some a) fr σ K w = K fr σ a := propext Iff.rfl
theorem stepP_of {α : Type} {x : Option α} {fr : List AVal} {σ : Store} {K : List AVal → Store → α → Prop} {w : Wit K} (a : α) (h : x = some a) (hk : K fr σ a) : stepP x fr σ K w := by rw [h]; exact hk
theorem stepP_ite {α : Type} {c : Prop} [Decidable c] {x : α} {fr : List AVal} {σ : Store} {K : List AVal → Store → α → Prop} {w : Wit K} (hc : c) (h : K fr σ x) : stepP (if c then some x else none) fr σ K w := by
  rw [if_pos hc]; exact h
theorem optP_some {α : Type} (a : α) (K : α → Prop) (w : Wit K) : optP (some a) K w = K a := propext Iff.rfl
theorem optP_none {α : Type} (K : α → Prop) (w : Wit K) : optP none K w = False := propext Iff.rfl
section
variable {A B : PostF → Prop} {K : PostF} {w : Wit A} {w' : Wit B} {w'' : Wit K} {A' B' : PostC → Prop} {Q : PostC} {x : Wit A'} {x' : Wit B'} {x'' : Wit Q}
theorem guardP_true : guardP (some true) A B K w w' w'' = A K := propext Iff.rfl
theorem guardP_false : guardP (some false) A B K w w' w'' = B K := propext Iff.rfl
theorem condP_true : condP (.bool true) A' B' Q x x' x'' = A' Q := propext Iff.rfl
theorem condP_false : condP (.bool false) A' B' Q x x' x'' = B' Q := propext Iff.rfl

theorem condP_intro {b : Bool} (h1 : b = true → A' Q) (h2 : b = false → B' Q) : condP (.bool b) A' B' Q x x' x'' := by
  cases b
  · exact h2 rfl
  · exact h1 rfl
theorem condP_dec {p : Prop} [Decidable p] (h1 : p → A' Q) (h2 : ¬ p → B' Q) : condP (.bool (decide p)) A' B' Q x x' x'' :=
  condP_intro (fun h => h1 (of_decide_eq_true h)) (fun h => h2 (of_decide_eq_false h))
theorem guardP_intro {b : Bool} (h1 : b = true → A K) (h2 : b = false → B K) : guardP (some b) A B K w w' w'' := by
  cases b
  · exact h2 rfl
  · exact h1 rfl
end
theorem optP_of {α : Type} {x : Option α} {K : α → Prop} {w : Wit K} (a : α) (h : x = some a) (hk : K a) : optP x K w := by rw [h]; exact hk
theorem optP_ite {α : Type} {c : Prop} [Decidable c] {x : α} {K : α → Prop} {w : Wit K} (hc : c) (h : K x) : optP (if c then some x else none) K w := by
  rw [if_pos hc]; exact h

/-- an operation, not a call -/
def opE (cfg : Cfg) (d : Nat) (fr : List AVal) (σ : Store) (op : AOp) (Q : AVal → Store → Prop) : Prop := optP (opStep cfg noCall d fr σ op) (fun p => Q p.1 p.2) .mk

def opP (cfg : Cfg) (d : Nat) (fr : List AVal) (σ : Store) (op : AOp) (Q : AVal → Store → Prop) : Prop :=
  match op with
  | .call m f args => callP cfg d m f (args.map (ev cfg fr)) σ Q
  | .callv m f args => match ev cfg fr f with
    | .func g first caps => callP cfg d m g (first ++ args.map (ev cfg fr) ++ caps) σ Q
    | _ => False
  | op => opE cfg d fr σ op Q

def wpOs (cfg : Cfg) (d : Nat) : List AOper → List AVal → Store → (List AVal → Store → Prop) → Prop
  | [], fr, σ, Q => Q fr σ
  | o :: os, fr, σ, Q => guardP (wantedA fr o.guard) (fun Q => opP cfg d fr σ o.op fun v σ' => wpOs cfg d os (put fr o.dst v) σ' Q) (fun Q => wpOs cfg d os (put fr o.dst (.tuple [])) σ Q) Q .mk .mk .mk

def drawnP (cfg : Cfg) (d : Nat) (ops : List AOper) (pairs : List (Nat × Nat)) (fr : List AVal) (σ : Store) (Q : List AVal → Store → Prop) (w : Wit Q) : Prop :=
  ∃ n s', stepOs cfg (run cfg n) d ops (fr, σ) = some s' ∧ pairs.all (steady cfg (run cfg n) d ops (traceOs cfg (run cfg n) d ops (fr, σ))) = true ∧ Q s'.1 s'.2

def loopP (cfg : Cfg) (d : Nat) (live : List Nat) (c : ACode) (fr : List AVal) (σ : Store) (Q : AExit → List AVal → Store → Prop) (w : Wit Q) (w' : Wit c) : Prop :=
  ∃ n x s', iter live (evC cfg (run cfg n) d n c) n (fr, σ) = some (x, s') ∧ Q x s'.1 s'.2

def seqQ (K : List AVal → Store → PostC → Prop) (Q : PostC) : AExit → List AVal → Store → Prop
  | .normal, fr, σ => K fr σ Q
  | x, fr, σ => Q x fr σ
def blockQ (id : Nat) (Q : AExit → List AVal → Store → Prop) : AExit → List AVal → Store → Prop
  | .exit id', fr, σ => Q (if id' = id then .normal else .exit id') fr σ
  | x, fr, σ => Q x fr σ

def wpC (cfg : Cfg) (d : Nat) : ACode → List AVal → Store → (AExit → List AVal → Store → Prop) → Prop
  | .skip, fr, σ, Q => Q .normal fr σ
  | .region ops, fr, σ, Q => wpOs cfg d ops fr σ (Q .normal)
  | .drawn ops pairs, fr, σ, Q => drawnP cfg d ops pairs fr σ (Q .normal) .mk
  | .ahead ops pairs, fr, σ, Q => drawnP cfg d (aheadO σ.length ops) pairs fr (σ ++ aheadZ ops) (Q .normal) .mk
  | .seq a b, fr, σ, Q => wpC cfg d a fr σ (seqQ (fun fr σ Q => wpC cfg d b fr σ Q) Q)
  | .cond c a b, fr, σ, Q => condP (ev cfg fr c) (fun Q => wpC cfg d a fr σ Q) (fun Q => wpC cfg d b fr σ Q) Q .mk .mk .mk
  | .block id c, fr, σ, Q => wpC cfg d c fr σ (blockQ id Q)
  | .loop live c, fr, σ, Q => loopP cfg d live c fr σ Q .mk .mk
  | .exit id, fr, σ, Q => Q (.exit id) fr σ
  | .ret, fr, σ, Q => Q .ret fr σ
  | .stop, _, _, _ => False

def calledW (cfg : Cfg) (d : Nat) (f : FuncId) (args : List AVal) (fr : List AVal) (σ : Store) (K : List AVal → AVal → Store → Prop) (w : Wit K) : Prop := Called cfg d f args σ (K fr)
theorem calledW_of {cfg : Cfg} {d : Nat} {f : FuncId} {args fr : List AVal} {σ : Store} {Q : AVal → Store → Prop} {K : List AVal → AVal → Store → Prop} {w : Wit K} (h : Called cfg d f args σ Q) (hq : ∀ v σ', Q v σ' → K fr v σ') : calledW cfg d f args fr σ K w := h.mono hq

section
variable {cfg : Cfg} {d : Nat}

theorem opP_sound {fr : List AVal} {σ : Store} {op : AOp} {Q : AVal → Store → Prop} (h : opP cfg d fr σ op Q) : ∃ n v σ', opStep cfg (run cfg n) d fr σ op = some (v, σ') ∧ Q v σ' := by
  have key : opE cfg d fr σ op Q → ∃ n v σ', opStep cfg (run cfg n) d fr σ op = some (v, σ') ∧ Q v σ' := by
    intro h
    unfold opE at h
    cases hs : opStep cfg noCall d fr σ op with
    | none => rw [hs] at h; exact h.elim
    | some p => rw [hs] at h; exact ⟨0, p.1, p.2, opStep_mono (noCall_le _) hs, h⟩
  cases op with
  | call m f args => exact callP_sound h
  | callv m f args =>
    simp only [opP] at h
    simp only [opStep]
    split at h
    · rename_i g first caps hg
      rw [hg]
      exact callP_sound h
    · exact h.elim
  | _ => exact key h

theorem stepO_of {n : Nat} {o : AOper} {fr : List AVal} {σ : Store} {v : AVal} {σ' : Store} (hw : wantedA fr o.guard = some true) (h : opStep cfg (run cfg n) d fr σ o.op = some (v, σ')) : stepO cfg (run cfg n) d o (fr, σ) = some (put fr o.dst v, σ') := by
  simp only [stepO, hw, h]

theorem wpOs_sound : ∀ {os : List AOper} {fr : List AVal} {σ : Store} {Q : List AVal → Store → Prop}, wpOs cfg d os fr σ Q → ∃ n s', stepOs cfg (run cfg n) d os (fr, σ) = some s' ∧ Q s'.1 s'.2
  | [], fr, σ, Q, h => ⟨0, _, rfl, h⟩
  | o :: os, fr, σ, Q, h => by
    simp only [wpOs] at h
    cases hw : wantedA fr o.guard with
    | none => rw [hw] at h; exact h.elim
    | some b =>
      rw [hw] at h
      cases b with
      | true =>
        obtain ⟨n1, v, σ1, h1, h2⟩ := opP_sound h
        obtain ⟨n2, s', h3, h4⟩ := wpOs_sound h2
        refine ⟨max n1 n2, s', ?_, h4⟩
        simp only [stepOs]
        rw [stepO_of hw (opStep_mono (run_le cfg (Nat.le_max_left n1 n2)) h1)]
        exact (stepOs_mono (run_le cfg (Nat.le_max_right n1 n2)) h3).1
      | false =>
        obtain ⟨n2, s', h3, h4⟩ := wpOs_sound h
        refine ⟨n2, s', ?_, h4⟩
        simp only [stepOs, stepO, hw]
        exact h3

theorem wpC_sound : ∀ {c : ACode} {fr : List AVal} {σ : Store} {Q : AExit → List AVal → Store → Prop}, wpC cfg d c fr σ Q → ∃ n x s', evC cfg (run cfg n) d n c (fr, σ) = some (x, s') ∧ Q x s'.1 s'.2
  | .skip, fr, σ, Q, h => ⟨0, .normal, (fr, σ), rfl, h⟩
  | .region ops, fr, σ, Q, h => by
    obtain ⟨n, s', h1, h2⟩ := wpOs_sound h
    exact ⟨n, .normal, s', by simp only [evC, h1], h2⟩
  | .drawn ops pairs, fr, σ, Q, h => by
    obtain ⟨n, s', h1, h2, h3⟩ := h
    exact ⟨n, .normal, s', by simp only [evC, h1, h2, if_true], h3⟩
  | .ahead ops pairs, fr, σ, Q, h => by
    obtain ⟨n, s', h1, h2, h3⟩ := h
    exact ⟨n, .normal, s', by simp only [evC, h1, h2, if_true], h3⟩
  | .seq a b, fr, σ, Q, h => by
    obtain ⟨n1, x, s1, h1, h2⟩ := wpC_sound (c := a) h
    cases x with
    | normal =>
      obtain ⟨n2, y, s2, h3, h4⟩ := wpC_sound (c := b) h2
      refine ⟨max n1 n2, y, s2, ?_, h4⟩
      simp only [evC]
      rw [evC_run_mono (Nat.le_max_left n1 n2) h1]
      exact evC_run_mono (Nat.le_max_right n1 n2) h3
    | exit id => exact ⟨n1, .exit id, s1, by simp only [evC, h1], h2⟩
    | ret => exact ⟨n1, .ret, s1, by simp only [evC, h1], h2⟩
  | .cond c a b, fr, σ, Q, h => by
    simp only [wpC] at h
    unfold condP at h
    split at h
    · rename_i hc
      obtain ⟨n, x, s', h1, h2⟩ := wpC_sound (c := a) h
      exact ⟨n, x, s', by simp only [evC, hc]; exact h1, h2⟩
    · rename_i hc
      obtain ⟨n, x, s', h1, h2⟩ := wpC_sound (c := b) h
      exact ⟨n, x, s', by simp only [evC, hc]; exact h1, h2⟩
    · exact h.elim
  | .block id c, fr, σ, Q, h => by
    obtain ⟨n, x, s', h1, h2⟩ := wpC_sound (c := c) h
    cases x with
    | normal => exact ⟨n, .normal, s', by simp only [evC, h1], h2⟩
    | exit id' => exact ⟨n, _, s', by simp only [evC, h1], h2⟩
    | ret => exact ⟨n, .ret, s', by simp only [evC, h1], h2⟩
  | .loop live c, fr, σ, Q, h => by
    obtain ⟨n, x, s', h1, h2⟩ := h
    exact ⟨n, x, s', by simp only [evC]; exact h1, h2⟩
  | .exit id, fr, σ, Q, h => ⟨0, .exit id, (fr, σ), rfl, h⟩
  | .ret, fr, σ, Q, h => ⟨0, .ret, (fr, σ), rfl, h⟩
  | .stop, fr, σ, Q, h => h.elim

/-! ### frames by slots -/
def Fr' (n : Nat) (e : Nat → AVal) : List AVal := (List.range n).map e
def upd (e : Nat → AVal) (k : Nat) (v : AVal) : Nat → AVal := fun t => if t = k then v else e t
def argE : List AVal → Nat → AVal
  | [], _ => .tuple []
  | a :: _, 0 => a
  | _ :: azs, t + 1 => argE azs t
def liveE : List Nat → List AVal → Nat → AVal
  | k :: ks, v :: vs, t => if t = k then v else liveE ks vs t
  | _, _, _ => .undef

theorem upd_apply (e : Nat → AVal) (k : Nat) (v : AVal) (t : Nat) : upd e k v t = if t = k then v else e t := rfl
theorem argE_zero (a : AVal) (azs : List AVal) : argE (a :: azs) 0 = a := rfl
theorem argE_succ (a : AVal) (azs : List AVal) (t : Nat) : argE (a :: azs) (t + 1) = argE azs t := rfl
theorem argE_nil (t : Nat) : argE [] t = .tuple [] := rfl
theorem liveE_cons (k : Nat) (ks : List Nat) (v : AVal) (vs : List AVal) (t : Nat) : liveE (k :: ks) (v :: vs) t = if t = k then v else liveE ks vs t := rfl

theorem Fr_get {n t : Nat} {e : Nat → AVal} (h : t < n) : (Fr' n e).getD t .undef = e t := by
  simp [Fr', List.getD_eq_getElem?_getD, List.getElem?_map, List.getElem?_range h]
theorem Fr_ev {n t : Nat} {e : Nat → AVal} (h : t < n) : ev cfg (Fr' n e) (.tmp t) = e t := Fr_get h
theorem ev_const (fr : List AVal) (v : AVal) : ev cfg fr (.const v) = v := rfl
theorem Fr_put {n k : Nat} {e : Nat → AVal} {v : AVal} (h : k < n) : put (Fr' n e) (some k) v = Fr' n (upd e k v) := by
  refine List.ext_getElem? fun i => ?_
  simp only [put, Fr', List.getElem?_set, List.getElem?_map, List.length_map, List.length_range]
  by_cases hi : i < n
  · rw [List.getElem?_range hi]
    by_cases hk : k = i
    · subst hk; simp [h, upd]
    · simp [hk, upd, Ne.symm hk]
  · rw [List.getElem?_eq_none (by simp; omega)]
    have : k ≠ i := by omega
    simp [this]
theorem put_none (fr : List AVal) (v : AVal) : put fr none v = fr := rfl
theorem Fr_args {n : Nat} {args : List AVal} (h : args.length ≤ n) : args ++ List.replicate (n - args.length) (.tuple []) = Fr' n (argE args) := by
  have key : ∀ (args : List AVal) (t : Nat), argE args t = args.getD t (.tuple []) := by
    intro args
    induction args with
    | nil => intro t; simp [argE]
    | cons a azs ih => intro t; cases t <;> simp [argE, ih]
  refine List.ext_getElem? fun i => ?_
  simp only [Fr', List.getElem?_map]
  by_cases hi : i < n
  · rw [List.getElem?_range hi]
    simp only [Option.map_some, key]
    by_cases ha : i < args.length
    · rw [List.getElem?_append_left ha]
      simp [List.getD_eq_getElem?_getD, List.getElem?_eq_getElem ha]
    · rw [List.getElem?_append_right (by omega), List.getElem?_replicate, if_pos (by omega)]
      simp [List.getD_eq_getElem?_getD, List.getElem?_eq_none (show args.length ≤ i by omega)]
  · rw [List.getElem?_eq_none (by simp; omega), List.getElem?_eq_none (by simp; omega)]; rfl

theorem cleanFrom_getD (live : List Nat) : ∀ (fr : List AVal) (i t : Nat), (cleanFrom live i fr)[t]? = (fr[t]?).map fun v => if live.contains (i + t) then v else .undef
  | [], i, t => by simp
  | v :: vs, i, 0 => by simp
  | v :: vs, i, t + 1 => by
    simp only [cleanFrom, List.getElem?_cons_succ, cleanFrom_getD live vs (i + 1) t]
    rw [show i + 1 + t = i + (t + 1) by omega]

theorem liveE_map (live : List Nat) (e : Nat → AVal) (t : Nat) : liveE live (live.map e) t = if live.contains t then e t else .undef := by
  induction live with
  | nil => simp [liveE]
  | cons k ks ih =>
    simp only [List.map_cons, liveE_cons, ih, List.contains_cons]
    by_cases h : t = k
    · subst h; simp
    · simp [h]

theorem clean_Fr (live : List Nat) (n : Nat) (e : Nat → AVal) : cleanFrom live 0 (Fr' n e) = Fr' n (liveE live (live.map e)) := by
  refine List.ext_getElem? fun i => ?_
  rw [cleanFrom_getD]
  simp only [Fr', List.getElem?_map, Option.map_map]
  by_cases hi : i < n
  · rw [List.getElem?_range hi]
    simp only [Option.map_some, Function.comp, liveE_map, Nat.zero_add]
  · rw [List.getElem?_eq_none (by simp; omega)]; rfl

theorem Fr_len {n : Nat} {e : Nat → AVal} : (Fr' n e).length = n := by simp [Fr']
theorem Fr_of (fr : List AVal) : fr = Fr' fr.length (fun t => fr.getD t .undef) := by
  refine List.ext_getElem? fun i => ?_
  simp only [Fr', List.getElem?_map]
  by_cases hi : i < fr.length
  · rw [List.getElem?_range hi]; simp [List.getD_eq_getElem?_getD, List.getElem?_eq_getElem hi]
  · rw [List.getElem?_eq_none (by omega), List.getElem?_eq_none (by simp; omega)]; rfl

/-! ### loops -/
def loopQ (live : List Nat) (I : Nat → List AVal → Store → Prop) (m : Nat) (Q : AExit → List AVal → Store → Prop) (n : Nat) : AExit → List AVal → Store → Prop
  | .normal, fr, σ => fr.length = n ∧ ∃ m', m' < m ∧ I m' (live.map fun t => fr.getD t .undef) σ
  | x, fr, σ => Q x fr σ

theorem loop_rule {live : List Nat} {c : ACode} {n : Nat} {e : Nat → AVal} {σ : Store} {Q : AExit → List AVal → Store → Prop} (I : Nat → List AVal → Store → Prop) (m0 : Nat) (h0 : I m0 (live.map e) σ)
    (step : ∀ m vs σ, I m vs σ → wpC cfg d c (Fr' n (liveE live vs)) σ (loopQ live I m Q n)) {w : Wit Q} {w' : Wit c} : loopP cfg d live c (Fr' n e) σ Q w w' := by
  have key : ∀ m vs σ, I m vs σ → ∀ e, live.map e = vs → ∃ N x s', iter live (evC cfg (run cfg N) d N c) N (Fr' n e, σ) = some (x, s') ∧ Q x s'.1 s'.2 := by
    intro m
    induction m using Nat.strongRecOn with
    | _ m ih =>
      intro vs σ hI e he
      obtain ⟨n1, x, s1, h1, h2⟩ := wpC_sound (step m vs σ hI)
      cases x with
      | normal =>
        obtain ⟨hl, m', hm, hI'⟩ := h2
        obtain ⟨n2, y, s2, h3, h4⟩ := ih m' hm _ _ hI' (fun t => s1.1.getD t .undef) rfl
        refine ⟨max n1 n2 + 1, y, s2, ?_, h4⟩
        simp only [iter, clean_Fr, he]
        rw [evC_run_mono (show n1 ≤ max n1 n2 + 1 by omega) h1]
        have e1 : s1.1 = Fr' n (fun t => s1.1.getD t .undef) := by rw [← hl]; exact Fr_of s1.1
        dsimp only
        have e2 : s1 = (Fr' n (fun t => s1.1.getD t .undef), s1.2) := by rw [← e1]
        rw [e2]
        exact iter_mono (fun s r h => evC_run_mono (show n2 ≤ max n1 n2 + 1 by omega) h) (show n2 ≤ max n1 n2 by omega) h3
      | exit id =>
        refine ⟨n1 + 1, .exit id, s1, ?_, h2⟩
        simp only [iter, clean_Fr, he]
        rw [evC_run_mono (Nat.le_succ n1) h1]
      | ret =>
        refine ⟨n1 + 1, .ret, s1, ?_, h2⟩
        simp only [iter, clean_Fr, he]
        rw [evC_run_mono (Nat.le_succ n1) h1]
  exact key m0 _ σ h0 e rfl

/-- .. with what holds behind it, told of the slots that are looked at then -/
theorem loop_rule2 {live : List Nat} {c : ACode} {n : Nat} {e : Nat → AVal} {σ : Store} {Q : AExit → List AVal → Store → Prop} (I : Nat → List AVal → Store → Prop) (lo : List Nat) (J : AExit → List AVal → Store → Prop) (m0 : Nat) (h0 : I m0 (live.map e) σ)
    (step : ∀ m vs σ, I m vs σ → wpC cfg d c (Fr' n (liveE live vs)) σ (loopQ live I m (fun x fr σ => fr.length = n ∧ J x (lo.map fun t => fr.getD t .undef) σ) n))
    (post : ∀ x σ (e : Nat → AVal), J x (lo.map e) σ → Q x (Fr' n e) σ) {w : Wit Q} {w' : Wit c} : loopP cfg d live c (Fr' n e) σ Q w w' := by
  obtain ⟨k, x, s, h1, hl, h2⟩ := loop_rule (w := .mk) (w' := .mk) I m0 h0 step
  refine ⟨k, x, s, h1, ?_⟩
  have := post x s.2 (fun t => s.1.getD t .undef) h2
  rw [← hl, ← Fr_of] at this
  exact this

/-! ### functions -/
def endQ (rs : List ARes) (Q : AVal → Store → Prop) : AExit → List AVal → Store → Prop
  | .exit _, _, _ => False
  | _, fr, σ => stepP (resultsA rs (fr, σ)) fr σ (fun _ σ v => Q v σ) .mk

/-- a function of the library that is no text of the machine -/
theorem called_nat {f : FuncId} {g : List AVal → Store → Option (AVal × Store)} {args : List AVal} {σ σ' : Store} {v : AVal} {Q : AVal → Store → Prop} (hn : cfg.nat f = some g) (h : g args σ = some (v, σ')) (hq : Q v σ') : Called cfg d f args σ Q :=
  ⟨1, v, σ', by simp only [run, natR, hn, h], hq⟩
theorem called_of {f : FuncId} {fn : AFunc} {args : List AVal} {σ : Store} {Q : AVal → Store → Prop} (hf : cfg.ir f = some fn) (hl : args.length ≤ fn.ntmps) (h : wpC cfg d fn.body (Fr' fn.ntmps (argE args)) σ (endQ fn.results Q)) (hn : natR cfg f args σ = none := by rfl) : Called cfg d f args σ Q := by
  obtain ⟨n, x, s, h1, h2⟩ := wpC_sound h
  have key : stepP (resultsA fn.results s) s.1 s.2 (fun _ σ v => Q v σ) .mk → (x = .normal ∨ x = .ret) → Called cfg d f args σ Q := by
    intro h3 h4
    cases hr : resultsA fn.results s with
    | none => rw [hr] at h3; exact h3.elim
    | some v =>
      rw [hr] at h3
      refine ⟨n + 1, v, s.2, ?_, h3⟩
      simp only [run, hn, hf, Fr_args hl, h1]
      rcases h4 with rfl | rfl <;> simp only [hr]
  cases x with
  | normal => exact key h2 (.inl rfl)
  | exit id => exact h2.elim
  | ret => exact key h2 (.inr rfl)
end

/-! ### the rules, to be rewritten with -/
section
variable {cfg : Cfg} {d : Nat} {fr : List AVal} {σ : Store} {Q : AExit → List AVal → Store → Prop} {K : List AVal → Store → Prop} {R : AVal → Store → Prop}

theorem wpC_skip : wpC cfg d .skip fr σ Q = Q .normal fr σ := propext Iff.rfl
theorem wpC_region (ops : List AOper) : wpC cfg d (.region ops) fr σ Q = wpOs cfg d ops fr σ (Q .normal) := propext Iff.rfl
theorem wpC_drawn (ops : List AOper) (pairs : List (Nat × Nat)) : wpC cfg d (.drawn ops pairs) fr σ Q = drawnP cfg d ops pairs fr σ (Q .normal) .mk := propext Iff.rfl
theorem wpC_ahead (ops : List AOper) (pairs : List (Nat × Nat)) : wpC cfg d (.ahead ops pairs) fr σ Q = drawnP cfg d (aheadO σ.length ops) pairs fr (σ ++ aheadZ ops) (Q .normal) .mk := propext Iff.rfl
theorem wpC_seq (a b : ACode) : wpC cfg d (.seq a b) fr σ Q = wpC cfg d a fr σ (seqQ (fun fr σ Q => wpC cfg d b fr σ Q) Q) := propext Iff.rfl
theorem wpC_cond (c : Opnd) (a b : ACode) : wpC cfg d (.cond c a b) fr σ Q = condP (ev cfg fr c) (fun Q => wpC cfg d a fr σ Q) (fun Q => wpC cfg d b fr σ Q) Q .mk .mk .mk := propext Iff.rfl
theorem wpC_block (id : Nat) (c : ACode) : wpC cfg d (.block id c) fr σ Q = wpC cfg d c fr σ (blockQ id Q) := propext Iff.rfl
theorem wpC_loop (live : List Nat) (c : ACode) : wpC cfg d (.loop live c) fr σ Q = loopP cfg d live c fr σ Q .mk .mk := propext Iff.rfl
theorem wpC_exit (id : Nat) : wpC cfg d (.exit id) fr σ Q = Q (.exit id) fr σ := propext Iff.rfl
theorem wpC_ret : wpC cfg d .ret fr σ Q = Q .ret fr σ := propext Iff.rfl
theorem wpOs_nil : wpOs cfg d [] fr σ K = K fr σ := propext Iff.rfl
theorem wpOs_cons (o : Option Nat) (op : AOp) (os : List AOper) : wpOs cfg d (⟨o, op, none⟩ :: os) fr σ K = opP cfg d fr σ op (fun v σ' => wpOs cfg d os (put fr o v) σ' K) := propext Iff.rfl
theorem wpOs_guard (o : Option Nat) (op : AOp) (t : Nat) (b : Bool) (os : List AOper) : wpOs cfg d (⟨o, op, some (t, b)⟩ :: os) fr σ K = guardP (wantedA fr (some (t, b))) (fun K => wpOs cfg d (⟨o, op, none⟩ :: os) fr σ K) (fun K => wpOs cfg d os (put fr o (.tuple [])) σ K) K .mk .mk .mk := propext Iff.rfl
def wantV (b : Bool) (v : AVal) : Option Bool := match v with
  | .bool c => some (c == b)
  | .tuple [] => some false
  | _ => none
theorem wantedA_eq (t : Nat) (b : Bool) : wantedA fr (some (t, b)) = wantV b (fr.getD t .undef) := rfl
theorem wantV_bool (b c : Bool) : wantV b (.bool c) = some (c == b) := rfl
theorem wantV_hole (b : Bool) : wantV b (.tuple []) = some false := rfl

variable (K' : List AVal → Store → PostC → Prop)
theorem seqQ_normal : seqQ K' Q .normal fr σ = K' fr σ Q := propext Iff.rfl
theorem seqQ_exit (id : Nat) : seqQ K' Q (.exit id) fr σ = Q (.exit id) fr σ := propext Iff.rfl
theorem seqQ_ret : seqQ K' Q .ret fr σ = Q .ret fr σ := propext Iff.rfl
theorem blockQ_normal (id : Nat) : blockQ id Q .normal fr σ = Q .normal fr σ := propext Iff.rfl
theorem blockQ_hit (id : Nat) : blockQ id Q (.exit id) fr σ = Q .normal fr σ := by simp only [blockQ, if_true]
theorem blockQ_miss (id id' : Nat) (h : (id' == id) = false) : blockQ id Q (.exit id') fr σ = Q (.exit id') fr σ := by
  have h' : ¬ id' = id := by simpa using h
  simp only [blockQ, if_neg h']
theorem blockQ_ret (id : Nat) : blockQ id Q .ret fr σ = Q .ret fr σ := propext Iff.rfl
theorem endQ_normal (rs : List ARes) : endQ rs R .normal fr σ = stepP (resultsA rs (fr, σ)) fr σ (fun _ σ v => R v σ) .mk := propext Iff.rfl
theorem endQ_ret (rs : List ARes) : endQ rs R .ret fr σ = stepP (resultsA rs (fr, σ)) fr σ (fun _ σ v => R v σ) .mk := propext Iff.rfl
theorem loopQ_normal (live : List Nat) (I : Nat → List AVal → Store → Prop) (m n : Nat) : loopQ live I m Q n .normal fr σ = (fr.length = n ∧ ∃ m', m' < m ∧ I m' (live.map fun t => fr.getD t .undef) σ) := propext Iff.rfl
theorem loopQ_exit (live : List Nat) (I : Nat → List AVal → Store → Prop) (m n id : Nat) : loopQ live I m Q n (.exit id) fr σ = Q (.exit id) fr σ := propext Iff.rfl
theorem loopQ_ret (live : List Nat) (I : Nat → List AVal → Store → Prop) (m n : Nat) : loopQ live I m Q n .ret fr σ = Q .ret fr σ := propext Iff.rfl
theorem res_one (r : ARes) : resultsA [r] (fr, σ) = resOf (fr, σ) r := by
  simp only [resultsA, mapO]
  cases resOf (fr, σ) r <;> rfl
theorem res_two (r s : ARes) (v u : AVal) (h1 : resOf (fr, σ) r = some v) (h2 : resOf (fr, σ) s = some u) : resultsA [r, s] (fr, σ) = some (.tuple [v, u]) := by
  simp only [resultsA, mapO, h1, h2]
theorem res2_tmp (a b : Nat) : resultsA [.tmp a, .tmp b] (fr, σ) = some (.tuple [fr.getD a .undef, fr.getD b .undef]) := rfl
theorem res3_tmp (a b c : Nat) : resultsA [.tmp a, .tmp b, .tmp c] (fr, σ) = some (.tuple [fr.getD a .undef, fr.getD b .undef, fr.getD c .undef]) := rfl
theorem res4_tmp (a b c e : Nat) : resultsA [.tmp a, .tmp b, .tmp c, .tmp e] (fr, σ) = some (.tuple [fr.getD a .undef, fr.getD b .undef, fr.getD c .undef, fr.getD e .undef]) := rfl
theorem res_tmp (t : Nat) : resOf (fr, σ) (.tmp t) = some (fr.getD t .undef) := rfl
theorem res_cell (t n : Nat) (agg : Bool) : resOf (fr, σ) (.cell t n agg) = loadV σ n agg (fr.getD t .undef) := rfl

/-! operations -/
theorem opP_move (x : Opnd) : opP cfg d fr σ (.move x) R = R (ev cfg fr x) σ := propext Iff.rfl
def pickV (c a b : AVal) : Option AVal := match c with
  | .bool t => some (if t then a else b)
  | _ => none
theorem pickV_bool (t : Bool) (a b : AVal) : pickV (.bool t) a b = some (if t then a else b) := rfl
theorem opP_pick (c a b : Opnd) : opP cfg d fr σ (.pick c a b) R = optP (pickV (ev cfg fr c) (ev cfg fr a) (ev cfg fr b)) (fun v => R v σ) .mk := by
  simp only [opP, opE, opStep]; cases ev cfg fr c <;> rfl
theorem opP_alloc (z : List AVal) : opP cfg d fr σ (.alloc z) R = R (.ptr σ.length 0) (σ ++ [.cells z]) := propext Iff.rfl
theorem opP_box (x : Opnd) : opP cfg d fr σ (.box x) R = optP (if (ev cfg fr x).cells.all AVal.one then some () else none) (fun _ => R (.ptr σ.length 0) (σ ++ [.cells (ev cfg fr x).cells])) .mk := by
  simp only [opP, opE, opStep]; split <;> rfl
theorem opP_build (z : List AVal) (parts : List (Nat × Nat × Opnd)) : opP cfg d fr σ (.build z parts) R = optP (fillA z (parts.map fun p => (p.1, p.2.1, ev cfg fr p.2.2))) (fun cs => R (.agg cs) σ) .mk := by
  simp only [opP, opE, opStep]; cases fillA z (parts.map fun p => (p.1, p.2.1, ev cfg fr p.2.2)) <;> rfl
theorem opP_lit (sz : Nat) (z : List AVal) (agg : Bool) (n : Nat) (parts : List (Nat × Opnd)) : opP cfg d fr σ (.lit sz z agg n parts) R = optP (fillL sz agg (List.replicate n (zel z agg)) (parts.map fun p => (p.1, ev cfg fr p.2))) (fun es => R (.fslice (AVal.tagL es) true sz es) σ) .mk := by
  simp only [opP, opE, opStep]; cases fillL sz agg (List.replicate n (zel z agg)) (parts.map fun p => (p.1, ev cfg fr p.2)) <;> rfl
theorem opP_litA (sz : Nat) (z : List AVal) (agg : Bool) (n : Nat) (parts : List (Nat × Opnd)) : opP cfg d fr σ (.litA sz z agg n parts) R = optP (fillL sz agg (List.replicate n (zel z agg)) (parts.map fun p => (p.1, ev cfg fr p.2))) (fun es => R (.slice sz σ.length 0 0 n (some n)) (σ ++ [.arr sz es 0 0])) .mk := by
  simp only [opP, opE, opStep]; cases fillL sz agg (List.replicate n (zel z agg)) (parts.map fun p => (p.1, ev cfg fr p.2)) <;> rfl
theorem opP_load (n : Nat) (agg : Bool) (a : Opnd) : opP cfg d fr σ (.load n agg a) R = optP (loadV σ n agg (ev cfg fr a)) (fun v => R v σ) .mk := by
  simp only [opP, opE, opStep]; cases loadV σ n agg (ev cfg fr a) <;> rfl
theorem opP_store (n : Nat) (a v : Opnd) : opP cfg d fr σ (.store n a v) R = optP (storeV σ n (ev cfg fr a) (ev cfg fr v)) (fun σ' => R (.tuple []) σ') .mk := by
  simp only [opP, opE, opStep]; cases storeV σ n (ev cfg fr a) (ev cfg fr v) <;> rfl
def ncV (v : AVal) : Option AVal := match v with
  | .ptr id off => some (.ptr id off)
  | .eptr id ep i off => some (.eptr id ep i off)
  | .fptr t cs off => some (.fptr t cs off)
  | .func f a b => some (.func f a b)
  | _ => none
theorem ncV_ptr (id off : Nat) : ncV (.ptr id off) = some (.ptr id off) := rfl
theorem ncV_eptr (id ep i off : Nat) : ncV (.eptr id ep i off) = some (.eptr id ep i off) := rfl
theorem ncV_fptr (t : Nat) (cs : List AVal) (off : Nat) : ncV (.fptr t cs off) = some (.fptr t cs off) := rfl
theorem ncV_func (f : FuncId) (a b : List AVal) : ncV (.func f a b) = some (.func f a b) := rfl
theorem opP_nilCheck (x : Opnd) : opP cfg d fr σ (.nilCheck x) R = optP (ncV (ev cfg fr x)) (fun v => R v σ) .mk := by
  simp only [opP, opE, opStep]; cases ev cfg fr x <;> rfl
theorem opP_iop (op : BinOp) (x y : Opnd) : opP cfg d fr σ (.iop op x y) R = optP (iopV op (ev cfg fr x) (ev cfg fr y)) (fun v => R v σ) .mk := by
  simp only [opP, opE, opStep]; cases iopV op (ev cfg fr x) (ev cfg fr y) <;> rfl
theorem opP_sop (op : BinOp) (x y : Opnd) : opP cfg d fr σ (.sop op x y) R = optP (sopV op (ev cfg fr x) (ev cfg fr y)) (fun v => R v σ) .mk := by
  simp only [opP, opE, opStep]; cases sopV op (ev cfg fr x) (ev cfg fr y) <;> rfl
def bopV (neg : Bool) (x y : AVal) : Option AVal := match x, y with
  | .bool a, .bool b => some (.bool (if neg then !(a == b) else a == b))
  | _, _ => none
theorem bopV_bool (neg a b : Bool) : bopV neg (.bool a) (.bool b) = some (.bool (if neg then !(a == b) else a == b)) := rfl
theorem opP_bop (neg : Bool) (x y : Opnd) : opP cfg d fr σ (.bop neg x y) R = optP (bopV neg (ev cfg fr x) (ev cfg fr y)) (fun v => R v σ) .mk := by
  simp only [opP, opE, opStep]; cases ev cfg fr x <;> first | rfl | (cases ev cfg fr y <;> rfl)
theorem opP_eqs (neg : Bool) (ks : List EK) (x y : Opnd) : opP cfg d fr σ (.eqs neg ks x y) R = optP (eqsV ks (ev cfg fr x) (ev cfg fr y)) (fun b => R (.bool (if neg then !b else b)) σ) .mk := by
  simp only [opP, opE, opStep]; cases eqsV ks (ev cfg fr x) (ev cfg fr y) <;> rfl
theorem opP_eqnil (neg : Bool) (k : NK) (x : Opnd) : opP cfg d fr σ (.eqnil neg k x) R = optP (isNil k (ev cfg fr x)) (fun b => R (.bool (if neg then !b else b)) σ) .mk := by
  simp only [opP, opE, opStep]; cases isNil k (ev cfg fr x) <;> rfl
def notV (v : AVal) : Option AVal := match v with
  | .bool b => some (.bool !b)
  | _ => none
theorem notV_bool (b : Bool) : notV (.bool b) = some (.bool !b) := rfl
theorem opP_not (x : Opnd) : opP cfg d fr σ (.not x) R = optP (notV (ev cfg fr x)) (fun v => R v σ) .mk := by
  simp only [opP, opE, opStep]; cases ev cfg fr x <;> rfl
def negV (v : AVal) : Option AVal := match v with
  | .int k n => some (.int k (k.wrap (0 - n)))
  | _ => none
theorem negV_int (k : IntKind) (n : Int) : negV (.int k n) = some (.int k (k.wrap (0 - n))) := rfl
theorem opP_neg (x : Opnd) : opP cfg d fr σ (.neg x) R = optP (negV (ev cfg fr x)) (fun v => R v σ) .mk := by
  simp only [opP, opE, opStep]; cases ev cfg fr x <;> rfl
def convV (k : IntKind) (v : AVal) : Option AVal := match v with
  | .int _ n => some (.int k (k.wrap n))
  | _ => none
theorem convV_int (k j : IntKind) (n : Int) : convV k (.int j n) = some (.int k (k.wrap n)) := rfl
theorem opP_convI (k : IntKind) (x : Opnd) : opP cfg d fr σ (.convI k x) R = optP (convV k (ev cfg fr x)) (fun v => R v σ) .mk := by
  simp only [opP, opE, opStep]; cases ev cfg fr x <;> rfl
theorem opP_sliceOp (sz : Nat) (x : Opnd) (lo hi mx : Option Opnd) : opP cfg d fr σ (.sliceOp sz x lo hi mx) R = optP (sliceV sz (ev cfg fr x) (oev cfg fr lo) (oev cfg fr hi) (oev cfg fr mx)) (fun v => R v σ) .mk := by
  simp only [opP, opE, opStep]; cases sliceV sz (ev cfg fr x) (oev cfg fr lo) (oev cfg fr hi) (oev cfg fr mx) <;> rfl
theorem opP_substr (x : Opnd) (lo hi : Option Opnd) : opP cfg d fr σ (.substr x lo hi) R = optP (substrV (ev cfg fr x) (oev cfg fr lo) (oev cfg fr hi)) (fun v => R v σ) .mk := by
  simp only [opP, opE, opStep]; cases substrV (ev cfg fr x) (oev cfg fr lo) (oev cfg fr hi) <;> rfl
theorem opP_gslice (n : Nat) (x : Opnd) : opP cfg d fr σ (.gslice n x) R = optP (gsliceV n (ev cfg fr x)) (fun v => R v σ) .mk := by
  simp only [opP, opE, opStep]; cases gsliceV n (ev cfg fr x) <;> rfl
theorem opP_faddr (off : Nat) (x : Opnd) : opP cfg d fr σ (.faddr off x) R = optP (faddrV off (ev cfg fr x)) (fun v => R v σ) .mk := by
  simp only [opP, opE, opStep]; cases faddrV off (ev cfg fr x) <;> rfl
def fieldV (off n : Nat) (agg : Bool) (v : AVal) : Option AVal := match v with
  | .agg cs => ld cs off n agg
  | _ => none
theorem fieldV_agg (off n : Nat) (agg : Bool) (cs : List AVal) : fieldV off n agg (.agg cs) = ld cs off n agg := rfl
theorem opP_field (off n : Nat) (agg : Bool) (x : Opnd) : opP cfg d fr σ (.field off n agg x) R = optP (fieldV off n agg (ev cfg fr x)) (fun v => R v σ) .mk := by
  simp only [opP, opE, opStep]
  cases ev cfg fr x <;> try rfl
  rename_i cs
  simp only [fieldV]
  cases ld cs off n agg <;> rfl
theorem opP_iaddr (sz : Nat) (x i : Opnd) : opP cfg d fr σ (.iaddr sz x i) R = optP (iaddrV sz (ev cfg fr x) (ev cfg fr i)) (fun v => R v σ) .mk := by
  simp only [opP, opE, opStep]; cases iaddrV sz (ev cfg fr x) (ev cfg fr i) <;> rfl
theorem opP_aaddr (len sz : Nat) (x i : Opnd) : opP cfg d fr σ (.aaddr len sz x i) R = optP (aaddrV len sz (ev cfg fr x) (ev cfg fr i)) (fun v => R v σ) .mk := by
  simp only [opP, opE, opStep]; cases aaddrV len sz (ev cfg fr x) (ev cfg fr i) <;> rfl
theorem opP_strIdx (x i : Opnd) : opP cfg d fr σ (.strIdx x i) R = optP (strIdxV (ev cfg fr x) (ev cfg fr i)) (fun v => R v σ) .mk := by
  simp only [opP, opE, opStep]; cases strIdxV (ev cfg fr x) (ev cfg fr i) <;> rfl
theorem opP_arrIdx (len sz : Nat) (agg : Bool) (x i : Opnd) : opP cfg d fr σ (.arrIdx len sz agg x i) R = optP (arrIdxV len sz agg (ev cfg fr x) (ev cfg fr i)) (fun v => R v σ) .mk := by
  simp only [opP, opE, opStep]; cases arrIdxV len sz agg (ev cfg fr x) (ev cfg fr i) <;> rfl
theorem opP_lenS (x : Opnd) : opP cfg d fr σ (.lenS x) R = optP (lenSV (ev cfg fr x)) (fun n => R (.int .i64 n) σ) .mk := by
  simp only [opP, opE, opStep]; cases lenSV (ev cfg fr x) <;> rfl
def lenStrV (v : AVal) : Option Nat := match v with
  | .str s => some s.length
  | _ => none
theorem lenStrV_str (s : List UInt8) : lenStrV (.str s) = some s.length := rfl
theorem opP_lenStr (x : Opnd) : opP cfg d fr σ (.lenStr x) R = optP (lenStrV (ev cfg fr x)) (fun n => R (.int .i64 n) σ) .mk := by
  simp only [opP, opE, opStep]; cases ev cfg fr x <;> rfl
theorem opP_lenM (x : Opnd) : opP cfg d fr σ (.lenM x) R = optP (lenMV σ (ev cfg fr x)) (fun n => R (.int .i64 n) σ) .mk := by
  simp only [opP, opE, opStep]; cases lenMV σ (ev cfg fr x) <;> rfl
theorem opP_lenA (n : Nat) : opP cfg d fr σ (.lenA n) R = R (.int .i64 n) σ := propext Iff.rfl
theorem opP_capS (x : Opnd) : opP cfg d fr σ (.capS x) R = optP (capSV (ev cfg fr x)) (fun n => R (.int .i64 n) σ) .mk := by
  simp only [opP, opE, opStep]; cases capSV (ev cfg fr x) <;> rfl
theorem opP_minI (x : Opnd) (xs : List Opnd) : opP cfg d fr σ (.minI (x :: xs)) R = optP (foldV minV (ev cfg fr x) (xs.map (ev cfg fr))) (fun v => R v σ) .mk := by
  simp only [opP, opE, opStep]; cases foldV minV (ev cfg fr x) (xs.map (ev cfg fr)) <;> rfl
theorem opP_maxI (x : Opnd) (xs : List Opnd) : opP cfg d fr σ (.maxI (x :: xs)) R = optP (foldV maxV (ev cfg fr x) (xs.map (ev cfg fr))) (fun v => R v σ) .mk := by
  simp only [opP, opE, opStep]; cases foldV maxV (ev cfg fr x) (xs.map (ev cfg fr)) <;> rfl
theorem opP_append (sz bytes : Nat) (x y : Opnd) : opP cfg d fr σ (.append sz bytes x y) R = optP (elems sz σ (ev cfg fr y)) (fun ys => optP (appendV σ sz bytes (ev cfg fr x) ys) (fun p => R p.1 p.2) .mk) .mk := by
  simp only [opP, opE, opStep]; cases elems sz σ (ev cfg fr y) <;> rfl
def appzV (σ : Store) (sz bytes : Nat) (z : List AVal) (agg : Bool) (x y : AVal) : Option (AVal × Store) := match x, y with
    | .nilslice, .int .i64 n => if 0 ≤ n ∧ n * bytes ≤ apLim then
        (if n = 0 then some (.nilslice, σ) else some (.slice sz σ.length 0 0 n.toNat none, σ ++ [.arr sz (List.replicate n.toNat (zel z agg)) 0 0])) else none
    | _, _ => none
theorem opP_appendz (sz bytes : Nat) (z : List AVal) (agg : Bool) (x y : Opnd) : opP cfg d fr σ (.appendz sz bytes z agg x y) R = optP (appzV σ sz bytes z agg (ev cfg fr x) (ev cfg fr y)) (fun p => R p.1 p.2) .mk := propext Iff.rfl
def mkslV (σ : Store) (sz bytes : Nat) (z : List AVal) (agg : Bool) (l c : AVal) : Option (AVal × Store) := match l, c with
  | .int .i64 n, .int .i64 c => if 0 ≤ n ∧ n ≤ c ∧ c * bytes ≤ apLim then
        some (.slice sz σ.length 0 0 n.toNat (if n = c then some n.toNat else none), σ ++ [.arr sz (List.replicate n.toNat (zel z agg)) 0 0]) else none
  | _, _ => none
theorem opP_mkslice (sz bytes : Nat) (z : List AVal) (agg : Bool) (l c : Opnd) : opP cfg d fr σ (.mkslice sz bytes z agg l c) R = optP (mkslV σ sz bytes z agg (ev cfg fr l) (ev cfg fr c)) (fun p => R p.1 p.2) .mk := propext Iff.rfl
def extrV (v : AVal) (i : Nat) : Option AVal := match v with
  | .tuple vs => vs[i]?
  | _ => none
theorem extrV_tuple (vs : List AVal) (i : Nat) : extrV (.tuple vs) i = vs[i]? := rfl
theorem opP_extract (x : Opnd) (i : Nat) : opP cfg d fr σ (.extract x i) R = optP (extrV (ev cfg fr x) i) (fun v => R v σ) .mk := by
  simp only [opP, opE, opStep]
  cases ev cfg fr x <;> try rfl
  rename_i cs
  simp only [extrV]
  cases cs[i]? <;> rfl
theorem opP_mkfunc (f : FuncId) (first caps : List Opnd) : opP cfg d fr σ (.mkfunc f first caps) R = R (.func f (first.map (ev cfg fr)) (caps.map (ev cfg fr))) σ := propext Iff.rfl
theorem opP_mkmap : opP cfg d fr σ .mkmap R = R (.map σ.length) (σ ++ [.map [] []]) := propext Iff.rfl
theorem opP_lookup (g : Bool) (q : List EK) (z : AVal) (x k : Opnd) (ok : Bool) : opP cfg d fr σ (.lookup g q z x k ok) R = optP (lookupV σ g q z (ev cfg fr x) (ev cfg fr k) ok) (fun v => R v σ) .mk := by
  simp only [opP, opE, opStep]; cases lookupV σ g q z (ev cfg fr x) (ev cfg fr k) ok <;> rfl
theorem opP_mapset (g : Bool) (q : List EK) (m k v : Opnd) : opP cfg d fr σ (.mapset g q m k v) R = optP (mapsetV σ g q (ev cfg fr m) (ev cfg fr k) (ev cfg fr v)) (fun σ' => R (.tuple []) σ') .mk := by
  simp only [opP, opE, opStep]; cases mapsetV σ g q (ev cfg fr m) (ev cfg fr k) (ev cfg fr v) <;> rfl
theorem opP_mapdel (g : Bool) (q : List EK) (m k : Opnd) : opP cfg d fr σ (.mapdel g q m k) R = optP (mapdelV σ g q (ev cfg fr m) (ev cfg fr k)) (fun σ' => R (.tuple []) σ') .mk := by
  simp only [opP, opE, opStep]; cases mapdelV σ g q (ev cfg fr m) (ev cfg fr k) <;> rfl
theorem opP_mkiface (t : TypeId) (x : Opnd) : opP cfg d fr σ (.mkiface t x) R = R (.iface t (ev cfg fr x)) σ := propext Iff.rfl
theorem opP_callS (f : FuncId) (args : List Opnd) : opP cfg d fr σ (.call .shared f args) R = calledW cfg d f (args.map (ev cfg fr)) fr σ (fun _ => R) .mk := propext Iff.rfl
theorem opP_call (m : Mode) (f : FuncId) (args : List Opnd) : opP cfg d fr σ (.call m f args) R = callP cfg d m f (args.map (ev cfg fr)) σ R := propext Iff.rfl
def callvP (cfg : Cfg) (d : Nat) (m : Mode) (f : AVal) (args fr : List AVal) (σ : Store) (R : List AVal → AVal → Store → Prop) (w : Wit R) : Prop := match f with
  | .func g first caps => callP cfg d m g (first ++ args ++ caps) σ (R fr)
  | _ => False
theorem callvP_func (g : FuncId) (first caps args fr : List AVal) (R : List AVal → AVal → Store → Prop) (w : Wit R) : callvP cfg d .shared (.func g first caps) args fr σ R w = calledW cfg d g (first ++ args ++ caps) fr σ R .mk := propext Iff.rfl
theorem opP_callv (m : Mode) (f : Opnd) (args : List Opnd) : opP cfg d fr σ (.callv m f args) R = callvP cfg d m (ev cfg fr f) (args.map (ev cfg fr)) fr σ (fun _ => R) .mk := propext Iff.rfl

/-! .. as the first of a row -/
theorem wpO_move (o : Option Nat) (os : List AOper) (x : Opnd) : wpOs cfg d (⟨o, .move x, none⟩ :: os) fr σ K = stepP (some (ev cfg fr x)) fr σ (fun fr σ v => wpOs cfg d os (put fr o v) σ K) .mk := opP_move (cfg := cfg) (d := d) (fr := fr) (σ := σ) (R := fun v σ' => wpOs cfg d os (put fr o v) σ' K) x
theorem wpO_pick (o : Option Nat) (os : List AOper) (c a b : Opnd) : wpOs cfg d (⟨o, .pick c a b, none⟩ :: os) fr σ K = stepP (pickV (ev cfg fr c) (ev cfg fr a) (ev cfg fr b)) fr σ (fun fr σ v => wpOs cfg d os (put fr o v) σ K) .mk := opP_pick (cfg := cfg) (d := d) (fr := fr) (σ := σ) (R := fun v σ' => wpOs cfg d os (put fr o v) σ' K) c a b
theorem wpO_alloc (o : Option Nat) (os : List AOper) (z : List AVal) : wpOs cfg d (⟨o, .alloc z, none⟩ :: os) fr σ K = stepP (some (.ptr σ.length 0)) fr (σ ++ [.cells z]) (fun fr σ v => wpOs cfg d os (put fr o v) σ K) .mk := opP_alloc (cfg := cfg) (d := d) (fr := fr) (σ := σ) (R := fun v σ' => wpOs cfg d os (put fr o v) σ' K) z
theorem wpO_box (o : Option Nat) (os : List AOper) (x : Opnd) : wpOs cfg d (⟨o, .box x, none⟩ :: os) fr σ K = stepP (if (ev cfg fr x).cells.all AVal.one then some () else none) fr σ (fun fr σ _ => wpOs cfg d os (put fr o (.ptr σ.length 0)) (σ ++ [.cells (ev cfg fr x).cells]) K) .mk := opP_box (cfg := cfg) (d := d) (fr := fr) (σ := σ) (R := fun v σ' => wpOs cfg d os (put fr o v) σ' K) x
theorem wpO_build (o : Option Nat) (os : List AOper) (z : List AVal) (parts : List (Nat × Nat × Opnd)) : wpOs cfg d (⟨o, .build z parts, none⟩ :: os) fr σ K = stepP (fillA z (parts.map fun p => (p.1, p.2.1, ev cfg fr p.2.2))) fr σ (fun fr σ cs => wpOs cfg d os (put fr o (.agg cs)) σ K) .mk := opP_build (cfg := cfg) (d := d) (fr := fr) (σ := σ) (R := fun v σ' => wpOs cfg d os (put fr o v) σ' K) z parts
theorem wpO_lit (o : Option Nat) (os : List AOper) (sz : Nat) (z : List AVal) (agg : Bool) (n : Nat) (parts : List (Nat × Opnd)) : wpOs cfg d (⟨o, .lit sz z agg n parts, none⟩ :: os) fr σ K = stepP (fillL sz agg (List.replicate n (zel z agg)) (parts.map fun p => (p.1, ev cfg fr p.2))) fr σ (fun fr σ es => wpOs cfg d os (put fr o (.fslice (AVal.tagL es) true sz es)) σ K) .mk := opP_lit (cfg := cfg) (d := d) (fr := fr) (σ := σ) (R := fun v σ' => wpOs cfg d os (put fr o v) σ' K) sz z agg n parts
theorem wpO_litA (o : Option Nat) (os : List AOper) (sz : Nat) (z : List AVal) (agg : Bool) (n : Nat) (parts : List (Nat × Opnd)) : wpOs cfg d (⟨o, .litA sz z agg n parts, none⟩ :: os) fr σ K = stepP (fillL sz agg (List.replicate n (zel z agg)) (parts.map fun p => (p.1, ev cfg fr p.2))) fr σ (fun fr σ es => wpOs cfg d os (put fr o (.slice sz σ.length 0 0 n (some n))) (σ ++ [.arr sz es 0 0]) K) .mk := opP_litA (cfg := cfg) (d := d) (fr := fr) (σ := σ) (R := fun v σ' => wpOs cfg d os (put fr o v) σ' K) sz z agg n parts
theorem wpO_load (o : Option Nat) (os : List AOper) (n : Nat) (agg : Bool) (a : Opnd) : wpOs cfg d (⟨o, .load n agg a, none⟩ :: os) fr σ K = stepP (loadV σ n agg (ev cfg fr a)) fr σ (fun fr σ v => wpOs cfg d os (put fr o v) σ K) .mk := opP_load (cfg := cfg) (d := d) (fr := fr) (σ := σ) (R := fun v σ' => wpOs cfg d os (put fr o v) σ' K) n agg a
theorem wpO_store (o : Option Nat) (os : List AOper) (n : Nat) (a v : Opnd) : wpOs cfg d (⟨o, .store n a v, none⟩ :: os) fr σ K = stepP (storeV σ n (ev cfg fr a) (ev cfg fr v)) fr σ (fun fr _ σ' => wpOs cfg d os (put fr o (.tuple [])) σ' K) .mk := opP_store (cfg := cfg) (d := d) (fr := fr) (σ := σ) (R := fun v σ' => wpOs cfg d os (put fr o v) σ' K) n a v
theorem wpO_nilCheck (o : Option Nat) (os : List AOper) (x : Opnd) : wpOs cfg d (⟨o, .nilCheck x, none⟩ :: os) fr σ K = stepP (ncV (ev cfg fr x)) fr σ (fun fr σ v => wpOs cfg d os (put fr o v) σ K) .mk := opP_nilCheck (cfg := cfg) (d := d) (fr := fr) (σ := σ) (R := fun v σ' => wpOs cfg d os (put fr o v) σ' K) x
theorem wpO_iop (o : Option Nat) (os : List AOper) (op : BinOp) (x y : Opnd) : wpOs cfg d (⟨o, .iop op x y, none⟩ :: os) fr σ K = stepP (iopV op (ev cfg fr x) (ev cfg fr y)) fr σ (fun fr σ v => wpOs cfg d os (put fr o v) σ K) .mk := opP_iop (cfg := cfg) (d := d) (fr := fr) (σ := σ) (R := fun v σ' => wpOs cfg d os (put fr o v) σ' K) op x y
theorem wpO_sop (o : Option Nat) (os : List AOper) (op : BinOp) (x y : Opnd) : wpOs cfg d (⟨o, .sop op x y, none⟩ :: os) fr σ K = stepP (sopV op (ev cfg fr x) (ev cfg fr y)) fr σ (fun fr σ v => wpOs cfg d os (put fr o v) σ K) .mk := opP_sop (cfg := cfg) (d := d) (fr := fr) (σ := σ) (R := fun v σ' => wpOs cfg d os (put fr o v) σ' K) op x y
theorem wpO_bop (o : Option Nat) (os : List AOper) (neg : Bool) (x y : Opnd) : wpOs cfg d (⟨o, .bop neg x y, none⟩ :: os) fr σ K = stepP (bopV neg (ev cfg fr x) (ev cfg fr y)) fr σ (fun fr σ v => wpOs cfg d os (put fr o v) σ K) .mk := opP_bop (cfg := cfg) (d := d) (fr := fr) (σ := σ) (R := fun v σ' => wpOs cfg d os (put fr o v) σ' K) neg x y
theorem wpO_eqs (o : Option Nat) (os : List AOper) (neg : Bool) (ks : List EK) (x y : Opnd) : wpOs cfg d (⟨o, .eqs neg ks x y, none⟩ :: os) fr σ K = stepP (eqsV ks (ev cfg fr x) (ev cfg fr y)) fr σ (fun fr σ b => wpOs cfg d os (put fr o (.bool (if neg then !b else b))) σ K) .mk := opP_eqs (cfg := cfg) (d := d) (fr := fr) (σ := σ) (R := fun v σ' => wpOs cfg d os (put fr o v) σ' K) neg ks x y
theorem wpO_eqnil (o : Option Nat) (os : List AOper) (neg : Bool) (k : NK) (x : Opnd) : wpOs cfg d (⟨o, .eqnil neg k x, none⟩ :: os) fr σ K = stepP (isNil k (ev cfg fr x)) fr σ (fun fr σ b => wpOs cfg d os (put fr o (.bool (if neg then !b else b))) σ K) .mk := opP_eqnil (cfg := cfg) (d := d) (fr := fr) (σ := σ) (R := fun v σ' => wpOs cfg d os (put fr o v) σ' K) neg k x
theorem wpO_not (o : Option Nat) (os : List AOper) (x : Opnd) : wpOs cfg d (⟨o, .not x, none⟩ :: os) fr σ K = stepP (notV (ev cfg fr x)) fr σ (fun fr σ v => wpOs cfg d os (put fr o v) σ K) .mk := opP_not (cfg := cfg) (d := d) (fr := fr) (σ := σ) (R := fun v σ' => wpOs cfg d os (put fr o v) σ' K) x
theorem wpO_neg (o : Option Nat) (os : List AOper) (x : Opnd) : wpOs cfg d (⟨o, .neg x, none⟩ :: os) fr σ K = stepP (negV (ev cfg fr x)) fr σ (fun fr σ v => wpOs cfg d os (put fr o v) σ K) .mk := opP_neg (cfg := cfg) (d := d) (fr := fr) (σ := σ) (R := fun v σ' => wpOs cfg d os (put fr o v) σ' K) x
theorem wpO_convI (o : Option Nat) (os : List AOper) (k : IntKind) (x : Opnd) : wpOs cfg d (⟨o, .convI k x, none⟩ :: os) fr σ K = stepP (convV k (ev cfg fr x)) fr σ (fun fr σ v => wpOs cfg d os (put fr o v) σ K) .mk := opP_convI (cfg := cfg) (d := d) (fr := fr) (σ := σ) (R := fun v σ' => wpOs cfg d os (put fr o v) σ' K) k x
theorem wpO_sliceOp (o : Option Nat) (os : List AOper) (sz : Nat) (x : Opnd) (lo hi mx : Option Opnd) : wpOs cfg d (⟨o, .sliceOp sz x lo hi mx, none⟩ :: os) fr σ K = stepP (sliceV sz (ev cfg fr x) (oev cfg fr lo) (oev cfg fr hi) (oev cfg fr mx)) fr σ (fun fr σ v => wpOs cfg d os (put fr o v) σ K) .mk := opP_sliceOp (cfg := cfg) (d := d) (fr := fr) (σ := σ) (R := fun v σ' => wpOs cfg d os (put fr o v) σ' K) sz x lo hi mx
theorem wpO_substr (o : Option Nat) (os : List AOper) (x : Opnd) (lo hi : Option Opnd) : wpOs cfg d (⟨o, .substr x lo hi, none⟩ :: os) fr σ K = stepP (substrV (ev cfg fr x) (oev cfg fr lo) (oev cfg fr hi)) fr σ (fun fr σ v => wpOs cfg d os (put fr o v) σ K) .mk := opP_substr (cfg := cfg) (d := d) (fr := fr) (σ := σ) (R := fun v σ' => wpOs cfg d os (put fr o v) σ' K) x lo hi
theorem wpO_gslice (o : Option Nat) (os : List AOper) (n : Nat) (x : Opnd) : wpOs cfg d (⟨o, .gslice n x, none⟩ :: os) fr σ K = stepP (gsliceV n (ev cfg fr x)) fr σ (fun fr σ v => wpOs cfg d os (put fr o v) σ K) .mk := opP_gslice (cfg := cfg) (d := d) (fr := fr) (σ := σ) (R := fun v σ' => wpOs cfg d os (put fr o v) σ' K) n x
theorem wpO_faddr (o : Option Nat) (os : List AOper) (off : Nat) (x : Opnd) : wpOs cfg d (⟨o, .faddr off x, none⟩ :: os) fr σ K = stepP (faddrV off (ev cfg fr x)) fr σ (fun fr σ v => wpOs cfg d os (put fr o v) σ K) .mk := opP_faddr (cfg := cfg) (d := d) (fr := fr) (σ := σ) (R := fun v σ' => wpOs cfg d os (put fr o v) σ' K) off x
theorem wpO_field (o : Option Nat) (os : List AOper) (off n : Nat) (agg : Bool) (x : Opnd) : wpOs cfg d (⟨o, .field off n agg x, none⟩ :: os) fr σ K = stepP (fieldV off n agg (ev cfg fr x)) fr σ (fun fr σ v => wpOs cfg d os (put fr o v) σ K) .mk := opP_field (cfg := cfg) (d := d) (fr := fr) (σ := σ) (R := fun v σ' => wpOs cfg d os (put fr o v) σ' K) off n agg x
theorem wpO_iaddr (o : Option Nat) (os : List AOper) (sz : Nat) (x i : Opnd) : wpOs cfg d (⟨o, .iaddr sz x i, none⟩ :: os) fr σ K = stepP (iaddrV sz (ev cfg fr x) (ev cfg fr i)) fr σ (fun fr σ v => wpOs cfg d os (put fr o v) σ K) .mk := opP_iaddr (cfg := cfg) (d := d) (fr := fr) (σ := σ) (R := fun v σ' => wpOs cfg d os (put fr o v) σ' K) sz x i
theorem wpO_aaddr (o : Option Nat) (os : List AOper) (len sz : Nat) (x i : Opnd) : wpOs cfg d (⟨o, .aaddr len sz x i, none⟩ :: os) fr σ K = stepP (aaddrV len sz (ev cfg fr x) (ev cfg fr i)) fr σ (fun fr σ v => wpOs cfg d os (put fr o v) σ K) .mk := opP_aaddr (cfg := cfg) (d := d) (fr := fr) (σ := σ) (R := fun v σ' => wpOs cfg d os (put fr o v) σ' K) len sz x i
theorem wpO_strIdx (o : Option Nat) (os : List AOper) (x i : Opnd) : wpOs cfg d (⟨o, .strIdx x i, none⟩ :: os) fr σ K = stepP (strIdxV (ev cfg fr x) (ev cfg fr i)) fr σ (fun fr σ v => wpOs cfg d os (put fr o v) σ K) .mk := opP_strIdx (cfg := cfg) (d := d) (fr := fr) (σ := σ) (R := fun v σ' => wpOs cfg d os (put fr o v) σ' K) x i
theorem wpO_arrIdx (o : Option Nat) (os : List AOper) (len sz : Nat) (agg : Bool) (x i : Opnd) : wpOs cfg d (⟨o, .arrIdx len sz agg x i, none⟩ :: os) fr σ K = stepP (arrIdxV len sz agg (ev cfg fr x) (ev cfg fr i)) fr σ (fun fr σ v => wpOs cfg d os (put fr o v) σ K) .mk := opP_arrIdx (cfg := cfg) (d := d) (fr := fr) (σ := σ) (R := fun v σ' => wpOs cfg d os (put fr o v) σ' K) len sz agg x i
theorem wpO_lenS (o : Option Nat) (os : List AOper) (x : Opnd) : wpOs cfg d (⟨o, .lenS x, none⟩ :: os) fr σ K = stepP (lenSV (ev cfg fr x)) fr σ (fun fr σ n => wpOs cfg d os (put fr o (.int .i64 n)) σ K) .mk := opP_lenS (cfg := cfg) (d := d) (fr := fr) (σ := σ) (R := fun v σ' => wpOs cfg d os (put fr o v) σ' K) x
theorem wpO_lenStr (o : Option Nat) (os : List AOper) (x : Opnd) : wpOs cfg d (⟨o, .lenStr x, none⟩ :: os) fr σ K = stepP (lenStrV (ev cfg fr x)) fr σ (fun fr σ n => wpOs cfg d os (put fr o (.int .i64 n)) σ K) .mk := opP_lenStr (cfg := cfg) (d := d) (fr := fr) (σ := σ) (R := fun v σ' => wpOs cfg d os (put fr o v) σ' K) x
theorem wpO_lenM (o : Option Nat) (os : List AOper) (x : Opnd) : wpOs cfg d (⟨o, .lenM x, none⟩ :: os) fr σ K = stepP (lenMV σ (ev cfg fr x)) fr σ (fun fr σ n => wpOs cfg d os (put fr o (.int .i64 n)) σ K) .mk := opP_lenM (cfg := cfg) (d := d) (fr := fr) (σ := σ) (R := fun v σ' => wpOs cfg d os (put fr o v) σ' K) x
theorem wpO_lenA (o : Option Nat) (os : List AOper) (n : Nat) : wpOs cfg d (⟨o, .lenA n, none⟩ :: os) fr σ K = stepP (some (.int .i64 n)) fr σ (fun fr σ v => wpOs cfg d os (put fr o v) σ K) .mk := opP_lenA (cfg := cfg) (d := d) (fr := fr) (σ := σ) (R := fun v σ' => wpOs cfg d os (put fr o v) σ' K) n
theorem wpO_capS (o : Option Nat) (os : List AOper) (x : Opnd) : wpOs cfg d (⟨o, .capS x, none⟩ :: os) fr σ K = stepP (capSV (ev cfg fr x)) fr σ (fun fr σ n => wpOs cfg d os (put fr o (.int .i64 n)) σ K) .mk := opP_capS (cfg := cfg) (d := d) (fr := fr) (σ := σ) (R := fun v σ' => wpOs cfg d os (put fr o v) σ' K) x
theorem wpO_minI (o : Option Nat) (os : List AOper) (x : Opnd) (xs : List Opnd) : wpOs cfg d (⟨o, .minI (x :: xs), none⟩ :: os) fr σ K = stepP (foldV minV (ev cfg fr x) (xs.map (ev cfg fr))) fr σ (fun fr σ v => wpOs cfg d os (put fr o v) σ K) .mk := opP_minI (cfg := cfg) (d := d) (fr := fr) (σ := σ) (R := fun v σ' => wpOs cfg d os (put fr o v) σ' K) x xs
theorem wpO_maxI (o : Option Nat) (os : List AOper) (x : Opnd) (xs : List Opnd) : wpOs cfg d (⟨o, .maxI (x :: xs), none⟩ :: os) fr σ K = stepP (foldV maxV (ev cfg fr x) (xs.map (ev cfg fr))) fr σ (fun fr σ v => wpOs cfg d os (put fr o v) σ K) .mk := opP_maxI (cfg := cfg) (d := d) (fr := fr) (σ := σ) (R := fun v σ' => wpOs cfg d os (put fr o v) σ' K) x xs
theorem wpO_append (o : Option Nat) (os : List AOper) (sz bytes : Nat) (x y : Opnd) : wpOs cfg d (⟨o, .append sz bytes x y, none⟩ :: os) fr σ K = stepP (elems sz σ (ev cfg fr y)) fr σ (fun fr σ ys => stepP (appendV σ sz bytes (ev cfg fr x) ys) fr σ (fun fr _ p => wpOs cfg d os (put fr o p.1) p.2 K) .mk) .mk := opP_append (cfg := cfg) (d := d) (fr := fr) (σ := σ) (R := fun v σ' => wpOs cfg d os (put fr o v) σ' K) sz bytes x y
theorem wpO_appendz (o : Option Nat) (os : List AOper) (sz bytes : Nat) (z : List AVal) (agg : Bool) (x y : Opnd) : wpOs cfg d (⟨o, .appendz sz bytes z agg x y, none⟩ :: os) fr σ K = stepP (appzV σ sz bytes z agg (ev cfg fr x) (ev cfg fr y)) fr σ (fun fr _ p => wpOs cfg d os (put fr o p.1) p.2 K) .mk := opP_appendz (cfg := cfg) (d := d) (fr := fr) (σ := σ) (R := fun v σ' => wpOs cfg d os (put fr o v) σ' K) sz bytes z agg x y
theorem wpO_mkslice (o : Option Nat) (os : List AOper) (sz bytes : Nat) (z : List AVal) (agg : Bool) (l c : Opnd) : wpOs cfg d (⟨o, .mkslice sz bytes z agg l c, none⟩ :: os) fr σ K = stepP (mkslV σ sz bytes z agg (ev cfg fr l) (ev cfg fr c)) fr σ (fun fr _ p => wpOs cfg d os (put fr o p.1) p.2 K) .mk := opP_mkslice (cfg := cfg) (d := d) (fr := fr) (σ := σ) (R := fun v σ' => wpOs cfg d os (put fr o v) σ' K) sz bytes z agg l c
theorem wpO_extract (o : Option Nat) (os : List AOper) (x : Opnd) (i : Nat) : wpOs cfg d (⟨o, .extract x i, none⟩ :: os) fr σ K = stepP (extrV (ev cfg fr x) i) fr σ (fun fr σ v => wpOs cfg d os (put fr o v) σ K) .mk := opP_extract (cfg := cfg) (d := d) (fr := fr) (σ := σ) (R := fun v σ' => wpOs cfg d os (put fr o v) σ' K) x i
theorem wpO_mkfunc (o : Option Nat) (os : List AOper) (f : FuncId) (first caps : List Opnd) : wpOs cfg d (⟨o, .mkfunc f first caps, none⟩ :: os) fr σ K = stepP (some (.func f (first.map (ev cfg fr)) (caps.map (ev cfg fr)))) fr σ (fun fr σ v => wpOs cfg d os (put fr o v) σ K) .mk := opP_mkfunc (cfg := cfg) (d := d) (fr := fr) (σ := σ) (R := fun v σ' => wpOs cfg d os (put fr o v) σ' K) f first caps
theorem wpO_mkmap (o : Option Nat) (os : List AOper) : wpOs cfg d (⟨o, .mkmap, none⟩ :: os) fr σ K = stepP (some (.map σ.length)) fr (σ ++ [.map [] []]) (fun fr σ v => wpOs cfg d os (put fr o v) σ K) .mk := opP_mkmap (cfg := cfg) (d := d) (fr := fr) (σ := σ) (R := fun v σ' => wpOs cfg d os (put fr o v) σ' K)
theorem wpO_lookup (o : Option Nat) (os : List AOper) (g : Bool) (q : List EK) (z : AVal) (x k : Opnd) (ok : Bool) : wpOs cfg d (⟨o, .lookup g q z x k ok, none⟩ :: os) fr σ K = stepP (lookupV σ g q z (ev cfg fr x) (ev cfg fr k) ok) fr σ (fun fr σ v => wpOs cfg d os (put fr o v) σ K) .mk := opP_lookup (cfg := cfg) (d := d) (fr := fr) (σ := σ) (R := fun v σ' => wpOs cfg d os (put fr o v) σ' K) g q z x k ok
theorem wpO_mapset (o : Option Nat) (os : List AOper) (g : Bool) (q : List EK) (m k v : Opnd) : wpOs cfg d (⟨o, .mapset g q m k v, none⟩ :: os) fr σ K = stepP (mapsetV σ g q (ev cfg fr m) (ev cfg fr k) (ev cfg fr v)) fr σ (fun fr _ σ' => wpOs cfg d os (put fr o (.tuple [])) σ' K) .mk := opP_mapset (cfg := cfg) (d := d) (fr := fr) (σ := σ) (R := fun v σ' => wpOs cfg d os (put fr o v) σ' K) g q m k v
theorem wpO_mapdel (o : Option Nat) (os : List AOper) (g : Bool) (q : List EK) (m k : Opnd) : wpOs cfg d (⟨o, .mapdel g q m k, none⟩ :: os) fr σ K = stepP (mapdelV σ g q (ev cfg fr m) (ev cfg fr k)) fr σ (fun fr _ σ' => wpOs cfg d os (put fr o (.tuple [])) σ' K) .mk := opP_mapdel (cfg := cfg) (d := d) (fr := fr) (σ := σ) (R := fun v σ' => wpOs cfg d os (put fr o v) σ' K) g q m k
theorem wpO_mkiface (o : Option Nat) (os : List AOper) (t : TypeId) (x : Opnd) : wpOs cfg d (⟨o, .mkiface t x, none⟩ :: os) fr σ K = stepP (some (.iface t (ev cfg fr x))) fr σ (fun fr σ v => wpOs cfg d os (put fr o v) σ K) .mk := opP_mkiface (cfg := cfg) (d := d) (fr := fr) (σ := σ) (R := fun v σ' => wpOs cfg d os (put fr o v) σ' K) t x
theorem wpO_callS (o : Option Nat) (os : List AOper) (f : FuncId) (args : List Opnd) : wpOs cfg d (⟨o, .call .shared f args, none⟩ :: os) fr σ K = calledW cfg d f (args.map (ev cfg fr)) fr σ (fun fr v σ' => wpOs cfg d os (put fr o v) σ' K) .mk := opP_callS (cfg := cfg) (d := d) (fr := fr) (σ := σ) (R := fun v σ' => wpOs cfg d os (put fr o v) σ' K) f args
theorem wpO_call (o : Option Nat) (os : List AOper) (m : Mode) (f : FuncId) (args : List Opnd) : wpOs cfg d (⟨o, .call m f args, none⟩ :: os) fr σ K = callP cfg d m f (args.map (ev cfg fr)) σ (fun v σ' => wpOs cfg d os (put fr o v) σ' K) := opP_call (cfg := cfg) (d := d) (fr := fr) (σ := σ) (R := fun v σ' => wpOs cfg d os (put fr o v) σ' K) m f args
def isoW (cfg : Cfg) (d : Nat) (f : FuncId) (args : List AVal) (fr : List AVal) (σ : Store) (K : List AVal → Store → AVal → Prop) (w : Wit K) : Prop := callP cfg d .iso f args σ (fun v σ' => K fr σ' v)
theorem wpO_callI (o : Option Nat) (os : List AOper) (f : FuncId) (args : List Opnd) : wpOs cfg d (⟨o, .call .iso f args, none⟩ :: os) fr σ K = isoW cfg d f (args.map (ev cfg fr)) fr σ (fun fr σ v => wpOs cfg d os (put fr o v) σ K) .mk := propext Iff.rfl
/-- a call without arguments in a store of its own, that tells a bool -/
theorem isoW_bool {f : FuncId} {fr : List AVal} {σ : Store} {K : List AVal → Store → AVal → Prop} {w : Wit K} {n : Nat} {b : Bool} (h : (run cfg n (d + 1) f [] []).map (fun p => p.1) = some (.bool b)) (hk : K fr σ (.bool b)) : isoW cfg d f [] fr σ K w := by
  rw [Option.map_eq_some_iff] at h
  obtain ⟨⟨v, σ1⟩, h1, h2⟩ := h
  dsimp only at h2
  subst h2
  exact ⟨[], rfl, n, .bool b, σ1, h1, .bool b, rfl, Nat.zero_le _, hk⟩
theorem wpO_callv (o : Option Nat) (os : List AOper) (m : Mode) (f : Opnd) (args : List Opnd) : wpOs cfg d (⟨o, .callv m f args, none⟩ :: os) fr σ K = callvP cfg d m (ev cfg fr f) (args.map (ev cfg fr)) fr σ (fun fr v σ' => wpOs cfg d os (put fr o v) σ' K) .mk := by
  simp only [wpOs, wantedA, guardP, opP, callvP]

theorem bq_tt : (true == true) = true := rfl
theorem bq_ff : (false == false) = true := rfl
theorem bq_tf : (true == false) = false := rfl
theorem bq_ft : (false == true) = false := rfl

/-! numbers -/
theorem iop_add (k : IntKind) (a b : Int) : iopV .add (.int k a) (.int k b) = some (.int k (k.wrap (a + b))) := by simp
theorem iop_sub (k : IntKind) (a b : Int) : iopV .sub (.int k a) (.int k b) = some (.int k (k.wrap (a - b))) := by simp
theorem iop_mul (k : IntKind) (a b : Int) : iopV .mul (.int k a) (.int k b) = some (.int k (k.wrap (a * b))) := by simp
theorem iop_quo (k : IntKind) (a b : Int) : iopV .quo (.int k a) (.int k b) = if b = 0 then none else some (.int k (k.wrap (a.tdiv b))) := by simp
theorem iop_rem (k : IntKind) (a b : Int) : iopV .rem (.int k a) (.int k b) = if b = 0 then none else some (.int k (a.tmod b)) := by simp
theorem iop_and (k : IntKind) (a b : Int) : iopV .and (.int k a) (.int k b) = some (.int k (k.wrap (BitVec.ofInt k.bits a &&& BitVec.ofInt k.bits b).toNat)) := by simp
theorem iop_or (k : IntKind) (a b : Int) : iopV .or (.int k a) (.int k b) = some (.int k (k.wrap (BitVec.ofInt k.bits a ||| BitVec.ofInt k.bits b).toNat)) := by simp
theorem iop_xor (k : IntKind) (a b : Int) : iopV .xor (.int k a) (.int k b) = some (.int k (k.wrap (BitVec.ofInt k.bits a ^^^ BitVec.ofInt k.bits b).toNat)) := by simp
theorem iop_eql (k : IntKind) (a b : Int) : iopV .eql (.int k a) (.int k b) = some (.bool (a == b)) := by simp
theorem iop_neq (k : IntKind) (a b : Int) : iopV .neq (.int k a) (.int k b) = some (.bool (a != b)) := by simp
theorem iop_lss (k : IntKind) (a b : Int) : iopV .lss (.int k a) (.int k b) = some (.bool (decide (a < b))) := by simp
theorem iop_leq (k : IntKind) (a b : Int) : iopV .leq (.int k a) (.int k b) = some (.bool (decide (a ≤ b))) := by simp
theorem iop_gtr (k : IntKind) (a b : Int) : iopV .gtr (.int k a) (.int k b) = some (.bool (decide (a > b))) := by simp
theorem iop_geq (k : IntKind) (a b : Int) : iopV .geq (.int k a) (.int k b) = some (.bool (decide (a ≥ b))) := by simp
theorem iop_shl (k j : IntKind) (a b : Int) (h : 0 ≤ b) : iopV .shl (.int k a) (.int j b) = some (.int k (k.wrap (a * 2 ^ (min b.toNat k.bits)))) := by
  have : ¬ b < 0 := by omega
  simp [this]
theorem iop_shr (k j : IntKind) (a b : Int) (h : 0 ≤ b) : iopV .shr (.int k a) (.int j b) = some (.int k (a.fdiv (2 ^ (min b.toNat k.bits)))) := by
  have : ¬ b < 0 := by omega
  simp [this]
theorem wrap_i64 {x : Int} (h : -9223372036854775808 ≤ x) (h2 : x < 9223372036854775808) : IntKind.i64.wrap x = x := by
  simp only [IntKind.wrap, IntKind.signed, IntKind.bits, Bool.true_and, decide_eq_true_eq, Nat.reduceSub, Int.reducePow, ge_iff_le]
  split <;> omega
theorem wrap_u {k : IntKind} {x : Int} (hk : k.signed = false) (h : 0 ≤ x) (h2 : x < 2 ^ k.bits) : k.wrap x = x := by
  simp only [IntKind.wrap, hk, Bool.false_and, Bool.false_eq_true, if_false]
  exact Int.emod_eq_of_lt h h2
theorem wrap_u32 {x : Int} (h : 0 ≤ x) (h2 : x < 4294967296) : IntKind.u32.wrap x = x := wrap_u rfl h h2
theorem wrap_u8 {x : Int} (h : 0 ≤ x) (h2 : x < 256) : IntKind.u8.wrap x = x := wrap_u rfl h h2
theorem wrap_u64 {x : Int} (h : 0 ≤ x) (h2 : x < 18446744073709551616) : IntKind.u64.wrap x = x := wrap_u rfl h h2
theorem wrap_u32_mod (x : Int) : IntKind.u32.wrap x = x % 4294967296 := by simp [IntKind.wrap, IntKind.signed, IntKind.bits]
theorem wrap_u8_mod (x : Int) : IntKind.u8.wrap x = x % 256 := by simp [IntKind.wrap, IntKind.signed, IntKind.bits]
end
attribute [irreducible] wpOs wpC stepP optP guardP condP loopP drawnP calledW isoW callvP seqQ blockQ endQ loopQ
end Go.Proofs.YtkjnanfkclijcaaDoor.Am

/-
  THE ABSTRACT MACHINE, part 33: slices by their elements, stores that keep what they had.
-/
namespace Go.Proofs.YtkjnanfkclijcaaDoor.Am
open Go
set_option linter.unusedVariables false
set_option linter.unusedSimpArgs false

/-- the object a slice lies in -/
def AVal.sid : AVal → Option Nat
  | .slice _ id _ _ _ _ => some id
  | _ => none

structure SlOf (σ : Store) (sz : Nat) (v : AVal) (es : List AVal) : Prop where
  els : elems sz σ v = some es
  len : lenSV v = some es.length
  cap : ∀ s id ep off len c, v = .slice s id ep off len (some c) → len ≤ c

def addrOf (sz : Nat) (v : AVal) (i : Nat) : AVal := (iaddrV sz v (.int .i64 i)).getD .undef

def Keeps (M : Nat → Prop) (σ σ' : Store) : Prop := σ.length ≤ σ'.length ∧ ∀ i, i < σ.length → ¬ M i → σ'[i]? = σ[i]?
abbrev Grows (σ σ' : Store) : Prop := Keeps (fun _ => False) σ σ'

theorem Keeps.refl (M : Nat → Prop) (σ : Store) : Keeps M σ σ := ⟨Nat.le_refl _, fun _ _ _ => rfl⟩
theorem Keeps.trans {M M' : Nat → Prop} {σ σ1 σ2 : Store} (h : Keeps M σ σ1) (h' : Keeps M' σ1 σ2) (hm : ∀ i, i < σ.length → M' i → M i) : Keeps M σ σ2 :=
  ⟨Nat.le_trans h.1 h'.1, fun i hi hn => (h'.2 i (Nat.lt_of_lt_of_le hi h.1) (fun hx => hn (hm i hi hx))).trans (h.2 i hi hn)⟩
theorem Keeps.mono {M M' : Nat → Prop} {σ σ' : Store} (h : Keeps M σ σ') (hm : ∀ i, i < σ.length → M i → M' i) : Keeps M' σ σ' := ⟨h.1, fun i hi hn => h.2 i hi fun hx => hn (hm i hi hx)⟩
theorem Grows.trans {σ σ1 σ2 : Store} (h : Grows σ σ1) (h' : Grows σ1 σ2) : Grows σ σ2 := Keeps.trans h h' fun _ _ h => h
theorem Grows.any {M : Nat → Prop} {σ σ' : Store} (h : Grows σ σ') : Keeps M σ σ' := h.mono fun _ _ h => h.elim
theorem Grows.app (σ : Store) (xs : List AObj) : Grows σ (σ ++ xs) := ⟨by simp, fun i hi _ => List.getElem?_append_left hi⟩
theorem Grows.get {σ σ' : Store} (h : Grows σ σ') {i : Nat} {o : AObj} (ho : σ[i]? = some o) : σ'[i]? = some o := by
  rw [h.2 i (List.getElem?_eq_some_iff.1 ho).1 (fun h => h)]; exact ho
theorem Keeps.get {M : Nat → Prop} {σ σ' : Store} (h : Keeps M σ σ') {i : Nat} {o : AObj} (ho : σ[i]? = some o) (hm : ¬ M i) : σ'[i]? = some o := by
  rw [h.2 i (List.getElem?_eq_some_iff.1 ho).1 hm]; exact ho
theorem Keeps.set (σ : Store) (id : Nat) (o : AObj) : Keeps (fun i => i = id) σ (σ.set id o) :=
  ⟨by simp, fun i hi hn => List.getElem?_set_ne (fun h => hn h.symm)⟩

section
variable {σ σ' : Store} {sz : Nat} {v : AVal} {es : List AVal}

theorem SlOf.nil (σ : Store) (sz : Nat) : SlOf σ sz .nilslice [] := ⟨rfl, rfl, fun _ _ _ _ _ _ h => by cases h⟩
theorem SlOf.fs (σ : Store) (sz t : Nat) (full : Bool) (es : List AVal) : SlOf σ sz (.fslice t full sz es) es := ⟨by simp, rfl, fun _ _ _ _ _ _ h => by cases h⟩

theorem SlOf.cases (h : SlOf σ sz v es) : (v = .nilslice ∧ es = []) ∨ (∃ t full, v = .fslice t full sz es) ∨
    ∃ id ep off cap sz' azs epo fl, v = .slice sz id ep off es.length cap ∧ σ[id]? = some (.arr sz' azs epo fl) ∧ fl ≤ ep ∧ es = (azs.drop off).take es.length ∧ (0 < es.length → off + es.length ≤ azs.length) ∧ es.length ≤ cap.getD es.length := by
  obtain ⟨h1, h2, h3⟩ := h
  cases v <;> simp only [elems, reduceCtorEq] at h1
  · left; simp at h1; exact ⟨rfl, h1⟩
  · rename_i s id ep off len cap
    right; right
    simp only [lenSV, Option.some.injEq] at h2
    subst h2
    split at h1
    · rename_i s' azs epo fl ho
      split at h1
      · rename_i hc
        injection h1 with h1
        obtain ⟨rfl, hf⟩ := hc
        refine ⟨id, ep, off, cap, s', azs, epo, fl, rfl, ho, hf, h1.symm, fun h0 => ?_, ?_⟩
        · have := congrArg List.length h1
          simp only [List.length_take, List.length_drop] at this
          omega
        · cases cap with
          | none => exact Nat.le_refl _
          | some c => exact h3 _ _ _ _ _ _ rfl
      · cases h1
    · cases h1
  · rename_i t full s es'
    right; left
    split at h1
    · rename_i hc; subst hc; injection h1 with h1; subst h1; exact ⟨t, full, rfl⟩
    · cases h1

theorem SlOf.keep (h : SlOf σ sz v es) (hk : ∀ id, v.sid = some id → σ'[id]? = σ[id]?) : SlOf σ' sz v es := by
  refine ⟨?_, h.len, h.cap⟩
  rw [← h.els]
  cases v <;> try rfl
  rename_i s id ep off len cap
  simp only [elems, hk id rfl]

theorem SlOf.grow (h : SlOf σ sz v es) (hk : Grows σ σ') : SlOf σ' sz v es := by
  refine h.keep fun id hid => ?_
  rcases h.cases with ⟨rfl, _⟩ | ⟨t, full, rfl⟩ | ⟨id', ep, off, cap, sz', azs, epo, fl, rfl, ho, _⟩
  · cases hid
  · cases hid
  · injection hid with hid; subst hid
    rw [hk.get ho, ho]

theorem SlOf.lt (h : SlOf σ sz v es) {id : Nat} (hid : v.sid = some id) : id < σ.length := by
  rcases h.cases with ⟨rfl, _⟩ | ⟨t, full, rfl⟩ | ⟨id', ep, off, cap, sz', azs, epo, fl, rfl, ho, _⟩
  · cases hid
  · cases hid
  · injection hid with hid; subst hid; exact (List.getElem?_eq_some_iff.1 ho).1

theorem SlOf.keeps {M : Nat → Prop} (h : SlOf σ sz v es) (hk : Keeps M σ σ') (hm : ∀ id, v.sid = some id → ¬ M id) : SlOf σ' sz v es :=
  h.keep fun id hid => hk.2 id (h.lt hid) (hm id hid)

/-- an element's place, and what lies there -/
theorem SlOf.addr (h : SlOf σ sz v es) {i : Nat} (hi : i < es.length) (k : IntKind) : iaddrV sz v (.int k i) = some (addrOf sz v i) ∧ behind σ (addrOf sz v i) = some ((es[i]).cells, 0) := by
  rcases h.cases with ⟨rfl, rfl⟩ | ⟨t, full, rfl⟩ | ⟨id, ep, off, cap, sz', azs, epo, fl, rfl, ho, hf, he, hl, hcp⟩
  · simp at hi
  · simp [addrOf, iaddrV, List.getElem?_eq_getElem hi]
  · have h2 : off + i < azs.length := by have := hl (by omega); omega
    have h3 : es[i] = azs[off + i] := by
      have h4 : es[i]? = azs[off + i]? := by rw [he, List.getElem?_take_of_lt hi, List.getElem?_drop]
      rw [List.getElem?_eq_getElem hi, List.getElem?_eq_getElem h2] at h4
      exact Option.some.inj h4
    simp [addrOf, iaddrV, hi, ho, hf, List.getElem?_eq_getElem h2, h3]

theorem SlOf.iaddr (h : SlOf σ sz v es) {i : Nat} (hi : i < es.length) (k : IntKind) : iaddrV sz v (.int k i) = some (addrOf sz v i) := (h.addr hi k).1
theorem SlOf.load (h : SlOf σ sz v es) {i : Nat} (hi : i < es.length) (n : Nat) (agg : Bool) : loadV σ n agg (addrOf sz v i) = ld (es[i]).cells 0 n agg := by
  simp only [loadV, (h.addr hi .i64).2]
theorem SlOf.load1 (h : SlOf σ sz v es) {i : Nat} (hi : i < es.length) (h1 : (es[i]).one = true) (n : Nat) : loadV σ n false (addrOf sz v i) = some es[i] := by
  rw [h.load hi]
  cases he : es[i] <;> simp_all [AVal.one]
theorem SlOf.loadA (h : SlOf σ sz v es) {i : Nat} (hi : i < es.length) {cs : List AVal} (h1 : es[i] = .agg cs) : loadV σ cs.length true (addrOf sz v i) = some (.agg cs) := by
  rw [h.load hi, h1]; simp

/-- a part of a slice -/
theorem SlOf.sub (h : SlOf σ sz v es) {lo hi : Nat} (h1 : lo ≤ hi) (h2 : hi ≤ es.length) (k j : IntKind) : ∃ v', sliceV sz v (some (.int k lo)) (some (.int j hi)) none = some v' ∧ SlOf σ sz v' ((es.take hi).drop lo) ∧ (∀ id, v'.sid = some id → v.sid = some id) := by
  rcases h.cases with ⟨rfl, rfl⟩ | ⟨t, full, rfl⟩ | ⟨id, ep, off, cap, sz', azs, epo, fl, rfl, ho, hf, he, hl, hcp⟩
  · have : hi = 0 := by simpa using h2
    subst this
    have : lo = 0 := by omega
    subst this
    exact ⟨.nilslice, by simp, by simpa using SlOf.nil σ sz, fun id h => by cases h⟩
  · refine ⟨.fslice t (full && hi == es.length) sz ((es.take hi).drop lo), ?_, SlOf.fs _ _ _ _ _, fun id h => by cases h⟩
    have e1 : (0 : Int) ≤ (lo : Int) ∧ (lo : Int) ≤ (hi : Int) := by omega
    have e2 : (0 : Int) ≤ (hi : Int) ∧ (hi : Int) ≤ (es.length : Int) := by omega
    simp [sliceV, e1, e2]
  · refine ⟨.slice sz id ep (off + lo) (hi - lo) (cap.map (· - lo)), ?_, ⟨?_, ?_, ?_⟩, fun i hid => by simpa [AVal.sid] using hid⟩
    · have e1 : (0 : Int) ≤ (lo : Int) ∧ (lo : Int) ≤ (hi : Int) := by omega
      have e2 : (0 : Int) ≤ (hi : Int) ∧ (hi : Int) ≤ (es.length : Int) := by omega
      have e3 : (0 : Int) ≤ (hi : Int) ∧ (hi : Int) ≤ ((cap.getD es.length : Nat) : Int) := by omega
      simp [sliceV, e1, e2, e3]
    · simp only [elems, ho, hf, and_self, if_true]
      congr 1
      conv => rhs; rw [he]
      rw [List.take_take, Nat.min_eq_left h2, List.drop_take, List.drop_drop]
    · simp [lenSV]; omega
    · intro s id' ep' off' len c hc
      injection hc with _ _ _ _ e5 e6
      cases cap with
      | none => cases e6
      | some c' =>
        simp only [Option.map_some, Option.some.injEq] at e6
        simp only [Option.getD_some] at hcp
        omega

theorem obnd_some (d y : Nat) {n : Nat} (k : IntKind) (h : n ≤ y) : obnd d y (some (.int k n)) = some n := by
  have e : (0 : Int) ≤ (n : Int) ∧ (n : Int) ≤ (y : Int) := by omega
  simp [obnd, bnd, e]

theorem obnd_none (d y : Nat) : obnd d y none = some d := rfl

theorem SlOf.sub_lo (h : SlOf σ sz v es) {lo : Nat} (h1 : lo ≤ es.length) (k : IntKind) : ∃ v', sliceV sz v (some (.int k lo)) none none = some v' ∧ SlOf σ sz v' (es.drop lo) ∧ (∀ id, v'.sid = some id → v.sid = some id) := by
  obtain ⟨v', h2, h3, h4⟩ := h.sub h1 (Nat.le_refl _) k .i64
  refine ⟨v', ?_, by simpa using h3, h4⟩
  rw [← h2]
  rcases h.cases with ⟨rfl, rfl⟩ | ⟨t, full, rfl⟩ | ⟨id, ep, off, cap, sz', azs, epo, fl, rfl, ho, hf, he, hl, hcp⟩
  · simp [sliceV]
  · simp only [sliceV, obnd_none, obnd_some _ _ _ (Nat.le_refl es.length)]
  · simp only [sliceV, obnd_none, obnd_some _ _ _ hcp]

theorem SlOf.sub_hi (h : SlOf σ sz v es) {hi : Nat} (h1 : hi ≤ es.length) (k : IntKind) : ∃ v', sliceV sz v none (some (.int k hi)) none = some v' ∧ SlOf σ sz v' (es.take hi) ∧ (∀ id, v'.sid = some id → v.sid = some id) := by
  obtain ⟨v', h2, h3, h4⟩ := h.sub (Nat.zero_le hi) h1 .i64 k
  refine ⟨v', ?_, by simpa using h3, h4⟩
  rw [← h2]
  rcases h.cases with ⟨rfl, rfl⟩ | ⟨t, full, rfl⟩ | ⟨id, ep, off, cap, sz', azs, epo, fl, rfl, ho, hf, he, hl, hcp⟩ <;> simp [sliceV]

/-- .. with its capacity cut to its length -/
theorem SlOf.sub3 (h : SlOf σ sz v es) {lo hi : Nat} (h1 : lo ≤ hi) (h2 : hi ≤ es.length) (k j l : IntKind) : ∃ v', sliceV sz v (some (.int k lo)) (some (.int j hi)) (some (.int l hi)) = some v' ∧ SlOf σ sz v' ((es.take hi).drop lo) ∧ (∀ id, v'.sid = some id → v.sid = some id) := by
  rcases h.cases with ⟨rfl, rfl⟩ | ⟨t, full, rfl⟩ | ⟨id, ep, off, cap, sz', azs, epo, fl, rfl, ho, hf, he, hl, hcp⟩
  · have : hi = 0 := by simpa using h2
    subst this
    have : lo = 0 := by omega
    subst this
    exact ⟨.nilslice, by simp, by simpa using SlOf.nil σ sz, fun id h => by cases h⟩
  · refine ⟨.fslice t true sz ((es.take hi).drop lo), ?_, SlOf.fs _ _ _ _ _, fun id h => by cases h⟩
    simp only [sliceV, if_true, obnd_some _ _ _ h2, obnd_some _ _ _ h1, obnd_some _ _ _ (Nat.le_refl hi)]
    simp
  · refine ⟨.slice sz id ep (off + lo) (hi - lo) (some (hi - lo)), ?_, ⟨?_, ?_, ?_⟩, fun i hid => by simpa [AVal.sid] using hid⟩
    · simp only [sliceV, if_true, obnd_some _ _ _ (Nat.le_trans h2 hcp), obnd_some _ _ _ h1, obnd_some _ _ _ (Nat.le_refl hi)]
      simp
    · simp only [elems, ho, hf, and_self, if_true]
      congr 1
      conv => rhs; rw [he]
      rw [List.take_take, Nat.min_eq_left h2, List.drop_take, List.drop_drop]
    · simp [lenSV]; omega
    · intro s id' ep' off' len c hc
      injection hc with _ _ _ _ e5 e6
      injection e6 with e6
      omega

/-- a slice that can be appended to: it is a whole array of its own, or has no room behind it -/
structure Own (σ : Store) (sz : Nat) (v : AVal) (es : List AVal) : Prop where
  own : (v = .nilslice ∧ es = []) ∨ (∃ t, v = .fslice t true sz es) ∨
    ∃ id ep off cap azs' epo fl, v = .slice sz id ep off es.length cap ∧ σ[id]? = some (.arr sz azs' epo fl) ∧ fl ≤ ep ∧ es = (azs'.drop off).take es.length ∧ (0 < es.length → off + es.length ≤ azs'.length) ∧
      ((cap = none ∧ off = 0 ∧ azs' = es ∧ epo = ep) ∨ cap = some es.length)

theorem Own.nil (σ : Store) (sz : Nat) : Own σ sz .nilslice [] := ⟨.inl ⟨rfl, rfl⟩⟩
theorem Own.lit (σ : Store) (sz t : Nat) (es : List AVal) : Own σ sz (.fslice t true sz es) es := ⟨.inr (.inl ⟨t, rfl⟩)⟩
theorem Own.whole {σ : Store} {sz id ep fl : Nat} {es : List AVal} (h : σ[id]? = some (.arr sz es ep fl)) (hf : fl ≤ ep) : Own σ sz (.slice sz id ep 0 es.length none) es :=
  ⟨.inr (.inr ⟨id, ep, 0, none, es, ep, fl, rfl, h, hf, by simp, fun _ => by simp, .inl ⟨rfl, rfl, rfl, rfl⟩⟩)⟩
theorem Own.sl (h : Own σ sz v es) : SlOf σ sz v es := by
  rcases h.own with ⟨rfl, rfl⟩ | ⟨t, rfl⟩ | ⟨id, ep, off, cap, xs, epo, fl, rfl, ho, hf, he, hl, hc⟩
  · exact SlOf.nil _ _
  · exact SlOf.fs _ _ _ _ _
  · refine ⟨by simp [ho, hf]; exact he.symm, rfl, fun s id' ep' off' len c hc' => ?_⟩
    injection hc' with _ _ _ _ e5 e6
    rcases hc with ⟨rfl, _⟩ | rfl
    · cases e6
    · injection e6 with e6; omega
theorem Own.keep (h : Own σ sz v es) (hk : ∀ id, v.sid = some id → σ'[id]? = σ[id]?) : Own σ' sz v es := by
  rcases h.own with ⟨rfl, rfl⟩ | ⟨t, rfl⟩ | ⟨id, ep, off, cap, xs, epo, fl, rfl, ho, hr⟩
  · exact ⟨.inl ⟨rfl, rfl⟩⟩
  · exact ⟨.inr (.inl ⟨t, rfl⟩)⟩
  · exact ⟨.inr (.inr ⟨id, ep, off, cap, xs, epo, fl, rfl, by rw [hk id rfl]; exact ho, hr⟩)⟩
theorem Own.keeps {M : Nat → Prop} (h : Own σ sz v es) (hk : Keeps M σ σ') (hm : ∀ id, v.sid = some id → ¬ M id) : Own σ' sz v es :=
  h.keep fun id hid => hk.2 id (h.sl.lt hid) (hm id hid)
theorem Own.grow (h : Own σ sz v es) (hk : Grows σ σ') : Own σ' sz v es := h.keeps hk fun _ _ h => h

/-- not a literal that holds something, and of no capacity that is told: it can be written to -/
def NoLit : AVal → Prop
  | .fslice _ _ _ es => es = []
  | .slice _ _ _ _ _ (some _) => False
  | _ => True

theorem Own.append (h : Own σ sz v es) (ys : List AVal) (bytes : Nat) (hb : (es.length + ys.length) * bytes ≤ 70368744177664) :
    ∃ v' σ', appendV σ sz bytes v ys = some (v', σ') ∧ Own σ' sz v' (es ++ ys) ∧ Keeps (fun i => v.sid = some i) σ σ' ∧ (∀ id, v'.sid = some id → v.sid = some id ∨ id = σ.length) ∧ (NoLit v ∨ ys ≠ [] → NoLit v') := by
  cases ys with
  | nil =>
    refine ⟨v, σ, ?_, by simpa using h, Keeps.refl _ _, fun id h => .inl h, fun h => h.resolve_right (fun h => h rfl)⟩
    rcases h.own with ⟨rfl, rfl⟩ | ⟨t, rfl⟩ | ⟨id, ep, off, cap, xs, epo, fl, rfl, _⟩ <;> simp
  | cons y ys =>
    have hb' : (es.length + (y :: ys).length) * bytes ≤ apLim := hb
    have new : ∀ zs : List AVal, zs = es ++ y :: ys → Own (σ ++ [.arr sz zs 0 0]) sz (.slice sz σ.length 0 0 zs.length none) (es ++ y :: ys) := fun zs hz => by
      subst hz; exact Own.whole (by simp) (Nat.le_refl 0)
    have frs : ∀ {len : Nat} (id : Nat), (AVal.slice sz σ.length 0 0 len none).sid = some id → v.sid = some id ∨ id = σ.length := fun id h => .inr (by simpa [AVal.sid] using h.symm)
    rcases h.own with ⟨rfl, rfl⟩ | ⟨t, rfl⟩ | ⟨id, ep, off, cap, xs, epo, fl, rfl, ho, hf, he, hl, hc⟩
    · refine ⟨.slice sz σ.length 0 0 (y :: ys).length none, σ ++ [.arr sz (y :: ys) 0 0], ?_, new _ rfl, (Grows.app _ _).any, frs, fun _ => trivial⟩
      simp only [List.length_nil, Nat.zero_add] at hb'
      simp only [appendV, growV, List.isEmpty_cons, Bool.false_eq_true, if_false, if_pos hb']
    · refine ⟨.slice sz σ.length 0 0 (es ++ y :: ys).length none, σ ++ [.arr sz (es ++ y :: ys) 0 0], ?_, new _ rfl, (Grows.app _ _).any, frs, fun _ => trivial⟩
      simp only [appendV, growV, List.isEmpty_cons, Bool.false_eq_true, if_false, hb', and_self, if_true, List.length_append]
    · rcases hc with ⟨rfl, rfl, rfl, rfl⟩ | rfl
      · refine ⟨.slice sz id (epo + 1) 0 (xs ++ y :: ys).length none, σ.set id (.arr sz (xs ++ y :: ys) (epo + 1) fl), ?_, Own.whole (by rw [List.getElem?_set_self (List.getElem?_eq_some_iff.1 ho).1]) (by omega), (Keeps.set _ _ _).mono fun i _ h => by rw [h]; rfl, fun i h => .inl (by simpa [AVal.sid] using h), fun _ => trivial⟩
        have e1 : (Option.none.getD (xs.length - 0)) < xs.length + (y :: ys).length := by simp
        simp only [appendV, growV, List.isEmpty_cons, Bool.false_eq_true, if_false, ho, hb', hf, and_self, if_true, e1, List.length_append]
      · have ht : ((xs.drop off).take es.length ++ y :: ys) = es ++ y :: ys := by rw [← he]
        refine ⟨.slice sz σ.length 0 0 (es ++ y :: ys).length none, σ ++ [.arr sz (es ++ y :: ys) 0 0], ?_, new _ rfl, (Grows.app _ _).any, frs, fun _ => trivial⟩
        have e1 : ((some es.length).getD (xs.length - off)) < es.length + (y :: ys).length := by simp
        simp only [appendV, growV, List.isEmpty_cons, Bool.false_eq_true, if_false, ho, hb', hf, and_self, if_true, e1, ht, List.length_append]

/-- what is looked at stays as it is when something is appended -/
theorem Own.append_view (h : Own σ sz v es) {ys : List AVal} {bytes : Nat} {v' : AVal} {σ' : Store} (ha : appendV σ sz bytes v ys = some (v', σ')) {sz' : Nat} {u : AVal} {us : List AVal} (hu : SlOf σ sz' u us) : SlOf σ' sz' u us := by
  cases ys with
  | nil =>
    have : σ' = σ := by
      simp only [appendV, List.isEmpty_nil, if_true] at ha
      split at ha
      · injection ha with ha; injection ha with _ h2; exact h2.symm
      · cases ha
    rw [this]; exact hu
  | cons y ys =>
    rcases h.own with ⟨rfl, rfl⟩ | ⟨t, rfl⟩ | ⟨id, ep, off, cap, xs, epo, fl, rfl, ho, hf, he, hl, hc⟩
    · simp only [appendV, growV, List.isEmpty_cons, Bool.false_eq_true, if_false] at ha
      split at ha
      · injection ha with ha; injection ha with _ h2; subst h2; exact hu.grow (Grows.app _ _)
      · cases ha
    · simp only [appendV, growV, List.isEmpty_cons, Bool.false_eq_true, if_false] at ha
      split at ha
      · injection ha with ha; injection ha with _ h2; subst h2; exact hu.grow (Grows.app _ _)
      · cases ha
    · simp only [appendV, growV, List.isEmpty_cons, Bool.false_eq_true, if_false, ho] at ha
      have hlt := (List.getElem?_eq_some_iff.1 ho).1
      rcases hc with ⟨rfl, rfl, rfl, rfl⟩ | rfl
      · split at ha
        · have e1 : (Option.none.getD (xs.length - 0)) < xs.length + (y :: ys).length := by simp
          rw [if_pos e1] at ha
          simp only [and_self, if_true] at ha
          injection ha with ha; injection ha with _ h2
          subst h2
          by_cases hs : u.sid = some id
          · rcases hu.cases with ⟨rfl, rfl⟩ | ⟨t, full, rfl⟩ | ⟨id', ep', off', cap', sz2, zs, epo', fl', rfl, ho', hf', he', hl', hcp'⟩
            · exact SlOf.nil _ _
            · exact SlOf.fs _ _ _ _ _
            · injection hs with hs
              subst hs
              rw [ho] at ho'
              injection ho' with ho'
              injection ho' with _ e2 _ e4
              subst e2; subst e4
              refine ⟨?_, rfl, hu.cap⟩
              simp only [elems, List.getElem?_set_self hlt, hf', and_self, if_true]
              congr 1
              rw [he']
              by_cases h0 : us.length = 0
              · rw [h0]; simp
              · have := hl' (by omega)
                simp only [List.length_take, List.length_drop]
                rw [List.drop_append_of_le_length (by omega), List.take_append_of_le_length (by simp; omega), Nat.min_eq_left (by omega)]
          · exact hu.keeps (Keeps.set _ _ _) fun i hi e => hs (by rw [hi, e])
        · cases ha
      · split at ha
        · have e1 : ((some es.length).getD (xs.length - off)) < es.length + (y :: ys).length := by simp
          rw [if_pos e1] at ha
          simp only at ha
          injection ha with ha; injection ha with _ h2
          subst h2
          exact hu.grow (Grows.app _ _)
        · cases ha

theorem Own.store (h : Own σ sz v es) (hn : NoLit v) {i : Nat} (hi : i < es.length) {x : AVal} (hx : x.cells.all AVal.one = true) (hxl : x.cells.length = sz) (hel : (es[i]).cells.length = sz) (hre : (es[i]).reform x.cells = x) :
    ∃ σ', storeV σ sz (addrOf sz v i) x = some σ' ∧ Own σ' sz v (es.set i x) ∧ Keeps (fun j => v.sid = some j) σ σ' ∧ σ'.length = σ.length := by
  rcases h.own with ⟨rfl, rfl⟩ | ⟨t, rfl⟩ | ⟨id, ep, off, cap, xs, epo, fl, rfl, ho, hf, he, hl, hc⟩
  · simp at hi
  · have : es = [] := hn
    subst this; simp at hi
  · rcases hc with ⟨rfl, rfl, rfl, rfl⟩ | rfl
    · have ha : addrOf sz (.slice sz id epo 0 xs.length none) i = .eptr id epo i 0 := by
        have e : (0 : Int) ≤ (i : Int) ∧ (i : Int) < (xs.length : Int) := by omega
        simp [addrOf, iaddrV, e]
      have hsp : splice (xs[i]).cells 0 x.cells = x.cells := by
        simp only [splice, List.take_zero, List.nil_append, Nat.zero_add]
        rw [List.drop_eq_nil_of_le (by omega), List.append_nil]
      refine ⟨σ.set id (.arr sz (xs.set i x) epo epo), ?_, ?_, (Keeps.set _ _ _).mono fun j _ h => by rw [h]; rfl, by simp⟩
      · rw [ha]
        simp only [storeV, hxl, hx, and_self, if_true, ho, List.getElem?_eq_getElem hi, hsp, hre, Nat.zero_add]
        rw [if_pos ⟨trivial, by omega⟩]
      · have := Own.whole (σ := σ.set id (.arr sz (xs.set i x) epo epo)) (sz := sz) (id := id) (ep := epo) (fl := epo) (es := xs.set i x) (by rw [List.getElem?_set_self (List.getElem?_eq_some_iff.1 ho).1]) (Nat.le_refl _)
        simpa using this
    · exact hn.elim

/-- a slice whose capacity is cut to its length -/
theorem Own.sub3 (h : Own σ sz v es) {lo hi : Nat} (h1 : lo ≤ hi) (h2 : hi ≤ es.length) (k j l : IntKind) (lo' : Option AVal) (hlo : lo' = some (.int k lo) ∨ (lo' = none ∧ lo = 0)) :
    ∃ v', sliceV sz v lo' (some (.int j hi)) (some (.int l hi)) = some v' ∧ Own σ sz v' ((es.take hi).drop lo) ∧ (∀ id, v'.sid = some id → v.sid = some id) := by
  have hob : ∀ y, lo ≤ y → obnd 0 y lo' = some lo := fun y hy => by
    rcases hlo with rfl | ⟨rfl, rfl⟩
    · exact obnd_some _ _ _ hy
    · rfl
  rcases h.own with ⟨rfl, rfl⟩ | ⟨t, rfl⟩ | ⟨id, ep, off, cap, xs, epo, fl, rfl, ho, hf, he, hl, hc⟩
  · have : hi = 0 := by simpa using h2
    subst this
    have : lo = 0 := by omega
    subst this
    refine ⟨.nilslice, ?_, by simpa using Own.nil σ sz, fun id h => by cases h⟩
    simp only [sliceV, obnd_some _ _ _ (Nat.le_refl 0), hob 0 (Nat.le_refl 0)]
  · refine ⟨.fslice t true sz ((es.take hi).drop lo), ?_, Own.lit _ _ _ _, fun id h => by cases h⟩
    simp only [sliceV, if_true, obnd_some _ _ _ h2, hob _ h1, obnd_some _ _ _ (Nat.le_refl hi)]
    simp
  · have hcp : es.length ≤ cap.getD es.length := by rcases hc with ⟨rfl, _⟩ | rfl <;> simp
    have hlen : ((es.take hi).drop lo).length = hi - lo := by simp; omega
    refine ⟨.slice sz id ep (off + lo) (hi - lo) (some (hi - lo)), ?_, ⟨.inr (.inr ⟨id, ep, off + lo, some (hi - lo), xs, epo, fl, by rw [hlen], ho, hf, ?_, fun hp => ?_, .inr (by rw [hlen])⟩)⟩, fun i hid => by simpa [AVal.sid] using hid⟩
    · simp only [sliceV, if_true, obnd_some _ _ _ (Nat.le_trans h2 hcp), hob _ h1, obnd_some _ _ _ (Nat.le_refl hi)]
      simp
    · rw [hlen]
      conv => lhs; rw [he]
      rw [List.take_take, Nat.min_eq_left h2, List.drop_take, List.drop_drop]
    · rw [hlen] at hp ⊢
      have := hl (by omega)
      omega
end
end Go.Proofs.YtkjnanfkclijcaaDoor.Am

/-
  THE ABSTRACT MACHINE, part 34: rows of lists, each its own.
-/
namespace Go.Proofs.YtkjnanfkclijcaaDoor.Am
open Go
set_option linter.unusedVariables false
set_option linter.unusedSimpArgs false

def Fresh (n : Nat) (v : AVal) : Prop := ∀ id, v.sid = some id → n ≤ id
theorem Fresh.le {n m : Nat} {v : AVal} (h : Fresh n v) (hm : m ≤ n) : Fresh m v := fun id hid => Nat.le_trans hm (h id hid)
theorem Fresh.nil (n : Nat) : Fresh n .nilslice := fun id h => by cases h

/-- a row of lists: the row, and each of its lists, is its own, and made since lo; es: the lists as values; ps: what they hold -/
structure ORows (σ : Store) (lo sz : Nat) (l : AVal) (es : List AVal) (ps : List (List AVal)) : Prop where
  row : Own σ 1 l es
  len : es.length = ps.length
  one : ∀ (i : Nat) (e : AVal) (p : List AVal), es[i]? = some e → ps[i]? = some p → Own σ sz e p
  frs : ∀ (i : Nat) (e : AVal), es[i]? = some e → Fresh lo e
  frl : Fresh lo l
  apart : ∀ (i j : Nat) (e e' : AVal) (id : Nat), es[i]? = some e → es[j]? = some e' → e.sid = some id → e'.sid = some id → i = j
  off : ∀ (i : Nat) (e : AVal) (id : Nat), es[i]? = some e → e.sid = some id → l.sid ≠ some id
  lit : ∀ (i : Nat) (e : AVal), es[i]? = some e → NoLit e
  litl : NoLit l

theorem ORows.nil (σ : Store) (lo sz : Nat) : ORows σ lo sz .nilslice [] [] :=
  ⟨Own.nil _ _, rfl, fun i e p h => by simp at h, fun i e h => by simp at h, Fresh.nil _, fun i j e e' id h => by simp at h, fun i e id h => by simp at h, fun i e h => by simp at h, trivial⟩

theorem ORows.lt {σ : Store} {lo sz : Nat} {l : AVal} {es : List AVal} {ps : List (List AVal)} (h : ORows σ lo sz l es ps) {i : Nat} {e : AVal} (hi : es[i]? = some e) {id : Nat} (hid : e.sid = some id) : id < σ.length := by
  have hlt := (List.getElem?_eq_some_iff.1 hi).1
  have := h.one i e (ps[i]'(by rw [← h.len]; exact hlt)) hi (List.getElem?_eq_getElem _)
  exact this.sl.lt hid

theorem ORows.grow {σ σ' : Store} {lo sz : Nat} {l : AVal} {es : List AVal} {ps : List (List AVal)} (h : ORows σ lo sz l es ps) (g : Grows σ σ') : ORows σ' lo sz l es ps :=
  ⟨h.row.grow g, h.len, fun i e p h1 h2 => (h.one i e p h1 h2).grow g, h.frs, h.frl, h.apart, h.off, h.lit, h.litl⟩

theorem ORows.push {σ σ1 : Store} {lo sz : Nat} {l : AVal} {es : List AVal} {ps : List (List AVal)} (h : ORows σ lo sz l es ps) (hlo : lo ≤ σ.length) (g : Grows σ σ1) {e : AVal} {p : List AVal} (he : Own σ1 sz e p) (fe : Fresh σ.length e) (le : NoLit e)
    (bytes : Nat) (hb : (es.length + 1) * bytes ≤ 70368744177664) :
    ∃ l' σ2, appendV σ1 1 bytes l [e] = some (l', σ2) ∧ ORows σ2 lo sz l' (es ++ [e]) (ps ++ [p]) ∧ Keeps (fun i => lo ≤ i) σ1 σ2 := by
  obtain ⟨l', σ2, h1, h2, h3, h4, h5⟩ := (h.row.grow g).append [e] bytes hb
  have old : ∀ (i : Nat) (x : AVal), (es ++ [e])[i]? = some x → (es[i]? = some x ∧ i < es.length) ∨ (i = es.length ∧ x = e) := by
    intro i x hx
    rw [List.getElem?_append] at hx
    split at hx
    · rename_i hlt; exact .inl ⟨hx, hlt⟩
    · rename_i hlt
      rw [List.getElem?_singleton] at hx
      split at hx
      · injection hx with hx; exact .inr ⟨by omega, hx.symm⟩
      · cases hx
  have hll : ∀ id, l.sid = some id → id < σ.length := fun id hid => h.row.sl.lt hid
  have hx1 : ∀ (i : Nat) (x : AVal) (id : Nat), (es ++ [e])[i]? = some x → x.sid = some id → id < σ1.length ∧ l.sid ≠ some id := by
    intro i x id hx hid
    rcases old i x hx with ⟨hx, _⟩ | ⟨_, rfl⟩
    · exact ⟨Nat.lt_of_lt_of_le (h.lt hx hid) g.1, h.off i x id hx hid⟩
    · exact ⟨he.sl.lt hid, fun hl => by have := fe id hid; have := hll id hl; omega⟩
  refine ⟨l', σ2, h1, ⟨h2, by simp [h.len], ?_, ?_, ?_, ?_, ?_, ?_, h5 (.inr (by simp))⟩, h3.mono fun i hi hs => h.frl i hs⟩
  · intro i x q hx hq
    refine Own.keeps (σ := σ1) ?_ h3 fun id hid => (hx1 i x id hx hid).2
    rcases old i x hx with ⟨hx, hlt⟩ | ⟨rfl, rfl⟩
    · rw [List.getElem?_append_left (by rw [← h.len]; exact hlt)] at hq
      exact (h.one i x q hx hq).grow g
    · rw [h.len, List.getElem?_append_right (Nat.le_refl _), Nat.sub_self] at hq
      simp at hq; subst hq; exact he
  · intro i x hx
    rcases old i x hx with ⟨hx, _⟩ | ⟨_, rfl⟩
    · exact h.frs i x hx
    · exact fe.le hlo
  · intro id hid
    rcases h4 id hid with hh | hh
    · exact h.frl id hh
    · have := g.1; omega
  · intro i j x y id hx hy hxi hyi
    rcases old i x hx with ⟨hx', hil⟩ | ⟨hi, hxe⟩ <;> rcases old j y hy with ⟨hy', hjl⟩ | ⟨hj, hye⟩
    · exact h.apart i j x y id hx' hy' hxi hyi
    · rw [hye] at hyi; have := h.lt hx' hxi; have := fe id hyi; omega
    · rw [hxe] at hxi; have := h.lt hy' hyi; have := fe id hxi; omega
    · omega
  · intro i x id hx hid hl
    obtain ⟨k1, k2⟩ := hx1 i x id hx hid
    rcases h4 id hl with hh | hh
    · exact k2 hh
    · omega
  · intro i x hx
    rcases old i x hx with ⟨hx, _⟩ | ⟨_, rfl⟩
    · exact h.lit i x hx
    · exact le

theorem lit_elems (σ : Store) (sz : Nat) (es : List AVal) (n : Nat) (h : es.length = n) : elems sz (σ ++ [.arr sz es 0 0]) (.slice sz σ.length 0 0 n (some n)) = some es := by
  subst h; simp

/-- bytes as elements -/
def B (bs : List UInt8) : List AVal := bs.map fun b => .int .u8 b.toNat
theorem B_len (bs : List UInt8) : (B bs).length = bs.length := by simp [B]
theorem B_get (bs : List UInt8) (i : Nat) (h : i < (B bs).length) : (B bs)[i] = .int .u8 (bs[i]'(by simpa [B] using h)).toNat := by simp [B]
theorem B_drop (bs : List UInt8) (n : Nat) : (B bs).drop n = B (bs.drop n) := by simp [B, List.map_drop]
theorem B_take (bs : List UInt8) (n : Nat) : (B bs).take n = B (bs.take n) := by simp [B, List.map_take]
theorem B_app (a b : List UInt8) : B a ++ B b = B (a ++ b) := by simp [B]

theorem B_inj {a b : List UInt8} (h : B a = B b) : a = b := by
  have e : ∀ (a b : UInt8), AVal.int .u8 a.toNat = AVal.int .u8 b.toNat → a = b := fun a b h => by
    injection h with _ h
    exact UInt8.toNat_inj.1 (by omega)
  exact List.map_inj_right (fun x y h => e x y h) |>.1 h



/-- a row of lists, to be looked at -/
structure SRows (σ : Store) (sz : Nat) (l : AVal) (es : List AVal) (ps : List (List AVal)) : Prop where
  row : SlOf σ 1 l es
  len : es.length = ps.length
  one : ∀ (i : Nat) (e : AVal) (p : List AVal), es[i]? = some e → ps[i]? = some p → SlOf σ sz e p

theorem ORows.srows {σ : Store} {lo sz : Nat} {l : AVal} {es : List AVal} {ps : List (List AVal)} (h : ORows σ lo sz l es ps) : SRows σ sz l es ps :=
  ⟨h.row.sl, h.len, fun i e p h1 h2 => (h.one i e p h1 h2).sl⟩
theorem SRows.grow {σ σ' : Store} {sz : Nat} {l : AVal} {es : List AVal} {ps : List (List AVal)} (h : SRows σ sz l es ps) (g : Grows σ σ') : SRows σ' sz l es ps :=
  ⟨h.row.grow g, h.len, fun i e p h1 h2 => (h.one i e p h1 h2).grow g⟩
theorem SlOf.one {σ : Store} {sz : Nat} {v : AVal} {es : List AVal} (h : SlOf σ sz v es) : v.one = true := by
  rcases h.cases with ⟨rfl, rfl⟩ | ⟨t, full, rfl⟩ | ⟨id, ep, off, cap, sz', xs, epo, fl, rfl, _⟩ <;> rfl
theorem SRows.at {σ : Store} {sz : Nat} {l : AVal} {es : List AVal} {ps : List (List UInt8)} (h : SRows σ sz l es (ps.map B)) {i : Nat} (hi : i < ps.length) :
    ∃ e, iaddrV 1 l (.int .i64 i) = some (addrOf 1 l i) ∧ loadV σ 1 false (addrOf 1 l i) = some e ∧ SlOf σ sz e (B (ps[i])) := by
  have hl : i < es.length := by rw [h.len]; simpa using hi
  have ho := h.one i es[i] (B ps[i]) (List.getElem?_eq_getElem hl) (by simp [List.getElem?_eq_getElem hi])
  exact ⟨es[i], h.row.iaddr hl .i64, h.row.load1 hl ho.one 1, ho⟩
theorem SRows.take {σ : Store} {sz : Nat} {l : AVal} {es : List AVal} {ps : List (List AVal)} (h : SRows σ sz l es ps) {n : Nat} (hn : n ≤ ps.length) (k : IntKind) :
    ∃ l', sliceV 1 l none (some (.int k n)) none = some l' ∧ SRows σ sz l' (es.take n) (ps.take n) := by
  obtain ⟨l', h1, h2, _⟩ := h.row.sub_hi (hi := n) (by rw [h.len]; exact hn) k
  refine ⟨l', h1, h2, by simp [h.len], fun i e p he hp => ?_⟩
  rw [List.getElem?_take] at he hp
  split at he
  · rename_i hi
    rw [if_pos hi] at hp
    exact h.one i e p he hp
  · cases he

end Go.Proofs.YtkjnanfkclijcaaDoor.Am

/-
  THE ABSTRACT MACHINE, part 36: a law's arguments, by their types.
-/
namespace Go.Proofs.YtkjnanfkclijcaaDoor.Am
open Go Go.RowKit Go.ChangeShapes Go.WideShapes Go.ChangeAt Go.Proofs.YtkjnanfkclijcaaDoor.Rows
set_option linter.unusedVariables false
set_option linter.unusedSimpArgs false

def argV {H : Type} (P : Program) (n : Nat) (t : TypeId) (d : DataW H) : AVal := elv P t (dec P n t d)

section
variable {P : Program} {cf : FuncId → FuncId} {W : World} {H : Type} {enc : TypeId × Value → H} {base : Nat}

theorem arg_read {n : Nat} {t : TypeId} {v : Value} {d : DataW H} {ps : List MemPlace} (hr : rdT P n t = true) (hval : Value.okWide P W .any base t v) (h : DataW.Trod enc P W 0 (fun _ => true) true t v d ps) :
    (startK W).V startE cf (argV P n t d) v ∧ Typed P n t d := by
  obtain ⟨fuel, hf⟩ := h
  obtain ⟨g, gt⟩ := read_dec (cf := cf) n hr hf
  refine ⟨?_, gt⟩
  have up : ∀ {a : AVal} {c : Value}, VRel cf W.heap ((startK W).safe startE) noIds a c → (startK W).V startE cf a c := fun h => VRel.mono (fun _ _ h => ⟨h, rfl⟩) (noIds_le _) h
  unfold argV elv
  cases ha : aggB P t with
  | true =>
    have hag : ∃ cs, v = .agg cs := by
      unfold Value.okWide at hval
      unfold aggB at ha
      split at hval
      · obtain ⟨cs, h, _⟩ := hval; exact ⟨cs, h⟩
      · obtain ⟨cs, h, _⟩ := hval; exact ⟨cs, h⟩
      · rename_i h1 h2
        split at ha
        · rename_i fs hfs; exact absurd hfs (h1 fs)
        · rename_i m e hm; exact absurd hm (h2 m e)
        · cases ha
    obtain ⟨cs, rfl⟩ := hag
    simp only [if_true]
    have := VRel.agg (cf := cf) (h := W.heap) (S := (startK W).safe startE) noIds _ _ g.rel g.one
    rw [Array.toArray_toList] at this
    exact up this
  | false =>
    simp only [Bool.false_eq_true, if_false]
    have hl : (dec P n t d).length = 1 := by rw [g.len, rdT_len hr ha]
    have hc : v.cells.toList = [v] := by
      have hcell : Cell.okWide P W .any base t v := by
        unfold Value.okWide at hval
        unfold aggB at ha
        split at hval
        · rename_i fs hfs; rw [hfs] at ha; cases ha
        · rename_i m e hm; rw [hm] at ha; cases ha
        · exact hval
      cases n with
      | zero => simp [rdT] at hr
      | succ n =>
        cases v with
        | agg cs =>
          exfalso
          unfold rdT at hr
          unfold Cell.okWide Cell.ok at hcell
          unfold aggB at ha
          split at hr
          · rename_i k hu; simp only [hu] at hcell
          · rename_i hu; simp only [hu] at hcell
          · rename_i hu; simp only [hu] at hcell
          · rename_i e hu; simp only [hu] at hcell
          · rename_i fs hu; simp only [hu] at ha; cases ha
          · rename_i m e hu; simp only [hu] at ha; cases ha
          · cases hr
        | _ => rfl
    have gr := g.rel
    rw [hc] at gr
    match hd : dec P n t d, hl with
    | [x], _ =>
      rw [hd] at gr
      cases gr with
      | cons _ _ _ _ _ hx _ => exact up hx

theorem ints_of {n : Nat} {t : TypeId} {k : IntKind} (ht : P.underlying t = some (.int k)) {d : DataW H} (h : Typed P (n + 1) t d) : ∃ i, argV P (n + 1) t d = .int k i ∧ (Lit.int k i).wf = true := by
  simp only [Typed, ht] at h
  obtain ⟨i, rfl, hw⟩ := h
  have ha : aggB P t = false := by simp [aggB, ht]
  exact ⟨i, by simp [argV, elv, ha, dec, ht], hw⟩

theorem wf_i64 {i : Int} (h : (Lit.int .i64 i).wf = true) : -9223372036854775808 ≤ i ∧ i < 9223372036854775808 := by
  simp [Lit.wf, IntKind.min, IntKind.max, IntKind.signed, IntKind.bits] at h
  omega
theorem wf_u8 {i : Int} (h : (Lit.int .u8 i).wf = true) : 0 ≤ i ∧ i < 256 := by
  simp [Lit.wf, IntKind.min, IntKind.max, IntKind.signed, IntKind.bits] at h
  omega

theorem argV_slice {n : Nat} {t e : TypeId} (ht : P.underlying t = some (.slice e)) (ds rest : List (DataW H)) : argV P (n + 1) t (.slice ds rest) = .fslice 0 false (P.cellsOf e) (ds.map fun x => argV P n e x) := by
  have ha : aggB P t = false := by simp [aggB, ht]
  simp only [argV, elv, ha, dec, ht, Bool.false_eq_true, if_false, List.headD_cons]
theorem argV_nil {n : Nat} {t e : TypeId} (ht : P.underlying t = some (.slice e)) : argV P (n + 1) t (.nil : DataW H) = .nilslice := by
  have ha : aggB P t = false := by simp [aggB, ht]
  simp only [argV, elv, ha, dec, ht, Bool.false_eq_true, if_false, List.headD_cons]
theorem argV_int {n : Nat} {t : TypeId} {k : IntKind} (ht : P.underlying t = some (.int k)) (i : Int) : argV P (n + 1) t (.lit (.int k i) : DataW H) = .int k i := by
  have ha : aggB P t = false := by simp [aggB, ht]
  simp only [argV, elv, ha, dec, ht, Bool.false_eq_true, if_false, List.headD_cons]

/-- a slice of whatever: the elements one by one -/
theorem list_of {α : Type} {n : Nat} {s : TypeId} {R : AVal → α → Prop} {size : α → Nat} (one : ∀ d : DataW H, Typed P n s d → ∃ a : α, R (argV P n s d) a ∧ size a ≤ uptoBulk d) : ∀ ds : List (DataW H), (∀ x ∈ ds, Typed P n s x) →
    ∃ xs : List α, xs.length = ds.length ∧ (∀ (i : Nat) (e : AVal) (a : α), (ds.map fun x => argV P n s x)[i]? = some e → xs[i]? = some a → R e a) ∧ (xs.map size).sum ≤ uptoBulkAll ds ∧ ds.length ≤ uptoBulkAll ds
  | [], _ => ⟨[], rfl, fun i e a h => by simp at h, Nat.zero_le _, Nat.zero_le _⟩
  | d :: ds, h => by
    obtain ⟨a, h1, h2⟩ := one d (h d (by simp))
    obtain ⟨xs, g1, g2, g3, g4⟩ := list_of one ds (fun x hx => h x (by simp [hx]))
    have h3 : 1 ≤ uptoBulk d := by cases d <;> first | (simp only [uptoBulk]; omega) | (rename_i l; cases l <;> simp only [uptoBulk] <;> omega)
    refine ⟨a :: xs, by simp [g1], fun i e b he hb => ?_, by simp only [List.map_cons, List.sum_cons, uptoBulkAll]; omega, by simp only [List.length_cons, uptoBulkAll]; omega⟩
    cases i with
    | zero =>
      simp only [List.map_cons, List.getElem?_cons_zero, Option.some.injEq] at he hb
      subst he; subst hb; exact h1
    | succ i => exact g2 i e b (by simpa using he) (by simpa using hb)

theorem slice_of {n : Nat} {t e : TypeId} (ht : P.underlying t = some (.slice e)) {d : DataW H} (h : Typed P (n + 1) t d) : (d = .nil) ∨ ∃ ds rest, d = .slice ds rest ∧ (∀ x ∈ ds, Typed P n e x) ∧ argV P (n + 1) t d = .fslice 0 false (P.cellsOf e) (ds.map fun x => argV P n e x) ∧ uptoBulkAll ds + 1 ≤ uptoBulk d := by
  simp only [Typed, ht] at h
  rcases h with rfl | ⟨ds, rest, rfl, hd⟩
  · exact .inl rfl
  · exact .inr ⟨ds, rest, rfl, hd, argV_slice ht ds rest, by simp only [uptoBulk]; omega⟩

theorem byte_of {n : Nat} {e : TypeId} (he : P.underlying e = some (.int .u8)) (d : DataW H) (h : Typed P (n + 1) e d) : ∃ b : UInt8, argV P (n + 1) e d = .int .u8 b.toNat ∧ 0 ≤ uptoBulk d := by
  obtain ⟨i, h1, h2⟩ := ints_of he h
  have := wf_u8 h2
  refine ⟨UInt8.ofNat i.toNat, ?_, Nat.zero_le _⟩
  have e1 : ((UInt8.ofNat i.toNat).toNat : Int) = i := by rw [UInt8.toNat_ofNat']; omega
  rw [h1, e1]

theorem bytes_of {n : Nat} {t e : TypeId} (ht : P.underlying t = some (.slice e)) (he : P.underlying e = some (.int .u8)) (hc : P.cellsOf e = 1) {d : DataW H} (h : Typed P (n + 2) t d) :
    ∃ bs : List UInt8, (∀ σ, SlOf σ 1 (argV P (n + 2) t d) (B bs)) ∧ bs.length ≤ uptoBulk d := by
  rcases slice_of ht h with rfl | ⟨ds, rest, rfl, hd, ha, hb⟩
  · exact ⟨[], fun σ => by rw [argV_nil ht]; exact SlOf.nil σ 1, Nat.zero_le _⟩
  · obtain ⟨bs, h1, h2, _, h4⟩ := list_of (R := fun a (b : UInt8) => a = .int .u8 b.toNat) (size := fun _ => 0) (fun d h => byte_of he d h) ds hd
    refine ⟨bs, fun σ => ?_, by omega⟩
    rw [ha, hc]
    have : (ds.map fun x => argV P (n + 1) e x) = B bs := by
      refine List.ext_getElem? fun i => ?_
      by_cases hi : i < ds.length
      · have e1 : (ds.map fun x => argV P (n + 1) e x)[i]? = some (argV P (n + 1) e ds[i]) := by simp [List.getElem?_eq_getElem hi]
        have e2 : bs[i]? = some (bs[i]'(by omega)) := List.getElem?_eq_getElem _
        have := h2 i _ _ e1 e2
        rw [e1, this, B, List.getElem?_map, e2]; rfl
      · rw [List.getElem?_eq_none (by simp; omega), List.getElem?_eq_none (by simp [B]; omega)]
    rw [this]
    exact SlOf.fs _ _ _ _ _

theorem rows_of {n : Nat} {t s e : TypeId} (ht : P.underlying t = some (.slice s)) (hs : P.underlying s = some (.slice e)) (hcs : P.cellsOf s = 1) (he : P.underlying e = some (.int .u8)) (hc : P.cellsOf e = 1) {d : DataW H} (h : Typed P (n + 3) t d) :
    ∃ (ps : List (List UInt8)) (es : List AVal), (∀ σ, SRows σ 1 (argV P (n + 3) t d) es (ps.map B)) ∧ ps.length ≤ uptoBulk d ∧ (ps.map List.length).sum ≤ uptoBulk d := by
  rcases slice_of ht h with rfl | ⟨ds, rest, rfl, hd, ha, hb⟩
  · exact ⟨[], [], fun σ => ⟨by rw [argV_nil ht]; exact SlOf.nil σ 1, rfl, fun i e p h => by simp at h⟩, Nat.zero_le _, Nat.zero_le _⟩
  · obtain ⟨ps, h1, h2, h3, h4⟩ := list_of (R := fun a (p : List UInt8) => ∀ σ, SlOf σ 1 a (B p)) (size := List.length) (fun d h => bytes_of hs he hc h) ds hd
    refine ⟨ps, ds.map fun x => argV P (n + 2) s x, fun σ => ⟨?_, by simp [h1], fun i a p hi hp => ?_⟩, by omega, by omega⟩
    · rw [ha, hcs]; exact SlOf.fs _ _ _ _ _
    · rw [List.getElem?_map, Option.map_eq_some_iff] at hp
      obtain ⟨q, hq, rfl⟩ := hp
      exact h2 i a q hi hq σ

theorem dec_one {n : Nat} {t : TypeId} {d : DataW H} (h : Typed P (n + 1) t d) (ha : aggB P t = false) : dec P (n + 1) t d = [argV P (n + 1) t d] := by
  unfold argV elv
  rw [ha]
  simp only [Bool.false_eq_true, if_false]
  unfold Typed at h
  split at h
  · rename_i k hu; obtain ⟨i, rfl, _⟩ := h; simp [dec, hu]
  · rename_i hu; obtain ⟨b, rfl⟩ := h; simp [dec, hu]
  · rename_i hu; obtain ⟨b, rfl⟩ := h; simp [dec, hu]
  · rename_i e hu
    rcases h with rfl | ⟨ds, rest, rfl, _⟩ <;> simp [dec, hu]
  · rename_i fs hu; unfold aggB at ha; rw [hu] at ha; cases ha
  · rename_i m e hu; unfold aggB at ha; rw [hu] at ha; cases ha
  · exact h.elim

theorem struct_of {n : Nat} {t : TypeId} {fs : Array Field} (ht : P.underlying t = some (.struct fs)) {d : DataW H} (h : Typed P (n + 1) t d) :
    ∃ ds, d = .agg ds ∧ ds.length = fs.size ∧ (∀ (i : Nat) (f : Field) (x : DataW H), fs[i]? = some f → ds[i]? = some x → Typed P n f.type x) ∧
      argV P (n + 1) t d = .agg (List.zipWith (fun (f : Field) x => dec P n f.type x) fs.toList ds).flatten ∧ uptoBulkAll ds + 1 ≤ uptoBulk d := by
  have ha : aggB P t = true := by simp [aggB, ht]
  unfold Typed at h
  rw [ht] at h
  obtain ⟨ds, rfl, h1, h2⟩ := h
  refine ⟨ds, rfl, h1, h2, ?_, by simp only [uptoBulk]; omega⟩
  unfold argV elv
  rw [ha, if_pos rfl]
  conv => lhs; unfold dec
  rw [ht]
end
end Go.Proofs.YtkjnanfkclijcaaDoor.Am

/-
  TERMS, part 0: the plain law: cells, what a term is, where it ends, its arguments. No program in sight.
-/
namespace Go.Proofs.YtkjnanfkclijcaaDoor.Am
open Go
set_option linter.unusedVariables false
set_option linter.unusedSimpArgs false

/-- a cell of a term: kind, text, number, variable -/
structure Cel where
  k : Nat
  s : List UInt8
  n : Int
  v : Int × Int
  deriving DecidableEq, Inhabited

def Cel.cs (c : Cel) : List AVal := [.int .u8 c.k, .str c.s, .int .i64 c.n, .int .i64 c.v.1, .int .i64 c.v.2]
def Cel.val (c : Cel) : AVal := .agg c.cs

/-- cells as elements -/
abbrev CC (l : List Cel) : List AVal := l.map Cel.val
/-- how many arguments stand behind a cell -/
def Cel.parts (c : Cel) : Nat := if c.k = 3 then c.n.toNat else 0

/-- where so many terms end that begin at a place -/
def endAt (L : Nat) : List Cel → Nat → Nat → Nat
  | _, 0, at_ => at_
  | [], _ + 1, _ => 0
  | c :: r, o + 1, at_ => if L < c.parts then 0 else endAt L r (o + c.parts) (at_ + 1)

theorem endAt_zero (L : Nat) (r : List Cel) (a : Nat) : endAt L r 0 a = a := by cases r <;> rfl
theorem endAt_nil (L o a : Nat) : endAt L [] (o + 1) a = 0 := rfl
theorem endAt_cons (L : Nat) (c : Cel) (r : List Cel) (o a : Nat) : endAt L (c :: r) (o + 1) a = if L < c.parts then 0 else endAt L r (o + c.parts) (a + 1) := rfl

theorem endAt_le {L : Nat} : ∀ {r : List Cel} {o a n : Nat}, endAt L r o a = n → n ≠ 0 → a ≤ n ∧ n ≤ a + r.length ∧ (0 < o → a < n)
  | r, 0, a, n, h, _ => by rw [endAt_zero] at h; subst h; exact ⟨Nat.le_refl _, by omega, fun h => absurd h (by omega)⟩
  | [], o + 1, a, n, h, hn => by rw [endAt_nil] at h; exact absurd h.symm hn
  | c :: r, o + 1, a, n, h, hn => by
    rw [endAt_cons] at h
    split at h
    · exact absurd h.symm hn
    · obtain ⟨h1, h2, _⟩ := endAt_le h hn
      simp only [List.length_cons]
      exact ⟨by omega, by omega, fun _ => by omega⟩

theorem endAt_add {L : Nat} : ∀ {r : List Cel} {p q a n : Nat}, endAt L r (p + q) a = n → n ≠ 0 → 0 < a + p →
    endAt L r p a ≠ 0 ∧ endAt L (r.drop (endAt L r p a - a)) q (endAt L r p a) = n
  | r, 0, q, a, n, h, hn, hp => by
    rw [endAt_zero]
    simp only [Nat.zero_add] at h
    exact ⟨by omega, by simpa using h⟩
  | [], p + 1, q, a, n, h, hn, hp => by
    rw [show p + 1 + q = p + q + 1 by omega, endAt_nil] at h
    exact absurd h.symm hn
  | c :: r, p + 1, q, a, n, h, hn, hp => by
    rw [show p + 1 + q = p + q + 1 by omega, endAt_cons] at h
    rw [endAt_cons]
    split at h
    · exact absurd h.symm hn
    · rename_i hl
      rw [if_neg hl]
      rw [show p + q + c.parts = (p + c.parts) + q by omega] at h
      obtain ⟨g1, g2⟩ := endAt_add h hn (by omega)
      refine ⟨g1, ?_⟩
      have hle := (endAt_le (rfl : endAt L r (p + c.parts) (a + 1) = _) g1).1
      rw [show endAt L r (p + c.parts) (a + 1) - a = (endAt L r (p + c.parts) (a + 1) - (a + 1)) + 1 by omega, List.drop_succ_cons]
      exact g2

/-- names -/
def smallC (c : UInt8) : Bool := decide (97 ≤ c.toNat) && decide (c.toNat ≤ 122)
def wordC (c : UInt8) : Bool := smallC c || (decide (65 ≤ c.toNat) && decide (c.toNat ≤ 90)) || (decide (48 ≤ c.toNat) && decide (c.toNat ≤ 57)) || decide (c.toNat = 95)
def isName : List UInt8 → Bool
  | [] => false
  | c :: r => decide (r.length < 16) && smallC c && r.all wordC

def signsL : List (List UInt8) := [[61], [58, 61], [64], [43], [45], [42], [60], [61, 60], [62], [62, 61], [61, 58, 61], [61, 92, 61]]

/-- is a cell whole in itself? -/
def Cel.ok (c : Cel) : Bool :=
  if c.k = 1 then decide (c.s = []) && decide (c.v = (0, 0)) && decide (-2147483648 ≤ c.n) && decide (c.n ≤ 2147483648)
  else if c.k = 2 then isName c.s && decide (c.v = (0, 0)) && decide (c.n = 0)
  else if c.k = 3 then decide (c.v = (0, 0)) && ((isName c.s && decide (1 ≤ c.n) && decide (c.n ≤ 8)) || (signsL.contains c.s && decide (c.n = 2)))
  else if c.k = 4 then decide (c.s = []) && decide (c.n = 0) && decide (-1 ≤ c.v.1) && decide (c.v.1 ≤ 3) && decide (0 ≤ c.v.2)
  else false

/-- is it a term? -/
def right (t : List Cel) : Bool := decide (1 ≤ t.length) && decide (t.length ≤ 256) && decide (endAt t.length t 1 0 = t.length) && t.all Cel.ok

/-- the arguments from a place on -/
def argsFrom (L : Nat) : Nat → List Cel → Nat → List (List Cel)
  | 0, _, _ => []
  | f + 1, r, a => if r = [] then [] else r.take (endAt L r 1 a - a) :: argsFrom L f (r.drop (endAt L r 1 a - a)) (endAt L r 1 a)

def args (t : List Cel) : List (List Cel) := if right t && decide ((t.headD default).k = 3) then argsFrom t.length t.length (t.drop 1) 1 else []

theorem args_walk {L : Nat} : ∀ {q f : Nat} {r : List Cel} {a : Nat}, 0 < a → endAt L r q a = a + r.length → r.length ≤ f → (argsFrom L f r a).length = q
  | 0, f, r, a, ha, h, hf => by
    rw [endAt_zero] at h
    have : r = [] := List.eq_nil_of_length_eq_zero (by omega)
    subst this
    cases f <;> simp [argsFrom]
  | q + 1, f, r, a, ha, h, hf => by
    have hne : r ≠ [] := by
      intro e; subst e
      rw [endAt_nil] at h; simp at h; omega
    have hpos : 0 < r.length := List.length_pos_iff.2 hne
    cases f with
    | zero => omega
    | succ f =>
      rw [show q + 1 = 1 + q by omega] at h
      obtain ⟨g1, g2⟩ := endAt_add h (by omega) (by omega)
      obtain ⟨e1, e2, e3⟩ := endAt_le (rfl : endAt L r 1 a = _) g1
      have e4 := e3 (by omega)
      simp only [argsFrom, if_neg hne, List.length_cons]
      rw [args_walk (by omega) (by rw [g2, List.length_drop]; omega) (by rw [List.length_drop]; omega)]

/-- what a term's beginning says -/
theorem right_cons {c : Cel} {r : List Cel} (h : right (c :: r) = true) : endAt (c :: r).length r c.parts 1 = 1 + r.length ∧ r.length < 256 ∧ c.parts ≤ (c :: r).length := by
  simp only [right, Bool.and_eq_true, decide_eq_true_eq] at h
  obtain ⟨⟨⟨_, h1⟩, h2⟩, _⟩ := h
  rw [endAt_cons] at h2
  split at h2
  · simp at h2
  · simp only [List.length_cons, Nat.zero_add] at h1 h2 ⊢
    exact ⟨by omega, by omega, by simp only [List.length_cons] at *; omega⟩

theorem args_len {t : List Cel} (h : right t = true) (hk : (t.headD default).k = 3) : (args t).length = (t.headD default).n.toNat := by
  cases t with
  | nil => simp [right] at h
  | cons c r =>
    simp only [List.headD_cons] at hk ⊢
    obtain ⟨h1, h2, h3⟩ := right_cons h
    have hp : c.parts = c.n.toNat := by simp only [Cel.parts, hk, if_true]
    simp only [args, h, List.headD_cons, hk, decide_true, Bool.and_self, if_true, List.drop_succ_cons, List.drop_zero]
    rw [← hp]
    exact args_walk (by omega) h1 (by simp only [List.length_cons]; omega)

end Go.Proofs.YtkjnanfkclijcaaDoor.Am

/-
  TERMS: arguments that are names, cells, terms, read.
-/
namespace Go.Proofs.YtkjnanfkclijcaaDoor.Am
open Go Go.RowKit Go.ChangeShapes Go.WideShapes Go.ChangeAt Go.Proofs.YtkjnanfkclijcaaDoor.Rows
set_option linter.unusedVariables false
set_option linter.unusedSimpArgs false

/-- a number that an int can hold -/
def I64 (i : Int) : Prop := -9223372036854775808 ≤ i ∧ i < 9223372036854775808

/-- a name -/
abbrev Nm := Int × Int
def nmV (v : Nm) : AVal := .agg [.int .i64 v.1, .int .i64 v.2]
def Nm.In (v : Nm) : Prop := I64 v.1 ∧ I64 v.2
/-- a cell as it can come in -/
def Cel.In (c : Cel) : Prop := c.k < 256 ∧ I64 c.n ∧ Nm.In c.v

theorem mem_sum {α : Type} (f : α → Nat) : ∀ {xs : List α} {x : α}, x ∈ xs → f x ≤ (xs.map f).sum
  | [], _, h => by cases h
  | y :: ys, x, h => by
    simp only [List.map_cons, List.sum_cons]
    rcases List.mem_cons.1 h with rfl | h
    · omega
    · have := mem_sum f h; omega

section
variable {P : Program} {cf : FuncId → FuncId} {W : World} {H : Type} {enc : TypeId × Value → H} {base : Nat}

theorem int_dec {n : Nat} {t : TypeId} {k : IntKind} (ht : P.underlying t = some (.int k)) {d : DataW H} (h : Typed P (n + 1) t d) : ∃ i, dec P (n + 1) t d = [.int k i] ∧ (Lit.int k i).wf = true := by
  have ha : aggB P t = false := by simp [aggB, ht]
  obtain ⟨i, h1, h2⟩ := ints_of ht h
  exact ⟨i, by rw [dec_one h ha, h1], h2⟩

theorem text_dec {n : Nat} {t : TypeId} (ht : P.underlying t = some .string) {d : DataW H} (h : Typed P (n + 1) t d) : ∃ s : List UInt8, dec P (n + 1) t d = [.str s] ∧ s.length + 1 ≤ uptoBulk d := by
  simp only [Typed, ht] at h
  obtain ⟨s, rfl⟩ := h
  exact ⟨s, by simp [dec, ht], by simp [uptoBulk]⟩

theorem struct_dec {n : Nat} {t : TypeId} {fs : Array Field} (ht : P.underlying t = some (.struct fs)) (ds : List (DataW H)) : dec P (n + 1) t (.agg ds) = (List.zipWith (fun (f : Field) x => dec P n f.type x) fs.toList ds).flatten := by
  conv => lhs; unfold dec
  rw [ht]
theorem struct_argV {n : Nat} {t : TypeId} {fs : Array Field} (ht : P.underlying t = some (.struct fs)) (d : DataW H) : argV P n t d = .agg (dec P n t d) := by
  have ha : aggB P t = true := by simp [aggB, ht]
  simp [argV, elv, ha]

theorem name_dec {n : Nat} {t : TypeId} {f0 f1 : Field} (ht : P.underlying t = some (.struct #[f0, f1])) (h0 : P.underlying f0.type = some (.int .i64)) (h1 : P.underlying f1.type = some (.int .i64)) {d : DataW H} (h : Typed P (n + 2) t d) :
    ∃ v : Nm, dec P (n + 2) t d = [.int .i64 v.1, .int .i64 v.2] ∧ Nm.In v := by
  obtain ⟨ds, rfl, hl, hty, _, _⟩ := struct_of ht h
  match ds, hl with
  | [x, y], _ =>
    obtain ⟨a, a1, a2⟩ := int_dec h0 (hty 0 f0 x rfl rfl)
    obtain ⟨b, b1, b2⟩ := int_dec h1 (hty 1 f1 y rfl rfl)
    refine ⟨(a, b), ?_, wf_i64 a2, wf_i64 b2⟩
    rw [struct_dec ht]
    simp [a1, b1]

theorem cel_dec {n : Nat} {t : TypeId} {f0 f1 f2 f3 g0 g1 : Field} (ht : P.underlying t = some (.struct #[f0, f1, f2, f3])) (h0 : P.underlying f0.type = some (.int .u8)) (h1 : P.underlying f1.type = some .string) (h2 : P.underlying f2.type = some (.int .i64))
    (h3 : P.underlying f3.type = some (.struct #[g0, g1])) (k0 : P.underlying g0.type = some (.int .i64)) (k1 : P.underlying g1.type = some (.int .i64)) {d : DataW H} (h : Typed P (n + 3) t d) :
    ∃ c : Cel, argV P (n + 3) t d = c.val ∧ c.In ∧ c.s.length ≤ uptoBulk d := by
  obtain ⟨ds, rfl, hl, hty, _, hb⟩ := struct_of ht h
  match ds, hl with
  | [x, y, z, u], _ =>
    obtain ⟨a, a1, a2⟩ := int_dec h0 (hty 0 f0 x rfl rfl)
    obtain ⟨s, s1, s2⟩ := text_dec h1 (hty 1 f1 y rfl rfl)
    obtain ⟨b, b1, b2⟩ := int_dec h2 (hty 2 f2 z rfl rfl)
    obtain ⟨v, v1, v2⟩ := name_dec h3 k0 k1 (hty 3 f3 u rfl rfl)
    have ha := wf_u8 a2
    refine ⟨⟨a.toNat, s, b, v⟩, ?_, ⟨by simp only; omega, wf_i64 b2, v2⟩, ?_⟩
    · rw [struct_argV ht, struct_dec ht]
      simp [a1, s1, b1, v1, Cel.val, Cel.cs]
      omega
    · simp only [uptoBulkAll] at hb ⊢
      omega

/-- a term that comes in -/
theorem term_of {n : Nat} {t e : TypeId} (ht : P.underlying t = some (.slice e)) (hc : P.cellsOf e = 5) (one : ∀ d : DataW H, Typed P n e d → ∃ c : Cel, argV P n e d = c.val ∧ c.In ∧ c.s.length ≤ uptoBulk d) {d : DataW H} (h : Typed P (n + 1) t d) :
    ∃ cs : List Cel, (∀ σ, SlOf σ 5 (argV P (n + 1) t d) (cs.map Cel.val)) ∧ (∀ c ∈ cs, c.In) ∧ cs.length ≤ uptoBulk d ∧ (cs.map fun c => c.s.length).sum ≤ uptoBulk d := by
  rcases slice_of ht h with rfl | ⟨ds, rest, rfl, hd, ha, hb⟩
  · exact ⟨[], fun σ => by rw [argV_nil ht]; exact SlOf.nil σ 5, fun c hc => by simp at hc, Nat.zero_le _, Nat.zero_le _⟩
  · obtain ⟨cs, h1, h2, h3, h4⟩ := list_of (R := fun a (c : Cel) => a = c.val ∧ c.In) (size := fun c : Cel => c.s.length) (fun d h => by obtain ⟨c, a, b, e⟩ := one d h; exact ⟨c, ⟨a, b⟩, e⟩) ds hd
    have hget : ∀ (i : Nat) (c : Cel), cs[i]? = some c → ∃ a, (ds.map fun x => argV P n e x)[i]? = some a ∧ a = c.val ∧ c.In := by
      intro i c hi
      have hlt := (List.getElem?_eq_some_iff.1 hi).1
      have e1 : (ds.map fun x => argV P n e x)[i]? = some (argV P n e (ds[i]'(by omega))) := by simp [List.getElem?_eq_getElem (show i < ds.length by omega)]
      exact ⟨_, e1, h2 i _ _ e1 hi⟩
    refine ⟨cs, fun σ => ?_, fun c hc => ?_, by omega, by omega⟩
    · rw [ha, hc]
      have : (ds.map fun x => argV P n e x) = cs.map Cel.val := by
        refine List.ext_getElem? fun i => ?_
        by_cases hi : i < ds.length
        · obtain ⟨a, e1, e2, _⟩ := hget i (cs[i]'(by omega)) (List.getElem?_eq_getElem _)
          rw [e1, List.getElem?_map, List.getElem?_eq_getElem (show i < cs.length by omega), e2]; rfl
        · rw [List.getElem?_eq_none (by simp; omega), List.getElem?_eq_none (by simp; omega)]
      rw [this]
      exact SlOf.fs _ _ _ _ _
    · obtain ⟨i, hi⟩ := List.getElem?_of_mem hc
      obtain ⟨a, _, _, h⟩ := hget i c hi
      exact h
end
end Go.Proofs.YtkjnanfkclijcaaDoor.Am

/-
  ARGUMENTS AT THIS SEAT's TYPES: cells, terms.
-/
namespace Go.Proofs.YtkjnanfkclijcaaDoor.Am
open Go Go.RowKit Go.ChangeShapes Go.WideShapes Go.ChangeAt Go.Proofs.YtkjnanfkclijcaaDoor.Rows
set_option linter.unusedVariables false
set_option linter.unusedSimpArgs false
set_option maxRecDepth 100000

section
variable {H : Type}
theorem name_at {n : Nat} {d : DataW H} (h : Typed Tryd.prog (n + 2) 46 d) : ∃ v : Nm, dec Tryd.prog (n + 2) 46 d = [.int .i64 v.1, .int .i64 v.2] ∧ Nm.In v :=
  name_dec (n := n) Tryd.underlying46 Tryd.underlying3 Tryd.underlying3 h
theorem cel_at {n : Nat} {d : DataW H} (h : Typed Tryd.prog (n + 3) 83 d) : ∃ c : Cel, argV Tryd.prog (n + 3) 83 d = c.val ∧ c.In ∧ c.s.length ≤ uptoBulk d :=
  cel_dec (n := n) Tryd.underlying83 Tryd.underlying81 Tryd.underlying9 Tryd.underlying3 Tryd.underlying46 Tryd.underlying3 Tryd.underlying3 h
theorem term_at {n : Nat} {d : DataW H} (h : Typed Tryd.prog (n + 4) 23 d) :
    ∃ cs : List Cel, (∀ σ, SlOf σ 5 (argV Tryd.prog (n + 4) 23 d) (CC cs)) ∧ (∀ c ∈ cs, c.In) ∧ cs.length ≤ uptoBulk d ∧ (cs.map fun c => c.s.length).sum ≤ uptoBulk d :=
  term_of (n := n + 3) Tryd.underlying23 (by kernel_rfl) (fun d hd => cel_at hd) h
theorem cells_in {cs : List Cel} {b : Nat} (h1 : ∀ c ∈ cs, c.In) (h2 : (cs.map fun c => c.s.length).sum ≤ b) (hb : b < 2 ^ 40) : ∀ c ∈ cs, c.k < 256 ∧ c.s.length < 2 ^ 40 := fun c hc =>
  ⟨(h1 c hc).1, by have := mem_sum (fun c : Cel => c.s.length) hc; omega⟩
end
end Go.Proofs.YtkjnanfkclijcaaDoor.Am

/-
  THE ABSTRACT MACHINE, part 41: a package's variable that reads as listed: an array of texts.
-/
namespace Go.Proofs.YtkjnanfkclijcaaDoor.Am
open Go Go.RowKit
set_option linter.unusedVariables false
set_option linter.unusedSimpArgs false

section
variable {P : Program} {cfg : Cfg} {H : Type} {enc : TypeId × Value → H} {W : World}

theorem texts_read {m base : Nat} {sp : Nat → Bool} {held : Bool} {e : TypeId} (he : P.underlying e = some .string) : ∀ (xs : List (DataW H × List MemPlace)) (cs : List Value), cs.length = xs.length →
    (∀ i, i < xs.length → DataW.trod enc P W base sp held m e ((cs.drop i).take 1) = xs[i]?) → ∃ bs : List ByteArray, cs = bs.map Value.string ∧ xs.map (·.1) = bs.map fun b => .lit (.string b.data.toList)
  | [], cs, hl, _ => ⟨[], by simpa using List.eq_nil_of_length_eq_zero hl, rfl⟩
  | x :: xs, [], hl, _ => by simp at hl
  | x :: xs, c :: cs, hl, h => by
    have h0 := h 0 (by simp)
    simp only [List.drop_zero, List.take_succ_cons, List.take_zero, List.getElem?_cons_zero] at h0
    obtain ⟨s, e1, e2, _⟩ := DataW.trod_string he h0
    obtain ⟨bs, r1, r2⟩ := texts_read he xs cs (by simpa using hl) (fun i hi => by simpa using h (i + 1) (by simpa using hi))
    injection e1 with e1
    exact ⟨s :: bs, by rw [e1, r1]; rfl, by rw [e2, List.map_cons, r2]; rfl⟩

theorem texts_inj : ∀ {ss : List (List UInt8)} {bs : List ByteArray}, (ss.map fun s => (DataW.lit (.string s) : DataW H)) = (bs.map fun b => .lit (.string b.data.toList)) → ss = bs.map fun b => b.data.toList
  | [], [], _ => rfl
  | [], _ :: _, h => by simp at h
  | _ :: _, [], h => by simp at h
  | s :: ss, b :: bs, h => by
    simp only [List.map_cons, List.cons.injEq] at h ⊢
    obtain ⟨h1, h2⟩ := h
    injection h1 with h1
    injection h1 with h1
    exact ⟨h1, texts_inj h2⟩

theorem gl_of_laid {name : String} {g : Nat} {t e : TypeId} {n : Nat} {ss : List (List UInt8)} (hg : P.globalNamed name = some g) (ht : (P.globals[g]?).map (·.type) = some t) (hu : P.underlying t = some (.array n e)) (he : P.underlying e = some .string)
    (hce : P.cellsOf e = 1) (hct : P.cellsOf t = n) (hglob : ∀ i cs, cfg.glob i = some cs → i = g ∧ cs = ss.map AVal.str) (h : laidMet P [(name, .agg (ss.map fun s => .lit (.string s)))] W) : Gl cfg startE (startK W) := by
  intro i cs hi
  obtain ⟨rfl, rfl⟩ := hglob i cs hi
  obtain ⟨ps, ⟨g', t', cs', fuel, p, q, e1, e2, e3, e4, _, _⟩, _, _⟩ := h
  obtain rfl := Option.some.inj (hg.symm.trans e1)
  obtain rfl := Option.some.inj (ht.symm.trans e2)
  have hb : ∃ ty f, W.heap[i]? = some (.cells cs' ty f) := by
    simp only [World.var?, hg, Option.bind_some] at e3
    split at e3
    · rename_i c ty f hc
      injection e3 with e3; subst e3
      exact ⟨ty, f, hc⟩
    · cases e3
  obtain ⟨ty, f, hb⟩ := hb
  obtain ⟨xs, m, rfl, hx, hl, hxl, hel⟩ := DataW.trod_array hu e4
  obtain ⟨bs, r1, r2⟩ := texts_read he xs cs'.toList (by rw [hl, hct, hxl]) (fun i hi => by
    have := hel i (by omega)
    rw [hce, Nat.mul_one] at this
    exact this)
  injection hx with hx _
  injection hx with hx
  have hss := texts_inj (hx.trans r2)
  have hrel : ∀ bs : List ByteArray, VRelL cfg.conc W.heap ((startK W).safe startE) noIds ((bs.map fun b => b.data.toList).map AVal.str) (bs.map Value.string) := by
    intro bs
    induction bs with
    | nil => exact .nil _
    | cons b bs ih => exact .cons _ _ _ _ _ (.str _ b) ih
  have := VRel.fptr (cf := cfg.conc) (h := W.heap) (S := (startK W).safe startE) noIds 0 (ss.map AVal.str) 0 i 0 cs'.toList ⟨(Array.getElem?_eq_some_iff.1 hb).1, start_own W i, fun k _ hk => by simp [startE] at hk⟩
    (by rw [hss, r1]; exact hrel bs) (fun c hc => by obtain ⟨s, _, rfl⟩ := List.mem_map.1 hc; rfl) (fun c hc => by obtain ⟨s, _, rfl⟩ := List.mem_map.1 hc; exact Nat.le_refl _)
    (fun j v hj => by simp only [cellAt, hb, Nat.zero_add]; simpa using hj)
  exact this
end
end Go.Proofs.YtkjnanfkclijcaaDoor.Am

