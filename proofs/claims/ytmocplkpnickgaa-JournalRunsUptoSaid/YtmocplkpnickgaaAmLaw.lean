/-
  THE ABSTRACT MACHINE, part 28: from a run of it to a law's statement.
-/
import Derived.Test.YtmocplkpnickgaaAmFn
import Derived.WalkKit
import Derived.ProofKit
import Derived.OpenShut
import Derived.JoinedCond
import Derived.ChangeStays
import Derived.ChangeBook
namespace Go.Proofs.Ytmocplkpnickgaa.Am
open Go Go.RowKit Go.ChangeShapes
set_option linter.unusedVariables false
set_option linter.unusedSimpArgs false

section
variable {P : Program} {cfg : Cfg}

/-- the memory that a law is called in: nothing of it is the machine's -/
def startK (W : World) : K := ⟨W.heap, [], fun _ => 0, W.heap.size⟩
def startE : Env := ⟨0, fun _ _ => False⟩

theorem start_R (W : World) : (startK W).R startE cfg.conc where
  ok := fun k b hk _ => by simp [startE] at hk
  obj := fun id o h => by simp [startK] at h
  inj := fun i j hi => by simp [startK] at hi
  lb := fun i hi => by simp [startK] at hi
  base := Nat.le_refl _
  fz := fun b c e f hb hc => by
    have : b < W.heap.size := (Array.getElem?_eq_some_iff.1 hc).1
    simp only [startK] at hb; omega

theorem start_own (W : World) (b : Nat) : ¬ (startK W).own b := fun ⟨id, h, _⟩ => by simp [startK] at h

theorem grown_of {W w' : World} {κ' : K} (hle : (startK W).Le κ') (hR : κ'.R startE cfg.conc) (hw : Wh (W.os, W.output) w' κ'.h) : Grown W w' ∧ ∀ b, b < W.heap.size → w'.heap[b]? = W.heap[b]? := by
  have hk : ∀ b, b < W.heap.size → w'.heap[b]? = W.heap[b]? := fun b hb => by rw [hw.1]; exact (hle.keep b hb (start_own W b)).1
  refine ⟨⟨⟨hw.2.1, hw.2.2, fun i hi => ?_⟩, fun a => ?_, by rw [hw.1]; exact hle.size⟩, hk⟩
  · rw [hk i hi]
    cases h : W.heap[i]? with
    | none => trivial
    | some o => cases o <;> simp
  · by_cases hb : a.block < W.heap.size
    · simp only [World.frozen?, hk _ hb]
    · have e1 : W.heap[a.block]? = none := Array.getElem?_eq_none (by omega)
      simp only [World.frozen?, e1]
      split
      · rename_i c e lo hi hc
        rw [hw.1] at hc
        have hbase : κ'.base = W.heap.size := hle.base
        have := hR.fz a.block c e _ (by rw [hbase]; omega) hc
        simp only [Prod.mk.injEq] at this
        obtain ⟨rfl, rfl⟩ := this
        simp
      · rfl

/-- what a run answers, the call answers -/
theorem am_calls (hm : P.follows .mixedOrders = true) (hall : ∀ f fn, cfg.ir f = some fn → FnOk cfg P f fn) (hg : ∀ W : World, Gl cfg startE (startK W)) {f : FuncId} {args : List AVal} {cargs : List Value} {n : Nat} {v : AVal} {W : World}
    (hrun : (run cfg n 0 f args []).map (fun p => p.1) = some v) (ha : (startK W).VL startE cfg.conc args cargs) :
    Calls P (cfg.conc f) cargs.toArray W fun e w' => ∃ (cv : Value) (κ' : K), e = .returned cv ∧ κ'.V startE cfg.conc v cv ∧ Grown W w' ∧ ∀ b, b < W.heap.size → w'.heap[b]? = W.heap[b]? := by
  rw [Option.map_eq_some_iff] at hrun
  obtain ⟨⟨v', σ'⟩, hrun, rfl⟩ := hrun
  refine ((run_ok hm hall n _ _ _ _ _ _ hrun).2 startE (startK W) cargs rfl rfl (start_R W) (hg W) ha (W.os, W.output) W ⟨rfl, rfl, rfl⟩).mono fun e w' he => ?_
  cases e with
  | returned cv =>
    obtain ⟨κ', k1, k2, k3, k4, k5⟩ := he
    obtain ⟨g1, g2⟩ := grown_of k3 k4 k1
    exact ⟨cv, κ', rfl, k5, g1, g2⟩
  | panicked c => exact he.elim
  | outgrown => exact he.elim

theorem same_of {W w' : World} (h : ∀ b, b < W.heap.size → w'.heap[b]? = W.heap[b]?) {p : MemPlace} (hp : p.block < W.heap.size) : W.sameAt w' p := by
  cases p with
  | cell b off => simp only [World.sameAt, World.cell?]; rw [h b hp]
  | map b => exact h b hp

theorem trodAll_stays {H : Type} {enc : TypeId × Value → H} {T : TypeId → Prop} (K : Kids P T) (hz : ∀ {t e : TypeId}, T t → P.underlying t = some (.slice e) → 0 < P.cellsOf e) {W w' : World} (h : ∀ b, b < W.heap.size → w'.heap[b]? = W.heap[b]?)
    {sp : Nat → Bool} : ∀ {ts : List TypeId} {vs : List Value} {ds : List (DataW H)} {ps : List MemPlace}, (∀ t ∈ ts, T t) → DataW.TrodAll enc P W 0 (fun _ => true) true ts vs ds ps → (∀ p ∈ ps, p.block < W.heap.size) → (∀ p ∈ ps, sp p.block = true) →
      DataW.TrodAll enc P w' 0 sp true ts vs ds ps
  | [], [], [], _, _, ht, _, _ => ht
  | t :: ts, v :: vs, d :: ds, ps, hT, ⟨p, q, ⟨n, hn⟩, h2, e⟩, hlt, hs => by
    subst e
    refine ⟨p, q, ⟨n, ?_⟩, trodAll_stays K hz h (fun t ht => hT t (List.mem_cons_of_mem _ ht)) h2 (fun x hx => hlt x (List.mem_append_right _ hx)) (fun x hx => hs x (List.mem_append_right _ hx)), rfl⟩
    exact DataW.trod_stays K hz (fun h => by cases h) (hT t List.mem_cons_self) hn (fun x hx => same_of h (hlt x (List.mem_append_left _ hx))) (fun x hx => hs x (List.mem_append_left _ hx))

/-- which types are read, and that their elements have a size -/
structure Readable (P : Program) (ts : List TypeId) : Prop where
  laid : laidOutB P = true
  maps : mapsRowed P = true
  lt : ∀ t ∈ ts, t < P.types.size
  sized : ∀ {t e : TypeId}, t < P.types.size → P.underlying t = some (.slice e) → 0 < P.cellsOf e

def sizedB (P : Program) : Bool := (List.range P.types.size).all fun t => match P.underlying t with
  | some (.slice e) => decide (0 < P.cellsOf e)
  | _ => true

theorem Readable.of {ts : List TypeId} (h1 : laidOutB P = true) (h2 : mapsRowed P = true) (h3 : ts.all (· < P.types.size) = true) (h4 : sizedB P = true) : Readable P ts :=
  ⟨h1, h2, fun t ht => by simpa using List.all_eq_true.1 h3 t ht, fun {t e} ht hu => by
    have := List.all_eq_true.1 h4 t (List.mem_range.2 ht)
    rw [hu] at this
    simpa using this⟩

/-- a law: it answers true, and its arguments read as they did -/
theorem law_contract {H : Type} {enc : TypeId × Value → H} (hm : P.follows .mixedOrders = true) (hall : ∀ f fn, cfg.ir f = some fn → FnOk cfg P f fn) (hgl : ∀ g, cfg.glob g = none) {f : FuncId} {fn : Func} {tb : TypeId} (hres : fn.resultTypes = #[tb]) (hbool : P.underlying tb = some .bool)
    (hread : Readable P fn.params.toList) {s : ChangeSpec} (hvars : s.vars = []) {apart fresh handsOn again : Bool} {W : World} {cargs : Array Value} {ds gs : List (DataW H)} {before : List MemPlace}
    (hW : DataW.Whole enc P fn.params.toList s.vars apart W cargs.toList ds gs before) (hfn : s.fn H (ds ++ gs) = { results := [.lit (.bool true)], args := ds }) {args : List AVal} {n : Nat}
    (hrun : (run cfg n 0 f args []).map (fun p => p.1) = some (.bool true)) (ha : (startK W).VL startE cfg.conc args cargs.toList) :
    Calls P (cfg.conc f) cargs W fun e W' => ∃ v, e = .returned v ∧ s.post enc P fn apart fresh handsOn again W cargs v W' := by
  have hgl' : ∀ W : World, Gl cfg startE (startK W) := fun W g cs hg => by rw [hgl g] at hg; cases hg
  have hc := am_calls hm hall hgl' hrun ha
  rw [Array.toArray_toList] at hc
  refine hc.mono fun e W' ⟨cv, κ', he, hv, hg, hk⟩ => ?_
  have := V_bool hv
  subst this
  have hlt := hW.lt
  obtain ⟨p, q, hA, hV, hpq, hfz, hnd⟩ := hW
  rw [hvars] at hV
  obtain ⟨rfl, rfl⟩ := trodVars_none hV
  subst hpq
  simp only [List.append_nil] at hlt hfn hfz hnd
  have hW' : DataW.Whole enc P fn.params.toList s.vars apart W cargs.toList ds [] (p ++ []) := ⟨p, [], hA, by rw [hvars]; exact hV, rfl, by simpa using hfz, by simpa using hnd⟩
  refine ⟨_, he, post_of_same (pa := p) (pv := []) hW' (fun b sp hd => ?_) (fun sp hs => ?_) (fun sp hs => ?_) rfl (hg.frame _) hg.2.1 (ok_one hres rfl (okWide_bool_mk hbool _))⟩
  · simp only [List.append_nil, hfn, hres]
    exact trodAll_cons_mk (p := []) (p' := []) (shut_bool hbool _) trodAll_mk0
  · simp only [List.append_nil, hfn]
    exact trodAll_stays (kids_rows hread.laid hread.maps) hread.sized hk hread.lt hA hlt (fun x hx => hs x (by simpa using hx))
  · simp only [List.append_nil, hfn, hvars]
    exact rfl
end
end Go.Proofs.Ytmocplkpnickgaa.Am
