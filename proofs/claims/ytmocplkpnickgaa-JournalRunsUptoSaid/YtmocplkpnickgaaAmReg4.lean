/-
  THE ABSTRACT MACHINE, part 25: a drawn region.
-/
import Derived.Test.YtmocplkpnickgaaAmReg3
namespace Go.Proofs.Ytmocplkpnickgaa.Am
open Go
set_option linter.unusedVariables false
set_option linter.unusedSimpArgs false

theorem cls_le (op : AOp) : op.cls ≤ 2 := by
  cases op <;> simp [AOp.cls] <;> (rename_i m _ _; cases m <;> simp)

section
variable {P : Program} {cfg : Cfg} {callF : CallF} {E : Env} {d : Nat} {l : List AOper} {st : Nat → FS} {vs : Nat → AVal} {b : Nat → Bool} {tab : List Nat} {pairs : List (Nat × Nat)}

theorem pairsOk_get (h : pairsOk tab pairs l = true) {j i : Nat} {x y : AOper} (hji : j < i) (hx : l[j]? = some x) (hy : l[i]? = some y) : (tab.getD i 0).testBit j = true ∨ okPair pairs j i x y = true := by
  have hi : i < l.length := (List.getElem?_eq_some_iff.1 hy).1
  have h1 := List.all_eq_true.1 h i (List.mem_range.2 hi)
  rw [hy] at h1
  have h2 := List.all_eq_true.1 h1 j (List.mem_range.2 hji)
  rw [hx] at h2
  simpa using h2

/-- how the set of those that have run may look, when i's turn can come -/
structure Turn (tab : List Nat) (b : Nat → Bool) (n i : Nat) : Prop where
  lt : i < n
  out : b i = false
  low : ∀ k, (tab.getD i 0).testBit k = true → b k = true
  high : ∀ k, i < k → k < n → b k = true → (tab.getD k 0).testBit i = false
  mid : ∀ k k', k < k' → k' < n → b k = false → b k' = true → (tab.getD k' 0).testBit k = false

variable (hw : Went cfg callF d l st vs) (hp : pairsOk tab pairs l = true) {i : Nat} (ht : Turn tab b l.length i) {o : AOper} (ho : l[i]? = some o)
include hw hp ht ho

omit hw in
theorem turn_low {k : Nat} (hk : k < i) (hb : b k = false) {x : AOper} (hx : l[k]? = some x) : okPair pairs k i x o = true := by
  rcases pairsOk_get hp hk hx ho with h | h
  · rw [ht.low k h] at hb; cases hb
  · exact h

omit hw in
theorem turn_high {k : Nat} (hk : i < k) (hb : b k = true) {x : AOper} (hx : l[k]? = some x) : okPair pairs i k o x = true := by
  rcases pairsOk_get hp hk ho hx with h | h
  · rw [ht.high k hk (List.getElem?_eq_some_iff.1 hx).1 hb] at h; cases h
  · exact h

omit hw ho in
theorem turn_ee {k k' : Nat} (hk : k < k') (hk' : k' < l.length) (h1 : b k = false) (h2 : b k' = true) (e1 : isE l k = true) (e2 : isE l k' = true) : False := by
  have hx := List.getElem?_eq_getElem (show k < l.length by omega)
  have hy := List.getElem?_eq_getElem hk'
  rcases pairsOk_get hp hk hx hy with h | h
  · rw [ht.mid k k' hk hk' h1 h2] at h; cases h
  · simp only [isE, hx, hy, beq_iff_eq] at e1 e2
    simp [okPair, e1, e2] at h

theorem turn_frame : SameAt (frB l st vs b l.length) (st i).1 o.looks := by
  intro t htl
  have hlt := ht.lt
  rw [frB_skip i (Nat.le_of_lt hlt) (fun k h1 h2 h3 => ?_), frB_same (b' := fun _ => true) (fun k hk hd => ?_), frB_all hw (Nat.le_of_lt hlt)]
  · cases hb : b k with
    | true => rfl
    | false =>
      exfalso
      have hx := List.getElem?_eq_getElem (show k < l.length by omega)
      have := turn_low hp ht ho hk hb hx
      simp only [okPair, Bool.and_eq_true] at this
      have hd' : (l[k]'(by omega)).dst = some t := by simpa [dstOf, hx] using hd
      exact (apartO_eq this.1.1.1.1 hd').1 htl
  · rcases Nat.lt_or_ge i k with h4 | h4
    · have hx := List.getElem?_eq_getElem h2
      have := turn_high hp ht ho h4 h3 hx
      simp only [okPair, Bool.and_eq_true] at this
      intro hd
      have hd' : (l[k]'h2).dst = some t := by simpa [dstOf, hx] using hd
      exact (apartO_eq this.1.1.1.2 hd').1 htl
    · have : k = i := by omega
      subst this
      rw [ht.out] at h3; cases h3

omit hw in
theorem turn_put : frB l st vs (with_ b i) l.length = put (frB l st vs b l.length) o.dst (vs i) := by
  have e : dstOf l i = o.dst := by simp [dstOf, ho]
  rw [frB_with ht.out (fun k hk hb t hd => ?_), if_pos ht.lt, e]
  rcases Nat.lt_or_ge k l.length with h2 | h2
  · have hx := List.getElem?_eq_getElem h2
    have := turn_high hp ht ho hk hb hx
    simp only [okPair, Bool.and_eq_true] at this
    rw [e] at hd
    have := (apartO_eq this.1.1.1.1 hd).2
    simpa [dstOf, hx] using this
  · simp [dstOf, List.getElem?_eq_none h2]

/-- an operation that writes the store meets the store that it met in the run -/
theorem turn_E (he : isE l i = true) : sgB l st b l.length = (st i).2 ∧ sgB l st (with_ b i) l.length = (st (i + 1)).2 := by
  have hlt := ht.lt
  have hno : ∀ k, i < k → k < l.length → b k = true → isE l k = false := by
    intro k h1 h2 h3
    cases h4 : isE l k with
    | false => rfl
    | true => exact (turn_ee hp ht h1 h2 ht.out h3 he h4).elim
  refine ⟨?_, (sgB_with ht.out l.length).2 he (fun k h1 h2 => ?_) hlt⟩
  · rcases sgB_top (l := l) (st := st) (b := b) i (Nat.le_of_lt hlt) with h | ⟨k, k1, k2, k3, k4, k5⟩
    · rw [h]
      rcases first_out l b i with h1 | ⟨k, k1, k2, k3, k4⟩
      · exact sgB_full hw (Nat.le_of_lt hlt) h1
      · have hx := List.getElem?_eq_getElem (show k < l.length by omega)
        have := turn_low hp ht ho k1 k3 hx
        simp only [isE, hx, ho, beq_iff_eq] at k2 he
        simp [okPair, k2, he] at this
    · rcases Nat.lt_or_ge i k with h1 | h1
      · rw [hno k h1 k2 k3] at k4; cases k4
      · have : k = i := by omega
        subst this
        rw [ht.out] at k3; cases k3
  · rcases Nat.lt_or_ge k l.length with h3 | h3
    · exact hno k h1 h3 h2
    · simp [isE, List.getElem?_eq_none h3]

/-- an operation that reads the store sees what it saw in the run -/
theorem turn_R (htr : ∀ k, k ≤ l.length → (traceOs cfg callF d l (st 0))[k]? = some (st k)) (hst : ∀ p ∈ pairs, steady cfg callF d l (traceOs cfg callF d l (st 0)) p = true)
    (he : o.op.cls = 1) (hwt : wantedA (st i).1 o.guard = some true) (hrun : opStep cfg callF d (st i).1 (st i).2 o.op = some (vs i, (st (i + 1)).2)) :
    opStep cfg callF d (st i).1 (sgB l st b l.length) o.op = some (vs i, sgB l st b l.length) := by
  have hlt := ht.lt
  have stdy : ∀ {k : Nat} {σ : Store}, (i, k) ∈ pairs → (∀ s, (traceOs cfg callF d l (st 0))[if k < i then k else k + 1]? = some s → s.2 = σ) → opStep cfg callF d (st i).1 σ o.op = some (vs i, σ) := by
    intro k σ hm hs
    have := hst _ hm
    simp only [steady, ho, htr i (Nat.le_of_lt hlt)] at this
    split at this
    · rename_i o' s0 s' e1 e2 e3
      injection e1 with e1; subst e1
      injection e2 with e2; subst e2
      have hs' := hs s' e3
      rw [hwt, hrun, hs'] at this
      simp only at this
      split at this
      · rename_i v v' u u' g1 g2
        simp only [Option.some.injEq, Prod.mk.injEq] at g1
        rw [g2]
        rw [← g1.1] at this
        rw [AVal.beq_eq _ _ this]
        rw [cls_keep (by omega) g2]
      · cases this
    · cases this
  have hkeep : (st (i + 1)).2 = (st i).2 := cls_keep (by omega) hrun
  rcases sgB_top (l := l) (st := st) (b := b) i (Nat.le_of_lt hlt) with h | ⟨k, k1, k2, k3, k4, k5⟩
  · rcases first_out l b i with h1 | ⟨k, k1, k2, k3, k4⟩
    · rw [h, sgB_full hw (Nat.le_of_lt hlt) h1]
      rw [hrun, hkeep]
    · have hx := List.getElem?_eq_getElem (show k < l.length by omega)
      have hpair := turn_low hp ht ho k1 k3 hx
      have hk2 : (l[k]'(by omega)).op.cls = 2 := by simpa [isE, hx] using k2
      have hm : (i, k) ∈ pairs := by
        simp only [okPair, hk2, he, Bool.and_eq_true] at hpair
        simpa using hpair.1.2
      have e2 : sgB l st b i = (st k).2 := by
        rcases sgB_top (l := l) (st := st) (b := b) k (Nat.le_of_lt k1) with g | ⟨k', j1, j2, j3, j4, j5⟩
        · rw [g]; exact sgB_full hw (by omega) k4
        · exfalso
          have hne : k < k' := by
            rcases Nat.lt_or_ge k k' with q | q
            · exact q
            · have : k' = k := by omega
              subst this; rw [k3] at j3; cases j3
          exact turn_ee hp ht hne (by omega) k3 j3 k2 j4
      rw [h, e2]
      refine stdy hm (fun s hs => ?_)
      rw [if_pos k1, htr k (by omega)] at hs
      injection hs with hs; rw [hs]
  · have hne : i < k := by
      rcases Nat.lt_or_ge i k with q | q
      · exact q
      · have : k = i := by omega
        subst this; rw [ht.out] at k3; cases k3
    have hx := List.getElem?_eq_getElem k2
    have hpair := turn_high hp ht ho hne k3 hx
    have hk2 : (l[k]'k2).op.cls = 2 := by simpa [isE, hx] using k4
    have hm : (i, k) ∈ pairs := by
      simp only [okPair, hk2, he, Bool.and_eq_true] at hpair
      simpa using hpair.2
    rw [k5]
    refine stdy hm (fun s hs => ?_)
    rw [if_neg (by omega), htr (k + 1) (by omega)] at hs
    injection hs with hs; rw [hs]

theorem turn_step (htr : ∀ k, k ≤ l.length → (traceOs cfg callF d l (st 0))[k]? = some (st k)) (hst : ∀ p ∈ pairs, steady cfg callF d l (traceOs cfg callF d l (st 0)) p = true) :
    ∃ c, wantedA (frB l st vs b l.length) o.guard = some c ∧ (c = true → opStep cfg callF d (frB l st vs b l.length) (sgB l st b l.length) o.op = some (vs i, sgB l st (with_ b i) l.length)) ∧
      (c = false → vs i = .tuple [] ∧ sgB l st (with_ b i) l.length = sgB l st b l.length) := by
  obtain ⟨c, h1, h2, h3, h4⟩ := hw i o ho
  have hfr := turn_frame hw hp ht ho
  have hE := turn_E hw hp ht ho
  refine ⟨c, by rw [wanted_same hfr.left]; exact h1, fun hc => ?_, fun hc => ?_⟩
  · subst hc
    rw [reads_same hfr.right]
    have hrun := h3 rfl
    rcases Nat.lt_or_ge o.op.cls 2 with hcl | hcl
    · have he : isE l i = false := by simp [isE, ho]; omega
      rw [(sgB_with ht.out l.length).1 he]
      rcases Nat.lt_or_ge o.op.cls 1 with h0 | h0
      · exact cls_pure (by omega) hrun
      · exact turn_R hw hp ht ho htr hst (by omega) h1 hrun
    · have := cls_le o.op
      have he : isE l i = true := by simp [isE, ho]; omega
      obtain ⟨e1, e2⟩ := hE he
      rw [e1, e2]; exact hrun
  · obtain ⟨g1, g2⟩ := h4 hc
    refine ⟨g1, ?_⟩
    cases he : isE l i with
    | false => exact (sgB_with ht.out l.length).1 he
    | true =>
      obtain ⟨e1, e2⟩ := hE he
      rw [e1, e2, g2]
end

section
variable {P : Program} {cfg : Cfg} {callF : CallF} {E : Env} {d : Nat} {l : List AOper} {st : Nat → FS} {vs : Nat → AVal} {pairs : List (Nat × Nat)} {ops : Array Oper} {r : Rest}

theorem any_sound (hcall : CallOk P cfg callF) (hd : E.d = d) (hc : chkOpers cfg P ops l ops.toList = true) (hdr : drawOk pairs l ops.toList = true) (hw : Went cfg callF d l st vs)
    (htr : ∀ k, k ≤ l.length → (traceOs cfg callF d l (st 0))[k]? = some (st k)) (hst : ∀ p ∈ pairs, steady cfg callF d l (traceOs cfg callF d l (st 0)) p = true)
    {κ0 : K} (hlb : κ0.Lb) {a0 : Act} {Q : Exit → Act → World → Prop}
    (hQ : ∀ a' w' (κ' : K), Wh r w' κ'.h → κ'.σ = (st l.length).2 → κ0.Le κ' → κ'.R E cfg.conc → Fr cfg E κ' (st l.length).1 a' → a'.defers = a0.defers → Q .normal a' w') :
    ∀ (fuel : Nat) (listed : Array Bool) (a : Act) (κ : K) (w : World), listed.size = l.length → (∀ i x, listed.getD i false = true → ops[i]? = some x → ∀ e ∈ dirs x, listed.getD e false = true) →
      cnt (fun k => listed.getD k false) l.length = fuel → Fr cfg E κ (frB l st vs (fun k => listed.getD k false) l.length) a → κ.σ = sgB l st (fun k => listed.getD k false) l.length →
      κ0.Le κ → κ.R E cfg.conc → Wh r w κ.h → a.defers = a0.defers → wpAny P .any ops Q fuel listed a w := by
  obtain ⟨hlen, hget⟩ := chkOpers_get hc
  simp only [drawOk, Bool.and_eq_true] at hdr
  obtain ⟨htab, hp⟩ := hdr
  generalize mkTab [] ops.toList = tab at htab hp
  have htabg := tabOk_get htab
  have hsz : l.length = ops.size := by simpa using hlen
  -- what is ready
  have ready : ∀ (listed : Array Bool), listed.size = l.length → ∀ i, i ∈ Region.ready .any ops listed ↔ i < l.length ∧ listed.getD i false = false ∧ ∃ x, ops[i]? = some x ∧ ∀ e ∈ dirs x, listed.getD e false = true := by
    intro listed hls i
    rw [mem_ready]
    constructor
    · rintro ⟨h0, x, hx, he⟩
      have hi : i < l.length := by rw [hsz]; exact (Array.getElem?_eq_some_iff.1 hx).1
      refine ⟨hi, ?_, x, hx, fun e hem => ?_⟩
      · simp only [Array.getD_eq_getD_getElem?, Array.getElem?_eq_getElem (show i < listed.size by omega), Option.getD_some] at h0 ⊢
        exact h0
      · simp only [dirs, List.mem_map, List.mem_filter, Array.mem_toList_iff] at hem
        obtain ⟨ed, ⟨h1, h2⟩, rfl⟩ := hem
        exact he ed h1 h2
    · rintro ⟨hi, h0, x, hx, he⟩
      refine ⟨?_, x, hx, fun ed h1 h2 => he _ ?_⟩
      · simp only [Array.getD_eq_getD_getElem?, Array.getElem?_eq_getElem (show i < listed.size by omega), Option.getD_some] at h0 ⊢
        exact h0
      · simp only [dirs, List.mem_map, List.mem_filter, Array.mem_toList_iff]
        exact ⟨ed, ⟨h1, h2⟩, rfl⟩
  -- those ahead of one whose turn can come have run
  have ahead : ∀ (b : Nat → Bool), (∀ i x, b i = true → ops[i]? = some x → ∀ e ∈ dirs x, b e = true) → ∀ (i : Nat) (x : Oper), ops[i]? = some x → (∀ e ∈ dirs x, b e = true) → ∀ k, (tab.getD i 0).testBit k = true → b k = true := by
    intro b hcl i
    induction i using Nat.strongRecOn with
    | _ i ih =>
      intro x hx hall k hk
      have := htabg i x (by simpa using hx)
      rw [Nat.zero_add] at this
      rw [this.1] at hk
      obtain ⟨e, he, h | h⟩ := orAll_bit hk
      · subst h; exact hall _ he
      · have hlt := this.2 e he
        cases hy : ops[e]? with
        | none =>
          have : i < ops.size := (Array.getElem?_eq_some_iff.1 hx).1
          rw [Array.getElem?_eq_none_iff] at hy
          omega
        | some y => exact ih e hlt y hy (hcl e y (hall e he) hy) k h
  have turn : ∀ (listed : Array Bool), listed.size = l.length → (∀ i x, listed.getD i false = true → ops[i]? = some x → ∀ e ∈ dirs x, listed.getD e false = true) → ∀ i, i ∈ Region.ready .any ops listed → Turn tab (fun k => listed.getD k false) l.length i := by
    intro listed hls hcl i hi
    obtain ⟨h1, h2, x, hx, he⟩ := (ready listed hls i).1 hi
    have anc := ahead (fun k => listed.getD k false) hcl
    have mid : ∀ k k', k < k' → k' < l.length → listed.getD k false = false → listed.getD k' false = true → (tab.getD k' 0).testBit k = false := by
      intro k k' hk hk' b1 b2
      cases hb : (tab.getD k' 0).testBit k with
      | false => rfl
      | true =>
        have hy : ops[k']? = some (ops[k']'(by omega)) := Array.getElem?_eq_getElem (by omega)
        have := anc k' _ hy (hcl k' _ b2 hy) k hb
        simp only [b1] at this; cases this
    exact ⟨h1, h2, anc i x hx he, fun k hk hk' hb => mid i k hk hk' h2 hb, mid⟩
  have fin : ∀ (listed : Array Bool) (a : Act) (κ : K) (w : World), listed.size = l.length → cnt (fun k => listed.getD k false) l.length = 0 → Fr cfg E κ (frB l st vs (fun k => listed.getD k false) l.length) a →
      κ.σ = sgB l st (fun k => listed.getD k false) l.length → κ0.Le κ → κ.R E cfg.conc → Wh r w κ.h → a.defers = a0.defers → Q .normal a w := by
    intro listed a κ w hls hcnt hf hσ hle hR hh hdf
    have hall := cnt_zero hcnt
    refine hQ a w κ hh ?_ hle hR ?_ hdf
    · rw [hσ, sgB_full hw (Nat.le_refl _) (fun k hk _ => hall k hk)]
    · refine ⟨by rw [← frB_all hw (Nat.le_refl _)]; have h1 := hf.len; rw [frB_len] at h1 ⊢; exact h1, fun t => ?_, hf.gl⟩
      have e : (frB l st vs (fun k => listed.getD k false) l.length).getD t .undef = (st l.length).1.getD t .undef := by
        rw [frB_same (b' := fun _ => true) (fun k hk _ => hall k hk), frB_all hw (Nat.le_refl _)]
      have := hf.fr t
      rw [e] at this
      exact this
  intro fuel
  induction fuel with
  | zero =>
    intro listed a κ w hls hcl hcnt hf hσ hle hR hh hdf
    refine ⟨?_, fin listed a κ w hls hcnt hf hσ hle hR hh hdf⟩
    rw [List.eq_nil_iff_forall_not_mem]
    intro i hi
    obtain ⟨h1, h2, _⟩ := (ready listed hls i).1 hi
    have := cnt_zero hcnt i h1
    simp only [h2] at this; cases this
  | succ fuel ih =>
    intro listed a κ w hls hcl hcnt hf hσ hle hR hh hdf
    refine ⟨fun hnil => ?_, fun i hi => ?_⟩
    · exfalso
      obtain ⟨k, k1, k2, k3⟩ := cnt_pos (b := fun k => listed.getD k false) (m := l.length) (by omega)
      have hx : ops[k]? = some (ops[k]'(by omega)) := Array.getElem?_eq_getElem (by omega)
      have : k ∈ Region.ready .any ops listed := (ready listed hls k).2 ⟨k1, k2, _, hx, fun e he => by
        have := (htabg k _ (by simp)).2 e he
        exact k3 e (by omega)⟩
      rw [hnil] at this; cases this
    · have ht := turn listed hls hcl i hi
      obtain ⟨h1, h2, x, hx, he⟩ := (ready listed hls i).1 hi
      have ho := List.getElem?_eq_getElem h1
      obtain ⟨x', hx', hcx⟩ := hget i _ ho
      have hxx : x' = x := by
        have : ops.toList[i]? = some x := by simpa using hx
        rw [this] at hx'; injection hx' with hx'; exact hx'.symm
      subst hxx
      obtain ⟨c, w1, w2, w3⟩ := turn_step hw hp ht ho htr hst
      have hupd : (fun k => (listed.setIfInBounds i true).getD k false) = with_ (fun k => listed.getD k false) i := by
        funext k
        simp only [with_]
        by_cases hk : k = i
        · subst hk
          simp [Array.getElem?_setIfInBounds_self_of_lt (show k < listed.size by omega)]
        · simp [Array.getElem?_setIfInBounds_ne (fun e => hk e.symm), hk]
      refine oper_step hcall hd hx hcx hf hR w1 (by rw [hσ]; exact w2) (by rw [hσ]; exact w3) hh fun a' w' κ' k1 k2 k3 k4 k5 k6 => ?_
      have hcnt' := cnt_with (b := fun k => listed.getD k false) (i := i) h2 l.length
      rw [if_pos h1] at hcnt'
      refine ih (listed.setIfInBounds i true) a' κ' w' (by simpa using hls) (fun j y hj hy e hem => ?_) (by rw [hupd]; omega) ?_ (by rw [hupd]; exact k2) (K.Le.trans hlb hle k3) k4 k1 (k6.trans hdf)
      · have hj' : with_ (fun k => listed.getD k false) i j = true := by rw [← hupd]; exact hj
        have goal : with_ (fun k => listed.getD k false) i e = true := by
          simp only [with_, Bool.or_eq_true, beq_iff_eq] at hj' ⊢
          rcases hj' with rfl | hj'
          · rw [hx] at hy; injection hy with hy; subst hy
            exact .inr (he e hem)
          · exact .inr (hcl j y hj' hy e hem)
        rw [← hupd] at goal
        exact goal
      · rw [hupd, turn_put hp ht ho]; exact k5

theorem region_any (hm : P.follows .mixedOrders = true) (hcall : CallOk P cfg callF) (hd : E.d = d) {id : Nat} {Q : Exit → Act → World → Prop} {fr : List AVal} {a : Act} {κ : K} {w : World} {s' : FS}
    (hc : chkOpers cfg P ops l ops.toList = true) (hdr : drawOk pairs l ops.toList = true) (h : stepOs cfg callF d l (fr, κ.σ) = some s') (hst : ∀ p ∈ pairs, steady cfg callF d l (traceOs cfg callF d l (fr, κ.σ)) p = true)
    (hf : Fr cfg E κ fr a) (hR : κ.R E cfg.conc) (hh : Wh r w κ.h)
    (hQ : ∀ a' w' (κ' : K), Wh r w' κ'.h → κ'.σ = s'.2 → κ.Le κ' → κ'.R E cfg.conc → Fr cfg E κ' s'.1 a' → a'.defers = a.defers → Q .normal a' w') :
    (Code.region id ops true).wp P Q a w := by
  obtain ⟨st, vs, h0, hn, hw, htr⟩ := went_of h
  have hsz : l.length = ops.size := by simpa using (chkOpers_get hc).1
  refine wp_region_any hm ?_
  have hb : (fun k => (Array.replicate ops.size false).getD k false) = fun _ => false := by
    funext k
    simp only [Array.getD_eq_getD_getElem?, Array.getElem?_replicate]
    split <;> rfl
  have hfr : ∀ m, frB l st vs (fun _ => false) m = fr := by
    intro m
    induction m with
    | zero => simp only [frB, h0]
    | succ m ih => simpa [frB] using ih
  have hsg : ∀ m, sgB l st (fun _ => false) m = κ.σ := by
    intro m
    induction m with
    | zero => simp only [sgB, h0]
    | succ m ih => simpa [sgB] using ih
  rw [← h0] at htr hst
  exact any_sound hcall hd hc hdr hw htr hst hR.lb (a0 := a) (by rw [hn]; exact hQ) ops.size _ a κ _ (by simp [hsz])
    (fun i x hi => by have := congrFun hb i; rw [this] at hi; cases hi) (by rw [hb, cnt_none _ (fun _ => rfl), hsz]) (by rw [hb, hfr]; exact hf) (by rw [hb, hsg]) (K.Le.refl _) hR hh rfl
end
end Go.Proofs.Ytmocplkpnickgaa.Am
