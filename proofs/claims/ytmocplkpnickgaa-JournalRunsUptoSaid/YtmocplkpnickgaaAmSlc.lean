/-
  THE ABSTRACT MACHINE, part 10: addresses and slices.
-/
import Derived.Test.YtmocplkpnickgaaAmEq
namespace Go.Proofs.Ytmocplkpnickgaa.Am
open Go
set_option linter.unusedVariables false
set_option linter.unusedSimpArgs false

section
variable {P : Program} {E : Env} {cf : FuncId → FuncId} {κ : K}

/-! elements of one size -/
theorem flat_length {sz : Nat} {es : List AVal} (h : AVal.elemsOk sz es) : (es.flatMap AVal.cells).length = es.length * sz := by
  induction es with
  | nil => simp
  | cons e es ih =>
    have h1 := (h e List.mem_cons_self).1
    have h2 := ih (fun x hx => h x (List.mem_cons_of_mem _ hx))
    simp only [List.flatMap_cons, List.length_append, List.length_cons, h1, h2, Nat.add_mul]; omega

theorem flat_take {sz : Nat} {es : List AVal} (h : AVal.elemsOk sz es) (n : Nat) : (es.take n).flatMap AVal.cells = (es.flatMap AVal.cells).take (n * sz) := by
  induction es generalizing n with
  | nil => simp
  | cons e es ih =>
    have h1 := (h e List.mem_cons_self).1
    cases n with
    | zero => simp
    | succ n =>
      have h2 := ih (fun x hx => h x (List.mem_cons_of_mem _ hx)) n
      simp only [List.take_succ_cons, List.flatMap_cons, h2]
      rw [List.take_append, List.take_of_length_le (l := e.cells) (by rw [h1, Nat.add_mul]; omega), h1]
      congr 2
      rw [Nat.add_mul]; omega

theorem flat_drop {sz : Nat} {es : List AVal} (h : AVal.elemsOk sz es) (n : Nat) : (es.drop n).flatMap AVal.cells = (es.flatMap AVal.cells).drop (n * sz) := by
  induction es generalizing n with
  | nil => simp
  | cons e es ih =>
    have h1 := (h e List.mem_cons_self).1
    cases n with
    | zero => simp
    | succ n =>
      have h2 := ih (fun x hx => h x (List.mem_cons_of_mem _ hx)) n
      simp only [List.drop_succ_cons, List.flatMap_cons, h2]
      rw [List.drop_append, List.drop_of_length_le (l := e.cells) (by rw [h1, Nat.add_mul]; omega), h1, List.nil_append]
      congr 1
      rw [Nat.add_mul]; omega

theorem flat_get {sz : Nat} {es : List AVal} (h : AVal.elemsOk sz es) (i : Nat) (e : AVal) (he : es[i]? = some e) : e.cells = ((es.flatMap AVal.cells).drop (i * sz)).take sz := by
  have hd := flat_drop h i
  have hi := (List.getElem?_eq_some_iff.1 he)
  obtain ⟨hi, hei⟩ := hi
  rw [List.drop_eq_getElem_cons hi, hei] at hd
  rw [← hd]
  simp only [List.flatMap_cons]
  have h1 := (h e (List.mem_of_getElem? he)).1
  rw [List.take_append, h1, Nat.sub_self, List.take_zero, List.append_nil, List.take_of_length_le (by omega)]

theorem rowAt_take {hp : Array Obj} {b o n : Nat} {vs : List Value} (h : rowAt hp b o vs) : rowAt hp b o (vs.take n) := by
  intro j v hj
  have := List.getElem?_take (l := vs) (i := n) (j := j)
  rw [this] at hj
  split at hj
  · exact h j v hj
  · simp at hj

theorem rowAt_drop {hp : Array Obj} {b o n : Nat} {vs : List Value} (h : rowAt hp b o vs) : rowAt hp b (o + n) (vs.drop n) := by
  intro j v hj
  rw [List.getElem?_drop] at hj
  have := h (n + j) v hj
  rw [Nat.add_assoc]
  exact this

theorem elemsOk_take {sz n : Nat} {es : List AVal} (h : AVal.elemsOk sz es) : AVal.elemsOk sz (es.take n) := fun e he => h e (List.mem_of_mem_take he)
theorem elemsOk_drop {sz n : Nat} {es : List AVal} (h : AVal.elemsOk sz es) : AVal.elemsOk sz (es.drop n) := fun e he => h e (List.mem_of_mem_drop he)
theorem tagsLe_take {t n : Nat} {es : List AVal} (h : AVal.tagsLe t es) : AVal.tagsLe t (es.take n) := fun e he => h e (List.mem_of_mem_take he)
theorem tagsLe_drop {t n : Nat} {es : List AVal} (h : AVal.tagsLe t es) : AVal.tagsLe t (es.drop n) := fun e he => h e (List.mem_of_mem_drop he)

/-! addresses -/
theorem add_spot (b o n : Nat) : (⟨b, o, none⟩ : Addr).add n = ⟨b, o + n, none⟩ := by
  unfold Addr.add; split <;> simp_all

theorem faddr_val {o : Nat} {a v : AVal} {ca : Value} (ha : κ.V E cf a ca) (h : faddrV o a = some v) : ∃ b c, ca = .pointer (some ⟨b, c, none⟩) ∧ κ.V E cf v (.pointer (some ⟨b, c + o, none⟩)) := by
  unfold faddrV at h
  split at h <;> simp at h <;> subst h
  · cases ha; exact ⟨_, _, rfl, .ptr _ _ _ _ ‹_›⟩
  · cases ha; exact ⟨_, _, rfl, by rw [Nat.add_assoc]; exact .eptr _ _ _ _ _ _ _ ‹_›⟩
  · cases ha; exact ⟨_, _, rfl, by rw [Nat.add_assoc]; exact .fptr _ _ _ _ _ _ _ ‹_› ‹_› ‹_› ‹_› ‹_›⟩

theorem faddr_run {t ft : TypeId} {fs : Array Field} {f : Field} {i off n : Nat} (ht : P.underlying t = some (.struct fs)) (hf : fs[i]? = some f) (ho : f.offset = off) (hft : f.type = ft)
    (hn : sizeT P ft = some n) (hn0 : n ≠ 0) {a v : AVal} {ca : Value} (ha : κ.V E cf a ca) (h : faddrV off a = some v) (hR : κ.R E cf) : GV P E cf κ (Instr.fieldAt t ca i) v κ.σ := by
  obtain ⟨b, c, rfl, hv⟩ := faddr_val ha h
  obtain ⟨inf, hinf, hsz⟩ := sizeT_eq hn
  subst ho hft
  exact GV.pure hR (cv := .pointer (some ⟨b, c + f.offset, none⟩)) (fun w _ => by
    simp [Instr.fieldAt, run_underlying ht, Result.andThen, hf, Instr.sureAddr, fieldPlace, sz_of hinf, hsz, hn0, add_spot]) hv

theorem iaddr_run {t e : TypeId} {sz : Nat} (ht : P.underlying t = some (.slice e)) (hn : sizeT P e = some sz) (h0 : 0 < sz) {a b v : AVal} {ca cb : Value} (ha : κ.V E cf a ca) (hb : κ.V E cf b cb)
    (h : iaddrV sz a b = some v) (hR : κ.R E cf) : GV P E cf κ (Instr.indexAt t ca cb) v κ.σ := by
  obtain ⟨inf, hinf, hsz⟩ := sizeT_eq hn
  unfold iaddrV at h
  split at h
  · rename_i tg fl sz' es k i
    have := V_int hb; subst this
    split at h
    · rename_i hc
      obtain ⟨rfl, hi0⟩ := hc
      cases he : es[i.toNat]? with
      | none => simp [he] at h
      | some x =>
        simp [he] at h
        subst h
        cases ha with
        | zslice => simp at he
        | fslice _ _ _ _ _ bb oo len cap vs g1 g2 g3 g4 g5 g6 g7 g8 g9 =>
        have hlt := (List.getElem?_eq_some_iff.1 he).1
        have hi : 0 ≤ i ∧ i < (len : Int) := by omega
        refine GV.pure hR (cv := .pointer (some ⟨bb, oo + i.toNat * sz', none⟩)) (fun w _ => ?_) ?_
        · simp [Instr.indexAt, asIntOf, run_underlying ht, Result.andThen, hi, sz_of hinf, hsz, add_spot]
        · have hx := flat_get g3 _ _ he
          have := VRel.fptr (cf := cf) (h := κ.h) (S := κ.safe E) κ.ids tg x.cells 0 bb (oo + i.toNat * sz') ((vs.drop (i.toNat * sz')).take sz') g1
            (by rw [hx]; exact VL_take _ (VL_drop _ g2)) (g3 x (List.mem_of_getElem? he)).2 (fun c hc => Nat.le_trans (tag_le_of_cells hc) (g5 x (List.mem_of_getElem? he))) (rowAt_take (rowAt_drop g6))
          simpa using this
    · simp at h
  · rename_i sz' id ep off len cap k i
    have := V_int hb; subst this
    split at h
    · rename_i hc
      obtain ⟨rfl, hi0, hi1⟩ := hc
      simp at h; subst h
      cases ha with
      | slice _ _ _ _ _ _ _ bb oo cap' hs =>
      obtain ⟨s1, s2, s3, es, epo, fl, s4, s5, s6⟩ := hs
      refine GV.pure hR (cv := .pointer (some ⟨bb, oo + i.toNat * sz', none⟩)) (fun w _ => ?_) ?_
      · simp [Instr.indexAt, asIntOf, run_underlying ht, Result.andThen, hi0, hi1, sz_of hinf, hsz, add_spot]
      · have := VRel.eptr (cf := cf) (h := κ.h) (S := κ.safe E) κ.ids id ep (off + i.toNat) 0 bb (oo + i.toNat * sz') ⟨sz', es, epo, fl, s4, s5, fun hf => by
          obtain ⟨q1, q2, q3⟩ := s6 hf
          have hr : len ≤ cap.getD len := by
            cases cap with
            | none => simp
            | some c => have := s2 c rfl; simp; omega
          refine ⟨by omega, ?_⟩
          have hz : ¬ cap' = 0 := by omega
          rcases q2 with ⟨rfl, hz'⟩ | ⟨u1, u2, u3, u4⟩
          · refine .inl ⟨rfl, .inl ?_⟩
            rcases hz' with rfl | hz'
            · rw [Nat.add_mul]
            · exact absurd hz' hz
          · refine .inr ⟨u1, u2, u3, .inr fun j hj => ?_⟩
            rcases u4 with u4 | u4
            · exact absurd u4 hz
            · have hm : i.toNat * sz' + j < cap.getD len * sz' := by
                have : (i.toNat + 1) * sz' ≤ cap.getD len * sz' := Nat.mul_le_mul_right _ (by omega)
                rw [Nat.add_mul] at this
                omega
              have := u4 (i.toNat * sz' + j) hm
              rw [show oo + i.toNat * sz' + j = oo + (i.toNat * sz' + j) by omega, this]
              congr 1
              rw [Nat.add_mul]; omega⟩
        simpa using this
    · simp at h
  · simp at h

theorem aaddr_run {t e : TypeId} {len sz : Nat} (ht : P.underlying t = some (.array len e)) (hn : sizeT P e = some sz) {a b v : AVal} {ca cb : Value} (ha : κ.V E cf a ca) (hb : κ.V E cf b cb)
    (h : aaddrV len sz a b = some v) (hR : κ.R E cf) : GV P E cf κ (Instr.indexAt t ca cb) v κ.σ := by
  obtain ⟨inf, hinf, hsz⟩ := sizeT_eq hn
  unfold aaddrV at h
  split at h
  · rename_i k i
    have := V_int hb; subst this
    split at h
    · rename_i hi
      obtain ⟨b, c, rfl, hv⟩ := faddr_val ha h
      exact GV.pure hR (cv := .pointer (some ⟨b, c + i.toNat * sz, none⟩)) (fun w _ => by
        simp [Instr.indexAt, asIntOf, run_underlying ht, Result.andThen, Instr.sureAddr, hi, sz_of hinf, hsz, add_spot]) hv
    · simp at h
  · simp at h

/-! slices -/
theorem bnd_run {y y' : Nat} {v : AVal} {cv : Value} {n : Nat} (hv : κ.V E cf v cv) (h : bnd y v = some n) (hy : y ≤ y') (code : BoundsCode) (w : World) :
    (Instr.sliceBound cv y' code).run P w = .ok n w ∧ n ≤ y := by
  unfold bnd at h
  split at h
  · rename_i k i
    have := V_int hv; subst this
    split at h
    · rename_i hi
      simp at h; subst h
      exact ⟨run_sliceBound w k i y' code hi.1 (by omega), by omega⟩
    · simp at h
  · simp at h

def OV (κ : K) (E : Env) (cf : FuncId → FuncId) : Option AVal → Option Value → Prop
  | none, none => True
  | some a, some v => κ.V E cf a v
  | _, _ => False

/-- the bounds of a slice expression -/
theorem bounds_run {len cap y : Nat} {lo hi mx : Option AVal} {clo chi cmx : Option Value} {m h l : Nat} (hlo : OV κ E cf lo clo) (hhi : OV κ E cf hi chi) (hmx : OV κ E cf mx cmx)
    (hm3 : mx.isSome = true → hi.isSome = true) (hy : y ≤ cap) (hly : len ≤ y) (h1 : obnd y y mx = some m) (h2 : obnd len m hi = some h) (h3 : obnd 0 h lo = some l) (w : World) :
    (Instr.sliceBounds true len cap clo chi cmx).run P w = .ok (l, h, if mx.isNone then cap else m) w ∧ l ≤ h ∧ h ≤ m ∧ m ≤ y := by
  have key : ∀ mm, (∀ v cv, hi = some v → chi = some cv → ∀ code, (Instr.sliceBound cv mm code).run P w = .ok h w) → (hi = none → mx = none) → True := fun _ _ _ => trivial
  cases mx with
  | none =>
    cases cmx with
    | some _ => exact hmx.elim
    | none =>
    simp at h1; subst h1
    cases hi with
    | none =>
      cases chi with
      | some _ => exact hhi.elim
      | none =>
      simp at h2; subst h2
      cases lo with
      | none =>
        cases clo with
        | some _ => exact hlo.elim
        | none => simp at h3; subst h3; exact ⟨by simp [Instr.sliceBounds], by omega, hly, Nat.le_refl _⟩
      | some v =>
        cases clo with
        | none => exact hlo.elim
        | some cv =>
          simp only [obnd] at h3
          obtain ⟨r, hr⟩ := bnd_run (P := P) hlo h3 (Nat.le_refl _) .sliceB w
          exact ⟨by simp [Instr.sliceBounds, r, Result.andThen], hr, hly, Nat.le_refl _⟩
    | some hv =>
      cases chi with
      | none => exact hhi.elim
      | some hcv =>
      simp only [obnd] at h2
      obtain ⟨r2, hr2⟩ := bnd_run (P := P) hhi h2 hy .sliceAcap w
      cases lo with
      | none =>
        cases clo with
        | some _ => exact hlo.elim
        | none => simp at h3; subst h3; exact ⟨by simp [Instr.sliceBounds, r2, Result.andThen], by omega, hr2, Nat.le_refl _⟩
      | some v =>
        cases clo with
        | none => exact hlo.elim
        | some cv =>
          simp only [obnd] at h3
          obtain ⟨r, hr⟩ := bnd_run (P := P) hlo h3 (Nat.le_refl _) .sliceB w
          exact ⟨by simp [Instr.sliceBounds, r, r2, Result.andThen], hr, hr2, Nat.le_refl _⟩
  | some mv =>
    cases cmx with
    | none => exact hmx.elim
    | some mcv =>
    simp only [obnd] at h1
    obtain ⟨r1, hr1⟩ := bnd_run (P := P) hmx h1 hy .slice3Acap w
    cases hi with
    | none => simp at hm3
    | some hv =>
      cases chi with
      | none => exact hhi.elim
      | some hcv =>
      simp only [obnd] at h2
      obtain ⟨r2, hr2⟩ := bnd_run (P := P) hhi h2 (Nat.le_refl _) .slice3B w
      cases lo with
      | none =>
        cases clo with
        | some _ => exact hlo.elim
        | none => simp at h3; subst h3; exact ⟨by simp [Instr.sliceBounds, r1, r2, Result.andThen], by omega, hr2, hr1⟩
      | some v =>
        cases clo with
        | none => exact hlo.elim
        | some cv =>
          simp only [obnd] at h3
          obtain ⟨r, hr⟩ := bnd_run (P := P) hlo h3 (Nat.le_refl _) .slice3C w
          exact ⟨by simp [Instr.sliceBounds, r, r1, r2, Result.andThen], hr, hr2, hr1⟩

theorem elem_eq {t e : TypeId} (ht : P.underlying t = some (.slice e)) : P.elem t = e := by simp [Program.elem, ht]

theorem sliced_eq (b o l h m s : Nat) : sliced (some ⟨b, o, none⟩) l h m s = .slice (some ⟨b, if m = l then o else o + l * s, none⟩) (h - l) (m - l) := by
  unfold sliced
  split <;> simp [add_spot]

theorem sliceOp_run {t e : TypeId} {sz : Nat} (ht : P.underlying t = some (.slice e)) (hn : sizeT P e = some sz) {lo hi mx : Option AVal} {clo chi cmx : Option Value}
    (hlo : OV κ E cf lo clo) (hhi : OV κ E cf hi chi) (hmx : OV κ E cf mx cmx) (hm3 : mx.isSome = true → hi.isSome = true) {a v : AVal} {ca : Value} (ha : κ.V E cf a ca)
    (h : sliceV sz a lo hi mx = some v) (hR : κ.R E cf) : GV P E cf κ (Instr.sliceAt t ca clo chi cmx) v κ.σ := by
  obtain ⟨inf, hinf, hsz⟩ := sizeT_eq hn
  have hel := elem_eq ht
  have ht' : P.underlying t = some (.slice (P.elem t)) := by rw [hel]; exact ht
  have hrun : ∀ (w : World) (ad : Option Addr) (len cap l hh m : Nat), (Instr.sliceBounds true len cap clo chi cmx).run P w = .ok (l, hh, m) w →
      (Instr.sliceAt t (.slice ad len cap) clo chi cmx).run P w = .ok (sliced ad l hh m sz) w := by
    intro w ad len cap l hh m hb
    rw [run_sliceAt_slice w t _ _ _ _ ht', run_slice_any w t ad len cap ht', hb]
    simp only [Result.andThen]
    rw [hel, sz_of hinf, hsz]
  unfold sliceV at h
  split at h
  · -- nil
    cases ha
    split at h
    · rename_i m hh l h1 h2 h3
      simp at h; subst h
      -- every bound is 0
      have hm : m = 0 := by
        cases mx with
        | none => simpa using h1.symm
        | some q => simp only [obnd, bnd] at h1; split at h1 <;> simp at h1; omega
      have hh0 : hh = 0 := by
        cases hi with
        | none => simpa using h2.symm
        | some q => simp only [obnd, bnd] at h2; split at h2 <;> simp at h2; omega
      subst hm hh0
      refine GV.pure hR (cv := .slice none 0 0) (fun w _ => ?_) (.nilslice _)
      obtain ⟨hb, hl, _, _⟩ := bounds_run (P := P) (len := 0) (cap := 0) (y := 0) hlo hhi hmx hm3 (Nat.le_refl _) (Nat.le_refl _) h1 h2 h3 w
      have : l = 0 := by omega
      subst this
      have := hrun w none 0 0 0 0 _ hb
      rw [this]
      simp [sliced]
    · simp at h
  · rename_i tg full sz' es
    split at h
    · rename_i hse
      subst hse
      split at h
      · rename_i m h1
        split at h
        · rename_i hh h2
          split at h
          · rename_i l h3
            split at h
            · rename_i hmm
              injection h with h
              subst h
              cases ha with
              | zslice _ _ _ _ ad g1 =>
                obtain ⟨_, q1, q2, q3⟩ := bounds_run (P := P) hlo hhi hmx hm3 (Nat.le_refl 0) (Nat.le_refl 0) h1 h2 h3 (default : World)
                have em : m = 0 := by omega
                have eh : hh = 0 := by omega
                have el : l = 0 := by omega
                refine GV.pure hR (cv := sliced (some ad) l hh (if mx.isNone then 0 else m) sz') (fun w _ => ?_) ?_
                · exact hrun w _ _ _ _ _ _ (bounds_run (P := P) hlo hhi hmx hm3 (Nat.le_refl 0) (Nat.le_refl 0) h1 h2 h3 w).1
                · have e1 : sliced (some ad) l hh (if mx.isNone then 0 else m) sz' = .slice (some ad) 0 0 := by
                    subst em; subst eh; subst el
                    simp [sliced]
                  rw [e1]
                  simpa using VRel.zslice κ.ids tg _ sz' ad g1
              | fslice _ _ _ _ _ bb oo len cap vs g1 g2 g3 g4 g5 g6 g7 g8 g9 =>
              subst g7
              refine GV.pure hR (cv := sliced (some ⟨bb, oo, none⟩) l hh (if mx.isNone then cap else m) sz') (fun w _ => ?_) ?_
              · exact hrun w _ _ _ _ _ _ (bounds_run (P := P) hlo hhi hmx hm3 g8 (Nat.le_refl _) h1 h2 h3 w).1
              · obtain ⟨_, q1, q2, q3⟩ := bounds_run (P := P) hlo hhi hmx hm3 g8 (Nat.le_refl _) h1 h2 h3 (default : World)
                have hMx : ∃ M, (if mx.isNone = true then cap else m) = M ∧ hh ≤ M ∧ ((if mx.isNone = true then full && hh == es.length else true) = true → M = hh) := by
                  cases hmx' : mx.isNone with
                  | true =>
                    refine ⟨cap, by simp, by omega, fun hfull => ?_⟩
                    simp only [if_true, Bool.and_eq_true, beq_iff_eq] at hfull
                    have := g9 hfull.1
                    omega
                  | false =>
                    rw [hmx'] at hmm
                    simp only [Bool.false_or, beq_iff_eq] at hmm
                    exact ⟨m, by simp, by omega, fun _ => hmm⟩
                obtain ⟨M, hM, hMh, hMf⟩ := hMx
                rw [hM, sliced_eq]
                refine VRel.fslice κ.ids tg _ sz' _ bb _ _ _ ((vs.take (hh * sz')).drop (l * sz')) g1 ?_ (elemsOk_drop (elemsOk_take g3)) g4 (tagsLe_drop (tagsLe_take g5)) ?_ (by simp; omega) (by omega) ?_
                · rw [flat_drop (elemsOk_take g3), flat_take g3]
                  exact VL_drop _ (VL_take _ g2)
                · by_cases hMl : M = l
                  · have : hh = l := by omega
                    subst this
                    rw [List.drop_eq_nil_of_le (by simp; omega)]
                    intro j v hj
                    simp at hj
                  · rw [if_neg hMl]
                    exact rowAt_drop (rowAt_take g6)
                · intro hfull
                  have := hMf hfull
                  omega
            · simp at h
          · simp at h
        · simp at h
      · simp at h
    · simp at h
  · rename_i sz' id ep off len cap
    split at h
    · rename_i hse
      subst hse
      split at h
      · rename_i m h1
        split at h
        · rename_i hh h2
          split at h
          · rename_i l h3
            injection h with h
            subst h
            cases ha with
            | slice _ _ _ _ _ _ _ bb oo cap' hs =>
            obtain ⟨s1, s2, s3, es, epo, fl, s4, s5, s6⟩ := hs
            have hr : len ≤ cap.getD len ∧ cap.getD len ≤ cap' := by
              cases cap with
              | none => simp; exact s1
              | some c => have := s2 c rfl; simp; omega
            refine GV.pure hR (cv := sliced (some ⟨bb, oo, none⟩) l hh (if mx.isNone then cap' else m) sz') (fun w _ => ?_) ?_
            · exact hrun w _ _ _ _ _ _ (bounds_run (P := P) hlo hhi hmx hm3 hr.2 hr.1 h1 h2 h3 w).1
            · obtain ⟨_, q1, q2, q3⟩ := bounds_run (P := P) hlo hhi hmx hm3 hr.2 hr.1 h1 h2 h3 (default : World)
              rw [sliced_eq]
              have hM : ∃ M, (if mx.isNone = true then cap' else m) = M ∧ hh ≤ M ∧ M ≤ cap' ∧ (∀ c, (if mx.isNone = true then cap.map (· - l) else some (m - l)) = some c → M - l = c) ∧
                  ((if mx.isNone = true then cap.map (· - l) else some (m - l)) = none → cap = none ∧ M = cap') ∧ l + ((if mx.isNone = true then cap.map (· - l) else some (m - l)) : Option Nat).getD (hh - l) ≤ cap.getD len := by
                cases hmx' : mx.isNone with
                | true =>
                  refine ⟨cap', by simp, by omega, Nat.le_refl _, ?_, ?_, ?_⟩
                  · intro c hc
                    simp only [if_true] at hc
                    cases cap with
                    | none => simp at hc
                    | some c0 => have := s2 c0 rfl; simp at hc; omega
                  · intro hc
                    simp only [if_true] at hc
                    cases cap with
                    | none => exact ⟨rfl, rfl⟩
                    | some c0 => simp at hc
                  · cases cap with
                    | none => simp at q3 ⊢; omega
                    | some c0 => have := s2 c0 rfl; simp at q3 ⊢; omega
                | false => exact ⟨m, by simp, q2, by omega, fun c hc => by simpa using hc, fun hc => by simp at hc, by simp; omega⟩
              obtain ⟨M, hM, hM1, hM2, hM3, hM4, hM5⟩ := hM
              rw [hM]
              refine VRel.slice κ.ids sz' id ep (off + l) (hh - l) _ bb _ _ ⟨by omega, hM3, s3, es, epo, fl, s4, s5, fun hf => ?_⟩
              obtain ⟨u1, u2, u3⟩ := s6 hf
              refine ⟨by omega, ?_, ?_⟩
              · rcases u2 with ⟨rfl, hz⟩ | ⟨v1, v2, v3, v4⟩
                · refine .inl ⟨rfl, ?_⟩
                  by_cases hMl : M = l
                  · exact .inr (by omega)
                  · rw [if_neg hMl]
                    rcases hz with rfl | hz
                    · exact .inl (by rw [Nat.add_mul])
                    · exact .inr (by omega)
                · refine .inr ⟨v1, v2, v3, ?_⟩
                  by_cases hMl : M = l
                  · exact .inl (by omega)
                  · rcases v4 with hz | v4
                    · exact .inl (by omega)
                    · refine .inr fun j hj => ?_
                      rw [if_neg hMl]
                      have hle : (l + ((if mx.isNone = true then cap.map (· - l) else some (m - l)) : Option Nat).getD (hh - l)) * sz' ≤ cap.getD len * sz' := Nat.mul_le_mul_right _ hM5
                      rw [Nat.add_mul] at hle
                      have := v4 (l * sz' + j) (by omega)
                      rw [show oo + l * sz' + j = oo + (l * sz' + j) by omega, this]
                      congr 1
                      rw [Nat.add_mul]; omega
              · intro he hcn
                obtain ⟨hc0, rfl⟩ := hM4 hcn
                obtain ⟨w1, w2⟩ := u3 he hc0
                refine ⟨by omega, fun vs e f hv => ?_⟩
                have := w2 vs e f hv
                rw [show off + l + (M - l) = off + M by omega]
                exact this
          · simp at h
        · simp at h
      · simp at h
    · simp at h
  · simp at h

theorem substr_run {t : TypeId} (ht : P.underlying t = some .string) {lo hi : Option AVal} {clo chi : Option Value}
    (hlo : OV κ E cf lo clo) (hhi : OV κ E cf hi chi) {a v : AVal} {ca : Value} (ha : κ.V E cf a ca)
    (h : substrV a lo hi = some v) (hR : κ.R E cf) : GV P E cf κ (Instr.sliceAt t ca clo chi none) v κ.σ := by
  unfold substrV at h
  split at h
  · rename_i s
    obtain ⟨s, rfl, rfl⟩ := V_str ha
    split at h
    · rename_i hh h2
      split at h
      · rename_i l h3
        injection h with h
        subst h
        have hlen : s.data.toList.length = s.size := by simp
        refine GV.pure hR (cv := .string (s.extract l hh)) (fun w _ => ?_) ?_
        · rw [run_sliceAt_string w t _ _ _ _ ht]
          have hbnd : (Instr.sliceBounds false s.size s.size clo chi none).run P w = .ok (l, hh, s.size) w := by
            cases hi with
            | none =>
              cases chi with
              | some _ => exact hhi.elim
              | none =>
              simp only [obnd, Option.some.injEq] at h2
              rw [hlen] at h2
              subst h2
              cases lo with
              | none =>
                cases clo with
                | some _ => exact hlo.elim
                | none => simp at h3; subst h3; simp [Instr.sliceBounds]
              | some v =>
                cases clo with
                | none => exact hlo.elim
                | some cv =>
                  simp only [obnd] at h3
                  obtain ⟨r, hr⟩ := bnd_run (P := P) hlo h3 (Nat.le_refl _) .sliceB w
                  simp [Instr.sliceBounds, r, Result.andThen]
            | some hv =>
              cases chi with
              | none => exact hhi.elim
              | some hcv =>
              simp only [obnd] at h2
              obtain ⟨r2, hr2⟩ := bnd_run (P := P) (y' := s.size) hhi h2 (by rw [hlen]; exact Nat.le_refl _) .sliceAlen w
              cases lo with
              | none =>
                cases clo with
                | some _ => exact hlo.elim
                | none => simp at h3; subst h3; simp [Instr.sliceBounds, r2, Result.andThen]
              | some v =>
                cases clo with
                | none => exact hlo.elim
                | some cv =>
                  simp only [obnd] at h3
                  obtain ⟨r, hr⟩ := bnd_run (P := P) hlo h3 (Nat.le_refl _) .sliceB w
                  simp [Instr.sliceBounds, r, r2, Result.andThen]
          simp [Instr.slice, run_underlying ht, Result.andThen, hbnd]
        · have : (s.extract l hh).data.toList = (s.data.toList.take hh).drop l := by
            simp [ByteArray.data_extract, List.drop_take]
          rw [← this]
          exact .str _ _
      · simp at h
    · simp at h
  · simp at h

end
end Go.Proofs.Ytmocplkpnickgaa.Am
