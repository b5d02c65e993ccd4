/-
  THE ABSTRACT MACHINE, part 16: a value told by what it holds.
-/
import Derived.Test.YtmocplkpnickgaaAmApp
namespace Go.Proofs.Ytmocplkpnickgaa.Am
open Go
set_option linter.unusedVariables false
set_option linter.unusedSimpArgs false

section
variable {P : Program} {E : Env} {cf : FuncId → FuncId} {κ : K} {S : Nat → Nat → Prop}

theorem V_formed {hp : Array Obj} {I : Ids} {v : AVal} {cv : Value} (h : VRel cf hp S I v cv) (hu : v ≠ .undef) : (cv.oneCell' = true → v.one = true) ∧ (AVal.allOne v.cells ∨ ∃ us, v = .tuple us) := by
  cases h <;> first
    | exact absurd rfl hu
    | exact ⟨fun _ => rfl, .inl (fun c hc => by simp at hc; subst hc; rfl)⟩
    | (refine ⟨fun h => by simp [Value.oneCell'] at h, ?_⟩; first | exact .inl ‹AVal.allOne _› | exact .inr ⟨_, rfl⟩)

theorem frz_ne (σ : Store) (t : Nat) : ∀ (n : Nat) (v v' : AVal), frz σ t n v = some v' → v' ≠ .undef
  | 0, v, v', h => by simp [frz] at h
  | n + 1, v, v', h => by
    unfold frz at h
    split at h <;> (repeat' split at h) <;> first
      | (simp at h; done)
      | (injection h with h; subst h; intro hh; cases hh; done)
      | (simp only [Option.map_eq_some_iff] at h; obtain ⟨_, _, rfl⟩ := h; intro hh; cases hh; done)
      | skip
    all_goals (rename_i hx; injection h with h; subst h; exact fun hh => hx hh)

/-- an element, out of its cells -/
theorem elem_V {hp : Array Obj} {I : Ids} {e : AVal} {vs : List Value} (h1 : AVal.allOne e.cells) (h : VRelL cf hp S I e.cells vs) : ∃ cv, VRel cf hp S I e cv ∧ cv.cells.toList = vs := by
  cases e with
  | agg cs => exact ⟨.agg vs.toArray, .agg _ _ _ h h1, by simp [Value.cells]⟩
  | tuple cs => exact absurd (h1 _ (List.mem_singleton.2 rfl)) (by simp)
  | undef => exact absurd (h1 _ (List.mem_singleton.2 rfl)) (by simp)
  | _ =>
    simp only [AVal.cells] at h
    cases h with
    | cons _ _ v _ vs' hv hvs =>
      cases hvs
      refine ⟨v, hv, ?_⟩
      have := V_oneCell hv rfl
      cases v <;> simp_all [Value.cells, Value.oneCell']

theorem mapO_len {α β : Type} (f : α → Option β) : ∀ {l : List α} {r : List β}, mapO f l = some r → r.length = l.length
  | [], r, h => by simp at h; subst h; rfl
  | a :: l, r, h => by
    unfold mapO at h
    split at h
    · rename_i b bs h1 h2
      injection h with h
      subst h
      simp [mapO_len f h2]
    · simp at h

structure FrzOk (E : Env) (cf : FuncId → FuncId) (κ : K) (t0 : Nat) (S' : Nat → Nat → Prop) (f : AVal → Option AVal) : Prop where
  ok : ∀ v cv v', κ.V E cf v cv → f v = some v' → VRel cf κ.h S' noIds v' cv
  ne : ∀ v v', f v = some v' → v' ≠ .undef

theorem FrzOk.list {t0 : Nat} {S' : Nat → Nat → Prop} {f : AVal → Option AVal} (hf : FrzOk E cf κ t0 S' f) : ∀ {vs vs' : List AVal} {cvs : List Value}, κ.VL E cf vs cvs → mapO f vs = some vs' → VRelL cf κ.h S' noIds vs' cvs
  | [], _, _, .nil _, h => by simp at h; subst h; exact .nil _
  | v :: vs, _, _, .cons _ _ _ _ _ hv hvs, h => by
    unfold mapO at h
    split at h
    · rename_i b bs h1 h2
      injection h with h
      subst h
      exact .cons _ _ _ _ _ (hf.ok _ _ _ hv h1) (hf.list hvs h2)
    · simp at h

theorem FrzOk.one {t0 : Nat} {S' : Nat → Nat → Prop} {f : AVal → Option AVal} (hf : FrzOk E cf κ t0 S' f) : ∀ {vs vs' : List AVal} {cvs : List Value}, κ.VL E cf vs cvs → AVal.allOne vs → mapO f vs = some vs' → AVal.allOne vs'
  | [], _, _, .nil _, _, h => by simp at h; subst h; intro c hc; simp at hc
  | v :: vs, _, _, .cons _ _ cv _ _ hv hvs, h1, h => by
    unfold mapO at h
    split at h
    · rename_i b bs g1 g2
      injection h with h
      subst h
      intro c hc
      rcases List.mem_cons.1 hc with rfl | hc
      · exact (V_formed (hf.ok _ _ _ hv g1) (hf.ne _ _ g1)).1 (V_oneCell hv (h1 v List.mem_cons_self))
      · exact hf.one hvs (fun c hc => h1 c (List.mem_cons_of_mem _ hc)) g2 c hc
    · simp at h

theorem FrzOk.elems {t0 : Nat} {S' : Nat → Nat → Prop} {f : AVal → Option AVal} (hf : FrzOk E cf κ t0 S' f) {sz : Nat} : ∀ {es es' : List AVal} {vs : List Value}, AVal.elemsOk sz es → κ.VL E cf (es.flatMap AVal.cells) vs → mapO f es = some es' →
    VRelL cf κ.h S' noIds (es'.flatMap AVal.cells) vs ∧ AVal.elemsOk sz es'
  | [], _, vs, _, hl, h => by simp at h; subst h; cases hl; exact ⟨.nil _, fun _ h => by simp at h⟩
  | e :: es, _, vs, hok, hl, h => by
    unfold mapO at h
    split at h
    · rename_i b bs g1 g2
      injection h with h
      subst h
      have he := hok e List.mem_cons_self
      simp only [List.flatMap_cons] at hl
      have hlen := VL_len hl
      simp only [List.length_append] at hlen
      have hl1 : κ.VL E cf e.cells (vs.take e.cells.length) := by
        have := VL_take e.cells.length hl
        rwa [List.take_left' rfl] at this
      have hl2 : κ.VL E cf (es.flatMap AVal.cells) (vs.drop e.cells.length) := by
        have := VL_drop e.cells.length hl
        rwa [List.drop_left' rfl] at this
      obtain ⟨cv, hv, hcv⟩ := elem_V he.2 hl1
      have hv' := hf.ok _ _ _ hv g1
      have hb : AVal.allOne b.cells := by
        rcases (V_formed hv' (hf.ne _ _ g1)).2 with h | ⟨us, rfl⟩
        · exact h
        · cases hv'
          cases hv
          all_goals exact absurd (he.2 _ (List.mem_singleton.2 rfl)) (by simp)
      have hbc := V_cells hv' hb
      rw [hcv] at hbc
      have hbl := VL_len hbc
      obtain ⟨r1, r2⟩ := hf.elems (fun x hx => hok x (List.mem_cons_of_mem _ hx)) hl2 g2
      refine ⟨?_, ?_⟩
      · simp only [List.flatMap_cons]
        have := VL_append hbc r1
        rwa [List.take_append_drop] at this
      · intro x hx
        rcases List.mem_cons.1 hx with rfl | hx
        · refine ⟨?_, hb⟩
          rw [hbl, List.length_take]
          have := he.1
          omega
        · exact r2 x hx
    · simp at h

theorem frz_ok (hR : κ.R E cf) {t0 : Nat} {S' : Nat → Nat → Prop} (hS : ∀ t b, κ.safe E t b → S' t b) (hN : ∀ b, κ.base ≤ b → b < κ.h.size → S' t0 b) (hM : ∀ t t' b, t ≤ t' → S' t b → S' t' b) :
    ∀ n, FrzOk E cf κ t0 S' (frz κ.σ t0 n)
  | 0 => ⟨fun v cv v' _ h => by simp [frz] at h, fun v v' h => by simp [frz] at h⟩
  | n + 1 => by
    have ih := frz_ok hR hS hN hM n
    refine ⟨fun v cv v' hv h => ?_, frz_ne _ _ _⟩
    have hobj : ∀ {id : Nat} {cs : List AVal}, κ.σ[id]? = some (.cells cs) → ∀ {cs'}, mapO (frz κ.σ t0 n) cs = some cs' → ∀ off, VRel cf κ.h S' noIds (.fptr (max t0 (AVal.tagL cs')) cs' off) (.pointer (some ⟨κ.loc id, off, none⟩)) := by
      intro id cs hid cs' hcs off
      obtain ⟨h1, vs, e, hb, hl⟩ := hR.obj id _ hid
      have hi := (List.getElem?_eq_some_iff.1 hid).1
      have := VRel.fptr (cf := cf) (h := κ.h) (S := S') noIds (max t0 (AVal.tagL cs')) cs' off (κ.loc id) 0 vs.toList (hM _ _ _ (Nat.le_max_left _ _) (hN _ (hR.lo id hi) (hR.hi id hi)))
        (ih.list hl hcs) (ih.one hl h1 hcs) (tagsLe_of_tagL (Nat.le_max_right _ _)) (row_of hb _ (fun j v hj => by simpa using hj))
      simpa using this
    have hpass : ∀ {v : AVal}, κ.V E cf v cv → v.pure = true → VRel cf κ.h S' noIds v cv := fun hv hp => by
      have := V_pure hv hp noIds
      exact VRel.mono (fun t b h => ⟨hS t b h, rfl⟩) (Ids.le_refl _) this
    unfold frz at h
    split at h
    · rename_i id off
      split at h
      · rename_i cs hid
        split at h
        · rename_i cs' hcs
          injection h with h
          subst h
          cases hv with
          | ptr _ _ _ b hp =>
          obtain ⟨_, rfl⟩ := hp
          exact hobj hid hcs off
        · simp at h
      · simp at h
    · rename_i id ep i off
      split at h
      · rename_i sz es epo fl hid
        split at h
        · rename_i hf
          split at h
          · rename_i x hx
            split at h
            · rename_i cs' hcs
              injection h with h
              subst h
              have hbb : ∃ b o, cv = .pointer (some ⟨b, o, none⟩) ∧ κ.base ≤ b ∧ b < κ.h.size := by
                cases hv with
                | eptr _ _ _ _ _ b' o' hp =>
                obtain ⟨sz', es', epo', fl', hid', hep, hxx⟩ := hp
                rw [hid] at hid'
                cases hid'
                rcases (hxx hf).2 with ⟨rfl, _⟩ | ⟨_, _, u, _⟩
                · have hi := (List.getElem?_eq_some_iff.1 hid).1
                  exact ⟨_, _, rfl, hR.lo id hi, hR.hi id hi⟩
                · exact ⟨_, _, rfl, u⟩
              obtain ⟨b, o, vs, hcv, hl, hrow, h1⟩ := behind_ok hR hv (cs := x.cells) (off := off) (by simp [behind, hid, hf, hx])
              obtain ⟨b0, o0, hcv0, hb⟩ := hbb
              rw [hcv] at hcv0
              injection hcv0 with hcv0
              injection hcv0 with hcv0
              injection hcv0 with e1 e2 e3
              subst e1
              subst hcv
              exact .fptr _ _ _ _ b o vs (hM _ _ _ (Nat.le_max_left _ _) (hN b hb.1 hb.2)) (ih.list hl hcs) (ih.one hl h1 hcs) (tagsLe_of_tagL (Nat.le_max_right _ _)) hrow
            · simp at h
          · simp at h
        · simp at h
      · simp at h
    · rename_i sz0 id ep off len cap
      split at h
      · rename_i sz es epo fl hid
        split at h
        · rename_i hf
          split at h
          · rename_i es' hes
            injection h with h
            subst h
            have hsz : sz0 = sz := by
              cases hv with
              | slice _ _ _ _ _ _ _ b o cap' hs => obtain ⟨s1, s2, s3, es0, epo', fl0, s4, _⟩ := hs; rw [hid] at s4; cases s4; rfl
            subst hsz
            obtain ⟨p, l, c, vs, hcv, hyl, hvl, hyo, hpn, hpr⟩ := elems_ok hR hv (sz := sz0) (ys := (es.drop off).take len) (by simp [hid, hf])
            cases hv with
            | slice _ _ _ _ _ _ _ b o cap' hs =>
            injection hcv with e1 e2 e3
            subst e1; subst e2
            obtain ⟨s1, s2, s3, es0, epo', fl0, s4, s5, s6⟩ := hs
            rw [hid] at s4
            cases s4
            have hb : κ.base ≤ b ∧ b < κ.h.size := by
              rcases (s6 hf).2.1 with ⟨rfl, _⟩ | ⟨_, _, u, _⟩
              · have hi := (List.getElem?_eq_some_iff.1 hid).1
                exact ⟨hR.lo id hi, hR.hi id hi⟩
              · exact u
            obtain ⟨b', o', hbo, hrow⟩ := (hpr _ rfl).resolve_left (fun h => by obtain ⟨_, _, _, _, h⟩ := h; cases h)
            cases hbo
            obtain ⟨r1, r2⟩ := ih.elems hyo hvl hes
            refine .fslice _ _ _ sz0 es' b o len cap' vs (hM _ _ _ (Nat.le_max_left _ _) (hN b hb.1 hb.2)) r1 r2 s3 (tagsLe_of_tagL (Nat.le_max_right _ _)) hrow (by rw [mapO_len _ hes, hyl]) s1 (fun hfull => ?_)
            have : cap = some len := by simpa using hfull
            exact s2 _ this
          · simp at h
        · simp at h
      · simp at h
    · rename_i id
      split at h
      · rename_i ks vs hid
        split at h
        · rename_i ks' vs' hk hvv
          injection h with h
          subst h
          cases hv with
          | map _ _ b hp =>
          obtain ⟨_, rfl⟩ := hp
          obtain ⟨es, clock, hb, hkl, hvl⟩ := hR.obj id _ hid
          have hi := (List.getElem?_eq_some_iff.1 hid).1
          exact .fmap _ _ _ _ _ clock es (hM _ _ _ (Nat.le_max_left _ _) (hN _ (hR.lo id hi) (hR.hi id hi))) hb (ih.list hkl hk) (ih.list hvl hvv)
            (tagsLe_of_tagL (Nat.le_trans (Nat.le_max_left _ _) (Nat.le_max_right _ _))) (tagsLe_of_tagL (Nat.le_trans (Nat.le_max_right _ _) (Nat.le_max_right _ _)))
        · simp at h
      · simp at h
    · rename_i cs
      simp only [Option.map_eq_some_iff] at h
      obtain ⟨cs', hcs, rfl⟩ := h
      obtain ⟨vs, rfl, hl, h1⟩ := V_agg hv
      exact .agg _ _ _ (ih.list hl hcs) (ih.one hl h1 hcs)
    · rename_i cs
      simp only [Option.map_eq_some_iff] at h
      obtain ⟨cs', hcs, rfl⟩ := h
      obtain ⟨vs, rfl, hl⟩ := V_tuple hv
      exact .tuple _ _ _ (ih.list hl hcs)
    · rename_i ty u
      simp only [Option.map_eq_some_iff] at h
      obtain ⟨u', hu, rfl⟩ := h
      cases hv with
      | iface _ _ _ cu hcu => exact .iface _ _ _ _ (ih.ok _ _ _ hcu hu)
    · rename_i f a b
      split at h
      · rename_i a' b' ha hb
        injection h with h
        subst h
        cases hv with
        | func _ _ _ _ us ws hu hw => exact .func _ _ _ _ _ _ (ih.list hu ha) (ih.list hw hb)
      · simp at h
    · simp at h
    · injection h with h
      subst h
      rename_i h1 h2 h3 h4 h5 h6 h7 h8 h9
      refine hpass hv ?_
      cases v <;> first | rfl | exact (h1 _ _ rfl).elim | exact (h2 _ _ _ _ rfl).elim | exact (h3 _ _ _ _ _ _ rfl).elim | exact (h4 _ rfl).elim | exact (h5 _ rfl).elim | exact (h6 _ rfl).elim | exact (h7 _ _ rfl).elim | exact (h8 _ _ _ rfl).elim | exact (h9 rfl).elim

end
end Go.Proofs.Ytmocplkpnickgaa.Am
