/-
  THE ABSTRACT MACHINE, part 17: maps.
-/
import Derived.Test.YtmocplkpnickgaaAmFrz
namespace Go.Proofs.Ytmocplkpnickgaa.Am
open Go
set_option linter.unusedVariables false
set_option linter.unusedSimpArgs false

section
variable {P : Program} {E : Env} {cf : FuncId → FuncId} {κ : K}

/-! keys -/
mutual
theorem checkKey_flat (empty : Bool) : ∀ (d : Nat) {t : TypeId} {ks : List EK}, flatT P d t = some ks → ∀ (D : Nat), d ≤ D → ∀ {as : List Value} {v : Value} (w : World), as.length = ks.length → formed P t as v →
    (Instr.checkKey empty D t v).run P w = .ok () w
  | 0, _, _, h, _, _, _, _, _, _, _ => by simp [flatT] at h
  | d + 1, _, _, _, 0, hD, _, _, _, _, _ => by omega
  | d + 1, t, ks, h, D + 1, hD, as, v, w, hl, hf => by
    unfold flatT at h
    unfold formed at hf
    split at h
    · rename_i k hu
      simp only [hu] at hf
      simp only [Instr.checkKey, Sem.run_bind, run_underlying hu, Result.andThen, Sem.run_pure]
    · rename_i hu
      simp only [Instr.checkKey, Sem.run_bind, run_underlying hu, Result.andThen, Sem.run_pure]
    · rename_i hu
      simp only [Instr.checkKey, Sem.run_bind, run_underlying hu, Result.andThen, Sem.run_pure]
    · rename_i fs hu
      simp only [hu] at hf
      subst hf
      split at h
      · simp at h
      · have := checkFields_flat empty d h D (by omega) (as := as) w (by omega)
        simp only [Instr.checkKey, Sem.run_bind, run_underlying hu, Result.andThen]
        rw [← Array.forIn_toList]
        simp only [bind_pure_comp] at this ⊢
        rw [this]
        simp
    · simp at h
theorem checkFields_flat (empty : Bool) : ∀ (d : Nat) {fs : List Field} {off : Nat} {ks : List EK}, flatFs P d fs off = some ks → ∀ (D : Nat), d ≤ D → ∀ {as : List Value} (w : World), off + ks.length ≤ as.length →
    (forIn fs PUnit.unit (fun f _ => (if f.name ≠ "_" then do Instr.checkKey empty D f.type (← part f.type as.toArray f.offset); pure (.yield PUnit.unit) else pure (.yield PUnit.unit) : Sem (ForInStep PUnit)))).run P w = .ok PUnit.unit w
  | 0, _, _, _, h, _, _, _, _, _ => by simp [flatFs] at h
  | d + 1, [], off, ks, h, _, _, _, w, _ => by simp
  | d + 1, f :: fs, off, ks, h, D, hD, as, w, hl => by
    unfold flatFs at h
    split at h
    · rename_i hf
      obtain ⟨ho, hn⟩ := hf
      split at h
      · rename_i ks1 hk1
        split at h
        · rename_i hsz
          cases hk2 : flatFs P d fs (off + ks1.length) with
          | none => simp [hk2] at h
          | some ks2 =>
            simp [hk2] at h; subst h
            simp only [List.length_append] at hl
            obtain ⟨va, hva, fa⟩ := part_formed (n := 0) (xs := as) (off := off) hk1 hsz (by omega) w
            subst ho
            have h1 := checkKey_flat empty d hk1 D (by omega) w (by simp; omega) fa
            have h2 := checkFields_flat empty d hk2 D (by omega) (as := as) w (by omega)
            rw [List.forIn_cons]
            simp only [if_pos hn, Sem.run_bind, hva, h1, Result.andThen, Sem.run_pure]
            exact h2
        · simp at h
      · simp at h
    · simp at h
end

/-- what a map's type says of its keys -/
structure KeyT (P : Program) (kt : TypeId) (agg : Bool) (q : List EK) : Prop where
  flat : ∃ d, d ≤ 10000 ∧ flatT P d kt = some q
  agg : isStructT P kt = agg

theorem key_formed {kt : TypeId} {agg : Bool} {q : List EK} (hK : KeyT P kt agg q) {k : AVal} {ck : Value} (hk : κ.V E cf k ck) {r : Bool} {e : AVal} {ce : Value} (he : κ.V E cf e ce) (h : keyEq agg q k e = some r) :
    CEs q ck.cells.toList ce.cells.toList r ∧ formed P kt ck.cells.toList ck ∧ formed P kt ce.cells.toList ce := by
  unfold keyEq at h
  split at h
  · rename_i hc
    obtain ⟨hka, hea⟩ := hc
    have hform : ∀ {x : AVal} {cx : Value}, κ.V E cf x cx → isAggK x = agg → (∃ q' y, cellsEq q' x.cells y = some r ∨ cellsEq q' y x.cells = some r) → formed P kt cx.cells.toList cx ∧ κ.VL E cf x.cells cx.cells.toList := by
      intro x cx hx ha hq
      have hst := hK.agg
      unfold isStructT at hst
      cases x <;> simp only [isAggK] at ha <;> first
        | (subst ha
           obtain ⟨vs, rfl, hl, h1⟩ := V_agg hx
           refine ⟨?_, by simpa [Value.cells] using hl⟩
           unfold formed
           split at hst <;> simp_all [Value.cells])
        | (subst ha
           refine ⟨?_, ?_⟩
           · unfold formed
             split
             · rename_i hu; simp [hu] at hst
             · cases hx <;> first
                 | rfl
                 | (obtain ⟨q', y, hq | hq⟩ := hq <;> (cases q' <;> cases y <;> simp at hq) <;> (rename_i a b c d; cases a <;> cases c <;> simp at hq))
           · cases hx <;> first
               | (simp only [AVal.cells, Value.cells]; exact VL_one (by constructor <;> assumption))
               | (obtain ⟨q', y, hq | hq⟩ := hq <;> (cases q' <;> cases y <;> simp at hq) <;> (rename_i a b c d; cases a <;> cases c <;> simp at hq)))
    obtain ⟨f1, l1⟩ := hform hk hka ⟨q, e.cells, .inl h⟩
    obtain ⟨f2, l2⟩ := hform he hea ⟨q, k.cells, .inr h⟩
    exact ⟨CEs_of l1 l2 h, f1, f2⟩
  · simp at h

/-- two keys -/
theorem key_equal {kt : TypeId} {agg : Bool} {q : List EK} (hK : KeyT P kt agg q) {k : AVal} {ck : Value} (hk : κ.V E cf k ck) {r : Bool} {e : AVal} {ce : Value} (he : κ.V E cf e ce) (h : keyEq agg q k e = some r) (w : World) :
    (Op.equal kt ck ce).run P w = .ok r w := by
  obtain ⟨h1, h2, h3⟩ := key_formed hK hk he h
  obtain ⟨d, hd, hf⟩ := hK.flat
  exact equalIn_flat d hf 10000 hd w h1 h2 h3

theorem key_check {kt : TypeId} {agg : Bool} {q : List EK} (hK : KeyT P kt agg q) {k : AVal} {ck : Value} (hk : κ.V E cf k ck) (h : (keyEq agg q k k).isSome = true) (empty : Bool) (w : World) :
    (Instr.checkKey empty 10000 kt ck).run P w = .ok () w := by
  obtain ⟨r, hr⟩ := Option.isSome_iff_exists.1 h
  obtain ⟨h1, h2, h3⟩ := key_formed hK hk hk hr
  obtain ⟨d, hd, hf⟩ := hK.flat
  exact checkKey_flat empty d hf 10000 hd w (CEs_len h1).1 h2

/-- the entry at a place, as the model tells it -/
def found (es : List MapEntry) (i0 : Nat) : Option Nat → Option (Nat × Value)
  | none => none
  | some i => (es[i]?).map fun e => (i0 + i, e.val)

theorem findAsking_run {kt : TypeId} {agg : Bool} {q : List EK} (hK : KeyT P kt agg q) {k : AVal} {ck : Value} (hk : κ.V E cf k ck) : ∀ {ks : List AVal} {es : List MapEntry} {r : Option Nat} (i0 : Nat) (w : World), κ.VL E cf ks (es.map (·.key)) →
    findK agg q k ks = some r → (Instr.findAsking kt ck es i0).run P w = .ok (found es i0 r) w
  | [], [], r, i0, w, _, h => by simp at h; subst h; simp [Instr.findAsking, found]
  | x :: ks, e :: es, r, i0, w, .cons _ _ _ _ _ hx hks, h => by
    unfold findK at h
    split at h
    · rename_i hkey
      injection h with h
      subst h
      have := key_equal (P := P) hK hk hx hkey w
      simp [Instr.findAsking, this, Result.andThen, found]
    · rename_i hkey
      have hne := key_equal (P := P) hK hk hx hkey w
      split at h
      · rename_i i hi
        injection h with h
        subst h
        have ih := findAsking_run hK hk (i0 + 1) w hks hi
        simp [Instr.findAsking, hne, Result.andThen, ih, found]
        cases es[i]? <;> simp
        omega
      · rename_i hi
        injection h with h
        subst h
        have ih := findAsking_run hK hk (i0 + 1) w hks hi
        simp [Instr.findAsking, hne, Result.andThen, ih, found]
      · simp at h
    · simp at h

theorem sameNow_CE {d : TypeDesc} {q : EK} {a b : Value} {r : Bool} (h : CE q a b r) (hd : (∃ k, d = .int k ∧ q = .i) ∨ (d = .string ∧ q = .s) ∨ (d = .bool ∧ q = .b)) : Instr.sameNow d a b = some r := by
  rcases hd with ⟨k, rfl, rfl⟩ | ⟨rfl, rfl⟩ | ⟨rfl, rfl⟩ <;> cases h <;> simp [Instr.sameNow]
  rename_i a b
  exact beq_toListBytes a b

theorem findNow_run {d : TypeDesc} {kt : TypeId} {q : EK} (hK : KeyT P kt false [q]) (hd : (∃ k, d = .int k ∧ q = .i) ∨ (d = .string ∧ q = .s) ∨ (d = .bool ∧ q = .b)) (hu : P.underlying kt = some d) {k : AVal} {ck : Value} (hk : κ.V E cf k ck) : ∀ {ks : List AVal} {es : List MapEntry} {r : Option Nat} (i0 : Nat), κ.VL E cf ks (es.map (·.key)) →
    findK false [q] k ks = some r → Instr.findNow d ck es i0 = some (found es i0 r)
  | [], [], r, i0, _, h => by simp at h; subst h; simp [Instr.findNow, found]
  | x :: ks, e :: es, r, i0, .cons _ _ _ _ _ hx hks, h => by
    have hcell : ∀ {b : Bool}, keyEq false [q] k x = some b → Instr.sameNow d ck e.key = some b := by
      intro b hb
      obtain ⟨h1, h2, h3⟩ := key_formed (P := P) hK hk hx hb
      have f1 : [ck] = ck.cells.toList := by
        unfold formed at h2
        rcases hd with ⟨kk, rfl, _⟩ | ⟨rfl, _⟩ | ⟨rfl, _⟩ <;> simpa [hu] using h2
      have f2 : [e.key] = e.key.cells.toList := by
        unfold formed at h3
        rcases hd with ⟨kk, rfl, _⟩ | ⟨rfl, _⟩ | ⟨rfl, _⟩ <;> simpa [hu] using h3
      rw [← f1, ← f2] at h1
      cases h1 with
      | cons _ _ _ r1 _ _ _ rs c1 c2 =>
        cases c2
        rw [Bool.and_true]
        exact sameNow_CE c1 hd
    unfold findK at h
    split at h
    · rename_i hkey
      injection h with h
      subst h
      simp [Instr.findNow, hcell hkey, found]
    · rename_i hkey
      split at h
      · rename_i i hi
        injection h with h
        subst h
        have ih := findNow_run hK hd hu hk (i0 + 1) hks hi
        simp [Instr.findNow, hcell hkey, ih, found]
        cases es[i]? <;> simp
        omega
      · rename_i hi
        injection h with h
        subst h
        have ih := findNow_run hK hd hu hk (i0 + 1) hks hi
        simp [Instr.findNow, hcell hkey, ih, found]
      · simp at h
    · simp at h

theorem findNow_struct {d : TypeDesc} (hd : ∃ fs, d = .struct fs) (ck : Value) (e : MapEntry) (es : List MapEntry) (i0 : Nat) : Instr.findNow d ck (e :: es) i0 = none := by
  obtain ⟨fs, rfl⟩ := hd
  simp [Instr.findNow, Instr.sameNow]

theorem findKey_run {kt : TypeId} {agg : Bool} {q : List EK} (hK : KeyT P kt agg q) {k : AVal} {ck : Value} (hk : κ.V E cf k ck) {ks : List AVal} {es : List MapEntry} {r : Option Nat} (w : World) (hks : κ.VL E cf ks (es.map (·.key)))
    (h : findK agg q k ks = some r) : (Instr.findKey kt ck es).run P w = .ok (found es 0 r) w := by
  obtain ⟨d, hd, hf⟩ := hK.flat
  have hag := hK.agg
  cases d with
  | zero => simp [flatT] at hf
  | succ d =>
    unfold flatT at hf
    split at hf
    · rename_i k0 hu
      simp at hf; subst hf
      have : agg = false := by rw [← hag]; simp [isStructT, hu]
      subst this
      have := findNow_run (P := P) hK (.inl ⟨k0, rfl, rfl⟩) hu hk 0 hks h
      simp [Instr.findKey, run_underlying hu, Result.andThen, this]
    · rename_i hu
      simp at hf; subst hf
      have : agg = false := by rw [← hag]; simp [isStructT, hu]
      subst this
      have := findNow_run (P := P) hK (.inr (.inl ⟨rfl, rfl⟩)) hu hk 0 hks h
      simp [Instr.findKey, run_underlying hu, Result.andThen, this]
    · rename_i hu
      simp at hf; subst hf
      have : agg = false := by rw [← hag]; simp [isStructT, hu]
      subst this
      have := findNow_run (P := P) hK (.inr (.inr ⟨rfl, rfl⟩)) hu hk 0 hks h
      simp [Instr.findKey, run_underlying hu, Result.andThen, this]
    · rename_i fs hu
      cases es with
      | nil =>
        cases hks
        simp at h; subst h
        simp [Instr.findKey, run_underlying hu, Result.andThen, Instr.findNow, found]
      | cons e es =>
        have h1 := findNow_struct ⟨fs, rfl⟩ ck e es 0
        have h2 := findAsking_run (P := P) hK hk 0 w hks h
        simp [Instr.findKey, run_underlying hu, Result.andThen, h1, h2]
    · simp at hf

/-! look-ups -/
theorem mapOf_ok (hR : κ.R E cf) {x : AVal} {cx : Value} {ks vs : List AVal} (hx : κ.V E cf x cx) (h : mapOf κ.σ x = some (ks, vs)) :
    (cx = .map none ∧ ks = [] ∧ vs = []) ∨ ∃ b es clock, cx = .map (some b) ∧ κ.h[b]? = some (.map es clock) ∧ κ.VL E cf ks (es.toList.map (·.key)) ∧ κ.VL E cf vs (es.toList.map (·.val)) := by
  unfold mapOf at h
  split at h
  · cases hx; simp at h; exact .inl ⟨rfl, h.1, h.2⟩
  · simp at h
    obtain ⟨rfl, rfl⟩ := h
    cases hx with
    | fmap _ t _ _ b clock es h1 h2 h3 h4 h5 h6 =>
    exact .inr ⟨b, es, clock, rfl, h2, VRelL.mono (fun _ _ h => ⟨h, rfl⟩) (noIds_le _) h3, VRelL.mono (fun _ _ h => ⟨h, rfl⟩) (noIds_le _) h4⟩
  · rename_i id
    split at h
    · rename_i ks' vs' hid
      simp at h
      obtain ⟨rfl, rfl⟩ := h
      cases hx with
      | map _ _ b hp =>
      obtain ⟨_, rfl⟩ := hp
      obtain ⟨es, clock, hb, h1, h2⟩ := hR.obj id _ hid
      exact .inr ⟨_, es, clock, rfl, hb, h1, h2⟩
    · simp at h
  · simp at h

theorem getObj_map {w : World} {b : Nat} {es : Array MapEntry} {clock : Nat} (h : w.heap[b]? = some (.map es clock)) : (getObj b).run P w = .ok (.map es clock) w := by
  simp [getObj, Sem.run, h]

theorem findK_lt {agg : Bool} {q : List EK} {k : AVal} : ∀ {ks : List AVal} {i : Nat}, findK agg q k ks = some (some i) → i < ks.length ∧ ∃ e, ks[i]? = some e ∧ keyEq agg q k e = some true
  | [], i, h => by simp at h
  | x :: ks, i, h => by
    unfold findK at h
    split at h
    · rename_i hk
      simp at h; subst h
      exact ⟨by simp, x, by simp, hk⟩
    · split at h
      · rename_i j hj
        simp at h; subst h
        obtain ⟨h1, e, h2, h3⟩ := findK_lt hj
        exact ⟨by simp; omega, e, by simpa using h2, h3⟩
      · simp at h
      · simp at h
    · simp at h

theorem lookup_run {t kt et : TypeId} {agg : Bool} {q : List EK} {z : AVal} (ht : P.underlying t = some (.map kt et)) (hK : KeyT P kt agg q) {i0 : TypeInfo} {zv : Value} (hi : P.info? et = some i0) (hz : i0.zero = some zv) (hzc : chkC z zv = true)
    {x k v : AVal} {cx ck : Value} {ok : Bool} (hx : κ.V E cf x cx) (hk : κ.V E cf k ck) (h : lookupV κ.σ agg q z x k ok = some v) (hR : κ.R E cf) : GV P E cf κ (Instr.lookup t cx ck ok) v κ.σ := by
  unfold lookupV at h
  split at h
  · rename_i ks vs hm
    have hfk : ∃ r, findK agg q k ks = some r ∧ (keyEq agg q k k).isSome = true ∧ (match r with | some i => (vs[i]?).map fun v => if ok then AVal.tuple [v, .bool true] else v | none => some (if ok then .tuple [z, .bool false] else z)) = some v := by
      unfold findKK at h
      by_cases hc : (keyEq agg q k k).isSome = true
      · simp only [hc, if_true] at h
        cases hf : findK agg q k ks with
        | none => simp [hf] at h
        | some r => exact ⟨r, rfl, hc, by rw [hf] at h; cases r <;> exact h⟩
      · rw [if_neg hc] at h; simp at h
    obtain ⟨r, hf, hself, hv⟩ := hfk
    have hzero : ∀ w : World, (zeroValue et).run P w = .ok zv w := fun w => by simp [zeroValue, typeInfo, hi, hz]
    have hzV : κ.V E cf z zv := chkC_ok _ _ hzc
    rcases mapOf_ok hR hx hm with ⟨rfl, rfl, rfl⟩ | ⟨b, es, clock, rfl, hb, hkl, hvl⟩
    · simp at hf; subst hf
      simp only [Option.some.injEq] at hv
      have hrun := findKey_run (P := P) hK hk (ks := []) (es := []) (r := none)
      refine GV.pure hR (cv := if ok then .tuple #[zv, .bool false] else zv) (fun w _ => ?_) ?_
      · have h1 := hrun w (.nil _) (by simp)
        simp [Instr.lookup, run_underlying ht, Result.andThen, key_check (P := P) hK hk hself, h1, found, hzero]
      · subst hv
        cases ok
        · exact hzV
        · have := VRel.tuple (cf := cf) (h := κ.h) (S := κ.safe E) κ.ids [z, .bool false] [zv, .bool false] (.cons _ _ _ _ _ hzV (.cons _ _ _ _ _ (.bool _ _) (.nil _)))
          simpa using this
    · have hrun : ∀ w : World, w.heap = κ.h → (Instr.findKey kt ck es.toList).run P w = .ok (found es.toList 0 r) w := fun w hw => findKey_run (P := P) hK hk w hkl hf
      cases r with
      | none =>
        simp only [Option.some.injEq] at hv
        refine GV.pure hR (cv := if ok then .tuple #[zv, .bool false] else zv) (fun w hw => ?_) ?_
        · have h1 := hrun w hw
          have h2 := getObj_map (P := P) (w := w) (by rw [hw]; exact hb)
          simp [Instr.lookup, run_underlying ht, Result.andThen, key_check (P := P) hK hk hself, h1, h2, found, hzero]
        · subst hv
          cases ok
          · exact hzV
          · have := VRel.tuple (cf := cf) (h := κ.h) (S := κ.safe E) κ.ids [z, .bool false] [zv, .bool false] (.cons _ _ _ _ _ hzV (.cons _ _ _ _ _ (.bool _ _) (.nil _)))
            simpa using this
      | some i =>
        simp only at hv
        cases hvi : vs[i]? with
        | none => simp [hvi] at hv
        | some y =>
          simp only [hvi, Option.map_some, Option.some.injEq] at hv
          obtain ⟨cy, hcy, hyV⟩ := VL_get hvl i y hvi
          rw [List.getElem?_map] at hcy
          cases hei : es.toList[i]? with
          | none => simp [hei] at hcy
          | some e =>
            simp only [hei, Option.map_some, Option.some.injEq] at hcy
            refine GV.pure hR (cv := if ok then .tuple #[cy, .bool true] else cy) (fun w hw => ?_) ?_
            · have h1 := hrun w hw
              have h2 := getObj_map (P := P) (w := w) (by rw [hw]; exact hb)
              simp only [found, hei, Option.map_some, hcy] at h1
              simp [Instr.lookup, run_underlying ht, Result.andThen, key_check (P := P) hK hk hself, h1, h2]
            · subst hv
              cases ok
              · exact hyV
              · have := VRel.tuple (cf := cf) (h := κ.h) (S := κ.safe E) κ.ids [y, .bool true] [cy, .bool true] (.cons _ _ _ _ _ hyV (.cons _ _ _ _ _ (.bool _ _) (.nil _)))
                simpa using this
  · simp at h

theorem lenM_run {t ty kt et : TypeId} (ht : P.underlying t = some (.map kt et)) {x : AVal} {cx : Value} {n : Nat} (hx : κ.V E cf x cx) (h : lenMV κ.σ x = some n) (hR : κ.R E cf) : GV P E cf κ (Builtin.len_ #[t] ty #[cx]) (.int .i64 n) κ.σ := by
  have hm : ∃ ks vs, mapOf κ.σ x = some (ks, vs) ∧ ks.length = n := by
    unfold lenMV at h
    split at h
    · simp at h; exact ⟨[], [], rfl, h⟩
    · simp at h; exact ⟨_, _, rfl, h⟩
    · split at h
      · rename_i ks vs hid
        simp at h
        exact ⟨ks, vs, by simp [mapOf, hid], h⟩
      · simp at h
    · simp at h
  obtain ⟨ks, vs, hm, hn⟩ := hm
  rcases mapOf_ok hR hx hm with ⟨rfl, rfl, rfl⟩ | ⟨b, es, clock, rfl, hb, hkl, hvl⟩
  · simp at hn; subst hn
    exact GV.pure hR (cv := .int .i64 0) (fun w _ => by simp [Builtin.len_, run_underlying ht, goInt, Result.andThen]) (.int _ _ _)
  · have hl := VL_len hkl
    simp at hl
    refine GV.pure hR (cv := .int .i64 n) (fun w hw => ?_) (.int _ _ _)
    have h2 := getObj_map (P := P) (w := w) (by rw [hw]; exact hb)
    simp [Builtin.len_, run_underlying ht, goInt, Result.andThen, h2]
    omega

/-! stores into maps -/
theorem cellEq_true {q : EK} {a b : AVal} (h : cellEq q a b = some true) : a = b := by
  unfold cellEq at h
  split at h
  · split at h
    · rename_i hk; subst hk; simp at h; subst h; rfl
    · simp at h
  · simp at h; subst h; rfl
  · simp at h; subst h; rfl
  · simp at h

theorem cellsEq_true : ∀ {q : List EK} {a b : List AVal}, cellsEq q a b = some true → a = b
  | [], [], [], _ => rfl
  | k :: q, a :: as, b :: bs, h => by
    unfold cellsEq at h
    split at h
    · rename_i x y hx hy
      simp at h
      obtain ⟨rfl, rfl⟩ := h
      rw [cellEq_true hx, cellsEq_true hy]
    · simp at h
  | [], [], _ :: _, h => by simp at h
  | [], _ :: _, _, h => by simp at h
  | _ :: _, [], _, h => by simp at h
  | _ :: _, _ :: _, [], h => by simp at h

theorem cells_scalar {a : AVal} (h : isAggK a = false) : a.cells = [a] := by
  cases a <;> first | rfl | (simp at h)

theorem cells_inj {a b : AVal} (h : a.cells = b.cells) (hk : isAggK a = isAggK b) : a = b := by
  cases hb : isAggK b with
  | false =>
    rw [hb] at hk
    rw [cells_scalar hk, cells_scalar hb] at h
    exact (List.cons.inj h).1
  | true =>
    rw [hb] at hk
    cases a <;> simp [isAggK] at hk
    cases b <;> simp [isAggK] at hb
    simp only [AVal.cells] at h
    rw [h]

theorem keyEq_true {agg : Bool} {q : List EK} {a b : AVal} (h : keyEq agg q a b = some true) : a = b := by
  unfold keyEq at h
  split at h
  · rename_i hc
    exact cells_inj (cellsEq_true h) (hc.1.trans hc.2.symm)
  · simp at h

theorem sameBits_CE {q : EK} {a b : Value} (h : CE q a b true) (n : Nat) : Instr.sameBits (n + 1) a b = true := by
  generalize hr : true = r at h
  cases h with
  | i k x y => simp only [Instr.sameBits, BEq.rfl, Bool.true_and, ← hr]
  | s x y => simp only [Instr.sameBits, beq_toListBytes, ← hr]
  | b x y => simp only [Instr.sameBits, ← hr]

theorem sameBits_cells : ∀ {q : List EK} {as bs : List Value} (n : Nat), CEs q as bs true → as.length = bs.length ∧ (as.zip bs).all (fun (x, y) => Instr.sameBits (n + 1) x y) = true
  | [], _, _, n, h => by cases h; simp
  | k :: q, _, _, n, h => by
    generalize hr : true = r at h
    cases h with
    | cons _ a b r1 _ as bs rs h1 h2 =>
      have h3 : r1 = true ∧ rs = true := by simpa using hr.symm
      obtain ⟨rfl, rfl⟩ := h3
      obtain ⟨h4, h5⟩ := sameBits_cells n h2
      simp only [List.length_cons, h4, List.zip_cons_cons, List.all_cons, sameBits_CE h1 n, Bool.true_and, h5, and_self]

theorem sameBits_key {kt : TypeId} {agg : Bool} {q : List EK} (hK : KeyT P kt agg q) {k : AVal} {ck : Value} (hk : κ.V E cf k ck) {e : AVal} {ce : Value} (he : κ.V E cf e ce) (h : keyEq agg q k e = some true) : Instr.sameBits 10000 ce ck = true := by
  have hke := keyEq_true h
  subst hke
  obtain ⟨h1, h2, h3⟩ := key_formed (P := P) hK he hk h
  have hgoal : Instr.sameBits (9999 + 1) ce ck = true := by
    unfold formed at h2 h3
    split at h2
    · rename_i hu
      simp only [hu] at h3
      rw [h2, h3]
      obtain ⟨h4, h5⟩ := sameBits_cells 9998 h1
      simp only [Instr.sameBits, List.size_toArray, h4, BEq.rfl, Bool.true_and]
      exact h5
    · rename_i hu
      split at h3
      · rename_i hu2; exact absurd hu2 (hu _)
      · rw [← h2, ← h3] at h1
        generalize hr : true = r at h1
        cases h1 with
        | cons _ a b r1 _ as bs rs g1 g2 =>
          cases g2
          have : r1 = true := by simpa using hr.symm
          subst this
          exact sameBits_CE g1 9999
  exact hgoal

theorem setObj_map {w : World} {b : Nat} {es : Array MapEntry} {clock : Nat} (h : w.heap[b]? = some (.map es clock)) (o : Obj) : (setObj b o).run P w = .ok () { w with heap := w.heap.setIfInBounds b o } := by
  simp [setObj, Sem.run, h]

theorem findKK_some {agg : Bool} {q : List EK} {k : AVal} {ks : List AVal} {r : Option Nat} (h : findKK agg q k ks = some r) : (keyEq agg q k k).isSome = true ∧ findK agg q k ks = some r := by
  unfold findKK at h
  by_cases hc : (keyEq agg q k k).isSome = true
  · rw [if_pos hc] at h; exact ⟨hc, h⟩
  · rw [if_neg hc] at h; simp at h

theorem mapset_run {t kt et : TypeId} {agg : Bool} {q : List EK} (ht : P.underlying t = some (.map kt et)) (hK : KeyT P kt agg q)
    {m k v : AVal} {cm ck cv : Value} {σ' : Store} (hm : κ.V E cf m cm) (hk : κ.V E cf k ck) (hv : κ.V E cf v cv) (h : mapsetV κ.σ agg q m k v = some σ') (hR : κ.R E cf) : GU P E cf κ (Instr.mapUpdate t cm ck cv) σ' := by
  unfold mapsetV at h
  split at h
  · rename_i id
    split at h
    · rename_i ks vs hid
      cases hm with
      | map _ _ b hp =>
      obtain ⟨_, rfl⟩ := hp
      obtain ⟨es, clock, hb, hkl, hvl⟩ := hR.obj id _ hid
      split at h
      · rename_i i hfk
        injection h with h
        subst h
        obtain ⟨hself, hf⟩ := findKK_some hfk
        obtain ⟨hlt, e, hke, hkeq⟩ := findK_lt hf
        have heq := keyEq_true hkeq
        subst heq
        obtain ⟨cek, hcek, hekV⟩ := VL_get hkl i _ hke
        rw [List.getElem?_map] at hcek
        cases hei : es.toList[i]? with
        | none => simp [hei] at hcek
        | some en =>
          simp only [hei, Option.map_some, Option.some.injEq] at hcek
          subst hcek
          have hsb := sameBits_key (P := P) hK hk hekV hkeq
          have hei' : es[i]? = some en := by simpa using hei
          let es' := es.modify i fun e => { e with key := ck, val := cv }
          have hle : κ.Le (κ.upd id (.map es' clock) (.map ks (vs.set i v))) := K.upd_le hR id _ _ _ hid ⟨⟨_, _, K.upd_σ id _ _ _ hid⟩, rfl⟩
          have hes' : es'.toList = es.toList.set i { en with key := ck, val := cv } := by
            apply List.ext_getElem?
            intro j
            simp only [es', Array.getElem?_toList, Array.getElem?_modify, List.getElem?_set]
            by_cases hj : i = j
            · subst hj
              have hi := (Array.getElem?_eq_some_iff.1 hei').1
              simp [hi]
              exact congrArg MapEntry.born (Array.getElem?_eq_some_iff.1 hei').2
            · simp [hj]
          intro w hw
          have hb' : w.heap[κ.loc id]? = some (.map es clock) := by rw [hw]; exact hb
          refine ⟨{ w with heap := w.heap.setIfInBounds (κ.loc id) (.map es' clock) }, _, ?_, by simp [K.upd, hw], rfl, hle, K.upd_R hR id _ _ _ hid hle ⟨es', clock, K.upd_at hR id _ _ _ hid, ?_, ?_⟩⟩
          · have h1 := findKey_run (P := P) hK hk w hkl hf
            simp only [found, hei, Option.map_some] at h1
            simp only [Instr.mapUpdate, Sem.run_bind, run_underlying ht, Result.andThen, getObj_map (P := P) hb', key_check (P := P) hK hk hself, h1]
            simp [hei', Instr.keyThatStays, hsb, Result.andThen, setObj_map (P := P) hb']
            rfl
          · rw [hes', List.map_set]
            have := VL_set (K.VL.le hR.lb hle hkl) i (K.V.le hR.lb hle hk)
            have e1 : ks.set i k = ks := by
              apply List.ext_getElem?
              intro j
              rw [List.getElem?_set]
              by_cases hj : i = j
              · subst hj
                have hg := (List.getElem?_eq_some_iff.1 hke).2
                simp [hlt, hg]
              · simp [hj]
            rwa [e1] at this
          · rw [hes', List.map_set]
            exact VL_set (K.VL.le hR.lb hle hvl) i (K.V.le hR.lb hle hv)
      · rename_i hfk
        injection h with h
        subst h
        obtain ⟨hself, hf⟩ := findKK_some hfk
        let es' := es.push { key := ck, val := cv, born := clock }
        have hle : κ.Le (κ.upd id (.map es' (clock + 1)) (.map (ks ++ [k]) (vs ++ [v]))) := K.upd_le hR id _ _ _ hid ⟨⟨_, _, K.upd_σ id _ _ _ hid⟩, rfl⟩
        intro w hw
        have hb' : w.heap[κ.loc id]? = some (.map es clock) := by rw [hw]; exact hb
        refine ⟨{ w with heap := w.heap.setIfInBounds (κ.loc id) (.map es' (clock + 1)) }, _, ?_, by simp [K.upd, hw], rfl, hle, K.upd_R hR id _ _ _ hid hle ⟨es', clock + 1, K.upd_at hR id _ _ _ hid, ?_, ?_⟩⟩
        · have h1 := findKey_run (P := P) hK hk w hkl hf
          simp only [found] at h1
          simp [Instr.mapUpdate, run_underlying ht, Result.andThen, getObj_map (P := P) hb', key_check (P := P) hK hk hself, h1, setObj_map (P := P) hb', es']
        · simp only [es', Array.toList_push, List.map_append, List.map_cons, List.map_nil]
          exact VL_append (K.VL.le hR.lb hle hkl) (VL_one (K.V.le hR.lb hle hk))
        · simp only [es', Array.toList_push, List.map_append, List.map_cons, List.map_nil]
          exact VL_append (K.VL.le hR.lb hle hvl) (VL_one (K.V.le hR.lb hle hv))
      · simp at h
    · simp at h
  · simp at h

theorem VL_erase {hp : Array Obj} {S : Nat → Nat → Prop} {I : Ids} : ∀ {cs : List AVal} {vs : List Value} (i : Nat), VRelL cf hp S I cs vs → VRelL cf hp S I (cs.eraseIdx i) (vs.eraseIdx i)
  | [], _, i, h => by cases h; simp; exact .nil _
  | c :: cs, _, i, .cons _ _ v _ vs h1 h2 => by
    cases i with
    | zero => exact h2
    | succ i => exact .cons _ _ _ _ _ h1 (VL_erase i h2)

theorem map_erase {α β : Type} (f : α → β) : ∀ (l : List α) (i : Nat), (l.eraseIdx i).map f = (l.map f).eraseIdx i
  | [], i => by simp
  | a :: l, 0 => rfl
  | a :: l, i + 1 => by simp [map_erase f l i]

theorem mapdel_run {t t2 ty kt et : TypeId} {agg : Bool} {q : List EK} (ht : P.underlying t = some (.map kt et)) (hK : KeyT P kt agg q)
    {m k : AVal} {cm ck : Value} {σ' : Store} (hm : κ.V E cf m cm) (hk : κ.V E cf k ck) (h : mapdelV κ.σ agg q m k = some σ') (hR : κ.R E cf) : GV P E cf κ (Builtin.delete_ #[t, t2] ty #[cm, ck]) (.tuple []) σ' := by
  have hV : ∀ κ' : K, κ'.V E cf (.tuple []) (.tuple #[]) := fun κ' => .tuple _ [] [] (.nil _)
  unfold mapdelV at h
  split at h
  · cases hm
    split at h
    · rename_i r hfk
      injection h with h
      subst h
      obtain ⟨hself, hf⟩ := findKK_some hfk
      exact GV.pure hR (cv := .tuple #[]) (fun w _ => by simp [Builtin.delete_, run_underlying ht, Result.andThen, key_check (P := P) hK hk hself]) (hV _)
    · simp at h
  · rename_i id
    split at h
    · rename_i ks vs hid
      cases hm with
      | map _ _ b hp =>
      obtain ⟨_, rfl⟩ := hp
      obtain ⟨es, clock, hb, hkl, hvl⟩ := hR.obj id _ hid
      split at h
      · rename_i i hfk
        injection h with h
        subst h
        obtain ⟨hself, hf⟩ := findKK_some hfk
        obtain ⟨hlt, e, hke, hkeq⟩ := findK_lt hf
        have hl := VL_len hkl
        simp at hl
        have hi : i < es.size := by omega
        let es' := es.eraseIdxIfInBounds i
        have hes' : es'.toList = es.toList.eraseIdx i := by simp [es', Array.eraseIdxIfInBounds, hi]
        have hle : κ.Le (κ.upd id (.map es' clock) (.map (ks.eraseIdx i) (vs.eraseIdx i))) := K.upd_le hR id _ _ _ hid ⟨⟨_, _, K.upd_σ id _ _ _ hid⟩, rfl⟩
        intro w hw
        have hb' : w.heap[κ.loc id]? = some (.map es clock) := by rw [hw]; exact hb
        refine ⟨.tuple #[], { w with heap := w.heap.setIfInBounds (κ.loc id) (.map es' clock) }, _, ?_, by simp [K.upd, hw], rfl, hle, K.upd_R hR id _ _ _ hid hle ⟨es', clock, K.upd_at hR id _ _ _ hid, ?_, ?_⟩, hV _⟩
        · have h1 := findKey_run (P := P) hK hk w hkl hf
          have hei : es.toList[i]? = some es[i] := by simp [hi]
          simp only [found, hei, Option.map_some] at h1
          simp [Builtin.delete_, run_underlying ht, Result.andThen, getObj_map (P := P) hb', key_check (P := P) hK hk hself, h1, setObj_map (P := P) hb', es']
        · rw [hes', map_erase]
          exact VL_erase i (K.VL.le hR.lb hle hkl)
        · rw [hes', map_erase]
          exact VL_erase i (K.VL.le hR.lb hle hvl)
      · rename_i hfk
        injection h with h
        subst h
        obtain ⟨hself, hf⟩ := findKK_some hfk
        intro w hw
        have hb' : w.heap[κ.loc id]? = some (.map es clock) := by rw [hw]; exact hb
        have hsame : w.heap.setIfInBounds (κ.loc id) (.map es clock) = w.heap := by
          have hlt := (Array.getElem?_eq_some_iff.1 hb').1
          have hg := (Array.getElem?_eq_some_iff.1 hb').2
          apply Array.ext_getElem?
          intro j
          by_cases hj : j = κ.loc id
          · subst hj; simp [hlt, hg]
          · rw [Array.getElem?_setIfInBounds_ne (by omega)]
        refine ⟨.tuple #[], w, κ, ?_, ⟨hw, rfl, rfl⟩, rfl, K.Le.refl _, hR, hV _⟩
        have h1 := findKey_run (P := P) hK hk w hkl hf
        simp only [found] at h1
        simp [Builtin.delete_, run_underlying ht, Result.andThen, getObj_map (P := P) hb', key_check (P := P) hK hk hself, h1, setObj_map (P := P) hb', hsame]
      · simp at h
    · simp at h
  · simp at h

end
end Go.Proofs.Ytmocplkpnickgaa.Am
