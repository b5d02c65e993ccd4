/-
  THE ABSTRACT MACHINE, part 15: append.
-/
import Derived.Test.YtmocplkpnickgaaAmMem3
namespace Go.Proofs.Ytmocplkpnickgaa.Am
open Go
set_option linter.unusedVariables false
set_option linter.unusedSimpArgs false

section
variable {P : Program} {E : Env} {cf : FuncId → FuncId} {κ : K}

theorem elems_ok (hR : κ.R E cf) {sz : Nat} {a : AVal} {ca : Value} {ys : List AVal} (ha : κ.V E cf a ca) (h : elems sz κ.σ a = some ys) :
    ∃ p l c vs, ca = .slice p l c ∧ ys.length = l ∧ κ.VL E cf (ys.flatMap AVal.cells) vs ∧ AVal.elemsOk sz ys ∧ (p = none → ys = []) ∧ ∀ ad, p = some ad → (vs = [] ∧ ∃ t f s, a = .fslice t f s []) ∨ ∃ b o, ad = ⟨b, o, none⟩ ∧ rowAt κ.h b o vs := by
  unfold elems at h
  split at h
  · cases ha
    simp at h; subst h
    exact ⟨none, 0, 0, [], rfl, rfl, .nil _, fun _ h => by simp at h, fun _ => rfl, fun _ h => by simp at h⟩
  · rename_i t full sz' es
    split at h
    · rename_i hsz
      subst hsz
      injection h with h
      subst h
      cases ha with
      | fslice _ _ _ _ _ b o len cap vs g1 g2 g3 g4 g5 g6 g7 g8 g9 =>
        exact ⟨_, len, cap, vs, rfl, g7, VRelL.mono (fun _ _ h => ⟨h, rfl⟩) (noIds_le _) g2, g3, fun h => by simp at h, fun ad had => by cases had; exact .inr ⟨b, o, rfl, g6⟩⟩
      | zslice _ _ _ _ ad g1 =>
        exact ⟨_, 0, 0, [], rfl, rfl, .nil _, fun _ h => by simp at h, fun h => by simp at h, fun ad had => .inl ⟨rfl, _, _, _, rfl⟩⟩
    · simp at h
  · rename_i sz' id ep off len cap
    split at h
    · rename_i sz2 es ep' fl hid
      split at h
      · rename_i hc
        obtain ⟨rfl, hf⟩ := hc
        injection h with h
        subst h
        cases ha with
        | slice _ _ _ _ _ _ _ b o cap' hs =>
        obtain ⟨s1, s2, s3, es0, epo, fl0, s4, s5, s6⟩ := hs
        rw [hid] at s4
        cases s4
        obtain ⟨q1, q2, q3⟩ := s6 hf
        have hr : len ≤ cap.getD len := by
          cases cap with
          | none => simp
          | some c => have := s2 c rfl; simp; omega
        obtain ⟨g1, g2, g3, vs, e, us, rest, hb, hvs, hl⟩ := hR.obj id _ hid
        have hlen := VL_len hl
        have hfl := flat_length g3
        have hcur : rowAt κ.h (κ.loc id) (off * sz') ((us.drop (off * sz')).take (len * sz')) := by
          have : rowAt κ.h (κ.loc id) 0 us := fun j v hj => by
            simp only [cellAt, hb, Nat.zero_add]
            have : vs.toList[j]? = some v := by rw [hvs, List.getElem?_append_left (List.getElem?_eq_some_iff.1 hj).1]; exact hj
            simpa using this
          have := rowAt_take (n := len * sz') (rowAt_drop (n := off * sz') this)
          simpa using this
        refine ⟨_, len, cap', (us.drop (off * sz')).take (len * sz'), rfl, by simp; omega, ?_, elemsOk_take (elemsOk_drop g3), fun h => by simp at h, fun ad had => by
          cases had
          refine .inr ⟨b, o, rfl, ?_⟩
          by_cases hz : cap' = 0
          · have : len = 0 := by omega
            subst this
            intro j v hj
            simp at hj
          · rcases q2 with ⟨rfl, ho⟩ | ⟨u1, u2, u3, u4⟩
            · rcases ho with rfl | ho
              · exact hcur
              · exact absurd ho hz
            · rcases u4 with u4 | u4
              · exact absurd u4 hz
              · intro j v hj
                have hjlt : j < len * sz' := by have := (List.getElem?_eq_some_iff.1 hj).1; simp at this; omega
                have : len * sz' ≤ cap.getD len * sz' := Nat.mul_le_mul_right _ hr
                rw [u4 j (by omega)]
                exact hcur j v hj⟩
        rw [flat_take (elemsOk_drop g3), flat_drop g3]
        exact VL_take _ (VL_drop _ hl)
      · simp at h
    · simp at h
  · simp at h

/-- what append reads of a slice -/
theorem firstCells_run {sz : Nat} {p : Option Addr} {l c : Nat} {vs : List Value} (hl : vs.length = l * sz) (h : ∀ ad, p = some ad → l = 0 ∨ ∃ b o, ad = ⟨b, o, none⟩ ∧ rowAt κ.h b o vs) (hn : p = none → l = 0) (w : World) (hw : w.heap = κ.h) :
    (Builtin.firstCells sz l (.slice p l c)).run P w = .ok vs.toArray w := by
  cases p with
  | none =>
    have := hn rfl
    subst this
    have : vs = [] := by apply List.eq_nil_of_length_eq_zero; omega
    subst this
    simp [Builtin.firstCells]
  | some ad =>
    rcases h ad rfl with h0 | ⟨b, o, rfl, hr⟩
    · subst h0
      have : vs = [] := by apply List.eq_nil_of_length_eq_zero; omega
      subst this
      simp [Builtin.firstCells, loadCells, loadCellsFrom]
    simp only [Builtin.firstCells]
    rw [← hl]
    exact run_loadCells_list w ⟨b, o, none⟩ vs (fun j v hj => by rw [add_spot, cellAt_eq, hw]; exact hr j v hj)

theorem growBy_le (need : Nat) : ∀ (r c : Nat), c ≤ 2 * need + 512 → c < need ∨ c ≤ need + need / 4 + 192 → Builtin.growBy need r c ≤ 2 * need + 512 := by
  intro r
  induction r with
  | zero => intro c h _; simpa [Builtin.growBy] using h
  | succ r ih =>
    intro c h h2
    unfold Builtin.growBy
    split
    · exact h
    · exact ih _ (by omega) (.inr (by omega))

theorem nextcap_le (need cap : Nat) (h : cap < need) : Builtin.nextslicecap need cap ≤ 2 * need + 512 := by
  unfold Builtin.nextslicecap
  split
  · omega
  · split
    · omega
    · exact growBy_le _ _ _ (by omega) (.inl h)

structure ElemT (P : Program) (t t2 e : TypeId) (sz bytes : Nat) : Prop where
  ht : P.underlying t = some (.slice e)
  ht2 : ∃ e2, P.underlying t2 = some (.slice e2)
  info : ∃ i z, P.info? e = some i ∧ i.size = sz ∧ i.bytes = bytes ∧ i.zero = some z ∧ z.cells.size = sz
  h0 : 0 < sz
  hb : 0 < bytes
  hb2 : bytes ≤ 1048576

/-- it fits -/
theorem append_fits {t t2 e ty : TypeId} {sz bytes : Nat} (hT : ElemT P t t2 e sz bytes) {base p : Option Addr} {len cap l c : Nat} {vs : List Value} (hl : vs.length = l * sz) (hp : ∀ ad, p = some ad → l = 0 ∨ ∃ b o, ad = ⟨b, o, none⟩ ∧ rowAt κ.h b o vs)
    (hn : p = none → l = 0) (hfit : len + l ≤ cap) (w : World) (hw : w.heap = κ.h) :
    (Builtin.append_ #[t, t2] ty #[.slice base len cap, .slice p l c]).run P w =
      match base with
      | some a => ((storeCells (a.add (len * sz)) vs).run P w).andThen fun _ w' => .ok (.slice base (len + l) cap) w'
      | none => .ok (.slice base (len + l) cap) w := by
  obtain ⟨e2, ht2⟩ := hT.ht2
  obtain ⟨i, z, hi, hsz, hby, hz, hzs⟩ := hT.info
  have hf := firstCells_run (P := P) (c := c) hl hp hn w hw
  cases base with
  | none => simp [Builtin.append_, run_underlying hT.ht, run_underlying ht2, Result.andThen, sz_of hi, hsz, Builtin.lenOf, hfit, hf]
  | some a => simp [Builtin.append_, run_underlying hT.ht, run_underlying ht2, Result.andThen, sz_of hi, hsz, Builtin.lenOf, hfit, hf]

/-- it grows -/
theorem append_grows {t t2 e ty : TypeId} {sz bytes : Nat} (hT : ElemT P t t2 e sz bytes) {base p : Option Addr} {len cap l c : Nat} {vs os : List Value} (hl : vs.length = l * sz) (hp : ∀ ad, p = some ad → l = 0 ∨ ∃ b o, ad = ⟨b, o, none⟩ ∧ rowAt κ.h b o vs)
    (hn : p = none → l = 0) (hol : os.length = len * sz) (hop : ∀ ad, base = some ad → len = 0 ∨ ∃ b o, ad = ⟨b, o, none⟩ ∧ rowAt κ.h b o os) (hon : base = none → len = 0) (hgrow : cap < len + l) (hlim : (len + l) * bytes ≤ apLim) (w : World) (hw : w.heap = κ.h) :
    ∃ newCap rest w', (Builtin.append_ #[t, t2] ty #[.slice base len cap, .slice p l c]).run P w = .ok (.slice (some ⟨w.heap.size, 0, none⟩) (len + l) newCap) w' ∧
      w'.heap = w.heap.push (.cells ((os ++ vs).toArray ++ rest) e (0, 0)) ∧ len + l ≤ newCap ∧ ((os ++ vs).toArray ++ rest).size = newCap * sz ∧ w'.os = w.os ∧ w'.output = w.output := by
  obtain ⟨e2, ht2⟩ := hT.ht2
  obtain ⟨i, z, hi, hsz, hby, hz, hzs⟩ := hT.info
  have hfit : ¬ (len + l ≤ cap) := by omega
  have hl63 : len + l ≤ 70368744177664 := by
    have : (len + l) * 1 ≤ (len + l) * bytes := Nat.mul_le_mul_left _ hT.hb
    unfold apLim at hlim
    omega
  have hby' : i.bytes ≠ 0 := by have := hT.hb; omega
  have hnext : ¬ (Builtin.nextslicecap (len + l) cap * i.bytes > 2 ^ 48) := by
    have h1 := nextcap_le (len + l) cap hgrow
    have h2 : Builtin.nextslicecap (len + l) cap * i.bytes ≤ (2 * (len + l) + 512) * bytes := by rw [hby]; exact Nat.mul_le_mul_right _ h1
    have h3 : (2 * (len + l) + 512) * bytes = 2 * ((len + l) * bytes) + 512 * bytes := by rw [Nat.add_mul, Nat.mul_assoc]
    have := hT.hb2
    unfold apLim at hlim
    omega
  let q : Question := .appendCap (len + l) cap e
  let w1 : World := { w with drawn := w.drawn + 1 }
  let newCap : Nat := q.cut (w.tape w.drawn q)
  have hnc : len + l ≤ newCap := by simp only [newCap, q, Question.cut]; omega
  have hf := firstCells_run (P := P) (c := c) hl hp hn w1 hw
  have hof := firstCells_run (P := P) (c := cap) hol hop hon w1 hw
  have hch : (choose q).run P w = .ok newCap w1 := by
    simp [choose, Sem.run, Question.forced, q, newCap, w1]
  have hroom : (askRoom (newCap * i.bytes)).run P w1 = .ok () w1 := by
    unfold askRoom
    split <;> simp [mark, Sem.run]
  refine ⟨newCap, Builtin.zeroCells z.cells (newCap - (len + l)), { w1 with heap := w1.heap.push (.cells ((os ++ vs).toArray ++ Builtin.zeroCells z.cells (newCap - (len + l))) e) }, ?_, rfl, hnc, ?_, rfl, rfl⟩
  · have hch' := hch
    simp only [q] at hch'
    have hle63 : ¬ ((len : Int) + (l : Int) > IntKind.i64.max) := by
      simp only [IntKind.max, IntKind.signed, IntKind.bits]
      omega
    have hhuge : ¬ (IntKind.i64.max < (len : Int) + (l : Int) ∧ i.bytes = 0) := fun h => hby' h.2
    simp only [gt_iff_lt, Nat.not_lt] at hnext
    have hn' : ¬ (2 ^ 48 < Builtin.nextslicecap (len + l) cap * i.bytes) := by omega
    simp [Builtin.append_, run_underlying hT.ht, run_underlying ht2, Result.andThen, sz_of hi, hsz, Builtin.lenOf, hfit, typeInfo, hi, hby', hch', hroom, hof, hf, zeroValue, hz, newRow, newObj, Sem.run]
    have hn2 : ¬ (281474976710656 < Builtin.nextslicecap (len + l) cap * i.bytes) := by omega
    have ea : os.toArray ++ (vs.toArray ++ Builtin.zeroCells z.cells (newCap - (len + l))) = (os ++ vs).toArray ++ Builtin.zeroCells z.cells (newCap - (len + l)) := Array.ext' (by simp)
    rw [if_neg hn2, ea]
  · simp only [Array.size_append, List.size_toArray, List.length_append, Builtin.zeroCells, Array.size_map, Array.size_range, hzs, hol, hl]
    rw [← Nat.add_mul, ← Nat.add_mul]
    congr 1
    omega

theorem row_of {h : Array Obj} {b o : Nat} {cells : Array Value} {e : TypeId} {f : Nat × Nat} (hb : h[b]? = some (.cells cells e f)) (vs : List Value) (hv : ∀ (j : Nat) (v : Value), vs[j]? = some v → cells[o + j]? = some v) : rowAt h b o vs := by
  intro j v hj
  simp only [cellAt, hb]
  exact hv j v hj

/-- a new array -/
theorem newArr_ok (hR : κ.R E cf) {sz : Nat} {es : List AVal} {vs : List Value} {rest : Array Value} {e : TypeId} {newCap : Nat} (h0 : 0 < sz) (hel : AVal.elemsOk sz es) (hl : κ.VL E cf (es.flatMap AVal.cells) vs) (hcap : es.length ≤ newCap)
    (hsize : (vs.toArray ++ rest).size = newCap * sz) :
    (κ.new (.cells (vs.toArray ++ rest) e) (.arr sz es 0 0)).R E cf ∧
    (κ.new (.cells (vs.toArray ++ rest) e) (.arr sz es 0 0)).V E cf (.slice sz κ.σ.length 0 0 es.length none) (.slice (some ⟨κ.h.size, 0, none⟩) es.length newCap) := by
  have hat : (κ.new (.cells (vs.toArray ++ rest) e) (.arr sz es 0 0)).h[(κ.new (.cells (vs.toArray ++ rest) e) (.arr sz es 0 0)).loc κ.σ.length]? = some (.cells (vs.toArray ++ rest) e (0, 0)) := by simp [K.new]
  refine ⟨K.new_R hR _ _ ⟨Nat.le_refl _, h0, hel, _, e, vs, rest.toList, hat, by simp, K.VL.le hR.lb (K.new_le hR _ _) hl⟩, ?_⟩
  refine .slice _ sz κ.σ.length 0 0 es.length none κ.h.size 0 newCap ⟨hcap, by simp, h0, es, 0, 0, by simp [K.new, List.getElem?_append_right], Nat.le_refl _, fun _ => ⟨by simp, .inl ⟨by simp [K.new], .inl (by simp)⟩, fun _ _ => ⟨by omega, fun vs' e' f hv => ?_⟩⟩⟩
  rw [hat] at hv
  cases hv
  rw [hsize]; simp

theorem elemsOk_append {sz : Nat} {a b : List AVal} (ha : AVal.elemsOk sz a) (hb : AVal.elemsOk sz b) : AVal.elemsOk sz (a ++ b) := fun x hx => by
  rcases List.mem_append.1 hx with h | h
  · exact ha x h
  · exact hb x h

/-- what is put behind -/
structure Src (κ : K) (E : Env) (cf : FuncId → FuncId) (sz : Nat) (ys : List AVal) (p : Option Addr) (l : Nat) (vs : List Value) : Prop where
  yl : ys.length = l
  vl : κ.VL E cf (ys.flatMap AVal.cells) vs
  yo : AVal.elemsOk sz ys
  len : vs.length = l * sz
  pn : p = none → l = 0
  pr : ∀ ad, p = some ad → l = 0 ∨ ∃ b o, ad = ⟨b, o, none⟩ ∧ rowAt κ.h b o vs

/-- into a new array -/
theorem append_new {t t2 e ty : TypeId} {sz bytes : Nat} (hT : ElemT P t t2 e sz bytes) {base p : Option Addr} {len cap l c : Nat} {es ys : List AVal} {os vs : List Value} (hS : Src κ E cf sz ys p l vs) (hO : Src κ E cf sz es base len os)
    (hgrow : cap < len + l) (hlim : (len + l) * bytes ≤ apLim) (hR : κ.R E cf) :
    GV P E cf κ (Builtin.append_ #[t, t2] ty #[.slice base len cap, .slice p l c]) (.slice sz κ.σ.length 0 0 (len + l) none) (κ.σ ++ [.arr sz (es ++ ys) 0 0]) := by
  intro w hw
  obtain ⟨newCap, rest, w', g1, g2, g3, g4, gS⟩ := append_grows (P := P) (c := c) (ty := ty) hT hS.len hS.pr hS.pn hO.len hO.pr hO.pn hgrow hlim w hw
  have hl2 : (es ++ ys).length = len + l := by rw [List.length_append, hO.yl, hS.yl]
  have hvl : κ.VL E cf ((es ++ ys).flatMap AVal.cells) (os ++ vs) := by rw [List.flatMap_append]; exact VL_append hO.vl hS.vl
  obtain ⟨k1, k2⟩ := newArr_ok (rest := rest) (e := e) (newCap := newCap) hR hT.h0 (elemsOk_append hO.yo hS.yo) hvl (by rw [hl2]; exact g3) g4
  rw [hl2] at k2
  refine ⟨_, w', _, g1, ?_, ?_, K.new_le hR _ _, k1, ?_⟩
  · exact ⟨by rw [g2, hw]; rfl, gS⟩
  · rfl
  · rw [hw]; exact k2

/-- in place, behind the end -/
theorem append_here {t t2 e ty : TypeId} {sz bytes : Nat} (hT : ElemT P t t2 e sz bytes) {p : Option Addr} {cap l c id ep fl : Nat} {es ys : List AVal} {vs us rest : List Value} {cells : Array Value} {e0 : TypeId} (hS : Src κ E cf sz ys p l vs)
    (hid : κ.σ[id]? = some (.arr sz es ep fl)) (hf : fl ≤ ep) (hel : AVal.elemsOk sz es) (hb : κ.h[κ.loc id]? = some (.cells cells e0 (0, 0))) (hus : cells.toList = us ++ rest) (hul : κ.VL E cf (es.flatMap AVal.cells) us) (hfit : es.length + l ≤ cap) (hsz : cap * sz ≤ cells.size) (hl0 : 0 < l) (hR : κ.R E cf) :
    GV P E cf κ (Builtin.append_ #[t, t2] ty #[.slice (some ⟨κ.loc id, 0, none⟩) es.length cap, .slice p l c]) (.slice sz id (ep + 1) 0 (es.length + l) none) (κ.σ.set id (.arr sz (es ++ ys) (ep + 1) fl)) := by
  intro w hw
  have hulen : us.length = es.length * sz := by rw [← VL_len hul, flat_length hel]
  have hone : ∀ v ∈ vs, v.oneCell' = true := VL_oneCell hS.vl (fun c hc => by
    obtain ⟨x, hx, hcx⟩ := List.mem_flatMap.1 hc
    exact (hS.yo x hx).2 c hcx)
  have hb' : w.heap[κ.loc id]? = some (.cells cells e0 (0, 0)) := by rw [hw]; exact hb
  have hroom : es.length * sz + l * sz ≤ cells.size := by rw [← Nat.add_mul]; exact Nat.le_trans (Nat.mul_le_mul_right _ hfit) hsz
  have hcl : cells.size = us.length + rest.length := by rw [← Array.length_toList, hus, List.length_append]
  obtain ⟨w', cells', g1, g2, g3, gS⟩ := storeCells_run (P := P) vs 0 w (κ.loc id) (es.length * sz) cells e0 hb' hone (by rw [hS.len]; omega)
  have hsize : cells'.size = cells.size := by rw [← Array.length_toList, g3]; simp; rw [hS.len]; omega
  have hc' : cells'.toList = us ++ vs ++ rest.drop (l * sz) := by
    rw [g3, hus]
    simp only [Nat.add_zero]
    rw [List.take_append_of_le_length (by omega), List.take_of_length_le (by omega), hS.len]
    congr 1
    rw [List.drop_append, List.drop_of_length_le (by omega), List.nil_append]
    congr 1; omega
  have hle : κ.Le (κ.upd id (.cells cells' e0 (0, 0)) (.arr sz (es ++ ys) (ep + 1) fl)) := by
    refine K.upd_le hR id _ _ _ hid ⟨_, ep + 1, fl, K.upd_σ id _ _ _ hid, Nat.le_succ _, Nat.le_refl _, by simp, fun h => by omega, fun _ _ => .inl rfl, fun _ j hj => ?_⟩
    have hat := K.upd_at hR id (.cells cells' e0 (0, 0)) (.arr sz (es ++ ys) (ep + 1) fl) _ hid
    have : (κ.upd id (.cells cells' e0 (0, 0)) (.arr sz (es ++ ys) (ep + 1) fl)).loc id = κ.loc id := rfl
    rw [this]
    simp only [cellAt, hat, hb]
    rw [← Array.getElem?_toList, ← Array.getElem?_toList, hc', hus, List.append_assoc, List.getElem?_append_left (by omega), List.getElem?_append_left (by omega)]
  have hat := K.upd_at hR id (.cells cells' e0 (0, 0)) (.arr sz (es ++ ys) (ep + 1) fl) _ hid
  refine ⟨.slice (some ⟨κ.loc id, 0, none⟩) (es.length + l) cap, w', _, ?_, ⟨by rw [g2, hw]; rfl, gS⟩, rfl, hle, K.upd_R hR id _ _ _ hid hle ⟨by omega, hT.h0, elemsOk_append hel hS.yo, cells', e0, us ++ vs, rest.drop (l * sz), hat, hc', ?_⟩, ?_⟩
  · rw [append_fits (P := P) hT hS.len hS.pr hS.pn hfit w hw]
    simp only [add_spot, Nat.zero_add, g1, Result.andThen]
  · rw [List.flatMap_append]
    exact VL_append (K.VL.le hR.lb hle hul) (K.VL.le hR.lb hle hS.vl)
  · refine .slice _ sz id (ep + 1) 0 (es.length + l) none (κ.loc id) 0 cap ⟨hfit, by simp, hT.h0, es ++ ys, ep + 1, fl, K.upd_σ id _ _ _ hid, Nat.le_refl _, fun _ => ⟨by simp [hS.yl], .inl ⟨rfl, .inl (by simp)⟩, fun _ _ => ⟨by simp [hS.yl]; omega, fun vs2 e2 f2 hv2 => ?_⟩⟩⟩
    have : (κ.upd id (.cells cells' e0 (0, 0)) (.arr sz (es ++ ys) (ep + 1) fl)).loc id = κ.loc id := rfl
    rw [this, hat] at hv2
    cases hv2
    rw [hsize, Nat.zero_add]; exact hsz

/-- into a new block -/
theorem append_move {t t2 e ty : TypeId} {sz bytes : Nat} (hT : ElemT P t t2 e sz bytes) {base p : Option Addr} {cap l c id ep fl : Nat} {es ys : List AVal} {vs us rest os : List Value} {cells : Array Value} {e0 : TypeId} (hS : Src κ E cf sz ys p l vs) (hO : Src κ E cf sz es base es.length os)
    (hid : κ.σ[id]? = some (.arr sz es ep fl)) (hf : fl ≤ ep) (hb : κ.h[κ.loc id]? = some (.cells cells e0 (0, 0))) (hus : cells.toList = us ++ rest) (hul : κ.VL E cf (es.flatMap AVal.cells) us) (hcur : es ≠ [] → base = some ⟨κ.loc id, 0, none⟩) (hgrow : cap < es.length + l) (hlim : (es.length + l) * bytes ≤ apLim) (hl0 : 0 < l) (hR : κ.R E cf) :
    GV P E cf κ (Builtin.append_ #[t, t2] ty #[.slice base es.length cap, .slice p l c]) (.slice sz id (ep + 1) 0 (es.length + l) none) (κ.σ.set id (.arr sz (es ++ ys) (ep + 1) fl)) := by
  intro w hw
  obtain ⟨newCap, nrest, w', g1, g2, g3, g4, gS⟩ := append_grows (P := P) (c := c) (ty := ty) hT hS.len hS.pr hS.pn hO.len hO.pr hO.pn hgrow hlim w hw
  have hulen : us.length = es.length * sz := by rw [← VL_len hul, flat_length hO.yo]
  have hou : os = us := by
    by_cases hes : es = []
    · subst hes
      simp at hulen
      have := hO.len
      simp at this
      rw [this, hulen]
    · obtain ⟨b, o, hbo, hrow⟩ := (hO.pr _ (hcur hes)).resolve_left (fun h0 => hes (List.eq_nil_of_length_eq_zero h0))
      cases hbo
      apply List.ext_getElem?
      intro j
      by_cases hj : j < os.length
      · have h1 := hrow j _ (List.getElem?_eq_getElem hj)
        simp only [cellAt, hb, Nat.zero_add] at h1
        rw [← Array.getElem?_toList, hus, List.getElem?_append_left (by rw [hulen, ← hO.len]; exact hj)] at h1
        rw [h1, List.getElem?_eq_getElem hj]
      · rw [List.getElem?_eq_none (by omega), List.getElem?_eq_none (by rw [hulen, ← hO.len]; omega)]
  subst hou
  have hlt := hR.hi id (List.getElem?_eq_some_iff.1 hid).1
  let nc : Array Value := (os ++ vs).toArray ++ nrest
  have hat : (κ.mov id (.cells nc e (0, 0)) (.arr sz (es ++ ys) (ep + 1) fl)).h[κ.h.size]? = some (.cells nc e (0, 0)) := by simp [K.mov]
  have hloc : (κ.mov id (.cells nc e (0, 0)) (.arr sz (es ++ ys) (ep + 1) fl)).loc id = κ.h.size := by simp [K.mov]
  have hsig : (κ.mov id (.cells nc e (0, 0)) (.arr sz (es ++ ys) (ep + 1) fl)).σ[id]? = some (.arr sz (es ++ ys) (ep + 1) fl) := by
    have hi := (List.getElem?_eq_some_iff.1 hid).1
    simp [K.mov, List.getElem?_set_self hi]
  have hold : ∀ j, j < es.length * sz → cellAt (κ.mov id (.cells nc e (0, 0)) (.arr sz (es ++ ys) (ep + 1) fl)).h κ.h.size j = cellAt κ.h (κ.loc id) j := by
    intro j hj
    have e1 : nc.toList[j]? = os[j]? := by
      simp only [nc, Array.toList_append, List.append_assoc]
      rw [List.getElem?_append_left (by omega)]
    have e2 : cells.toList[j]? = os[j]? := by rw [hus, List.getElem?_append_left (by omega)]
    simp only [cellAt, hat, hb]
    rw [← Array.getElem?_toList, ← Array.getElem?_toList, e1, e2]
  have hle : κ.Le (κ.mov id (.cells nc e (0, 0)) (.arr sz (es ++ ys) (ep + 1) fl)) := by
    refine K.mov_le hR id _ _ _ hid ⟨_, ep + 1, fl, hsig, Nat.le_succ _, Nat.le_refl _, by simp, fun h => by omega, fun _ _ => .inr ⟨K.mov_own hR id _ _ _ hlt (fun i hi hne he => hne (hR.inj i id hi (List.getElem?_eq_some_iff.1 hid).1 he)), fun j hj => ?_⟩, fun _ j hj => ?_⟩
    · rw [hloc, hold j hj]
      exact cellAt_congr (by simp [K.mov, Array.getElem?_push, Nat.ne_of_lt hlt]) j
    · rw [hloc]; exact hold j hj
  refine ⟨_, w', _, g1, ⟨by rw [g2, hw]; rfl, gS⟩, rfl, hle, K.mov_R hR id _ _ _ hid hle ⟨by omega, hT.h0, elemsOk_append hO.yo hS.yo, nc, e, os ++ vs, nrest.toList, by rw [hloc]; exact hat, by simp [nc], ?_⟩, ?_⟩
  · rw [List.flatMap_append]
    exact VL_append (K.VL.le hR.lb hle hul) (K.VL.le hR.lb hle hS.vl)
  · refine .slice _ sz id (ep + 1) 0 (es.length + l) none w.heap.size 0 newCap ⟨g3, by simp, hT.h0, es ++ ys, ep + 1, fl, hsig, Nat.le_refl _, fun _ => ⟨by simp [hS.yl], .inl ⟨by rw [hloc, hw], .inl (by simp)⟩, fun _ _ => ⟨by simp [hS.yl]; omega, fun vs2 e2 f2 hv2 => ?_⟩⟩⟩
    rw [hloc, hat] at hv2
    cases hv2
    rw [Nat.zero_add, g4]; exact Nat.le_refl _

/-- in place, over what was there -/
theorem append_over {t t2 e ty : TypeId} {sz bytes : Nat} (hT : ElemT P t t2 e sz bytes) {p : Option Addr} {cap' l c id ep fl off len : Nat} {cap : Option Nat} {es ys : List AVal} {vs us rest : List Value} {cells : Array Value} {e0 : TypeId} (hS : Src κ E cf sz ys p l vs)
    (hid : κ.σ[id]? = some (.arr sz es ep fl)) (hf : fl ≤ ep) (hel : AVal.elemsOk sz es) (hb : κ.h[κ.loc id]? = some (.cells cells e0 (0, 0))) (hus : cells.toList = us ++ rest) (hul : κ.VL E cf (es.flatMap AVal.cells) us) (hfit : len + l ≤ cap') (hin : off + len + l ≤ es.length)
    (hc : ∀ c, cap = some c → cap' = c ∧ off + c ≤ es.length) (hcn : cap = none → es.length ≤ off + cap' ∧ (off + cap') * sz ≤ cells.size) (hR : κ.R E cf) :
    GV P E cf κ (Builtin.append_ #[t, t2] ty #[.slice (some ⟨κ.loc id, off * sz, none⟩) len cap', .slice p l c]) (.slice sz id ep off (len + l) cap) (κ.σ.set id (.arr sz (es.take (off + len) ++ ys ++ es.drop (off + len + l)) ep ep)) := by
  intro w hw
  have hulen : us.length = es.length * sz := by rw [← VL_len hul, flat_length hel]
  have hone : ∀ v ∈ vs, v.oneCell' = true := VL_oneCell hS.vl (fun c hc => by
    obtain ⟨x, hx, hcx⟩ := List.mem_flatMap.1 hc
    exact (hS.yo x hx).2 c hcx)
  have hb' : w.heap[κ.loc id]? = some (.cells cells e0 (0, 0)) := by rw [hw]; exact hb
  have hcl : cells.size = us.length + rest.length := by rw [← Array.length_toList, hus, List.length_append]
  have hroom : (off + len) * sz + l * sz ≤ es.length * sz := by rw [← Nat.add_mul]; exact Nat.mul_le_mul_right _ hin
  obtain ⟨w', cells', g1, g2, g3, gS⟩ := storeCells_run (P := P) vs 0 w (κ.loc id) ((off + len) * sz) cells e0 hb' hone (by rw [hS.len]; omega)
  have hsize : cells'.size = cells.size := by rw [← Array.length_toList, g3]; simp; rw [hS.len]; omega
  let es' := es.take (off + len) ++ ys ++ es.drop (off + len + l)
  have hes' : es'.length = es.length := by simp [es', hS.yl]; omega
  have hel' : AVal.elemsOk sz es' := elemsOk_append (elemsOk_append (elemsOk_take hel) hS.yo) (elemsOk_drop hel)
  have hflat : es'.flatMap AVal.cells = (es.flatMap AVal.cells).take ((off + len) * sz) ++ ys.flatMap AVal.cells ++ (es.flatMap AVal.cells).drop ((off + len) * sz + l * sz) := by
    simp only [es', List.flatMap_append]
    rw [flat_take hel, flat_drop hel, Nat.add_mul (off + len) l]
  have hc' : cells'.toList = (us.take ((off + len) * sz) ++ vs ++ us.drop ((off + len) * sz + l * sz)) ++ rest := by
    rw [g3, hus]
    simp only [Nat.add_zero]
    rw [List.take_append_of_le_length (by omega), hS.len, List.drop_append_of_le_length (by omega)]
    simp
  have hle : κ.Le (κ.upd id (.cells cells' e0 (0, 0)) (.arr sz es' ep ep)) := by
    refine K.upd_le hR id _ _ _ hid ⟨_, ep, ep, K.upd_σ id _ _ _ hid, Nat.le_refl _, hf, by omega, fun _ => ⟨rfl, hes', fun vs2 e2 f2 hv2 => ?_⟩, fun _ h => by omega, fun h => by omega⟩
    rw [K.upd_at hR id _ _ _ hid] at hv2
    cases hv2
    exact ⟨cells, e0, (0, 0), hb, hsize⟩
  have hat := K.upd_at hR id (.cells cells' e0 (0, 0)) (.arr sz es' ep ep) _ hid
  refine ⟨.slice (some ⟨κ.loc id, off * sz, none⟩) (len + l) cap', w', _, ?_, ⟨by rw [g2, hw]; rfl, gS⟩, rfl, hle, K.upd_R hR id _ _ _ hid hle ⟨Nat.le_refl _, hT.h0, hel', cells', e0, _, rest, hat, hc', ?_⟩, ?_⟩
  · rw [append_fits (P := P) hT hS.len hS.pr hS.pn hfit w hw]
    simp only [add_spot, ← Nat.add_mul, g1, Result.andThen]
  · rw [hflat]
    exact VL_append (VL_append (VL_take _ (K.VL.le hR.lb hle hul)) (K.VL.le hR.lb hle hS.vl)) (VL_drop _ (K.VL.le hR.lb hle hul))
  · refine .slice _ sz id ep off (len + l) cap (κ.loc id) (off * sz) cap' ⟨hfit, fun c h => (hc c h).1, hT.h0, es', ep, ep, K.upd_σ id _ _ _ hid, Nat.le_refl _, fun _ => ⟨?_, .inl ⟨rfl, .inl rfl⟩, fun _ hn => ⟨by rw [hes']; exact (hcn hn).1, fun vs2 e2 f2 hv2 => ?_⟩⟩⟩
    · rw [hes']
      cases cap with
      | none => simp; omega
      | some cc => simp; exact (hc cc rfl).2
    · have : (κ.upd id (.cells cells' e0 (0, 0)) (.arr sz es' ep ep)).loc id = κ.loc id := rfl
      rw [this, hat] at hv2
      cases hv2
      rw [hsize]; exact (hcn hn).2

theorem append_run {t t2 e ty : TypeId} {sz bytes : Nat} (hT : ElemT P t t2 e sz bytes) {x y v : AVal} {cx cy : Value} {ys : List AVal} {σ' : Store} (hx : κ.V E cf x cx) (hy : κ.V E cf y cy) (hys : elems sz κ.σ y = some ys)
    (h : appendV κ.σ sz bytes x ys = some (v, σ')) (hR : κ.R E cf) : GV P E cf κ (Builtin.append_ #[t, t2] ty #[cx, cy]) v σ' := by
  obtain ⟨p, l, c, vs, rfl, hyl, hvl, hyo, hpn, hpr⟩ := elems_ok hR hy hys
  have hvs : vs.length = l * sz := by rw [← VL_len hvl, flat_length hyo, hyl]
  have hpn' : p = none → l = 0 := fun h => by have := hpn h; subst this; simpa using hyl.symm
  have hpr : ∀ ad, p = some ad → l = 0 ∨ ∃ b o, ad = ⟨b, o, none⟩ ∧ rowAt κ.h b o vs := fun ad had => (hpr ad had).imp (fun h => by
    obtain ⟨_, t, f, s, h⟩ := h
    rw [h] at hys
    simp only [elems] at hys
    split at hys
    · injection hys with hys
      rw [← hyl, ← hys]; rfl
    · cases hys) (fun h => h)
  have hS : Src κ E cf sz ys p l vs := ⟨hyl, hvl, hyo, hvs, hpn', hpr⟩
  unfold appendV at h
  split at h
  · rename_i hemp
    have hy0 : ys = [] := by simpa using hemp
    subst hy0
    simp at hyl
    subst hyl
    split at h
    · rename_i hs
      injection h with h
      injection h with h1 h2
      subst h1; subst h2
      have hsh : ∃ base len cap, cx = .slice base len cap ∧ len ≤ cap := by
        cases x <;> simp [isSlice] at hs
        · cases hx; exact ⟨_, _, _, rfl, Nat.le_refl _⟩
        · cases hx; rename_i g; exact ⟨_, _, _, rfl, g.1⟩
        · cases hx with
          | fslice => exact ⟨_, _, _, rfl, ‹_›⟩
          | zslice => exact ⟨_, _, _, rfl, Nat.le_refl _⟩
      obtain ⟨base, len, cap, rfl, hle⟩ := hsh
      have hvs0 : vs = [] := by apply List.eq_nil_of_length_eq_zero; omega
      subst hvs0
      refine GV.pure hR (cv := .slice base len cap) (fun w hw => ?_) hx
      rw [append_fits (P := P) hT hS.len hpr hpn' (by omega) w hw]
      cases base <;> simp [storeCells, Result.andThen]
    · simp at h
  · rename_i hemp
    have hne : ys ≠ [] := by intro h; subst h; simp at hemp
    have hl0 : 0 < l := by rw [← hyl]; exact List.length_pos_iff.2 hne
    unfold growV at h
    split at h
    · split at h
      · rename_i hlim
        injection h with h
        injection h with h1 h2
        subst h1; subst h2
        cases hx
        have := append_new (P := P) (c := c) (cap := 0) (es := []) (os := []) (base := none) (len := 0) (ty := ty) hT hS ⟨rfl, .nil _, fun _ h => by simp at h, by simp, fun _ => rfl, fun _ h => by simp at h⟩ (by omega) (by rw [hyl] at hlim; simpa using hlim) hR
        simpa [hyl] using this
      · simp at h
    · rename_i tg full sz' es
      split at h
      · rename_i hc
        obtain ⟨rfl, rfl, hlim⟩ := hc
        injection h with h
        injection h with h1 h2
        subst h1; subst h2
        obtain ⟨p0, l0, c0, os, hcx, hel0, hol, heo, hpn0, hpr0⟩ := elems_ok hR hx (ys := es) (sz := sz') (by simp)
        have hcl : c0 = l0 := by
          cases hx with
          | fslice _ _ _ _ _ b o len cap vs0 q1 q2 q3 q4 q5 q6 q7 q8 q9 => injection hcx with e1 e2 e3; rw [← e2, ← e3]; exact q9 rfl
          | zslice _ _ _ _ ad q1 => injection hcx with e1 e2 e3; rw [← e2, ← e3]
        subst hcx
        subst hcl
        have hO : Src κ E cf sz' es p0 c0 os := ⟨hel0, hol, heo, by rw [← VL_len hol, flat_length heo, hel0], fun h => by rw [← hel0, hpn0 h]; rfl, fun ad had => (hpr0 ad had).imp (fun h => by
          obtain ⟨_, t, f, s, h⟩ := h
          injection h with _ _ _ h
          rw [← hel0, h]; rfl) (fun h => h)⟩
        have := append_new (P := P) (c := c) (cap := c0) (ty := ty) hT hS hO (by omega) (by rw [hyl, hel0] at hlim; exact hlim) hR
        rw [hyl, hel0]
        exact this
      · simp at h
    · rename_i sz2 id ep off len cap
      split at h
      · rename_i sz' es ep' fl hid
        split at h
        · rename_i hc
          obtain ⟨rfl, rfl, hlim, hf⟩ := hc
          obtain ⟨p0, l0, c0, os, hcx, hel0, hol, heo, hpn0, hpr0⟩ := elems_ok hR hx (ys := (es.drop off).take len) (sz := sz') (by simp [hid, hf])
          cases hx with
          | slice _ _ _ _ _ _ _ b o cap' hs =>
          injection hcx with e1 e2 e3
          subst e1; subst e2
          obtain ⟨s1, s2, s3, es0, epo, fl0, s4, s5, s6⟩ := hs
          rw [hid] at s4
          cases s4
          obtain ⟨q1, q2, q3⟩ := s6 hf
          have hO : Src κ E cf sz' ((es.drop off).take len) _ len os := ⟨hel0, hol, heo, by rw [← VL_len hol, flat_length heo, hel0], (fun h => by cases h), fun ad had => .inr ((hpr0 ad had).resolve_left (fun h => by obtain ⟨_, _, _, _, h⟩ := h; cases h))⟩
          obtain ⟨g1', g2', g3', vs0, e0, us, rest0, hb0, hvs0, hl0'⟩ := hR.obj id _ hid
          rw [hyl] at hlim h
          split at h
          · rename_i hgrow
            split at h
            · rename_i cc
              have hcc := s2 cc rfl
              subst hcc
              simp only [Option.getD_some] at hgrow
              injection h with h
              injection h with h1 h2
              subst h1; subst h2
              exact append_new (P := P) (c := c) (ty := ty) hT hS hO (by omega) hlim hR
            · split at h
              · rename_i hcond
                obtain ⟨rfl, rfl, rfl⟩ := hcond
                injection h with h
                injection h with h1 h2
                subst h1; subst h2
                obtain ⟨q3a, q3b⟩ := q3 rfl rfl
                have q3c := q3b _ _ _ hb0
                simp only [Nat.zero_add] at q3a q3c
                have hO' : Src κ E cf sz' es (some ⟨b, o, none⟩) es.length os := by simpa using hO
                by_cases hfit : es.length + l ≤ cap'
                · have hat : b = κ.loc id ∧ o = 0 := by
                    rcases q2 with ⟨u1, u2 | u2⟩ | ⟨u, _⟩
                    · exact ⟨u1, by simpa using u2⟩
                    · omega
                    · omega
                  obtain ⟨rfl, rfl⟩ := hat
                  exact append_here (P := P) (c := c) (ty := ty) hT hS hid g1' g3' hb0 hvs0 hl0' hfit q3c hl0 hR
                · refine append_move (P := P) (c := c) (ty := ty) hT hS hO' hid g1' hb0 hvs0 hl0' (fun hes => ?_) (by omega) hlim hl0 hR
                  have hpos : 0 < es.length := List.length_pos_iff.2 hes
                  rcases q2 with ⟨u1, u2 | u2⟩ | ⟨u, _⟩
                  · simp at u2; rw [u1, u2]
                  · omega
                  · omega
              · simp at h
          · rename_i hin
            split at h
            · rename_i hep
              subst hep
              injection h with h
              injection h with h1 h2
              subst h1; subst h2
              have hcn : cap = none → es.length ≤ off + cap' ∧ (off + cap') * sz' ≤ vs0.size := fun hn => by
                obtain ⟨u1, u2⟩ := q3 rfl hn
                exact ⟨u1, u2 _ _ _ hb0⟩
              have hc' : ∀ c, cap = some c → cap' = c ∧ off + c ≤ es.length := fun cc hcc => by
                subst hcc
                exact ⟨s2 cc rfl, by simpa using q1⟩
              have hfit : len + l ≤ cap' ∧ off + len + l ≤ es.length := by
                cases cap with
                | none => have := hcn rfl; simp at hin q1; omega
                | some cc => have := hc' cc rfl; simp at hin; omega
              have hat : b = κ.loc id ∧ o = off * sz' := by
                rcases q2 with ⟨u1, u2 | u2⟩ | ⟨u, _⟩
                · exact ⟨u1, u2⟩
                · omega
                · omega
              obtain ⟨rfl, rfl⟩ := hat
              exact append_over (P := P) (c := c) (ty := ty) hT hS hid g1' g3' hb0 hvs0 hl0' hfit.1 hfit.2 hc' hcn hR
            · simp at h
        · simp at h
      · simp at h
    · simp at h

end
end Go.Proofs.Ytmocplkpnickgaa.Am
