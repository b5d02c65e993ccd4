/-
  THE ABSTRACT MACHINE, part 35: the arguments of a law, of whatever type of numbers, texts, bools, structs, arrays and slices, read as values of it.
-/
import Derived.Test.YtmocplkpnickgaaAmLaw
import Derived.ChangeSlices
import Derived.ChangeArms
namespace Go.Proofs.Ytmocplkpnickgaa.Am
open Go Go.RowKit Go.ChangeShapes Go.WideShapes Go.ChangeAt
set_option linter.unusedVariables false
set_option linter.unusedSimpArgs false

def tight (P : Program) : Nat → List Field → Nat → Bool
  | off, [], tot => off == tot
  | off, f :: fs, tot => f.offset == off && tight P (off + P.cellsOf f.type) fs tot

def aggB (P : Program) (t : TypeId) : Bool := match P.underlying t with
  | some (.struct _) | some (.array _ _) => true
  | _ => false

/-- a type that can be read so -/
def rdT (P : Program) : Nat → TypeId → Bool
  | 0, _ => false
  | n + 1, t => match P.underlying t with
    | some (.int _) | some .string | some .bool => P.cellsOf t == 1
    | some (.slice e) => P.cellsOf t == 1 && decide (0 < P.cellsOf e) && rdT P n e
    | some (.struct fs) => tight P 0 fs.toList (P.cellsOf t) && fs.toList.all fun f => rdT P n f.type
    | some (.array m e) => P.cellsOf t == m * P.cellsOf e && rdT P n e
    | _ => false

def elv (P : Program) (e : TypeId) (cs : List AVal) : AVal := if aggB P e then .agg cs else cs.headD .undef

/-- what is read, as cells -/
def dec {H : Type} (P : Program) : Nat → TypeId → DataW H → List AVal
  | 0, _, _ => [.undef]
  | n + 1, t, d => match P.underlying t, d with
    | some (.slice e), .slice ds _ => [.fslice 0 false (P.cellsOf e) (ds.map fun x => elv P e (dec P n e x))]
    | some (.slice _), _ => [.nilslice]
    | some (.struct fs), .agg ds => (List.zipWith (fun (f : Field) x => dec P n f.type x) fs.toList ds).flatten
    | some (.array m e), .agg ds => (ds.map fun x => dec P n e x).flatten
    | _, .lit (.bool b) => [.bool b]
    | _, .lit (.int k i) => [.int k i]
    | _, .lit (.string s) => [.str s]
    | _, _ => [.undef]

/-- .. and that it is of its type -/
def Typed {H : Type} (P : Program) : Nat → TypeId → DataW H → Prop
  | 0, _, _ => False
  | n + 1, t, d => match P.underlying t with
    | some (.int k) => ∃ i, d = .lit (.int k i) ∧ (Lit.int k i).wf = true
    | some .bool => ∃ b, d = .lit (.bool b)
    | some .string => ∃ s, d = .lit (.string s)
    | some (.slice e) => d = .nil ∨ ∃ ds rest, d = .slice ds rest ∧ ∀ x ∈ ds, Typed P n e x
    | some (.struct fs) => ∃ ds, d = .agg ds ∧ ds.length = fs.size ∧ ∀ (i : Nat) (f : Field) (x : DataW H), fs[i]? = some f → ds[i]? = some x → Typed P n f.type x
    | some (.array m e) => ∃ ds, d = .agg ds ∧ ds.length = m ∧ ∀ x ∈ ds, Typed P n e x
    | _ => False

section
variable {P : Program} {cf : FuncId → FuncId} {W : World} {H : Type} {enc : TypeId × Value → H}

abbrev SRel (cf : FuncId → FuncId) (W : World) (vs : List AVal) (cs : List Value) : Prop := VRelL cf W.heap ((startK W).safe startE) noIds vs cs

/-- cells that are read well -/
structure Good (cf : FuncId → FuncId) (P : Program) (W : World) (t : TypeId) (vs : List AVal) (cs : List Value) : Prop where
  rel : SRel cf W vs cs
  one : AVal.allOne vs
  tag : AVal.tagsLe 0 vs
  len : vs.length = P.cellsOf t

theorem rowAt_join {h : Array Obj} {b o : Nat} {xs ys : List Value} (h1 : rowAt h b o xs) (h2 : rowAt h b (o + xs.length) ys) : rowAt h b o (xs ++ ys) := by
  intro j v hj
  rw [List.getElem?_append] at hj
  split at hj
  · exact h1 j v hj
  · rename_i hlt
    have := h2 _ v hj
    rw [← this]; congr 1; omega

theorem SRel_app {a b : List AVal} {c d : List Value} (h1 : SRel cf W a c) (h2 : SRel cf W b d) : SRel cf W (a ++ b) (c ++ d) := by
  induction a generalizing c with
  | nil => cases h1; exact h2
  | cons x a ih => cases h1 with | cons _ _ cv _ cvs hv hvs => exact .cons _ _ _ _ _ hv (ih hvs)
theorem SRel_len {a : List AVal} {c : List Value} (h1 : SRel cf W a c) : a.length = c.length := by
  induction a generalizing c with
  | nil => cases h1; rfl
  | cons x a ih => cases h1 with | cons _ _ cv _ cvs hv hvs => simp [ih hvs]

theorem elv_cells {e : TypeId} {vs : List AVal} (hone : AVal.allOne vs) (hl : aggB P e = false → vs.length = 1) : (elv P e vs).cells = vs := by
  unfold elv
  cases ha : aggB P e with
  | true => simp
  | false =>
    have := hl ha
    match vs, this with
    | [v], _ =>
      have := hone v (by simp)
      simp only [Bool.false_eq_true, if_false, List.headD_cons]
      cases v <;> simp_all [AVal.one]
theorem tagL_le {vs : List AVal} (h : AVal.tagsLe 0 vs) : AVal.tagL vs ≤ 0 := by
  induction vs with
  | nil => simp
  | cons v vs ih =>
    simp only [AVal.tagL]
    have h1 := h v (by simp)
    have h2 := ih (fun c hc => h c (by simp [hc]))
    omega
theorem elv_tag {e : TypeId} {vs : List AVal} (h : AVal.tagsLe 0 vs) : (elv P e vs).tag ≤ 0 := by
  unfold elv
  split
  · simp only [AVal.tag]; exact tagL_le h
  · cases vs with
    | nil => simp
    | cons v vs => exact h v (by simp)

theorem cells_row {a : Addr} {n : Nat} {cs : List Value} (h : W.cells? 0 a n = some cs) : cs.length = n ∧ ∀ i, i < n → W.cell? (a.add i) = cs[i]? := by
  unfold World.cells? at h
  rw [if_pos (Nat.zero_le _)] at h
  have h1 := mapM_some_length h
  refine ⟨by simpa using h1, fun i hi => ?_⟩
  exact mapM_some_get h i i (by simp [hi])

/-- the elements of a slice, from the k-th on -/
theorem elems_read {n fuel : Nat} {e : TypeId} (ih : ∀ {cs : List Value} {x : DataW H × List MemPlace}, DataW.trod enc P W 0 (fun _ => true) true fuel e cs = some x → Good cf P W e (dec P n e x.1) cs ∧ Typed P n e x.1)
    (hagg : aggB P e = false → P.cellsOf e = 1) {b o : Nat} : ∀ (els : List (DataW H × List MemPlace)) (k : Nat),
    (∀ i, i < els.length → (W.cells? 0 (Addr.add ⟨b, o, none⟩ ((k + i) * P.cellsOf e)) (P.cellsOf e)).bind (DataW.trod enc P W 0 (fun _ => true) true fuel e) = els[i]?) →
    ∃ vs, SRel cf W ((els.map fun x => elv P e (dec P n e x.1)).flatMap AVal.cells) vs ∧ rowAt W.heap b (o + k * P.cellsOf e) vs ∧ AVal.elemsOk (P.cellsOf e) (els.map fun x => elv P e (dec P n e x.1)) ∧
      AVal.tagsLe 0 (els.map fun x => elv P e (dec P n e x.1)) ∧ ∀ x ∈ els, Typed P n e x.1
  | [], k, _ => ⟨[], .nil _, fun j v hj => by simp at hj, fun x hx => by simp at hx, fun x hx => by simp at hx, fun x hx => by simp at hx⟩
  | x :: els, k, h => by
    have h0 := h 0 (by simp)
    simp only [Nat.add_zero, List.getElem?_cons_zero] at h0
    cases hc : W.cells? 0 (Addr.add ⟨b, o, none⟩ (k * P.cellsOf e)) (P.cellsOf e) with
    | none => rw [hc] at h0; cases h0
    | some cs =>
      rw [hc] at h0
      simp only [Option.bind_some] at h0
      obtain ⟨g, gt⟩ := ih h0
      obtain ⟨vs, r1, r2, r3, r4, r5⟩ := elems_read ih hagg els (k + 1) (fun i hi => by
        have := h (i + 1) (by simpa using hi)
        simpa [Nat.add_assoc, Nat.add_comm 1 i] using this)
      obtain ⟨c1, c2⟩ := cells_row hc
      have ec := elv_cells (P := P) (e := e) g.one (fun ha => by rw [g.len, hagg ha])
      refine ⟨cs ++ vs, ?_, ?_, ?_, ?_, ?_⟩
      · simp only [List.map_cons, List.flatMap_cons, ec]
        exact SRel_app g.rel r1
      · refine rowAt_join (fun j v hj => ?_) ?_
        · have hjl := (List.getElem?_eq_some_iff.1 hj).1
          have := c2 j (by omega)
          rw [hj, add_spot, add_spot, cellAt_eq] at this
          exact this
        · rw [c1, Nat.add_assoc, ← Nat.succ_mul]; exact r2
      · intro y hy
        simp only [List.map_cons, List.mem_cons] at hy
        rcases hy with rfl | hy
        · rw [ec]; exact ⟨g.len, g.one⟩
        · exact r3 y hy
      · intro y hy
        simp only [List.map_cons, List.mem_cons] at hy
        rcases hy with rfl | hy
        · exact elv_tag g.tag
        · exact r4 y hy
      · intro y hy
        simp only [List.mem_cons] at hy
        rcases hy with rfl | hy
        · exact gt
        · exact r5 y hy

theorem rdT_len {n : Nat} {t : TypeId} (h : rdT P n t = true) (ha : aggB P t = false) : P.cellsOf t = 1 := by
  cases n with
  | zero => simp [rdT] at h
  | succ n =>
    unfold rdT at h
    unfold aggB at ha
    split at h <;> simp_all

theorem good_one {t : TypeId} {v : AVal} {cv : Value} (h : VRel cf W.heap ((startK W).safe startE) noIds v cv) (h1 : v.one = true) (h2 : v.tag = 0) (h3 : P.cellsOf t = 1) : Good cf P W t [v] [cv] :=
  ⟨.cons _ _ _ _ _ h (.nil _), fun c hc => by simp at hc; subst hc; exact h1, fun c hc => by simp at hc; subst hc; omega, by simp [h3]⟩

/-- the fields of a struct -/
theorem fields_read {n fuel : Nat} (ih : ∀ {t : TypeId} {cs : List Value} {x : DataW H × List MemPlace}, rdT P n t = true → DataW.trod enc P W 0 (fun _ => true) true fuel t cs = some x → Good cf P W t (dec P n t x.1) cs ∧ Typed P n t x.1) :
    ∀ (fs : List Field) (xs : List (DataW H × List MemPlace)) (cs : List Value) (off tot : Nat), xs.length = fs.length → tight P off fs tot = true → cs.length = tot → (∀ f ∈ fs, rdT P n f.type = true) →
    (∀ (i : Nat) (f : Field), fs[i]? = some f → DataW.trod enc P W 0 (fun _ => true) true fuel f.type ((cs.drop f.offset).take (P.cellsOf f.type)) = xs[i]?) →
    SRel cf W (List.zipWith (fun (f : Field) x => dec P n f.type x) fs (xs.map (·.1))).flatten (cs.drop off) ∧ AVal.allOne (List.zipWith (fun (f : Field) x => dec P n f.type x) fs (xs.map (·.1))).flatten ∧
      AVal.tagsLe 0 (List.zipWith (fun (f : Field) x => dec P n f.type x) fs (xs.map (·.1))).flatten ∧ off + (List.zipWith (fun (f : Field) x => dec P n f.type x) fs (xs.map (·.1))).flatten.length = tot ∧
      ∀ (i : Nat) (f : Field) (x : DataW H × List MemPlace), fs[i]? = some f → xs[i]? = some x → Typed P n f.type x.1
  | [], [], cs, off, tot, _, ht, hc, _, _ => by
    simp only [tight, beq_iff_eq] at ht
    refine ⟨?_, fun c hc => by simp at hc, fun c hc => by simp at hc, by simpa using ht, fun i f x h => by simp at h⟩
    rw [List.drop_eq_nil_of_le (by omega)]
    exact .nil _
  | f :: fs, [], cs, off, tot, hl, _, _, _, _ => by simp at hl
  | [], x :: xs, cs, off, tot, hl, _, _, _, _ => by simp at hl
  | f :: fs, x :: xs, cs, off, tot, hl, ht, hc, hr, hx => by
    simp only [tight, Bool.and_eq_true, beq_iff_eq] at ht
    obtain ⟨ho, ht⟩ := ht
    have h0 := hx 0 f rfl
    simp only [List.getElem?_cons_zero] at h0
    obtain ⟨g, gt⟩ := ih (hr f (by simp)) h0
    obtain ⟨r1, r2, r3, r4, r5⟩ := fields_read ih fs xs cs (off + P.cellsOf f.type) tot (by simpa using hl) ht hc (fun f hf => hr f (by simp [hf])) (fun i f hf => by simpa using hx (i + 1) f (by simpa using hf))
    simp only [List.map_cons, List.zipWith_cons_cons, List.flatten_cons]
    have hsp : cs.drop off = (cs.drop f.offset).take (P.cellsOf f.type) ++ cs.drop (off + P.cellsOf f.type) := by
      rw [ho, ← List.drop_drop, List.take_append_drop]
    refine ⟨?_, ?_, ?_, ?_, ?_⟩
    · rw [hsp]; exact SRel_app g.rel r1
    · intro c hc
      rcases List.mem_append.1 hc with h | h
      · exact g.one c h
      · exact r2 c h
    · intro c hc
      rcases List.mem_append.1 hc with h | h
      · exact g.tag c h
      · exact r3 c h
    · rw [List.length_append, g.len]; omega
    · intro i f' x' hf hx'
      cases i with
      | zero =>
        simp only [List.getElem?_cons_zero, Option.some.injEq] at hf hx'
        subst hf; subst hx'; exact gt
      | succ i => exact r5 i f' x' (by simpa using hf) (by simpa using hx')

/-- the elements of an array -/
theorem parts_read {n fuel : Nat} {e : TypeId} (ih : ∀ {cs : List Value} {x : DataW H × List MemPlace}, DataW.trod enc P W 0 (fun _ => true) true fuel e cs = some x → Good cf P W e (dec P n e x.1) cs ∧ Typed P n e x.1) :
    ∀ (xs : List (DataW H × List MemPlace)) (cs : List Value) (k : Nat), cs.length = (k + xs.length) * P.cellsOf e →
    (∀ i, i < xs.length → DataW.trod enc P W 0 (fun _ => true) true fuel e ((cs.drop ((k + i) * P.cellsOf e)).take (P.cellsOf e)) = xs[i]?) →
    SRel cf W (xs.map fun x => dec P n e x.1).flatten (cs.drop (k * P.cellsOf e)) ∧ AVal.allOne (xs.map fun x => dec P n e x.1).flatten ∧ AVal.tagsLe 0 (xs.map fun x => dec P n e x.1).flatten ∧
      (xs.map fun x => dec P n e x.1).flatten.length = xs.length * P.cellsOf e ∧ ∀ x ∈ xs, Typed P n e x.1
  | [], cs, k, hl, _ => by
    refine ⟨?_, fun c hc => by simp at hc, fun c hc => by simp at hc, by simp, fun x hx => by simp at hx⟩
    rw [List.drop_eq_nil_of_le (by simp at hl; omega)]
    exact .nil _
  | x :: xs, cs, k, hl, hx => by
    have h0 := hx 0 (by simp)
    simp only [Nat.add_zero, List.getElem?_cons_zero] at h0
    obtain ⟨g, gt⟩ := ih h0
    obtain ⟨r1, r2, r3, r4, r5⟩ := parts_read ih xs cs (k + 1) (by rw [hl]; simp; congr 1; omega) (fun i hi => by
      have := hx (i + 1) (by simpa using hi)
      simpa [Nat.add_assoc, Nat.add_comm 1 i] using this)
    simp only [List.map_cons, List.flatten_cons]
    have hsp : cs.drop (k * P.cellsOf e) = (cs.drop (k * P.cellsOf e)).take (P.cellsOf e) ++ cs.drop ((k + 1) * P.cellsOf e) := by
      rw [Nat.add_mul, Nat.one_mul, ← List.drop_drop, List.take_append_drop]
    refine ⟨?_, ?_, ?_, ?_, ?_⟩
    · rw [hsp]; exact SRel_app g.rel r1
    · intro c hc
      rcases List.mem_append.1 hc with h | h
      · exact g.one c h
      · exact r2 c h
    · intro c hc
      rcases List.mem_append.1 hc with h | h
      · exact g.tag c h
      · exact r3 c h
    · rw [List.length_append, g.len, r4, List.length_cons, Nat.add_mul, Nat.one_mul, Nat.add_comm]
    · intro y hy
      rcases List.mem_cons.1 hy with rfl | hy
      · exact gt
      · exact r5 y hy

theorem read_dec : ∀ (n : Nat) {fuel : Nat} {t : TypeId} {cs : List Value} {x : DataW H × List MemPlace}, rdT P n t = true → DataW.trod enc P W 0 (fun _ => true) true fuel t cs = some x → Good cf P W t (dec P n t x.1) cs ∧ Typed P n t x.1
  | 0, fuel, t, cs, x, hr, h => by simp [rdT] at hr
  | n + 1, fuel, t, cs, x, hr, h => by
    have ih := fun {fuel : Nat} {t : TypeId} {cs : List Value} {x : DataW H × List MemPlace} => read_dec n (fuel := fuel) (t := t) (cs := cs) (x := x)
    unfold rdT at hr
    split at hr
    · rename_i k ht
      have hc : P.cellsOf t = 1 := by simpa using hr
      cases fuel with
      | zero => simp [DataW.trod] at h
      | succ m =>
        unfold DataW.trod at h
        rw [ht] at h
        split at h <;> simp_all
        obtain ⟨h1, h2⟩ := h
        subst h2
        simp only [dec, ht, Typed]
        exact ⟨good_one (.int _ _ _) rfl rfl hc, _, rfl, h1.2⟩
    · rename_i ht
      have hc : P.cellsOf t = 1 := by simpa using hr
      cases fuel with
      | zero => simp [DataW.trod] at h
      | succ m =>
        unfold DataW.trod at h
        rw [ht] at h
        split at h <;> simp_all
        obtain ⟨h1, h2⟩ := h
        subst h2
        simp only [dec, ht, Typed]
        exact ⟨good_one (.str _ _) rfl rfl hc, _, rfl⟩
    · rename_i ht
      have hc : P.cellsOf t = 1 := by simpa using hr
      cases fuel with
      | zero => simp [DataW.trod] at h
      | succ m =>
        unfold DataW.trod at h
        rw [ht] at h
        split at h <;> simp_all
        subst h
        simp only [dec, ht, Typed]
        exact ⟨good_one (.bool _ _) rfl rfl hc, _, rfl⟩
    · rename_i e ht
      simp only [Bool.and_eq_true, beq_iff_eq, decide_eq_true_eq] at hr
      obtain ⟨⟨hc, he⟩, hre⟩ := hr
      rcases DataW.trod_slice ht h with ⟨rfl, rfl⟩ | ⟨a, len, cap, elems, rest, m, rfl, rfl, rfl, hb, hl, hm, hlen, hel, hsp, hns⟩
      · simp only [dec, ht, Typed]
        exact ⟨good_one (.nilslice _) rfl rfl hc, .inl trivial⟩
      · obtain ⟨hrl, hre2⟩ := hsp rfl
        simp only [dec, ht, Typed]
        by_cases hcap : cap = 0
        · have h0 : len = 0 := by omega
          subst hcap; subst h0
          have : elems = [] := List.eq_nil_of_length_eq_zero hlen
          subst this
          exact ⟨good_one (.zslice _ _ _ _ _ he) rfl rfl hc, .inr ⟨_, _, rfl, fun x hx => by simp at hx⟩⟩
        · have hfirst : ∃ cs', W.cells? 0 (a.add 0) (P.cellsOf e) = some cs' := by
            by_cases h0 : len = 0
            · have := hre2 0 (by omega)
              rw [h0] at this
              simp only [Nat.zero_add, Nat.zero_mul] at this
              cases hcc : W.cells? 0 (a.add 0) (P.cellsOf e) with
              | some c => exact ⟨c, rfl⟩
              | none =>
                rw [hcc] at this
                simp only [Option.bind_none] at this
                have h9 : 0 < rest.length := by omega
                rw [List.getElem?_eq_getElem h9] at this
                cases this
            · have := hel 0 (by omega)
              simp only [Nat.zero_mul] at this
              cases hcc : W.cells? 0 (a.add 0) (P.cellsOf e) with
              | some c => exact ⟨c, rfl⟩
              | none =>
                rw [hcc] at this
                simp only [Option.bind_none] at this
                have h9 : 0 < elems.length := by omega
                rw [List.getElem?_eq_getElem h9] at this
                cases this
          obtain ⟨cs', hcs⟩ := hfirst
          obtain ⟨c1, c2⟩ := cells_row hcs
          have c3 := c2 0 he
          have : cs'[0]? = some (cs'[0]'(by omega)) := List.getElem?_eq_getElem _
          rw [this] at c3
          have ea : (a.add 0).add 0 = a := rfl
          rw [ea] at c3
          obtain ⟨b, o, sp⟩ := a
          have hblk : sp = none ∧ b < W.heap.size := by
            unfold World.cell? at c3
            split at c3
            · rename_i c e' f hh
              split at c3
              · cases c3
              · rename_i hsp'
                exact ⟨by simpa using hsp', (Array.getElem?_eq_some_iff.1 hh).1⟩
            · cases c3
          obtain ⟨rfl, hblk⟩ := hblk
          obtain ⟨vs, r1, r2, r3, r4, r5⟩ := elems_read (cf := cf) (fun h => ih hre h) (fun ha => rdT_len hre ha) (b := b) (o := o) elems 0 (fun i hi => by
            have := hel i (by omega)
            simpa using this)
          refine ⟨good_one ?_ rfl rfl hc, .inr ⟨_, _, rfl, fun x hx => ?_⟩⟩
          · simp only [List.map_map]
            exact .fslice _ 0 false (P.cellsOf e) _ b o len cap vs ⟨hblk, start_own W b, fun k _ hk => by simp [startE] at hk⟩ r1 r3 he r4 (by simpa using r2) (by simpa using hlen) hl (fun h => by cases h)
          · obtain ⟨y, hy, rfl⟩ := List.mem_map.1 hx
            exact r5 y hy
    · rename_i fs ht
      simp only [Bool.and_eq_true, List.all_eq_true] at hr
      obtain ⟨h1, h2⟩ := hr
      obtain ⟨xs, m, rfl, rfl, hl, hxl, hx⟩ := DataW.trod_struct ht h
      obtain ⟨r1, r2, r3, r4, r5⟩ := fields_read (cf := cf) (fun hr h => ih hr h) fs.toList xs cs 0 _ (by simpa using hxl) h1 hl (fun f hf => h2 f hf) (fun i f hf => hx i f (by simpa using hf))
      simp only [dec, ht, Typed]
      refine ⟨⟨by simpa using r1, r2, r3, by simpa using r4⟩, _, rfl, by simpa using hxl, fun i f x hf hx' => ?_⟩
      rw [List.getElem?_map, Option.map_eq_some_iff] at hx'
      obtain ⟨y, hy, rfl⟩ := hx'
      exact r5 i f y (by simpa using hf) hy
    · rename_i k e ht
      simp only [Bool.and_eq_true, beq_iff_eq] at hr
      obtain ⟨hc, hre⟩ := hr
      cases fuel with
      | zero => simp [DataW.trod] at h
      | succ m =>
        unfold DataW.trod at h
        rw [ht] at h
        have key : cs.length = P.cellsOf t ∧ ∃ xs, (List.range k).mapM (fun i => DataW.trod enc P W 0 (fun _ => true) true m e ((cs.drop (i * P.cellsOf e)).take (P.cellsOf e))) = some xs ∧ x = (.agg (xs.map (·.1)), xs.flatMap (·.2)) := by
          split at h <;> simp_all
          obtain ⟨h1, xs, h2, h3⟩ := h
          exact ⟨xs, h2, h3.symm⟩
        obtain ⟨hl, xs, hxs, rfl⟩ := key
        have hxl := mapM_some_length hxs
        simp only [List.length_range] at hxl
        obtain ⟨r1, r2, r3, r4, r5⟩ := parts_read (cf := cf) (fun h => ih hre h) xs cs 0 (by rw [hl, hc, Nat.zero_add]; congr 1; omega) (fun i hi => by
          have := mapM_some_get hxs i i (by rw [List.getElem?_range (by omega)])
          simpa using this)
        simp only [dec, ht, Typed]
        simp only [Nat.zero_mul, List.drop_zero] at r1
        refine ⟨⟨by rw [List.map_map]; exact r1, by rw [List.map_map]; exact r2, by rw [List.map_map]; exact r3, ?_⟩, _, rfl, by simpa using (by omega : xs.length = k), fun x hx => ?_⟩
        · rw [List.map_map, hc, ← (by omega : xs.length = k)]; exact r4
        · obtain ⟨y, hy, rfl⟩ := List.mem_map.1 hx
          exact r5 y hy
    · cases hr
end
end Go.Proofs.Ytmocplkpnickgaa.Am
