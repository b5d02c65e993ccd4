/-
  THE ABSTRACT MACHINE, part 3: how its values and store stand for those of the model.
-/
import Derived.Test.YtmocplkpnickgaaAmRun
namespace Go.Proofs.Ytmocplkpnickgaa.Am
open Go
set_option linter.unusedVariables false
set_option linter.unusedSimpArgs false

def cellAt (h : Array Obj) (b o : Nat) : Option Value :=
  match h[b]? with
  | some (.cells c _ _) => c[o]?
  | _ => none

theorem cellAt_eq (w : World) (b o : Nat) : w.cell? ⟨b, o, none⟩ = cellAt w.heap b o := rfl

theorem cellAt_congr {h h' : Array Obj} {b : Nat} (e : h'[b]? = h[b]?) (o : Nat) : cellAt h' b o = cellAt h b o := by
  simp [cellAt, e]

structure Ids where
  ptr : Nat → Nat → Prop
  sl : Nat → Nat → Nat → Nat → Nat → Option Nat → Nat → Nat → Nat → Prop
  el : Nat → Nat → Nat → Nat → Nat → Prop
  mp : Nat → Nat → Prop

def noIds : Ids := ⟨fun _ _ => False, fun _ _ _ _ _ _ _ _ _ => False, fun _ _ _ _ _ => False, fun _ _ => False⟩

structure Ids.le (I I' : Ids) : Prop where
  ptr : ∀ id b, I.ptr id b → I'.ptr id b
  sl : ∀ sz id ep off len cap b o cap', I.sl sz id ep off len cap b o cap' → I'.sl sz id ep off len cap b o cap'
  el : ∀ id ep i b o, I.el id ep i b o → I'.el id ep i b o
  mp : ∀ id b, I.mp id b → I'.mp id b

theorem Ids.le_refl (I : Ids) : I.le I := ⟨fun _ _ h => h, fun _ _ _ _ _ _ _ _ _ h => h, fun _ _ _ _ _ h => h, fun _ _ h => h⟩
theorem noIds_le (I : Ids) : noIds.le I := ⟨fun _ _ h => h.elim, fun _ _ _ _ _ _ _ _ _ h => h.elim, fun _ _ _ _ _ h => h.elim, fun _ _ h => h.elim⟩

def AVal.allOne (cs : List AVal) : Prop := ∀ c ∈ cs, c.one = true
def AVal.elemsOk (sz : Nat) (es : List AVal) : Prop := ∀ e ∈ es, e.cells.length = sz ∧ AVal.allOne e.cells
def AVal.tagsLe (t : Nat) (cs : List AVal) : Prop := ∀ c ∈ cs, c.tag ≤ t

/-- a row of cells in memory -/
def rowAt (h : Array Obj) (b o : Nat) (vs : List Value) : Prop := ∀ (j : Nat) (v : Value), vs[j]? = some v → cellAt h b (o + j) = some v

mutual
inductive VRel (cf : FuncId → FuncId) (h : Array Obj) (S : Nat → Nat → Prop) : Ids → AVal → Value → Prop
  | undef (I : Ids) (v : Value) : VRel cf h S I .undef v
  | bool (I : Ids) (b : Bool) : VRel cf h S I (.bool b) (.bool b)
  | int (I : Ids) (k : IntKind) (n : Int) : VRel cf h S I (.int k n) (.int k n)
  | str (I : Ids) (s : ByteArray) : VRel cf h S I (.str s.data.toList) (.string s)
  | nilptr (I : Ids) : VRel cf h S I .nilptr (.pointer none)
  | ptr (I : Ids) (id off b : Nat) : I.ptr id b → VRel cf h S I (.ptr id off) (.pointer (some ⟨b, off, none⟩))
  | eptr (I : Ids) (id ep i off b o : Nat) : I.el id ep i b o → VRel cf h S I (.eptr id ep i off) (.pointer (some ⟨b, o + off, none⟩))
  | fptr (I : Ids) (t : Nat) (cs : List AVal) (off b o : Nat) (vs : List Value) : S t b → VRelL cf h S noIds cs vs → AVal.allOne cs → AVal.tagsLe t cs → rowAt h b o vs →
      VRel cf h S I (.fptr t cs off) (.pointer (some ⟨b, o + off, none⟩))
  | nilslice (I : Ids) : VRel cf h S I .nilslice (.slice none 0 0)
  | slice (I : Ids) (sz id ep off len : Nat) (cap : Option Nat) (b o cap' : Nat) : I.sl sz id ep off len cap b o cap' → VRel cf h S I (.slice sz id ep off len cap) (.slice (some ⟨b, o, none⟩) len cap')
  | fslice (I : Ids) (t : Nat) (full : Bool) (sz : Nat) (es : List AVal) (b o len cap : Nat) (vs : List Value) : S t b → VRelL cf h S noIds (es.flatMap AVal.cells) vs → AVal.elemsOk sz es → 0 < sz →
      AVal.tagsLe t es → rowAt h b o vs → es.length = len → len ≤ cap → (full = true → cap = len) →
      VRel cf h S I (.fslice t full sz es) (.slice (some ⟨b, o, none⟩) len cap)
  | zslice (I : Ids) (t : Nat) (full : Bool) (sz : Nat) (a : Addr) : 0 < sz → VRel cf h S I (.fslice t full sz []) (.slice (some a) 0 0)
  | nilmap (I : Ids) : VRel cf h S I .nilmap (.map none)
  | map (I : Ids) (id b : Nat) : I.mp id b → VRel cf h S I (.map id) (.map (some b))
  | fmap (I : Ids) (t : Nat) (ks vs : List AVal) (b clock : Nat) (es : Array MapEntry) : S t b → h[b]? = some (.map es clock) → VRelL cf h S noIds ks (es.toList.map (·.key)) → VRelL cf h S noIds vs (es.toList.map (·.val)) →
      AVal.tagsLe t ks → AVal.tagsLe t vs → VRel cf h S I (.fmap t ks vs) (.map (some b))
  | func (I : Ids) (f : FuncId) (first caps : List AVal) (vs us : List Value) : VRelL cf h S I first vs → VRelL cf h S I caps us →
      VRel cf h S I (.func f first caps) (.func (.func (cf f)) vs.toArray us.toArray)
  | nilfunc (I : Ids) : VRel cf h S I .nilfunc .nilFunc
  | nilIface (I : Ids) : VRel cf h S I .nilIface .nilIface
  | iface (I : Ids) (t : TypeId) (v : AVal) (cv : Value) : VRel cf h S I v cv → VRel cf h S I (.iface t v) (.iface t cv)
  | agg (I : Ids) (cs : List AVal) (vs : List Value) : VRelL cf h S I cs vs → AVal.allOne cs → VRel cf h S I (.agg cs) (.agg vs.toArray)
  | tuple (I : Ids) (cs : List AVal) (vs : List Value) : VRelL cf h S I cs vs → VRel cf h S I (.tuple cs) (.tuple vs.toArray)
inductive VRelL (cf : FuncId → FuncId) (h : Array Obj) (S : Nat → Nat → Prop) : Ids → List AVal → List Value → Prop
  | nil (I : Ids) : VRelL cf h S I [] []
  | cons (I : Ids) (v : AVal) (cv : Value) (vs : List AVal) (cvs : List Value) : VRel cf h S I v cv → VRelL cf h S I vs cvs → VRelL cf h S I (v :: vs) (cv :: cvs)
end

section
variable {cf : FuncId → FuncId} {h h' : Array Obj} {S S' : Nat → Nat → Prop}

theorem rowAt.congr {b o : Nat} {vs : List Value} (e : h'[b]? = h[b]?) (hr : rowAt h b o vs) : rowAt h' b o vs :=
  fun j v hj => (cellAt_congr e _).trans (hr j v hj)

mutual
theorem VRel.mono (hS : ∀ t b, S t b → S' t b ∧ h'[b]? = h[b]?) : ∀ {I I' : Ids} {v : AVal} {cv : Value}, I.le I' → VRel cf h S I v cv → VRel cf h' S' I' v cv
  | _, _, _, _, _, .undef _ _ => .undef _ _
  | _, _, _, _, _, .bool _ _ => .bool _ _
  | _, _, _, _, _, .int _ _ _ => .int _ _ _
  | _, _, _, _, _, .str _ _ => .str _ _
  | _, _, _, _, _, .nilptr _ => .nilptr _
  | _, _, _, _, hI, .ptr _ id off b hp => .ptr _ id off b (hI.ptr _ _ hp)
  | _, _, _, _, hI, .eptr _ id ep i off b o hp => .eptr _ id ep i off b o (hI.el _ _ _ _ _ hp)
  | _, _, _, _, _, .fptr _ t cs off b o vs hs hc h1 h2 hr => .fptr _ t cs off b o vs (hS _ _ hs).1 (VRelL.mono hS (Ids.le_refl _) hc) h1 h2 (hr.congr (hS _ _ hs).2)
  | _, _, _, _, _, .nilslice _ => .nilslice _
  | _, _, _, _, hI, .slice _ sz id ep off len cap b o cap' hp => .slice _ sz id ep off len cap b o cap' (hI.sl _ _ _ _ _ _ _ _ _ hp)
  | _, _, _, _, _, .fslice _ t full sz es b o len cap vs hs hc h1 h2 h3 hr h4 h5 h6 => .fslice _ t full sz es b o len cap vs (hS _ _ hs).1 (VRelL.mono hS (Ids.le_refl _) hc) h1 h2 h3 (hr.congr (hS _ _ hs).2) h4 h5 h6
  | _, _, _, _, _, .zslice _ t full sz a h => .zslice _ t full sz a h
  | _, _, _, _, _, .nilmap _ => .nilmap _
  | _, _, _, _, hI, .map _ id b hp => .map _ id b (hI.mp _ _ hp)
  | _, _, _, _, _, .fmap _ t ks vs b clock es hs he hk hv h1 h2 => .fmap _ t ks vs b clock es (hS _ _ hs).1 ((hS _ _ hs).2.trans he) (VRelL.mono hS (Ids.le_refl _) hk) (VRelL.mono hS (Ids.le_refl _) hv) h1 h2
  | _, _, _, _, hI, .func _ f a b vs us ha hb => .func _ f a b vs us (VRelL.mono hS hI ha) (VRelL.mono hS hI hb)
  | _, _, _, _, _, .nilfunc _ => .nilfunc _
  | _, _, _, _, _, .nilIface _ => .nilIface _
  | _, _, _, _, hI, .iface _ t v cv hv => .iface _ t v cv (VRel.mono hS hI hv)
  | _, _, _, _, hI, .agg _ cs vs hc h1 => .agg _ cs vs (VRelL.mono hS hI hc) h1
  | _, _, _, _, hI, .tuple _ cs vs hc => .tuple _ cs vs (VRelL.mono hS hI hc)
theorem VRelL.mono (hS : ∀ t b, S t b → S' t b ∧ h'[b]? = h[b]?) : ∀ {I I' : Ids} {vs : List AVal} {cvs : List Value}, I.le I' → VRelL cf h S I vs cvs → VRelL cf h' S' I' vs cvs
  | _, _, _, _, _, .nil _ => .nil _
  | _, _, _, _, hI, .cons _ v cv vs cvs hv hvs => .cons _ v cv vs cvs (VRel.mono hS hI hv) (VRelL.mono hS hI hvs)
end

theorem tag_le_of_cells {c e : AVal} (h : c ∈ e.cells) : c.tag ≤ e.tag := by
  cases e <;> simp only [AVal.cells, List.mem_singleton] at h <;> first | (subst h; exact Nat.le_refl _) | skip
  rename_i cs
  induction cs with
  | nil => cases h
  | cons x xs ih =>
    simp only [AVal.tag, AVal.tagL] at *
    rcases List.mem_cons.1 h with rfl | hx
    · exact Nat.le_max_left _ _
    · exact Nat.le_trans (ih hx) (Nat.le_max_right _ _)

theorem tagsLe_cells {t : Nat} {es : List AVal} (h : AVal.tagsLe t es) : AVal.tagsLe t (es.flatMap AVal.cells) := by
  intro c hc
  obtain ⟨e, he, hce⟩ := List.mem_flatMap.1 hc
  exact Nat.le_trans (tag_le_of_cells hce) (h e he)

theorem tagsLe_of_tagL {t : Nat} : ∀ {cs : List AVal}, AVal.tagL cs ≤ t → AVal.tagsLe t cs
  | [], _, _, h => nomatch h
  | x :: xs, ht, c, h => by
    simp only [AVal.tagL] at ht
    rcases List.mem_cons.1 h with rfl | hx
    · exact Nat.le_trans (Nat.le_max_left _ _) ht
    · exact tagsLe_of_tagL (Nat.le_trans (Nat.le_max_right _ _) ht) c hx

mutual
/-- what is told by what it holds needs nothing but what its tag promises -/
theorem VRel.retag {d : Nat} (hS : ∀ t b, t ≤ d → S t b → S' t b ∧ h'[b]? = h[b]?) : ∀ {I : Ids} {v : AVal} {cv : Value}, VRel cf h S I v cv → ∀ {I' : Ids}, v.tag ≤ d → I.le I' → VRel cf h' S' I' v cv
  | _, _, _, .undef _ _, _, _, _ => .undef _ _
  | _, _, _, .bool _ _, _, _, _ => .bool _ _
  | _, _, _, .int _ _ _, _, _, _ => .int _ _ _
  | _, _, _, .str _ _, _, _, _ => .str _ _
  | _, _, _, .nilptr _, _, _, _ => .nilptr _
  | _, _, _, .ptr _ id off b hp, _, _, hI => .ptr _ id off b (hI.ptr _ _ hp)
  | _, _, _, .eptr _ id ep i off b o hp, _, _, hI => .eptr _ id ep i off b o (hI.el _ _ _ _ _ hp)
  | _, _, _, .fptr _ t cs off b o vs hs hc h1 h2 hr, _, ht, _ => by
    simp only [AVal.tag] at ht
    exact .fptr _ t cs off b o vs (hS _ _ ht hs).1 (VRelL.retag hS hc (fun c hc' => Nat.le_trans (h2 c hc') ht) (Ids.le_refl _)) h1 h2 (hr.congr (hS _ _ ht hs).2)
  | _, _, _, .nilslice _, _, _, _ => .nilslice _
  | _, _, _, .slice _ sz id ep off len cap b o cap' hp, _, _, hI => .slice _ sz id ep off len cap b o cap' (hI.sl _ _ _ _ _ _ _ _ _ hp)
  | _, _, _, .fslice _ t full sz es b o len cap vs hs hc h1 h2 h3 hr h4 h5 h6, _, ht, _ => by
    simp only [AVal.tag] at ht
    exact .fslice _ t full sz es b o len cap vs (hS _ _ ht hs).1 (VRelL.retag hS hc (fun c hc' => Nat.le_trans (tagsLe_cells h3 c hc') ht) (Ids.le_refl _)) h1 h2 h3 (hr.congr (hS _ _ ht hs).2) h4 h5 h6
  | _, _, _, .zslice _ t full sz a h, _, _, _ => .zslice _ t full sz a h
  | _, _, _, .nilmap _, _, _, _ => .nilmap _
  | _, _, _, .map _ id b hp, _, _, hI => .map _ id b (hI.mp _ _ hp)
  | _, _, _, .fmap _ t ks vs b clock es hs he hk hv h1 h2, _, ht, _ => by
    simp only [AVal.tag] at ht
    exact .fmap _ t ks vs b clock es (hS _ _ ht hs).1 ((hS _ _ ht hs).2.trans he) (VRelL.retag hS hk (fun c hc' => Nat.le_trans (h1 c hc') ht) (Ids.le_refl _)) (VRelL.retag hS hv (fun c hc' => Nat.le_trans (h2 c hc') ht) (Ids.le_refl _)) h1 h2
  | _, _, _, .func _ f a b vs us ha hb, _, ht, hI => by
    simp only [AVal.tag] at ht
    exact .func _ f a b vs us (VRelL.retag hS ha (tagsLe_of_tagL (Nat.le_trans (Nat.le_max_left _ _) ht)) hI) (VRelL.retag hS hb (tagsLe_of_tagL (Nat.le_trans (Nat.le_max_right _ _) ht)) hI)
  | _, _, _, .nilfunc _, _, _, _ => .nilfunc _
  | _, _, _, .nilIface _, _, _, _ => .nilIface _
  | _, _, _, .iface _ t v cv hv, _, ht, hI => by
    simp only [AVal.tag] at ht
    exact .iface _ t v cv (VRel.retag hS hv ht hI)
  | _, _, _, .agg _ cs vs hc h1, _, ht, hI => by
    simp only [AVal.tag] at ht
    exact .agg _ cs vs (VRelL.retag hS hc (tagsLe_of_tagL ht) hI) h1
  | _, _, _, .tuple _ cs vs hc, _, ht, hI => by
    simp only [AVal.tag] at ht
    exact .tuple _ cs vs (VRelL.retag hS hc (tagsLe_of_tagL ht) hI)
theorem VRelL.retag {d : Nat} (hS : ∀ t b, t ≤ d → S t b → S' t b ∧ h'[b]? = h[b]?) : ∀ {I : Ids} {vs : List AVal} {cvs : List Value}, VRelL cf h S I vs cvs → ∀ {I' : Ids}, AVal.tagsLe d vs → I.le I' → VRelL cf h' S' I' vs cvs
  | _, _, _, .nil _, _, _, _ => .nil _
  | _, _, _, .cons _ v cv vs cvs hv hvs, _, ht, hI => .cons _ v cv vs cvs (VRel.retag hS hv (ht v List.mem_cons_self) hI) (VRelL.retag hS hvs (fun c hc => ht c (List.mem_cons_of_mem _ hc)) hI)
end
end

end Go.Proofs.Ytmocplkpnickgaa.Am
