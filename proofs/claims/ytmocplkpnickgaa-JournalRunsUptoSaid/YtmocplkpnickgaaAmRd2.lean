/-
  THE ABSTRACT MACHINE, part 36: a law's arguments, by their types.
-/
import Derived.Test.YtmocplkpnickgaaAmRd
import Derived.Test.YtmocplkpnickgaaAmRw
import Derived.Test.YtmocplkpnickgaaRows
namespace Go.Proofs.Ytmocplkpnickgaa.Am
open Go Go.RowKit Go.ChangeShapes Go.WideShapes Go.ChangeAt Go.Proofs.Ytmocplkpnickgaa.Rows
set_option linter.unusedVariables false
set_option linter.unusedSimpArgs false

def argV {H : Type} (P : Program) (n : Nat) (t : TypeId) (d : DataW H) : AVal := elv P t (dec P n t d)

section
variable {P : Program} {cf : FuncId → FuncId} {W : World} {H : Type} {enc : TypeId × Value → H} {base : Nat}

theorem arg_read {n : Nat} {t : TypeId} {v : Value} {d : DataW H} {ps : List MemPlace} (hr : rdT P n t = true) (hval : Value.okWide P W .any base t v) (h : DataW.Trod enc P W 0 (fun _ => true) true t v d ps) :
    (startK W).V startE cf (argV P n t d) v ∧ Typed P n t d := by
  obtain ⟨fuel, hf⟩ := h
  obtain ⟨g, gt⟩ := read_dec (cf := cf) n hr hf
  refine ⟨?_, gt⟩
  have up : ∀ {a : AVal} {c : Value}, VRel cf W.heap ((startK W).safe startE) noIds a c → (startK W).V startE cf a c := fun h => VRel.mono (fun _ _ h => ⟨h, rfl⟩) (noIds_le _) h
  unfold argV elv
  cases ha : aggB P t with
  | true =>
    have hag : ∃ cs, v = .agg cs := by
      unfold Value.okWide at hval
      unfold aggB at ha
      split at hval
      · obtain ⟨cs, h, _⟩ := hval; exact ⟨cs, h⟩
      · obtain ⟨cs, h, _⟩ := hval; exact ⟨cs, h⟩
      · rename_i h1 h2
        split at ha
        · rename_i fs hfs; exact absurd hfs (h1 fs)
        · rename_i m e hm; exact absurd hm (h2 m e)
        · cases ha
    obtain ⟨cs, rfl⟩ := hag
    simp only [if_true]
    have := VRel.agg (cf := cf) (h := W.heap) (S := (startK W).safe startE) noIds _ _ g.rel g.one
    rw [Array.toArray_toList] at this
    exact up this
  | false =>
    simp only [Bool.false_eq_true, if_false]
    have hl : (dec P n t d).length = 1 := by rw [g.len, rdT_len hr ha]
    have hc : v.cells.toList = [v] := by
      have hcell : Cell.okWide P W .any base t v := by
        unfold Value.okWide at hval
        unfold aggB at ha
        split at hval
        · rename_i fs hfs; rw [hfs] at ha; cases ha
        · rename_i m e hm; rw [hm] at ha; cases ha
        · exact hval
      cases n with
      | zero => simp [rdT] at hr
      | succ n =>
        cases v with
        | agg cs =>
          exfalso
          unfold rdT at hr
          unfold Cell.okWide Cell.ok at hcell
          unfold aggB at ha
          split at hr
          · rename_i k hu; simp only [hu] at hcell
          · rename_i hu; simp only [hu] at hcell
          · rename_i hu; simp only [hu] at hcell
          · rename_i e hu; simp only [hu] at hcell
          · rename_i fs hu; simp only [hu] at ha; cases ha
          · rename_i m e hu; simp only [hu] at ha; cases ha
          · cases hr
        | _ => rfl
    have gr := g.rel
    rw [hc] at gr
    match hd : dec P n t d, hl with
    | [x], _ =>
      rw [hd] at gr
      cases gr with
      | cons _ _ _ _ _ hx _ => exact up hx

theorem ints_of {n : Nat} {t : TypeId} {k : IntKind} (ht : P.underlying t = some (.int k)) {d : DataW H} (h : Typed P (n + 1) t d) : ∃ i, argV P (n + 1) t d = .int k i ∧ (Lit.int k i).wf = true := by
  simp only [Typed, ht] at h
  obtain ⟨i, rfl, hw⟩ := h
  have ha : aggB P t = false := by simp [aggB, ht]
  exact ⟨i, by simp [argV, elv, ha, dec, ht], hw⟩

theorem wf_i64 {i : Int} (h : (Lit.int .i64 i).wf = true) : -9223372036854775808 ≤ i ∧ i < 9223372036854775808 := by
  simp [Lit.wf, IntKind.min, IntKind.max, IntKind.signed, IntKind.bits] at h
  omega
theorem wf_u8 {i : Int} (h : (Lit.int .u8 i).wf = true) : 0 ≤ i ∧ i < 256 := by
  simp [Lit.wf, IntKind.min, IntKind.max, IntKind.signed, IntKind.bits] at h
  omega

theorem argV_slice {n : Nat} {t e : TypeId} (ht : P.underlying t = some (.slice e)) (ds rest : List (DataW H)) : argV P (n + 1) t (.slice ds rest) = .fslice 0 false (P.cellsOf e) (ds.map fun x => argV P n e x) := by
  have ha : aggB P t = false := by simp [aggB, ht]
  simp only [argV, elv, ha, dec, ht, Bool.false_eq_true, if_false, List.headD_cons]
theorem argV_nil {n : Nat} {t e : TypeId} (ht : P.underlying t = some (.slice e)) : argV P (n + 1) t (.nil : DataW H) = .nilslice := by
  have ha : aggB P t = false := by simp [aggB, ht]
  simp only [argV, elv, ha, dec, ht, Bool.false_eq_true, if_false, List.headD_cons]
theorem argV_int {n : Nat} {t : TypeId} {k : IntKind} (ht : P.underlying t = some (.int k)) (i : Int) : argV P (n + 1) t (.lit (.int k i) : DataW H) = .int k i := by
  have ha : aggB P t = false := by simp [aggB, ht]
  simp only [argV, elv, ha, dec, ht, Bool.false_eq_true, if_false, List.headD_cons]

/-- a slice of whatever: the elements one by one -/
theorem list_of {α : Type} {n : Nat} {s : TypeId} {R : AVal → α → Prop} {size : α → Nat} (one : ∀ d : DataW H, Typed P n s d → ∃ a : α, R (argV P n s d) a ∧ size a ≤ uptoBulk d) : ∀ ds : List (DataW H), (∀ x ∈ ds, Typed P n s x) →
    ∃ xs : List α, xs.length = ds.length ∧ (∀ (i : Nat) (e : AVal) (a : α), (ds.map fun x => argV P n s x)[i]? = some e → xs[i]? = some a → R e a) ∧ (xs.map size).sum ≤ uptoBulkAll ds ∧ ds.length ≤ uptoBulkAll ds
  | [], _ => ⟨[], rfl, fun i e a h => by simp at h, Nat.zero_le _, Nat.zero_le _⟩
  | d :: ds, h => by
    obtain ⟨a, h1, h2⟩ := one d (h d (by simp))
    obtain ⟨xs, g1, g2, g3, g4⟩ := list_of one ds (fun x hx => h x (by simp [hx]))
    have h3 : 1 ≤ uptoBulk d := by cases d <;> first | (simp only [uptoBulk]; omega) | (rename_i l; cases l <;> simp only [uptoBulk] <;> omega)
    refine ⟨a :: xs, by simp [g1], fun i e b he hb => ?_, by simp only [List.map_cons, List.sum_cons, uptoBulkAll]; omega, by simp only [List.length_cons, uptoBulkAll]; omega⟩
    cases i with
    | zero =>
      simp only [List.map_cons, List.getElem?_cons_zero, Option.some.injEq] at he hb
      subst he; subst hb; exact h1
    | succ i => exact g2 i e b (by simpa using he) (by simpa using hb)

theorem slice_of {n : Nat} {t e : TypeId} (ht : P.underlying t = some (.slice e)) {d : DataW H} (h : Typed P (n + 1) t d) : (d = .nil) ∨ ∃ ds rest, d = .slice ds rest ∧ (∀ x ∈ ds, Typed P n e x) ∧ argV P (n + 1) t d = .fslice 0 false (P.cellsOf e) (ds.map fun x => argV P n e x) ∧ uptoBulkAll ds + 1 ≤ uptoBulk d := by
  simp only [Typed, ht] at h
  rcases h with rfl | ⟨ds, rest, rfl, hd⟩
  · exact .inl rfl
  · exact .inr ⟨ds, rest, rfl, hd, argV_slice ht ds rest, by simp only [uptoBulk]; omega⟩

theorem byte_of {n : Nat} {e : TypeId} (he : P.underlying e = some (.int .u8)) (d : DataW H) (h : Typed P (n + 1) e d) : ∃ b : UInt8, argV P (n + 1) e d = .int .u8 b.toNat ∧ 0 ≤ uptoBulk d := by
  obtain ⟨i, h1, h2⟩ := ints_of he h
  have := wf_u8 h2
  refine ⟨UInt8.ofNat i.toNat, ?_, Nat.zero_le _⟩
  have e1 : ((UInt8.ofNat i.toNat).toNat : Int) = i := by rw [UInt8.toNat_ofNat']; omega
  rw [h1, e1]

theorem bytes_of {n : Nat} {t e : TypeId} (ht : P.underlying t = some (.slice e)) (he : P.underlying e = some (.int .u8)) (hc : P.cellsOf e = 1) {d : DataW H} (h : Typed P (n + 2) t d) :
    ∃ bs : List UInt8, (∀ σ, SlOf σ 1 (argV P (n + 2) t d) (B bs)) ∧ bs.length ≤ uptoBulk d := by
  rcases slice_of ht h with rfl | ⟨ds, rest, rfl, hd, ha, hb⟩
  · exact ⟨[], fun σ => by rw [argV_nil ht]; exact SlOf.nil σ 1, Nat.zero_le _⟩
  · obtain ⟨bs, h1, h2, _, h4⟩ := list_of (R := fun a (b : UInt8) => a = .int .u8 b.toNat) (size := fun _ => 0) (fun d h => byte_of he d h) ds hd
    refine ⟨bs, fun σ => ?_, by omega⟩
    rw [ha, hc]
    have : (ds.map fun x => argV P (n + 1) e x) = B bs := by
      refine List.ext_getElem? fun i => ?_
      by_cases hi : i < ds.length
      · have e1 : (ds.map fun x => argV P (n + 1) e x)[i]? = some (argV P (n + 1) e ds[i]) := by simp [List.getElem?_eq_getElem hi]
        have e2 : bs[i]? = some (bs[i]'(by omega)) := List.getElem?_eq_getElem _
        have := h2 i _ _ e1 e2
        rw [e1, this, B, List.getElem?_map, e2]; rfl
      · rw [List.getElem?_eq_none (by simp; omega), List.getElem?_eq_none (by simp [B]; omega)]
    rw [this]
    exact SlOf.fs _ _ _ _ _

theorem rows_of {n : Nat} {t s e : TypeId} (ht : P.underlying t = some (.slice s)) (hs : P.underlying s = some (.slice e)) (hcs : P.cellsOf s = 1) (he : P.underlying e = some (.int .u8)) (hc : P.cellsOf e = 1) {d : DataW H} (h : Typed P (n + 3) t d) :
    ∃ (ps : List (List UInt8)) (es : List AVal), (∀ σ, SRows σ 1 (argV P (n + 3) t d) es (ps.map B)) ∧ ps.length ≤ uptoBulk d ∧ (ps.map List.length).sum ≤ uptoBulk d := by
  rcases slice_of ht h with rfl | ⟨ds, rest, rfl, hd, ha, hb⟩
  · exact ⟨[], [], fun σ => ⟨by rw [argV_nil ht]; exact SlOf.nil σ 1, rfl, fun i e p h => by simp at h⟩, Nat.zero_le _, Nat.zero_le _⟩
  · obtain ⟨ps, h1, h2, h3, h4⟩ := list_of (R := fun a (p : List UInt8) => ∀ σ, SlOf σ 1 a (B p)) (size := List.length) (fun d h => bytes_of hs he hc h) ds hd
    refine ⟨ps, ds.map fun x => argV P (n + 2) s x, fun σ => ⟨?_, by simp [h1], fun i a p hi hp => ?_⟩, by omega, by omega⟩
    · rw [ha, hcs]; exact SlOf.fs _ _ _ _ _
    · rw [List.getElem?_map, Option.map_eq_some_iff] at hp
      obtain ⟨q, hq, rfl⟩ := hp
      exact h2 i a q hi hq σ

theorem dec_one {n : Nat} {t : TypeId} {d : DataW H} (h : Typed P (n + 1) t d) (ha : aggB P t = false) : dec P (n + 1) t d = [argV P (n + 1) t d] := by
  unfold argV elv
  rw [ha]
  simp only [Bool.false_eq_true, if_false]
  unfold Typed at h
  split at h
  · rename_i k hu; obtain ⟨i, rfl, _⟩ := h; simp [dec, hu]
  · rename_i hu; obtain ⟨b, rfl⟩ := h; simp [dec, hu]
  · rename_i hu; obtain ⟨b, rfl⟩ := h; simp [dec, hu]
  · rename_i e hu
    rcases h with rfl | ⟨ds, rest, rfl, _⟩ <;> simp [dec, hu]
  · rename_i fs hu; unfold aggB at ha; rw [hu] at ha; cases ha
  · rename_i m e hu; unfold aggB at ha; rw [hu] at ha; cases ha
  · exact h.elim

theorem struct_of {n : Nat} {t : TypeId} {fs : Array Field} (ht : P.underlying t = some (.struct fs)) {d : DataW H} (h : Typed P (n + 1) t d) :
    ∃ ds, d = .agg ds ∧ ds.length = fs.size ∧ (∀ (i : Nat) (f : Field) (x : DataW H), fs[i]? = some f → ds[i]? = some x → Typed P n f.type x) ∧
      argV P (n + 1) t d = .agg (List.zipWith (fun (f : Field) x => dec P n f.type x) fs.toList ds).flatten ∧ uptoBulkAll ds + 1 ≤ uptoBulk d := by
  have ha : aggB P t = true := by simp [aggB, ht]
  unfold Typed at h
  rw [ht] at h
  obtain ⟨ds, rfl, h1, h2⟩ := h
  refine ⟨ds, rfl, h1, h2, ?_, by simp only [uptoBulk]; omega⟩
  unfold argV elv
  rw [ha, if_pos rfl]
  conv => lhs; unfold dec
  rw [ht]
end
end Go.Proofs.Ytmocplkpnickgaa.Am
