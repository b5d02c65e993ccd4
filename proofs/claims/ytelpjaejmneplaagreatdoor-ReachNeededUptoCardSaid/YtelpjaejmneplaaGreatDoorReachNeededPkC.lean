/-
  The abstract machine and the functions of the law, 3: texts put together.
-/
import Derived.Test.YtelpjaejmneplaaGreatDoorReachNeededPkB
import Derived.Test.YtelpjaejmneplaaGreatDoorRows
import Derived.Test.YtelpjaejmneplaaGreatDoorReachNeededPkA
set_option linter.unusedVariables false
set_option linter.unusedSimpArgs false
set_option linter.unusedSectionVars false
set_option maxRecDepth 100000
namespace Go.Proofs.YtelpjaejmneplaaGreatDoor.Am
open Go Go.RowKit Go.ChangeShapes Go.WideShapes Go.ChangeAt Go.Proofs.YtelpjaejmneplaaGreatDoor.Rows
def argV {H : Type} (P : Program) (n : Nat) (t : TypeId) (d : DataW H) : AVal := elv P t (dec P n t d)
section
variable {P : Program} {cf : FuncId → FuncId} {W : World} {H : Type} {enc : TypeId × Value → H} {base : Nat}
theorem arg_read {n : Nat} {t : TypeId} {v : Value} {d : DataW H} {ps : List MemPlace} (hr : rdT P n t = true) (hval : Value.okWide P W .any base t v) (h : DataW.Trod enc P W 0 (fun _ => true) true t v d ps) :
  (startK W).V startE cf (argV P n t d) v ∧ Typed P n t d := by
 obtain ⟨fuel, hf⟩ := h
 obtain ⟨g, gt⟩ := read_dec (cf := cf) n hr hf
 refine ⟨?_, gt⟩
 have up : ∀ {a : AVal} {c : Value}, VRel cf W.heap ((startK W).safe startE) noIds a c → (startK W).V startE cf a c := fun h => VRel.mono (fun _ _ h => ⟨h, rfl⟩) (noIds_le _) h
 unfold argV elv
 cases ha : aggB P t with
 | true =>
  have hag : ∃ cs, v = .agg cs := by
   unfold Value.okWide at hval
   unfold aggB at ha
   split at hval
   ·obtain ⟨cs, h, _⟩ := hval; exact ⟨cs, h⟩
   ·obtain ⟨cs, h, _⟩ := hval; exact ⟨cs, h⟩
   ·rename_i h1 h2
    split at ha
    ·rename_i fs hfs; exact absurd hfs (h1 fs)
    ·rename_i m e hm; exact absurd hm (h2 m e)
    ·cases ha
  obtain ⟨cs, rfl⟩ := hag
  simp only [if_true]
  have := VRel.agg (cf := cf) (h := W.heap) (S := (startK W).safe startE) noIds _ _ g.rel g.one
  rw [Array.toArray_toList] at this
  exact up this
 | false =>
  simp only [Bool.false_eq_true, if_false]
  have hl : (dec P n t d).length = 1 := by rw [g.len, rdT_len hr ha]
  have hc : v.cells.toList = [v] := by
   have hcell : Cell.okWide P W .any base t v := by
    unfold Value.okWide at hval
    unfold aggB at ha
    split at hval
    ·rename_i fs hfs; rw [hfs] at ha; cases ha
    ·rename_i m e hm; rw [hm] at ha; cases ha
    ·exact hval
   cases n with
   | zero => simp [rdT] at hr
   | succ n =>
    cases v with
    | agg cs =>
     exfalso
     unfold rdT at hr
     unfold Cell.okWide Cell.ok at hcell
     unfold aggB at ha
     split at hr
     ·rename_i k hu; simp only [hu] at hcell
     ·rename_i hu; simp only [hu] at hcell
     ·rename_i hu; simp only [hu] at hcell
     ·rename_i e hu; simp only [hu] at hcell
     ·rename_i fs hu; simp only [hu] at ha; cases ha
     ·rename_i m e hu; simp only [hu] at ha; cases ha
     ·cases hr
    | _ => rfl
  have gr := g.rel
  rw [hc] at gr
  match hd : dec P n t d, hl with
  | [x], _ =>
   rw [hd] at gr
   cases gr with
   | cons _ _ _ _ _ hx _ => exact up hx
theorem ints_of {n : Nat} {t : TypeId} {k : IntKind} (ht : P.underlying t = some (.int k)) {d : DataW H} (h : Typed P (n + 1) t d) : ∃ i, argV P (n + 1) t d = .int k i ∧ (Lit.int k i).wf = true := by
 simp only [Typed, ht] at h
 obtain ⟨i, rfl, hw⟩ := h
 have ha : aggB P t = false := by simp [aggB, ht]
 exact ⟨i, by simp [argV, elv, ha, dec, ht], hw⟩
theorem wf_i64 {i : Int} (h : (Lit.int .i64 i).wf = true) : -9223372036854775808 ≤ i ∧ i < 9223372036854775808 := by
 simp [Lit.wf, IntKind.min, IntKind.max, IntKind.signed, IntKind.bits] at h
 omega
theorem wf_u8 {i : Int} (h : (Lit.int .u8 i).wf = true) : 0 ≤ i ∧ i < 256 := by
 simp [Lit.wf, IntKind.min, IntKind.max, IntKind.signed, IntKind.bits] at h
 omega
theorem argV_slice {n : Nat} {t e : TypeId} (ht : P.underlying t = some (.slice e)) (ds rest : List (DataW H)) : argV P (n + 1) t (.slice ds rest) = .fslice 0 false (P.cellsOf e) (ds.map fun x => argV P n e x) := by
 have ha : aggB P t = false := by simp [aggB, ht]
 simp only [argV, elv, ha, dec, ht, Bool.false_eq_true, if_false, List.headD_cons]
theorem argV_nil {n : Nat} {t e : TypeId} (ht : P.underlying t = some (.slice e)) : argV P (n + 1) t (.nil : DataW H) = .nilslice := by
 have ha : aggB P t = false := by simp [aggB, ht]
 simp only [argV, elv, ha, dec, ht, Bool.false_eq_true, if_false, List.headD_cons]
theorem list_of {α : Type} {n : Nat} {s : TypeId} {R : AVal → α → Prop} {size : α → Nat} (one : ∀ d : DataW H, Typed P n s d → ∃ a : α, R (argV P n s d) a ∧ size a ≤ uptoBulk d) : ∀ ds : List (DataW H), (∀ x ∈ ds, Typed P n s x) →
  ∃ xs : List α, xs.length = ds.length ∧ (∀ (i : Nat) (e : AVal) (a : α), (ds.map fun x => argV P n s x)[i]? = some e → xs[i]? = some a → R e a) ∧ (xs.map size).sum ≤ uptoBulkAll ds ∧ ds.length ≤ uptoBulkAll ds
 | [], _ => ⟨[], rfl, fun i e a h => by simp at h, Nat.zero_le _, Nat.zero_le _⟩
 | d :: ds, h => by
  obtain ⟨a, h1, h2⟩ := one d (h d (by simp))
  obtain ⟨xs, g1, g2, g3, g4⟩ := list_of one ds (fun x hx => h x (by simp [hx]))
  have h3 : 1 ≤ uptoBulk d := by cases d <;> first | (simp only [uptoBulk]; omega) | (rename_i l; cases l <;> simp only [uptoBulk] <;> omega)
  refine ⟨a :: xs, by simp [g1], fun i e b he hb => ?_, by simp only [List.map_cons, List.sum_cons, uptoBulkAll]; omega, by simp only [List.length_cons, uptoBulkAll]; omega⟩
  cases i with
  | zero =>
   simp only [List.map_cons, List.getElem?_cons_zero, Option.some.injEq] at he hb
   subst he; subst hb; exact h1
  | succ i => exact g2 i e b (by simpa using he) (by simpa using hb)
theorem slice_of {n : Nat} {t e : TypeId} (ht : P.underlying t = some (.slice e)) {d : DataW H} (h : Typed P (n + 1) t d) : (d = .nil) ∨ ∃ ds rest, d = .slice ds rest ∧ (∀ x ∈ ds, Typed P n e x) ∧ argV P (n + 1) t d = .fslice 0 false (P.cellsOf e) (ds.map fun x => argV P n e x) ∧ uptoBulkAll ds + 1 ≤ uptoBulk d := by
 simp only [Typed, ht] at h
 rcases h with rfl | ⟨ds, rest, rfl, hd⟩
 ·exact .inl rfl
 ·exact .inr ⟨ds, rest, rfl, hd, argV_slice ht ds rest, by simp only [uptoBulk]; omega⟩
theorem dec_one {n : Nat} {t : TypeId} {d : DataW H} (h : Typed P (n + 1) t d) (ha : aggB P t = false) : dec P (n + 1) t d = [argV P (n + 1) t d] := by
 unfold argV elv
 rw [ha]
 simp only [Bool.false_eq_true, if_false]
 unfold Typed at h
 split at h
 ·rename_i k hu; obtain ⟨i, rfl, _⟩ := h; simp [dec, hu]
 ·rename_i hu; obtain ⟨b, rfl⟩ := h; simp [dec, hu]
 ·rename_i hu; obtain ⟨b, rfl⟩ := h; simp [dec, hu]
 ·rename_i e hu
  rcases h with rfl | ⟨ds, rest, rfl, _⟩ <;> simp [dec, hu]
 ·rename_i fs hu; unfold aggB at ha; rw [hu] at ha; cases ha
 ·rename_i m e hu; unfold aggB at ha; rw [hu] at ha; cases ha
 ·exact h.elim
theorem struct_of {n : Nat} {t : TypeId} {fs : Array Field} (ht : P.underlying t = some (.struct fs)) {d : DataW H} (h : Typed P (n + 1) t d) :
  ∃ ds, d = .agg ds ∧ ds.length = fs.size ∧ (∀ (i : Nat) (f : Field) (x : DataW H), fs[i]? = some f → ds[i]? = some x → Typed P n f.type x) ∧
   argV P (n + 1) t d = .agg (List.zipWith (fun (f : Field) x => dec P n f.type x) fs.toList ds).flatten ∧ uptoBulkAll ds + 1 ≤ uptoBulk d := by
 have ha : aggB P t = true := by simp [aggB, ht]
 unfold Typed at h
 rw [ht] at h
 obtain ⟨ds, rfl, h1, h2⟩ := h
 refine ⟨ds, rfl, h1, h2, ?_, by simp only [uptoBulk]; omega⟩
 unfold argV elv
 rw [ha, if_pos rfl]
 conv => lhs; unfold dec
 rw [ht]
end
end Go.Proofs.YtelpjaejmneplaaGreatDoor.Am
namespace Go.Proofs.YtelpjaejmneplaaGreatDoor.Am
open Go
structure Cel where
 k : Nat
 s : List UInt8
 n : Int
 v : Int × Int
 deriving DecidableEq, Inhabited
def Cel.cs (c : Cel) : List AVal := [.int .u8 c.k, .str c.s, .int .i64 c.n, .int .i64 c.v.1, .int .i64 c.v.2]
def Cel.val (c : Cel) : AVal := .agg c.cs
abbrev CC (l : List Cel) : List AVal := l.map Cel.val
def I64 (i : Int) : Prop := -9223372036854775808 ≤ i ∧ i < 9223372036854775808
abbrev Nm := Int × Int
def nmV (v : Nm) : AVal := .agg [.int .i64 v.1, .int .i64 v.2]
def Nm.In (v : Nm) : Prop := I64 v.1 ∧ I64 v.2
def Cel.In (c : Cel) : Prop := c.k < 256 ∧ I64 c.n ∧ Nm.In c.v
def Cel.parts (c : Cel) : Nat := if c.k = 3 then c.n.toNat else 0
def endAt (L : Nat) : List Cel → Nat → Nat → Nat
 | _, 0, at_ => at_
 | [], _ + 1, _ => 0
 | c :: r, o + 1, at_ => if L < c.parts then 0 else endAt L r (o + c.parts) (at_ + 1)
theorem endAt_zero (L : Nat) (r : List Cel) (a : Nat) : endAt L r 0 a = a := by cases r <;> rfl
theorem endAt_nil (L o a : Nat) : endAt L [] (o + 1) a = 0 := rfl
theorem endAt_cons (L : Nat) (c : Cel) (r : List Cel) (o a : Nat) : endAt L (c :: r) (o + 1) a = if L < c.parts then 0 else endAt L r (o + c.parts) (a + 1) := rfl
def smallC (c : UInt8) : Bool := decide (97 ≤ c.toNat) && decide (c.toNat ≤ 122)
def wordC (c : UInt8) : Bool := smallC c || (decide (65 ≤ c.toNat) && decide (c.toNat ≤ 90)) || (decide (48 ≤ c.toNat) && decide (c.toNat ≤ 57)) || decide (c.toNat = 95)
def isName : List UInt8 → Bool
 | [] => false
 | c :: r => decide (r.length < 16) && smallC c && r.all wordC
def signsL : List (List UInt8) := [[61], [58, 61], [64], [43], [45], [42], [60], [61, 60], [62], [62, 61], [61, 58, 61], [61, 92, 61]]
def Cel.ok (c : Cel) : Bool :=
 if c.k = 1 then decide (c.s = []) && decide (c.v = (0, 0)) && decide (-2147483648 ≤ c.n) && decide (c.n ≤ 2147483648)
 else if c.k = 2 then isName c.s && decide (c.v = (0, 0)) && decide (c.n = 0)
 else if c.k = 3 then decide (c.v = (0, 0)) && ((isName c.s && decide (1 ≤ c.n) && decide (c.n ≤ 8)) || (signsL.contains c.s && decide (c.n = 2)))
 else if c.k = 4 then decide (c.s = []) && decide (c.n = 0) && decide (-1 ≤ c.v.1) && decide (c.v.1 ≤ 3) && decide (0 ≤ c.v.2)
 else false
def right (t : List Cel) : Bool := decide (1 ≤ t.length) && decide (t.length ≤ 256) && decide (endAt t.length t 1 0 = t.length) && t.all Cel.ok
def argsFrom (L : Nat) : Nat → List Cel → Nat → List (List Cel)
 | 0, _, _ => []
 | f + 1, r, a => if r = [] then [] else r.take (endAt L r 1 a - a) :: argsFrom L f (r.drop (endAt L r 1 a - a)) (endAt L r 1 a)
def args (t : List Cel) : List (List Cel) := if right t && decide ((t.headD default).k = 3) then argsFrom t.length t.length (t.drop 1) 1 else []
end Go.Proofs.YtelpjaejmneplaaGreatDoor.Am
namespace Go.Proofs.YtelpjaejmneplaaGreatDoor.Am
open Go Go.RowKit Go.ChangeShapes Go.WideShapes Go.ChangeAt Go.Proofs.YtelpjaejmneplaaGreatDoor.Rows
theorem mem_sum {α : Type} (f : α → Nat) : ∀ {xs : List α} {x : α}, x ∈ xs → f x ≤ (xs.map f).sum
 | [], _, h => by cases h
 | y :: ys, x, h => by
  simp only [List.map_cons, List.sum_cons]
  rcases List.mem_cons.1 h with rfl | h
  ·omega
  ·have := mem_sum f h; omega
section
variable {P : Program} {cf : FuncId → FuncId} {W : World} {H : Type} {enc : TypeId × Value → H} {base : Nat}
theorem int_dec {n : Nat} {t : TypeId} {k : IntKind} (ht : P.underlying t = some (.int k)) {d : DataW H} (h : Typed P (n + 1) t d) : ∃ i, dec P (n + 1) t d = [.int k i] ∧ (Lit.int k i).wf = true := by
 have ha : aggB P t = false := by simp [aggB, ht]
 obtain ⟨i, h1, h2⟩ := ints_of ht h
 exact ⟨i, by rw [dec_one h ha, h1], h2⟩
theorem text_dec {n : Nat} {t : TypeId} (ht : P.underlying t = some .string) {d : DataW H} (h : Typed P (n + 1) t d) : ∃ s : List UInt8, dec P (n + 1) t d = [.str s] ∧ s.length + 1 ≤ uptoBulk d := by
 simp only [Typed, ht] at h
 obtain ⟨s, rfl⟩ := h
 exact ⟨s, by simp [dec, ht], by simp [uptoBulk]⟩
theorem struct_dec {n : Nat} {t : TypeId} {fs : Array Field} (ht : P.underlying t = some (.struct fs)) (ds : List (DataW H)) : dec P (n + 1) t (.agg ds) = (List.zipWith (fun (f : Field) x => dec P n f.type x) fs.toList ds).flatten := by
 conv => lhs; unfold dec
 rw [ht]
theorem struct_argV {n : Nat} {t : TypeId} {fs : Array Field} (ht : P.underlying t = some (.struct fs)) (d : DataW H) : argV P n t d = .agg (dec P n t d) := by
 have ha : aggB P t = true := by simp [aggB, ht]
 simp [argV, elv, ha]
theorem name_dec {n : Nat} {t : TypeId} {f0 f1 : Field} (ht : P.underlying t = some (.struct #[f0, f1])) (h0 : P.underlying f0.type = some (.int .i64)) (h1 : P.underlying f1.type = some (.int .i64)) {d : DataW H} (h : Typed P (n + 2) t d) :
  ∃ v : Nm, dec P (n + 2) t d = [.int .i64 v.1, .int .i64 v.2] ∧ Nm.In v := by
 obtain ⟨ds, rfl, hl, hty, _, _⟩ := struct_of ht h
 match ds, hl with
 | [x, y], _ =>
  obtain ⟨a, a1, a2⟩ := int_dec h0 (hty 0 f0 x rfl rfl)
  obtain ⟨b, b1, b2⟩ := int_dec h1 (hty 1 f1 y rfl rfl)
  refine ⟨(a, b), ?_, wf_i64 a2, wf_i64 b2⟩
  rw [struct_dec ht]
  simp [a1, b1]
theorem cel_dec {n : Nat} {t : TypeId} {f0 f1 f2 f3 g0 g1 : Field} (ht : P.underlying t = some (.struct #[f0, f1, f2, f3])) (h0 : P.underlying f0.type = some (.int .u8)) (h1 : P.underlying f1.type = some .string) (h2 : P.underlying f2.type = some (.int .i64))
  (h3 : P.underlying f3.type = some (.struct #[g0, g1])) (k0 : P.underlying g0.type = some (.int .i64)) (k1 : P.underlying g1.type = some (.int .i64)) {d : DataW H} (h : Typed P (n + 3) t d) :
  ∃ c : Cel, argV P (n + 3) t d = c.val ∧ c.In ∧ c.s.length ≤ uptoBulk d := by
 obtain ⟨ds, rfl, hl, hty, _, hb⟩ := struct_of ht h
 match ds, hl with
 | [x, y, z, u], _ =>
  obtain ⟨a, a1, a2⟩ := int_dec h0 (hty 0 f0 x rfl rfl)
  obtain ⟨s, s1, s2⟩ := text_dec h1 (hty 1 f1 y rfl rfl)
  obtain ⟨b, b1, b2⟩ := int_dec h2 (hty 2 f2 z rfl rfl)
  obtain ⟨v, v1, v2⟩ := name_dec h3 k0 k1 (hty 3 f3 u rfl rfl)
  have ha := wf_u8 a2
  refine ⟨⟨a.toNat, s, b, v⟩, ?_, ⟨by simp only; omega, wf_i64 b2, v2⟩, ?_⟩
  ·rw [struct_argV ht, struct_dec ht]
   simp [a1, s1, b1, v1, Cel.val, Cel.cs]
   omega
  ·simp only [uptoBulkAll] at hb ⊢
   omega
theorem term_of {n : Nat} {t e : TypeId} (ht : P.underlying t = some (.slice e)) (hc : P.cellsOf e = 5) (one : ∀ d : DataW H, Typed P n e d → ∃ c : Cel, argV P n e d = c.val ∧ c.In ∧ c.s.length ≤ uptoBulk d) {d : DataW H} (h : Typed P (n + 1) t d) :
  ∃ cs : List Cel, (∀ σ, SlOf σ 5 (argV P (n + 1) t d) (cs.map Cel.val)) ∧ (∀ c ∈ cs, c.In) ∧ cs.length ≤ uptoBulk d ∧ (cs.map fun c => c.s.length).sum ≤ uptoBulk d := by
 rcases slice_of ht h with rfl | ⟨ds, rest, rfl, hd, ha, hb⟩
 ·exact ⟨[], fun σ => by rw [argV_nil ht]; exact SlOf.nil σ 5, fun c hc => by simp at hc, Nat.zero_le _, Nat.zero_le _⟩
 ·obtain ⟨cs, h1, h2, h3, h4⟩ := list_of (R := fun a (c : Cel) => a = c.val ∧ c.In) (size := fun c : Cel => c.s.length) (fun d h => by obtain ⟨c, a, b, e⟩ := one d h; exact ⟨c, ⟨a, b⟩, e⟩) ds hd
  have hget : ∀ (i : Nat) (c : Cel), cs[i]? = some c → ∃ a, (ds.map fun x => argV P n e x)[i]? = some a ∧ a = c.val ∧ c.In := by
   intro i c hi
   have hlt := (List.getElem?_eq_some_iff.1 hi).1
   have e1 : (ds.map fun x => argV P n e x)[i]? = some (argV P n e (ds[i]'(by omega))) := by simp [List.getElem?_eq_getElem (show i < ds.length by omega)]
   exact ⟨_, e1, h2 i _ _ e1 hi⟩
  refine ⟨cs, fun σ => ?_, fun c hc => ?_, by omega, by omega⟩
  ·rw [ha, hc]
   have : (ds.map fun x => argV P n e x) = cs.map Cel.val := by
    refine List.ext_getElem? fun i => ?_
    by_cases hi : i < ds.length
    ·obtain ⟨a, e1, e2, _⟩ := hget i (cs[i]'(by omega)) (List.getElem?_eq_getElem _)
     rw [e1, List.getElem?_map, List.getElem?_eq_getElem (show i < cs.length by omega), e2]; rfl
    ·rw [List.getElem?_eq_none (by simp; omega), List.getElem?_eq_none (by simp; omega)]
   rw [this]
   exact SlOf.fs _ _ _ _ _
  ·obtain ⟨i, hi⟩ := List.getElem?_of_mem hc
   obtain ⟨a, _, _, h⟩ := hget i c hi
   exact h
end
end Go.Proofs.YtelpjaejmneplaaGreatDoor.Am
namespace Go.Proofs.YtelpjaejmneplaaGreatDoor.Am
open Go
mutual
theorem AVal.beq_self : ∀ v : AVal, AVal.beq v v = true
 | .undef | .nilptr | .nilslice | .nilmap | .nilfunc | .nilIface => rfl
 | .bool b => by simp [AVal.beq]
 | .int k n => by simp [AVal.beq]
 | .str s => by simp [AVal.beq]
 | .ptr a b => by simp [AVal.beq]
 | .eptr a b c e => by simp [AVal.beq]
 | .fptr t cs o => by simp [AVal.beq, AVal.beqL_self cs]
 | .slice a b c e f g => by simp [AVal.beq]
 | .fslice t b sz es => by simp [AVal.beq, AVal.beqL_self es]
 | .map a => by simp [AVal.beq]
 | .fmap t a b => by simp [AVal.beq, AVal.beqL_self a, AVal.beqL_self b]
 | .func f a b => by simp [AVal.beq, AVal.beqL_self a, AVal.beqL_self b]
 | .iface t v => by simp [AVal.beq, AVal.beq_self v]
 | .agg cs => by simp [AVal.beq, AVal.beqL_self cs]
 | .tuple cs => by simp [AVal.beq, AVal.beqL_self cs]
theorem AVal.beqL_self : ∀ v : List AVal, AVal.beqL v v = true
 | [] => rfl
 | v :: vs => by simp [AVal.beqL, AVal.beq_self v, AVal.beqL_self vs]
end
section
variable {cfg : Cfg} {d : Nat}
def wpD (cfg : Cfg) (d : Nat) (ops : List AOper) (pairs : List (Nat × Nat)) : List AOper → List FS → List AVal → Store → PostF → Prop
 | [], hist, fr, σ, Q => (∀ p ∈ pairs, steady cfg noCall d ops (hist ++ [(fr, σ)]) p = true) ∧ Q fr σ
 | o :: os, hist, fr, σ, Q => wpOs cfg d [o] fr σ (fun fr' σ' => wpD cfg d ops pairs os (hist ++ [(fr, σ)]) fr' σ' Q)
end
attribute [irreducible] wpD
end Go.Proofs.YtelpjaejmneplaaGreatDoor.Am
namespace Go.Proofs.YtelpjaejmneplaaGreatDoor.Am
open Go
def heldP (C : Prop) (fr : List AVal) (σ : Store) (K : List AVal → Store → Prop) (w : Wit K) : Prop := C ∧ K fr σ
theorem heldP_true (fr : List AVal) (σ : Store) (K : List AVal → Store → Prop) (w : Wit K) : heldP True fr σ K w = K fr σ := by simp [heldP]
def hupd (h : Nat → Store) (k : Nat) (σ : Store) : Nat → Store := fun t => if t = k then σ else h t
theorem hupd_apply (h : Nat → Store) (k : Nat) (σ : Store) (t : Nat) : hupd h k σ t = if t = k then σ else h t := by simp only [hupd]
def ksOf : List (Nat × Nat) → Nat → List Nat
 | [], _ => []
 | (a, k) :: ps, i => if a = i then (if k < i then k :: ksOf ps i else ksOf ps i) else ksOf ps i
theorem ksOf_nil (i : Nat) : ksOf [] i = [] := by simp [ksOf]
theorem ksOf_cons (a k : Nat) (ps : List (Nat × Nat)) (i : Nat) : ksOf ((a, k) :: ps) i = if a = i then (if k < i then k :: ksOf ps i else ksOf ps i) else ksOf ps i := by simp [ksOf]
theorem mem_ksOf {ps : List (Nat × Nat)} {i k : Nat} (hk : k < i) : (i, k) ∈ ps → k ∈ ksOf ps i := by
 induction ps with
 | nil => intro h; cases h
 | cons p ps ih =>
  obtain ⟨a, k'⟩ := p
  intro h
  rw [ksOf_cons]
  rcases List.mem_cons.1 h with h | h
  ·injection h with h1 h2; subst h1; subst h2; rw [if_pos rfl, if_pos hk]; exact List.mem_cons_self
  ·split
   ·split
    ·exact List.mem_cons_of_mem _ (ih h)
    ·exact ih h
   ·exact ih h
def addP (P : Store → Prop) : List (Nat × Nat) → Nat → List (Nat × (Store → Prop)) → List (Nat × (Store → Prop))
 | [], _, pe => pe
 | (a, k) :: ps, i, pe => if a = i then (if i < k then (k, P) :: addP P ps i pe else addP P ps i pe) else addP P ps i pe
theorem addP_nil (P : Store → Prop) (i : Nat) (pe : List (Nat × (Store → Prop))) : addP P [] i pe = pe := by simp [addP]
theorem addP_cons (P : Store → Prop) (a k : Nat) (ps : List (Nat × Nat)) (i : Nat) (pe : List (Nat × (Store → Prop))) : addP P ((a, k) :: ps) i pe = if a = i then (if i < k then (k, P) :: addP P ps i pe else addP P ps i pe) else addP P ps i pe := by simp [addP]
theorem mem_addP {P : Store → Prop} {ps : List (Nat × Nat)} {i k : Nat} (hk : i < k) {pe : List (Nat × (Store → Prop))} : (i, k) ∈ ps → (k, P) ∈ addP P ps i pe := by
 induction ps with
 | nil => intro h; cases h
 | cons p ps ih =>
  obtain ⟨a, k'⟩ := p
  intro h
  rw [addP_cons]
  rcases List.mem_cons.1 h with h | h
  ·injection h with h1 h2; subst h1; subst h2; rw [if_pos rfl, if_pos hk]; exact List.mem_cons_self
  ·split
   ·split
    ·exact List.mem_cons_of_mem _ (ih h)
    ·exact ih h
   ·exact ih h
theorem old_addP {P : Store → Prop} {ps : List (Nat × Nat)} {i : Nat} {pe : List (Nat × (Store → Prop))} {x : Nat × (Store → Prop)} (hx : x ∈ pe) : x ∈ addP P ps i pe := by
 induction ps with
 | nil => rw [addP_nil]; exact hx
 | cons p ps ih =>
  obtain ⟨a, k'⟩ := p
  rw [addP_cons]
  split
  ·split
   ·exact List.mem_cons_of_mem _ ih
   ·exact ih
  ·exact ih
def dueP (i : Nat) (σ : Store) : List (Nat × (Store → Prop)) → Prop
 | [] => True
 | (k, P) :: r => (if k = i then P σ else True) ∧ dueP i σ r
theorem dueP_nil (i : Nat) (σ : Store) : dueP i σ [] = True := by simp [dueP]
theorem dueP_cons (i : Nat) (σ : Store) (k : Nat) (P : Store → Prop) (r : List (Nat × (Store → Prop))) : dueP i σ ((k, P) :: r) = ((if k = i then P σ else True) ∧ dueP i σ r) := by simp [dueP]
theorem dueP_mem {i : Nat} {σ : Store} {pe : List (Nat × (Store → Prop))} (h : dueP i σ pe) {P : Store → Prop} (hm : (i, P) ∈ pe) : P σ := by
 induction pe with
 | nil => cases hm
 | cons x r ih =>
  obtain ⟨k, P'⟩ := x
  rw [dueP_cons] at h
  rcases List.mem_cons.1 hm with e | e
  ·injection e with e1 e2; subst e1; subst e2
   have := h.1
   rwa [if_pos rfl] at this
  ·exact ih h.2 e
def guardS (g : Option Bool) (P : Prop) : Prop := match g with
 | some true => P
 | _ => True
theorem guardS_true (P : Prop) : guardS (some true) P = P := propext Iff.rfl
theorem guardS_false (P : Prop) : guardS (some false) P = True := propext Iff.rfl
section
variable {cfg : Cfg} {d : Nat}
def sameP (cfg : Cfg) (d : Nat) (o : AOper) (fr : List AVal) (σ τ : Store) : Prop := guardS (wantedA fr o.guard) (match o.op with
 | .load n agg a => loadV τ n agg (ev cfg fr a) = loadV σ n agg (ev cfg fr a)
 | op => ∃ v σ1 σ2, opStep cfg noCall d fr σ op = some (v, σ1) ∧ opStep cfg noCall d fr τ op = some (v, σ2))
theorem sameP_load (dst : Option Nat) (n : Nat) (agg : Bool) (a : Opnd) (g : Option (Nat × Bool)) (fr : List AVal) (σ τ : Store) :
  sameP cfg d ⟨dst, .load n agg a, g⟩ fr σ τ = guardS (wantedA fr g) (loadV τ n agg (ev cfg fr a) = loadV σ n agg (ev cfg fr a)) := propext Iff.rfl
theorem wantedA_none (fr : List AVal) : wantedA fr none = some true := by simp [wantedA]
def sameAll (cfg : Cfg) (d : Nat) (o : AOper) (fr : List AVal) (σ : Store) (H : Nat → Store) : List Nat → Prop
 | [] => True
 | k :: ks => sameP cfg d o fr σ (H k) ∧ sameAll cfg d o fr σ H ks
theorem sameAll_nil (o : AOper) (fr : List AVal) (σ : Store) (H : Nat → Store) : sameAll cfg d o fr σ H [] = True := propext Iff.rfl
theorem sameAll_cons (o : AOper) (fr : List AVal) (σ : Store) (H : Nat → Store) (k : Nat) (ks : List Nat) : sameAll cfg d o fr σ H (k :: ks) = (sameP cfg d o fr σ (H k) ∧ sameAll cfg d o fr σ H ks) := propext Iff.rfl
theorem sameAll_mem {o : AOper} {fr : List AVal} {σ : Store} {H : Nat → Store} {ks : List Nat} (h : sameAll cfg d o fr σ H ks) {k : Nat} (hk : k ∈ ks) : sameP cfg d o fr σ (H k) := by
 induction ks with
 | nil => cases hk
 | cons a ks ih =>
  rw [sameAll_cons] at h
  rcases List.mem_cons.1 hk with e | e
  ·subst e; exact h.1
  ·exact ih h.2 e
def wpE (cfg : Cfg) (d : Nat) (pairs : List (Nat × Nat)) : Nat → List AOper → (Nat → Store) → List (Nat × (Store → Prop)) → List AVal → Store → PostF → Prop
 | _, [], _, _, fr, σ, Q => Q fr σ
 | i, o :: os, H, pe, fr, σ, Q => heldP (sameAll cfg d o fr σ H (ksOf pairs i)) fr σ (fun fr σ => wpOs cfg d [o] fr σ (fun fr' σ' => heldP (dueP i σ' (addP (sameP cfg d o fr σ) pairs i pe)) fr' σ' (fun fr' σ' => wpE cfg d pairs (i + 1) os (hupd H i σ) (addP (sameP cfg d o fr σ) pairs i pe) fr' σ' Q) .mk)) .mk
theorem wpE_nil (pairs : List (Nat × Nat)) (i : Nat) (H : Nat → Store) (pe : List (Nat × (Store → Prop))) (fr : List AVal) (σ : Store) (Q : PostF) : wpE cfg d pairs i [] H pe fr σ Q = Q fr σ := propext Iff.rfl
theorem wpE_cons (pairs : List (Nat × Nat)) (i : Nat) (o : AOper) (os : List AOper) (H : Nat → Store) (pe : List (Nat × (Store → Prop))) (fr : List AVal) (σ : Store) (Q : PostF) :
  wpE cfg d pairs i (o :: os) H pe fr σ Q = heldP (sameAll cfg d o fr σ H (ksOf pairs i)) fr σ (fun fr σ => wpOs cfg d [o] fr σ (fun fr' σ' => heldP (dueP i σ' (addP (sameP cfg d o fr σ) pairs i pe)) fr' σ' (fun fr' σ' => wpE cfg d pairs (i + 1) os (hupd H i σ) (addP (sameP cfg d o fr σ) pairs i pe) fr' σ' Q) .mk)) .mk := propext Iff.rfl
theorem same_steady {ops : List AOper} {i k j : Nat} {T : List FS} {fr : List AVal} {σ : Store} {τ : FS} {o : AOper} {n : Nat} {s' : FS} (h1 : ops[i]? = some o) (h2 : T[i]? = some (fr, σ)) (hj : (if k < i then k else k + 1) = j) (h3 : T[j]? = some τ)
  (hs : sameP cfg d o fr σ τ.2) (hr : stepO cfg (run cfg n) d o (fr, σ) = some s') : steady cfg noCall d ops T (i, k) = true := by
 unfold steady
 dsimp only
 rw [h1, h2, hj, h3]
 dsimp only
 cases hw : wantedA fr o.guard with
 | none => rfl
 | some b =>
  cases b with
  | false => rfl
  | true =>
   dsimp only
   unfold sameP at hs
   rw [hw, guardS_true] at hs
   simp only [stepO, hw] at hr
   obtain ⟨dst, op, g⟩ := o
   cases op with
   | load m agg a =>
    dsimp only at hs hr ⊢
    simp only [opStep] at hr ⊢
    rw [hs]
    cases hl : loadV σ m agg (ev cfg fr a) with
    | none => rw [hl] at hr; simp at hr
    | some v => simp [AVal.beq_self]
   | _ =>
    obtain ⟨v, σ1, σ2, e1, e2⟩ := hs
    dsimp only at e1 e2 ⊢
    rw [e1, e2]
    exact AVal.beq_self v
def Due (cfg : Cfg) (d : Nat) (ops : List AOper) (pairs : List (Nat × Nat)) (hist : List FS) (pe : List (Nat × (Store → Prop))) (i : Nat) : Prop :=
 ∀ p ∈ pairs, p.1 < i → i ≤ p.2 → ∃ (o : AOper) (s s' : FS) (n : Nat), ops[p.1]? = some o ∧ hist[p.1]? = some s ∧ stepO cfg (run cfg n) d o s = some s' ∧ (p.2, sameP cfg d o s.1 s.2) ∈ pe
theorem wpE_sound {ops : List AOper} {pairs : List (Nat × Nat)} {Q : PostF} : ∀ (os : List AOper) (i : Nat) (H : Nat → Store) (pe : List (Nat × (Store → Prop))) (hist : List FS) (fr : List AVal) (σ : Store), hist.length = i → (∀ k, k < i → ∃ τ, hist[k]? = some τ ∧ τ.2 = H k) →
  Due cfg d ops pairs hist pe i → ops.drop i = os → wpE cfg d pairs i os H pe fr σ Q →
  ∃ n s', stepOs cfg (run cfg n) d os (fr, σ) = some s' ∧ Q s'.1 s'.2 ∧ (∀ p ∈ pairs, i ≤ p.1 → p.1 < ops.length → p.2 < p.1 → steady cfg noCall d ops (hist ++ traceOs cfg (run cfg n) d os (fr, σ)) p = true) ∧
   ∀ p ∈ pairs, i ≤ p.2 → p.2 < ops.length → p.1 < p.2 → steady cfg noCall d ops (hist ++ traceOs cfg (run cfg n) d os (fr, σ)) p = true
 | [], i, H, pe, hist, fr, σ, hl, hh, hd, ho, h => ⟨0, (fr, σ), rfl, h, fun p hp h1 h2 h3 => by
   have := congrArg List.length ho
   simp only [List.length_drop, List.length_nil] at this
   omega, fun p hp h1 h2 h3 => by
   have := congrArg List.length ho
   simp only [List.length_drop, List.length_nil] at this
   omega⟩
 | o :: os, i, H, pe, hist, fr, σ, hl, hh, hd, ho, h => by
  rw [wpE_cons] at h
  obtain ⟨hc, h⟩ := h
  obtain ⟨n1, s1, e1, hdu, h2⟩ := wpOs_sound h
  have hi : i < ops.length := by
   have := congrArg List.length ho
   simp only [List.length_drop, List.length_cons] at this
   omega
  have hoi : ops[i]? = some o := by
   have := congrArg (fun l => l[0]?) ho
   simpa using this
  have hos : ops.drop (i + 1) = os := by
   have := congrArg List.tail ho
   simpa using this
  have e1' : stepO cfg (run cfg n1) d o (fr, σ) = some s1 := by
   simp only [stepOs] at e1
   split at e1
   ·rename_i s hs; rw [hs]; exact e1
   ·cases e1
  have hd' : Due cfg d ops pairs (hist ++ [(fr, σ)]) (addP (sameP cfg d o fr σ) pairs i pe) (i + 1) := by
   intro p hp h1 h2
   by_cases e : p.1 = i
   ·obtain ⟨a, k⟩ := p
    dsimp only at e h2 ⊢
    subst e
    exact ⟨o, (fr, σ), s1, n1, hoi, by rw [← hl]; simp, e1', mem_addP (by omega) hp⟩
   ·obtain ⟨o', s, s', n, a1, a2, a3, a4⟩ := hd p hp (by omega) (by omega)
    exact ⟨o', s, s', n, a1, by rw [List.getElem?_append_left (by omega)]; exact a2, a3, old_addP a4⟩
  obtain ⟨n2, s2, e2, hq, hst, hst2⟩ := wpE_sound os (i + 1) (hupd H i σ) _ (hist ++ [(fr, σ)]) s1.1 s1.2 (by simp [hl]) (fun k hk => by
   by_cases e : k = i
   ·subst e
    exact ⟨(fr, σ), by rw [← hl]; simp, by simp [hupd]⟩
   ·obtain ⟨τ, t1, t2⟩ := hh k (by omega)
    exact ⟨τ, by rw [List.getElem?_append_left (by omega)]; exact t1, by simp [hupd, e, t2]⟩) hd' hos h2
  have f1 := stepO_mono (run_le cfg (Nat.le_max_left n1 n2)) e1'
  obtain ⟨f2, f3⟩ := stepOs_mono (run_le cfg (Nat.le_max_right n1 n2)) e2
  have et : traceOs cfg (run cfg (max n1 n2)) d (o :: os) (fr, σ) = (fr, σ) :: traceOs cfg (run cfg n2) d os (s1.1, s1.2) := by
   simp only [traceOs]
   rw [f1]
   dsimp only
   have e3 : traceOs cfg (run cfg (max n1 n2)) d os s1 = traceOs cfg (run cfg n2) d os (s1.1, s1.2) := f3
   rw [e3]
  have th : (traceOs cfg (run cfg n2) d os (s1.1, s1.2))[0]? = some (s1.1, s1.2) := by
   cases os <;> simp [traceOs]
  refine ⟨max n1 n2, s2, ?_, hq, fun p hp hp1 hp2 hp3 => ?_, fun p hp hp1 hp2 hp3 => ?_⟩
  ·simp only [stepOs]; rw [f1]; exact f2
  ·rw [et]
   by_cases e : p.1 = i
   ·obtain ⟨a, k⟩ := p
    dsimp only at e hp3
    subst e
    obtain ⟨τ, t1, t2⟩ := hh k hp3
    refine same_steady hoi (by rw [← hl]; simp) (if_pos hp3) (by rw [List.getElem?_append_left (by omega)]; exact t1) ?_ e1'
    rw [t2]
    exact sameAll_mem hc (mem_ksOf hp3 hp)
   ·have := hst p hp (by omega) hp2 hp3
    rw [List.append_assoc] at this
    exact this
  ·rw [et]
   by_cases e : p.2 = i
   ·obtain ⟨a, k⟩ := p
    dsimp only at e hp3
    subst e
    obtain ⟨o', s, s', n, a1, a2, a3, a4⟩ := hd (a, k) hp hp3 (Nat.le_refl _)
    have hsame := dueP_mem hdu (old_addP a4)
    refine same_steady (τ := (s1.1, s1.2)) a1 (fr := s.1) (σ := s.2) (by rw [List.getElem?_append_left (by omega)]; exact a2) (if_neg (by omega)) ?_ hsame a3
    rw [List.getElem?_append_right (by omega), show k + 1 - hist.length = 1 by omega]
    simpa using th
   ·have := hst2 p hp (by omega) hp2 hp3
    rw [List.append_assoc] at this
    exact this
theorem drawnP_of {ops : List AOper} {pairs : List (Nat × Nat)} {fr : List AVal} {σ : Store} {Q : PostF} {w : Wit Q} (hp : pairs.all (fun p => decide (p.1 < ops.length) && decide (p.2 < ops.length) && !(p.1 == p.2)) = true) (h : wpE cfg d pairs 0 ops (fun _ => []) [] fr σ Q) : drawnP cfg d ops pairs fr σ Q w := by
 obtain ⟨n, s', h1, h2, h3, h4⟩ := wpE_sound (ops := ops) ops 0 (fun _ => []) [] [] fr σ rfl (fun k hk => by omega) (fun p hp h => by omega) rfl h
 unfold drawnP
 refine ⟨n, s', h1, ?_, h2⟩
 rw [List.all_eq_true]
 intro p hp'
 have := List.all_eq_true.1 hp p hp'
 simp only [Bool.and_eq_true, decide_eq_true_eq, Bool.not_eq_true', beq_eq_false_iff_ne] at this
 rcases Nat.lt_or_gt_of_ne this.2 with hlt | hlt
 ·have h5 := h4 p hp' (Nat.zero_le _) this.1.2 hlt
  rw [List.nil_append] at h5
  exact steady_mono (noCall_le _) h5
 ·have h5 := h3 p hp' (Nat.zero_le _) this.1.1 hlt
  rw [List.nil_append] at h5
  exact steady_mono (noCall_le _) h5
end
attribute [irreducible] wpE heldP sameAll guardS hupd ksOf sameP addP dueP
end Go.Proofs.YtelpjaejmneplaaGreatDoor.Am
namespace Go.Proofs.YtelpjaejmneplaaGreatDoor.Am
open Go
section
variable {cfg : Cfg} {d : Nat}
end
theorem WPd : type_of% (And.intro (And.intro (And.intro (And.intro (And.intro (And.intro @wpC_skip @wpC_region) (And.intro @wpC_drawn @wpC_ahead)) (And.intro (And.intro @wpC_seq @wpC_loop) (And.intro @wpC_exit @wpC_ret))) (And.intro (And.intro (And.intro @wpOs_nil @wpOs_guard) (And.intro @seqQ_normal @seqQ_exit)) (And.intro (And.intro @seqQ_ret @blockQ_normal) (And.intro @blockQ_hit (And.intro @blockQ_miss @blockQ_ret))))) (And.intro (And.intro (And.intro (And.intro @endQ_normal @endQ_ret) (And.intro @loopQ_exit @loopQ_ret)) (And.intro (And.intro @wpO_move @wpO_pick) (And.intro @wpO_alloc @wpO_box))) (And.intro (And.intro (And.intro @wpO_build @wpO_lit) (And.intro @wpO_litA @wpO_load)) (And.intro (And.intro @wpO_store @wpO_nilCheck) (And.intro @wpO_iop (And.intro @wpO_sop @wpO_bop)))))) (And.intro (And.intro (And.intro (And.intro (And.intro @wpO_eqs @wpO_eqnil) (And.intro @wpO_not @wpO_neg)) (And.intro (And.intro @wpO_convI @wpO_sliceOp) (And.intro @wpO_substr @wpO_gslice))) (And.intro (And.intro (And.intro @wpO_faddr @wpO_field) (And.intro @wpO_iaddr @wpO_aaddr)) (And.intro (And.intro @wpO_strIdx @wpO_arrIdx) (And.intro @wpO_lenS (And.intro @wpO_lenStr @wpO_lenM))))) (And.intro (And.intro (And.intro (And.intro @wpO_lenA @wpO_capS) (And.intro @wpO_minI @wpO_maxI)) (And.intro (And.intro @wpO_append @wpO_appendz) (And.intro @wpO_mkslice @wpO_extract))) (And.intro (And.intro (And.intro @wpO_mkfunc @wpO_mkmap) (And.intro @wpO_lookup @wpO_mapset)) (And.intro (And.intro @wpO_mapdel @wpO_mkiface) (And.intro @wpO_callS (And.intro @wpO_callI @wpO_callv))))))) := (And.intro (And.intro (And.intro (And.intro (And.intro (And.intro @wpC_skip @wpC_region) (And.intro @wpC_drawn @wpC_ahead)) (And.intro (And.intro @wpC_seq @wpC_loop) (And.intro @wpC_exit @wpC_ret))) (And.intro (And.intro (And.intro @wpOs_nil @wpOs_guard) (And.intro @seqQ_normal @seqQ_exit)) (And.intro (And.intro @seqQ_ret @blockQ_normal) (And.intro @blockQ_hit (And.intro @blockQ_miss @blockQ_ret))))) (And.intro (And.intro (And.intro (And.intro @endQ_normal @endQ_ret) (And.intro @loopQ_exit @loopQ_ret)) (And.intro (And.intro @wpO_move @wpO_pick) (And.intro @wpO_alloc @wpO_box))) (And.intro (And.intro (And.intro @wpO_build @wpO_lit) (And.intro @wpO_litA @wpO_load)) (And.intro (And.intro @wpO_store @wpO_nilCheck) (And.intro @wpO_iop (And.intro @wpO_sop @wpO_bop)))))) (And.intro (And.intro (And.intro (And.intro (And.intro @wpO_eqs @wpO_eqnil) (And.intro @wpO_not @wpO_neg)) (And.intro (And.intro @wpO_convI @wpO_sliceOp) (And.intro @wpO_substr @wpO_gslice))) (And.intro (And.intro (And.intro @wpO_faddr @wpO_field) (And.intro @wpO_iaddr @wpO_aaddr)) (And.intro (And.intro @wpO_strIdx @wpO_arrIdx) (And.intro @wpO_lenS (And.intro @wpO_lenStr @wpO_lenM))))) (And.intro (And.intro (And.intro (And.intro @wpO_lenA @wpO_capS) (And.intro @wpO_minI @wpO_maxI)) (And.intro (And.intro @wpO_append @wpO_appendz) (And.intro @wpO_mkslice @wpO_extract))) (And.intro (And.intro (And.intro @wpO_mkfunc @wpO_mkmap) (And.intro @wpO_lookup @wpO_mapset)) (And.intro (And.intro @wpO_mapdel @wpO_mkiface) (And.intro @wpO_callS (And.intro @wpO_callI @wpO_callv)))))))
theorem WPu : type_of% (And.intro (And.intro (And.intro (And.intro (And.intro @wantedA_eq (And.intro @wantV_bool @wantV_hole)) (And.intro @bq_tt (And.intro @bq_ff @bq_tf))) (And.intro (And.intro @bq_ft (And.intro @loopQ_normal @res_one)) (And.intro @res2_tmp (And.intro @res3_tmp @res4_tmp)))) (And.intro (And.intro (And.intro @res_tmp (And.intro @res_cell @pickV_bool)) (And.intro @ncV_ptr (And.intro @ncV_eptr @ncV_fptr))) (And.intro (And.intro @ncV_func (And.intro @bopV_bool @notV_bool)) (And.intro (And.intro @negV_int @fieldV_agg) (And.intro @lenStrV_str @extrV_tuple))))) (And.intro (And.intro (And.intro (And.intro @callvP_func (And.intro @iop_add @iop_sub)) (And.intro @iop_eql (And.intro @iop_neq @iop_lss))) (And.intro (And.intro @iop_leq (And.intro @iop_gtr @iop_geq)) (And.intro (And.intro @Fr_ev @Fr_get) (And.intro @Fr_put @Fr_len)))) (And.intro (And.intro (And.intro @put_none (And.intro @ev_const @upd_apply)) (And.intro @argE_zero (And.intro @argE_succ @argE_nil))) (And.intro (And.intro @liveE_cons (And.intro @stepP_some @optP_some)) (And.intro (And.intro @guardP_true @guardP_false) (And.intro @condP_true @condP_false)))))) := (And.intro (And.intro (And.intro (And.intro (And.intro @wantedA_eq (And.intro @wantV_bool @wantV_hole)) (And.intro @bq_tt (And.intro @bq_ff @bq_tf))) (And.intro (And.intro @bq_ft (And.intro @loopQ_normal @res_one)) (And.intro @res2_tmp (And.intro @res3_tmp @res4_tmp)))) (And.intro (And.intro (And.intro @res_tmp (And.intro @res_cell @pickV_bool)) (And.intro @ncV_ptr (And.intro @ncV_eptr @ncV_fptr))) (And.intro (And.intro @ncV_func (And.intro @bopV_bool @notV_bool)) (And.intro (And.intro @negV_int @fieldV_agg) (And.intro @lenStrV_str @extrV_tuple))))) (And.intro (And.intro (And.intro (And.intro @callvP_func (And.intro @iop_add @iop_sub)) (And.intro @iop_eql (And.intro @iop_neq @iop_lss))) (And.intro (And.intro @iop_leq (And.intro @iop_gtr @iop_geq)) (And.intro (And.intro @Fr_ev @Fr_get) (And.intro @Fr_put @Fr_len)))) (And.intro (And.intro (And.intro @put_none (And.intro @ev_const @upd_apply)) (And.intro @argE_zero (And.intro @argE_succ @argE_nil))) (And.intro (And.intro @liveE_cons (And.intro @stepP_some @optP_some)) (And.intro (And.intro @guardP_true @guardP_false) (And.intro @condP_true @condP_false))))))
theorem WPed : type_of% (And.intro @wpE_cons (And.intro @wpE_nil @sameAll_cons)) := (And.intro @wpE_cons (And.intro @wpE_nil @sameAll_cons))
theorem WPeu : type_of% (And.intro (And.intro (And.intro @addP_nil (And.intro @addP_cons @dueP_nil)) (And.intro @dueP_cons (And.intro @heldP_true @sameAll_nil))) (And.intro (And.intro @sameP_load (And.intro @wantedA_none @guardS_true)) (And.intro (And.intro @guardS_false @ksOf_nil) (And.intro @ksOf_cons @hupd_apply)))) := (And.intro (And.intro (And.intro @addP_nil (And.intro @addP_cons @dueP_nil)) (And.intro @dueP_cons (And.intro @heldP_true @sameAll_nil))) (And.intro (And.intro @sameP_load (And.intro @wantedA_none @guardS_true)) (And.intro (And.intro @guardS_false @ksOf_nil) (And.intro @ksOf_cons @hupd_apply))))
inductive Two {α β : Type} (R : α → β → Prop) : List α → List β → Prop
 | nil : Two R [] []
 | cons {a : α} {b : β} {us : List α} {ws : List β} (h : R a b) (t : Two R us ws) : Two R (a :: us) (b :: ws)
section
variable {α β : Type} {R R' : α → β → Prop} {us vs : List α} {ws ys : List β}
theorem Two.len (h : Two R us ws) : us.length = ws.length := by
 induction h with
 | nil => rfl
 | cons _ _ ih => simp [ih]
theorem Two.get (h : Two R us ws) : ∀ {i : Nat} (hi : i < ws.length), ∃ a, us[i]? = some a ∧ R a ws[i] := by
 induction h with
 | nil => intro i hi; simp at hi
 | cons h t ih =>
  intro i hi
  cases i with
  | zero => exact ⟨_, rfl, h⟩
  | succ i => obtain ⟨a, h1, h2⟩ := ih (i := i) (by simpa using hi); exact ⟨a, by simpa using h1, by simpa using h2⟩
theorem Two.at (h : Two R us ws) {i : Nat} {a : α} {b : β} (ha : us[i]? = some a) (hb : ws[i]? = some b) : R a b := by
 obtain ⟨hi, rfl⟩ := List.getElem?_eq_some_iff.1 hb
 obtain ⟨a', h1, h2⟩ := h.get hi
 rw [ha] at h1; injection h1 with h1; subst h1; exact h2
theorem Two.mono (h : Two R us ws) (hm : ∀ a b, R a b → R' a b) : Two R' us ws := by
 induction h with
 | nil => exact .nil
 | cons h _ ih => exact .cons (hm _ _ h) ih
theorem Two.mono_mem (h : Two R us ws) (hm : ∀ a b, a ∈ us → b ∈ ws → R a b → R' a b) : Two R' us ws := by
 induction h with
 | nil => exact .nil
 | cons h _ ih => exact .cons (hm _ _ List.mem_cons_self List.mem_cons_self h) (ih fun a b ha hb => hm a b (List.mem_cons_of_mem _ ha) (List.mem_cons_of_mem _ hb))
theorem Two.append (h : Two R us ws) (h' : Two R vs ys) : Two R (us ++ vs) (ws ++ ys) := by
 induction h with
 | nil => exact h'
 | cons h _ ih => exact .cons h ih
theorem Two.one {a : α} {b : β} (h : R a b) : Two R [a] [b] := .cons h .nil
theorem Two.push (h : Two R us ws) {a : α} {b : β} (h' : R a b) : Two R (us ++ [a]) (ws ++ [b]) := h.append (.one h')
theorem Two.take (h : Two R us ws) : ∀ (n : Nat), Two R (us.take n) (ws.take n) := by
 induction h with
 | nil => intro n; simp; exact .nil
 | cons h _ ih =>
  intro n
  cases n with
  | zero => exact .nil
  | succ n => exact .cons h (ih n)
theorem Two.drop (h : Two R us ws) : ∀ (n : Nat), Two R (us.drop n) (ws.drop n) := by
 induction h with
 | nil => intro n; simp; exact .nil
 | cons h t ih =>
  intro n
  cases n with
  | zero => exact .cons h t
  | succ n => exact ih n
theorem Two.of_get (hl : us.length = ws.length) (h : ∀ (i : Nat) (a : α) (b : β), us[i]? = some a → ws[i]? = some b → R a b) : Two R us ws := by
 induction us generalizing ws with
 | nil => cases ws with
  | nil => exact .nil
  | cons b ws => simp at hl
 | cons a us ih => cases ws with
  | nil => simp at hl
  | cons b ws => exact .cons (h 0 a b rfl rfl) (ih (by simpa using hl) fun i x y hx hy => h (i + 1) x y (by simpa using hx) (by simpa using hy))
theorem Two.mem_left (h : Two R us ws) {a : α} (ha : a ∈ us) : ∃ b, b ∈ ws ∧ R a b := by
 induction h with
 | nil => cases ha
 | cons h _ ih =>
  rcases List.mem_cons.1 ha with rfl | ha
  ·exact ⟨_, List.mem_cons_self, h⟩
  ·obtain ⟨b, h1, h2⟩ := ih ha; exact ⟨b, List.mem_cons_of_mem _ h1, h2⟩
end
theorem elems_fs (sz t : Nat) (b : Bool) (σ : Store) (es : List AVal) : elems sz σ (.fslice t b sz es) = some es := by simp
def nless (a b : Nm) : Bool := decide (a.1 < b.1) || (decide (a.1 = b.1) && decide (a.2 < b.2))
theorem nless_irrefl (a : Nm) : nless a a = false := by simp [nless]
theorem nless_trans {a b c : Nm} (h : nless a b = true) (h' : nless b c = true) : nless a c = true := by
 simp only [nless, Bool.or_eq_true, Bool.and_eq_true, decide_eq_true_eq] at *; omega
theorem nless_not {a b : Nm} (h : nless a b = false) (hn : a ≠ b) : nless b a = true := by
 obtain ⟨a1, a2⟩ := a; obtain ⟨b1, b2⟩ := b
 have : ¬ (a1 = b1 ∧ a2 = b2) := fun e => hn (by rw [e.1, e.2])
 simp only [nless, Bool.or_eq_true, Bool.and_eq_true, decide_eq_true_eq, Bool.or_eq_false_iff, decide_eq_false_iff_not, Bool.and_eq_false_iff] at *; omega
theorem nless_asymm {a b : Nm} (h : nless a b = true) : nless b a = false := by
 cases hb : nless b a with
 | false => rfl
 | true => have := nless_trans h hb; rw [nless_irrefl] at this; cases this
def glob (t : List Cel) : Bool := right t && t.all fun c => !(decide (c.k = 4) && decide (c.v.1 < 0))
theorem glob_right {t : List Cel} (h : glob t = true) : right t = true := by simp only [glob, Bool.and_eq_true] at h; exact h.1
theorem right_ne {t : List Cel} (h : right t = true) : t ≠ [] := by rintro rfl; simp [right] at h
theorem right_len {t : List Cel} (h : right t = true) : 1 ≤ t.length ∧ t.length ≤ 256 := by
 simp only [right, Bool.and_eq_true, decide_eq_true_eq] at h; exact ⟨h.1.1.1, h.1.1.2⟩
theorem right_ok_mem {t : List Cel} (h : right t = true) {c : Cel} (hc : c ∈ t) : c.ok = true := by
 simp only [right, Bool.and_eq_true, List.all_eq_true] at h; exact h.2 c hc
theorem ok_var {c : Cel} (h : c.ok = true) (hk : c.k = 4) : c.s = [] ∧ c.n = 0 ∧ -1 ≤ c.v.1 ∧ c.v.1 ≤ 3 ∧ 0 ≤ c.v.2 := by
 unfold Cel.ok at h
 rw [if_neg (by omega), if_neg (by omega), if_neg (by omega), if_pos hk] at h
 simp only [Bool.and_eq_true, decide_eq_true_eq] at h
 exact ⟨h.1.1.1.1, h.1.1.1.2, h.1.1.2, h.1.2, h.2⟩
theorem glob_eq (t : List Cel) : glob t = (right t && !(t.any fun c => decide (c.k = 4) && decide (c.v.1 = -1))) := by
 unfold glob
 cases hr : right t with
 | false => rfl
 | true =>
  simp only [Bool.true_and]
  rw [List.not_any_eq_all_not, Bool.eq_iff_iff, List.all_eq_true, List.all_eq_true]
  have key : ∀ c ∈ t, (!(decide (c.k = 4) && decide (c.v.1 < 0))) = (!(decide (c.k = 4) && decide (c.v.1 = -1))) := fun c hc => by
   by_cases hk : c.k = 4
   ·have := ok_var (right_ok_mem hr hc) hk
    have e : decide (c.v.1 < 0) = decide (c.v.1 = -1) := by rw [decide_eq_decide]; omega
    rw [e]
   ·simp [hk]
  exact ⟨fun h c hc => by rw [← key c hc]; exact h c hc, fun h c hc => by rw [key c hc]; exact h c hc⟩
def vCel (v : Nm) : Cel := ⟨4, [], 0, v⟩
def okVar (v : Nm) : Bool := (vCel v).ok
theorem right_one (c : Cel) : right [c] = (c.ok && decide (c.parts = 0)) := by
 have e : endAt 1 [c] 1 0 = if 1 < c.parts then 0 else endAt 1 [] (0 + c.parts) 1 := by rw [endAt_cons]
 have e2 : decide (endAt 1 [c] 1 0 = 1) = decide (c.parts = 0) := by
  rw [e, decide_eq_decide]
  by_cases h0 : c.parts = 0
  ·rw [h0, endAt_zero]; simp
  ·obtain ⟨p, hp⟩ : ∃ p, c.parts = p + 1 := ⟨c.parts - 1, by omega⟩
   rw [hp, show 0 + (p + 1) = p + 1 by omega, endAt_nil]
   split <;> simp
 simp only [right, List.length_singleton, List.all_cons, List.all_nil, Bool.and_true]
 rw [e2]
 cases c.ok <;> simp
theorem right_var (v : Nm) : right [vCel v] = okVar v := by rw [right_one]; simp [okVar, Cel.parts, vCel]
abbrev Hp := List (Nm × List Cel)
def lk : Hp → Nm → Option (List Cel)
 | [], _ => none
 | p :: r, v => if p.1 = v then some p.2 else lk r v
theorem lk_mem : ∀ {H : Hp} {v : Nm} {t : List Cel}, lk H v = some t → (v, t) ∈ H
 | [], _, _, h => by cases h
 | p :: r, v, t, h => by
  simp only [lk] at h
  split at h
  ·rename_i e; injection h with h; rw [← e, ← h]; exact List.mem_cons_self
  ·exact List.mem_cons_of_mem _ (lk_mem h)
theorem lk_none : ∀ {H : Hp} {v : Nm}, lk H v = none ↔ v ∉ H.map (·.1)
 | [], _ => by simp [lk]
 | p :: r, v => by
  simp only [lk, List.map_cons, List.mem_cons, not_or]
  split
  ·rename_i e; simp [e]
  ·rename_i e; rw [lk_none (H := r)]; exact ⟨fun h => ⟨fun e' => e e'.symm, h⟩, fun h => h.2⟩
theorem lk_of_mem : ∀ {H : Hp}, (H.map (·.1)).Nodup → ∀ {v : Nm} {t : List Cel}, (v, t) ∈ H → lk H v = some t
 | [], _, _, _, h => by cases h
 | p :: r, hn, v, t, h => by
  simp only [List.map_cons, List.nodup_cons] at hn
  rcases List.mem_cons.1 h with rfl | h
  ·simp [lk]
  ·have : p.1 ≠ v := fun e => hn.1 (by rw [e]; exact List.mem_map.2 ⟨_, h, rfl⟩)
   rw [lk, if_neg this]; exact lk_of_mem hn.2 h
theorem lk_perm {H R : Hp} (hn : (H.map (·.1)).Nodup) (hp : H.Perm R) (v : Nm) : lk H v = lk R v := by
 have hn' : (R.map (·.1)).Nodup := (hp.map _).nodup_iff.1 hn
 cases h : lk H v with
 | some t => exact (lk_of_mem hn' (hp.mem_iff.1 (lk_mem h))).symm
 | none =>
  rw [lk_none] at h
  exact (lk_none.2 fun hm => h ((hp.map _).mem_iff.2 hm)).symm
def bindE (H : Hp) (v : Nm) (t : List Cel) : Int :=
 if (decide (v.1 < 0) || !okVar v) || !glob t then 6
 else if (lk H v).isSome then 70
 else if decide ((t.headD default).k = 4) && !nless (t.headD default).v v then 71
 else 0
def bindH (H : Hp) (v : Nm) (t : List Cel) : Hp := if bindE H v t = 0 then H ++ [(v, t)] else H
def okB (p : Nm × List Cel) : Prop := 0 ≤ p.1.1 ∧ okVar p.1 = true ∧ glob p.2 = true ∧ ((p.2.headD default).k = 4 → nless (p.2.headD default).v p.1 = true)
structure WF (H : Hp) : Prop where
 keys : (H.map (·.1)).Nodup
 ok : ∀ p ∈ H, okB p
theorem WF.nil : WF [] := ⟨List.nodup_nil, fun p h => by cases h⟩
theorem bindE_zero {H : Hp} {v : Nm} {t : List Cel} (h : bindE H v t = 0) : okB (v, t) ∧ lk H v = none := by
 unfold bindE at h
 split at h
 ·cases h
 ·rename_i h1
  split at h
  ·cases h
  ·rename_i h2
   split at h
   ·cases h
   ·rename_i h3
    simp only [Bool.or_eq_true, decide_eq_true_eq, Bool.not_eq_true', not_or, Bool.not_eq_false] at h1
    refine ⟨⟨by simp only; omega, h1.1.2, h1.2, fun hk => ?_⟩, by simpa using h2⟩
    simp only [Bool.and_eq_true, decide_eq_true_eq, Bool.not_eq_true', not_and, Bool.not_eq_false] at h3
    exact h3 hk
theorem bindE_of {H : Hp} {v : Nm} {t : List Cel} (h : okB (v, t)) (hl : lk H v = none) : bindE H v t = 0 := by
 obtain ⟨h1, h2, h3, h4⟩ := h
 simp only at h1 h2 h3 h4
 unfold bindE
 rw [if_neg, if_neg, if_neg]
 ·simp only [Bool.and_eq_true, decide_eq_true_eq, Bool.not_eq_true', not_and, Bool.not_eq_false]; exact h4
 ·simp [hl]
 ·simp only [Bool.or_eq_true, decide_eq_true_eq, Bool.not_eq_true', h2, h3]; simp; omega
theorem WF.bind {H : Hp} (h : WF H) (v : Nm) (t : List Cel) : WF (bindH H v t) := by
 unfold bindH
 split
 ·rename_i e
  obtain ⟨h1, h2⟩ := bindE_zero e
  refine ⟨?_, fun p hp => ?_⟩
  ·rw [List.map_append, List.nodup_append]
   refine ⟨h.keys, by simp, fun a ha b hb e => ?_⟩
   simp at hb
   rw [lk_none] at h2
   exact h2 (by rw [← hb, ← e]; exact ha)
  ·rcases List.mem_append.1 hp with hp | hp
   ·exact h.ok p hp
   ·simp at hp; subst hp; exact h1
 ·exact h
def insR (x : Nm × List Cel) : Hp → Hp
 | [] => [x]
 | y :: r => if nless x.1 y.1 then x :: y :: r else y :: insR x r
def bindR (R : Hp) (v : Nm) (t : List Cel) : Hp := if bindE R v t = 0 then insR (v, t) R else R
def Rising (R : Hp) : Prop := R.Pairwise fun a b => nless a.1 b.1 = true
theorem insR_perm (x : Nm × List Cel) : ∀ R : Hp, (insR x R).Perm (x :: R)
 | [] => List.Perm.refl _
 | y :: r => by
  simp only [insR]
  split
  ·exact List.Perm.refl _
  ·exact ((insR_perm x r).cons y).trans (List.Perm.swap x y r)
theorem Rising.ins {x : Nm × List Cel} : ∀ {R : Hp}, Rising R → lk R x.1 = none → Rising (insR x R)
 | [], _, _ => by simp [insR, Rising]
 | y :: r, h, hn => by
  have h' := h
  simp only [Rising, List.pairwise_cons] at h
  obtain ⟨h1, h2⟩ := h
  simp only [lk] at hn
  split at hn
  ·cases hn
  ·rename_i hne
   simp only [insR]
   split
   ·rename_i hl
    refine List.pairwise_cons.2 ⟨fun z hz => ?_, h'⟩
    rcases List.mem_cons.1 hz with rfl | hz
    ·exact hl
    ·exact nless_trans hl (h1 z hz)
   ·rename_i hl
    refine List.pairwise_cons.2 ⟨fun z hz => ?_, Rising.ins h2 hn⟩
    rcases List.mem_cons.1 ((insR_perm x r).mem_iff.1 hz) with rfl | hz
    ·exact nless_not (by simpa using hl) (fun e => hne e.symm)
    ·exact h1 z hz
structure Same (H R : Hp) : Prop where
 wf : WF H
 perm : H.Perm R
 rise : Rising R
theorem Same.nil : Same [] [] := ⟨WF.nil, List.Perm.refl _, List.Pairwise.nil⟩
theorem Same.lk {H R : Hp} (h : Same H R) (v : Nm) : lk H v = lk R v := lk_perm h.wf.keys h.perm v
theorem Same.bindE {H R : Hp} (h : Same H R) (v : Nm) (t : List Cel) : bindE H v t = bindE R v t := by simp only [Am.bindE, h.lk]
theorem Same.bind {H R : Hp} (h : Same H R) (v : Nm) (t : List Cel) : Same (bindH H v t) (bindR R v t) := by
 refine ⟨h.wf.bind v t, ?_, ?_⟩
 ·unfold bindH bindR
  rw [h.bindE]
  split
  ·exact ((List.perm_append_comm).trans (List.Perm.cons _ h.perm)).trans (insR_perm _ _).symm
  ·exact h.perm
 ·unfold bindR
  split
  ·rename_i e
   exact h.rise.ins (bindE_zero e).2
  ·exact h.rise
def hnext (H : Hp) (t : List Cel) : Option (List Cel) := if t.length = 1 ∧ (t.headD default).k = 4 then lk H (t.headD default).v else none
theorem WF.perm {H R : Hp} (h : WF H) (hp : H.Perm R) : WF R := ⟨(hp.map _).nodup_iff.1 h.keys, fun p hm => h.ok p (hp.mem_iff.2 hm)⟩
theorem Same.wfr {H R : Hp} (h : Same H R) : WF R := h.wf.perm h.perm
theorem Same.len {H R : Hp} (h : Same H R) : R.length = H.length := h.perm.length_eq.symm
def insN (x : Nm) : List Nm → List Nm
 | [] => [x]
 | y :: r => if nless x y then x :: y :: r else y :: insN x r
def sortN : List Nm → List Nm
 | [] => []
 | x :: r => insN x (sortN r)
abbrev UpN (l : List Nm) : Prop := l.Pairwise fun a b => nless b a = false
theorem insN_perm (x : Nm) : ∀ l, (insN x l).Perm (x :: l)
 | [] => List.Perm.refl _
 | y :: r => by
  simp only [insN]
  split
  ·exact List.Perm.refl _
  ·exact ((insN_perm x r).cons y).trans (List.Perm.swap x y r)
theorem sortN_perm : ∀ l, (sortN l).Perm l
 | [] => List.Perm.refl _
 | x :: r => (insN_perm x _).trans ((sortN_perm r).cons x)
theorem sortN_len (l : List Nm) : (sortN l).length = l.length := (sortN_perm l).length_eq
theorem nle_trans {a b c : Nm} (h : nless b a = false) (h' : nless c b = false) : nless c a = false := by
 simp only [nless, Bool.or_eq_false_iff, Bool.and_eq_false_iff, decide_eq_false_iff_not] at *; omega
theorem nle_antisymm {a b : Nm} (h : nless b a = false) (h' : nless a b = false) : a = b := by
 obtain ⟨a1, a2⟩ := a
 obtain ⟨b1, b2⟩ := b
 simp only [nless, Bool.or_eq_false_iff, Bool.and_eq_false_iff, decide_eq_false_iff_not] at *
 have : a1 = b1 := by omega
 have : a2 = b2 := by omega
 simp [*]
theorem insN_up (x : Nm) : ∀ {l : List Nm}, UpN l → UpN (insN x l)
 | [], _ => by simp [insN]
 | y :: r, h => by
  have h' := h
  simp only [List.pairwise_cons] at h
  obtain ⟨h1, h2⟩ := h
  simp only [insN]
  split
  ·rename_i hl
   refine List.pairwise_cons.2 ⟨fun z hz => ?_, h'⟩
   rcases List.mem_cons.1 hz with rfl | hz
   ·exact nless_asymm hl
   ·exact nle_trans (nless_asymm hl) (h1 z hz)
  ·rename_i hl
   refine List.pairwise_cons.2 ⟨fun z hz => ?_, insN_up x h2⟩
   rcases List.mem_cons.1 ((insN_perm x r).mem_iff.1 hz) with rfl | hz
   ·simpa using hl
   ·exact h1 z hz
theorem sortN_up : ∀ l, UpN (sortN l)
 | [] => List.Pairwise.nil
 | x :: r => insN_up x (sortN_up r)
theorem up_one {a b : List Nm} (ha : UpN a) (hb : UpN b) (hp : a.Perm b) : a = b :=
 hp.eq_of_pairwise (fun x y _ _ h1 h2 => nle_antisymm h1 h2) ha hb
theorem sortN_of {l m : List Nm} (hm : UpN m) (hp : l.Perm m) : sortN l = m := up_one (sortN_up l) hm ((sortN_perm l).trans hp)
theorem Rising.up {R : Hp} (h : Rising R) : UpN (R.map (·.1)) := by
 simp only [Rising] at h
 exact List.pairwise_map.2 (h.imp fun h => nless_asymm h)
theorem Same.sort {H R : Hp} (h : Same H R) : sortN (H.map (·.1)) = R.map (·.1) := sortN_of h.rise.up (h.perm.map _)
def ordF (x y : Nm) : Int := if nless x y = true then -1 else if x = y then 0 else 1
theorem ordF_lt (x y : Nm) : decide (ordF x y < 0) = nless x y := by
 unfold ordF
 split
 ·rename_i h; simp [h]
 ·rename_i h
  split <;> simp [h]
section
variable {P : Program} {cf : FuncId → FuncId} {E : Env} {κ : K}
def K.more (κ : K) (h' : Array Obj) : K := ⟨h', κ.σ, κ.loc, κ.base, κ.pend⟩
theorem K.more_le (hR : κ.R E cf) {h' : Array Obj} (hs : κ.h.size ≤ h'.size) (hh : ∀ b, b < κ.h.size → h'[b]? = κ.h[b]?) : κ.Le (κ.more h') :=
 K.Le.of rfl hs (fun b hb ho => ⟨hh b hb, ho⟩) (Nat.le_refl _) (fun _ _ h => ⟨h, rfl⟩) rfl (fun id x hx hp => K.OLe.same hx rfl (hh _ (hR.hi id (K.live_of hx hp))))
theorem K.more_R (hR : κ.R E cf) {h' : Array Obj} (hs : κ.h.size ≤ h'.size) (hh : ∀ b, b < κ.h.size → h'[b]? = κ.h[b]?) : (κ.more h').R E cf where
 ok := hR.ok
 obj := fun id x hx hp => K.O.le hR.lb (K.more_le hR hs hh) rfl (hh _ (hR.hi id (K.live_of hx hp))) (hR.obj id x hx hp)
 inj := hR.inj
 pl := hR.pl
 lb := fun i hi => ⟨hR.lo i hi, Nat.lt_of_lt_of_le (hR.hi i hi) hs⟩
 base := Nat.le_trans hR.base hs
def K.far (κ : K) (h' : Array Obj) (g : Nat) (x : AObj) : K := ⟨h', κ.σ ++ [x], fun i => if i = κ.σ.length then g else κ.loc i, κ.base, κ.pend⟩
theorem K.far_own (hR : κ.R E cf) (h' : Array Obj) (g : Nat) (x : AObj) (hg : κ.h.size ≤ g) (b : Nat) (hb : b < κ.h.size) (h : ¬ κ.own b) : ¬ (κ.far h' g x).own b := by
 rintro ⟨id, ⟨hid, hp⟩, hl⟩
 simp only [K.far, List.length_append, List.length_singleton] at hid hl hp
 split at hl
 ·omega
 ·exact h ⟨id, ⟨by omega, hp⟩, hl⟩
theorem K.far_le (hR : κ.R E cf) {h' : Array Obj} (hs : κ.h.size ≤ h'.size) (hh : ∀ b, b < κ.h.size → h'[b]? = κ.h[b]?) (g : Nat) (hg : κ.h.size ≤ g) (x : AObj) : κ.Le (κ.far h' g x) :=
 K.Le.of rfl hs (fun b hb ho => ⟨hh b hb, K.far_own hR h' g x hg b hb ho⟩) (by simp [K.far]) (fun i hi h => ⟨h, by simp only [K.far]; rw [List.getElem?_append_left hi]⟩) rfl
  (fun id y hy hp => by
   have hid := (List.getElem?_eq_some_iff.1 hy).1
   have hb := hR.hi id ⟨hid, hp⟩
   exact K.OLe.same (by simp only [K.far]; rw [List.getElem?_append_left hid]; exact hy) (by simp only [K.far]; rw [if_neg (by omega)]) (hh _ hb))
theorem K.far_R (hR : κ.R E cf) {h' : Array Obj} (hs : κ.h.size ≤ h'.size) (hh : ∀ b, b < κ.h.size → h'[b]? = κ.h[b]?) (g : Nat) (hg : κ.h.size ≤ g) (hg2 : g < h'.size) (x : AObj) (hO : (κ.far h' g x).O E cf κ.σ.length x) : (κ.far h' g x).R E cf where
 ok := hR.ok
 pl := fun i hi => by have := hR.pl i hi; simp only [K.far, List.length_append]; omega
 obj := fun id y hy hp => by
  simp only [K.far] at hy
  by_cases hid : id < κ.σ.length
  ·rw [List.getElem?_append_left hid] at hy
   have hb := hR.hi id ⟨hid, hp⟩
   exact K.O.le hR.lb (K.far_le hR hs hh g hg x) (by simp only [K.far]; rw [if_neg (by omega)]) (hh _ hb) (hR.obj id y hy hp)
  ·have hlt := (List.getElem?_eq_some_iff.1 hy).1
   simp only [List.length_append, List.length_singleton] at hlt
   obtain rfl : id = κ.σ.length := by omega
   rw [List.getElem?_append_right (Nat.le_refl _)] at hy
   simp at hy
   subst hy
   exact hO
 inj := fun i j ⟨hi, pi⟩ ⟨hj, pj⟩ h => by
  simp only [K.far, List.length_append, List.length_singleton] at hi hj h pi pj
  split at h <;> split at h
  ·omega
  ·have := hR.hi j ⟨by omega, pj⟩; omega
  ·have := hR.hi i ⟨by omega, pi⟩; omega
  ·exact hR.inj i j ⟨by omega, pi⟩ ⟨by omega, pj⟩ h
 lb := fun i ⟨hi, pi⟩ => by
  simp only [K.far, List.length_append, List.length_singleton] at hi pi ⊢
  split
  ·exact ⟨Nat.le_trans hR.base hg, hg2⟩
  ·have := hR.hi i ⟨by omega, pi⟩
   exact ⟨hR.lo i ⟨by omega, pi⟩, by omega⟩
 base := Nat.le_trans hR.base hs
theorem farArr_ok (hR : κ.R E cf) {h' : Array Obj} (hs : κ.h.size ≤ h'.size) (hh : ∀ b, b < κ.h.size → h'[b]? = κ.h[b]?) {g : Nat} (hg : κ.h.size ≤ g) {sz : Nat} {es : List AVal} {vs : List Value} {cells : Array Value} {rest : List Value} {e : TypeId} {cap : Nat}
  (hb : h'[g]? = some (.cells cells e (0, 0))) (hv : cells.toList = vs ++ rest) (h0 : 0 < sz) (hel : AVal.elemsOk sz es) (hl : κ.VL E cf (es.flatMap AVal.cells) vs) (hcap : es.length ≤ cap) (hsize : cells.size = cap * sz) :
  (κ.far h' g (.arr sz es 0 0)).R E cf ∧ (κ.far h' g (.arr sz es 0 0)).V E cf (.slice sz κ.σ.length 0 0 es.length none) (.slice (some ⟨g, 0, none⟩) es.length cap) := by
 have hat : (κ.far h' g (.arr sz es 0 0)).h[(κ.far h' g (.arr sz es 0 0)).loc κ.σ.length]? = some (.cells cells e (0, 0)) := by simpa [K.far] using hb
 have hg2 : g < h'.size := (Array.getElem?_eq_some_iff.1 hb).1
 refine ⟨K.far_R hR hs hh g hg hg2 _ ⟨Nat.le_refl _, h0, hel, _, e, vs, rest, hat, hv, K.VL.le hR.lb (K.far_le hR hs hh g hg _) hl⟩, ?_⟩
 refine .slice _ sz κ.σ.length 0 0 es.length none g 0 cap ⟨⟨hcap, hR.fresh⟩, by simp, h0, es, 0, 0, by simp [K.far, List.getElem?_append_right], Nat.le_refl _, fun _ => ⟨by simp, .inl ⟨by simp [K.far], .inl (by simp)⟩, fun _ _ => ⟨by omega, fun vs' e' f hv => ?_⟩⟩⟩
 rw [hat] at hv
 cases hv
 rw [hsize]; simp
def keysOf (σ : Store) : AVal → Option (List AVal)
 | .map id => match σ[id]? with
  | some (.map ks _) => some ks
  | _ => none
 | .fmap _ ks _ => some ks
 | _ => none
theorem keysOf_ok (hR : κ.R E cf) {x : AVal} {cx : Value} {ks : List AVal} (hx : κ.V E cf x cx) (h : keysOf κ.σ x = some ks) :
  ∃ b es clock, cx = .map (some b) ∧ κ.h[b]? = some (.map es clock) ∧ κ.VL E cf ks (es.toList.map (·.key)) ∧ Born es clock := by
 unfold keysOf at h
 split at h
 ·rename_i id
  split at h
  ·rename_i ks' vs' hid
   simp at h
   subst h
   cases hx with
   | map _ _ b hp =>
   obtain ⟨⟨_, hpd⟩, rfl⟩ := hp
   obtain ⟨es, clock, hb, h1, h2, h3⟩ := hR.obj id _ hid hpd
   exact ⟨_, es, clock, rfl, hb, h1, h3⟩
  ·simp at h
 ·simp at h
  subst h
  cases hx with
  | fmap _ t _ _ b clock es h1 h2 h3 h4 h5 h6 h7 =>
  exact ⟨b, es, clock, rfl, h2, VRelL.mono (fun _ _ h => ⟨h, rfl⟩) (noIds_le _) h3, h7⟩
 ·simp at h
def kvOf (σ : Store) : AVal → Option (List AVal × List AVal)
 | .map id => match σ[id]? with
  | some (.map ks vs) => some (ks, vs)
  | _ => none
 | .fmap _ ks vs => some (ks, vs)
 | _ => none
theorem kvOf_ok (hR : κ.R E cf) {x : AVal} {cx : Value} {ks vs : List AVal} (hx : κ.V E cf x cx) (h : kvOf κ.σ x = some (ks, vs)) :
  ∃ b es clock, cx = .map (some b) ∧ κ.h[b]? = some (.map es clock) ∧ κ.VL E cf ks (es.toList.map (·.key)) ∧ κ.VL E cf vs (es.toList.map (·.val)) ∧ Born es clock := by
 unfold kvOf at h
 split at h
 ·rename_i id
  split at h
  ·rename_i ks' vs' hid
   simp at h
   obtain ⟨rfl, rfl⟩ := h
   cases hx with
   | map _ _ b hp =>
   obtain ⟨⟨_, hpd⟩, rfl⟩ := hp
   obtain ⟨es, clock, hb, h1, h2, h3⟩ := hR.obj id _ hid hpd
   exact ⟨_, es, clock, rfl, hb, h1, h2, h3⟩
  ·simp at h
 ·simp at h
  obtain ⟨rfl, rfl⟩ := h
  cases hx with
  | fmap _ t _ _ b clock es h1 h2 h3 h4 h5 h6 h7 =>
  exact ⟨b, es, clock, rfl, h2, VRelL.mono (fun _ _ h => ⟨h, rfl⟩) (noIds_le _) h3, VRelL.mono (fun _ _ h => ⟨h, rfl⟩) (noIds_le _) h4, h7⟩
 ·simp at h
def natMC : List AVal → Store → Option (AVal × Store)
 | [m], σ => match kvOf σ m with
  | some (ks, vs) => some (.map σ.length, σ ++ [.map ks vs])
  | none => none
 | _, _ => none
theorem natMC_cases {args : List AVal} {σ σ' : Store} {v : AVal} (h : natMC args σ = some (v, σ')) : ∃ m ks vs, args = [m] ∧ kvOf σ m = some (ks, vs) ∧ v = .map σ.length ∧ σ' = σ ++ [.map ks vs] := by
 unfold natMC at h
 split at h
 ·split at h
  ·rename_i ks vs hk
   injection h with h
   injection h with h1 h2
   exact ⟨_, ks, vs, rfl, hk, h1.symm, h2.symm⟩
  ·cases h
 ·cases h
def nmOf : AVal → Option Nm
 | .agg [.int .i64 a, .int .i64 b] => some (a, b)
 | _ => none
def nmsOf : List AVal → Option (List Nm)
 | [] => some []
 | x :: r => match nmOf x, nmsOf r with
  | some n, some l => some (n :: l)
  | _, _ => none
theorem nmOf_eq {x : AVal} {n : Nm} (h : nmOf x = some n) : x = nmV n := by
 unfold nmOf at h
 split at h
 ·injection h with h; subst h; rfl
 ·cases h
theorem nmsOf_eq : ∀ {l : List AVal} {ns : List Nm}, nmsOf l = some ns → l = ns.map nmV
 | [], ns, h => by simp [nmsOf] at h; subst h; rfl
 | x :: r, ns, h => by
  unfold nmsOf at h
  split at h
  ·rename_i n l h1 h2
   injection h with h
   subst h
   rw [nmOf_eq h1, nmsOf_eq h2]; rfl
  ·cases h
theorem nmsOf_map : ∀ (ns : List Nm), nmsOf (ns.map nmV) = some ns
 | [] => rfl
 | n :: r => by
  simp only [List.map_cons, nmsOf, nmsOf_map r]
  rfl
theorem nm_V {h : Array Obj} {S : Nat → Nat → Prop} {I : Ids} {n : Nm} {cv : Value} (hv : VRel cf h S I (nmV n) cv) : cv = .agg #[.int .i64 n.1, .int .i64 n.2] := by
 simp only [nmV] at hv
 cases hv with
 | agg _ _ vs hl h1 =>
 cases hl with
 | cons _ _ _ _ _ ha hl =>
 cases ha
 cases hl with
 | cons _ _ _ _ _ hb hl =>
 cases hb
 cases hl
 rfl
theorem nms_V {h : Array Obj} {S : Nat → Nat → Prop} {I : Ids} : ∀ {ns : List Nm} {cvs : List Value}, VRelL cf h S I (ns.map nmV) cvs → cvs = ns.map fun n => .agg #[.int .i64 n.1, .int .i64 n.2]
 | [], _, h => by cases h; rfl
 | n :: r, _, h => by
  simp only [List.map_cons] at h
  cases h with
  | cons _ _ _ _ _ ha hl => rw [nm_V ha, nms_V hl]; rfl
theorem nms_VL {h : Array Obj} {S : Nat → Nat → Prop} {I : Ids} : ∀ (ns : List Nm), VRelL cf h S I ((ns.map nmV).flatMap AVal.cells) (ns.flatMap fun n => [.int .i64 n.1, .int .i64 n.2])
 | [] => .nil _
 | n :: r => .cons _ _ _ _ _ (.int _ _ _) (.cons _ _ _ _ _ (.int _ _ _) (nms_VL r))
theorem nms_elems (ns : List Nm) : AVal.elemsOk 2 (ns.map nmV) := fun e he => by
 obtain ⟨n, _, rfl⟩ := List.mem_map.1 he
 exact ⟨rfl, fun c hc => by simp [nmV] at hc; rcases hc with rfl | rfl <;> rfl⟩
def natSF (kf of_ : FuncId) : List AVal → Store → Option (AVal × Store)
 | [.func f [] [.ptr id 0], .func g [] []], σ => if f = kf ∧ g = of_ then match σ[id]? with
   | some (.cells [m]) => match keysOf σ m with
    | some ks => match nmsOf ks with
     | some ns => if ns.length ≤ 8796093022208 then some (match ns with | [] => (.nilslice, σ) | _ => (.slice 2 σ.length 0 0 ns.length none, σ ++ [.arr 2 ((sortN ns).map nmV) 0 0])) else none
     | none => none
    | none => none
   | _ => none
  else none
 | _, _ => none
theorem natSF_cases {kf of_ : FuncId} {args : List AVal} {σ σ' : Store} {v : AVal} (h : natSF kf of_ args σ = some (v, σ')) : ∃ id m ks ns, args = [.func kf [] [.ptr id 0], .func of_ [] []] ∧ σ[id]? = some (.cells [m]) ∧ keysOf σ m = some ks ∧ nmsOf ks = some ns ∧ ns.length ≤ 8796093022208 ∧
  ((ns = [] ∧ v = .nilslice ∧ σ' = σ) ∨ (ns ≠ [] ∧ v = .slice 2 σ.length 0 0 ns.length none ∧ σ' = σ ++ [.arr 2 ((sortN ns).map nmV) 0 0])) := by
 unfold natSF at h
 split at h
 ·split at h
  ·rename_i hfg
   obtain ⟨rfl, rfl⟩ := hfg
   split at h
   ·rename_i m hm
    split at h
    ·rename_i ks hks
     split at h
     ·rename_i ns hns
      split at h
      ·rename_i hlen
       injection h with h
       refine ⟨_, m, ks, ns, rfl, hm, hks, hns, hlen, ?_⟩
       split at h
       ·injection h with h1 h2
        exact .inl ⟨rfl, h1.symm, h2.symm⟩
       ·rename_i hne
        injection h with h1 h2
        exact .inr ⟨fun e => hne e, h1.symm, h2.symm⟩
      ·cases h
     ·cases h
    ·cases h
   ·cases h
  ·cases h
 ·cases h
end
def natSO (of_ : FuncId) : List AVal → Store → Option (AVal × Store)
 | [.slice 2 id ep 0 len none, .func g [] []], σ => if g = of_ then match σ[id]? with
   | some (.arr 2 es ep' fl) => if ep' = ep ∧ es.length = len ∧ 0 < es.length ∧ es.length ≤ 8796093022208 then match nmsOf es with
     | some ns => some (.tuple [], σ.set id (.arr 2 ((sortN ns).map nmV) ep ep))
     | none => none
    else none
   | _ => none
  else none
 | [.nilslice, .func g [] []], σ => if g = of_ then some (.tuple [], σ) else none
 | _, _ => none
theorem natSO_cases {of_ : FuncId} {args : List AVal} {σ σ' : Store} {v : AVal} (h : natSO of_ args σ = some (v, σ')) :
  (∃ id ep ns fl, args = [.slice 2 id ep 0 ns.length none, .func of_ [] []] ∧ σ[id]? = some (.arr 2 (ns.map nmV) ep fl) ∧ 0 < ns.length ∧ ns.length ≤ 8796093022208 ∧ v = .tuple [] ∧ σ' = σ.set id (.arr 2 ((sortN ns).map nmV) ep ep)) ∨
  (args = [.nilslice, .func of_ [] []] ∧ v = .tuple [] ∧ σ' = σ) := by
 unfold natSO at h
 split at h
 ·split at h
  ·rename_i hg
   subst hg
   split at h
   ·rename_i es ep' fl hid
    split at h
    ·rename_i hc
     obtain ⟨rfl, rfl, hp, hl⟩ := hc
     split at h
     ·rename_i ns hns
      injection h with h
      injection h with h1 h2
      have e := nmsOf_eq hns
      subst e
      refine .inl ⟨_, _, ns, fl, by simp, hid, by simpa using hp, by simpa using hl, h1.symm, h2.symm⟩
     ·cases h
    ·cases h
   ·cases h
  ·cases h
 ·split at h
  ·rename_i hg
   subst hg
   injection h with h
   injection h with h1 h2
   exact .inr ⟨rfl, h1.symm, h2.symm⟩
  ·cases h
 ·cases h
end Go.Proofs.YtelpjaejmneplaaGreatDoor.Am
