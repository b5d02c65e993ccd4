/-
  JournalRuns, for every input of bulk at most 1048576: the call returns true, and its arguments read behind it as they read before. No further condition.
-/
import Derived.Test.YtmocplkpnickgaaRows
import Derived.Test.YtmocplkpnickgaaAmRd2
import Derived.Test.YtmocplkpnickgaaAmJRunsRun
namespace Go.Proofs.Ytmocplkpnickgaa.journalRuns
open Go Go.ChangeShapes Go.WideShapes Go.ChangeAt Go.RowKit Go.Proofs.Ytmocplkpnickgaa.Am
set_option linter.unusedVariables false
set_option linter.unusedSimpArgs false
set_option maxRecDepth 100000

theorem own : ownKnob Try.prog.godebug = none := by kernel_rfl

theorem readable : Readable Try.prog Try.f8.params.toList := Readable.of (by kernel_rfl) (by kernel_rfl) (by kernel_rfl) (by kernel_rfl)

/-- a deed, as it is read -/
def DeedR (a : AVal) (x : Deed) : Prop := a = x.val ∧ -9223372036854775808 ≤ x.n ∧ x.n < 9223372036854775808 ∧ ∀ σ, SlOf σ 1 x.p (B x.ps)
def sizeD (x : Deed) : Nat := x.ps.length + 1

theorem deed_of {H : Type} (d : DataW H) (h : Typed Try.prog 5 69 d) : ∃ x : Deed, DeedR (argV Try.prog 5 69 d) x ∧ sizeD x ≤ Rows.uptoBulk d := by
  obtain ⟨ds, rfl, hl, hd, ha, hb⟩ := struct_of (n := 4) Try.underlying69 h
  match ds, hl with
  | [x, y, z], _ =>
    have tx : Typed Try.prog 4 3 x := hd 0 _ x rfl rfl
    have ty : Typed Try.prog 4 3 y := hd 1 _ y rfl rfl
    have tz : Typed Try.prog 4 22 z := hd 2 _ z rfl rfl
    obtain ⟨k, hx, hi⟩ := ints_of (n := 3) Try.underlying3 tx
    obtain ⟨n, hy, hj⟩ := ints_of (n := 3) Try.underlying3 ty
    obtain ⟨ps, hz, hs⟩ := bytes_of (n := 2) Try.underlying22 Try.underlying5 (by kernel_rfl) tz
    have hj' := wf_i64 hj
    simp only [Rows.uptoBulkAll] at hb
    refine ⟨⟨k, n, argV Try.prog 4 22 z, ps⟩, ⟨?_, hj'.1, hj'.2, hz⟩, by unfold sizeD; dsimp only; omega⟩
    rw [ha]
    simp only [List.zipWith_cons_cons, List.zipWith_nil_right, List.flatten_cons, List.flatten_nil, List.append_nil]
    have e1 := dec_one (n := 3) tx (by kernel_rfl)
    have e2 := dec_one (n := 3) ty (by kernel_rfl)
    have e3 := dec_one (n := 3) tz (by kernel_rfl)
    rw [hx] at e1
    rw [hy] at e2
    rw [e1, e2, e3]; rfl

theorem deeds_of {H : Type} {d : DataW H} (h : Typed Try.prog 6 62 d) : ∃ xs : List Deed, (∀ σ, SlOf σ 3 (argV Try.prog 6 62 d) (xs.map Deed.val)) ∧ (∀ x ∈ xs, -9223372036854775808 ≤ x.n ∧ x.n < 9223372036854775808 ∧ SlOf [] 1 x.p (B x.ps)) ∧
    (xs.map sizeD).sum ≤ Rows.uptoBulk d ∧ True := by
  rcases slice_of Try.underlying62 h with rfl | ⟨ds, rest, rfl, hd, ha, hb⟩
  · exact ⟨[], fun σ => by rw [argV_nil Try.underlying62]; exact SlOf.nil σ 3, fun x hx => by simp at hx, Nat.zero_le _, trivial⟩
  · obtain ⟨xs, h1, h2, h3, h4⟩ := list_of (R := DeedR) (size := sizeD) (fun d h => deed_of d h) ds hd
    have key : (ds.map fun x => argV Try.prog 5 69 x) = xs.map Deed.val := by
      refine List.ext_getElem? fun i => ?_
      by_cases hi : i < ds.length
      · have e1 : (ds.map fun x => argV Try.prog 5 69 x)[i]? = some (argV Try.prog 5 69 ds[i]) := by simp [List.getElem?_eq_getElem hi]
        have e2 : xs[i]? = some (xs[i]'(by omega)) := List.getElem?_eq_getElem _
        have := (h2 i _ _ e1 e2).1
        rw [e1, this, List.getElem?_map, e2]; rfl
      · rw [List.getElem?_eq_none (by simp; omega), List.getElem?_eq_none (by simp; omega)]
    refine ⟨xs, fun σ => ?_, fun x hx => ?_, by omega, trivial⟩
    · rw [ha, show Try.prog.cellsOf 69 = 3 from by kernel_rfl, key]; exact SlOf.fs _ _ _ _ _
    · obtain ⟨i, hi, rfl⟩ := List.mem_iff_getElem.1 hx
      have e1 : (ds.map fun x => argV Try.prog 5 69 x)[i]? = some (argV Try.prog 5 69 (ds[i]'(by omega))) := by simp [List.getElem?_eq_getElem (show i < ds.length by omega)]
      have := h2 i _ _ e1 (List.getElem?_eq_getElem hi)
      exact ⟨this.2.1, this.2.2.1, this.2.2.2 []⟩
theorem bulkD_le : ∀ xs : List Deed, bulkD xs ≤ 8 * (xs.map sizeD).sum
  | [] => Nat.zero_le _
  | x :: xs => by
    have := bulkD_le xs
    simp only [bulkD, List.map_cons, List.sum_cons, sizeD] at this ⊢
    omega
theorem len_le : ∀ xs : List Deed, xs.length ≤ (xs.map sizeD).sum
  | [] => Nat.zero_le _
  | x :: xs => by
    have := len_le xs
    simp only [List.length_cons, List.map_cons, List.sum_cons, sizeD] at this ⊢
    omega

theorem contract (H : Type) (enc : TypeId × Value → H) (W : World) (base : Nat) (args : Array Value) (ds gs : List (DataW H)) (before : List MemPlace)
    (hval : ∀ (j : Nat) t v, Try.f8.params[j]? = some t → args[j]? = some v → Value.okWide Try.prog W .any base t v)
    (hW : DataW.Whole enc Try.prog Try.f8.params.toList Rows.journalRunsSpec.vars false W args.toList ds gs before) (hk : Rows.uptoSmall H (ds ++ gs) = true) :
    Calls Try.prog 8 args W fun e W' => ∃ v, e = .returned v ∧ Rows.journalRunsSpec.post enc Try.prog Try.f8 false true false false W args v W' := by
  have hW' := hW
  obtain ⟨p, q, hA0, hV, rfl, hfz, hnd⟩ := hW
  have hA : DataW.TrodAll enc Try.prog W 0 (fun _ => true) true Try.f8.params.toList args.toList ds p := hA0
  rw [Try.params8] at hA
  obtain ⟨v0, vs0, d0, ds0, p0, q0, hargs, rfl, rfl, h0, r0⟩ := trodAll_cons hA
  obtain ⟨v1, vs1, d1, ds1, p1, q1, rfl, rfl, rfl, h1, r1⟩ := trodAll_cons r0
  obtain ⟨rfl, rfl, rfl⟩ := trodAll_nil r1
  obtain ⟨rfl, rfl⟩ := trodVars_none hV
  have hv0 := hval 0 22 v0 rfl (by rw [← Array.getElem?_toList, hargs]; rfl)
  have hv1 := hval 1 62 v1 rfl (by rw [← Array.getElem?_toList, hargs]; rfl)
  obtain ⟨a0, t0⟩ := arg_read (cf := CJ.cfg.conc) (n := 6) (by kernel_rfl) hv0 h0
  obtain ⟨a1, t1⟩ := arg_read (cf := CJ.cfg.conc) (n := 6) (by kernel_rfl) hv1 h1
  have hb : Rows.uptoBulk d0 + Rows.uptoBulk d1 ≤ 1048576 := by
    have := of_decide_eq_true hk
    simp only [List.append_nil, Rows.uptoBulkAll] at this
    omega
  obtain ⟨bs, b1, b2⟩ := bytes_of (n := 4) Try.underlying22 Try.underlying5 (by kernel_rfl) t0
  obtain ⟨xs, c1, c2, c3, c4⟩ := deeds_of t1
  obtain ⟨n, v, σ, hrun, hv⟩ := runs_run _ _ bs xs (b1 []) (c1 []) c2 (by have := bulkD_le xs; omega) (by have := len_le xs; omega)
  have rels := VRelL.cons _ _ _ _ _ a0 (VRelL.cons _ _ _ _ _ a1 (VRelL.nil _))

  subst hv
  refine law_contract (cfg := CJ.cfg) (f := 8) (n := n) (by kernel_rfl) CJ.all (fun _ => rfl) (tb := 4) rfl Try.underlying4 readable rfl hW' rfl (by rw [hrun]; rfl) ?_
  rw [hargs]
  exact rels

theorem lifted (os : Os) (started : os.Started) (H : Type) (enc : TypeId × Value → H) (F : Stop.Interp) :
    ReturnsInHanded {} Try.checked os 8 .any ((Rows.OpenSpec.upto Rows.journalRunsSpec).pre6 enc Try.prog Try.f8 Rows.journalRunsUptoRow.domain false) (((Rows.OpenSpec.upto Rows.journalRunsSpec).at F).post enc Try.prog Try.f8 false true false false) := by
  refine returnsInHanded_of_cond (C := Try.checked) (s := Rows.OpenSpec.upto Rows.journalRunsSpec) (k := Rows.uptoSmall) rfl own started (by kernel_rfl) Try.func8
    (OpenSpec.witness (enc := enc) (C := Try.checked) (s := Rows.OpenSpec.upto Rows.journalRunsSpec) (k := Rows.uptoSmall) rfl false ⟨#[], #[.slice none 0 0, .slice none 0 0], []⟩ 8 (by kernel_rfl) (by kernel_rfl) (by kernel_rfl)
      (x := ([.nil, .nil], [], [])) (by kernel_rfl) rfl (by kernel_rfl)) ?_
  intro W base args ds gs before hval hW _ hk _
  exact contract H enc W base args ds gs before hval hW hk

theorem over : Rows.journalRunsUptoRow.holds Try.pinned (Rows.OpenSpec.upto Rows.journalRunsSpec) :=
  OpenClaim.holds_of_cond 8 Try.f8 rfl rfl rfl rfl rfl rfl rfl ⟨rfl, rfl, rfl, rfl, rfl⟩ rfl rfl rfl rfl rfl (by kernel_rfl) Try.func8 (by kernel_rfl)
    (of_decide_eq_true (by kernel_rfl)) (by unfold Func.isWrapper; first | (rw [if_pos (by decide +kernel)]; kernel_rfl) | (rw [if_neg (by decide +kernel)]; exact ⟨rfl, rfl⟩))
    (fun os started H enc _ F => lifted os started H enc F)

theorem proved : Rows.JournalRunsUptoSaid :=
  over
end Go.Proofs.Ytmocplkpnickgaa.journalRuns
