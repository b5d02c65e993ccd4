/-
  JournalCut, for every input of bulk at most 1048576: the call returns true, and its arguments read behind it as they read before. No further condition.
-/
import Derived.Test.YtmocplkpnickgaaRows
import Derived.Test.YtmocplkpnickgaaAmRd2
import Derived.Test.YtmocplkpnickgaaAmJCutRun
namespace Go.Proofs.Ytmocplkpnickgaa.journalCut
open Go Go.ChangeShapes Go.WideShapes Go.ChangeAt Go.RowKit Go.Proofs.Ytmocplkpnickgaa.Am
set_option linter.unusedVariables false
set_option linter.unusedSimpArgs false
set_option maxRecDepth 100000

theorem own : ownKnob Try.prog.godebug = none := by kernel_rfl

theorem readable : Readable Try.prog Try.f4.params.toList := Readable.of (by kernel_rfl) (by kernel_rfl) (by kernel_rfl) (by kernel_rfl)

theorem sum_mem : ∀ (ps : List (List UInt8)) (p : List UInt8), p ∈ ps → p.length ≤ (ps.map List.length).sum
  | [], _, h => by cases h
  | q :: ps, p, h => by
    simp only [List.map_cons, List.sum_cons]
    rcases List.mem_cons.1 h with rfl | h
    · omega
    · have := sum_mem ps p h; omega
theorem recs_sum : ∀ ps : List (List UInt8), (recs ps).length = 8 * ps.length + (ps.map List.length).sum
  | [] => rfl
  | p :: ps => by rw [recs_len_cons, recs_sum ps]; simp; omega

theorem contract (H : Type) (enc : TypeId × Value → H) (W : World) (base : Nat) (args : Array Value) (ds gs : List (DataW H)) (before : List MemPlace)
    (hval : ∀ (j : Nat) t v, Try.f4.params[j]? = some t → args[j]? = some v → Value.okWide Try.prog W .any base t v)
    (hW : DataW.Whole enc Try.prog Try.f4.params.toList Rows.journalCutSpec.vars false W args.toList ds gs before) (hk : Rows.uptoSmall H (ds ++ gs) = true) :
    Calls Try.prog 4 args W fun e W' => ∃ v, e = .returned v ∧ Rows.journalCutSpec.post enc Try.prog Try.f4 false true false false W args v W' := by
  have hW' := hW
  obtain ⟨p, q, hA0, hV, rfl, hfz, hnd⟩ := hW
  have hA : DataW.TrodAll enc Try.prog W 0 (fun _ => true) true Try.f4.params.toList args.toList ds p := hA0
  rw [Try.params4] at hA
  obtain ⟨v0, vs0, d0, ds0, p0, q0, hargs, rfl, rfl, h0, r0⟩ := trodAll_cons hA
  obtain ⟨v1, vs1, d1, ds1, p1, q1, rfl, rfl, rfl, h1, r1⟩ := trodAll_cons r0
  obtain ⟨rfl, rfl, rfl⟩ := trodAll_nil r1
  obtain ⟨rfl, rfl⟩ := trodVars_none hV
  have hv0 := hval 0 27 v0 rfl (by rw [← Array.getElem?_toList, hargs]; rfl)
  have hv1 := hval 1 3 v1 rfl (by rw [← Array.getElem?_toList, hargs]; rfl)
  obtain ⟨a0, t0⟩ := arg_read (cf := CJ.cfg.conc) (n := 4) (by kernel_rfl) hv0 h0
  obtain ⟨a1, t1⟩ := arg_read (cf := CJ.cfg.conc) (n := 4) (by kernel_rfl) hv1 h1
  obtain ⟨ps, es, b1, b2, b3⟩ := rows_of (n := 1) Try.underlying27 Try.underlying22 (by kernel_rfl) Try.underlying5 (by kernel_rfl) t0
  obtain ⟨i, e1, e2⟩ := ints_of (n := 3) Try.underlying3 t1
  have hi := wf_i64 e2
  have hb : Rows.uptoBulk d0 ≤ 1048576 := by
    have := of_decide_eq_true hk
    simp only [List.cons_append, List.nil_append, List.append_nil, Rows.uptoBulkAll] at this
    omega
  have hr := recs_sum ps
  obtain ⟨n, v, σ, hrun, hv⟩ := cut_run ps es _ i hi.1 hi.2 (b1 []) (by omega) (by omega) (fun p hp => by have := sum_mem ps p hp; omega)
  subst hv
  exact law_contract (cfg := CJ.cfg) (f := 4) (n := n) (by kernel_rfl) CJ.all (fun _ => rfl) (tb := 4) rfl Try.underlying4 readable rfl hW' rfl (by rw [hrun]; rfl)
    (by rw [hargs]; exact .cons _ _ _ _ _ a0 (.cons _ _ _ _ _ (by rw [← e1]; exact a1) (.nil _)))

theorem lifted (os : Os) (started : os.Started) (H : Type) (enc : TypeId × Value → H) (F : Stop.Interp) :
    ReturnsInHanded {} Try.checked os 4 .any ((Rows.OpenSpec.upto Rows.journalCutSpec).pre6 enc Try.prog Try.f4 Rows.journalCutUptoRow.domain false) (((Rows.OpenSpec.upto Rows.journalCutSpec).at F).post enc Try.prog Try.f4 false true false false) := by
  refine returnsInHanded_of_cond (C := Try.checked) (s := Rows.OpenSpec.upto Rows.journalCutSpec) (k := Rows.uptoSmall) rfl own started (by kernel_rfl) Try.func4
    (OpenSpec.witness (enc := enc) (C := Try.checked) (s := Rows.OpenSpec.upto Rows.journalCutSpec) (k := Rows.uptoSmall) rfl false ⟨#[], #[.slice none 0 0, .int .i64 0], []⟩ 8 (by kernel_rfl) (by kernel_rfl) (by kernel_rfl)
      (x := ([.nil, .lit (.int .i64 0)], [], [])) (by kernel_rfl) rfl (by kernel_rfl)) ?_
  intro W base args ds gs before hval hW _ hk _
  exact contract H enc W base args ds gs before hval hW hk

theorem over : Rows.journalCutUptoRow.holds Try.pinned (Rows.OpenSpec.upto Rows.journalCutSpec) :=
  OpenClaim.holds_of_cond 4 Try.f4 rfl rfl rfl rfl rfl rfl rfl ⟨rfl, rfl, rfl, rfl, rfl⟩ rfl rfl rfl rfl rfl (by kernel_rfl) Try.func4 (by kernel_rfl)
    (of_decide_eq_true (by kernel_rfl)) (by unfold Func.isWrapper; first | (rw [if_pos (by decide +kernel)]; kernel_rfl) | (rw [if_neg (by decide +kernel)]; exact ⟨rfl, rfl⟩))
    (fun os started H enc _ F => lifted os started H enc F)

theorem proved : Rows.JournalCutUptoSaid :=
  over
end Go.Proofs.Ytmocplkpnickgaa.journalCut
