/-
  NetRuns, for every input of bulk at most 1048576: the call returns true, and its arguments read behind it as they read before. No further condition.
-/
import Derived.Test.YtmocplkpnickgaaRows
import Derived.Test.YtmocplkpnickgaaNetRunsPkC
import Derived.Test.YtmocplkpnickgaaNetRunsPkF
namespace Go.Proofs.Ytmocplkpnickgaa.netRuns
open Go Go.ChangeShapes Go.WideShapes Go.ChangeAt Go.RowKit Go.Proofs.Ytmocplkpnickgaa.Am
set_option linter.unusedVariables false
set_option linter.unusedSimpArgs false
set_option maxRecDepth 100000

theorem own : ownKnob Try.prog.godebug = none := by kernel_rfl

theorem readable : Readable Try.prog Try.f12.params.toList := Readable.of (by kernel_rfl) (by kernel_rfl) (by kernel_rfl) (by kernel_rfl)

theorem contract (H : Type) (enc : TypeId × Value → H) (W : World) (base : Nat) (args : Array Value) (ds gs : List (DataW H)) (before : List MemPlace)
    (hval : ∀ (j : Nat) t v, Try.f12.params[j]? = some t → args[j]? = some v → Value.okWide Try.prog W .any base t v)
    (hW : DataW.Whole enc Try.prog Try.f12.params.toList Rows.netRunsSpec.vars false W args.toList ds gs before) (hk : Rows.uptoSmall H (ds ++ gs) = true) :
    Calls Try.prog 12 args W fun e W' => ∃ v, e = .returned v ∧ Rows.netRunsSpec.post enc Try.prog Try.f12 false true false false W args v W' := by
  have hW' := hW
  obtain ⟨p, q, hA0, hV, rfl, hfz, hnd⟩ := hW
  have hA : DataW.TrodAll enc Try.prog W 0 (fun _ => true) true Try.f12.params.toList args.toList ds p := hA0
  rw [Try.params12] at hA
  obtain ⟨v0, vs0, d0, ds0, p0, q0, hargs, rfl, rfl, h0, r0⟩ := trodAll_cons hA
  obtain ⟨v1, vs1, d1, ds1, p1, q1, rfl, rfl, rfl, h1, r1⟩ := trodAll_cons r0
  obtain ⟨rfl, rfl, rfl⟩ := trodAll_nil r1
  obtain ⟨rfl, rfl⟩ := trodVars_none hV
  have hv0 := hval 0 3 v0 rfl (by rw [← Array.getElem?_toList, hargs]; rfl)
  have hv1 := hval 1 88 v1 rfl (by rw [← Array.getElem?_toList, hargs]; rfl)
  obtain ⟨a0, t0⟩ := arg_read (cf := CN.cfg.conc) (n := 8) (by kernel_rfl) hv0 h0
  obtain ⟨a1, t1⟩ := arg_read (cf := CN.cfg.conc) (n := 8) (by kernel_rfl) hv1 h1
  have hb : Rows.uptoBulk d0 + Rows.uptoBulk d1 ≤ 1048576 := by
    have := of_decide_eq_true hk
    simp only [List.append_nil, Rows.uptoBulkAll] at this
    omega
  obtain ⟨nd, e1, e2⟩ := ints_of (n := 7) Try.underlying3 t0
  obtain ⟨xs, c1, c2, c3, c4, c5⟩ := ndeeds_of t1 (by omega)
  obtain ⟨n, v, σ, hrun, hv⟩ := nruns_run nd _ xs c1 c2 (by omega) (by omega) (fun x hx => by have := c5 x hx; omega)
  rw [e1] at a0
  have rels := VRelL.cons _ _ _ _ _ a0 (VRelL.cons _ _ _ _ _ a1 (VRelL.nil _))

  subst hv
  refine law_contract (cfg := CN.cfg) (f := 12) (n := n) (by kernel_rfl) CN.all (fun _ => rfl) (tb := 4) rfl Try.underlying4 readable rfl hW' rfl (by rw [hrun]; rfl) ?_
  rw [hargs]
  exact rels

theorem lifted (os : Os) (started : os.Started) (H : Type) (enc : TypeId × Value → H) (F : Stop.Interp) :
    ReturnsInHanded {} Try.checked os 12 .any ((Rows.OpenSpec.upto Rows.netRunsSpec).pre6 enc Try.prog Try.f12 Rows.netRunsUptoRow.domain false) (((Rows.OpenSpec.upto Rows.netRunsSpec).at F).post enc Try.prog Try.f12 false true false false) := by
  refine returnsInHanded_of_cond (C := Try.checked) (s := Rows.OpenSpec.upto Rows.netRunsSpec) (k := Rows.uptoSmall) rfl own started (by kernel_rfl) Try.func12
    (OpenSpec.witness (enc := enc) (C := Try.checked) (s := Rows.OpenSpec.upto Rows.netRunsSpec) (k := Rows.uptoSmall) rfl false ⟨#[], #[.int .i64 0, .slice none 0 0], []⟩ 8 (by kernel_rfl) (by kernel_rfl) (by kernel_rfl)
      (x := ([.lit (.int .i64 0), .nil], [], [])) (by kernel_rfl) rfl (by kernel_rfl)) ?_
  intro W base args ds gs before hval hW _ hk _
  exact contract H enc W base args ds gs before hval hW hk

theorem over : Rows.netRunsUptoRow.holds Try.pinned (Rows.OpenSpec.upto Rows.netRunsSpec) :=
  OpenClaim.holds_of_cond 12 Try.f12 rfl rfl rfl rfl rfl rfl rfl ⟨rfl, rfl, rfl, rfl, rfl⟩ rfl rfl rfl rfl rfl (by kernel_rfl) Try.func12 (by kernel_rfl)
    (of_decide_eq_true (by kernel_rfl)) (by unfold Func.isWrapper; first | (rw [if_pos (by decide +kernel)]; kernel_rfl) | (rw [if_neg (by decide +kernel)]; exact ⟨rfl, rfl⟩))
    (fun os started H enc _ F => lifted os started H enc F)

theorem proved : Rows.NetRunsUptoSaid :=
  over
end Go.Proofs.Ytmocplkpnickgaa.netRuns

