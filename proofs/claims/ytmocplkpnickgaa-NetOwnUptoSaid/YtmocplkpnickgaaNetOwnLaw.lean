/-
  NetOwn, for every input of bulk at most 1048576: the call returns true, and its arguments read behind it as they read before. No further condition.
-/
import Derived.Test.YtmocplkpnickgaaRows
import Derived.Test.YtmocplkpnickgaaNetOwnPkC
import Derived.Test.YtmocplkpnickgaaNetOwnPkF
namespace Go.Proofs.Ytmocplkpnickgaa.netOwn
open Go Go.ChangeShapes Go.WideShapes Go.ChangeAt Go.RowKit Go.Proofs.Ytmocplkpnickgaa.Am
set_option linter.unusedVariables false
set_option linter.unusedSimpArgs false
set_option maxRecDepth 100000

theorem own : ownKnob Try.prog.godebug = none := by kernel_rfl

theorem readable : Readable Try.prog Try.f11.params.toList := Readable.of (by kernel_rfl) (by kernel_rfl) (by kernel_rfl) (by kernel_rfl)

theorem contract (H : Type) (enc : TypeId × Value → H) (W : World) (base : Nat) (args : Array Value) (ds gs : List (DataW H)) (before : List MemPlace)
    (hval : ∀ (j : Nat) t v, Try.f11.params[j]? = some t → args[j]? = some v → Value.okWide Try.prog W .any base t v)
    (hW : DataW.Whole enc Try.prog Try.f11.params.toList Rows.netOwnSpec.vars false W args.toList ds gs before) (hk : Rows.uptoSmall H (ds ++ gs) = true) :
    Calls Try.prog 11 args W fun e W' => ∃ v, e = .returned v ∧ Rows.netOwnSpec.post enc Try.prog Try.f11 false true false false W args v W' := by
  have hW' := hW
  obtain ⟨p, q, hA0, hV, rfl, hfz, hnd⟩ := hW
  have hA : DataW.TrodAll enc Try.prog W 0 (fun _ => true) true Try.f11.params.toList args.toList ds p := hA0
  rw [Try.params11] at hA
  obtain ⟨v0, vs0, d0, ds0, p0, q0, hargs, rfl, rfl, h0, r0⟩ := trodAll_cons hA
  obtain ⟨rfl, rfl, rfl⟩ := trodAll_nil r0
  obtain ⟨rfl, rfl⟩ := trodVars_none hV
  have hv0 := hval 0 75 v0 rfl (by rw [← Array.getElem?_toList, hargs]; rfl)
  obtain ⟨a0, t0⟩ := arg_read (cf := CN.cfg.conc) (n := 6) (by kernel_rfl) hv0 h0
  have hb : Rows.uptoBulk d0 ≤ 1048576 := by
    have := of_decide_eq_true hk
    simp only [List.append_nil, Rows.uptoBulkAll] at this
    omega
  obtain ⟨fs, xs, b1, b2, b3, b4⟩ := dgs_of (n := 2) t0
  obtain ⟨n, v, σ, hrun, hv⟩ := own_run _ fs xs (b1 []) b2 (by omega) (fun p hp => by have := size_mem hp; omega)
  have rels := VRelL.cons _ _ _ _ _ a0 (VRelL.nil _)

  subst hv
  refine law_contract (cfg := CN.cfg) (f := 11) (n := n) (by kernel_rfl) CN.all (fun _ => rfl) (tb := 4) rfl Try.underlying4 readable rfl hW' rfl (by rw [hrun]; rfl) ?_
  rw [hargs]
  exact rels

theorem lifted (os : Os) (started : os.Started) (H : Type) (enc : TypeId × Value → H) (F : Stop.Interp) :
    ReturnsInHanded {} Try.checked os 11 .any ((Rows.OpenSpec.upto Rows.netOwnSpec).pre6 enc Try.prog Try.f11 Rows.netOwnUptoRow.domain false) (((Rows.OpenSpec.upto Rows.netOwnSpec).at F).post enc Try.prog Try.f11 false true false false) := by
  refine returnsInHanded_of_cond (C := Try.checked) (s := Rows.OpenSpec.upto Rows.netOwnSpec) (k := Rows.uptoSmall) rfl own started (by kernel_rfl) Try.func11
    (OpenSpec.witness (enc := enc) (C := Try.checked) (s := Rows.OpenSpec.upto Rows.netOwnSpec) (k := Rows.uptoSmall) rfl false ⟨#[], #[.slice none 0 0], []⟩ 8 (by kernel_rfl) (by kernel_rfl) (by kernel_rfl)
      (x := ([.nil], [], [])) (by kernel_rfl) rfl (by kernel_rfl)) ?_
  intro W base args ds gs before hval hW _ hk _
  exact contract H enc W base args ds gs before hval hW hk

theorem over : Rows.netOwnUptoRow.holds Try.pinned (Rows.OpenSpec.upto Rows.netOwnSpec) :=
  OpenClaim.holds_of_cond 11 Try.f11 rfl rfl rfl rfl rfl rfl rfl ⟨rfl, rfl, rfl, rfl, rfl⟩ rfl rfl rfl rfl rfl (by kernel_rfl) Try.func11 (by kernel_rfl)
    (of_decide_eq_true (by kernel_rfl)) (by unfold Func.isWrapper; first | (rw [if_pos (by decide +kernel)]; kernel_rfl) | (rw [if_neg (by decide +kernel)]; exact ⟨rfl, rfl⟩))
    (fun os started H enc _ F => lifted os started H enc F)

theorem proved : Rows.NetOwnUptoSaid :=
  over
end Go.Proofs.Ytmocplkpnickgaa.netOwn

