/-
  JournalHurt, for every input of bulk at most 1048576: the call returns true, and its arguments read behind it as they read before. No further condition.
-/
import Derived.Test.YtmocplkpnickgaaRows
import Derived.Test.YtmocplkpnickgaaAmRd2
import Derived.Test.YtmocplkpnickgaaAmJHurtRun
namespace Go.Proofs.Ytmocplkpnickgaa.journalHurt
open Go Go.ChangeShapes Go.WideShapes Go.ChangeAt Go.RowKit Go.Proofs.Ytmocplkpnickgaa.Am
set_option linter.unusedVariables false
set_option linter.unusedSimpArgs false
set_option maxRecDepth 100000

theorem own : ownKnob Try.prog.godebug = none := by kernel_rfl

theorem readable : Readable Try.prog Try.f6.params.toList := Readable.of (by kernel_rfl) (by kernel_rfl) (by kernel_rfl) (by kernel_rfl)

theorem sum_mem : ∀ (ps : List (List UInt8)) (p : List UInt8), p ∈ ps → p.length ≤ (ps.map List.length).sum
  | [], _, h => by cases h
  | q :: ps, p, h => by
    simp only [List.map_cons, List.sum_cons]
    rcases List.mem_cons.1 h with rfl | h
    · omega
    · have := sum_mem ps p h; omega
theorem recs_sum : ∀ ps : List (List UInt8), (recs ps).length = 8 * ps.length + (ps.map List.length).sum
  | [] => rfl
  | p :: ps => by rw [recs_len_cons, recs_sum ps]; simp; omega

theorem hurt_of {H : Type} {d : DataW H} (h : Typed Try.prog 6 54 d) : ∃ (i : Int) (b : UInt8), argV Try.prog 6 54 d = .agg [.int .i64 i, .int .u8 b.toNat] ∧ (Lit.int .i64 i).wf = true := by
  obtain ⟨ds, rfl, hl, hd, ha, _⟩ := struct_of (n := 5) Try.underlying54 h
  match ds, hl with
  | [x, y], _ =>
    have tx : Typed Try.prog 5 3 x := hd 0 _ x rfl rfl
    have ty : Typed Try.prog 5 5 y := hd 1 _ y rfl rfl
    obtain ⟨i, hx, hi⟩ := ints_of (n := 4) Try.underlying3 tx
    obtain ⟨b, hy, _⟩ := byte_of (n := 4) Try.underlying5 y ty
    refine ⟨i, b, ?_, hi⟩
    rw [ha]
    simp only [List.zipWith_cons_cons, List.zipWith_nil_right, List.flatten_cons, List.flatten_nil, List.append_nil]
    have e1 := dec_one (n := 4) tx (by kernel_rfl)
    have e2 := dec_one (n := 4) ty (by kernel_rfl)
    rw [hx] at e1
    rw [hy] at e2
    rw [e1, e2]; rfl

theorem contract (H : Type) (enc : TypeId × Value → H) (W : World) (base : Nat) (args : Array Value) (ds gs : List (DataW H)) (before : List MemPlace)
    (hval : ∀ (j : Nat) t v, Try.f6.params[j]? = some t → args[j]? = some v → Value.okWide Try.prog W .any base t v)
    (hW : DataW.Whole enc Try.prog Try.f6.params.toList Rows.journalHurtSpec.vars false W args.toList ds gs before) (hk : Rows.uptoSmall H (ds ++ gs) = true) :
    Calls Try.prog 6 args W fun e W' => ∃ v, e = .returned v ∧ Rows.journalHurtSpec.post enc Try.prog Try.f6 false true false false W args v W' := by
  have hW' := hW
  obtain ⟨p, q, hA0, hV, rfl, hfz, hnd⟩ := hW
  have hA : DataW.TrodAll enc Try.prog W 0 (fun _ => true) true Try.f6.params.toList args.toList ds p := hA0
  rw [Try.params6] at hA
  obtain ⟨v0, vs0, d0, ds0, p0, q0, hargs, rfl, rfl, h0, r0⟩ := trodAll_cons hA
  obtain ⟨v1, vs1, d1, ds1, p1, q1, rfl, rfl, rfl, h1, r1⟩ := trodAll_cons r0
  obtain ⟨v2, vs2, d2, ds2, p2, q2, rfl, rfl, rfl, h2, r2⟩ := trodAll_cons r1
  obtain ⟨rfl, rfl, rfl⟩ := trodAll_nil r2
  obtain ⟨rfl, rfl⟩ := trodVars_none hV
  have hv0 := hval 0 27 v0 rfl (by rw [← Array.getElem?_toList, hargs]; rfl)
  have hv1 := hval 1 22 v1 rfl (by rw [← Array.getElem?_toList, hargs]; rfl)
  have hv2 := hval 2 54 v2 rfl (by rw [← Array.getElem?_toList, hargs]; rfl)
  obtain ⟨a0, t0⟩ := arg_read (cf := CJ.cfg.conc) (n := 6) (by kernel_rfl) hv0 h0
  obtain ⟨a1, t1⟩ := arg_read (cf := CJ.cfg.conc) (n := 6) (by kernel_rfl) hv1 h1
  obtain ⟨a2, t2⟩ := arg_read (cf := CJ.cfg.conc) (n := 6) (by kernel_rfl) hv2 h2
  have hb : Rows.uptoBulk d0 + Rows.uptoBulk d1 + Rows.uptoBulk d2 ≤ 1048576 := by
    have := of_decide_eq_true hk
    simp only [List.append_nil, Rows.uptoBulkAll] at this
    omega
  obtain ⟨ahead, es, b1, b2, b3⟩ := rows_of (n := 3) Try.underlying27 Try.underlying22 (by kernel_rfl) Try.underlying5 (by kernel_rfl) t0
  obtain ⟨ps, c1, c2⟩ := bytes_of (n := 4) Try.underlying22 Try.underlying5 (by kernel_rfl) t1
  obtain ⟨i, by_, e1, e2⟩ := hurt_of t2
  have hi := wf_i64 e2
  have hr := recs_sum ahead
  obtain ⟨n, v, σ, hrun, hv⟩ := hurt_run _ _ es ahead ps i by_ hi.1 hi.2 (b1 []) (c1 []) (by omega) (by omega) (by omega) (fun q hq => by have := sum_mem ahead q hq; omega)
  rw [e1] at a2
  have rels := VRelL.cons _ _ _ _ _ a0 (VRelL.cons _ _ _ _ _ a1 (VRelL.cons _ _ _ _ _ a2 (VRelL.nil _)))

  subst hv
  refine law_contract (cfg := CJ.cfg) (f := 6) (n := n) (by kernel_rfl) CJ.all (fun _ => rfl) (tb := 4) rfl Try.underlying4 readable rfl hW' rfl (by rw [hrun]; rfl) ?_
  rw [hargs]
  exact rels

theorem lifted (os : Os) (started : os.Started) (H : Type) (enc : TypeId × Value → H) (F : Stop.Interp) :
    ReturnsInHanded {} Try.checked os 6 .any ((Rows.OpenSpec.upto Rows.journalHurtSpec).pre6 enc Try.prog Try.f6 Rows.journalHurtUptoRow.domain false) (((Rows.OpenSpec.upto Rows.journalHurtSpec).at F).post enc Try.prog Try.f6 false true false false) := by
  refine returnsInHanded_of_cond (C := Try.checked) (s := Rows.OpenSpec.upto Rows.journalHurtSpec) (k := Rows.uptoSmall) rfl own started (by kernel_rfl) Try.func6
    (OpenSpec.witness (enc := enc) (C := Try.checked) (s := Rows.OpenSpec.upto Rows.journalHurtSpec) (k := Rows.uptoSmall) rfl false ⟨#[], #[.slice none 0 0, .slice none 0 0, .agg #[.int .i64 0, .int .u8 0]], []⟩ 8 (by kernel_rfl) (by kernel_rfl) (by kernel_rfl)
      (x := ([.nil, .nil, .agg [.lit (.int .i64 0), .lit (.int .u8 0)]], [], [])) (by kernel_rfl) rfl (by kernel_rfl)) ?_
  intro W base args ds gs before hval hW _ hk _
  exact contract H enc W base args ds gs before hval hW hk

theorem over : Rows.journalHurtUptoRow.holds Try.pinned (Rows.OpenSpec.upto Rows.journalHurtSpec) :=
  OpenClaim.holds_of_cond 6 Try.f6 rfl rfl rfl rfl rfl rfl rfl ⟨rfl, rfl, rfl, rfl, rfl⟩ rfl rfl rfl rfl rfl (by kernel_rfl) Try.func6 (by kernel_rfl)
    (of_decide_eq_true (by kernel_rfl)) (by unfold Func.isWrapper; first | (rw [if_pos (by decide +kernel)]; kernel_rfl) | (rw [if_neg (by decide +kernel)]; exact ⟨rfl, rfl⟩))
    (fun os started H enc _ F => lifted os started H enc F)

theorem proved : Rows.JournalHurtUptoSaid :=
  over
end Go.Proofs.Ytmocplkpnickgaa.journalHurt
