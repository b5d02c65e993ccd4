/-
  THE ABSTRACT MACHINE, part 8: the operations that touch no memory, one by one.
-/
import Derived.Test.YtmocplkpnickgaaAmChk
import Derived.Laws.Slices
import Derived.Laws.Strings
import Derived.Laws.Concat
namespace Go.Proofs.Ytmocplkpnickgaa.Am
open Go
set_option linter.unusedVariables false
set_option linter.unusedSimpArgs false

section
variable {P : Program} {E : Env} {cf : FuncId → FuncId} {κ : K}

theorem sz_of {t : TypeId} {i : TypeInfo} (h : P.info? t = some i) (w : World) : (sizeOf t).run P w = .ok i.size w := by
  simp [sizeOf, typeInfo, h]

/-! numbers -/
theorem iop_run (op : BinOp) (t : TypeId) (x y : Operand) {a b : AVal} {ca cb : Value} {v : AVal} (ha : κ.V E cf a ca) (hb : κ.V E cf b cb) (h : iopV op a b = some v) (hR : κ.R E cf) :
    GV P E cf κ (do eqGuard op t x y ca cb; binOp op t ca cb) v κ.σ := by
  unfold iopV at h
  split at h
  · rename_i k n k' m
    have e1 := V_int ha; have e2 := V_int hb
    subst e1; subst e2
    have hg : ∀ w : World, (eqGuard op t x y (.int k n) (.int k' m)).run P w = .ok () w := by
      intro w; unfold eqGuard; cases op <;> simp
    split at h
    · rename_i hs
      unfold shOp at h
      split at h
      · simp at h
      · rename_i hm
        cases op <;> simp at hs h <;> subst h
        · exact GV.pure hR (cv := .int k (k.wrap (n * 2 ^ (min m.toNat k.bits)))) (fun w _ => by simp [hg, Result.andThen, binOp, Op.shift, hm]) (.int _ _ _)
        · exact GV.pure hR (cv := .int k (n.fdiv (2 ^ (min m.toNat k.bits)))) (fun w _ => by simp [hg, Result.andThen, binOp, Op.shift, hm]) (.int _ _ _)
    · rename_i hs
      split at h
      · rename_i hk
        subst hk
        cases op <;> simp [intOp] at hs h <;> first
          | (subst h; exact GV.pure hR (fun w _ => by simp [hg, Result.andThen, binOp, Op.intArith, Op.intBits, Op.intCmp]; rfl) (by constructor))
          | (obtain ⟨h1, rfl⟩ := h; exact GV.pure hR (fun w _ => by simp [hg, Result.andThen, binOp, Op.intDiv, h1]; rfl) (by constructor))
      · simp at h
  · simp at h

/-! strings -/
theorem sop_run (op : BinOp) (t : TypeId) (x y : Operand) {a b : AVal} {ca cb : Value} {v : AVal} (ha : κ.V E cf a ca) (hb : κ.V E cf b cb) (h : sopV op a b = some v) (hR : κ.R E cf) :
    GV P E cf κ (do eqGuard op t x y ca cb; binOp op t ca cb) v κ.σ := by
  unfold sopV at h
  split at h
  · obtain ⟨s, rfl, rfl⟩ := V_str ha
    obtain ⟨s', rfl, rfl⟩ := V_str hb
    have hg : ∀ w : World, (eqGuard op t x y (.string s) (.string s')).run P w = .ok () w := by
      intro w; unfold eqGuard; cases op <;> simp
    cases op <;> simp at h <;> first
      | (subst h; exact GV.pure hR (fun w _ => by simp [hg, Result.andThen, binOp, Op.stringOp, ByteArray.toList_eq]; rfl) (by constructor))
      | skip
    obtain ⟨h1, rfl⟩ := h
    refine GV.pure hR (cv := .string (s ++ s')) (fun w _ => ?_) ?_
    · have : ¬ (IntKind.i64.max < (s.size : Int) + (s'.size : Int)) := by
        have h2 : s.size + s'.size ≤ 70368744177664 := h1
        simp only [IntKind.max, IntKind.signed, IntKind.bits]
        omega
      have e : ∀ w : World, (binOp .add t (.string s) (.string s')).run P w = .ok (.string (s ++ s')) w := by
        intro w
        simp only [binOp, Op.stringOp]
        rw [if_neg]
        · simp
        · intro hh; exact this (by simpa using hh)
      simp [hg, Result.andThen, e]
    · have : (s ++ s').data.toList = s.data.toList ++ s'.data.toList := by simp
      rw [← this]
      exact .str _ _
  · simp at h

theorem not_run {a : AVal} {ca : Value} {b : Bool} (ha : κ.V E cf (.bool b) ca) (hR : κ.R E cf) : GV P E cf κ (Op.unary .not ca) (.bool !b) κ.σ := by
  have := V_bool ha; subst this
  exact GV.pure hR (fun w _ => by simp [Op.unary]) (.bool _ _)

theorem neg_run {ca : Value} {k : IntKind} {n : Int} (ha : κ.V E cf (.int k n) ca) (hR : κ.R E cf) : GV P E cf κ (Op.unary .neg ca) (.int k (k.wrap (0 - n))) κ.σ := by
  have := V_int ha; subst this
  exact GV.pure hR (cv := .int k (k.wrap (0 - n))) (fun w _ => by simp [Op.unary, Op.intArith]) (.int _ _ _)

theorem convI_run {src dst : TypeId} {k k0 : IntKind} {ca : Value} {k' : IntKind} {n : Int} (hs : P.underlying src = some (.int k0)) (hd : P.underlying dst = some (.int k)) (ha : κ.V E cf (.int k' n) ca) (hR : κ.R E cf) :
    GV P E cf κ (convert src dst ca) (.int k (k.wrap n)) κ.σ := by
  have := V_int ha; subst this
  exact GV.pure hR (cv := .int k (k.wrap n)) (fun w _ => by simp [convert, run_underlying hs, run_underlying hd, Conv.intToInt, Result.andThen]) (.int _ _ _)

/-! lengths -/
theorem V_slice_shape {a : AVal} {ca : Value} {n : Nat} (ha : κ.V E cf a ca) (h : lenSV a = some n) : ∃ b c, ca = .slice b n c := by
  unfold lenSV at h
  split at h <;> simp at h <;> subst h
  · cases ha; exact ⟨_, _, rfl⟩
  · cases ha with
    | fslice _ _ _ _ _ b o len cap vs h1 h2 h3 h4 h5 h6 h7 h8 h9 => exact ⟨_, _, by rw [h7]⟩
    | zslice => exact ⟨_, _, rfl⟩
  · cases ha; exact ⟨_, _, rfl⟩

theorem lenS_run {t ty : TypeId} {e : TypeId} (ht : P.underlying t = some (.slice e)) {a : AVal} {ca : Value} {n : Nat} (ha : κ.V E cf a ca) (h : lenSV a = some n) (hR : κ.R E cf) :
    GV P E cf κ (Builtin.len_ #[t] ty #[ca]) (.int .i64 n) κ.σ := by
  obtain ⟨b, c, rfl⟩ := V_slice_shape ha h
  exact GV.pure hR (cv := .int .i64 n) (fun w _ => by simp [Builtin.len_, run_underlying ht, goInt, Result.andThen]) (.int _ _ _)

theorem lenStr_run {t ty : TypeId} (ht : P.underlying t = some .string) {s : List UInt8} {ca : Value} (ha : κ.V E cf (.str s) ca) (hR : κ.R E cf) :
    GV P E cf κ (Builtin.len_ #[t] ty #[ca]) (.int .i64 s.length) κ.σ := by
  obtain ⟨b, rfl, rfl⟩ := V_str ha
  exact GV.pure hR (cv := .int .i64 b.data.toList.length) (fun w _ => by simp [Builtin.len_, run_underlying ht, goInt, Result.andThen]) (.int _ _ _)

theorem lenA_run {t ty : TypeId} {e n} (ht : P.underlying t = some (.array n e) ∨ ∃ u, P.underlying t = some (.pointer u) ∧ P.underlying u = some (.array n e)) {ca : Value} (hR : κ.R E cf) :
    GV P E cf κ (Builtin.len_ #[t] ty #[ca]) (.int .i64 n) κ.σ := by
  rcases ht with ht | ⟨u, ht, hu⟩
  · exact GV.pure hR (cv := .int .i64 n) (fun w _ => by cases ca <;> simp [Builtin.len_, run_underlying ht, goInt, Result.andThen]) (.int _ _ _)
  · exact GV.pure hR (cv := .int .i64 n) (fun w _ => by cases ca <;> simp [Builtin.len_, run_underlying ht, run_underlying hu, goInt, Result.andThen]) (.int _ _ _)

theorem capS_run {t ty : TypeId} {e : TypeId} (ht : P.underlying t = some (.slice e)) {a : AVal} {ca : Value} {n : Nat} (ha : κ.V E cf a ca) (h : capSV a = some n) (hR : κ.R E cf) :
    GV P E cf κ (Builtin.cap_ #[t] ty #[ca]) (.int .i64 n) κ.σ := by
  have : ∃ b l, ca = .slice b l n := by
    unfold capSV at h
    split at h <;> simp at h <;> subst h
    · cases ha; exact ⟨_, _, rfl⟩
    · cases ha with
      | fslice _ _ _ _ _ b o len cap vs h1 h2 h3 h4 h5 h6 h7 h8 h9 => exact ⟨_, _, by rw [h9 rfl, h7]⟩
      | zslice => exact ⟨_, _, rfl⟩
    · cases ha; rename_i h1; exact ⟨_, _, by rw [h1.2.1 _ rfl]⟩
  obtain ⟨b, l, rfl⟩ := this
  exact GV.pure hR (cv := .int .i64 n) (fun w _ => by simp [Builtin.cap_, run_underlying ht, goInt, Result.andThen]) (.int _ _ _)

/-! parts of values -/
theorem ld_part {cs : List AVal} {vs : List Value} {off n : Nat} {agg : Bool} {v : AVal} {t : TypeId} (hl : κ.VL E cf cs vs) (h1 : AVal.allOne cs) (hn : sizeT P t = some n) (ha : aggT P t = some agg)
    (h : ld cs off n agg = some v) : ∃ cv, (∀ w, (part t vs.toArray off).run P w = .ok cv w) ∧ κ.V E cf v cv := by
  obtain ⟨i, hi, hin⟩ := sizeT_eq hn
  unfold aggT at ha
  cases hu : P.underlying t with
  | none => simp [hu] at ha
  | some d =>
    simp only [hu, Option.map_some, Option.some.injEq] at ha
    have hag : ∀ w : World, (isAgg t).run P w = .ok agg w := by
      intro w
      simp only [isAgg, Sem.run_bind, run_underlying hu, Result.andThen]
      subst ha
      cases d <;> simp
    unfold ld at h
    cases agg
    · simp at h
      obtain ⟨cv, hcv, hr⟩ := VL_get hl off v h
      exact ⟨cv, fun w => by simp [part, hag, Result.andThen, hcv], hr⟩
    · simp at h
      obtain ⟨hlt, rfl⟩ := h
      refine ⟨.agg ((vs.drop off).take n).toArray, fun w => ?_, .agg _ _ _ (VL_take _ (VL_drop _ hl)) (fun c hc => h1 c (List.mem_of_mem_drop (List.mem_of_mem_take hc)))⟩
      have hlen := VL_len hl
      simp only [part, Sem.run_bind, hag, Result.andThen, if_true, sz_of hi, hin]
      simp

theorem field_run {t ft : TypeId} {fs : Array Field} {f : Field} {i off n : Nat} {agg : Bool} (ht : P.underlying t = some (.struct fs)) (hf : fs[i]? = some f) (ho : f.offset = off) (hft : f.type = ft)
    (hn : sizeT P ft = some n) (ha : aggT P ft = some agg) {cs : List AVal} {ca : Value} {v : AVal} (hv : κ.V E cf (.agg cs) ca) (h : ld cs off n agg = some v) (hR : κ.R E cf) :
    GV P E cf κ (Instr.field t ca i) v κ.σ := by
  obtain ⟨vs, rfl, hl, h1⟩ := V_agg hv
  obtain ⟨cv, hrun, hr⟩ := ld_part hl h1 hn ha h
  subst hft ho
  exact GV.pure hR (cv := cv) (fun w _ => by simp [Instr.field, run_underlying ht, Result.andThen, hf, asAgg, hrun]) hr

theorem arrIdx_run {t e : TypeId} {len n : Nat} {agg : Bool} (ht : P.underlying t = some (.array len e)) (hn : sizeT P e = some n) (ha : aggT P e = some agg) {a b : AVal} {ca cb : Value} {v : AVal}
    (hv : κ.V E cf a ca) (hb : κ.V E cf b cb) (h : arrIdxV len n agg a b = some v) (hR : κ.R E cf) : GV P E cf κ (Instr.index t ca cb) v κ.σ := by
  unfold arrIdxV at h
  split at h
  · rename_i cs k i
    obtain ⟨vs, rfl, hl, h1⟩ := V_agg hv
    have := V_int hb; subst this
    split at h
    · rename_i hi
      obtain ⟨cv, hrun, hr⟩ := ld_part hl h1 hn ha h
      obtain ⟨inf, hinf, hsz⟩ := sizeT_eq hn
      exact GV.pure hR (cv := cv) (fun w _ => by simp [Instr.index, asIntOf, run_underlying ht, Result.andThen, hi, sz_of hinf, hsz, hrun]) hr
    · simp at h
  · simp at h

theorem strIdx_run {t : TypeId} (ht : P.underlying t = some .string) {a b : AVal} {ca cb : Value} {v : AVal}
    (hv : κ.V E cf a ca) (hb : κ.V E cf b cb) (h : strIdxV a b = some v) (hR : κ.R E cf) : GV P E cf κ (Instr.index t ca cb) v κ.σ := by
  unfold strIdxV at h
  split at h
  · rename_i s k i
    obtain ⟨s, rfl, rfl⟩ := V_str hv
    have := V_int hb; subst this
    split at h
    · rename_i hi
      cases hs : s.data.toList[i.toNat]? with
      | none => simp [hs] at h
      | some x =>
        simp [hs] at h
        subst h
        have hlt : i.toNat < s.size := by have := (List.getElem?_eq_some_iff.1 hs).1; simpa using this
        refine GV.pure hR (cv := .int .u8 x.toNat) (fun w _ => ?_) (.int _ _ _)
        have hx : s[i.toNat]? = some x := by
          rw [ByteArray.getElem?_lt' s _ hlt]
          have := (List.getElem?_eq_some_iff.1 hs).2
          rw [← this]; rfl
        simp [Instr.index, asIntOf, run_underlying ht, Result.andThen, hi, hx]
    · simp at h
  · simp at h

theorem extract_run {vs : List AVal} {ca : Value} {i : Nat} {v : AVal} (hv : κ.V E cf (.tuple vs) ca) (h : vs[i]? = some v) (hR : κ.R E cf) : GV P E cf κ (Instr.extract ca i) v κ.σ := by
  obtain ⟨us, rfl, hl⟩ := V_tuple hv
  obtain ⟨cv, hcv, hr⟩ := VL_get hl i v h
  exact GV.pure hR (cv := cv) (fun w _ => by simp [Instr.extract, hcv]) hr

theorem mkiface_run {t : TypeId} {ca : Value} {v : AVal} (ht : notIfaceT P t = true) (hv : κ.V E cf v ca) (hR : κ.R E cf) : GV P E cf κ (Instr.makeInterface t ca) (.iface t v) κ.σ := by
  unfold notIfaceT at ht
  cases hu : P.underlying t with
  | none => simp [hu] at ht
  | some d => exact GV.pure hR (cv := .iface t ca) (fun w _ => by simp only [Instr.makeInterface, Sem.run_bind, run_underlying hu, Result.andThen]; cases d <;> simp_all) (.iface _ _ _ _ hv)

theorem mkfunc_run {f : FuncId} {a b : List AVal} {u v : List Value} (ha : κ.VL E cf a u) (hb : κ.VL E cf b v) (hR : κ.R E cf) :
    GV P E cf κ (Instr.makeFunc (.func (cf f)) u.toArray v.toArray) (.func f a b) κ.σ :=
  GV.pure hR (cv := .func (.func (cf f)) u.toArray v.toArray) (fun w _ => by simp [Instr.makeFunc]) (.func _ _ _ _ _ _ ha hb)

end
end Go.Proofs.Ytmocplkpnickgaa.Am
