/-
  THE ABSTRACT MACHINE, part 9: '==' and '!='.
-/
import Derived.Test.YtmocplkpnickgaaAmPure
import Derived.Laws.StructEq
namespace Go.Proofs.Ytmocplkpnickgaa.Am
open Go
set_option linter.unusedVariables false
set_option linter.unusedSimpArgs false

section
variable {P : Program} {E : Env} {cf : FuncId → FuncId} {κ : K}

theorem equal_of {t : TypeId} {a b : Value} {r : Bool} {w : World} (h : (Op.equalIn (9999 + 1) t a b).run P w = .ok r w) : (Op.equal t a b).run P w = .ok r w := h

theorem binOp_eq (neg : Bool) {t : TypeId} {x y : Operand} {a b : Value} {r : Bool} {w : World} (hg : (eqGuard (if neg then .neq else .eql) t x y a b).run P w = .ok () w)
    (h1 : binOp .eql t a b = (Op.equal t a b >>= fun r => pure (.bool r))) (h2 : binOp .neq t a b = (Op.equal t a b >>= fun r => pure (.bool !r)))
    (h : (Op.equal t a b).run P w = .ok r w) :
    (do eqGuard (if neg then .neq else .eql) t x y a b; binOp (if neg then .neq else .eql) t a b : Sem Value).run P w = .ok (.bool (if neg then !r else r)) w := by
  cases neg <;> simp only [Bool.false_eq_true, if_false, if_true] at hg ⊢
  · rw [Sem.run_bind, hg]
    simp only [Result.andThen]
    rw [h1]
    simp [h, Result.andThen]
  · rw [Sem.run_bind, hg]
    simp only [Result.andThen]
    rw [h2]
    simp [h, Result.andThen]

theorem equalIn_bool (d : Nat) {t : TypeId} (hb : P.underlying t = some .bool) (a b : Bool) (w : World) : (Op.equalIn (d + 1) t (.bool a) (.bool b)).run P w = .ok (a == b) w := by
  simp only [Op.equalIn, Sem.run_bind, run_underlying hb, Result.andThen, Sem.run_pure]

theorem bop_run (neg : Bool) {t : TypeId} (x y : Operand) (hb : P.underlying t = some .bool) {a b : Bool} {ca cb : Value} (ha : κ.V E cf (.bool a) ca) (hb' : κ.V E cf (.bool b) cb) (hR : κ.R E cf) :
    GV P E cf κ (do eqGuard (if neg then .neq else .eql) t x y ca cb; binOp (if neg then .neq else .eql) t ca cb) (.bool (if neg then !(a == b) else a == b)) κ.σ := by
  have := V_bool ha; subst this
  have := V_bool hb'; subst this
  refine GV.pure hR (cv := .bool (if neg then !(a == b) else a == b)) (fun w _ => ?_) (.bool _ _)
  refine binOp_eq neg ?_ ?_ ?_ (equal_of (equalIn_bool 9999 hb a b w))
  · cases neg <;> simp [eqGuard]
  · simp only [binOp]
  · simp only [binOp]

/-! structs of numbers, strings, bools -/
mutual
/-- all that is compared are the cells, one behind the other: of which kinds they are -/
def flatT (P : Program) : Nat → TypeId → Option (List EK)
  | 0, _ => none
  | d + 1, t => match P.underlying t with
    | some (.int _) => some [.i]
    | some .string => some [.s]
    | some .bool => some [.b]
    | some (.struct fs) => if P.stoodInHeld t then none else flatFs P d fs.toList 0
    | _ => none
def flatFs (P : Program) : Nat → List Field → Nat → Option (List EK)
  | 0, _, _ => none
  | _ + 1, [], _ => some []
  | d + 1, f :: fs, off => if f.offset = off ∧ f.name ≠ "_" then
      match flatT P d f.type with
      | some ks => if sizeT P f.type = some ks.length then (flatFs P d fs (off + ks.length)).map (ks ++ ·) else none
      | none => none
    else none
end

/-- two cells of a kind, and whether they are the same -/
inductive CE : EK → Value → Value → Bool → Prop
  | i (k : IntKind) (a b : Int) : CE .i (.int k a) (.int k b) (a == b)
  | s (a b : ByteArray) : CE .s (.string a) (.string b) (a.toList == b.toList)
  | b (a b : Bool) : CE .b (.bool a) (.bool b) (a == b)
inductive CEs : List EK → List Value → List Value → Bool → Prop
  | nil : CEs [] [] [] true
  | cons (k : EK) (a b : Value) (r : Bool) (ks : List EK) (as bs : List Value) (rs : Bool) : CE k a b r → CEs ks as bs rs → CEs (k :: ks) (a :: as) (b :: bs) (r && rs)

theorem CEs_append {ks ks' : List EK} : ∀ {as bs : List Value} {r : Bool}, CEs (ks ++ ks') as bs r → ∃ r1 r2, CEs ks (as.take ks.length) (bs.take ks.length) r1 ∧ CEs ks' (as.drop ks.length) (bs.drop ks.length) r2 ∧ r = (r1 && r2) := by
  induction ks with
  | nil => intro as bs r h; exact ⟨true, r, by simpa using CEs.nil, by simpa using h, by simp⟩
  | cons k ks ih =>
    intro as bs r h
    cases h with
    | cons _ a b r _ as bs rs h1 h2 =>
      obtain ⟨r1, r2, g1, g2, rfl⟩ := ih h2
      exact ⟨r && r1, r2, .cons _ _ _ _ _ _ _ _ h1 g1, g2, by simp [Bool.and_assoc]⟩

theorem CEs_len {ks : List EK} : ∀ {as bs : List Value} {r : Bool}, CEs ks as bs r → as.length = ks.length ∧ bs.length = ks.length := by
  induction ks with
  | nil => intro as bs r h; cases h; exact ⟨rfl, rfl⟩
  | cons k ks ih => intro as bs r h; cases h with | cons _ a b r _ as bs rs h1 h2 => have := ih h2; simp [this]

/-- a value of so many cells, in the form that its type asks for -/
def formed (P : Program) (t : TypeId) (cs : List Value) (v : Value) : Prop :=
  match P.underlying t with
  | some (.struct _) => v = .agg cs.toArray
  | _ => [v] = cs

theorem part_formed {t : TypeId} {n : Nat} {xs : List Value} {off : Nat} {ks : List EK} {d : Nat} (hk : flatT P d t = some ks) (hs : sizeT P t = some ks.length) (hlt : off + ks.length ≤ xs.length) (w : World) :
    ∃ v, (part t xs.toArray off).run P w = .ok v w ∧ formed P t ((xs.drop off).take ks.length) v := by
  obtain ⟨i, hi, hin⟩ := sizeT_eq hs
  cases d with
  | zero => simp [flatT] at hk
  | succ d =>
    unfold flatT at hk
    unfold formed
    split at hk
    · rename_i k hu
      simp at hk; subst hk
      have : off < xs.length := by simp at hlt; omega
      refine ⟨xs[off], ?_, ?_⟩
      · simp [part, isAgg, run_underlying hu, Result.andThen, this]
      · simp only [hu]; show [xs[off]] = List.take 1 (xs.drop off); rw [List.drop_eq_getElem_cons this]; rfl
    · rename_i hu
      simp at hk; subst hk
      have : off < xs.length := by simp at hlt; omega
      refine ⟨xs[off], ?_, ?_⟩
      · simp [part, isAgg, run_underlying hu, Result.andThen, this]
      · simp only [hu]; show [xs[off]] = List.take 1 (xs.drop off); rw [List.drop_eq_getElem_cons this]; rfl
    · rename_i hu
      simp at hk; subst hk
      have : off < xs.length := by simp at hlt; omega
      refine ⟨xs[off], ?_, ?_⟩
      · simp [part, isAgg, run_underlying hu, Result.andThen, this]
      · simp only [hu]; show [xs[off]] = List.take 1 (xs.drop off); rw [List.drop_eq_getElem_cons this]; rfl
    · rename_i fs hu
      refine ⟨.agg ((xs.drop off).take ks.length).toArray, ?_, by simp only [hu]⟩
      simp only [part, isAgg, Sem.run_bind, run_underlying hu, Result.andThen, if_true, sz_of hi, hin, Sem.run_pure]
      simp
    · simp at hk

mutual
theorem equalIn_flat : ∀ (d : Nat) {t : TypeId} {ks : List EK}, flatT P d t = some ks → ∀ (D : Nat), d ≤ D → ∀ {as bs : List Value} {a b : Value} {r : Bool} (w : World), CEs ks as bs r → formed P t as a → formed P t bs b →
    (Op.equalIn D t a b).run P w = .ok r w
  | 0, _, _, h, _, _, _, _, _, _, _, _, _, _, _ => by simp [flatT] at h
  | d + 1, t, ks, h, 0, hD, _, _, _, _, _, _, _, _, _ => by omega
  | d + 1, t, ks, h, D + 1, hD, as, bs, a, b, r, w, hc, ha, hb => by
    unfold flatT at h
    unfold formed at ha hb
    split at h
    · rename_i k hu
      simp at h; subst h
      simp only [hu] at ha hb
      subst ha; subst hb
      cases hc with | cons _ _ _ r _ _ _ rs h1 h2 => cases h2; cases h1; rw [run_equalIn_int (P := P) w D t _ _ _ _ hu]; simp
    · rename_i hu
      simp at h; subst h
      simp only [hu] at ha hb
      subst ha; subst hb
      cases hc with | cons _ _ _ r _ _ _ rs h1 h2 => cases h2; cases h1; rw [run_equalIn_string (P := P) w D t _ _ hu]; simp
    · rename_i hu
      simp at h; subst h
      simp only [hu] at ha hb
      subst ha; subst hb
      cases hc with | cons _ _ _ r _ _ _ rs h1 h2 => cases h2; cases h1; rw [equalIn_bool D hu]; simp
    · rename_i fs hu
      simp only [hu] at ha hb
      subst ha; subst hb
      split at h
      · simp at h
      · rename_i hst
        have hf : P.fieldsOf t = fs := by simp [Program.fieldsOf, hu]
        rw [run_equalIn_struct (P := P) w D t _ _ (by rw [hf]; exact hu) (by simpa using hst), hf]
        have hl := CEs_len hc
        exact eqFields_flat d h D (by omega) (as := as) (bs := bs) w (by simpa using hc) (by omega) (by omega)
    · simp at h
theorem eqFields_flat : ∀ (d : Nat) {fs : List Field} {off : Nat} {ks : List EK}, flatFs P d fs off = some ks → ∀ (D : Nat), d ≤ D → ∀ {as bs : List Value} {r : Bool} (w : World), CEs ks (as.drop off) (bs.drop off) r →
    off + ks.length ≤ as.length → off + ks.length ≤ bs.length → (Op.eqFields D as.toArray bs.toArray fs).run P w = .ok r w
  | 0, _, _, _, h, _, _, _, _, _, _, _, _, _ => by simp [flatFs] at h
  | d + 1, [], off, ks, h, D, _, as, bs, r, w, hc, _, _ => by
    simp [flatFs] at h; subst h
    generalize List.drop off as = as' at hc
    generalize List.drop off bs = bs' at hc
    cases hc; simp [Op.eqFields]
  | d + 1, f :: fs, off, ks, h, D, hD, as, bs, r, w, hc, h1, h2 => by
    unfold flatFs at h
    split at h
    · rename_i hf
      obtain ⟨ho, hn⟩ := hf
      split at h
      · rename_i ks1 hk1
        split at h
        · rename_i hsz
          cases hk2 : flatFs P d fs (off + ks1.length) with
          | none => simp [hk2] at h
          | some ks2 =>
            simp [hk2] at h; subst h
            obtain ⟨r1, r2, g1, g2, rfl⟩ := CEs_append hc
            simp only [List.length_append] at h1 h2
            obtain ⟨va, hva, fa⟩ := part_formed (n := 0) (xs := as) (off := off) hk1 hsz (by omega) w
            obtain ⟨vb, hvb, fb⟩ := part_formed (n := 0) (xs := bs) (off := off) hk1 hsz (by omega) w
            have e1 := equalIn_flat d hk1 D (by omega) w g1 fa fb
            simp only [List.drop_drop] at g2
            have e2 := eqFields_flat d hk2 D (by omega) (as := as) (bs := bs) w g2 (by omega) (by omega)
            rw [Op.eqFields, if_pos hn]
            subst ho
            simp only [Sem.run_bind, hva, hvb, e1, Result.andThen]
            cases r1
            · simp
            · simpa using e2
        · simp at h
      · simp at h
    · simp at h
end

theorem CE_of {hp : Array Obj} {S : Nat → Nat → Prop} {I : Ids} {k : EK} {a b : AVal} {ca cb : Value} {r : Bool} (ha : VRel cf hp S I a ca) (hb : VRel cf hp S I b cb) (h : cellEq k a b = some r) : CE k ca cb r := by
  unfold cellEq at h
  split at h
  · have e1 := V_int ha; have e2 := V_int hb
    subst e1; subst e2
    split at h
    · rename_i hk; subst hk; simp at h; subst h; exact .i _ _ _
    · simp at h
  · obtain ⟨s, rfl, rfl⟩ := V_str ha
    obtain ⟨s', rfl, rfl⟩ := V_str hb
    injection h with h
    rw [← h, ← ByteArray.toList_eq, ← ByteArray.toList_eq]
    exact .s _ _
  · have e1 := V_bool ha; have e2 := V_bool hb
    subst e1; subst e2
    simp at h; subst h
    exact .b _ _
  · simp at h

theorem CEs_of {hp : Array Obj} {S : Nat → Nat → Prop} {I : Ids} : ∀ {ks : List EK} {as bs : List AVal} {cas cbs : List Value} {r : Bool}, VRelL cf hp S I as cas → VRelL cf hp S I bs cbs → cellsEq ks as bs = some r → CEs ks cas cbs r
  | [], [], [], _, _, r, .nil _, .nil _, h => by simp at h; subst h; exact .nil
  | k :: ks, a :: as, b :: bs, _, _, r, .cons _ _ _ _ _ ha has, .cons _ _ _ _ _ hb hbs, h => by
    unfold cellsEq at h
    split at h
    · rename_i x y hx hy
      simp at h; subst h
      exact .cons _ _ _ _ _ _ _ _ (CE_of ha hb hx) (CEs_of has hbs hy)
    · simp at h
  | [], [], _ :: _, _, _, _, _, _, h => by simp at h
  | [], _ :: _, _, _, _, _, _, _, h => by simp at h
  | _ :: _, [], _, _, _, _, _, _, h => by simp at h
  | _ :: _, _ :: _, [], _, _, _, _, _, h => by simp at h

def isStructT (P : Program) (t : TypeId) : Bool := match P.underlying t with | some (.struct _) => true | _ => false

theorem eqs_run (neg : Bool) {t : TypeId} (x y : Operand) {ks : List EK} {d : Nat} (hd : d ≤ 10000) (hk : flatT P d t = some ks) (hst : isStructT P t = true) (hg : P.eqGuardType P.depth t = false) {a b : AVal} {ca cb : Value} {r : Bool}
    (ha : κ.V E cf a ca) (hb : κ.V E cf b cb) (h : eqsV ks a b = some r) (hR : κ.R E cf) :
    GV P E cf κ (do eqGuard (if neg then .neq else .eql) t x y ca cb; binOp (if neg then .neq else .eql) t ca cb) (.bool (if neg then !r else r)) κ.σ := by
  unfold eqsV at h
  split at h
  · rename_i as bs
    obtain ⟨us, rfl, hl, _⟩ := V_agg ha
    obtain ⟨vs, rfl, hl', _⟩ := V_agg hb
    refine GV.pure hR (cv := .bool (if neg then !r else r)) (fun w _ => ?_) (.bool _ _)
    refine binOp_eq neg ?_ ?_ ?_ ?_
    · exact run_eqGuard_agg w _ t x y _ _ hg
    · simp only [binOp]
    · simp only [binOp]
    · have hform : ∀ us : List Value, formed P t us (.agg us.toArray) := by
        intro us
        unfold isStructT at hst
        unfold formed
        split at hst <;> simp_all
      exact equalIn_flat d hk 10000 hd w (CEs_of hl hl' h) (hform _) (hform _)
  · simp at h

end
end Go.Proofs.Ytmocplkpnickgaa.Am
