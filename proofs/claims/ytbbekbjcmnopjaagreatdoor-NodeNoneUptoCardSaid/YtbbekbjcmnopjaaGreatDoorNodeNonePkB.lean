/-
  The abstract machine and the functions of the law, 2: texts put together.
-/
import Derived.Test.YtbbekbjcmnopjaaGreatDoorNodeNonePkA
import Derived.Maps.RangeRun
import Derived.Orders
import Derived.WalkKit
import Derived.ProofKit
import Derived.OpenShut
import Derived.JoinedCond
import Derived.ChangeStays
import Derived.ChangeBook
import Derived.ChangeSlices
import Derived.ChangeArms
set_option linter.unusedVariables false
set_option linter.unusedSimpArgs false
set_option linter.unusedSectionVars false
set_option maxRecDepth 100000
namespace Go.Proofs.YtbbekbjcmnopjaaGreatDoor.Am
open Go
def placesT (P : Program) (fs : List Field) : Option (List (Nat × Nat)) :=
 match fs with
 | [] => some []
 | f :: r => match sizeT P f.type,placesT P r with
  | some n,some l => some ((f.offset,n) :: l)
  | _,_ => none
theorem places_list {P : Program} (w : World) : ∀ {fs : List Field} {l : List (Nat × Nat)},placesT P fs = some l → (fs.mapM fun f => do pure (f.offset,← sizeOf f.type) : Sem (List (Nat × Nat))).run P w = .ok l w
 | [],l,h => by simp [placesT] at h; subst h; simp
 | f :: r,l,h => by
  unfold placesT at h
  split at h
  ·rename_i n l' h1 h2
   injection h with h
   subst h
   obtain ⟨i,hi,hsz⟩ := sizeT_eq h1
   have ih := places_list w h2
   simp only [bind_pure_comp] at ih
   simp [List.mapM_cons,sz_of hi,hsz,Result.andThen,ih]
  ·simp at h
theorem places_run {P : Program} {fs : Array Field} {l : List (Nat × Nat)} (h : placesT P fs.toList = some l) (w : World) : (fs.mapM fun f => do pure (f.offset,← sizeOf f.type) : Sem (Array (Nat × Nat))).run P w = .ok l.toArray w := by
 have := places_list (P := P) w h
 rw [Array.mapM_eq_mapM_toList]
 simp only [bind_pure_comp] at this ⊢
 simp [this,Result.andThen]
def structFs (P : Program) (t : TypeId) : Option (List Field) := match P.underlying t with | some (.struct fs) => some fs.toList | _ => none
theorem structFs_eq {P : Program} {t : TypeId} {fs : List Field} (h : structFs P t = some fs) : P.underlying t = some (.struct fs.toArray) := by
 unfold structFs at h; split at h <;> simp_all; subst h; simp
def chkParts (cfg : Cfg) (pl : List (Nat × Nat)) : List (Nat × Nat × Opnd) → List (Nat × Operand) → Bool
 | [],[] => true
 | (off,n,x) :: r,(i,y) :: q => pl[i]? == some (off,n) && chkX cfg x y && chkParts cfg pl r q
 | _,_ => false
def chkPartsA (cfg : Cfg) (sz : Nat) : List (Nat × Nat × Opnd) → List (Nat × Operand) → Bool
 | [],[] => true
 | (off,n,x) :: r,(i,y) :: q => off == i * sz && n == sz && chkX cfg x y && chkPartsA cfg sz r q
 | _,_ => false
def chkPartsE (cfg : Cfg) : List (Nat × Opnd) → List (Nat × Operand) → Bool
 | [],[] => true
 | (i,x) :: r,(j,y) :: q => i == j && chkX cfg x y && chkPartsE cfg r q
 | _,_ => false
def eqOp : Bool → BinOp → Bool
 | true,.neq => true
 | false,.eql => true
 | _,_ => false
theorem eqOp_eq {neg : Bool} {op : BinOp} (h : eqOp neg op = true) : op = (if neg then .neq else .eql) := by
 cases neg <;> cases op <;> simp_all [eqOp]
def constOf : Operand → Option Value
 | .const v => some v
 | _ => none
def chkZ (P : Program) (e : TypeId) (sz : Nat) (z : List AVal) (agg : Bool) : Bool :=
 (match zeroT P e with | some zc => chkCs z zc | none => false) && z.all AVal.one && z.length == sz && (agg || sz == 1) && sizeT P e == some sz && decide (0 < sz)
theorem chkZ_ok {P : Program} {e : TypeId} {sz : Nat} {z : List AVal} {agg : Bool} (h : chkZ P e sz z agg = true) :
  ∃ zc,zeroT P e = some zc ∧ chkCs z zc = true ∧ z.all AVal.one = true ∧ z.length = sz ∧ (agg = false → sz = 1) ∧ sizeT P e = some sz ∧ 0 < sz := by
 unfold chkZ at h
 simp only [Bool.and_eq_true] at h
 obtain ⟨⟨⟨⟨⟨h1,h2⟩,h3⟩,h4⟩,h5⟩,h6⟩ := h
 cases hz : zeroT P e with
 | none => simp [hz] at h1
 | some zc =>
  simp only [hz] at h1
  refine ⟨zc,rfl,h1,h2,by simpa using h3,fun ha => ?_,by simpa using h5,by simpa using h6⟩
  subst ha
  simpa using h4
def chkMapKey (P : Program) (kt : TypeId) (agg : Bool) (q : List EK) : Bool := flatT P 40 kt == some q && isStructT P kt == agg
theorem chkMapKey_ok {P : Program} {kt : TypeId} {agg : Bool} {q : List EK} (h : chkMapKey P kt agg q = true) : KeyT P kt agg q := by
 unfold chkMapKey at h
 simp only [Bool.and_eq_true,beq_iff_eq] at h
 exact ⟨⟨40,by decide,h.1⟩,h.2⟩
def biN (b : Builtin) (o : Op) : Option (List Operand × List TypeId) :=
 match o with
 | .call c => (match c.callee with
  | .builtin b' => if b = b' then some (c.args.toList,c.argTypes.toList) else none
  | _ => none)
 | _ => none
def bi1 (b : Builtin) (o : Op) : Option (Operand × TypeId) :=
 match biN b o with
 | some ([y],[t]) => some (y,t)
 | _ => none
def bi2 (b : Builtin) (o : Op) : Option (Operand × Operand × TypeId × TypeId) :=
 match biN b o with
 | some ([x,y],[t,u]) => some (x,y,t,u)
 | _ => none
theorem biN_eq {b : Builtin} {o : Op} {l : List Operand} {ts : List TypeId} (h : biN b o = some (l,ts)) : ∃ c,o = .call c ∧ c.callee = .builtin b ∧ c.args = l.toArray ∧ c.argTypes = ts.toArray := by
 unfold biN at h
 split at h
 ·rename_i c
  split at h
  ·rename_i b' hb
   split at h
   ·rename_i he
    subst he
    simp at h
    exact ⟨c,rfl,hb,by rw [← h.1],by rw [← h.2]⟩
   ·simp at h
  ·simp at h
 ·simp at h
theorem bi1_eq {b : Builtin} {o : Op} {y : Operand} {t : TypeId} (h : bi1 b o = some (y,t)) : ∃ c,o = .call c ∧ c.callee = .builtin b ∧ c.args = #[y] ∧ c.argTypes = #[t] := by
 unfold bi1 at h
 split at h
 ·rename_i h1
  simp at h
  obtain ⟨rfl,rfl⟩ := h
  exact biN_eq h1
 ·simp at h
theorem bi2_eq {b : Builtin} {o : Op} {x y : Operand} {t u : TypeId} (h : bi2 b o = some (x,y,t,u)) : ∃ c,o = .call c ∧ c.callee = .builtin b ∧ c.args = #[x,y] ∧ c.argTypes = #[t,u] := by
 unfold bi2 at h
 split at h
 ·rename_i h1
  simp at h
  obtain ⟨rfl,rfl,rfl,rfl⟩ := h
  exact biN_eq h1
 ·simp at h
def chkOp (cfg : Cfg) (P : Program) (ao : AOp) (o : Op) : Bool :=
  match ao with
  | .move x => (match o with
    | .move y => chkX cfg x y
    | .assign y => chkX cfg x y
    | _ => false)
  | .pick c a b => (match o with
    | .pick c' a' b' => chkX cfg c c' && chkX cfg a a' && chkX cfg b b'
    | _ => false)
  | .alloc z => (match o with
    | .alloc t => (match zeroT P t with | some zc => chkCs z zc | none => false) && z.all AVal.one
    | _ => false)
  | .box x => (match o with
    | .box _ y => chkX cfg x y
    | _ => false)
  | .build z parts => (match o with
    | .build t ps => (match zeroT P t with | some zc => chkCs z zc | none => false) && z.all AVal.one &&
          ((match structFs P t with | some fs => (match placesT P fs with | some pl => chkParts cfg pl parts ps.toList | none => false) | none => false) ||
           (match arrayE P t with | some (_, e) => (match sizeT P e with | some sz => chkPartsA cfg sz parts ps.toList | none => false) | none => false))
    | _ => false)
  | .lit sz z agg n parts => (match o with
    | .buildSlice t len ps => (match sliceE P t with | some e => chkZ P e sz z agg && (zel z agg).pure | none => false) && n == len && decide (n * sz ≤ 2 ^ 24) && chkPartsE cfg parts ps.toList
    | _ => false)
  | .litA sz z agg n parts => (match o with
    | .buildSlice t len ps => (match sliceE P t with | some e => chkZ P e sz z agg | none => false) && n == len && decide (n * sz ≤ 2 ^ 24) && chkPartsE cfg parts ps.toList
    | _ => false)
  | .load n agg a => (match o with
    | .load t a' => sizeT P t == some n && aggT P t == some agg && chkX cfg a a'
    | _ => false)
  | .store n a v => (match o with
    | .store t a' v' => sizeT P t == some n && chkX cfg a a' && chkX cfg v v'
    | _ => false)
  | .nilCheck x => (match o with
    | .nilCheck y => chkX cfg x y
    | _ => false)
  | .iop op x y => (match o with
    | .binOp op' _ x' y' _ => decide (op = op') && chkX cfg x x' && chkX cfg y y'
    | _ => false)
  | .sop op x y => (match o with
    | .binOp op' _ x' y' _ => decide (op = op') && chkX cfg x x' && chkX cfg y y'
    | _ => false)
  | .bop neg x y => (match o with
    | .binOp op t x' y' _ => eqOp neg op && isBoolT P t && chkX cfg x x' && chkX cfg y y'
    | _ => false)
  | .eqs neg ks x y => (match o with
    | .binOp op t x' y' _ => eqOp neg op && flatT P 40 t == some ks && isStructT P t && !(P.eqGuardType P.depth t) && chkX cfg x x' && chkX cfg y y'
    | _ => false)
  | .eqnil neg k x => (match o with
    | .binOp op t x' y' _ => eqOp neg op &&
          ((match constOf y' with | some v => nilMatch P t k v && chkX cfg x x' | none => false) || (match constOf x' with | some v => nilMatch P t k v && chkX cfg x y' | none => false))
    | _ => false)
  | .not x => (match o with
    | .unOp .not _ y => chkX cfg x y
    | _ => false)
  | .neg x => (match o with
    | .unOp .neg _ y => chkX cfg x y
    | _ => false)
  | .convI k x => (match o with
    | .convert src dst y => (intT P src).isSome && intT P dst == some k && chkX cfg x y
    | _ => false)
  | .sliceOp sz x lo hi mx => (match o with
    | .slice t x' lo' hi' mx' => (match sliceE P t with | some e => sizeT P e == some sz | none => false) && chkX cfg x x' && chkXO cfg lo lo' && chkXO cfg hi hi' && chkXO cfg mx mx' && (mx.isNone || hi.isSome)
    | _ => false)
  | .gslice n sz x => (match o with
    | .slice t x' none none none => (match arrayE P t with | some (m, e) => m == n && sizeT P e == some sz && decide (0 < sz) && chkX cfg x x' | none => false)
    | _ => false)
  | .substr x lo hi => (match o with
    | .slice t x' lo' hi' none => isStrT P t && chkX cfg x x' && chkXO cfg lo lo' && chkXO cfg hi hi'
    | _ => false)
  | .faddr off x => (match o with
    | .fieldAddr t y i => (match fieldT P t i with | some (o, ft) => o == off && (match sizeT P ft with | some n => n != 0 | none => false) | none => false) && chkX cfg x y
    | _ => false)
  | .field off n agg x => (match o with
    | .field t y i => (match fieldT P t i with | some (o, ft) => o == off && sizeT P ft == some n && aggT P ft == some agg | none => false) && chkX cfg x y
    | _ => false)
  | .iaddr sz x i => (match o with
    | .indexAddr t x' i' => (match sliceE P t with | some e => sizeT P e == some sz | none => false) && decide (0 < sz) && chkX cfg x x' && chkX cfg i i'
    | _ => false)
  | .aaddr len sz x i => (match o with
    | .indexAddr t x' i' => (match arrayE P t with | some (n, e) => n == len && sizeT P e == some sz | none => false) && chkX cfg x x' && chkX cfg i i'
    | _ => false)
  | .strIdx x i => (match o with
    | .index t x' i' => isStrT P t && chkX cfg x x' && chkX cfg i i'
    | _ => false)
  | .arrIdx len sz agg x i => (match o with
    | .index t x' i' => (match arrayE P t with | some (n, e) => n == len && sizeT P e == some sz && aggT P e == some agg | none => false) && chkX cfg x x' && chkX cfg i i'
    | _ => false)
  | .lenS x => (match bi1 .len o with
    | some (y, t) => (sliceE P t).isSome && chkX cfg x y
    | _ => false)
  | .lenStr x => (match bi1 .len o with
    | some (y, t) => isStrT P t && chkX cfg x y
    | _ => false)
  | .lenM x => (match bi1 .len o with
    | some (y, t) => (mapE P t).isSome && chkX cfg x y
    | _ => false)
  | .lenA n => (match bi1 .len o with
    | some (_, t) => (match arrayE P t with | some (m, _) => m == n | none => false)
    | _ => false)
  | .capS x => (match bi1 .cap o with
    | some (y, t) => (sliceE P t).isSome && chkX cfg x y
    | _ => false)
  | .minI xs => (match biN .min o with
    | some (ys, _) => chkXs cfg xs ys
    | _ => false)
  | .maxI xs => (match biN .max o with
    | some (ys, _) => chkXs cfg xs ys
    | _ => false)
  | .append sz bytes x y => (match bi2 .append o with
    | some (x', y', t, t2) => (match sliceE P t with
          | some e => sizeT P e == some sz && bytesT P e == some bytes && (match zeroT P e with | some zc => zc.length == sz | none => false)
          | none => false) && (sliceE P t2).isSome && decide (0 < sz) && decide (0 < bytes) && decide (bytes ≤ 1048576) && chkX cfg x x' && chkX cfg y y'
    | _ => false)
  | .appendz sz bytes z agg x y => (match bi2 .append o with
    | some (x', y', t, t2) => (match sliceE P t with | some e => chkZ P e sz z agg && bytesT P e == some bytes | none => false) && (intT P t2).isSome && decide (0 < bytes) && decide (bytes ≤ 1048576) && chkX cfg x x' && chkX cfg y y'
    | _ => false)
  | .mkslice sz bytes z agg l c => (match o with
    | .makeSlice t l' c' => (match sliceE P t with | some e => chkZ P e sz z agg && bytesT P e == some bytes | none => false) && decide (0 < bytes) && chkX cfg l l' && chkX cfg c c'
    | _ => false)
  | .extract x i => (match o with
    | .extract y j => i == j && chkX cfg x y
    | _ => false)
  | .mkfunc f first caps => (match o with
    | .makeFunc (.func g) first' caps' => cfg.conc f == g && chkXs cfg first first'.toList && chkXs cfg caps caps'.toList
    | _ => false)
  | .mkmap => (match o with
    | .makeMap _ none => true
    | _ => false)
  | .lookup agg q z x k ok => (match o with
    | .lookup t x' k' ok' => (match mapE P t with | some (kt, et) => chkMapKey P kt agg q && (match (P.info? et).bind (·.zero) with | some zv => chkC z zv | none => false) | none => false) && ok == ok' && chkX cfg x x' && chkX cfg k k'
    | _ => false)
  | .mapset agg q m k v => (match o with
    | .mapUpdate t m' k' v' => (match mapE P t with | some (kt, _) => chkMapKey P kt agg q | none => false) && chkX cfg m m' && chkX cfg k k' && chkX cfg v v'
    | .insert t m' k' v' => (match mapE P t with | some (kt, _) => chkMapKey P kt agg q | none => false) && chkX cfg m m' && chkX cfg k k' && chkX cfg v v'
    | _ => false)
  | .mapdel agg q m k => (match bi2 .delete o with
    | some (m', k', t, t2) => (match mapE P t with | some (kt, _) => chkMapKey P kt agg q | none => false) && chkX cfg m m' && chkX cfg k k'
    | _ => false)
  | .clr sz z agg x => (match bi1 .clear o with
    | some (y, t) => (match sliceE P t with | some e => chkZ P e sz z agg | none => false) && chkX cfg x y
    | _ => false)
  | .rangeM x => (match o with
    | .range t y => (mapE P t).isSome && chkX cfg x y
    | _ => false)
  | .nextM x => (match o with
    | .next y false => chkX cfg x y
    | _ => false)
  | .fail => true
  | .mkiface t x => (match o with
    | .makeInterface t' y => t == t' && notIfaceT P t && chkX cfg x y
    | _ => false)
  | _ => false
section
variable {P : Program} {E : Env} {cf : FuncId → FuncId} {κ : K}
theorem clr_run {t ty e : TypeId} {sz : Nat} {agg : Bool} {z : List AVal} {zc : List Value} (ht : P.underlying t = some (.slice e)) (h0 : 0 < sz) (hz : zeroT P e = some zc) (hzc : chkCs z zc = true) (hz1 : z.all AVal.one = true) (hzl : z.length = sz) (ha : agg = false → sz = 1)
  {x : AVal} {cx : Value} (hx : κ.V E cf x cx) {σ' : Store} (h : clrV κ.σ sz z agg x = some σ') (hR : κ.R E cf) : GV P E cf κ (Builtin.clear_ #[t] ty #[cx]) (.tuple []) σ' := by
 have hV : ∀ κ' : K,κ'.V E cf (.tuple []) (.tuple #[]) := fun κ' => .tuple _ [] [] (.nil _)
 unfold clrV at h
 split at h
 ·cases hx
  injection h with h
  subst h
  exact GV.pure hR (cv := .tuple #[]) (fun w _ => by simp [Builtin.clear_,run_underlying ht,Result.andThen]) (hV _)
 ·rename_i s id ep off len cap
  cases hx with
  | slice _ _ _ _ _ _ _ b o cap' hp =>
  split at h
  ·rename_i hl0
   injection h with h
   subst h
   subst hl0
   exact GV.pure hR (cv := .tuple #[]) (fun w _ => by simp [Builtin.clear_,run_underlying ht,Result.andThen]) (hV _)
  ·rename_i hl0
   split at h
   ·rename_i s2 es ep' fl hid
    split at h
    ·rename_i hc
     obtain ⟨e1,e2,e3,hfit⟩ := hc
     subst e1; subst e2; subst e3
     injection h with h
     subst h
     obtain ⟨⟨hlc,hpd⟩,-,-,es0,epo,fl',hid',hep,hat⟩ := hp
     rw [hid] at hid'
     cases hid'
     obtain ⟨q1,q2,q3,vs,e0,us,rest,hb,hvs,hl⟩ := hR.obj id _ hid hpd
     obtain ⟨-,hAt,hwhole⟩ := hat q1
     have hone : b = κ.loc id ∧ o = off * s2 := by
      rcases hAt with ⟨e1,e2 | e2⟩ | ⟨e1,_⟩
      ·exact ⟨e1,e2⟩
      ·omega
      ·omega
     obtain ⟨rfl,rfl⟩ := hone
     obtain ⟨i,zv,hi,hzv,hzc'⟩ := zeroT_eq hz
     have hzs : zv.cells.size = s2 := by rw [← Array.length_toList,hzc',← hzl]; exact (VL_len (chkCs_ok (cf := cf) (hp := κ.h) (S := κ.safe E) (I := κ.ids) _ _ hzc)).symm
     have hcells := zel_cells hzl hz1 ha
     have hul : us.length = es.length * s2 := by rw [← VL_len hl,flat_length q3]
     have hcl : vs.size = us.length + rest.length := by rw [← Array.length_toList,hvs,List.length_append]
     have hm1 : off * s2 + len * s2 ≤ es.length * s2 := by rw [← Nat.add_mul]; exact Nat.mul_le_mul_right _ hfit
     have hnl : (Builtin.zeroCells zv.cells len).toList.length = len * s2 := by simp [Builtin.zeroCells,hzs]
     have hzVL : VRelL cf κ.h (κ.safe E) κ.ids ((List.replicate len z).flatten) (Builtin.zeroCells zv.cells len).toList := by
      have := zeros_VL (cf := cf) (hp := κ.h) (S := κ.safe E) (I := κ.ids) (z := z) (zc := zv.cells) (sz := s2) (n := len) (by rw [hzc']; exact hzc) hzl h0
      simp only [Builtin.zeroCells,hzs]
      simp only [hzs] at this
      exact this
     generalize hnew : (Builtin.zeroCells zv.cells len).toList = new at hnl hzVL
     have hone : ∀ v ∈ new,v.oneCell' = true := VL_oneCell hzVL (fun c hc => by
      obtain ⟨y,hy,hcy⟩ := List.mem_flatten.1 hc
      rw [List.eq_of_mem_replicate hy] at hcy
      exact allOne_of hz1 c hcy)
     intro w hw
     have hb' : w.heap[κ.loc id]? = some (.cells vs e0 (0,0)) := by rw [hw]; exact hb
     obtain ⟨w',cells',g1,g2,g3,gS⟩ := storeCells_run (P := P) new 0 w (κ.loc id) (off * s2) vs e0 hb' hone (by omega)
     have hsize : cells'.size = vs.size := by rw [← Array.length_toList,g3]; simp; omega
     have hc' : cells'.toList = (us.take (off * s2) ++ (new ++ us.drop (off * s2 + len * s2))) ++ rest := by
      rw [g3,hvs,hnl]
      simp only [Nat.add_zero]
      rw [List.take_append_of_le_length (by omega),List.drop_append_of_le_length (by omega)]
      simp only [List.append_assoc]
     have hlen' : (es.take off ++ (List.replicate len (zel z agg) ++ es.drop (off + len))).length = es.length := by simp; omega
     have hle : κ.Le (κ.upd id (.cells cells' e0 (0,0)) (.arr s2 (es.take off ++ (List.replicate len (zel z agg) ++ es.drop (off + len))) ep' ep')) := by
      refine K.upd_le hR id _ _ _ hid hpd ⟨_,ep',ep',K.upd_σ id _ _ _ hid,Nat.le_refl _,q1,by rw [hlen']; exact Nat.le_refl _,fun _ => ⟨rfl,by rw [hlen'],fun vs2 e2 f2 hv2 => ?_⟩,fun _ h => by omega,fun h => by omega⟩
      rw [K.upd_at hR id _ _ _ hid hpd] at hv2
      cases hv2
      exact ⟨vs,e0,(0,0),hb,hsize⟩
     have hat' := K.upd_at hR id (.cells cells' e0 (0,0)) (.arr s2 (es.take off ++ (List.replicate len (zel z agg) ++ es.drop (off + len))) ep' ep') _ hid hpd
     refine ⟨.tuple #[],w',_,?_,⟨by rw [g2,hw]; rfl,gS⟩,rfl,hle,K.upd_R hR id _ _ _ hid hpd hle ⟨Nat.le_refl _,q2,?_,cells',e0,_,rest,hat',hc',?_⟩,hV _⟩
     ·simp [Builtin.clear_,run_underlying ht,Result.andThen,zeroValue,typeInfo,hi,hzv,hl0,hnew,g1]
     ·refine elemsOk_append (elemsOk_take q3) (elemsOk_append (fun y hy => ?_) (elemsOk_drop q3))
      rw [List.eq_of_mem_replicate hy,hcells]
      exact ⟨hzl,allOne_of hz1⟩
     ·rw [List.flatMap_append,List.flatMap_append]
      refine VL_append ?_ (VL_append ?_ ?_)
      ·rw [flat_take q3]; exact VL_take _ (K.VL.le hR.lb hle hl)
      ·rw [flat_replicate,hcells]; exact K.VL.le hR.lb hle hzVL
      ·rw [flat_drop q3,Nat.add_mul]; exact VL_drop _ (K.VL.le hR.lb hle hl)
    ·cases h
   ·cases h
 ·cases h
end
section
variable {P : Program} {E : Env} {cf : FuncId → FuncId} {κ : K}
theorem rangeM_run {t kt et : TypeId} (ht : P.underlying t = some (.map kt et)) {x v : AVal} {cx : Value} (hx : κ.V E cf x cx) (h : rangeV x = some v) (hR : κ.R E cf) :
  GV P E cf κ (Instr.range t cx) v κ.σ := by
 unfold rangeV at h
 split at h
 ·rename_i id
  injection h with h; subst h
  cases hx with
  | map _ _ b hp =>
  obtain ⟨⟨⟨ks,vs,hid⟩,hpd⟩,rfl⟩ := hp
  obtain ⟨es,clock,hb,_,_,hB⟩ := hR.obj id _ hid hpd
  intro w hw
  refine ⟨_,_,κ.push (.mapIter (some (κ.loc id)) clock #[] clock),run_range_map (P := P) w t kt et _ es clock ht (by rw [hw]; exact hb),⟨by simp [K.push,World.alloc,hw],rfl,rfl⟩,rfl,K.push_le hR _,K.push_R hR _ (fun c e f h => by cases h),?_⟩
  rw [hw]
  refine .eiter _ id _ (κ.loc id) clock clock #[] (K.push_safe hR _ _) (by simp [K.push]) (Nat.le_refl _) ?_
  exact ⟨⟨⟨ks,vs,by simpa [K.push] using hid⟩,by simpa [K.push] using hpd⟩,by simp [K.push]⟩
 ·simp at h
theorem nextM_run {ty : TypeId} {x v : AVal} {cx : Value} (hx : κ.V E cf x cx) (h : nextV κ.σ x = some v) (hR : κ.R E cf) :
  GV P E cf κ (Instr.next cx false ty) v κ.σ := by
 unfold nextV at h
 split at h
 ·rename_i id
  split at h
  ·rename_i vs hid
   injection h with h; subst h
   cases hx with
   | eiter _ _ r b since c0 seen hs he hl hp =>
   obtain ⟨⟨_,hpd⟩,rfl⟩ := hp
   obtain ⟨es,clock,hb,hk,_,hB⟩ := hR.obj id _ hid hpd
   have he0 : es.toList = [] := by
    generalize hg : es.toList.map (·.key) = l at hk
    cases hk
    exact List.map_eq_nil_iff.1 hg
   refine GV.pure hR (cv := .tuple #[.bool false]) (fun w hw => ?_) (.tuple _ _ [.bool false] (.cons _ _ _ _ _ (.bool _ _) (.nil _)))
   rcases run_next_at (P := P) w ty r (κ.loc id) since c0 seen es clock (by rw [hw]; exact he) (by rw [hw]; exact hb) (fun x hx => by rw [he0] at hx; cases hx) hl with ⟨_,hr⟩ | ⟨e,hx,_⟩
   ·exact hr
   ·have hm : e ∈ es.toList := by
     have : (leftOf es seen).toList.Sublist es.toList := by simp only [leftOf,Array.toList_filter]; exact List.filter_sublist
     exact this.subset hx
    rw [he0] at hm; cases hm
  ·simp at h
 ·simp at h
end
section
variable {cfg : Cfg} {P : Program} {E : Env} {κ : K} {fr : List AVal} {a : Act} {callF : CallF} {d : Nat}
theorem chkXO_ok (hf : Fr cfg E κ fr a) {x : Option Opnd} {y : Option Operand} (h : chkXO cfg x y = true) : OV κ E cfg.conc (oev cfg fr x) (y.map a.eval) := by
 cases x <;> cases y <;> simp only [chkXO] at h <;> first
  | trivial
  | (simp at h; done)
  | exact chkX_ok hf h
theorem chkParts_ok (hf : Fr cfg E κ fr a) {pl : List (Nat × Nat)} : ∀ {r : List (Nat × Nat × Opnd)} {q : List (Nat × Operand)},chkParts cfg pl r q = true →
  Parts κ E cfg.conc (fun i => pl.toArray[i]?) (r.map fun p => (p.1,p.2.1,ev cfg fr p.2.2)) (q.map fun p => (p.1,a.eval p.2))
 | [],[],_ => .nil
 | (off,n,x) :: r,(i,y) :: q,h => by
  simp only [chkParts,Bool.and_eq_true,beq_iff_eq] at h
  exact .cons _ _ _ _ _ _ _ (by simpa using h.1.1) (chkX_ok hf h.1.2) (chkParts_ok hf h.2)
 | [],_ :: _,h => by simp [chkParts] at h
 | _ :: _,[],h => by simp [chkParts] at h
theorem chkPartsA_ok (hf : Fr cfg E κ fr a) {sz : Nat} : ∀ {r : List (Nat × Nat × Opnd)} {q : List (Nat × Operand)},chkPartsA cfg sz r q = true →
  Parts κ E cfg.conc (fun i => some (i * sz,sz)) (r.map fun p => (p.1,p.2.1,ev cfg fr p.2.2)) (q.map fun p => (p.1,a.eval p.2))
 | [],[],_ => .nil
 | (off,n,x) :: r,(i,y) :: q,h => by
  simp only [chkPartsA,Bool.and_eq_true,beq_iff_eq] at h
  exact .cons _ _ _ _ _ _ _ (by rw [h.1.1.1,h.1.1.2]) (chkX_ok hf h.1.2) (chkPartsA_ok hf h.2)
 | [],_ :: _,h => by simp [chkPartsA] at h
 | _ :: _,[],h => by simp [chkPartsA] at h
theorem chkPartsE_ok (hf : Fr cfg E κ fr a) : ∀ {r : List (Nat × Opnd)} {q : List (Nat × Operand)},chkPartsE cfg r q = true →
  PartsE κ E cfg.conc (r.map fun p => (p.1,ev cfg fr p.2)) (q.map fun p => (p.1,a.eval p.2))
 | [],[],_ => .nil
 | (i,x) :: r,(j,y) :: q,h => by
  simp only [chkPartsE,Bool.and_eq_true,beq_iff_eq] at h
  obtain ⟨⟨rfl,h2⟩,h3⟩ := h
  exact .cons _ _ _ _ _ (chkX_ok hf h2) (chkPartsE_ok hf h3)
 | [],_ :: _,h => by simp [chkPartsE] at h
 | _ :: _,[],h => by simp [chkPartsE] at h
theorem withσ_some {σ σ' : Store} {x : Option AVal} {v : AVal} (h : withσ σ x = some (v,σ')) : x = some v ∧ σ' = σ := by
 cases x <;> simp at h; exact ⟨by rw [h.1],h.2.symm⟩
theorem unitσ_some {σ' : Store} {x : Option Store} {v : AVal} (h : unitσ x = some (v,σ')) : x = some σ' ∧ v = .tuple [] := by
 cases x <;> simp at h; exact ⟨by rw [h.2],h.1.symm⟩
def isCall : AOp → Bool
 | .call .. | .callv .. => true
 | _ => false
theorem builtin_next {t : Builtin} {ty : TypeId} {s : Sem Value} {c : Call} {ρ : Operand → Value} {v : AVal} {σ' : Store} (hc : c.callee = .builtin t) (hs : ∀ consts,builtin t c.argTypes ty consts (c.args.map ρ) = (do let x ← s; pure (.value x)))
  (h : GV P E cfg.conc κ s v σ') : GN P E cfg.conc κ (do let d ← resolve ρ c ty; invoke d.target d.args) v σ' := by
 have : ∀ w,(do let d ← resolve ρ c ty; invoke d.target d.args : Sem Next).run P w = (do let x ← s; pure (.value x) : Sem Next).run P w := by
  intro w
  simp only [resolve,hc,Sem.run_bind,Sem.run_pure,Result.andThen,invoke,hs]
 intro w hw
 rw [this]
 exact h.next w hw
theorem os_move (hf : Fr cfg E κ fr a) (hR : κ.R E cfg.conc) {x : Opnd} {dst : Option Tmp} {oop : Op} {ty : TypeId} {pos : String} {after : Array Edge} {guard : Option (Nat × Bool)} (hchk : chkOp cfg P (.move x) oop = true) {v : AVal} {σ' : Store} (h : opStep cfg callF d fr κ.σ (.move x) = some (v,σ')) :
  GN P E cfg.conc κ (execOp a.eval ⟨dst,oop,ty,pos,after,guard⟩) v σ' := by
 simp only [chkOp] at hchk
 simp only [opStep] at h
 injection h with h; injection h with e1 e2; subst e1; subst e2
 split at hchk
 ·exact GN.pure hR (fun w _ => by simp [execOp]) (chkX_ok hf hchk)
 ·exact GN.pure hR (fun w _ => by simp [execOp]) (chkX_ok hf hchk)
 ·simp at hchk
theorem os_pick (hf : Fr cfg E κ fr a) (hR : κ.R E cfg.conc) {c x y : Opnd} {dst : Option Tmp} {oop : Op} {ty : TypeId} {pos : String} {after : Array Edge} {guard : Option (Nat × Bool)} (hchk : chkOp cfg P (.pick c x y) oop = true) {v : AVal} {σ' : Store} (h : opStep cfg callF d fr κ.σ (.pick c x y) = some (v,σ')) :
  GN P E cfg.conc κ (execOp a.eval ⟨dst,oop,ty,pos,after,guard⟩) v σ' := by
 simp only [chkOp] at hchk
 split at hchk
 ·rename_i c' x' y'
  simp only [Bool.and_eq_true,beq_iff_eq,decide_eq_true_eq] at hchk
  obtain ⟨⟨h1,h2⟩,h3⟩ := hchk
  simp only [opStep] at h
  have hc := chkX_ok hf h1
  split at h
  ·rename_i t ht
   rw [ht] at hc
   have hcb := V_bool hc
   injection h with h; injection h with e1 e2; subst e1; subst e2
   cases t
   ·exact GN.pure hR (fun w _ => by simp [execOp,hcb,asBool,Result.andThen]) (chkX_ok hf h3)
   ·exact GN.pure hR (fun w _ => by simp [execOp,hcb,asBool,Result.andThen]) (chkX_ok hf h2)
  ·simp at h
 ·simp at hchk
theorem os_alloc (hf : Fr cfg E κ fr a) (hR : κ.R E cfg.conc) {z : List AVal} {dst : Option Tmp} {oop : Op} {ty : TypeId} {pos : String} {after : Array Edge} {guard : Option (Nat × Bool)} (hchk : chkOp cfg P (.alloc z) oop = true) {v : AVal} {σ' : Store} (h : opStep cfg callF d fr κ.σ (.alloc z) = some (v,σ')) :
  GN P E cfg.conc κ (execOp a.eval ⟨dst,oop,ty,pos,after,guard⟩) v σ' := by
 simp only [chkOp] at hchk
 split at hchk
 ·rename_i t
  simp only [Bool.and_eq_true,beq_iff_eq,decide_eq_true_eq] at hchk
  obtain ⟨h1,h2⟩ := hchk
  simp only [opStep] at h
  injection h with h; injection h with e1 e2; subst e1; subst e2
  cases hz : zeroT P t with
  | none => simp [hz] at h1
  | some zc =>
   simp only [hz] at h1
   exact GV.next (alloc_run hz h1 h2 hR)
 ·simp at hchk
theorem os_box (hf : Fr cfg E κ fr a) (hR : κ.R E cfg.conc) {x : Opnd} {dst : Option Tmp} {oop : Op} {ty : TypeId} {pos : String} {after : Array Edge} {guard : Option (Nat × Bool)} (hchk : chkOp cfg P (.box x) oop = true) {v : AVal} {σ' : Store} (h : opStep cfg callF d fr κ.σ (.box x) = some (v,σ')) :
  GN P E cfg.conc κ (execOp a.eval ⟨dst,oop,ty,pos,after,guard⟩) v σ' := by
 simp only [chkOp] at hchk
 split at hchk
 ·rename_i t y
  simp only [opStep] at h
  split at h
  ·rename_i hone
   injection h with h; injection h with e1 e2; subst e1; subst e2
   exact GV.next (box_run (t := t) (chkX_ok hf hchk) hone hR)
  ·simp at h
 ·simp at hchk
theorem os_build (hf : Fr cfg E κ fr a) (hR : κ.R E cfg.conc) {z : List AVal} {parts : List (Nat × Nat × Opnd)} {dst : Option Tmp} {oop : Op} {ty : TypeId} {pos : String} {after : Array Edge} {guard : Option (Nat × Bool)} (hchk : chkOp cfg P (.build z parts) oop = true) {v : AVal} {σ' : Store} (h : opStep cfg callF d fr κ.σ (.build z parts) = some (v,σ')) :
  GN P E cfg.conc κ (execOp a.eval ⟨dst,oop,ty,pos,after,guard⟩) v σ' := by
 simp only [chkOp] at hchk
 split at hchk
 ·rename_i t ps
  simp only [Bool.and_eq_true,beq_iff_eq,decide_eq_true_eq] at hchk
  obtain ⟨⟨h1,h2⟩,h3⟩ := hchk
  simp only [opStep] at h
  cases hz : zeroT P t with
  | none => simp [hz] at h1
  | some zc =>
   simp only [hz] at h1
   rw [Bool.or_eq_true] at h3
   rcases h3 with h3 | h3
   case inr =>
    split at h3
    ·rename_i m e he
     split at h3
     ·rename_i sz hsz
      split at h
      ·rename_i cs hfill
       injection h with h; injection h with e1 e2; subst e1; subst e2
       have hpp := chkPartsA_ok hf h3
       refine GV.next (buildArr_run (arrayE_eq he) hsz hz h1 h2 (q := ps.map fun (i,x) => (i,a.eval x)) ?_ hfill hR)
       simpa using hpp
      ·simp at h
     ·simp at h3
    ·simp at h3
   cases hs : structFs P t with
   | none => simp [hs] at h3
   | some fs =>
    simp only [hs] at h3
    cases hp : placesT P fs with
    | none => simp [hp] at h3
    | some pl =>
     simp only [hp] at h3
     split at h
     ·rename_i cs hfill
      injection h with h; injection h with e1 e2; subst e1; subst e2
      have hpp := chkParts_ok hf h3
      refine GV.next (build_run (structFs_eq hs) hz h1 h2 (places_run (P := P) (fs := fs.toArray) (by simpa using hp)) (q := ps.map fun (i,x) => (i,a.eval x)) ?_ hfill hR)
      simpa using hpp
     ·simp at h
 ·simp at hchk
theorem os_lit (hf : Fr cfg E κ fr a) (hR : κ.R E cfg.conc) {sz : Nat} {z : List AVal} {agg : Bool} {n : Nat} {parts : List (Nat × Opnd)} {dst : Option Tmp} {oop : Op} {ty : TypeId} {pos : String} {after : Array Edge} {guard : Option (Nat × Bool)} (hchk : chkOp cfg P (.lit sz z agg n parts) oop = true) {v : AVal} {σ' : Store} (h : opStep cfg callF d fr κ.σ (.lit sz z agg n parts) = some (v,σ')) :
  GN P E cfg.conc κ (execOp a.eval ⟨dst,oop,ty,pos,after,guard⟩) v σ' := by
 simp only [chkOp] at hchk
 split at hchk
 ·rename_i t len ps
  simp only [Bool.and_eq_true,beq_iff_eq,decide_eq_true_eq] at hchk
  obtain ⟨⟨⟨h1,h2⟩,h3⟩,h4⟩ := hchk
  simp only [opStep] at h
  subst h2
  cases hs : sliceE P t with
  | none => simp [hs] at h1
  | some e =>
   simp only [hs,Bool.and_eq_true] at h1
   obtain ⟨zc,z1,z2,z3,z4,z5,z6,z7⟩ := chkZ_ok h1.1
   split at h
   ·rename_i es hfill
    injection h with h; injection h with e1 e2; subst e1; subst e2
    have hpp := chkPartsE_ok hf h4
    have hq : PartsE κ E cfg.conc (parts.map fun p => (p.1,ev cfg fr p.2)) (ps.map fun (i,x) => (i,a.eval x)).toList := by simpa using hpp
    exact GV.next (lit_run (sliceE_eq hs) z6 z7 z1 z2 z3 z4 z5 h1.2 h3 hq hfill hR)
   ·simp at h
 ·simp at hchk
theorem os_litA (hf : Fr cfg E κ fr a) (hR : κ.R E cfg.conc) {sz : Nat} {z : List AVal} {agg : Bool} {n : Nat} {parts : List (Nat × Opnd)} {dst : Option Tmp} {oop : Op} {ty : TypeId} {pos : String} {after : Array Edge} {guard : Option (Nat × Bool)} (hchk : chkOp cfg P (.litA sz z agg n parts) oop = true) {v : AVal} {σ' : Store} (h : opStep cfg callF d fr κ.σ (.litA sz z agg n parts) = some (v,σ')) :
  GN P E cfg.conc κ (execOp a.eval ⟨dst,oop,ty,pos,after,guard⟩) v σ' := by
 simp only [chkOp] at hchk
 split at hchk
 ·rename_i t len ps
  simp only [Bool.and_eq_true,beq_iff_eq,decide_eq_true_eq] at hchk
  obtain ⟨⟨⟨h1,h2⟩,h3⟩,h4⟩ := hchk
  simp only [opStep] at h
  subst h2
  cases hs : sliceE P t with
  | none => simp [hs] at h1
  | some e =>
   simp only [hs] at h1
   obtain ⟨zc,z1,z2,z3,z4,z5,z6,z7⟩ := chkZ_ok h1
   split at h
   ·rename_i es hfill
    injection h with h; injection h with e1 e2; subst e1; subst e2
    have hpp := chkPartsE_ok hf h4
    have hq : PartsE κ E cfg.conc (parts.map fun p => (p.1,ev cfg fr p.2)) (ps.map fun (i,x) => (i,a.eval x)).toList := by simpa using hpp
    exact GV.next (litA_run (sliceE_eq hs) z6 z7 z1 z2 z3 z4 z5 h3 hq hfill hR)
   ·simp at h
 ·simp at hchk
theorem os_load (hf : Fr cfg E κ fr a) (hR : κ.R E cfg.conc) {n : Nat} {agg : Bool} {x : Opnd} {dst : Option Tmp} {oop : Op} {ty : TypeId} {pos : String} {after : Array Edge} {guard : Option (Nat × Bool)} (hchk : chkOp cfg P (.load n agg x) oop = true) {v : AVal} {σ' : Store} (h : opStep cfg callF d fr κ.σ (.load n agg x) = some (v,σ')) :
  GN P E cfg.conc κ (execOp a.eval ⟨dst,oop,ty,pos,after,guard⟩) v σ' := by
 simp only [chkOp] at hchk
 split at hchk
 ·rename_i t x'
  simp only [Bool.and_eq_true,beq_iff_eq,decide_eq_true_eq] at hchk
  obtain ⟨⟨h1,h2⟩,h3⟩ := hchk
  simp only [opStep] at h
  obtain ⟨h0,rfl⟩ := withσ_some h; clear h; have h := h0
  exact GV.next (load_run h1 h2 (chkX_ok hf h3) h hR)
 ·simp at hchk
theorem os_store (hf : Fr cfg E κ fr a) (hR : κ.R E cfg.conc) {n : Nat} {x y : Opnd} {dst : Option Tmp} {oop : Op} {ty : TypeId} {pos : String} {after : Array Edge} {guard : Option (Nat × Bool)} (hchk : chkOp cfg P (.store n x y) oop = true) {v : AVal} {σ' : Store} (h : opStep cfg callF d fr κ.σ (.store n x y) = some (v,σ')) :
  GN P E cfg.conc κ (execOp a.eval ⟨dst,oop,ty,pos,after,guard⟩) v σ' := by
 simp only [chkOp] at hchk
 split at hchk
 ·rename_i t x' y'
  simp only [Bool.and_eq_true,beq_iff_eq,decide_eq_true_eq] at hchk
  obtain ⟨⟨h1,h2⟩,h3⟩ := hchk
  simp only [opStep] at h
  obtain ⟨h0,rfl⟩ := unitσ_some h; clear h; have h := h0
  exact GU.next (store_run h1 (chkX_ok hf h2) (chkX_ok hf h3) h hR)
 ·simp at hchk
theorem os_nilCheck (hf : Fr cfg E κ fr a) (hR : κ.R E cfg.conc) {x : Opnd} {dst : Option Tmp} {oop : Op} {ty : TypeId} {pos : String} {after : Array Edge} {guard : Option (Nat × Bool)} (hchk : chkOp cfg P (.nilCheck x) oop = true) {v : AVal} {σ' : Store} (h : opStep cfg callF d fr κ.σ (.nilCheck x) = some (v,σ')) :
  GN P E cfg.conc κ (execOp a.eval ⟨dst,oop,ty,pos,after,guard⟩) v σ' := by
 simp only [chkOp] at hchk
 split at hchk
 ·rename_i y
  simp only [opStep] at h
  have hx := chkX_ok hf hchk
  split at h <;> first | (simp at h; done) | skip
  all_goals
   rename_i hev
   injection h with h; injection h with e1 e2; subst e1; subst e2
   rw [hev] at hx
   generalize hcy : a.eval y = cy at hx
   have hx0 := hx
   cases hx
   exact GN.pure hR (fun w _ => by simp only [execOp,hcy]; rfl) hx0
 ·simp at hchk
theorem os_iop (hf : Fr cfg E κ fr a) (hR : κ.R E cfg.conc) {op : BinOp} {x y : Opnd} {dst : Option Tmp} {oop : Op} {ty : TypeId} {pos : String} {after : Array Edge} {guard : Option (Nat × Bool)} (hchk : chkOp cfg P (.iop op x y) oop = true) {v : AVal} {σ' : Store} (h : opStep cfg callF d fr κ.σ (.iop op x y) = some (v,σ')) :
  GN P E cfg.conc κ (execOp a.eval ⟨dst,oop,ty,pos,after,guard⟩) v σ' := by
 simp only [chkOp] at hchk
 split at hchk
 ·rename_i op' t x' y' t2
  simp only [Bool.and_eq_true,beq_iff_eq,decide_eq_true_eq] at hchk
  obtain ⟨⟨rfl,h2⟩,h3⟩ := hchk
  simp only [opStep] at h
  obtain ⟨h0,rfl⟩ := withσ_some h; clear h; have h := h0
  exact GV.next (iop_run op t x' y' (chkX_ok hf h2) (chkX_ok hf h3) h hR)
 ·simp at hchk
theorem os_sop (hf : Fr cfg E κ fr a) (hR : κ.R E cfg.conc) {op : BinOp} {x y : Opnd} {dst : Option Tmp} {oop : Op} {ty : TypeId} {pos : String} {after : Array Edge} {guard : Option (Nat × Bool)} (hchk : chkOp cfg P (.sop op x y) oop = true) {v : AVal} {σ' : Store} (h : opStep cfg callF d fr κ.σ (.sop op x y) = some (v,σ')) :
  GN P E cfg.conc κ (execOp a.eval ⟨dst,oop,ty,pos,after,guard⟩) v σ' := by
 simp only [chkOp] at hchk
 split at hchk
 ·rename_i op' t x' y' t2
  simp only [Bool.and_eq_true,beq_iff_eq,decide_eq_true_eq] at hchk
  obtain ⟨⟨rfl,h2⟩,h3⟩ := hchk
  simp only [opStep] at h
  obtain ⟨h0,rfl⟩ := withσ_some h; clear h; have h := h0
  exact GV.next (sop_run op t x' y' (chkX_ok hf h2) (chkX_ok hf h3) h hR)
 ·simp at hchk
theorem os_bop (hf : Fr cfg E κ fr a) (hR : κ.R E cfg.conc) {neg : Bool} {x y : Opnd} {dst : Option Tmp} {oop : Op} {ty : TypeId} {pos : String} {after : Array Edge} {guard : Option (Nat × Bool)} (hchk : chkOp cfg P (.bop neg x y) oop = true) {v : AVal} {σ' : Store} (h : opStep cfg callF d fr κ.σ (.bop neg x y) = some (v,σ')) :
  GN P E cfg.conc κ (execOp a.eval ⟨dst,oop,ty,pos,after,guard⟩) v σ' := by
 simp only [chkOp] at hchk
 split at hchk
 ·rename_i op' t x' y' t2
  simp only [Bool.and_eq_true,beq_iff_eq,decide_eq_true_eq] at hchk
  obtain ⟨⟨⟨h1,h2⟩,h3⟩,h4⟩ := hchk
  simp only [opStep] at h
  have hx := chkX_ok hf h3
  have hy := chkX_ok hf h4
  have := eqOp_eq h1
  subst this
  split at h
  ·rename_i b1 b2 e1 e2
   injection h with h; injection h with q1 q2; subst q1; subst q2
   rw [e1] at hx
   rw [e2] at hy
   exact GV.next (bop_run neg x' y' (isBoolT_eq h2) hx hy hR)
  ·simp at h
 ·simp at hchk
theorem os_eqs (hf : Fr cfg E κ fr a) (hR : κ.R E cfg.conc) {neg : Bool} {ks : List EK} {x y : Opnd} {dst : Option Tmp} {oop : Op} {ty : TypeId} {pos : String} {after : Array Edge} {guard : Option (Nat × Bool)} (hchk : chkOp cfg P (.eqs neg ks x y) oop = true) {v : AVal} {σ' : Store} (h : opStep cfg callF d fr κ.σ (.eqs neg ks x y) = some (v,σ')) :
  GN P E cfg.conc κ (execOp a.eval ⟨dst,oop,ty,pos,after,guard⟩) v σ' := by
 simp only [chkOp] at hchk
 split at hchk
 ·rename_i op' t x' y' t2
  simp only [Bool.and_eq_true,beq_iff_eq,decide_eq_true_eq] at hchk
  obtain ⟨⟨⟨⟨⟨h1,h2⟩,h3⟩,h4⟩,h5⟩,h6⟩ := hchk
  simp only [opStep] at h
  have := eqOp_eq h1
  subst this
  split at h
  ·rename_i b hb
   injection h with h; injection h with e1 e2; subst e1; subst e2
   exact GV.next (eqs_run neg x' y' (by decide) h2 h3 (by simpa using h4) (chkX_ok hf h5) (chkX_ok hf h6) hb hR)
  ·simp at h
 ·simp at hchk
theorem os_eqnil (hf : Fr cfg E κ fr a) (hR : κ.R E cfg.conc) {neg : Bool} {k : NK} {x : Opnd} {dst : Option Tmp} {oop : Op} {ty : TypeId} {pos : String} {after : Array Edge} {guard : Option (Nat × Bool)} (hchk : chkOp cfg P (.eqnil neg k x) oop = true) {v : AVal} {σ' : Store} (h : opStep cfg callF d fr κ.σ (.eqnil neg k x) = some (v,σ')) :
  GN P E cfg.conc κ (execOp a.eval ⟨dst,oop,ty,pos,after,guard⟩) v σ' := by
 simp only [chkOp] at hchk
 split at hchk
 ·rename_i op' t x' y' t2
  simp only [Bool.and_eq_true,beq_iff_eq,decide_eq_true_eq] at hchk
  obtain ⟨h1,h2⟩ := hchk
  simp only [opStep] at h
  have := eqOp_eq h1
  subst this
  split at h
  ·rename_i b hb
   injection h with h; injection h with e1 e2; subst e1; subst e2
   rcases Bool.or_eq_true _ _ ▸ h2 with h2 | h2
   ·cases hc : constOf y' with
    | none => simp [hc] at h2
    | some nv =>
     simp only [hc,Bool.and_eq_true] at h2
     obtain ⟨y0,rfl⟩ : ∃ v,y' = .const v := by cases y' <;> simp [constOf] at hc; exact ⟨_,rfl⟩
     simp [constOf] at hc; subst hc
     exact GV.next (eqnil_run neg h2.1 rfl (chkX_ok hf h2.2) hb hR)
   ·cases hc : constOf x' with
    | none => simp [hc] at h2
    | some nv =>
     simp only [hc,Bool.and_eq_true] at h2
     obtain ⟨y0,rfl⟩ : ∃ v,x' = .const v := by cases x' <;> simp [constOf] at hc; exact ⟨_,rfl⟩
     simp [constOf] at hc; subst hc
     exact GV.next (eqnil_run' neg h2.1 rfl (chkX_ok hf h2.2) hb hR)
  ·simp at h
 ·simp at hchk
theorem os_not (hf : Fr cfg E κ fr a) (hR : κ.R E cfg.conc) {x : Opnd} {dst : Option Tmp} {oop : Op} {ty : TypeId} {pos : String} {after : Array Edge} {guard : Option (Nat × Bool)} (hchk : chkOp cfg P (.not x) oop = true) {v : AVal} {σ' : Store} (h : opStep cfg callF d fr κ.σ (.not x) = some (v,σ')) :
  GN P E cfg.conc κ (execOp a.eval ⟨dst,oop,ty,pos,after,guard⟩) v σ' := by
 simp only [chkOp] at hchk
 split at hchk
 ·rename_i t y
  simp only [opStep] at h
  have hx := chkX_ok hf hchk
  split at h
  ·rename_i b hb
   injection h with h; injection h with e1 e2; subst e1; subst e2
   rw [hb] at hx
   exact GV.next (not_run (a := .bool b) hx hR)
  ·simp at h
 ·simp at hchk
theorem os_neg (hf : Fr cfg E κ fr a) (hR : κ.R E cfg.conc) {x : Opnd} {dst : Option Tmp} {oop : Op} {ty : TypeId} {pos : String} {after : Array Edge} {guard : Option (Nat × Bool)} (hchk : chkOp cfg P (.neg x) oop = true) {v : AVal} {σ' : Store} (h : opStep cfg callF d fr κ.σ (.neg x) = some (v,σ')) :
  GN P E cfg.conc κ (execOp a.eval ⟨dst,oop,ty,pos,after,guard⟩) v σ' := by
 simp only [chkOp] at hchk
 split at hchk
 ·rename_i t y
  simp only [opStep] at h
  have hx := chkX_ok hf hchk
  split at h
  ·rename_i k n hb
   injection h with h; injection h with e1 e2; subst e1; subst e2
   rw [hb] at hx
   exact GV.next (neg_run hx hR)
  ·simp at h
 ·simp at hchk
theorem os_convI (hf : Fr cfg E κ fr a) (hR : κ.R E cfg.conc) {k : IntKind} {x : Opnd} {dst : Option Tmp} {oop : Op} {ty : TypeId} {pos : String} {after : Array Edge} {guard : Option (Nat × Bool)} (hchk : chkOp cfg P (.convI k x) oop = true) {v : AVal} {σ' : Store} (h : opStep cfg callF d fr κ.σ (.convI k x) = some (v,σ')) :
  GN P E cfg.conc κ (execOp a.eval ⟨dst,oop,ty,pos,after,guard⟩) v σ' := by
 simp only [chkOp] at hchk
 split at hchk
 ·rename_i src dst y
  simp only [Bool.and_eq_true,beq_iff_eq,decide_eq_true_eq] at hchk
  obtain ⟨⟨h1,h2⟩,h3⟩ := hchk
  simp only [opStep] at h
  have hx := chkX_ok hf h3
  obtain ⟨k0,hk0⟩ := Option.isSome_iff_exists.1 h1
  split at h
  ·rename_i k1 n hb
   injection h with h; injection h with e1 e2; subst e1; subst e2
   rw [hb] at hx
   exact GV.next (convI_run (intT_eq hk0) (intT_eq h2) hx hR)
  ·simp at h
 ·simp at hchk
theorem os_sliceOp (hf : Fr cfg E κ fr a) (hR : κ.R E cfg.conc) {sz : Nat} {x : Opnd} {lo hi mx : Option Opnd} {dst : Option Tmp} {oop : Op} {ty : TypeId} {pos : String} {after : Array Edge} {guard : Option (Nat × Bool)} (hchk : chkOp cfg P (.sliceOp sz x lo hi mx) oop = true) {v : AVal} {σ' : Store} (h : opStep cfg callF d fr κ.σ (.sliceOp sz x lo hi mx) = some (v,σ')) :
  GN P E cfg.conc κ (execOp a.eval ⟨dst,oop,ty,pos,after,guard⟩) v σ' := by
 simp only [chkOp] at hchk
 split at hchk
 ·rename_i t x' lo' hi' mx'
  simp only [Bool.and_eq_true,beq_iff_eq,decide_eq_true_eq] at hchk
  obtain ⟨⟨⟨⟨⟨h1,h2⟩,h3⟩,h4⟩,h5⟩,h6⟩ := hchk
  simp only [opStep] at h
  obtain ⟨h0,rfl⟩ := withσ_some h; clear h; have h := h0
  cases hs : sliceE P t with
  | none => simp [hs] at h1
  | some e =>
   simp only [hs,beq_iff_eq] at h1
   refine GV.next (sliceOp_run (sliceE_eq hs) h1 (chkXO_ok hf h3) (chkXO_ok hf h4) (chkXO_ok hf h5) (fun hm => ?_) (chkX_ok hf h2) h hR)
   cases mx <;> simp at hm
   cases hi <;> simp at h6 ⊢
 ·simp at hchk
theorem flat_ones : ∀ {cs : List AVal},AVal.allOne cs → cs.flatMap AVal.cells = cs
 | [],_ => rfl
 | c :: cs,h => by
  have h1 := h c List.mem_cons_self
  have e : c.cells = [c] := by cases c <;> simp_all [AVal.one,AVal.cells]
  rw [List.flatMap_cons,e,flat_ones (fun x hx => h x (List.mem_cons_of_mem _ hx))]; rfl
theorem gslice_run {t e : TypeId} {n sz : Nat} (ht : P.underlying t = some (.array n e)) (hn : sizeT P e = some sz) (h0 : 0 < sz) {a v : AVal} {ca : Value} (ha : κ.V E cfg.conc a ca) (h : gsliceV n sz a = some v) (hR : κ.R E cfg.conc) :
  GV P E cfg.conc κ (Instr.sliceAt t ca none none none) v κ.σ := by
 obtain ⟨inf,hinf,hsz⟩ := sizeT_eq hn
 cases a with
 | ptr id off =>
  simp only [gsliceV] at h
  injection h with h; subst h
  cases ha with
  | ptr _ _ _ b hp =>
   refine GV.pure hR (cv := .slice (some ⟨b,off,none⟩) n n) (fun w _ => ?_) (.cslice _ id off sz n b h0 hp)
   simp [Instr.sliceAt,run_underlying ht,Result.andThen,Instr.sureAddr,Instr.sliceBounds,sz_of hinf,hsz,add_spot]
 | fptr tg cs off =>
  simp only [gsliceV] at h
  split at h
  ·rename_i hle
   obtain ⟨rfl,hle⟩ := hle
   injection h with h; subst h
   cases ha with
   | fptr _ _ _ _ b o vs hs hl h1 h2 hr =>
   have h1' : AVal.allOne ((cs.drop off).take n) := fun c hc => h1 c (List.mem_of_mem_drop (List.mem_of_mem_take hc))
   refine GV.pure hR (cv := .slice (some ⟨b,o + off,none⟩) n n) (fun w _ => ?_) (.fslice _ tg true 1 _ b (o + off) n n ((vs.drop off).take n) hs (by rw [flat_ones h1']; exact VL_take _ (VL_drop _ hl)) (fun e he => ?_) Nat.one_pos
    (fun c hc => h2 c (List.mem_of_mem_drop (List.mem_of_mem_take hc))) (rowAt_take (rowAt_drop hr)) (by simp; omega) (Nat.le_refl _) (fun _ => rfl))
   ·simp [Instr.sliceAt,run_underlying ht,Result.andThen,Instr.sureAddr,Instr.sliceBounds,sz_of hinf,hsz,add_spot]
   ·have h3 := h1' e he
    have ec : e.cells = [e] := by cases e <;> simp_all [AVal.one,AVal.cells]
    rw [ec]
    exact ⟨rfl,fun c hc => by rw [List.mem_singleton.1 hc]; exact h3⟩
  ·simp at h
 | _ => simp [gsliceV] at h
theorem os_gslice (hf : Fr cfg E κ fr a) (hR : κ.R E cfg.conc) {n sz : Nat} {x : Opnd} {dst : Option Tmp} {oop : Op} {ty : TypeId} {pos : String} {after : Array Edge} {guard : Option (Nat × Bool)} (hchk : chkOp cfg P (.gslice n sz x) oop = true) {v : AVal} {σ' : Store} (h : opStep cfg callF d fr κ.σ (.gslice n sz x) = some (v,σ')) :
  GN P E cfg.conc κ (execOp a.eval ⟨dst,oop,ty,pos,after,guard⟩) v σ' := by
 simp only [chkOp] at hchk
 split at hchk
 ·rename_i t x'
  cases hs : arrayE P t with
  | none => simp [hs] at hchk
  | some p =>
   obtain ⟨m,e⟩ := p
   simp only [hs,Bool.and_eq_true,beq_iff_eq,decide_eq_true_eq] at hchk
   obtain ⟨⟨⟨rfl,h1⟩,hz⟩,h2⟩ := hchk
   simp only [opStep] at h
   obtain ⟨h0,rfl⟩ := withσ_some h; clear h; have h := h0
   exact GV.next (gslice_run (arrayE_eq hs) h1 hz (chkX_ok hf h2) h hR)
 ·simp at hchk
theorem os_substr (hf : Fr cfg E κ fr a) (hR : κ.R E cfg.conc) {x : Opnd} {lo hi : Option Opnd} {dst : Option Tmp} {oop : Op} {ty : TypeId} {pos : String} {after : Array Edge} {guard : Option (Nat × Bool)} (hchk : chkOp cfg P (.substr x lo hi) oop = true) {v : AVal} {σ' : Store} (h : opStep cfg callF d fr κ.σ (.substr x lo hi) = some (v,σ')) :
  GN P E cfg.conc κ (execOp a.eval ⟨dst,oop,ty,pos,after,guard⟩) v σ' := by
 simp only [chkOp] at hchk
 split at hchk
 ·rename_i t x' lo' hi'
  simp only [Bool.and_eq_true,beq_iff_eq,decide_eq_true_eq] at hchk
  obtain ⟨⟨⟨h1,h2⟩,h3⟩,h4⟩ := hchk
  simp only [opStep] at h
  obtain ⟨h0,rfl⟩ := withσ_some h; clear h; have h := h0
  exact GV.next (substr_run (isStrT_eq h1) (chkXO_ok hf h3) (chkXO_ok hf h4) (chkX_ok hf h2) h hR)
 ·simp at hchk
theorem os_faddr (hf : Fr cfg E κ fr a) (hR : κ.R E cfg.conc) {off : Nat} {x : Opnd} {dst : Option Tmp} {oop : Op} {ty : TypeId} {pos : String} {after : Array Edge} {guard : Option (Nat × Bool)} (hchk : chkOp cfg P (.faddr off x) oop = true) {v : AVal} {σ' : Store} (h : opStep cfg callF d fr κ.σ (.faddr off x) = some (v,σ')) :
  GN P E cfg.conc κ (execOp a.eval ⟨dst,oop,ty,pos,after,guard⟩) v σ' := by
 simp only [chkOp] at hchk
 split at hchk
 ·rename_i t y i
  simp only [Bool.and_eq_true,beq_iff_eq,decide_eq_true_eq] at hchk
  obtain ⟨h1,h2⟩ := hchk
  simp only [opStep] at h
  obtain ⟨h0,rfl⟩ := withσ_some h; clear h; have h := h0
  cases hs : fieldT P t i with
  | none => simp [hs] at h1
  | some p =>
   obtain ⟨o,ft⟩ := p
   simp only [hs,Bool.and_eq_true,beq_iff_eq] at h1
   obtain ⟨rfl,h1⟩ := h1
   cases hz : sizeT P ft with
   | none => simp [hz] at h1
   | some n =>
    simp only [hz,bne_iff_ne] at h1
    obtain ⟨fs,f,g1,g2,g3,g4⟩ := fieldT_eq hs
    exact GV.next (faddr_run g1 g2 g3 g4 hz h1 (chkX_ok hf h2) h hR)
 ·simp at hchk
theorem os_field (hf : Fr cfg E κ fr a) (hR : κ.R E cfg.conc) {off n : Nat} {agg : Bool} {x : Opnd} {dst : Option Tmp} {oop : Op} {ty : TypeId} {pos : String} {after : Array Edge} {guard : Option (Nat × Bool)} (hchk : chkOp cfg P (.field off n agg x) oop = true) {v : AVal} {σ' : Store} (h : opStep cfg callF d fr κ.σ (.field off n agg x) = some (v,σ')) :
  GN P E cfg.conc κ (execOp a.eval ⟨dst,oop,ty,pos,after,guard⟩) v σ' := by
 simp only [chkOp] at hchk
 split at hchk
 ·rename_i t y i
  simp only [Bool.and_eq_true,beq_iff_eq,decide_eq_true_eq] at hchk
  obtain ⟨h1,h2⟩ := hchk
  simp only [opStep] at h
  have hx := chkX_ok hf h2
  cases hs : fieldT P t i with
  | none => simp [hs] at h1
  | some p =>
   obtain ⟨o,ft⟩ := p
   simp only [hs,Bool.and_eq_true,beq_iff_eq] at h1
   obtain ⟨⟨rfl,h1⟩,h3⟩ := h1
   obtain ⟨fs,f,g1,g2,g3,g4⟩ := fieldT_eq hs
   split at h
   ·rename_i cs hcs
    rw [hcs] at hx
    obtain ⟨h0,rfl⟩ := withσ_some h; clear h; have h := h0
    exact GV.next (field_run g1 g2 g3 g4 h1 h3 hx h hR)
   ·simp at h
 ·simp at hchk
theorem os_iaddr (hf : Fr cfg E κ fr a) (hR : κ.R E cfg.conc) {sz : Nat} {x i : Opnd} {dst : Option Tmp} {oop : Op} {ty : TypeId} {pos : String} {after : Array Edge} {guard : Option (Nat × Bool)} (hchk : chkOp cfg P (.iaddr sz x i) oop = true) {v : AVal} {σ' : Store} (h : opStep cfg callF d fr κ.σ (.iaddr sz x i) = some (v,σ')) :
  GN P E cfg.conc κ (execOp a.eval ⟨dst,oop,ty,pos,after,guard⟩) v σ' := by
 simp only [chkOp] at hchk
 split at hchk
 ·rename_i t x' i'
  simp only [Bool.and_eq_true,beq_iff_eq,decide_eq_true_eq] at hchk
  obtain ⟨⟨⟨h1,h2⟩,h3⟩,h4⟩ := hchk
  simp only [opStep] at h
  obtain ⟨h0,rfl⟩ := withσ_some h; clear h; have h := h0
  cases hs : sliceE P t with
  | none => simp [hs] at h1
  | some e =>
   simp only [hs,beq_iff_eq] at h1
   exact GV.next (iaddr_run (sliceE_eq hs) h1 h2 (chkX_ok hf h3) (chkX_ok hf h4) h hR)
 ·simp at hchk
theorem os_aaddr (hf : Fr cfg E κ fr a) (hR : κ.R E cfg.conc) {len sz : Nat} {x i : Opnd} {dst : Option Tmp} {oop : Op} {ty : TypeId} {pos : String} {after : Array Edge} {guard : Option (Nat × Bool)} (hchk : chkOp cfg P (.aaddr len sz x i) oop = true) {v : AVal} {σ' : Store} (h : opStep cfg callF d fr κ.σ (.aaddr len sz x i) = some (v,σ')) :
  GN P E cfg.conc κ (execOp a.eval ⟨dst,oop,ty,pos,after,guard⟩) v σ' := by
 simp only [chkOp] at hchk
 split at hchk
 ·rename_i t x' i'
  simp only [Bool.and_eq_true,beq_iff_eq,decide_eq_true_eq] at hchk
  obtain ⟨⟨h1,h3⟩,h4⟩ := hchk
  simp only [opStep] at h
  obtain ⟨h0,rfl⟩ := withσ_some h; clear h; have h := h0
  cases hs : arrayE P t with
  | none => simp [hs] at h1
  | some e =>
   obtain ⟨n,e⟩ := e
   simp only [hs,Bool.and_eq_true,beq_iff_eq] at h1
   obtain ⟨rfl,h1⟩ := h1
   exact GV.next (aaddr_run (arrayE_eq hs) h1 (chkX_ok hf h3) (chkX_ok hf h4) h hR)
 ·simp at hchk
theorem os_strIdx (hf : Fr cfg E κ fr a) (hR : κ.R E cfg.conc) {x i : Opnd} {dst : Option Tmp} {oop : Op} {ty : TypeId} {pos : String} {after : Array Edge} {guard : Option (Nat × Bool)} (hchk : chkOp cfg P (.strIdx x i) oop = true) {v : AVal} {σ' : Store} (h : opStep cfg callF d fr κ.σ (.strIdx x i) = some (v,σ')) :
  GN P E cfg.conc κ (execOp a.eval ⟨dst,oop,ty,pos,after,guard⟩) v σ' := by
 simp only [chkOp] at hchk
 split at hchk
 ·rename_i t x' i'
  simp only [Bool.and_eq_true,beq_iff_eq,decide_eq_true_eq] at hchk
  obtain ⟨⟨h1,h3⟩,h4⟩ := hchk
  simp only [opStep] at h
  obtain ⟨h0,rfl⟩ := withσ_some h; clear h; have h := h0
  exact GV.next (strIdx_run (isStrT_eq h1) (chkX_ok hf h3) (chkX_ok hf h4) h hR)
 ·simp at hchk
theorem os_arrIdx (hf : Fr cfg E κ fr a) (hR : κ.R E cfg.conc) {len sz : Nat} {agg : Bool} {x i : Opnd} {dst : Option Tmp} {oop : Op} {ty : TypeId} {pos : String} {after : Array Edge} {guard : Option (Nat × Bool)} (hchk : chkOp cfg P (.arrIdx len sz agg x i) oop = true) {v : AVal} {σ' : Store} (h : opStep cfg callF d fr κ.σ (.arrIdx len sz agg x i) = some (v,σ')) :
  GN P E cfg.conc κ (execOp a.eval ⟨dst,oop,ty,pos,after,guard⟩) v σ' := by
 simp only [chkOp] at hchk
 split at hchk
 ·rename_i t x' i'
  simp only [Bool.and_eq_true,beq_iff_eq,decide_eq_true_eq] at hchk
  obtain ⟨⟨h1,h3⟩,h4⟩ := hchk
  simp only [opStep] at h
  obtain ⟨h0,rfl⟩ := withσ_some h; clear h; have h := h0
  cases hs : arrayE P t with
  | none => simp [hs] at h1
  | some e =>
   obtain ⟨n,e⟩ := e
   simp only [hs,Bool.and_eq_true,beq_iff_eq] at h1
   obtain ⟨⟨rfl,h1⟩,h2⟩ := h1
   exact GV.next (arrIdx_run (arrayE_eq hs) h1 h2 (chkX_ok hf h3) (chkX_ok hf h4) h hR)
 ·simp at hchk
theorem os_lenS (hf : Fr cfg E κ fr a) (hR : κ.R E cfg.conc) {x : Opnd} {dst : Option Tmp} {oop : Op} {ty : TypeId} {pos : String} {after : Array Edge} {guard : Option (Nat × Bool)} (hchk : chkOp cfg P (.lenS x) oop = true) {v : AVal} {σ' : Store} (h : opStep cfg callF d fr κ.σ (.lenS x) = some (v,σ')) :
  GN P E cfg.conc κ (execOp a.eval ⟨dst,oop,ty,pos,after,guard⟩) v σ' := by
 simp only [chkOp] at hchk
 split at hchk
 ·rename_i y t hb
  simp only [Bool.and_eq_true,beq_iff_eq,decide_eq_true_eq] at hchk
  obtain ⟨h1,h2⟩ := hchk
  obtain ⟨c,rfl,hc,hca,hct⟩ := bi1_eq hb
  simp only [opStep] at h
  obtain ⟨e,he⟩ := Option.isSome_iff_exists.1 h1
  split at h
  ·rename_i n hn
   injection h with h; injection h with e1 e2; subst e1; subst e2
   refine builtin_next hc (fun consts => by simp only [builtin,hct,hca]; rfl) ?_
   simpa using lenS_run (ty := ty) (sliceE_eq he) (chkX_ok hf h2) hn hR
  ·simp at h
 ·simp at hchk
theorem os_lenStr (hf : Fr cfg E κ fr a) (hR : κ.R E cfg.conc) {x : Opnd} {dst : Option Tmp} {oop : Op} {ty : TypeId} {pos : String} {after : Array Edge} {guard : Option (Nat × Bool)} (hchk : chkOp cfg P (.lenStr x) oop = true) {v : AVal} {σ' : Store} (h : opStep cfg callF d fr κ.σ (.lenStr x) = some (v,σ')) :
  GN P E cfg.conc κ (execOp a.eval ⟨dst,oop,ty,pos,after,guard⟩) v σ' := by
 simp only [chkOp] at hchk
 split at hchk
 ·rename_i y t hb
  simp only [Bool.and_eq_true,beq_iff_eq,decide_eq_true_eq] at hchk
  obtain ⟨h1,h2⟩ := hchk
  obtain ⟨c,rfl,hc,hca,hct⟩ := bi1_eq hb
  simp only [opStep] at h
  have hx := chkX_ok hf h2
  split at h
  ·rename_i s hn
   injection h with h; injection h with e1 e2; subst e1; subst e2
   rw [hn] at hx
   refine builtin_next hc (fun consts => by simp only [builtin,hct,hca]; rfl) ?_
   simpa using lenStr_run (ty := ty) (isStrT_eq h1) hx hR
  ·simp at h
 ·simp at hchk
theorem os_lenM (hf : Fr cfg E κ fr a) (hR : κ.R E cfg.conc) {x : Opnd} {dst : Option Tmp} {oop : Op} {ty : TypeId} {pos : String} {after : Array Edge} {guard : Option (Nat × Bool)} (hchk : chkOp cfg P (.lenM x) oop = true) {v : AVal} {σ' : Store} (h : opStep cfg callF d fr κ.σ (.lenM x) = some (v,σ')) :
  GN P E cfg.conc κ (execOp a.eval ⟨dst,oop,ty,pos,after,guard⟩) v σ' := by
 simp only [chkOp] at hchk
 split at hchk
 ·rename_i y t hb
  simp only [Bool.and_eq_true,beq_iff_eq,decide_eq_true_eq] at hchk
  obtain ⟨h1,h2⟩ := hchk
  obtain ⟨c,rfl,hc,hca,hct⟩ := bi1_eq hb
  simp only [opStep] at h
  obtain ⟨e,he⟩ := Option.isSome_iff_exists.1 h1
  split at h
  ·rename_i n hn
   injection h with h; injection h with e1 e2; subst e1; subst e2
   refine builtin_next hc (fun consts => by simp only [builtin,hct,hca]; rfl) ?_
   simpa using lenM_run (ty := ty) (mapE_eq he) (chkX_ok hf h2) hn hR
  ·simp at h
 ·simp at hchk
theorem os_lenA (hf : Fr cfg E κ fr a) (hR : κ.R E cfg.conc) {n : Nat} {dst : Option Tmp} {oop : Op} {ty : TypeId} {pos : String} {after : Array Edge} {guard : Option (Nat × Bool)} (hchk : chkOp cfg P (.lenA n) oop = true) {v : AVal} {σ' : Store} (h : opStep cfg callF d fr κ.σ (.lenA n) = some (v,σ')) :
  GN P E cfg.conc κ (execOp a.eval ⟨dst,oop,ty,pos,after,guard⟩) v σ' := by
 simp only [chkOp] at hchk
 split at hchk
 ·rename_i y t hb
  cases hs : arrayE P t with
  | none => simp [hs] at hchk
  | some e =>
   obtain ⟨m,e⟩ := e
   simp only [hs,beq_iff_eq] at hchk
   subst hchk
   obtain ⟨c,rfl,hc,hca,hct⟩ := bi1_eq hb
   simp only [opStep] at h
   injection h with h; injection h with e1 e2; subst e1; subst e2
   refine builtin_next hc (fun consts => by simp only [builtin,hct,hca]; rfl) ?_
   simpa using lenA_run (ty := ty) (ca := a.eval y) (.inl (arrayE_eq hs)) hR
 ·simp at hchk
theorem os_capS (hf : Fr cfg E κ fr a) (hR : κ.R E cfg.conc) {x : Opnd} {dst : Option Tmp} {oop : Op} {ty : TypeId} {pos : String} {after : Array Edge} {guard : Option (Nat × Bool)} (hchk : chkOp cfg P (.capS x) oop = true) {v : AVal} {σ' : Store} (h : opStep cfg callF d fr κ.σ (.capS x) = some (v,σ')) :
  GN P E cfg.conc κ (execOp a.eval ⟨dst,oop,ty,pos,after,guard⟩) v σ' := by
 simp only [chkOp] at hchk
 split at hchk
 ·rename_i y t hb
  simp only [Bool.and_eq_true,beq_iff_eq,decide_eq_true_eq] at hchk
  obtain ⟨h1,h2⟩ := hchk
  obtain ⟨c,rfl,hc,hca,hct⟩ := bi1_eq hb
  simp only [opStep] at h
  obtain ⟨e,he⟩ := Option.isSome_iff_exists.1 h1
  split at h
  ·rename_i n hn
   injection h with h; injection h with e1 e2; subst e1; subst e2
   refine builtin_next hc (fun consts => by simp only [builtin,hct,hca]; rfl) ?_
   simpa using capS_run (ty := ty) (sliceE_eq he) (chkX_ok hf h2) hn hR
  ·simp at h
 ·simp at hchk
theorem os_minI (hf : Fr cfg E κ fr a) (hR : κ.R E cfg.conc) {xs : List Opnd} {dst : Option Tmp} {oop : Op} {ty : TypeId} {pos : String} {after : Array Edge} {guard : Option (Nat × Bool)} (hchk : chkOp cfg P (.minI xs) oop = true) {v : AVal} {σ' : Store} (h : opStep cfg callF d fr κ.σ (.minI xs) = some (v,σ')) :
  GN P E cfg.conc κ (execOp a.eval ⟨dst,oop,ty,pos,after,guard⟩) v σ' := by
 simp only [chkOp] at hchk
 split at hchk
 ·rename_i ys ts hb
  obtain ⟨c,rfl,hc,hca,hct⟩ := biN_eq hb
  simp only [opStep] at h
  split at h
  ·rename_i x r
   obtain ⟨h0,rfl⟩ := withσ_some h; clear h; have h := h0
   cases ys with
   | nil => simp [chkXs] at hchk
   | cons y ys =>
    simp only [chkXs,Bool.and_eq_true] at hchk
    obtain ⟨cv,hrun,hcv⟩ := fold_min (P := P) (chkX_ok hf hchk.1) (chkXs_ok hf hchk.2) h
    refine builtin_next hc (fun consts => by simp only [builtin,hca]) (s := Builtin.min_ c.argTypes ty (((y :: ys).toArray).map a.eval)) ?_
    exact GV.pure hR (cv := cv) (fun w _ => by simp only [Builtin.min_,List.map_toArray,List.map_cons]; exact hrun w) hcv
  ·simp at h
 ·simp at hchk
theorem os_maxI (hf : Fr cfg E κ fr a) (hR : κ.R E cfg.conc) {xs : List Opnd} {dst : Option Tmp} {oop : Op} {ty : TypeId} {pos : String} {after : Array Edge} {guard : Option (Nat × Bool)} (hchk : chkOp cfg P (.maxI xs) oop = true) {v : AVal} {σ' : Store} (h : opStep cfg callF d fr κ.σ (.maxI xs) = some (v,σ')) :
  GN P E cfg.conc κ (execOp a.eval ⟨dst,oop,ty,pos,after,guard⟩) v σ' := by
 simp only [chkOp] at hchk
 split at hchk
 ·rename_i ys ts hb
  obtain ⟨c,rfl,hc,hca,hct⟩ := biN_eq hb
  simp only [opStep] at h
  split at h
  ·rename_i x r
   obtain ⟨h0,rfl⟩ := withσ_some h; clear h; have h := h0
   cases ys with
   | nil => simp [chkXs] at hchk
   | cons y ys =>
    simp only [chkXs,Bool.and_eq_true] at hchk
    obtain ⟨cv,hrun,hcv⟩ := fold_max (P := P) (chkX_ok hf hchk.1) (chkXs_ok hf hchk.2) h
    refine builtin_next hc (fun consts => by simp only [builtin,hca]) (s := Builtin.max_ c.argTypes ty (((y :: ys).toArray).map a.eval)) ?_
    exact GV.pure hR (cv := cv) (fun w _ => by simp only [Builtin.max_,List.map_toArray,List.map_cons]; exact hrun w) hcv
  ·simp at h
 ·simp at hchk
theorem os_append (hf : Fr cfg E κ fr a) (hR : κ.R E cfg.conc) {sz bytes : Nat} {x y : Opnd} {dst : Option Tmp} {oop : Op} {ty : TypeId} {pos : String} {after : Array Edge} {guard : Option (Nat × Bool)} (hchk : chkOp cfg P (.append sz bytes x y) oop = true) {v : AVal} {σ' : Store} (h : opStep cfg callF d fr κ.σ (.append sz bytes x y) = some (v,σ')) :
  GN P E cfg.conc κ (execOp a.eval ⟨dst,oop,ty,pos,after,guard⟩) v σ' := by
 simp only [chkOp] at hchk
 split at hchk
 ·rename_i x' y' t t2 hb
  simp only [Bool.and_eq_true,beq_iff_eq,decide_eq_true_eq] at hchk
  obtain ⟨⟨⟨⟨⟨⟨h1,h2⟩,h3⟩,h4⟩,h5⟩,h6⟩,h7⟩ := hchk
  obtain ⟨c,rfl,hc,hca,hct⟩ := bi2_eq hb
  simp only [opStep] at h
  obtain ⟨e2,he2⟩ := Option.isSome_iff_exists.1 h2
  cases hs : sliceE P t with
  | none => simp [hs] at h1
  | some e =>
   simp only [hs,Bool.and_eq_true,beq_iff_eq] at h1
   obtain ⟨⟨g1,g2⟩,g3⟩ := h1
   cases hz : zeroT P e with
   | none => simp [hz] at g3
   | some zc =>
    simp only [hz,beq_iff_eq] at g3
    obtain ⟨i,z,i1,i2,i3⟩ := zeroT_eq hz
    have hT : ElemT P t t2 e sz bytes := ⟨sliceE_eq hs,⟨e2,sliceE_eq he2⟩,⟨i,z,i1,by unfold sizeT at g1; simpa [i1] using g1,by unfold bytesT at g2; simpa [i1] using g2,i2,by rw [← Array.length_toList,i3]; exact g3⟩,h3,h4,h5⟩
    split at h
    ·rename_i ys hys
     refine builtin_next hc (fun consts => by simp only [builtin,hct,hca]; rfl) ?_
     simpa using append_run (ty := ty) hT (chkX_ok hf h6) (chkX_ok hf h7) hys h hR
    ·simp at h
 ·simp at hchk
theorem os_appendz (hf : Fr cfg E κ fr a) (hR : κ.R E cfg.conc) {sz bytes : Nat} {z : List AVal} {agg : Bool} {x y : Opnd} {dst : Option Tmp} {oop : Op} {ty : TypeId} {pos : String} {after : Array Edge} {guard : Option (Nat × Bool)} (hchk : chkOp cfg P (.appendz sz bytes z agg x y) oop = true) {v : AVal} {σ' : Store} (h : opStep cfg callF d fr κ.σ (.appendz sz bytes z agg x y) = some (v,σ')) :
  GN P E cfg.conc κ (execOp a.eval ⟨dst,oop,ty,pos,after,guard⟩) v σ' := by
 simp only [chkOp] at hchk
 split at hchk
 ·rename_i x' y' t t2 hb
  simp only [Bool.and_eq_true,beq_iff_eq,decide_eq_true_eq] at hchk
  obtain ⟨⟨⟨⟨⟨h1,h2⟩,h4⟩,h5⟩,h6⟩,h7⟩ := hchk
  obtain ⟨c,rfl,hc,hca,hct⟩ := bi2_eq hb
  simp only [opStep] at h
  have hx := chkX_ok hf h6
  have hy := chkX_ok hf h7
  obtain ⟨k2,hk2⟩ := Option.isSome_iff_exists.1 h2
  cases hs : sliceE P t with
  | none => simp [hs] at h1
  | some e =>
   simp only [hs,Bool.and_eq_true,beq_iff_eq] at h1
   obtain ⟨zc,z1,z2,z3,z4,z5,z6,z7⟩ := chkZ_ok h1.1
   obtain ⟨i,i1,i2⟩ := sizeT_eq z6
   have hby : i.bytes = bytes := by have := h1.2; unfold bytesT at this; simpa [i1] using this
   split at h
   ·rename_i n e1 e2
    rw [e1] at hx
    rw [e2] at hy
    split at h
    ·rename_i hn
     have hnil : a.eval x' = .slice none 0 0 := V_nilslice hx
     refine builtin_next hc (fun consts => by simp only [builtin,hct,hca]; rfl) ?_
     have := appendz_run (ty := ty) (sliceE_eq hs) (intT_eq hk2) i1 i2 hby z7 z1 z2 z3 z4 z5 h4 h5 hy hn.1 hn.2 hR h
     simpa [hnil] using this
    ·simp at h
   ·simp at h
 ·simp at hchk
theorem os_mkslice (hf : Fr cfg E κ fr a) (hR : κ.R E cfg.conc) {sz bytes : Nat} {z : List AVal} {agg : Bool} {l c : Opnd} {dst : Option Tmp} {oop : Op} {ty : TypeId} {pos : String} {after : Array Edge} {guard : Option (Nat × Bool)} (hchk : chkOp cfg P (.mkslice sz bytes z agg l c) oop = true) {v : AVal} {σ' : Store} (h : opStep cfg callF d fr κ.σ (.mkslice sz bytes z agg l c) = some (v,σ')) :
  GN P E cfg.conc κ (execOp a.eval ⟨dst,oop,ty,pos,after,guard⟩) v σ' := by
 simp only [chkOp] at hchk
 split at hchk
 ·rename_i t l' c'
  simp only [Bool.and_eq_true,beq_iff_eq,decide_eq_true_eq] at hchk
  obtain ⟨⟨⟨h1,h2⟩,h3⟩,h4⟩ := hchk
  simp only [opStep] at h
  have hx := chkX_ok hf h3
  have hy := chkX_ok hf h4
  cases hs : sliceE P t with
  | none => simp [hs] at h1
  | some e =>
   simp only [hs,Bool.and_eq_true,beq_iff_eq] at h1
   obtain ⟨zc,z1,z2,z3,z4,z5,z6,z7⟩ := chkZ_ok h1.1
   obtain ⟨i,i1,i2⟩ := sizeT_eq z6
   have hby : i.bytes = bytes := by have := h1.2; unfold bytesT at this; simpa [i1] using this
   split at h
   ·rename_i n c0 e1 e2
    rw [e1] at hx
    rw [e2] at hy
    split at h
    ·rename_i hn
     injection h with h; injection h with q1 q2; subst q1; subst q2
     exact GV.next (mkslice_run (sliceE_eq hs) i1 i2 hby z7 z1 z2 z3 z4 z5 hx hy hn.1 hn.2.1 h2 hn.2.2 hR)
    ·simp at h
   ·simp at h
 ·simp at hchk
theorem os_extract (hf : Fr cfg E κ fr a) (hR : κ.R E cfg.conc) {x : Opnd} {i : Nat} {dst : Option Tmp} {oop : Op} {ty : TypeId} {pos : String} {after : Array Edge} {guard : Option (Nat × Bool)} (hchk : chkOp cfg P (.extract x i) oop = true) {v : AVal} {σ' : Store} (h : opStep cfg callF d fr κ.σ (.extract x i) = some (v,σ')) :
  GN P E cfg.conc κ (execOp a.eval ⟨dst,oop,ty,pos,after,guard⟩) v σ' := by
 simp only [chkOp] at hchk
 split at hchk
 ·rename_i y j
  simp only [Bool.and_eq_true,beq_iff_eq,decide_eq_true_eq] at hchk
  obtain ⟨rfl,h2⟩ := hchk
  simp only [opStep] at h
  have hx := chkX_ok hf h2
  split at h
  ·rename_i vs hv
   rw [hv] at hx
   obtain ⟨h0,rfl⟩ := withσ_some h; clear h; have h := h0
   exact GV.next (extract_run hx h hR)
  ·simp at h
 ·simp at hchk
theorem os_mkfunc (hf : Fr cfg E κ fr a) (hR : κ.R E cfg.conc) {f : FuncId} {first caps : List Opnd} {dst : Option Tmp} {oop : Op} {ty : TypeId} {pos : String} {after : Array Edge} {guard : Option (Nat × Bool)} (hchk : chkOp cfg P (.mkfunc f first caps) oop = true) {v : AVal} {σ' : Store} (h : opStep cfg callF d fr κ.σ (.mkfunc f first caps) = some (v,σ')) :
  GN P E cfg.conc κ (execOp a.eval ⟨dst,oop,ty,pos,after,guard⟩) v σ' := by
 simp only [chkOp] at hchk
 split at hchk
 ·rename_i g first' caps'
  simp only [Bool.and_eq_true,beq_iff_eq,decide_eq_true_eq] at hchk
  obtain ⟨⟨rfl,h2⟩,h3⟩ := hchk
  simp only [opStep] at h
  injection h with h; injection h with e1 e2; subst e1; subst e2
  have := mkfunc_run (f := f) (chkXs_ok hf h2) (chkXs_ok hf h3) hR (P := P)
  have e1 : first'.toList.map a.eval = (first'.map a.eval).toList := by simp
  have e2 : caps'.toList.map a.eval = (caps'.map a.eval).toList := by simp
  rw [e1,e2,Array.toArray_toList,Array.toArray_toList] at this
  exact GV.next this
 ·simp at hchk
theorem os_mkmap (hf : Fr cfg E κ fr a) (hR : κ.R E cfg.conc) {dst : Option Tmp} {oop : Op} {ty : TypeId} {pos : String} {after : Array Edge} {guard : Option (Nat × Bool)} (hchk : chkOp cfg P (.mkmap ) oop = true) {v : AVal} {σ' : Store} (h : opStep cfg callF d fr κ.σ (.mkmap ) = some (v,σ')) :
  GN P E cfg.conc κ (execOp a.eval ⟨dst,oop,ty,pos,after,guard⟩) v σ' := by
 simp only [chkOp] at hchk
 split at hchk
 ·rename_i t
  simp only [opStep] at h
  injection h with h; injection h with e1 e2; subst e1; subst e2
  exact GV.next (mkmap_run (t := t) (r := none) (fun w => by simp [Instr.makeMap]) hR)
 ·simp at hchk
theorem os_lookup (hf : Fr cfg E κ fr a) (hR : κ.R E cfg.conc) {agg : Bool} {q : List EK} {z : AVal} {x k : Opnd} {ok : Bool} {dst : Option Tmp} {oop : Op} {ty : TypeId} {pos : String} {after : Array Edge} {guard : Option (Nat × Bool)} (hchk : chkOp cfg P (.lookup agg q z x k ok) oop = true) {v : AVal} {σ' : Store} (h : opStep cfg callF d fr κ.σ (.lookup agg q z x k ok) = some (v,σ')) :
  GN P E cfg.conc κ (execOp a.eval ⟨dst,oop,ty,pos,after,guard⟩) v σ' := by
 simp only [chkOp] at hchk
 split at hchk
 ·rename_i t x' k' ok'
  simp only [Bool.and_eq_true,beq_iff_eq,decide_eq_true_eq] at hchk
  obtain ⟨⟨⟨h1,rfl⟩,h3⟩,h4⟩ := hchk
  simp only [opStep] at h
  obtain ⟨h0,rfl⟩ := withσ_some h; clear h; have h := h0
  cases hs : mapE P t with
  | none => simp [hs] at h1
  | some e =>
   obtain ⟨kt,et⟩ := e
   simp only [hs,Bool.and_eq_true] at h1
   obtain ⟨g1,g2⟩ := h1
   cases hi : P.info? et with
   | none => simp [hi] at g2
   | some i =>
    simp only [hi,Option.bind_some] at g2
    cases hz : i.zero with
    | none => simp [hz] at g2
    | some zv =>
     simp only [hz] at g2
     exact GV.next (lookup_run (mapE_eq hs) (chkMapKey_ok g1) hi hz g2 (chkX_ok hf h3) (chkX_ok hf h4) h hR)
 ·simp at hchk
theorem os_mapset (hf : Fr cfg E κ fr a) (hR : κ.R E cfg.conc) {agg : Bool} {q : List EK} {m k x : Opnd} {dst : Option Tmp} {oop : Op} {ty : TypeId} {pos : String} {after : Array Edge} {guard : Option (Nat × Bool)} (hchk : chkOp cfg P (.mapset agg q m k x) oop = true) {v : AVal} {σ' : Store} (h : opStep cfg callF d fr κ.σ (.mapset agg q m k x) = some (v,σ')) :
  GN P E cfg.conc κ (execOp a.eval ⟨dst,oop,ty,pos,after,guard⟩) v σ' := by
 simp only [chkOp] at hchk
 simp only [opStep] at h
 obtain ⟨h0,rfl⟩ := unitσ_some h; clear h; have h := h0
 split at hchk
 ·rename_i t m' k' v'
  simp only [Bool.and_eq_true] at hchk
  obtain ⟨⟨⟨h1,h2⟩,h3⟩,h4⟩ := hchk
  cases hs : mapE P t with
  | none => simp [hs] at h1
  | some e =>
   simp only [hs] at h1
   exact GU.next (mapset_run (mapE_eq hs) (chkMapKey_ok h1) (chkX_ok hf h2) (chkX_ok hf h3) (chkX_ok hf h4) h hR)
 ·rename_i t m' k' v'
  simp only [Bool.and_eq_true] at hchk
  obtain ⟨⟨⟨h1,h2⟩,h3⟩,h4⟩ := hchk
  cases hs : mapE P t with
  | none => simp [hs] at h1
  | some e =>
   simp only [hs] at h1
   exact GU.next (mapset_run (mapE_eq hs) (chkMapKey_ok h1) (chkX_ok hf h2) (chkX_ok hf h3) (chkX_ok hf h4) h hR)
 ·simp at hchk
theorem os_mapdel (hf : Fr cfg E κ fr a) (hR : κ.R E cfg.conc) {agg : Bool} {q : List EK} {m k : Opnd} {dst : Option Tmp} {oop : Op} {ty : TypeId} {pos : String} {after : Array Edge} {guard : Option (Nat × Bool)} (hchk : chkOp cfg P (.mapdel agg q m k) oop = true) {v : AVal} {σ' : Store} (h : opStep cfg callF d fr κ.σ (.mapdel agg q m k) = some (v,σ')) :
  GN P E cfg.conc κ (execOp a.eval ⟨dst,oop,ty,pos,after,guard⟩) v σ' := by
 simp only [chkOp] at hchk
 split at hchk
 ·rename_i m' k' t t2 hb
  simp only [Bool.and_eq_true,beq_iff_eq,decide_eq_true_eq] at hchk
  obtain ⟨⟨h1,h2⟩,h3⟩ := hchk
  obtain ⟨c,rfl,hc,hca,hct⟩ := bi2_eq hb
  simp only [opStep] at h
  obtain ⟨h0,rfl⟩ := unitσ_some h; clear h; have h := h0
  cases hs : mapE P t with
  | none => simp [hs] at h1
  | some e =>
   simp only [hs] at h1
   refine builtin_next hc (fun consts => by simp only [builtin,hct,hca]; rfl) ?_
   simpa using mapdel_run (ty := ty) (t2 := t2) (mapE_eq hs) (chkMapKey_ok h1) (chkX_ok hf h2) (chkX_ok hf h3) h hR
 ·simp at hchk
theorem os_clr (hf : Fr cfg E κ fr a) (hR : κ.R E cfg.conc) {sz : Nat} {z : List AVal} {agg : Bool} {x : Opnd} {dst : Option Tmp} {oop : Op} {ty : TypeId} {pos : String} {after : Array Edge} {guard : Option (Nat × Bool)} (hchk : chkOp cfg P (.clr sz z agg x) oop = true) {v : AVal} {σ' : Store} (h : opStep cfg callF d fr κ.σ (.clr sz z agg x) = some (v,σ')) :
  GN P E cfg.conc κ (execOp a.eval ⟨dst,oop,ty,pos,after,guard⟩) v σ' := by
 simp only [chkOp] at hchk
 split at hchk
 ·rename_i y t hb
  simp only [Bool.and_eq_true] at hchk
  obtain ⟨h1,h2⟩ := hchk
  obtain ⟨c,rfl,hc,hca,hct⟩ := bi1_eq hb
  simp only [opStep] at h
  obtain ⟨h0,rfl⟩ := unitσ_some h; clear h
  cases hs : sliceE P t with
  | none => simp [hs] at h1
  | some e =>
   simp only [hs] at h1
   obtain ⟨zc,z1,z2,z3,z4,z5,z6,z7⟩ := chkZ_ok h1
   refine builtin_next hc (fun consts => by simp only [builtin,hct,hca]; rfl) ?_
   simpa using clr_run (ty := ty) (sliceE_eq hs) z7 z1 z2 z3 z4 z5 (chkX_ok hf h2) h0 hR
 ·simp at hchk
theorem os_rangeM (hf : Fr cfg E κ fr a) (hR : κ.R E cfg.conc) {x : Opnd} {dst : Option Tmp} {oop : Op} {ty : TypeId} {pos : String} {after : Array Edge} {guard : Option (Nat × Bool)} (hchk : chkOp cfg P (.rangeM x) oop = true) {v : AVal} {σ' : Store} (h : opStep cfg callF d fr κ.σ (.rangeM x) = some (v,σ')) :
  GN P E cfg.conc κ (execOp a.eval ⟨dst,oop,ty,pos,after,guard⟩) v σ' := by
 simp only [chkOp] at hchk
 split at hchk
 ·rename_i t y
  simp only [Bool.and_eq_true] at hchk
  obtain ⟨h1,h2⟩ := hchk
  obtain ⟨⟨kt,et⟩,hm⟩ := Option.isSome_iff_exists.1 h1
  simp only [opStep] at h
  obtain ⟨h0,rfl⟩ := withσ_some h; clear h; have h := h0
  exact GV.next (rangeM_run (mapE_eq hm) (chkX_ok hf h2) h hR)
 ·simp at hchk
theorem os_nextM (hf : Fr cfg E κ fr a) (hR : κ.R E cfg.conc) {x : Opnd} {dst : Option Tmp} {oop : Op} {ty : TypeId} {pos : String} {after : Array Edge} {guard : Option (Nat × Bool)} (hchk : chkOp cfg P (.nextM x) oop = true) {v : AVal} {σ' : Store} (h : opStep cfg callF d fr κ.σ (.nextM x) = some (v,σ')) :
  GN P E cfg.conc κ (execOp a.eval ⟨dst,oop,ty,pos,after,guard⟩) v σ' := by
 simp only [chkOp] at hchk
 split at hchk
 ·rename_i y
  simp only [opStep] at h
  obtain ⟨h0,rfl⟩ := withσ_some h; clear h; have h := h0
  exact GV.next (nextM_run (chkX_ok hf hchk) h hR)
 ·simp at hchk
theorem os_mkiface (hf : Fr cfg E κ fr a) (hR : κ.R E cfg.conc) {t : TypeId} {x : Opnd} {dst : Option Tmp} {oop : Op} {ty : TypeId} {pos : String} {after : Array Edge} {guard : Option (Nat × Bool)} (hchk : chkOp cfg P (.mkiface t x) oop = true) {v : AVal} {σ' : Store} (h : opStep cfg callF d fr κ.σ (.mkiface t x) = some (v,σ')) :
  GN P E cfg.conc κ (execOp a.eval ⟨dst,oop,ty,pos,after,guard⟩) v σ' := by
 simp only [chkOp] at hchk
 split at hchk
 ·rename_i t' y
  simp only [Bool.and_eq_true,beq_iff_eq,decide_eq_true_eq] at hchk
  obtain ⟨⟨rfl,h2⟩,h3⟩ := hchk
  simp only [opStep] at h
  injection h with h; injection h with e1 e2; subst e1; subst e2
  exact GV.next (mkiface_run h2 (chkX_ok hf h3) hR)
 ·simp at hchk
theorem op_sound (hf : Fr cfg E κ fr a) (hR : κ.R E cfg.conc) {op : AOp} {o : Oper} (hnc : isCall op = false) (hchk : chkOp cfg P op o.op = true) {v : AVal} {σ' : Store} (h : opStep cfg callF d fr κ.σ op = some (v,σ')) :
  GN P E cfg.conc κ (execOp a.eval o) v σ' := by
 obtain ⟨dst,oop,ty,pos,after,guard⟩ := o
 cases op with
 | move => exact os_move hf hR hchk h
 | pick => exact os_pick hf hR hchk h
 | alloc => exact os_alloc hf hR hchk h
 | box => exact os_box hf hR hchk h
 | build => exact os_build hf hR hchk h
 | lit => exact os_lit hf hR hchk h
 | litA => exact os_litA hf hR hchk h
 | load => exact os_load hf hR hchk h
 | store => exact os_store hf hR hchk h
 | nilCheck => exact os_nilCheck hf hR hchk h
 | iop => exact os_iop hf hR hchk h
 | sop => exact os_sop hf hR hchk h
 | bop => exact os_bop hf hR hchk h
 | eqs => exact os_eqs hf hR hchk h
 | eqnil => exact os_eqnil hf hR hchk h
 | not => exact os_not hf hR hchk h
 | neg => exact os_neg hf hR hchk h
 | convI => exact os_convI hf hR hchk h
 | sliceOp => exact os_sliceOp hf hR hchk h
 | substr => exact os_substr hf hR hchk h
 | gslice => exact os_gslice hf hR hchk h
 | faddr => exact os_faddr hf hR hchk h
 | field => exact os_field hf hR hchk h
 | iaddr => exact os_iaddr hf hR hchk h
 | aaddr => exact os_aaddr hf hR hchk h
 | strIdx => exact os_strIdx hf hR hchk h
 | arrIdx => exact os_arrIdx hf hR hchk h
 | lenS => exact os_lenS hf hR hchk h
 | lenStr => exact os_lenStr hf hR hchk h
 | lenM => exact os_lenM hf hR hchk h
 | lenA => exact os_lenA hf hR hchk h
 | capS => exact os_capS hf hR hchk h
 | minI => exact os_minI hf hR hchk h
 | maxI => exact os_maxI hf hR hchk h
 | append => exact os_append hf hR hchk h
 | appendz => exact os_appendz hf hR hchk h
 | mkslice => exact os_mkslice hf hR hchk h
 | extract => exact os_extract hf hR hchk h
 | mkfunc => exact os_mkfunc hf hR hchk h
 | mkmap => exact os_mkmap hf hR hchk h
 | lookup => exact os_lookup hf hR hchk h
 | mapset => exact os_mapset hf hR hchk h
 | mapdel => exact os_mapdel hf hR hchk h
 | clr => exact os_clr hf hR hchk h
 | rangeM => exact os_rangeM hf hR hchk h
 | nextM => exact os_nextM hf hR hchk h
 | mkiface => exact os_mkiface hf hR hchk h
 | fail => simp at h
 | call => simp [isCall] at hnc
 | callv => simp [isCall] at hnc
end
abbrev Rest := Os × Array (Nat × ByteArray)
def Wh (r : Rest) (w : World) (h : Array Obj) : Prop := w.heap = h ∧ w.os = r.1 ∧ w.output = r.2
def Wp1 (P : Program) (E : Env) (cf : FuncId → FuncId) (κ : K) (a : Act) (o : Oper) (v : AVal) (σ' : Store) : Prop :=
 ∀ (r : Rest) (w : World) (Q : Exit → Act → World → Prop) (next : Act → World → Prop),Wh r w κ.h →
  (∀ (cv : Value) (w' : World) (κ' : K),Wh r w' κ'.h → κ'.σ = σ' → κ.Le κ' → κ'.R E cf → κ'.V E cf v cv → next (a.put o.dst cv) w') → o.wp P a w next Q
theorem Wp1.of_GN {P : Program} {E : Env} {cf : FuncId → FuncId} {κ : K} {a : Act} {o : Oper} {v : AVal} {σ' : Store} (h : GN P E cf κ (execOp a.eval o) v σ') : Wp1 P E cf κ a o v σ' := by
 intro r w Q next hw hn
 obtain ⟨nx,w',κ',h1,h2',h3,h4,h5,h6⟩ := h w hw.1
 have h2 : Wh r w' κ'.h := ⟨h2'.1,h2'.2.1.trans hw.2.1,h2'.2.2.trans hw.2.2⟩
 unfold Oper.wp
 rw [h1]
 rcases h6 with ⟨cv,rfl,hv⟩ | ⟨rfl,rfl⟩
 ·rw [Oper.upon_value]
  exact hn cv w' κ' h2 h3 h4 h5 hv
 ·rw [Oper.upon_skip]
  exact hn undef w' κ' h2 h3 h4 h5 (.tuple _ [] [] (.nil _))
def Gl (cfg : Cfg) (E : Env) (κ : K) : Prop := ∀ g cs,cfg.glob g = some cs → VRel cfg.conc κ.h (κ.safe E) noIds (.fptr 0 cs 0) (.pointer (some ⟨g,0,none⟩))
theorem Gl.le {cfg : Cfg} {E : Env} {κ κ' : K} (hR : κ.Lb) (hle : κ.Lw κ') (h : Gl cfg E κ) : Gl cfg E κ' := fun g cs hg => VRel.mono (K.safe_le hle) (Ids.le_refl _) (h g cs hg)
def CallOk (P : Program) (cfg : Cfg) (callF : CallF) : Prop :=
 ∀ d f args σ v σ',callF d f args σ = some (v,σ') →
  (∃ F, P.funcs[cfg.conc f]? = some F ∧ F.name ≠ "runtime.NumGoroutine" ∧ F.body.isSome = true) ∧
  ∀ (E : Env) (κ : K) (cargs : List Value),E.d = d → κ.σ = σ → κ.R E cfg.conc → Gl cfg E κ → κ.VL E cfg.conc args cargs → ∀ (r : Rest) (w : World),Wh r w κ.h →
   Calls P (cfg.conc f) cargs.toArray w fun
    | .returned cv,w' => ∃ κ' : K,Wh r w' κ'.h ∧ κ'.σ = σ' ∧ κ.Le κ' ∧ κ'.R E cfg.conc ∧ κ'.V E cfg.conc v cv
    | _,_ => False
def NatOk (P : Program) (cfg : Cfg) (f : FuncId) (g : List AVal → Store → Option (AVal × Store)) : Prop :=
 ∀ args σ v σ',g args σ = some (v,σ') →
  (∃ F, P.funcs[cfg.conc f]? = some F ∧ F.name ≠ "runtime.NumGoroutine" ∧ F.body.isSome = true) ∧
  ∀ (E : Env) (κ : K) (cargs : List Value),κ.σ = σ → κ.R E cfg.conc → κ.VL E cfg.conc args cargs → ∀ (r : Rest) (w : World),Wh r w κ.h →
   Calls P (cfg.conc f) cargs.toArray w fun
    | .returned cv,w' => ∃ κ' : K,Wh r w' κ'.h ∧ κ'.σ = σ' ∧ κ.Le κ' ∧ κ'.R E cfg.conc ∧ κ'.V E cfg.conc v cv
    | _,_ => False
section
variable {P : Program} {cfg : Cfg} {callF : CallF} {E : Env} {κ : K}
def isoE (κ : K) (E : Env) : Env := ⟨E.d + 1,fun k b => (k = E.d ∧ κ.own b) ∨ (k < E.d ∧ E.out k b)⟩
def isoK (κ : K) : K := ⟨κ.h,[],κ.loc,κ.h.size,fun _ => False⟩
theorem isoK_own (b : Nat) : ¬ (isoK κ).own b := fun ⟨id,h,_⟩ => by have := h.1; simp [isoK] at this
theorem isoK_safe {t b : Nat} (h : κ.safe E t b) : (isoK κ).safe (isoE κ E) t b :=
 ⟨h.1,isoK_own b,fun k hk hlt ho => by
  rcases ho with ⟨rfl,ho⟩ | ⟨hk',ho⟩
  ·exact h.2.1 ho
  ·exact h.2.2 k hk hk' ho⟩
theorem isoK_R (hR : κ.R E cfg.conc) : (isoK κ).R (isoE κ E) cfg.conc where
 ok := fun k b _ ho => by
  rcases ho with ⟨rfl,id,hid,rfl⟩ | ⟨hk',ho⟩
  ·exact (hR.lb id hid).2
  ·exact Nat.lt_of_lt_of_le (hR.ok k b hk' ho) hR.base
 obj := fun id o h => by simp [isoK] at h
 inj := fun i j hi => by have := hi.1; simp [isoK] at this
 pl := fun i hi => hi.elim
 lb := fun i hi => by have := hi.1; simp [isoK] at this
 base := Nat.le_refl _
theorem isoK_gl (h : Gl cfg E κ) : Gl cfg (isoE κ E) (isoK κ) := by
 intro g cs hg
 have := h g cs hg
 generalize hv : AVal.fptr 0 cs 0 = av at this
 generalize hc : Value.pointer (some ⟨g,0,none⟩) = cv at this
 cases this with
 | fptr _ _ _ _ b o vs hs hl h1 h2 hr =>
  cases hv
  exact .fptr _ _ _ _ _ _ _ (isoK_safe hs) (VRelL.mono (fun t b h => ⟨isoK_safe h,rfl⟩) (Ids.le_refl _) hl) h1 h2 hr
 | _ => cases hv
theorem iso_back (hR : κ.R E cfg.conc) {κ1 : K} (hle : (isoK κ).Le κ1) (hR1 : κ1.R (isoE κ E) cfg.conc) :
    κ.Le ⟨κ1.h, κ.σ, κ.loc, κ.base, κ.pend⟩ ∧ (⟨κ1.h, κ.σ, κ.loc, κ.base, κ.pend⟩ : K).R E cfg.conc := by
  have hkeep : ∀ b, b < κ.h.size → κ1.h[b]? = κ.h[b]? := fun b hb => (hle.keep b hb (isoK_own b)).1
  have hLe : κ.Le ⟨κ1.h, κ.σ, κ.loc, κ.base, κ.pend⟩ :=
    { base := rfl
      size := hle.size
      keep := fun b hb ho => ⟨hkeep b hb, ho⟩
      len := Nat.le_refl _
      pend := fun _ _ h => ⟨h, rfl⟩
      hold := fun _ h => h
      cells := fun _ cs h _ => ⟨⟨cs, h⟩, rfl⟩
      map := fun _ ks vs h _ => ⟨⟨ks, vs, h⟩, rfl⟩
      arr := fun id sz es ep fl h hp => by
        have hk := hkeep (κ.loc id) (hR.lb id (K.live_of h hp)).2
        exact ⟨es, ep, fl, h, Nat.le_refl _, Nat.le_refl _, Nat.le_refl _, fun _ => ⟨rfl, rfl, fun vs e f hv => ⟨vs, e, f, by rw [← hk]; exact hv, rfl⟩⟩,
          fun _ _ => .inl rfl, fun _ j _ => cellAt_congr hk j⟩ }
  refine ⟨hLe, { ok := hR.ok, obj := fun id o h hp => ?_, inj := hR.inj, pl := hR.pl, lb := fun i hi => ⟨(hR.lb i hi).1, Nat.lt_of_lt_of_le (hR.lb i hi).2 hle.size⟩, base := Nat.le_trans hR.base hle.size }⟩
  have hk := hkeep (κ.loc id) (hR.lb id (K.live_of h hp)).2
  have hO := hR.obj id o h hp
  cases o with
  | cells cs =>
    obtain ⟨h1, vs, e, h2, h3⟩ := hO
    exact ⟨h1, vs, e, hk.trans h2, K.VL.le hR.lb hLe h3⟩
  | arr sz es ep fl =>
    obtain ⟨h1, h2, h3, vs, e, us, rest, h4, h5, h6⟩ := hO
    exact ⟨h1, h2, h3, vs, e, us, rest, hk.trans h4, h5, K.VL.le hR.lb hLe h6⟩
  | map ks vs =>
    obtain ⟨es, clock, h1, h2, h3, h4⟩ := hO
    exact ⟨es, clock, hk.trans h1, K.VL.le hR.lb hLe h2, K.VL.le hR.lb hLe h3, h4⟩
theorem doCall_ok (hc : CallOk P cfg callF) (hR : κ.R E cfg.conc) (hg : Gl cfg E κ) {m : Mode} {f : FuncId} {args : List AVal} {cargs : List Value} {v : AVal} {σ' : Store}
  (ha : κ.VL E cfg.conc args cargs) (h : doCall callF E.d m f args κ.σ = some (v,σ')) :
  (∃ F, P.funcs[cfg.conc f]? = some F ∧ F.name ≠ "runtime.NumGoroutine" ∧ F.body.isSome = true) ∧
  ∀ (r : Rest) (w : World),Wh r w κ.h →
   Calls P (cfg.conc f) cargs.toArray w fun
    | .returned cv,w' => ∃ κ' : K,Wh r w' κ'.h ∧ κ'.σ = σ' ∧ κ.Le κ' ∧ κ'.R E cfg.conc ∧ κ'.V E cfg.conc v cv
    | _,_ => False := by
 cases m with
 | shared =>
  simp only [doCall] at h
  obtain ⟨h1,h2⟩ := hc _ _ _ _ _ _ h
  exact ⟨h1,fun r w hw => h2 E κ cargs rfl rfl hR hg ha r w hw⟩
 | iso =>
  simp only [doCall] at h
  split at h
  ·rename_i args' hargs
   split at h
   ·rename_i v1 σ1 hrun
    split at h
    ·rename_i v' hv'
     split at h
     ·rename_i htag
      injection h with h
      injection h with e1 e2
      subst e1; subst e2
      obtain ⟨h1,h2⟩ := hc _ _ _ _ _ _ hrun
      refine ⟨h1,fun r w hw => ?_⟩
      have hfz := frz_ok hR (t0 := E.d + 1) (S' := fun t b => (isoK κ).safe (isoE κ E) t b) (fun t b hs => isoK_safe hs)
       (fun b _ hb => ⟨hb,isoK_own b,fun k hk hlt _ => by simp only [isoE] at hlt; omega⟩)
       (fun t t' b ht hs => ⟨hs.1,hs.2.1,fun k hk hlt => hs.2.2 k (Nat.le_trans ht hk) hlt⟩) frzFuel
      have hargs' := hfz.list ha hargs
      have hargs'' : (isoK κ).VL (isoE κ E) cfg.conc args' cargs := VRelL.mono (fun t b h => ⟨h,rfl⟩) (noIds_le _) hargs'
      refine Calls.mono (h2 (isoE κ E) (isoK κ) cargs rfl rfl (isoK_R hR) (isoK_gl hg) hargs'' r w hw) fun e w' he => ?_
      cases e with
      | returned cv =>
       obtain ⟨κ1,k1,k2,k3,k4,k5⟩ := he
       obtain ⟨hLe,hR2⟩ := iso_back hR k3 k4
       have hb1 : κ1.base = κ.h.size := k3.base
       refine ⟨⟨κ1.h,κ.σ,κ.loc,κ.base,κ.pend⟩,k1,rfl,hLe,hR2,?_⟩
       have hfz2 := frz_ok k4 (t0 := 0) (S' := fun t b => κ1.safe (isoE κ E) t b ∨ (κ1.base ≤ b ∧ b < κ1.h.size)) (fun t b hs => .inl hs)
        (fun b hb hs => .inr ⟨hb,hs⟩)
        (fun t t' b ht hs => hs.imp (fun hs => ⟨hs.1,hs.2.1,fun k hk hlt => hs.2.2 k (Nat.le_trans ht hk) hlt⟩) (fun hs => hs)) frzFuel
       rw [← k2] at hv'
       have hvr := hfz2.ok _ _ _ k5 hv'
       refine VRel.retag (d := E.d) (fun t b ht hs => ⟨?_,rfl⟩) hvr htag (noIds_le _)
       have hno : b < κ1.h.size ∧ ¬ κ.own b ∧ ∀ k,t ≤ k → k < E.d → ¬ E.out k b := by
        rcases hs with hs | ⟨hs1,hs2⟩
        ·exact ⟨hs.1,fun ho => hs.2.2 E.d ht (Nat.lt_succ_self _) (.inl ⟨rfl,ho⟩),fun k hk hlt ho => hs.2.2 k hk (Nat.lt_succ_of_lt hlt) (.inr ⟨hlt,ho⟩)⟩
        ·rw [hb1] at hs1
         refine ⟨hs2,fun ⟨id,hid,hl⟩ => ?_,fun k hk hlt ho => ?_⟩
         ·have := (hR.lb id hid).2; omega
         ·have := hR.ok k b hlt ho; have := hR.base; omega
       exact hno
      | panicked c => exact he.elim
      | outgrown => exact he.elim
     ·simp at h
    ·simp at h
   ·simp at h
  ·simp at h
def chkO (cfg : Cfg) (P : Program) (op : AOp) (oop : Op) : Bool :=
 match op,oop with
 | .call _ f args,.call c => (match c.callee with | .value (.func g) => cfg.conc f == g | _ => false) && chkXs cfg args c.args.toList
 | .callv _ f args,.call c => (match c.callee with | .value x => chkX cfg f x | _ => false) && chkXs cfg args c.args.toList
 | op,oop => !isCall op && chkOp cfg P op oop
theorem callFunc_run {f : FuncId} {args : Array Value} (h : ∃ F, P.funcs[f]? = some F ∧ F.name ≠ "runtime.NumGoroutine" ∧ F.body.isSome = true) (w : World) : (callFunc f args).run P w = .ok (.enter f args) w := by
 obtain ⟨F,h1,h2,h3⟩ := h
 have h4 : F.body.isNone = false := by cases hb : F.body <;> simp_all
 simp only [callFunc]
 simp [h1,h2,h4,Result.andThen,-Option.isNone_iff_eq_none]
theorem op1_sound {fr : List AVal} {a : Act} {d : Nat} (hc : CallOk P cfg callF) (hd : E.d = d) (hf : Fr cfg E κ fr a) (hR : κ.R E cfg.conc) {op : AOp} {o : Oper} (hchk : chkO cfg P op o.op = true) {v : AVal} {σ' : Store}
  (h : opStep cfg callF d fr κ.σ op = some (v,σ')) : Wp1 P E cfg.conc κ a o v σ' := by
 subst hd
 obtain ⟨dst,oop,ty,pos,after,guard⟩ := o
 have key : ∀ {f : FuncId} {m : Mode} {args : List AVal} {cargs : List Value} {c : Call},oop = .call c → (∀ w,(do let d ← resolve a.eval c ty; invoke d.target d.args : Sem Next).run P w = (callFunc (cfg.conc f) cargs.toArray).run P w) →
   κ.VL E cfg.conc args cargs → doCall callF E.d m f args κ.σ = some (v,σ') → Wp1 P E cfg.conc κ a ⟨dst,oop,ty,pos,after,guard⟩ v σ' := by
  intro f m args cargs c hop hrun hl hcall r w Q next hw hn
  subst hop
  obtain ⟨h1,h2⟩ := doCall_ok hc hR hf.gl hl hcall
  unfold Oper.wp
  simp only [execOp]
  rw [hrun w,callFunc_run h1,Oper.upon_enter]
  refine Calls.mono (h2 r w hw) fun e w' he => ?_
  cases e with
  | returned cv =>
   obtain ⟨κ',k1,k2,k3,k4,k5⟩ := he
   exact hn cv w' κ' k1 k2 k3 k4 k5
  | panicked c => exact he.elim
  | outgrown => exact he.elim
 replace hchk : chkO cfg P op oop = true := hchk
 unfold chkO at hchk
 split at hchk
 ·rename_i m f args c
  simp only [Bool.and_eq_true] at hchk
  obtain ⟨h1,h2⟩ := hchk
  split at h1
  ·rename_i g hg
   simp only [beq_iff_eq] at h1
   subst h1
   refine key (f := f) (m := m) (args := args.map (ev cfg fr)) (cargs := (c.args.map a.eval).toList) rfl (fun w => ?_) (by rw [Array.toList_map]; exact chkXs_ok hf h2) (by simpa using h)
   rw [Array.toArray_toList]
   simp [resolve,hg,Deferred.ofValue,Act.eval,invoke,Result.andThen]
  ·simp at h1
 ·rename_i m f args c
  simp only [Bool.and_eq_true] at hchk
  obtain ⟨h1,h2⟩ := hchk
  split at h1
  ·rename_i x hx
   simp only [opStep] at h
   split at h
   ·rename_i g first caps hfv
    have hv := chkX_ok hf h1
    rw [hfv] at hv
    generalize hxx : a.eval x = cx at hv
    cases hv with
    | func _ _ _ _ vs us hvs hus =>
    refine key (f := g) (m := m) (args := first ++ args.map (ev cfg fr) ++ caps) (cargs := vs ++ (c.args.map a.eval).toList ++ us) rfl (fun w => ?_) (VL_append (VL_append hvs (by rw [Array.toList_map]; exact chkXs_ok hf h2)) hus) h
    have e : (vs ++ (c.args.map a.eval).toList ++ us).toArray = vs.toArray ++ c.args.map a.eval ++ us.toArray := by
     apply Array.ext'; simp only [Array.toList_append,List.toList_toArray]
    rw [e]
    simp [resolve,hx,hxx,Deferred.ofValue,invoke,Result.andThen]
   ·simp at h
  ·simp at h1
 ·simp only [Bool.and_eq_true,Bool.not_eq_true'] at hchk
  exact Wp1.of_GN (op_sound (callF := callF) (d := E.d) hf hR hchk.1 hchk.2 h)
end
def Opnd.slots : Opnd → List Nat
 | .tmp t => [t]
 | _ => []
def Opnd.slotsO : Option Opnd → List Nat
 | some x => x.slots
 | none => []
def AOp.reads : AOp → List Nat
 | .move x | .box x | .load _ _ x | .nilCheck x | .eqnil _ _ x | .not x | .neg x | .convI _ x | .faddr _ x | .gslice _ _ x | .field _ _ _ x | .lenS x | .lenStr x | .lenM x | .capS x | .extract x _ | .mkiface _ x | .clr _ _ _ x | .rangeM x | .nextM x => x.slots
 | .pick c a b => c.slots ++ (a.slots ++ b.slots)
 | .alloc _ | .lenA _ | .mkmap | .fail => []
 | .build _ parts => parts.flatMap fun p => p.2.2.slots
 | .lit _ _ _ _ parts | .litA _ _ _ _ parts => parts.flatMap fun p => p.2.slots
 | .store _ a v => a.slots ++ v.slots
 | .iop _ x y | .sop _ x y | .bop _ x y | .eqs _ _ x y | .iaddr _ x y | .aaddr _ _ x y | .strIdx x y | .arrIdx _ _ _ x y | .append _ _ x y | .appendz _ _ _ _ x y | .mkslice _ _ _ _ x y | .lookup _ _ _ x y _ | .mapdel _ _ x y => x.slots ++ y.slots
 | .sliceOp _ x a b c => x.slots ++ (Opnd.slotsO a ++ (Opnd.slotsO b ++ Opnd.slotsO c))
 | .substr x a b => x.slots ++ (Opnd.slotsO a ++ Opnd.slotsO b)
 | .minI xs | .maxI xs => xs.flatMap Opnd.slots
 | .mkfunc _ a b => a.flatMap Opnd.slots ++ b.flatMap Opnd.slots
 | .mapset _ _ m k v => m.slots ++ (k.slots ++ v.slots)
 | .call _ _ args => args.flatMap Opnd.slots
 | .callv _ f args => f.slots ++ args.flatMap Opnd.slots
def AOper.looks (o : AOper) : List Nat := (match o.guard with | some (t,_) => [t] | none => []) ++ o.op.reads
def AOp.cls : AOp → Nat
 | .load .. | .lenM .. | .lookup .. | .nextM _ | .call .iso _ _ | .callv .iso _ _ => 1
 | .alloc _ | .box _ | .litA .. | .store .. | .append .. | .appendz .. | .mkslice .. | .mkmap | .mapset .. | .mapdel .. | .clr .. | .call .shared _ _ | .callv .shared _ _ => 2
 | _ => 0
section
variable {cfg : Cfg} {callF : CallF} {d : Nat}
def SameAt (fr fr' : List AVal) (l : List Nat) : Prop := ∀ t,t ∈ l → fr.getD t .undef = fr'.getD t .undef
theorem SameAt.left {fr fr' : List AVal} {a b : List Nat} (h : SameAt fr fr' (a ++ b)) : SameAt fr fr' a := fun t ht => h t (List.mem_append_left _ ht)
theorem SameAt.right {fr fr' : List AVal} {a b : List Nat} (h : SameAt fr fr' (a ++ b)) : SameAt fr fr' b := fun t ht => h t (List.mem_append_right _ ht)
theorem ev_same {fr fr' : List AVal} {x : Opnd} (h : SameAt fr fr' x.slots) : ev cfg fr x = ev cfg fr' x := by
 cases x with
 | tmp t => exact h t (List.mem_singleton.2 rfl)
 | const v => rfl
 | glob g => rfl
theorem oev_same {fr fr' : List AVal} {x : Option Opnd} (h : SameAt fr fr' (Opnd.slotsO x)) : oev cfg fr x = oev cfg fr' x := by
 cases x with
 | none => rfl
 | some x => simp only [oev]; rw [ev_same h]
theorem evs_same {fr fr' : List AVal} : ∀ {xs : List Opnd},SameAt fr fr' (xs.flatMap Opnd.slots) → xs.map (ev cfg fr) = xs.map (ev cfg fr')
 | [],_ => rfl
 | x :: xs,h => by
  simp only [List.flatMap_cons] at h
  simp only [List.map_cons]
  rw [ev_same h.left,evs_same h.right]
theorem part3_same {fr fr' : List AVal} : ∀ {ps : List (Nat × Nat × Opnd)},SameAt fr fr' (ps.flatMap fun p => p.2.2.slots) → (ps.map fun p => (p.1,p.2.1,ev cfg fr p.2.2)) = ps.map fun p => (p.1,p.2.1,ev cfg fr' p.2.2)
 | [],_ => rfl
 | x :: xs,h => by
  simp only [List.flatMap_cons] at h
  simp only [List.map_cons]
  rw [ev_same h.left,part3_same h.right]
theorem part2_same {fr fr' : List AVal} : ∀ {ps : List (Nat × Opnd)},SameAt fr fr' (ps.flatMap fun p => p.2.slots) → (ps.map fun p => (p.1,ev cfg fr p.2)) = ps.map fun p => (p.1,ev cfg fr' p.2)
 | [],_ => rfl
 | x :: xs,h => by
  simp only [List.flatMap_cons] at h
  simp only [List.map_cons]
  rw [ev_same h.left,part2_same h.right]
theorem reads_same {fr fr' : List AVal} {σ : Store} {op : AOp} (h : SameAt fr fr' op.reads) : opStep cfg callF d fr σ op = opStep cfg callF d fr' σ op := by
 cases op with
 | pick c a b =>
  simp only [AOp.reads] at h
  simp only [opStep]
  rw [ev_same h.left,ev_same h.right.left,ev_same h.right.right]
 | alloc z => rfl
 | lenA n => rfl
 | mkmap => rfl
 | fail => rfl
 | build z parts => simp only [AOp.reads] at h; simp only [opStep]; rw [part3_same h]
 | lit sz z agg n parts => simp only [AOp.reads] at h; simp only [opStep]; rw [part2_same h]
 | litA sz z agg n parts => simp only [AOp.reads] at h; simp only [opStep]; rw [part2_same h]
 | sliceOp sz x lo hi mx =>
  simp only [AOp.reads] at h
  simp only [opStep]
  rw [ev_same h.left,oev_same h.right.left,oev_same h.right.right.left,oev_same h.right.right.right]
 | substr x lo hi =>
  simp only [AOp.reads] at h
  simp only [opStep]
  rw [ev_same h.left,oev_same h.right.left,oev_same h.right.right]
 | minI xs =>
  cases xs with
  | nil => rfl
  | cons x r =>
   simp only [AOp.reads,List.flatMap_cons] at h
   simp only [opStep]
   rw [ev_same h.left,evs_same h.right]
 | maxI xs =>
  cases xs with
  | nil => rfl
  | cons x r =>
   simp only [AOp.reads,List.flatMap_cons] at h
   simp only [opStep]
   rw [ev_same h.left,evs_same h.right]
 | mkfunc f a b => simp only [AOp.reads] at h; simp only [opStep]; rw [evs_same h.left,evs_same h.right]
 | mapset g q m k v =>
  simp only [AOp.reads] at h
  simp only [opStep]
  rw [ev_same h.left,ev_same h.right.left,ev_same h.right.right]
 | call m f args => simp only [AOp.reads] at h; simp only [opStep]; rw [evs_same h]
 | callv m f args => simp only [AOp.reads] at h; simp only [opStep]; rw [ev_same h.left,evs_same h.right]
 | store | iop | sop | bop | eqs | iaddr | aaddr | strIdx | arrIdx | append | appendz | mkslice | lookup | mapdel =>
  simp only [AOp.reads] at h
  simp only [opStep]
  rw [ev_same h.left,ev_same h.right]
 | move | box | load | nilCheck | eqnil | not | neg | convI | faddr | gslice | field | lenS | lenStr | lenM | capS | extract | mkiface | clr | rangeM | nextM =>
  simp only [AOp.reads] at h
  simp only [opStep]
  rw [ev_same h]
theorem cls_keep {fr : List AVal} {σ σ' : Store} {op : AOp} {v : AVal} (hc : op.cls ≤ 1) (h : opStep cfg callF d fr σ op = some (v,σ')) : σ' = σ := by
 have cc : ∀ {f : FuncId} {args : List AVal},doCall callF d .iso f args σ = some (v,σ') → σ' = σ := by
  intro f args h
  simp only [doCall] at h
  repeat' split at h
  all_goals first | (simp at h; done) | (injection h with h; injection h with _ e; exact e.symm)
 cases op with
 | call m f args => cases m with | iso => exact cc (by simpa only [opStep] using h) | shared => simp [AOp.cls] at hc
 | callv m f args =>
  cases m with
  | iso =>
   simp only [opStep] at h
   split at h
   ·exact cc h
   ·simp at h
  | shared => simp [AOp.cls] at hc
 | alloc | box | litA | store | append | appendz | mkslice | mkmap | mapset | mapdel | clr => simp [AOp.cls] at hc
 | _ =>
  simp only [opStep] at h
  repeat' split at h
  all_goals first
   | (simp at h; done)
   | exact (withσ_some h).2
   | (injection h with h; injection h with _ e; exact e.symm)
theorem cls_pure {fr : List AVal} {σ σ' τ : Store} {op : AOp} {v : AVal} (hc : op.cls = 0) (h : opStep cfg callF d fr σ op = some (v, σ')) : opStep cfg callF d fr τ op = some (v, τ) := by
  have ww : ∀ {x : Option AVal}, withσ σ x = some (v, σ') → withσ τ x = some (v, τ) := by
    intro x hx
    rw [(withσ_some hx).1]; rfl
  cases op with
  | call m f args => cases m <;> simp [AOp.cls] at hc
  | callv m f args => cases m <;> simp [AOp.cls] at hc
  | alloc | box | litA | store | append | appendz | mkslice | mkmap | mapset | mapdel | clr | load | lenM | lookup | nextM => simp [AOp.cls] at hc
  | fail => simp at h
  | _ =>
    simp only [opStep] at h ⊢
    first
      | exact ww h
      | (split at h
         all_goals first
           | (simp at h; done)
           | exact ww h
           | (injection h with h; injection h with e _; subst e; rfl))
      | (injection h with h; injection h with e _; subst e; rfl)
theorem stepO_inv {o : AOper} {s s' : FS} (h : stepO cfg callF d o s = some s') :
  ∃ b v,wantedA s.1 o.guard = some b ∧ s'.1 = put s.1 o.dst v ∧ (b = true → opStep cfg callF d s.1 s.2 o.op = some (v,s'.2)) ∧ (b = false → v = .tuple [] ∧ s'.2 = s.2) := by
 unfold stepO at h
 split at h
 ·rename_i hw
  split at h
  ·rename_i v σ hv
   injection h with h; subst h
   exact ⟨true,v,hw,rfl,fun _ => hv,fun h => by simp at h⟩
  ·simp at h
 ·rename_i hw
  injection h with h; subst h
  exact ⟨false,.tuple [],hw,rfl,fun h => by simp at h,fun _ => ⟨rfl,rfl⟩⟩
 ·simp at h
theorem wanted_same {fr fr' : List AVal} {g : Option (Nat × Bool)} (h : SameAt fr fr' (match g with | some (t,_) => [t] | none => [])) : wantedA fr g = wantedA fr' g := by
 cases g with
 | none => rfl
 | some p =>
  obtain ⟨t,b⟩ := p
  simp only [wantedA]
  rw [h t (List.mem_singleton.2 rfl)]
end
def chkOper (cfg : Cfg) (P : Program) (ops : Array Oper) (o : AOper) (x : Oper) : Bool :=
 (o.dst == x.dst) && chkO cfg P o.op x.op &&
 match o.guard,x.guard with
 | none,none => true
 | some (t,b),some (g,b') => b == b' && (ops[g]?).bind (·.dst) == some t
 | _,_ => false
def chkOpers (cfg : Cfg) (P : Program) (ops : Array Oper) : List AOper → List Oper → Bool
 | [],[] => true
 | o :: os,x :: xs => chkOper cfg P ops o x && chkOpers cfg P ops os xs
 | _,_ => false
theorem chkOpers_get {cfg : Cfg} {P : Program} {ops : Array Oper} : ∀ {l : List AOper} {xs : List Oper},chkOpers cfg P ops l xs = true →
  l.length = xs.length ∧ ∀ (i : Nat) (o : AOper),l[i]? = some o → ∃ x,xs[i]? = some x ∧ chkOper cfg P ops o x = true
 | [],[],_ => ⟨rfl,fun i o h => by simp at h⟩
 | o :: os,x :: xs,h => by
  simp only [chkOpers,Bool.and_eq_true] at h
  obtain ⟨h1,h2⟩ := chkOpers_get h.2
  refine ⟨by simp [h1],fun i o' hi => ?_⟩
  cases i with
  | zero => simp at hi; subst hi; exact ⟨x,by simp,h.1⟩
  | succ i => obtain ⟨y,hy,hc⟩ := h2 i o' (by simpa using hi); exact ⟨y,by simpa using hy,hc⟩
 | [],_ :: _,h => by simp [chkOpers] at h
 | _ :: _,[],h => by simp [chkOpers] at h
section
variable {P : Program} {cfg : Cfg} {callF : CallF} {E : Env} {r : Rest}
theorem Fr.put {κ : K} {fr : List AVal} {a : Act} (h : Fr cfg E κ fr a) {dst : Option Nat} {v : AVal} {cv : Value} (hv : κ.V E cfg.conc v cv) : Fr cfg E κ (Go.Proofs.YtbbekbjcmnopjaaGreatDoor.Am.put fr dst v) (a.put dst cv) := by
 cases dst with
 | none => exact h
 | some t =>
  refine ⟨by simpa [Go.Proofs.YtbbekbjcmnopjaaGreatDoor.Am.put,Act.put] using h.len,fun i => ?_,h.gl⟩
  simp only [Go.Proofs.YtbbekbjcmnopjaaGreatDoor.Am.put,Act.put]
  by_cases hi : i = t
  ·subst hi
   by_cases hl : i < fr.length
   ·have hl' : i < a.tmps.size := Nat.lt_of_lt_of_le hl h.len
    have e1 : (fr.set i v).getD i .undef = v := by simp [List.getD_eq_getElem?_getD,hl]
    have e2 : (a.tmps.setIfInBounds i cv).getD i undef = cv := by simp [Array.getElem?_setIfInBounds_self_of_lt hl']
    rw [e1,e2]; exact hv
   ·have e1 : (fr.set i v).getD i .undef = .undef := by simp [List.getD_eq_getElem?_getD,hl]
    rw [e1]; exact .undef _ _
  ·have e1 : (fr.set t v).getD i .undef = fr.getD i .undef := by simp [List.getD_eq_getElem?_getD,List.getElem?_set_ne (fun e => hi e.symm)]
   have e2 : (a.tmps.setIfInBounds t cv).getD i undef = a.tmps.getD i undef := by simp [Array.getElem?_setIfInBounds_ne (fun e => hi e.symm)]
   rw [e1,e2]; exact h.fr i
theorem put_defers {a : Act} {dst : Option Tmp} {cv : Value} : (a.put dst cv).defers = a.defers := by cases dst <;> rfl
theorem wanted_ok {κ : K} {fr : List AVal} {a : Act} (hf : Fr cfg E κ fr a) {ops : Array Oper} {o : AOper} {x : Oper} (hc : chkOper cfg P ops o x = true) {b : Bool} (h : wantedA fr o.guard = some b) :
  Region.wanted x (yielded ops a.tmps) = b := by
 simp only [chkOper,Bool.and_eq_true] at hc
 obtain ⟨_,hc⟩ := hc
 unfold Region.wanted
 cases hg : o.guard with
 | none =>
  cases hx : x.guard with
  | none => rw [hg] at h; simp at h; subst h; rfl
  | some p => simp [hg,hx] at hc
 | some p =>
  obtain ⟨t,want⟩ := p
  cases hx : x.guard with
  | none => simp [hg,hx] at hc
  | some q =>
   obtain ⟨g,want'⟩ := q
   simp only [hg,hx,Bool.and_eq_true,beq_iff_eq] at hc
   obtain ⟨rfl,hd⟩ := hc
   rw [hg] at h
   simp only [wantedA] at h
   have hv := hf.fr t
   have hy : yielded ops a.tmps g = (match a.tmps[t]? with | some (.bool b) => some b | _ => none) := by
    unfold yielded; rw [hd]; rfl
   dsimp only
   rw [hy]
   split at h
   ·rename_i c hc'
    injection h with h
    subst h
    rw [hc'] at hv
    have := V_bool hv
    have h2 : a.tmps[t]? = some (.bool c) := by
     cases ht : a.tmps[t]? with
     | none => simp [ht,undef] at this
     | some y => simp [ht] at this; rw [this]
    rw [h2]
    cases c <;> cases want <;> rfl
   ·rename_i hc'
    injection h with h
    subst h
    rw [hc'] at hv
    obtain ⟨vs,h2,h3⟩ := V_tuple hv
    have h4 : ∀ c,a.tmps[t]? ≠ some (.bool c) := by
     intro c hcc
     simp [hcc] at h2
    split
    ·rename_i c hcc; exact absurd hcc (h4 c)
    ·rfl
   ·simp at h
theorem oper_step (hcall : CallOk P cfg callF) {d : Nat} (hd : E.d = d) {κ : K} {fr : List AVal} {a : Act} {ops : Array Oper} {i : Nat} {o : AOper} {x : Oper} (hi : ops[i]? = some x) (hc : chkOper cfg P ops o x = true)
  (hf : Fr cfg E κ fr a) (hR : κ.R E cfg.conc) {b : Bool} {v : AVal} {σ' : Store} (hw : wantedA fr o.guard = some b) (h1 : b = true → opStep cfg callF d fr κ.σ o.op = some (v,σ')) (h2 : b = false → v = .tuple [] ∧ σ' = κ.σ)
  {Q : Exit → Act → World → Prop} {next : Act → World → Prop} {w : World} (hh : Wh r w κ.h)
  (hn : ∀ a' w' (κ' : K),Wh r w' κ'.h → κ'.σ = σ' → κ.Le κ' → κ'.R E cfg.conc → Fr cfg E κ' (put fr o.dst v) a' → a'.defers = a.defers → next a' w') :
  wpOp P ops Q i next a w := by
 have hdst : o.dst = x.dst := by simp only [chkOper,Bool.and_eq_true,beq_iff_eq] at hc; exact hc.1.1
 have hop : chkO cfg P o.op x.op = true := by simp only [chkOper,Bool.and_eq_true,beq_iff_eq] at hc; exact hc.1.2
 unfold wpOp
 simp only [hi]
 rw [wanted_ok hf hc hw]
 cases b with
 | true =>
  simp only [if_true]
  refine .inl (op1_sound hcall hd hf hR hop (h1 rfl) r w Q next hh fun cv w' κ' k1 k2 k3 k4 k5 => ?_)
  exact hn _ w' κ' k1 k2 k3 k4 (by rw [hdst]; exact Fr.put (Fr.le hR.lb k3 hf) k5) put_defers
 | false =>
  simp only [Bool.false_eq_true,if_false]
  obtain ⟨rfl,rfl⟩ := h2 rfl
  exact hn _ w κ hh rfl (K.Le.refl _) hR (by rw [hdst]; exact Fr.put hf (.tuple _ [] [] (.nil _))) put_defers
theorem ops_seq (hcall : CallOk P cfg callF) {d : Nat} (hd : E.d = d) {ops : Array Oper} {Q : Exit → Act → World → Prop} : ∀ (l : List AOper) (k : Nat) (fr : List AVal) (a : Act) (κ : K) (w : World) (s' : FS),
  (∀ (j : Nat) (o : AOper),l[j]? = some o → ∃ x,ops[k + j]? = some x ∧ chkOper cfg P ops o x = true) → stepOs cfg callF d l (fr,κ.σ) = some s' →
  Fr cfg E κ fr a → κ.R E cfg.conc → Wh r w κ.h →
  (∀ a' w' (κ' : K),Wh r w' κ'.h → κ'.σ = s'.2 → κ.Le κ' → κ'.R E cfg.conc → Fr cfg E κ' s'.1 a' → a'.defers = a.defers → Q .normal a' w') →
  wpOps P ops Q (List.range' k l.length) a w
 | [],k,fr,a,κ,w,s',hc,h,hf,hR,hh,hQ => by
  simp only [stepOs] at h
  injection h with h; subst h
  simp only [List.length_nil,List.range'_zero,wpOps]
  exact hQ a w κ hh rfl (K.Le.refl _) hR hf rfl
 | o :: os,k,fr,a,κ,w,s',hc,h,hf,hR,hh,hQ => by
  simp only [stepOs] at h
  split at h
  ·rename_i s1 hs1
   obtain ⟨b,v,hw,e1,g1,g2⟩ := stepO_inv hs1
   obtain ⟨x,hx,hcx⟩ := hc 0 o (by simp)
   simp only [List.length_cons,List.range'_succ]
   rw [wpOps_cons]
   refine oper_step hcall hd (by simpa using hx) hcx hf hR hw g1 g2 hh fun a' w' κ' k1 k2 k3 k4 k5 k6 => ?_
   refine ops_seq hcall hd os (k + 1) s1.1 a' κ' w' s' (fun j o' hj => ?_) (by rw [k2]; exact h) (by rw [e1]; exact k5) k4 k1 fun a'' w'' κ'' l1 l2 l3 l4 l5 l6 => ?_
   ·obtain ⟨y,hy,hcy⟩ := hc (j + 1) o' (by simpa using hj)
    exact ⟨y,by rw [← hy]; congr 1; omega,hcy⟩
   ·exact hQ a'' w'' κ'' l1 l2 (K.Le.trans hR.lb k3 l3) l4 l5 (l6.trans k6)
  ·simp at h
theorem region_seq (hcall : CallOk P cfg callF) {d : Nat} (hd : E.d = d) {id : Nat} {ops : Array Oper} {Q : Exit → Act → World → Prop} {l : List AOper} {fr : List AVal} {a : Act} {κ : K} {w : World} {s' : FS}
  (hc : chkOpers cfg P ops l ops.toList = true) (h : stepOs cfg callF d l (fr,κ.σ) = some s') (hf : Fr cfg E κ fr a) (hR : κ.R E cfg.conc) (hh : Wh r w κ.h)
  (hQ : ∀ a' w' (κ' : K),Wh r w' κ'.h → κ'.σ = s'.2 → κ.Le κ' → κ'.R E cfg.conc → Fr cfg E κ' s'.1 a' → a'.defers = a.defers → Q .normal a' w') :
  (Code.region id ops false).wp P Q a w := by
 obtain ⟨h1,h2⟩ := chkOpers_get hc
 refine wp_region ?_
 have e : List.range ops.size = List.range' 0 l.length := by rw [List.range_eq_range',h1]; simp
 rw [e]
 exact ops_seq hcall hd l 0 fr a κ w s' (fun j o hj => by simpa using h2 j o hj) h hf hR hh hQ
end
def dirs (o : Oper) : List Nat := (o.after.toList.filter (Region.binds .any)).map (·.on)
def orAll (tab : List Nat) : List Nat → Nat
 | [] => 0
 | e :: es => ((1 <<< e) ||| tab.getD e 0) ||| orAll tab es
def mkTab : List Nat → List Oper → List Nat
 | acc,[] => acc
 | acc,o :: os => mkTab (acc ++ [orAll acc (dirs o)]) os
def tabOk (tab : List Nat) : Nat → List Oper → Bool
 | _,[] => true
 | i,o :: os => (tab.getD i 0 == orAll tab (dirs o)) && (dirs o).all (· < i) && tabOk tab (i + 1) os
theorem orAll_bit {tab : List Nat} {j : Nat} : ∀ {es : List Nat},(orAll tab es).testBit j = true → ∃ e ∈ es,e = j ∨ (tab.getD e 0).testBit j = true
 | [],h => by simp [orAll] at h
 | e :: es,h => by
  simp only [orAll,Nat.testBit_or,Bool.or_eq_true] at h
  rcases h with (h | h) | h
  ·rw [Nat.one_shiftLeft,Nat.testBit_two_pow] at h
   exact ⟨e,List.mem_cons_self,.inl (by simpa using h)⟩
  ·exact ⟨e,List.mem_cons_self,.inr h⟩
  ·obtain ⟨e',he,hh⟩ := orAll_bit h
   exact ⟨e',List.mem_cons_of_mem _ he,hh⟩
theorem tabOk_get {tab : List Nat} : ∀ {os : List Oper} {i : Nat},tabOk tab i os = true → ∀ (k : Nat) (o : Oper),os[k]? = some o → tab.getD (i + k) 0 = orAll tab (dirs o) ∧ ∀ e ∈ dirs o,e < i + k
 | [],i,_,k,o,hk => by simp at hk
 | x :: xs,i,h,k,o,hk => by
  simp only [tabOk,Bool.and_eq_true,beq_iff_eq,List.all_eq_true,decide_eq_true_eq] at h
  cases k with
  | zero => simp at hk; subst hk; exact ⟨h.1.1,h.1.2⟩
  | succ k =>
   have := tabOk_get h.2 k o (by simpa using hk)
   rw [show i + (k + 1) = i + 1 + k by omega]
   exact this
def apartO (x y : AOper) : Bool := match x.dst with
 | some d => !(y.looks.contains d) && y.dst != some d
 | none => true
def okPair (pairs : List (Nat × Nat)) (j i : Nat) (x y : AOper) : Bool :=
 apartO x y && apartO y x && !(x.op.cls == 2 && y.op.cls == 2) && (!(x.op.cls == 2 && y.op.cls == 1) || pairs.contains (i,j)) && (!(x.op.cls == 1 && y.op.cls == 2) || pairs.contains (j,i))
def pairsOk (tab : List Nat) (pairs : List (Nat × Nat)) (l : List AOper) : Bool :=
 (List.range l.length).all fun i => match l[i]? with
  | some y => (List.range i).all fun j => match l[j]? with
   | some x => (tab.getD i 0).testBit j || okPair pairs j i x y
   | none => true
  | none => true
def drawOk (pairs : List (Nat × Nat)) (l : List AOper) (ops : List Oper) : Bool :=
 tabOk (mkTab [] ops) 0 ops && pairsOk (mkTab [] ops) pairs l
theorem apartO_eq {x y : AOper} (h : apartO x y = true) {d : Nat} (hd : x.dst = some d) : d ∉ y.looks ∧ y.dst ≠ some d := by
 simp only [apartO,hd,Bool.and_eq_true,Bool.not_eq_true',bne_iff_ne] at h
 exact ⟨fun hm => by simp [hm] at h,h.2⟩
section
variable {P : Program} {cfg : Cfg} {callF : CallF} {E : Env}
def Went (cfg : Cfg) (callF : CallF) (d : Nat) (l : List AOper) (st : Nat → FS) (vs : Nat → AVal) : Prop :=
 ∀ (i : Nat) (o : AOper),l[i]? = some o → ∃ b,wantedA (st i).1 o.guard = some b ∧ (st (i + 1)).1 = put (st i).1 o.dst (vs i) ∧
  (b = true → opStep cfg callF d (st i).1 (st i).2 o.op = some (vs i,(st (i + 1)).2)) ∧ (b = false → vs i = .tuple [] ∧ (st (i + 1)).2 = (st i).2)
theorem went_of {d : Nat} : ∀ {l : List AOper} {s s' : FS},stepOs cfg callF d l s = some s' →
  ∃ st vs,st 0 = s ∧ st l.length = s' ∧ Went cfg callF d l st vs ∧ ∀ i,i ≤ l.length → (traceOs cfg callF d l s)[i]? = some (st i)
 | [],s,s',h => by
  simp only [stepOs] at h
  injection h with h; subst h
  exact ⟨fun _ => s,fun _ => .undef,rfl,rfl,fun i o hi => by simp at hi,fun i hi => by simp at hi; subst hi; simp⟩
 | o :: os,s,s',h => by
  simp only [stepOs] at h
  split at h
  ·rename_i s1 hs1
   obtain ⟨st,vs,h0,hn,hw,ht⟩ := went_of h
   obtain ⟨b,v,hwt,e1,g1,g2⟩ := stepO_inv hs1
   refine ⟨fun i => match i with | 0 => s | i + 1 => st i,fun i => match i with | 0 => v | i + 1 => vs i,rfl,by simpa using hn,fun i o' hi => ?_,fun i hi => ?_⟩
   ·cases i with
    | zero =>
     simp at hi; subst hi
     refine ⟨b,hwt,?_,fun hb => ?_,fun hb => ?_⟩
     ·dsimp only; rw [h0]; exact e1
     ·dsimp only; rw [h0]; exact g1 hb
     ·dsimp only; rw [h0]; exact g2 hb
    | succ i => exact hw i o' (by simpa using hi)
   ·simp only [traceOs,hs1]
    cases i with
    | zero => rfl
    | succ i => simpa using ht i (by simpa using hi)
  ·simp at h
section went
variable {d : Nat} (l : List AOper) (st : Nat → FS) (vs : Nat → AVal) (b : Nat → Bool)
def dstOf (k : Nat) : Option Nat := (l[k]?).bind (·.dst)
def isE (k : Nat) : Bool := match l[k]? with
 | some o => o.op.cls == 2
 | none => false
def frB : Nat → List AVal
 | 0 => (st 0).1
 | m + 1 => if b m then put (frB m) (dstOf l m) (vs m) else frB m
def sgB : Nat → Store
 | 0 => (st 0).2
 | m + 1 => if b m && isE l m then (st (m + 1)).2 else sgB m
variable {l st vs b} (hw : Went cfg callF d l st vs)
include hw
theorem went_keep {k : Nat} (hk : k < l.length) (he : isE l k = false) : (st (k + 1)).2 = (st k).2 := by
 obtain ⟨c,h1,h2,h3,h4⟩ := hw k l[k] (List.getElem?_eq_getElem hk)
 cases c with
 | false => exact (h4 rfl).2
 | true =>
  refine cls_keep ?_ (h3 rfl)
  simp only [isE,List.getElem?_eq_getElem hk,beq_eq_false_iff_ne] at he
  have : l[k].op.cls ≤ 2 := by
   generalize l[k].op = op
   cases op <;> simp [AOp.cls] <;> (rename_i m _ _; cases m <;> simp)
  omega
theorem frB_all : ∀ {m : Nat},m ≤ l.length → frB l st vs (fun _ => true) m = (st m).1
 | 0,_ => rfl
 | m + 1,hm => by
  obtain ⟨c,h1,h2,h3,h4⟩ := hw m l[m] (List.getElem?_eq_getElem (by omega))
  simp only [frB,if_true]
  rw [frB_all (by omega),h2]
  simp [dstOf,List.getElem?_eq_getElem (show m < l.length by omega)]
theorem sgB_full : ∀ {m : Nat},m ≤ l.length → (∀ k,k < m → isE l k = true → b k = true) → sgB l st b m = (st m).2
 | 0,_,_ => rfl
 | m + 1,hm,hb => by
  simp only [sgB]
  cases he : isE l m with
  | true => simp [hb m (by omega) he]
  | false =>
   simp only [Bool.and_false,Bool.false_eq_true,if_false]
   rw [sgB_full (by omega) (fun k hk => hb k (by omega)),went_keep hw (by omega) he]
omit hw
theorem sgB_top (m : Nat) : ∀ {m' : Nat}, m ≤ m' → sgB l st b m' = sgB l st b m ∨ ∃ k, m ≤ k ∧ k < m' ∧ b k = true ∧ isE l k = true ∧ sgB l st b m' = (st (k + 1)).2
  | 0, h => by have : m = 0 := by omega
               subst this; exact .inl rfl
  | m' + 1, h => by
    rcases Nat.lt_or_ge m' m with hlt | hge
    · have : m = m' + 1 := by omega
      subst this; exact .inl rfl
    · simp only [sgB]
      by_cases hb : (b m' && isE l m') = true
      · simp only [hb, if_true]
        simp only [Bool.and_eq_true] at hb
        exact .inr ⟨m', hge, by omega, hb.1, hb.2, rfl⟩
      · simp only [hb, if_false, Bool.false_eq_true]
        rcases sgB_top m hge with h1 | ⟨k, k1, k2, k3⟩
        · exact .inl h1
        · exact .inr ⟨k, k1, by omega, k3⟩
theorem first_out (l : List AOper) (b : Nat → Bool) : ∀ (m : Nat),(∀ k,k < m → isE l k = true → b k = true) ∨ ∃ k,k < m ∧ isE l k = true ∧ b k = false ∧ ∀ k',k' < k → isE l k' = true → b k' = true
 | 0 => .inl fun k hk => by omega
 | m + 1 => by
  rcases first_out l b m with h | ⟨k,k1,k2,k3,k4⟩
  ·by_cases hm : isE l m = true ∧ b m = false
   ·exact .inr ⟨m,by omega,hm.1,hm.2,h⟩
   ·refine .inl fun k hk he => ?_
    rcases Nat.lt_or_ge k m with h1 | h1
    ·exact h k h1 he
    ·have : k = m := by omega
     subst this
     cases hb : b k with
     | true => rfl
     | false => exact absurd ⟨he,hb⟩ hm
  ·exact .inr ⟨k,by omega,k2,k3,k4⟩
theorem frB_len (m : Nat) : (frB l st vs b m).length = (st 0).1.length := by
 induction m with
 | zero => rfl
 | succ m ih =>
  simp only [frB]
  split
  ·cases hd : dstOf l m with
   | none => simpa using ih
   | some t => simpa using ih
  ·exact ih
theorem frB_skip {t : Nat} (m : Nat) : ∀ {m' : Nat}, m ≤ m' → (∀ k, m ≤ k → k < m' → b k = true → dstOf l k ≠ some t) → (frB l st vs b m').getD t .undef = (frB l st vs b m).getD t .undef
  | 0, h, _ => by have : m = 0 := by omega
                  subst this; rfl
  | m' + 1, h, hd => by
    rcases Nat.lt_or_ge m' m with hlt | hge
    · have : m = m' + 1 := by omega
      subst this; rfl
    · simp only [frB]
      have ih := frB_skip m hge (fun k h1 h2 => hd k h1 (by omega))
      split
      · rename_i hb
        have := hd m' hge (by omega) hb
        cases hx : dstOf l m' with
        | none => simpa using ih
        | some s =>
          have hne : s ≠ t := fun e => this (by rw [hx, e])
          simp only [put]
          rw [← ih]
          simp [List.getD_eq_getElem?_getD, List.getElem?_set_ne hne]
      · exact ih
theorem frB_same {b' : Nat → Bool} {t : Nat} : ∀ {m : Nat},(∀ k,k < m → dstOf l k = some t → b k = b' k) → (frB l st vs b m).getD t .undef = (frB l st vs b' m).getD t .undef
 | 0,_ => rfl
 | m + 1,h => by
  have ih := frB_same (m := m) (fun k hk => h k (by omega))
  have hl := frB_len (l := l) (st := st) (vs := vs) (b := b) m
  have hl' := frB_len (l := l) (st := st) (vs := vs) (b := b') m
  simp only [frB]
  by_cases hd : dstOf l m = some t
  ·have hb := h m (by omega) hd
   rw [hb]
   split
   ·rw [hd]
    simp only [put]
    simp only [List.getD_eq_getElem?_getD,List.getElem?_set_self',hl,hl'] at ih ⊢
    by_cases ht : t < (st 0).1.length
    ·rw [List.getElem?_eq_getElem (by omega),List.getElem?_eq_getElem (by omega)]; rfl
    ·rw [List.getElem?_eq_none (by omega),List.getElem?_eq_none (by omega)]
   ·exact ih
  ·have other : ∀ (fr : List AVal),(put fr (dstOf l m) (vs m)).getD t .undef = fr.getD t .undef := by
    intro fr
    cases hx : dstOf l m with
    | none => rfl
    | some s =>
     have hne : s ≠ t := fun e => hd (by rw [hx,e])
     simp [put,List.getD_eq_getElem?_getD,List.getElem?_set_ne hne]
   split <;> split <;> simp only [other,ih]
theorem put_comm {fr : List AVal} {x y : Option Nat} {v u : AVal} (h : ∀ d,x = some d → y ≠ some d) : put (put fr x v) y u = put (put fr y u) x v := by
 cases x with
 | none => rfl
 | some d =>
  cases y with
  | none => rfl
  | some e =>
   have hne : d ≠ e := fun he => h d rfl (by rw [he])
   simp only [put]
   exact List.set_comm _ _ hne
def with_ (b : Nat → Bool) (i : Nat) : Nat → Bool := fun k => k == i || b k
theorem frB_with {i : Nat} (hi : b i = false) (hd : ∀ k,i < k → b k = true → ∀ t,dstOf l i = some t → dstOf l k ≠ some t) : ∀ (m : Nat),
  frB l st vs (with_ b i) m = if i < m then put (frB l st vs b m) (dstOf l i) (vs i) else frB l st vs b m
 | 0 => by simp [frB]
 | m + 1 => by
  have ih := frB_with hi hd m
  simp only [frB]
  rcases Nat.lt_trichotomy i m with h | h | h
  ·have e : with_ b i m = b m := by simp [with_,Nat.ne_of_gt h]
   rw [e,ih]
   simp only [h,show i < m + 1 by omega,if_true]
   split
   ·rename_i hb
    exact put_comm (hd m h hb)
   ·rfl
  ·subst h
   have e : with_ b i i = true := by simp [with_]
   rw [e,ih,hi]
   simp
  ·have e : with_ b i m = b m := by simp [with_,Nat.ne_of_lt h]
   rw [e,ih]
   simp only [show ¬ i < m by omega,show ¬ i < m + 1 by omega,if_false]
theorem sgB_with {i : Nat} (hi : b i = false) : ∀ (m : Nat),(isE l i = false → sgB l st (with_ b i) m = sgB l st b m) ∧
  (isE l i = true → (∀ k,i < k → b k = true → isE l k = false) → i < m → sgB l st (with_ b i) m = (st (i + 1)).2)
 | 0 => ⟨fun _ => rfl,fun _ _ h => by omega⟩
 | m + 1 => by
  obtain ⟨ih1,ih2⟩ := sgB_with (i := i) hi m
  refine ⟨fun he => ?_,fun he hk hm => ?_⟩
  ·simp only [sgB]
   rw [ih1 he]
   by_cases h : m = i
   ·subst h; simp [he]
   ·have e : with_ b i m = b m := by simp [with_,h]
    rw [e]
  ·simp only [sgB]
   by_cases h : m = i
   ·subst h
    simp [with_,he]
   ·have e : with_ b i m = b m := by simp [with_,h]
    rw [e]
    have : (b m && isE l m) = false := by
     cases hb : b m with
     | false => rfl
     | true => simp [hk m (by omega) hb]
    simp only [this,Bool.false_eq_true,if_false]
    exact ih2 he hk (by omega)
def cnt (b : Nat → Bool) : Nat → Nat
 | 0 => 0
 | m + 1 => cnt b m + if b m then 0 else 1
theorem cnt_with {i : Nat} (hi : b i = false) : ∀ (m : Nat),cnt (with_ b i) m + (if i < m then 1 else 0) = cnt b m
 | 0 => by simp [cnt]
 | m + 1 => by
  have ih := cnt_with (i := i) hi m
  simp only [cnt]
  rcases Nat.lt_trichotomy i m with h | h | h
  ·have e : with_ b i m = b m := by simp [with_,Nat.ne_of_gt h]
   rw [e]
   simp only [h,show i < m + 1 by omega,if_true] at ih ⊢
   omega
  ·subst h
   have e : with_ b i i = true := by simp [with_]
   rw [e,hi]
   simp only [Nat.lt_irrefl,if_false,Nat.lt_succ_self,if_true] at ih ⊢
   simp at ih ⊢
   omega
  ·have e : with_ b i m = b m := by simp [with_,Nat.ne_of_lt h]
   rw [e]
   simp only [show ¬ i < m by omega,show ¬ i < m + 1 by omega,if_false] at ih ⊢
   omega
theorem cnt_zero : ∀ {m : Nat},cnt b m = 0 → ∀ k,k < m → b k = true
 | 0,_,k,hk => by omega
 | m + 1,h,k,hk => by
  simp only [cnt] at h
  rcases Nat.lt_or_ge k m with h1 | h1
  ·exact cnt_zero (by omega) k h1
  ·have : k = m := by omega
   subst this
   cases hb : b k with
   | true => rfl
   | false => simp [hb] at h
theorem cnt_pos : ∀ {m : Nat},cnt b m ≠ 0 → ∃ k,k < m ∧ b k = false ∧ ∀ k',k' < k → b k' = true
 | 0,h => by simp [cnt] at h
 | m + 1,h => by
  by_cases h0 : cnt b m = 0
  ·have hall := cnt_zero h0
   refine ⟨m,by omega,?_,hall⟩
   cases hb : b m with
   | false => rfl
   | true => simp [cnt,hb,h0] at h
  ·obtain ⟨k,k1,k2,k3⟩ := cnt_pos h0
   exact ⟨k,by omega,k2,k3⟩
theorem cnt_none (m : Nat) (h : ∀ k,b k = false) : cnt b m = m := by
 induction m with
 | zero => rfl
 | succ m ih => simp [cnt,ih,h m]
end went
end
theorem cls_le (op : AOp) : op.cls ≤ 2 := by
 cases op <;> simp [AOp.cls] <;> (rename_i m _ _; cases m <;> simp)
section
variable {P : Program} {cfg : Cfg} {callF : CallF} {E : Env} {d : Nat} {l : List AOper} {st : Nat → FS} {vs : Nat → AVal} {b : Nat → Bool} {tab : List Nat} {pairs : List (Nat × Nat)}
theorem pairsOk_get (h : pairsOk tab pairs l = true) {j i : Nat} {x y : AOper} (hji : j < i) (hx : l[j]? = some x) (hy : l[i]? = some y) : (tab.getD i 0).testBit j = true ∨ okPair pairs j i x y = true := by
 have hi : i < l.length := (List.getElem?_eq_some_iff.1 hy).1
 have h1 := List.all_eq_true.1 h i (List.mem_range.2 hi)
 rw [hy] at h1
 have h2 := List.all_eq_true.1 h1 j (List.mem_range.2 hji)
 rw [hx] at h2
 simpa using h2
structure Turn (tab : List Nat) (b : Nat → Bool) (n i : Nat) : Prop where
 lt : i < n
 out : b i = false
 low : ∀ k,(tab.getD i 0).testBit k = true → b k = true
 high : ∀ k,i < k → k < n → b k = true → (tab.getD k 0).testBit i = false
 mid : ∀ k k',k < k' → k' < n → b k = false → b k' = true → (tab.getD k' 0).testBit k = false
variable (hw : Went cfg callF d l st vs) (hp : pairsOk tab pairs l = true) {i : Nat} (ht : Turn tab b l.length i) {o : AOper} (ho : l[i]? = some o)
include hw hp ht ho
omit hw in
theorem turn_low {k : Nat} (hk : k < i) (hb : b k = false) {x : AOper} (hx : l[k]? = some x) : okPair pairs k i x o = true := by
 rcases pairsOk_get hp hk hx ho with h | h
 ·rw [ht.low k h] at hb; cases hb
 ·exact h
omit hw in
theorem turn_high {k : Nat} (hk : i < k) (hb : b k = true) {x : AOper} (hx : l[k]? = some x) : okPair pairs i k o x = true := by
 rcases pairsOk_get hp hk ho hx with h | h
 ·rw [ht.high k hk (List.getElem?_eq_some_iff.1 hx).1 hb] at h; cases h
 ·exact h
omit hw ho in
theorem turn_ee {k k' : Nat} (hk : k < k') (hk' : k' < l.length) (h1 : b k = false) (h2 : b k' = true) (e1 : isE l k = true) (e2 : isE l k' = true) : False := by
 have hx := List.getElem?_eq_getElem (show k < l.length by omega)
 have hy := List.getElem?_eq_getElem hk'
 rcases pairsOk_get hp hk hx hy with h | h
 ·rw [ht.mid k k' hk hk' h1 h2] at h; cases h
 ·simp only [isE,hx,hy,beq_iff_eq] at e1 e2
  simp [okPair,e1,e2] at h
theorem turn_frame : SameAt (frB l st vs b l.length) (st i).1 o.looks := by
 intro t htl
 have hlt := ht.lt
 rw [frB_skip i (Nat.le_of_lt hlt) (fun k h1 h2 h3 => ?_),frB_same (b' := fun _ => true) (fun k hk hd => ?_),frB_all hw (Nat.le_of_lt hlt)]
 ·cases hb : b k with
  | true => rfl
  | false =>
   exfalso
   have hx := List.getElem?_eq_getElem (show k < l.length by omega)
   have := turn_low hp ht ho hk hb hx
   simp only [okPair,Bool.and_eq_true] at this
   have hd' : (l[k]'(by omega)).dst = some t := by simpa [dstOf,hx] using hd
   exact (apartO_eq this.1.1.1.1 hd').1 htl
 ·rcases Nat.lt_or_ge i k with h4 | h4
  ·have hx := List.getElem?_eq_getElem h2
   have := turn_high hp ht ho h4 h3 hx
   simp only [okPair,Bool.and_eq_true] at this
   intro hd
   have hd' : (l[k]'h2).dst = some t := by simpa [dstOf,hx] using hd
   exact (apartO_eq this.1.1.1.2 hd').1 htl
  ·have : k = i := by omega
   subst this
   rw [ht.out] at h3; cases h3
omit hw in
theorem turn_put : frB l st vs (with_ b i) l.length = put (frB l st vs b l.length) o.dst (vs i) := by
 have e : dstOf l i = o.dst := by simp [dstOf,ho]
 rw [frB_with ht.out (fun k hk hb t hd => ?_),if_pos ht.lt,e]
 rcases Nat.lt_or_ge k l.length with h2 | h2
 ·have hx := List.getElem?_eq_getElem h2
  have := turn_high hp ht ho hk hb hx
  simp only [okPair,Bool.and_eq_true] at this
  rw [e] at hd
  have := (apartO_eq this.1.1.1.1 hd).2
  simpa [dstOf,hx] using this
 ·simp [dstOf,List.getElem?_eq_none h2]
theorem turn_E (he : isE l i = true) : sgB l st b l.length = (st i).2 ∧ sgB l st (with_ b i) l.length = (st (i + 1)).2 := by
 have hlt := ht.lt
 have hno : ∀ k,i < k → k < l.length → b k = true → isE l k = false := by
  intro k h1 h2 h3
  cases h4 : isE l k with
  | false => rfl
  | true => exact (turn_ee hp ht h1 h2 ht.out h3 he h4).elim
 refine ⟨?_,(sgB_with ht.out l.length).2 he (fun k h1 h2 => ?_) hlt⟩
 ·rcases sgB_top (l := l) (st := st) (b := b) i (Nat.le_of_lt hlt) with h | ⟨k,k1,k2,k3,k4,k5⟩
  ·rw [h]
   rcases first_out l b i with h1 | ⟨k,k1,k2,k3,k4⟩
   ·exact sgB_full hw (Nat.le_of_lt hlt) h1
   ·have hx := List.getElem?_eq_getElem (show k < l.length by omega)
    have := turn_low hp ht ho k1 k3 hx
    simp only [isE,hx,ho,beq_iff_eq] at k2 he
    simp [okPair,k2,he] at this
  ·rcases Nat.lt_or_ge i k with h1 | h1
   ·rw [hno k h1 k2 k3] at k4; cases k4
   ·have : k = i := by omega
    subst this
    rw [ht.out] at k3; cases k3
 ·rcases Nat.lt_or_ge k l.length with h3 | h3
  ·exact hno k h1 h3 h2
  ·simp [isE,List.getElem?_eq_none h3]
theorem turn_R (htr : ∀ k,k ≤ l.length → (traceOs cfg callF d l (st 0))[k]? = some (st k)) (hst : ∀ p ∈ pairs,steady cfg callF d l (traceOs cfg callF d l (st 0)) p = true)
  (he : o.op.cls = 1) (hwt : wantedA (st i).1 o.guard = some true) (hrun : opStep cfg callF d (st i).1 (st i).2 o.op = some (vs i,(st (i + 1)).2)) :
  opStep cfg callF d (st i).1 (sgB l st b l.length) o.op = some (vs i,sgB l st b l.length) := by
 have hlt := ht.lt
 have stdy : ∀ {k : Nat} {σ : Store},(i,k) ∈ pairs → (∀ s,(traceOs cfg callF d l (st 0))[if k < i then k else k + 1]? = some s → s.2 = σ) → opStep cfg callF d (st i).1 σ o.op = some (vs i,σ) := by
  intro k σ hm hs
  have := hst _ hm
  simp only [steady,ho,htr i (Nat.le_of_lt hlt)] at this
  split at this
  ·rename_i o' s0 s' e1 e2 e3
   injection e1 with e1; subst e1
   injection e2 with e2; subst e2
   have hs' := hs s' e3
   rw [hwt,hrun,hs'] at this
   simp only at this
   split at this
   ·rename_i v v' u u' g1 g2
    simp only [Option.some.injEq,Prod.mk.injEq] at g1
    rw [g2]
    rw [← g1.1] at this
    rw [AVal.beq_eq _ _ this]
    rw [cls_keep (by omega) g2]
   ·cases this
  ·cases this
 have hkeep : (st (i + 1)).2 = (st i).2 := cls_keep (by omega) hrun
 rcases sgB_top (l := l) (st := st) (b := b) i (Nat.le_of_lt hlt) with h | ⟨k,k1,k2,k3,k4,k5⟩
 ·rcases first_out l b i with h1 | ⟨k,k1,k2,k3,k4⟩
  ·rw [h,sgB_full hw (Nat.le_of_lt hlt) h1]
   rw [hrun,hkeep]
  ·have hx := List.getElem?_eq_getElem (show k < l.length by omega)
   have hpair := turn_low hp ht ho k1 k3 hx
   have hk2 : (l[k]'(by omega)).op.cls = 2 := by simpa [isE,hx] using k2
   have hm : (i,k) ∈ pairs := by
    simp only [okPair,hk2,he,Bool.and_eq_true] at hpair
    simpa using hpair.1.2
   have e2 : sgB l st b i = (st k).2 := by
    rcases sgB_top (l := l) (st := st) (b := b) k (Nat.le_of_lt k1) with g | ⟨k',j1,j2,j3,j4,j5⟩
    ·rw [g]; exact sgB_full hw (by omega) k4
    ·exfalso
     have hne : k < k' := by
      rcases Nat.lt_or_ge k k' with q | q
      ·exact q
      ·have : k' = k := by omega
       subst this; rw [k3] at j3; cases j3
     exact turn_ee hp ht hne (by omega) k3 j3 k2 j4
   rw [h,e2]
   refine stdy hm (fun s hs => ?_)
   rw [if_pos k1,htr k (by omega)] at hs
   injection hs with hs; rw [hs]
 ·have hne : i < k := by
   rcases Nat.lt_or_ge i k with q | q
   ·exact q
   ·have : k = i := by omega
    subst this; rw [ht.out] at k3; cases k3
  have hx := List.getElem?_eq_getElem k2
  have hpair := turn_high hp ht ho hne k3 hx
  have hk2 : (l[k]'k2).op.cls = 2 := by simpa [isE,hx] using k4
  have hm : (i,k) ∈ pairs := by
   simp only [okPair,hk2,he,Bool.and_eq_true] at hpair
   simpa using hpair.2
  rw [k5]
  refine stdy hm (fun s hs => ?_)
  rw [if_neg (by omega),htr (k + 1) (by omega)] at hs
  injection hs with hs; rw [hs]
theorem turn_step (htr : ∀ k,k ≤ l.length → (traceOs cfg callF d l (st 0))[k]? = some (st k)) (hst : ∀ p ∈ pairs,steady cfg callF d l (traceOs cfg callF d l (st 0)) p = true) :
  ∃ c,wantedA (frB l st vs b l.length) o.guard = some c ∧ (c = true → opStep cfg callF d (frB l st vs b l.length) (sgB l st b l.length) o.op = some (vs i,sgB l st (with_ b i) l.length)) ∧
   (c = false → vs i = .tuple [] ∧ sgB l st (with_ b i) l.length = sgB l st b l.length) := by
 obtain ⟨c,h1,h2,h3,h4⟩ := hw i o ho
 have hfr := turn_frame hw hp ht ho
 have hE := turn_E hw hp ht ho
 refine ⟨c,by rw [wanted_same hfr.left]; exact h1,fun hc => ?_,fun hc => ?_⟩
 ·subst hc
  rw [reads_same hfr.right]
  have hrun := h3 rfl
  rcases Nat.lt_or_ge o.op.cls 2 with hcl | hcl
  ·have he : isE l i = false := by simp [isE,ho]; omega
   rw [(sgB_with ht.out l.length).1 he]
   rcases Nat.lt_or_ge o.op.cls 1 with h0 | h0
   ·exact cls_pure (by omega) hrun
   ·exact turn_R hw hp ht ho htr hst (by omega) h1 hrun
  ·have := cls_le o.op
   have he : isE l i = true := by simp [isE,ho]; omega
   obtain ⟨e1,e2⟩ := hE he
   rw [e1,e2]; exact hrun
 ·obtain ⟨g1,g2⟩ := h4 hc
  refine ⟨g1,?_⟩
  cases he : isE l i with
  | false => exact (sgB_with ht.out l.length).1 he
  | true =>
   obtain ⟨e1,e2⟩ := hE he
   rw [e1,e2,g2]
end
section
variable {P : Program} {cfg : Cfg} {callF : CallF} {E : Env} {d : Nat} {l : List AOper} {st : Nat → FS} {vs : Nat → AVal} {pairs : List (Nat × Nat)} {ops : Array Oper} {r : Rest}
def StepJ (P : Program) (cfg : Cfg) (callF : CallF) (E : Env) (d : Nat) (l : List AOper) (ops : Array Oper) (r : Rest) (J : (Nat → Bool) → K → Prop) : Prop :=
 ∀ (b : Nat → Bool) (i : Nat) (o : AOper) (x : Oper),l[i]? = some o → ops[i]? = some x → b i = false → ∀ (κ : K) (fr : List AVal) (a : Act) (w : World) (c : Bool) (v : AVal) (σ' : Store),J b κ → Fr cfg E κ fr a → κ.R E cfg.conc →
  wantedA fr o.guard = some c → (c = true → opStep cfg callF d fr κ.σ o.op = some (v,σ')) → (c = false → v = .tuple [] ∧ σ' = κ.σ) → Wh r w κ.h → ∀ (Q : Exit → Act → World → Prop) (next : Act → World → Prop),
  (∀ a' w' (κ' : K),Wh r w' κ'.h → κ'.σ = σ' → κ.Lw κ' → κ'.R E cfg.conc → Fr cfg E κ' (put fr o.dst v) a' → a'.defers = a.defers → J (with_ b i) κ' → next a' w') → wpOp P ops Q i next a w
theorem any_sound (hsz : l.length = ops.size) {J : (Nat → Bool) → K → Prop} (hstep : StepJ P cfg callF E d l ops r J) (hdr : drawOk pairs l ops.toList = true) (hw : Went cfg callF d l st vs)
  (htr : ∀ k,k ≤ l.length → (traceOs cfg callF d l (st 0))[k]? = some (st k)) (hst : ∀ p ∈ pairs,steady cfg callF d l (traceOs cfg callF d l (st 0)) p = true)
  {κ0 : K} (hlb : κ0.Lb) {a0 : Act} {Q : Exit → Act → World → Prop}
  (hQ : ∀ a' w' (κ' : K) b,Wh r w' κ'.h → κ'.σ = (st l.length).2 → κ0.Lw κ' → κ'.R E cfg.conc → Fr cfg E κ' (st l.length).1 a' → a'.defers = a0.defers → J b κ' → Q .normal a' w') :
  ∀ (fuel : Nat) (listed : Array Bool) (a : Act) (κ : K) (w : World),listed.size = l.length → (∀ i x,listed.getD i false = true → ops[i]? = some x → ∀ e ∈ dirs x,listed.getD e false = true) →
   cnt (fun k => listed.getD k false) l.length = fuel → Fr cfg E κ (frB l st vs (fun k => listed.getD k false) l.length) a → κ.σ = sgB l st (fun k => listed.getD k false) l.length →
   κ0.Lw κ → κ.R E cfg.conc → Wh r w κ.h → a.defers = a0.defers → J (fun k => listed.getD k false) κ → wpAny P .any ops Q fuel listed a w := by
 simp only [drawOk,Bool.and_eq_true] at hdr
 obtain ⟨htab,hp⟩ := hdr
 generalize mkTab [] ops.toList = tab at htab hp
 have htabg := tabOk_get htab
 have ready : ∀ (listed : Array Bool),listed.size = l.length → ∀ i,i ∈ Region.ready .any ops listed ↔ i < l.length ∧ listed.getD i false = false ∧ ∃ x,ops[i]? = some x ∧ ∀ e ∈ dirs x,listed.getD e false = true := by
  intro listed hls i
  rw [mem_ready]
  constructor
  ·rintro ⟨h0,x,hx,he⟩
   have hi : i < l.length := by rw [hsz]; exact (Array.getElem?_eq_some_iff.1 hx).1
   refine ⟨hi,?_,x,hx,fun e hem => ?_⟩
   ·simp only [Array.getD_eq_getD_getElem?,Array.getElem?_eq_getElem (show i < listed.size by omega),Option.getD_some] at h0 ⊢
    exact h0
   ·simp only [dirs,List.mem_map,List.mem_filter,Array.mem_toList_iff] at hem
    obtain ⟨ed,⟨h1,h2⟩,rfl⟩ := hem
    exact he ed h1 h2
  ·rintro ⟨hi,h0,x,hx,he⟩
   refine ⟨?_,x,hx,fun ed h1 h2 => he _ ?_⟩
   ·simp only [Array.getD_eq_getD_getElem?,Array.getElem?_eq_getElem (show i < listed.size by omega),Option.getD_some] at h0 ⊢
    exact h0
   ·simp only [dirs,List.mem_map,List.mem_filter,Array.mem_toList_iff]
    exact ⟨ed,⟨h1,h2⟩,rfl⟩
 have ahead : ∀ (b : Nat → Bool),(∀ i x,b i = true → ops[i]? = some x → ∀ e ∈ dirs x,b e = true) → ∀ (i : Nat) (x : Oper),ops[i]? = some x → (∀ e ∈ dirs x,b e = true) → ∀ k,(tab.getD i 0).testBit k = true → b k = true := by
  intro b hcl i
  induction i using Nat.strongRecOn with
  | _ i ih =>
   intro x hx hall k hk
   have := htabg i x (by simpa using hx)
   rw [Nat.zero_add] at this
   rw [this.1] at hk
   obtain ⟨e,he,h | h⟩ := orAll_bit hk
   ·subst h; exact hall _ he
   ·have hlt := this.2 e he
    cases hy : ops[e]? with
    | none =>
     have : i < ops.size := (Array.getElem?_eq_some_iff.1 hx).1
     rw [Array.getElem?_eq_none_iff] at hy
     omega
    | some y => exact ih e hlt y hy (hcl e y (hall e he) hy) k h
 have turn : ∀ (listed : Array Bool),listed.size = l.length → (∀ i x,listed.getD i false = true → ops[i]? = some x → ∀ e ∈ dirs x,listed.getD e false = true) → ∀ i,i ∈ Region.ready .any ops listed → Turn tab (fun k => listed.getD k false) l.length i := by
  intro listed hls hcl i hi
  obtain ⟨h1,h2,x,hx,he⟩ := (ready listed hls i).1 hi
  have anc := ahead (fun k => listed.getD k false) hcl
  have mid : ∀ k k',k < k' → k' < l.length → listed.getD k false = false → listed.getD k' false = true → (tab.getD k' 0).testBit k = false := by
   intro k k' hk hk' b1 b2
   cases hb : (tab.getD k' 0).testBit k with
   | false => rfl
   | true =>
    have hy : ops[k']? = some (ops[k']'(by omega)) := Array.getElem?_eq_getElem (by omega)
    have := anc k' _ hy (hcl k' _ b2 hy) k hb
    simp only [b1] at this; cases this
  exact ⟨h1,h2,anc i x hx he,fun k hk hk' hb => mid i k hk hk' h2 hb,mid⟩
 have fin : ∀ (listed : Array Bool) (a : Act) (κ : K) (w : World),listed.size = l.length → cnt (fun k => listed.getD k false) l.length = 0 → Fr cfg E κ (frB l st vs (fun k => listed.getD k false) l.length) a →
   κ.σ = sgB l st (fun k => listed.getD k false) l.length → κ0.Lw κ → κ.R E cfg.conc → Wh r w κ.h → a.defers = a0.defers → J (fun k => listed.getD k false) κ → Q .normal a w := by
  intro listed a κ w hls hcnt hf hσ hle hR hh hdf hJ
  have hall := cnt_zero hcnt
  refine hQ a w κ _ hh ?_ hle hR ?_ hdf hJ
  ·rw [hσ,sgB_full hw (Nat.le_refl _) (fun k hk _ => hall k hk)]
  ·refine ⟨by rw [← frB_all hw (Nat.le_refl _)]; have h1 := hf.len; rw [frB_len] at h1 ⊢; exact h1,fun t => ?_,hf.gl⟩
   have e : (frB l st vs (fun k => listed.getD k false) l.length).getD t .undef = (st l.length).1.getD t .undef := by
    rw [frB_same (b' := fun _ => true) (fun k hk _ => hall k hk),frB_all hw (Nat.le_refl _)]
   have := hf.fr t
   rw [e] at this
   exact this
 intro fuel
 induction fuel with
 | zero =>
  intro listed a κ w hls hcl hcnt hf hσ hle hR hh hdf hJ
  refine ⟨?_,fin listed a κ w hls hcnt hf hσ hle hR hh hdf hJ⟩
  rw [List.eq_nil_iff_forall_not_mem]
  intro i hi
  obtain ⟨h1,h2,_⟩ := (ready listed hls i).1 hi
  have := cnt_zero hcnt i h1
  simp only [h2] at this; cases this
 | succ fuel ih =>
  intro listed a κ w hls hcl hcnt hf hσ hle hR hh hdf hJ
  refine ⟨fun hnil => ?_,fun i hi => ?_⟩
  ·exfalso
   obtain ⟨k,k1,k2,k3⟩ := cnt_pos (b := fun k => listed.getD k false) (m := l.length) (by omega)
   have hx : ops[k]? = some (ops[k]'(by omega)) := Array.getElem?_eq_getElem (by omega)
   have : k ∈ Region.ready .any ops listed := (ready listed hls k).2 ⟨k1,k2,_,hx,fun e he => by
    have := (htabg k _ (by simp)).2 e he
    exact k3 e (by omega)⟩
   rw [hnil] at this; cases this
  ·have ht := turn listed hls hcl i hi
   obtain ⟨h1,h2,x,hx,he⟩ := (ready listed hls i).1 hi
   have ho := List.getElem?_eq_getElem h1
   obtain ⟨c,w1,w2,w3⟩ := turn_step hw hp ht ho htr hst
   have hupd : (fun k => (listed.setIfInBounds i true).getD k false) = with_ (fun k => listed.getD k false) i := by
    funext k
    simp only [with_]
    by_cases hk : k = i
    ·subst hk
     simp [Array.getElem?_setIfInBounds_self_of_lt (show k < listed.size by omega)]
    ·simp [Array.getElem?_setIfInBounds_ne (fun e => hk e.symm),hk]
   refine hstep _ i _ x ho hx h2 κ _ a w c _ _ hJ hf hR w1 (by rw [hσ]; exact w2) (by rw [hσ]; exact w3) hh _ _ fun a' w' κ' k1 k2 k3 k4 k5 k6 k7 => ?_
   have hcnt' := cnt_with (b := fun k => listed.getD k false) (i := i) h2 l.length
   rw [if_pos h1] at hcnt'
   refine ih (listed.setIfInBounds i true) a' κ' w' (by simpa using hls) (fun j y hj hy e hem => ?_) (by rw [hupd]; omega) ?_ (by rw [hupd]; exact k2) (K.Lw.trans hlb hle k3) k4 k1 (k6.trans hdf) (by rw [hupd]; exact k7)
   ·have hj' : with_ (fun k => listed.getD k false) i j = true := by rw [← hupd]; exact hj
    have goal : with_ (fun k => listed.getD k false) i e = true := by
     simp only [with_,Bool.or_eq_true,beq_iff_eq] at hj' ⊢
     rcases hj' with rfl | hj'
     ·rw [hx] at hy; injection hy with hy; subst hy
      exact .inr (he e hem)
     ·exact .inr (hcl j y hj' hy e hem)
    rw [← hupd] at goal
    exact goal
   ·rw [hupd,turn_put hp ht ho]; exact k5
theorem region_J (hm : P.follows .mixedOrders = true) (hsz : l.length = ops.size) {J : (Nat → Bool) → K → Prop} (hstep : StepJ P cfg callF E d l ops r J) {id : Nat} {Q : Exit → Act → World → Prop} {fr : List AVal} {a : Act} {κ : K} {w : World} {s' : FS}
  (hdr : drawOk pairs l ops.toList = true) (h : stepOs cfg callF d l (fr,κ.σ) = some s') (hst : ∀ p ∈ pairs,steady cfg callF d l (traceOs cfg callF d l (fr,κ.σ)) p = true)
  (hf : Fr cfg E κ fr a) (hR : κ.R E cfg.conc) (hh : Wh r w κ.h)
  (hJ : J (fun _ => false) κ)
  (hQ : ∀ a' w' (κ' : K) b,Wh r w' κ'.h → κ'.σ = s'.2 → κ.Lw κ' → κ'.R E cfg.conc → Fr cfg E κ' s'.1 a' → a'.defers = a.defers → J b κ' → Q .normal a' w') :
  (Code.region id ops true).wp P Q a w := by
 obtain ⟨st,vs,h0,hn,hw,htr⟩ := went_of h
 refine wp_region_any hm ?_
 have hb : (fun k => (Array.replicate ops.size false).getD k false) = fun _ => false := by
  funext k
  simp only [Array.getD_eq_getD_getElem?,Array.getElem?_replicate]
  split <;> rfl
 have hfr : ∀ m,frB l st vs (fun _ => false) m = fr := by
  intro m
  induction m with
  | zero => simp only [frB,h0]
  | succ m ih => simpa [frB] using ih
 have hsg : ∀ m,sgB l st (fun _ => false) m = κ.σ := by
  intro m
  induction m with
  | zero => simp only [sgB,h0]
  | succ m ih => simpa [sgB] using ih
 rw [← h0] at htr hst
 exact any_sound hsz hstep hdr hw htr hst hR.lb (a0 := a) (by rw [hn]; exact hQ) ops.size _ a κ _ (by simp [hsz])
  (fun i x hi => by have := congrFun hb i; rw [this] at hi; cases hi) (by rw [hb,cnt_none _ (fun _ => rfl),hsz]) (by rw [hb,hfr]; exact hf) (by rw [hb,hsg]) (K.Lw.refl _) hR hh rfl (by rw [hb]; exact hJ)
theorem region_any (hm : P.follows .mixedOrders = true) (hcall : CallOk P cfg callF) (hd : E.d = d) {id : Nat} {Q : Exit → Act → World → Prop} {fr : List AVal} {a : Act} {κ : K} {w : World} {s' : FS}
  (hc : chkOpers cfg P ops l ops.toList = true) (hdr : drawOk pairs l ops.toList = true) (h : stepOs cfg callF d l (fr,κ.σ) = some s') (hst : ∀ p ∈ pairs,steady cfg callF d l (traceOs cfg callF d l (fr,κ.σ)) p = true)
  (hf : Fr cfg E κ fr a) (hR : κ.R E cfg.conc) (hh : Wh r w κ.h)
  (hQ : ∀ a' w' (κ' : K),Wh r w' κ'.h → κ'.σ = s'.2 → κ.Le κ' → κ'.R E cfg.conc → Fr cfg E κ' s'.1 a' → a'.defers = a.defers → Q .normal a' w') :
  (Code.region id ops true).wp P Q a w := by
 obtain ⟨hlen,hget⟩ := chkOpers_get hc
 refine region_J hm (by simpa using hlen) (J := fun _ κ' => ∀ i,κ.pend i → κ'.pend i) ?_ hdr h hst hf hR hh (fun _ h => h) fun a' w' κ' b k1 k2 k3 k4 k5 k6 k7 => hQ a' w' κ' k1 k2 ⟨k3,k7⟩ k4 k5 k6
 intro b i o x ho hx _ κ1 fr1 a1 w1 c v σ' hJ hf1 hR1 hw1 h1 h2 hh1 Q1 next hn
 obtain ⟨x',hx',hcx⟩ := hget i o ho
 have hxx : x' = x := by
  have : ops.toList[i]? = some x := by simpa using hx
  rw [this] at hx'; injection hx' with hx'; exact hx'.symm
 subst hxx
 exact oper_step hcall hd hx hcx hf1 hR1 hw1 h1 h2 hh1 fun a' w' κ' k1 k2 k3 k4 k5 k6 => hn a' w' κ' k1 k2 k3.toLw k4 k5 k6 fun i hi => k3.hold i (hJ i hi)
end
def AOper.isAl (o : AOper) : Bool := match o.op with
 | .alloc _ => true
 | _ => false
def cntA : List AOper → Nat → Nat
 | [],_ => 0
 | _ :: _,0 => 0
 | o :: os,i + 1 => (if o.isAl then 1 else 0) + cntA os i
def aheadOp (n : Nat) (o : AOper) : AOper := match o.op with
 | .alloc _ => { o with op := .move (.const (.ptr n 0)) }
 | _ => o
theorem al_cases (o : AOper) : (∃ z,o.op = .alloc z ∧ o.isAl = true) ∨ (o.isAl = false ∧ ∀ z,o.op ≠ .alloc z) := by
 unfold AOper.isAl
 split
 ·rename_i z hz; exact .inl ⟨z,hz,rfl⟩
 ·rename_i hz; exact .inr ⟨rfl,fun z h => hz z h⟩
theorem aheadO_al {n : Nat} {o : AOper} {os : List AOper} {z : List AVal} (h : o.op = .alloc z) : aheadO n (o :: os) = { o with op := .move (.const (.ptr n 0)) } :: aheadO (n + 1) os := by simp only [aheadO,h]
theorem aheadO_no {n : Nat} {o : AOper} {os : List AOper} (h : ∀ z,o.op ≠ .alloc z) : aheadO n (o :: os) = o :: aheadO n os := by
 simp only [aheadO]
theorem aheadZ_al {o : AOper} {os : List AOper} {z : List AVal} (h : o.op = .alloc z) : aheadZ (o :: os) = .cells z :: aheadZ os := by simp only [aheadZ,h]
theorem aheadZ_no {o : AOper} {os : List AOper} (h : ∀ z,o.op ≠ .alloc z) : aheadZ (o :: os) = aheadZ os := by
 simp only [aheadZ]
theorem aheadOp_al {n : Nat} {o : AOper} {z : List AVal} (h : o.op = .alloc z) : aheadOp n o = { o with op := .move (.const (.ptr n 0)) } := by simp only [aheadOp,h]
theorem aheadOp_no {n : Nat} {o : AOper} (h : ∀ z,o.op ≠ .alloc z) : aheadOp n o = o := by
 simp only [aheadOp]
theorem ahead_len : ∀ (l : List AOper) (n : Nat),(aheadO n l).length = l.length
 | [],n => rfl
 | o :: os,n => by
  rcases al_cases o with ⟨z,hz,_⟩ | ⟨_,hz⟩
  ·rw [aheadO_al hz]; simp [ahead_len os]
  ·rw [aheadO_no hz]; simp [ahead_len os]
theorem ahead_get : ∀ {l : List AOper} {n i : Nat} {o : AOper},l[i]? = some o → (aheadO n l)[i]? = some (aheadOp (n + cntA l i) o)
 | [],n,i,o,h => by simp at h
 | o :: os,n,i,o',h => by
  rcases al_cases o with ⟨z,hz,ha⟩ | ⟨ha,hz⟩
  ·rw [aheadO_al hz]
   cases i with
   | zero => simp only [List.getElem?_cons_zero,Option.some.injEq] at h; subst h; simp only [cntA,aheadOp_al hz,Nat.add_zero,List.getElem?_cons_zero]
   | succ i =>
    simp only [List.getElem?_cons_succ] at h ⊢
    rw [ahead_get h]
    simp only [cntA,ha,if_true]
    rw [show n + 1 + cntA os i = n + (1 + cntA os i) by omega]
  ·rw [aheadO_no hz]
   cases i with
   | zero => simp only [List.getElem?_cons_zero,Option.some.injEq] at h; subst h; simp only [aheadOp_no hz,List.getElem?_cons_zero]
   | succ i =>
    simp only [List.getElem?_cons_succ] at h ⊢
    rw [ahead_get h]
    simp only [cntA,ha,Bool.false_eq_true,if_false,Nat.zero_add]
theorem aheadZ_get : ∀ {l : List AOper} {i : Nat} {o : AOper} {z : List AVal},l[i]? = some o → o.op = .alloc z → (aheadZ l)[cntA l i]? = some (.cells z)
 | [],i,o,z,h,_ => by simp at h
 | o :: os,i,o',z,h,hz => by
  cases i with
  | zero =>
   simp only [List.getElem?_cons_zero,Option.some.injEq] at h
   subst h
   rw [aheadZ_al hz]; simp only [cntA,List.getElem?_cons_zero]
  | succ i =>
   simp only [List.getElem?_cons_succ] at h
   have ih := aheadZ_get h hz
   rcases al_cases o with ⟨z',hz',ha⟩ | ⟨ha,hz'⟩
   ·rw [aheadZ_al hz']
    simp only [cntA,ha,if_true]
    rw [show 1 + cntA os i = cntA os i + 1 by omega,List.getElem?_cons_succ]; exact ih
   ·rw [aheadZ_no hz']
    simp only [cntA,ha,Bool.false_eq_true,if_false,Nat.zero_add]; exact ih
theorem cntA_lt : ∀ {l : List AOper} {i j : Nat} {o : AOper},l[i]? = some o → o.isAl = true → i < j → cntA l i < cntA l j
 | [],i,j,o,h,_,_ => by simp at h
 | o :: os,0,j,o',h,ho,hj => by
  simp only [List.getElem?_cons_zero,Option.some.injEq] at h
  subst h
  cases j with
  | zero => omega
  | succ j => simp only [cntA,ho,if_true]; omega
 | o :: os,i + 1,j,o',h,ho,hj => by
  simp only [List.getElem?_cons_succ] at h
  cases j with
  | zero => omega
  | succ j =>
   have := cntA_lt h ho (show i < j by omega)
   simp only [cntA]; omega
def AOper.sg (o : AOper) : Option Nat × List Nat × Nat := (o.dst,o.looks,o.op.cls)
theorem ahead_sg (n m : Nat) (o : AOper) : (aheadOp n o).sg = (aheadOp m o).sg := by
 rcases al_cases o with ⟨z,hz,_⟩ | ⟨_,hz⟩
 ·rw [aheadOp_al hz,aheadOp_al hz]; rfl
 ·rw [aheadOp_no hz,aheadOp_no hz]
theorem apartO_sg {x x' y y' : AOper} (hx : x.sg = x'.sg) (hy : y.sg = y'.sg) : apartO x y = apartO x' y' := by
 simp only [AOper.sg,Prod.mk.injEq] at hx hy
 simp only [apartO,hx.1,hy.2.1,hy.1]
theorem okPair_sg {pairs : List (Nat × Nat)} {j i : Nat} {x x' y y' : AOper} (hx : x.sg = x'.sg) (hy : y.sg = y'.sg) : okPair pairs j i x y = okPair pairs j i x' y' := by
 simp only [okPair,apartO_sg hx hy,apartO_sg hy hx]
 simp only [AOper.sg,Prod.mk.injEq] at hx hy
 rw [hx.2.2,hy.2.2]
theorem pairsOk_ahead {tab : List Nat} {pairs : List (Nat × Nat)} {l : List AOper} {n m : Nat} (h : pairsOk tab pairs (aheadO n l) = true) : pairsOk tab pairs (aheadO m l) = true := by
 simp only [pairsOk,List.all_eq_true,List.mem_range,ahead_len] at h ⊢
 intro i hi
 have h1 := h i hi
 have ei := List.getElem?_eq_getElem hi
 rw [ahead_get ei] at h1 ⊢
 simp only [List.all_eq_true,List.mem_range] at h1 ⊢
 intro j hj
 have h2 := h1 j hj
 have ej := List.getElem?_eq_getElem (show j < l.length by omega)
 rw [ahead_get ej] at h2 ⊢
 simp only at h2 ⊢
 rw [okPair_sg (ahead_sg _ (n + cntA l j) _) (ahead_sg _ (n + cntA l i) _)]
 exact h2
section
variable {P : Program} {cfg : Cfg} {callF : CallF} {E : Env} {d : Nat} {l : List AOper} {pairs : List (Nat × Nat)} {ops : Array Oper} {r : Rest}
theorem place_run {t : TypeId} {z : List AVal} {zc : List Value} {κ : K} {cf : FuncId → FuncId} (hz : zeroT P t = some zc) (hzc : chkCs z zc = true) (hz1 : z.all AVal.one = true) (hR : κ.R E cf) {id : Nat} (hpd : κ.pend id) (hid : κ.σ[id]? = some (.cells z))
  {w : World} (hw : w.heap = κ.h) : ∃ (cv : Value) (o : Obj),(Instr.alloc t true (.tuple #[])).run P w = .ok cv { w with heap := w.heap.push o } ∧ (κ.place id o).R E cf ∧ (κ.place id o).V E cf (.ptr id 0) cv := by
 obtain ⟨i,zv,hi,hzv,hzc'⟩ := zeroT_eq hz
 have hlw := K.place_lw (E := E) (cf := cf) hR id (.cells zv.cells t) hpd
 have hvl : κ.VL E cf z zv.cells.toList := by rw [hzc']; exact chkCs_ok _ _ hzc
 refine ⟨.pointer (some ⟨κ.h.size,0,none⟩),.cells zv.cells t,by simp [Instr.alloc,zeroValue,typeInfo,hi,hzv,Result.andThen,newVar,newRow,newObj,Sem.run,hw],K.place_R hR id _ _ hpd hid ⟨allOne_of hz1,zv.cells,t,by simp [K.place],K.VL.lw hR.lb hlw hvl⟩,.ptr _ _ _ _ ⟨⟨⟨z,hid⟩,fun h => h.2 rfl⟩,by simp [K.place]⟩⟩
theorem region_ahead (hm : P.follows .mixedOrders = true) (hcall : CallOk P cfg callF) (hd : E.d = d) {id : Nat} {Q : Exit → Act → World → Prop} {fr : List AVal} {a : Act} {κ : K} {w : World} {s' : FS}
  (hc : chkOpers cfg P ops l ops.toList = true) (hdr : drawOk pairs (aheadO 0 l) ops.toList = true) (h : stepOs cfg callF d (aheadO κ.σ.length l) (fr,κ.σ ++ aheadZ l) = some s')
  (hst : ∀ p ∈ pairs,steady cfg callF d (aheadO κ.σ.length l) (traceOs cfg callF d (aheadO κ.σ.length l) (fr,κ.σ ++ aheadZ l)) p = true)
  (hf : Fr cfg E κ fr a) (hR : κ.R E cfg.conc) (hh : Wh r w κ.h)
  (hQ : ∀ a' w' (κ' : K),Wh r w' κ'.h → κ'.σ = s'.2 → κ.Le κ' → κ'.R E cfg.conc → Fr cfg E κ' s'.1 a' → a'.defers = a.defers → Q .normal a' w') :
  (Code.region id ops true).wp P Q a w := by
 obtain ⟨hlen,hget⟩ := chkOpers_get hc
 have hle0 := K.ahead_le hR (aheadZ l)
 have hR0 := K.ahead_R hR (aheadZ l)
 refine region_J hm (κ := κ.ahead (aheadZ l)) (l := aheadO κ.σ.length l) (pairs := pairs) (s' := s') (by rw [ahead_len]; simpa using hlen)
  (J := fun b κ' => (∀ i,κ.pend i → κ'.pend i) ∧ ∀ i o z,l[i]? = some o → o.op = .alloc z → b i = false → κ'.pend (κ.σ.length + cntA l i) ∧ κ'.σ[κ.σ.length + cntA l i]? = some (.cells z)) ?_ ?_ h hst (Fr.le hR.lb hle0.toLw hf) hR0 hh ?_
  fun a' w' κ' b k1 k2 k3 k4 k5 k6 k7 => hQ a' w' κ' k1 k2 ⟨K.Lw.trans hR.lb hle0.toLw k3,k7.1⟩ k4 k5 k6
 ·intro b i o x ho hx hb κ1 fr1 a1 w1 c v σ' hJ hf1 hR1 hw1 h1 h2 hh1 Q1 next hn
  have hi : i < l.length := by rw [← ahead_len l κ.σ.length]; exact (List.getElem?_eq_some_iff.1 ho).1
  have ho0 := List.getElem?_eq_getElem hi
  generalize l[i] = o0 at ho0
  rw [ahead_get ho0] at ho
  injection ho with ho
  obtain ⟨x',hx',hcx⟩ := hget i o0 ho0
  have hxx : x' = x := by
   have : ops.toList[i]? = some x := by simpa using hx
   rw [this] at hx'; injection hx' with hx'; exact hx'.symm
  subst hxx
  have fewer : ∀ κ2 : K,(∀ j o z,l[j]? = some o → o.op = .alloc z → with_ b i j = false → j ≠ i → b j = false → κ2.pend (κ.σ.length + cntA l j) ∧ κ2.σ[κ.σ.length + cntA l j]? = some (.cells z)) →
    ∀ j o z,l[j]? = some o → o.op = .alloc z → with_ b i j = false → κ2.pend (κ.σ.length + cntA l j) ∧ κ2.σ[κ.σ.length + cntA l j]? = some (.cells z) := by
   intro κ2 hk j o z hj hz hw
   have hw' := hw
   simp only [with_,Bool.or_eq_false_iff,beq_eq_false_iff_ne] at hw'
   exact hk j o z hj hz hw hw'.1 hw'.2
  by_cases hal : ∃ z,o0.op = .alloc z
  ·obtain ⟨z,hz⟩ := hal
   have eo : o = { o0 with op := .move (.const (.ptr (κ.σ.length + cntA l i) 0)) } := by rw [← ho,aheadOp_al hz]
   subst eo
   have hdst : o0.dst = x'.dst := by simp only [chkOper,Bool.and_eq_true,beq_iff_eq] at hcx; exact hcx.1.1
   have hop : chkO cfg P o0.op x'.op = true := by simp only [chkOper,Bool.and_eq_true,beq_iff_eq] at hcx; exact hcx.1.2
   obtain ⟨hpd,hid⟩ := hJ.2 i o0 z ho0 hz hb
   unfold wpOp
   simp only [hx]
   rw [wanted_ok hf1 hcx hw1]
   cases c with
   | true =>
    simp only [if_true]
    refine .inl ?_
    have hs := h1 rfl
    simp only [opStep,ev] at hs
    injection hs with hs; injection hs with e1 e2; subst e1; subst e2
    rw [hz] at hop
    obtain ⟨xdst,xop,ty,pos,after,guard⟩ := x'
    dsimp only at hop hdst ⊢
    simp only [chkO,isCall,Bool.not_false,Bool.true_and,chkOp] at hop
    split at hop
    ·rename_i t
     simp only [Bool.and_eq_true] at hop
     obtain ⟨g1,g2⟩ := hop
     cases hzt : zeroT P t with
     | none => simp [hzt] at g1
     | some zc =>
      simp only [hzt] at g1
      obtain ⟨cv,ob,p1,p2,p3⟩ := place_run hzt g1 g2 hR1 hpd hid hh1.1
      have hlw := K.place_lw (E := E) (cf := cfg.conc) hR1 _ ob hpd
      unfold Oper.wp
      have he : (execOp a1.eval ⟨xdst,.alloc t,ty,pos,after,guard⟩).run P w1 = .ok (.value cv) { w1 with heap := w1.heap.push ob } := by
       simp [execOp,p1,Result.andThen]
      rw [he,Oper.upon_value]
      refine hn _ _ (κ1.place _ ob) ⟨by simp [K.place,hh1.1],hh1.2⟩ rfl hlw p2 (by rw [show ({ o0 with op := AOp.move (Opnd.const (AVal.ptr (κ.σ.length + cntA l i) 0)) } : AOper).dst = xdst from hdst]; exact Fr.put (Fr.le hR1.lb hlw hf1) p3) put_defers ⟨fun j hj => ⟨hJ.1 j hj,?_⟩,fewer _ fun j o z hj hz' _ hne hbj => ?_⟩
      ·have := hR.pl j hj; omega
      ·obtain ⟨q1,q2⟩ := hJ.2 j o z hj hz' hbj
       refine ⟨⟨q1,fun e => ?_⟩,q2⟩
       have e' : cntA l j = cntA l i := by omega
       rcases Nat.lt_or_gt_of_ne hne with hlt | hlt
       ·have := cntA_lt hj (by simp [AOper.isAl,hz']) hlt; omega
       ·have := cntA_lt ho0 (by simp [AOper.isAl,hz]) hlt; omega
    ·simp at hop
   | false =>
    simp only [Bool.false_eq_true,if_false]
    obtain ⟨rfl,rfl⟩ := h2 rfl
    exact hn _ w1 κ1 hh1 rfl (K.Lw.refl _) hR1 (by rw [show ({ o0 with op := AOp.move (Opnd.const (AVal.ptr (κ.σ.length + cntA l i) 0)) } : AOper).dst = x'.dst from hdst]; exact Fr.put hf1 (.tuple _ [] [] (.nil _))) put_defers ⟨hJ.1,fewer _ fun j o z hj hz' _ _ hbj => hJ.2 j o z hj hz' hbj⟩
  ·have eo : o = o0 := by
    rw [← ho]; exact aheadOp_no fun z hz => hal ⟨z,hz⟩
   subst eo
   refine oper_step hcall hd hx hcx hf1 hR1 hw1 h1 h2 hh1 fun a' w' κ' k1 k2 k3 k4 k5 k6 => hn a' w' κ' k1 k2 k3.toLw k4 k5 k6 ⟨fun j hj => k3.hold j (hJ.1 j hj),fewer _ fun j o z hj hz' _ _ hbj => ?_⟩
   obtain ⟨q1,q2⟩ := hJ.2 j o z hj hz' hbj
   exact ⟨k3.hold _ q1,by rw [(k3.pend _ (hR1.pl _ q1) (k3.hold _ q1)).2]; exact q2⟩
 ·simp only [drawOk,Bool.and_eq_true] at hdr ⊢
  exact ⟨hdr.1,pairsOk_ahead hdr.2⟩
 ·refine ⟨fun i hi => .inl hi,fun i o z hi hz _ => ?_⟩
  have hg := aheadZ_get hi hz
  have hlt := (List.getElem?_eq_some_iff.1 hg).1
  refine ⟨.inr ⟨by omega,by omega⟩,?_⟩
  simp only [K.ahead]
  rw [List.getElem?_append_right (by omega)]
  rw [show κ.σ.length + cntA l i - κ.σ.length = cntA l i by omega]
  exact hg
end
end Go.Proofs.YtbbekbjcmnopjaaGreatDoor.Am
namespace Go.Proofs.YtbbekbjcmnopjaaGreatDoor.Am
open Go
def chkCode (cfg : Cfg) (P : Program) : ACode → Code → Bool
 | .skip,.skip => true
 | .region ops,.region _ xs draw => chkOpers cfg P xs ops xs.toList && (!draw || drawOk [] ops xs.toList)
 | .drawn ops pairs,.region _ xs true => chkOpers cfg P xs ops xs.toList && drawOk pairs ops xs.toList
 | .ahead ops pairs,.region _ xs true => chkOpers cfg P xs ops xs.toList && drawOk pairs (aheadO 0 ops) xs.toList
 | .seq a b,.seq x y => chkCode cfg P a x && chkCode cfg P b y
 | .cond c a b,.cond z x y => chkX cfg c z && chkCode cfg P a x && chkCode cfg P b y
 | .block id c,.block id' x => id == id' && chkCode cfg P c x
 | .loop _ c,.loop x => chkCode cfg P c x
 | .exit id,.exit id' => id == id'
 | .ret,.ret => true
 | .stop,_ => true
 | _,_ => false
def toExit : AExit → Exit
 | .normal => .normal
 | .exit id => .exit id
 | .ret => .ret
theorem exists_least {p : Nat → Prop} : ∀ {n : Nat},p n → ∃ m,p m ∧ ∀ k,p k → m ≤ k := by
 intro n
 induction n using Nat.strongRecOn with
 | _ n ih =>
  intro h
  by_cases hex : ∃ k,k < n ∧ p k
  ·obtain ⟨k,hk,hp⟩ := hex
   exact ih k hk hp
  ·exact ⟨n,h,fun k hk => Nat.le_of_not_lt fun hlt => hex ⟨k,hlt,hk⟩⟩
open Classical in
noncomputable def least (p : Nat → Prop) : Nat := if h : ∃ m,p m ∧ ∀ k,p k → m ≤ k then Classical.choose h else 0
theorem least_spec {p : Nat → Prop} {n : Nat} (h : p n) : p (least p) ∧ least p ≤ n := by
 have hex := exists_least h
 unfold least
 rw [dif_pos hex]
 exact ⟨(Classical.choose_spec hex).1,(Classical.choose_spec hex).2 n h⟩
section
variable {P : Program} {cfg : Cfg} {callF : CallF} {E : Env} {d : Nat} {r : Rest}
theorem cleanFrom_get (live : List Nat) : ∀ (fr : List AVal) (j i : Nat),(cleanFrom live j fr).getD i .undef = fr.getD i .undef ∨ (cleanFrom live j fr).getD i .undef = .undef
 | [],j,i => .inl rfl
 | v :: vs,j,i => by
  simp only [cleanFrom]
  cases i with
  | zero =>
   simp only [List.getD_cons_zero]
   split
   ·exact .inl rfl
   ·exact .inr rfl
  | succ i => simpa only [List.getD_cons_succ] using cleanFrom_get live vs (j + 1) i
theorem cleanFrom_len (live : List Nat) : ∀ (fr : List AVal) (j : Nat),(cleanFrom live j fr).length = fr.length
 | [],j => rfl
 | v :: vs,j => by simp [cleanFrom,cleanFrom_len live vs (j + 1)]
theorem Fr.clean {κ : K} {fr : List AVal} {a : Act} (h : Fr cfg E κ fr a) (live : List Nat) : Fr cfg E κ (cleanFrom live 0 fr) a :=
 ⟨by rw [cleanFrom_len]; exact h.len,fun i => by
  rcases cleanFrom_get live fr 0 i with e | e
  ·rw [e]; exact h.fr i
  ·rw [e]; exact .undef _ _,h.gl⟩
theorem code_sound (hm : P.follows .mixedOrders = true) (hcall : CallOk P cfg callF) (hd : E.d = d) (n : Nat) : ∀ (c : ACode) (x : Code),chkCode cfg P c x = true →
  ∀ (fr : List AVal) (a : Act) (κ : K) (w : World) (e : AExit) (s' : FS),evC cfg callF d n c (fr,κ.σ) = some (e,s') → Fr cfg E κ fr a → κ.R E cfg.conc → Wh r w κ.h →
   ∀ Q : Exit → Act → World → Prop,(∀ a' w' (κ' : K),Wh r w' κ'.h → κ'.σ = s'.2 → κ.Le κ' → κ'.R E cfg.conc → Fr cfg E κ' s'.1 a' → a'.defers = a.defers → Q (toExit e) a' w') → x.wp P Q a w
 | .skip,x,hc,fr,a,κ,w,e,s',h,hf,hR,hh,Q,hQ => by
  cases x <;> simp [chkCode] at hc
  simp only [evC] at h
  injection h with h; injection h with h1 h2; subst h1; subst h2
  exact wp_skip (hQ a w κ hh rfl (K.Le.refl _) hR hf rfl)
 | .region ops,x,hc,fr,a,κ,w,e,s',h,hf,hR,hh,Q,hQ => by
  cases x with
  | region id xs draw =>
   simp only [chkCode,Bool.and_eq_true] at hc
   simp only [evC] at h
   split at h
   ·rename_i s1 hs
    injection h with h; injection h with h1 h2; subst h1; subst h2
    cases draw with
    | false => exact region_seq hcall hd hc.1 hs hf hR hh hQ
    | true => exact region_any hm hcall hd hc.1 (by simpa using hc.2) hs (fun p hp => by simp at hp) hf hR hh hQ
   ·simp at h
  | _ => simp [chkCode] at hc
 | .drawn ops pairs,x,hc,fr,a,κ,w,e,s',h,hf,hR,hh,Q,hQ => by
  cases x with
  | region id xs draw =>
   cases draw with
   | false => simp [chkCode] at hc
   | true =>
    simp only [chkCode,Bool.and_eq_true] at hc
    simp only [evC] at h
    split at h
    ·rename_i s1 hs
     split at h
     ·rename_i hst
      injection h with h; injection h with h1 h2; subst h1; subst h2
      exact region_any hm hcall hd hc.1 hc.2 hs (fun p hp => List.all_eq_true.1 hst p hp) hf hR hh hQ
     ·simp at h
    ·simp at h
  | _ => simp [chkCode] at hc
 | .ahead ops pairs,x,hc,fr,a,κ,w,e,s',h,hf,hR,hh,Q,hQ => by
  cases x with
  | region id xs draw =>
   cases draw with
   | false => simp [chkCode] at hc
   | true =>
    simp only [chkCode,Bool.and_eq_true] at hc
    simp only [evC] at h
    split at h
    ·rename_i s1 hs
     split at h
     ·rename_i hst
      injection h with h; injection h with h1 h2; subst h1; subst h2
      exact region_ahead hm hcall hd hc.1 hc.2 hs (fun p hp => List.all_eq_true.1 hst p hp) hf hR hh hQ
     ·simp at h
    ·simp at h
  | _ => simp [chkCode] at hc
 | .seq b c,x,hc,fr,a,κ,w,e,s',h,hf,hR,hh,Q,hQ => by
  cases x with
  | seq y z =>
   simp only [chkCode,Bool.and_eq_true] at hc
   simp only [evC] at h
   refine wp_seq ?_
   split at h
   ·rename_i s1 hs
    refine code_sound hm hcall hd n b y hc.1 fr a κ w _ _ hs hf hR hh _ fun a' w' κ' k1 k2 k3 k4 k5 k6 => ?_
    simp only [toExit,Exit.then]
    refine code_sound hm hcall hd n c z hc.2 s1.1 a' κ' w' e s' (by rw [k2]; exact h) k5 k4 k1 Q fun a'' w'' κ'' l1 l2 l3 l4 l5 l6 => ?_
    exact hQ a'' w'' κ'' l1 l2 (K.Le.trans hR.lb k3 l3) l4 l5 (l6.trans k6)
   ·rename_i r hne
    cases e with
    | normal => exact absurd h (hne s')
    | exit id => exact code_sound hm hcall hd n b y hc.1 fr a κ w _ _ h hf hR hh _ fun a' w' κ' k1 k2 k3 k4 k5 k6 => hQ a' w' κ' k1 k2 k3 k4 k5 k6
    | ret => exact code_sound hm hcall hd n b y hc.1 fr a κ w _ _ h hf hR hh _ fun a' w' κ' k1 k2 k3 k4 k5 k6 => hQ a' w' κ' k1 k2 k3 k4 k5 k6
  | _ => simp [chkCode] at hc
 | .cond t b c,x,hc,fr,a,κ,w,e,s',h,hf,hR,hh,Q,hQ => by
  cases x with
  | cond z y y' =>
   simp only [chkCode,Bool.and_eq_true] at hc
   have hv := chkX_ok hf hc.1.1
   simp only [evC] at h
   split at h
   ·rename_i ht
    rw [ht] at hv
    exact wp_cond_true (V_bool hv) (code_sound hm hcall hd n b y hc.1.2 fr a κ w e s' h hf hR hh Q hQ)
   ·rename_i ht
    rw [ht] at hv
    exact wp_cond_false (V_bool hv) (code_sound hm hcall hd n c y' hc.2 fr a κ w e s' h hf hR hh Q hQ)
   ·simp at h
  | _ => simp [chkCode] at hc
 | .block id c,x,hc,fr,a,κ,w,e,s',h,hf,hR,hh,Q,hQ => by
  cases x with
  | block id' y =>
   simp only [chkCode,Bool.and_eq_true,beq_iff_eq] at hc
   obtain ⟨rfl,hc⟩ := hc
   simp only [evC] at h
   refine wp_block ?_
   split at h
   ·rename_i i s1 hs
    injection h with h; injection h with h1 h2; subst h1; subst h2
    refine code_sound hm hcall hd n c y hc fr a κ w _ _ hs hf hR hh _ fun a' w' κ' k1 k2 k3 k4 k5 k6 => ?_
    have := hQ a' w' κ' k1 k2 k3 k4 k5 k6
    simp only [toExit,Exit.inBlock]
    by_cases hi : i = id
    ·simp only [hi,if_true,toExit] at this ⊢; exact this
    ·simp only [hi,if_false,toExit] at this ⊢; exact this
   ·rename_i r hne
    cases e with
    | exit i => exact absurd h (hne i s')
    | normal => exact code_sound hm hcall hd n c y hc fr a κ w _ _ h hf hR hh _ fun a' w' κ' k1 k2 k3 k4 k5 k6 => hQ a' w' κ' k1 k2 k3 k4 k5 k6
    | ret => exact code_sound hm hcall hd n c y hc fr a κ w _ _ h hf hR hh _ fun a' w' κ' k1 k2 k3 k4 k5 k6 => hQ a' w' κ' k1 k2 k3 k4 k5 k6
  | _ => simp [chkCode] at hc
 | .loop live c,x,hc,fr,a,κ,w,e,s',h,hf,hR,hh,Q,hQ => by
  cases x with
  | loop y =>
   simp only [chkCode] at hc
   simp only [evC] at h
   let J : Act → World → Nat → Prop := fun a1 w1 m => ∃ (κ1 : K) (fr1 : List AVal),Wh r w1 κ1.h ∧ κ.Le κ1 ∧ κ1.R E cfg.conc ∧ Fr cfg E κ1 fr1 a1 ∧ a1.defers = a.defers ∧
    iter live (evC cfg callF d n c) m (fr1,κ1.σ) = some (e,s')
   refine wp_loop (fun a1 w1 => ∃ m,J a1 w1 m) (fun a1 w1 => least (J a1 w1)) ⟨n,κ,fr,hh,K.Le.refl _,hR,hf,rfl,h⟩ fun a1 w1 hI => ?_
   obtain ⟨m,hm0⟩ := hI
   have hl := (least_spec hm0).1
   generalize hmu : least (J a1 w1) = μ at hl
   obtain ⟨κ1,fr1,h1,h2,h3,h4,h5,h6⟩ := hl
   cases μ with
   | zero => simp [iter] at h6
   | succ μ =>
    simp only [iter] at h6
    split at h6
    ·rename_i s1 hs
     refine code_sound hm hcall hd n c y hc _ a1 κ1 w1 _ _ hs (h4.clean live) h3 h1 _ fun a' w' κ' k1 k2 k3 k4 k5 k6 => ?_
     simp only [toExit,Exit.then]
     have hJ : J a' w' μ := ⟨κ',s1.1,k1,K.Le.trans hR.lb h2 k3,k4,k5,k6.trans h5,by rw [k2]; exact h6⟩
     exact ⟨⟨μ,hJ⟩,by have := (least_spec hJ).2; omega⟩
    ·rename_i r hne
     refine code_sound hm hcall hd n c y hc _ a1 κ1 w1 _ _ h6 (h4.clean live) h3 h1 _ fun a' w' κ' k1 k2 k3 k4 k5 k6 => ?_
     have := hQ a' w' κ' k1 k2 (K.Le.trans hR.lb h2 k3) k4 k5 (k6.trans h5)
     cases e with
     | normal => exact absurd h6 (hne s')
     | exit i => exact this
     | ret => exact this
  | _ => simp [chkCode] at hc
 | .exit id,x,hc,fr,a,κ,w,e,s',h,hf,hR,hh,Q,hQ => by
  cases x with
  | exit id' =>
   simp only [chkCode,beq_iff_eq] at hc
   subst hc
   simp only [evC] at h
   injection h with h; injection h with h1 h2; subst h1; subst h2
   exact wp_exit (hQ a w κ hh rfl (K.Le.refl _) hR hf rfl)
  | _ => simp [chkCode] at hc
 | .ret,x,hc,fr,a,κ,w,e,s',h,hf,hR,hh,Q,hQ => by
  cases x with
  | ret =>
   simp only [evC] at h
   injection h with h; injection h with h1 h2; subst h1; subst h2
   exact wp_ret (hQ a w κ hh rfl (K.Le.refl _) hR hf rfl)
  | _ => simp [chkCode] at hc
 | .stop,x,hc,fr,a,κ,w,e,s',h,hf,hR,hh,Q,hQ => by simp [evC] at h
end
end Go.Proofs.YtbbekbjcmnopjaaGreatDoor.Am
namespace Go.Proofs.YtbbekbjcmnopjaaGreatDoor.Am
open Go
def chkRes (P : Program) : List ARes → List ResultVar → Bool
 | [],[] => true
 | .tmp t :: rs,.tmp t' :: xs => t == t' && chkRes P rs xs
 | .cell t n agg :: rs,.cell t' ty :: xs => t == t' && sizeT P ty == some n && aggT P ty == some agg && chkRes P rs xs
 | _,_ => false
structure FnOk (cfg : Cfg) (P : Program) (f : FuncId) (fn : AFunc) : Prop where
 ok : ∃ F c, P.funcs[cfg.conc f]? = some F ∧ F.name ≠ "runtime.NumGoroutine" ∧ F.body = some c ∧ F.ntmps = fn.ntmps ∧ chkRes P fn.results F.results.toList = true ∧ chkCode cfg P fn.body c = true
structure CfgOk (P : Program) (cfg : Cfg) : Prop where
 fns : ∀ f fn,cfg.ir f = some fn → FnOk cfg P f fn
 nats : ∀ f g,cfg.nat f = some g → NatOk P cfg f g
section
variable {P : Program} {cfg : Cfg} {E : Env}
def resF (tmps : Array Value) (r : ResultVar) : Sem Value :=
 match r with
 | .tmp t => pure (tmps.getD t undef)
 | .cell b t => do loadVar t (← asAddr (tmps.getD b undef))
theorem resF_tmp (tmps : Array Value) (t : Tmp) : resF tmps (.tmp t) = pure (tmps.getD t undef) := rfl
theorem resF_cell (tmps : Array Value) (b : Tmp) (t : TypeId) : resF tmps (.cell b t) = (do loadVar t (← asAddr (tmps.getD b undef))) := rfl
theorem results_eq (F : Func) (tmps : Array Value) : results F tmps = (do let vs ← F.results.mapM (resF tmps); pure (if h : vs.size = 1 then vs[0] else .tuple vs)) := by
 unfold results
 congr 1
theorem res_run {κ : K} {fr : List AVal} {a : Act} (hf : Fr cfg E κ fr a) (hR : κ.R E cfg.conc) : ∀ {rs : List ARes} {xs : List ResultVar} {vs : List AVal},chkRes P rs xs = true → mapO (resOf (fr,κ.σ)) rs = some vs →
  ∃ cvs,(∀ w : World,w.heap = κ.h → (xs.mapM (resF a.tmps) : Sem (List Value)).run P w = .ok cvs w) ∧ κ.VL E cfg.conc vs cvs
 | [],[],vs,hc,h => by simp at h; subst h; exact ⟨[],fun w _ => by simp,.nil _⟩
 | .tmp t :: rs,.tmp t' :: xs,vs,hc,h => by
  simp only [chkRes,Bool.and_eq_true,beq_iff_eq] at hc
  obtain ⟨rfl,hc⟩ := hc
  simp only [mapO,resOf] at h
  split at h
  ·rename_i v' vs' h1 h2
   injection h with h; subst h
   injection h1 with h1; subst h1
   obtain ⟨cvs,g1,g2⟩ := res_run hf hR hc h2
   refine ⟨_ :: cvs,fun w hw => ?_,.cons _ _ _ _ _ (hf.fr t) g2⟩
   simp only [List.mapM_cons,resF_tmp,Sem.run_bind,Sem.run_pure,Result.andThen,g1 w hw]
  ·simp at h
 | .cell t n agg :: rs,.cell t' ty :: xs,vs,hc,h => by
  simp only [chkRes,Bool.and_eq_true,beq_iff_eq] at hc
  obtain ⟨⟨⟨rfl,hn⟩,hag⟩,hc⟩ := hc
  simp only [mapO,resOf] at h
  split at h
  ·rename_i v' vs' h1 h2
   injection h with h; subst h
   obtain ⟨cvs,g1,g2⟩ := res_run hf hR hc h2
   unfold loadV at h1
   split at h1
   ·rename_i cs off hb
    obtain ⟨b,o,us,hp,hl,hr,ho⟩ := behind_ok hR (hf.fr t) hb
    obtain ⟨cv,hrun,hv⟩ := loadVar_run (P := P) hn hag hl ho hr h1
    refine ⟨cv :: cvs,fun w hw => ?_,.cons _ _ _ _ _ hv g2⟩
    have ea : ∀ A,asAddr (.pointer (some A)) = pure A := fun _ => rfl
    simp only [List.mapM_cons,resF_cell,Sem.run_bind,Sem.run_pure,Result.andThen,hp,ea,hrun w hw,g1 w hw]
   ·simp at h1
  ·simp at h
 | [],_ :: _,vs,hc,h => by simp [chkRes] at hc
 | _ :: _,[],vs,hc,h => by rename_i r rs; cases r <;> simp [chkRes] at hc
 | .tmp _ :: _,.cell _ _ :: _,vs,hc,h => by simp [chkRes] at hc
 | .cell _ _ _ :: _,.tmp _ :: _,vs,hc,h => by simp [chkRes] at hc
theorem results_run {κ : K} {fr : List AVal} {a : Act} (hf : Fr cfg E κ fr a) (hR : κ.R E cfg.conc) {F : Func} {rs : List ARes} {v : AVal} (hc : chkRes P rs F.results.toList = true) (h : resultsA rs (fr,κ.σ) = some v) :
  ∃ cv,(∀ w : World,w.heap = κ.h → (results F a.tmps).run P w = .ok cv w) ∧ κ.V E cfg.conc v cv := by
 unfold resultsA at h
 have key : ∀ {vs : List AVal},mapO (resOf (fr,κ.σ)) rs = some vs → ∃ cvs : List Value,(∀ w : World,w.heap = κ.h → (results F a.tmps).run P w = .ok (if h : cvs.toArray.size = 1 then cvs.toArray[0] else .tuple cvs.toArray) w) ∧ κ.VL E cfg.conc vs cvs := by
  intro vs hvs
  obtain ⟨cvs,g1,g2⟩ := res_run hf hR hc hvs
  refine ⟨cvs,fun w hw => ?_,g2⟩
  have := g1 w hw
  rw [results_eq,Array.mapM_eq_mapM_toList]
  simp only [Sem.run_bind,Sem.run_pure,Sem.run_map,map_eq_pure_bind,Result.andThen]
  rw [this]
 split at h
 ·rename_i v' hvs
  injection h with h; subst h
  obtain ⟨cvs,g1,g2⟩ := key hvs
  cases g2 with
  | cons _ _ cv _ cvs' hv hvs' =>
   cases hvs'
   exact ⟨cv,fun w hw => by rw [g1 w hw]; rfl,hv⟩
 ·rename_i vs hne hvs
  injection h with h; subst h
  obtain ⟨cvs,g1,g2⟩ := key hvs
  refine ⟨.tuple cvs.toArray,fun w hw => ?_,.tuple _ _ _ g2⟩
  rw [g1 w hw]
  have hlen : cvs.toArray.size ≠ 1 := by
   intro h1
   have := VL_len g2
   simp only [List.size_toArray] at h1
   rw [h1] at this
   match vs,this with
   | [x],_ => exact hne x rfl
  rw [dif_neg hlen]
 ·simp at h
theorem VL_getD {κ : K} {vs : List AVal} {cvs : List Value} (h : κ.VL E cfg.conc vs cvs) (i : Nat) : κ.V E cfg.conc (vs.getD i .undef) (cvs.getD i undef) := by
 by_cases hi : i < vs.length
 ·obtain ⟨v,hv,hr⟩ := VL_get h i vs[i] (List.getElem?_eq_getElem hi)
  simp only [List.getD_eq_getElem?_getD,List.getElem?_eq_getElem hi,hv,Option.getD_some]
  exact hr
 ·have e : vs.getD i .undef = .undef := by simp [List.getD_eq_getElem?_getD,List.getElem?_eq_none (show vs.length ≤ i by omega)]
  rw [e]; exact .undef _ _
theorem VL_holes {κ : K} : ∀ (n : Nat),κ.VL E cfg.conc (List.replicate n (.tuple [])) (List.replicate n undef)
 | 0 => .nil _
 | n + 1 => by
  simp only [List.replicate_succ]
  exact .cons _ _ _ _ _ (.tuple _ [] [] (.nil _)) (VL_holes n)
theorem run_ok (hm : P.follows .mixedOrders = true) (hall : CfgOk P cfg) : ∀ n,CallOk P cfg (run cfg n)
 | 0 => fun d f args σ v σ' h => by simp [run] at h
 | n + 1 => by
  have ih := run_ok hm hall n
  intro d f args σ v σ' h
  simp only [run] at h
  split at h
  ·rename_i r0 hg0
   injection h with h; subst h
   unfold natR at hg0
   cases hgn : cfg.nat f with
   | none => rw [hgn] at hg0; cases hg0
   | some g =>
   rw [hgn] at hg0
   obtain ⟨h1,h2⟩ := hall.nats f g hgn _ _ _ _ hg0
   exact ⟨h1,fun E κ cargs _ hσ hR _ ha r w hw => h2 E κ cargs hσ hR ha r w hw⟩
  split at h
  ·simp at h
  ·rename_i fn hfn
   obtain ⟨F,c,h1,h2,h3,h4,h5,h6⟩ := (hall.fns f fn hfn).ok
   refine ⟨⟨F,h1,h2,by simp [h3]⟩,fun E κ cargs hd hσ hR hg ha r w hw => ?_⟩
   subst hσ
   have hlen := VL_len ha
   refine calls_of_wp h1 h3 ?_
   have hvl : κ.VL E cfg.conc (args ++ List.replicate (fn.ntmps - args.length) (.tuple [])) (cargs ++ List.replicate (fn.ntmps - args.length) undef) := VL_append ha (VL_holes _)
   have htm : (cargs.toArray ++ Array.replicate (F.ntmps - cargs.toArray.size) undef) = (cargs ++ List.replicate (fn.ntmps - args.length) undef).toArray := by
    rw [h4,hlen]; simp
   have hf : Fr cfg E κ (args ++ List.replicate (fn.ntmps - args.length) (.tuple [])) { tmps := cargs.toArray ++ Array.replicate (F.ntmps - cargs.toArray.size) undef,defers := [] } := by
    refine ⟨?_,fun i => ?_,hg⟩
    ·simp only; rw [htm]; simp [hlen]
    ·simp only; rw [htm]; simpa using VL_getD hvl i
   split at h
   ·rename_i s hs
    split at h
    ·rename_i v' hres
     injection h with h; injection h with e1 e2; subst e1; subst e2
     refine code_sound hm ih hd n fn.body c h6 _ _ κ w _ _ hs hf hR hw _ fun a' w' κ' k1 k2 k3 k4 k5 k6 => ?_
     obtain ⟨cv,r1,r2⟩ := results_run k5 k4 h5 (by rw [k2]; exact hres)
     exact ⟨k6,cv,r1 w' k1.1,κ',k1,k2,k3,k4,r2⟩
    ·simp at h
   ·rename_i s hs
    split at h
    ·rename_i v' hres
     injection h with h; injection h with e1 e2; subst e1; subst e2
     refine code_sound hm ih hd n fn.body c h6 _ _ κ w _ _ hs hf hR hw _ fun a' w' κ' k1 k2 k3 k4 k5 k6 => ?_
     obtain ⟨cv,r1,r2⟩ := results_run k5 k4 h5 (by rw [k2]; exact hres)
     exact ⟨k6,cv,r1 w' k1.1,κ',k1,k2,k3,k4,r2⟩
    ·simp at h
   ·simp at h
end
end Go.Proofs.YtbbekbjcmnopjaaGreatDoor.Am
namespace Go.Proofs.YtbbekbjcmnopjaaGreatDoor.Am
open Go Go.RowKit Go.ChangeShapes
section
variable {P : Program} {cfg : Cfg}
def startK (W : World) : K := ⟨W.heap,[],fun _ => 0,W.heap.size,fun _ => False⟩
def startE : Env := ⟨0,fun _ _ => False⟩
theorem start_R (W : World) : (startK W).R startE cfg.conc where
 ok := fun k b hk _ => by simp [startE] at hk
 obj := fun id o h => by simp [startK] at h
 inj := fun i j hi => by have := hi.1; simp [startK] at this
 pl := fun i hi => hi.elim
 lb := fun i hi => by have := hi.1; simp [startK] at this
 base := Nat.le_refl _
theorem start_own (W : World) (b : Nat) : ¬ (startK W).own b := fun ⟨id,h,_⟩ => by have := h.1; simp [startK] at this
structure Old (W w' : World) : Prop where
 os : w'.os = W.os
 out : w'.output = W.output
 heap : ∀ b,b < W.heap.size → w'.heap[b]? = W.heap[b]?
 size : W.heap.size ≤ w'.heap.size
theorem grown_of {W w' : World} {κ' : K} (hle : (startK W).Le κ') (hw : Wh (W.os,W.output) w' κ'.h) : Old W w' :=
 ⟨hw.2.1,hw.2.2,fun b hb => by rw [hw.1]; exact (hle.keep b hb (start_own W b)).1,by rw [hw.1]; exact hle.size⟩
theorem Old.kept {W w' : World} (h : Old W w') (may : MemPlace → Prop) : W.keptBut w' may := by
 refine ⟨h.os,h.out,fun i hi => ?_⟩
 rw [h.heap i hi]
 cases h : W.heap[i]? with
 | none => trivial
 | some o => cases o <;> simp
theorem Old.frozen {W w' : World} (h : Old W w') {a : Addr} (ha : a.block < W.heap.size) : w'.frozen? a = W.frozen? a := by
 simp only [World.frozen?,h.heap _ ha]
theorem post_of_old {H : Type} {enc : TypeId × Value → H} {f : Func} {s : ChangeSpec} {apart fresh handsOn again : Bool} {W W' : World} {args : Array Value} {v : Value} {ds gs : List (DataW H)} {before pa pv : List MemPlace}
  (hW : DataW.Whole enc P f.params.toList s.vars apart W args.toList ds gs before)
  (hres : ∀ (b : Nat) (sp : Nat → Bool) (hd : Bool),DataW.TrodAll enc P W' b sp hd f.resultTypes.toList (v.resultList f.resultTypes.size) (s.fn H (ds ++ gs)).results [])
  (hargs : ∀ sp : Nat → Bool,(∀ p ∈ before,sp p.block = true) → DataW.TrodAll enc P W' 0 sp true f.params.toList args.toList (s.fn H (ds ++ gs)).args pa)
  (hvars : ∀ sp : Nat → Bool,(∀ p ∈ before,sp p.block = true) → DataW.TrodVars enc P W' sp s.vars (s.fn H (ds ++ gs)).vars pv)
  (hps : before = pa ++ pv) (hold : Old W W')
  (hok : ∀ (j : Nat) (t : TypeId) (r : Value),f.resultTypes[j]? = some t → (v.resultList f.resultTypes.size)[j]? = some r → Value.okWide P W' .any 0 t r) :
  s.post enc P f apart fresh handsOn again W args v W' := by
 have hlt := hW.lt
 have hin : ∀ p ∈ before,(fun b => decide (b < W.heap.size)) p.block = true := fun p hp => by simpa using hlt p hp
 refine ⟨ds,gs,before,[],pa,pv,hW,hres _ _ _,hargs _ hin,hvars _ hin,World.keptBut_mono (fun p hp => ⟨hp,?_⟩) (hold.kept (· ∈ before)),fun _ => ?_⟩
 ·rw [hps,List.mem_append] at hp
  exact Or.inr hp
 ·obtain ⟨_,_,_,_,_,hz,hn⟩ := hW
  refine ⟨hok,_,_,([] ++ pa) ++ pv,⟨[] ++ pa,pv,trodAll_append (hargs _ (fun _ _ => rfl)) (hres _ _ _),hvars _ (fun _ _ => rfl),rfl,?_,?_⟩,?_⟩
  ·intro b off hp
   have hp' : MemPlace.cell b off ∈ before := by rw [hps]; simpa using hp
   rw [hold.frozen (hlt _ hp')]
   exact hz b off hp'
  ·intro ha
   have := hn ha
   rw [hps] at this
   simpa using this
  ·intro p hp _
   rw [hps]
   simpa using hp
theorem am_calls (hm : P.follows .mixedOrders = true) (hall : CfgOk P cfg) {f : FuncId} {args : List AVal} {cargs : List Value} {n : Nat} {v : AVal} {W : World} (hg : Gl cfg startE (startK W))
  (hrun : (run cfg n 0 f args []).map (fun p => p.1) = some v) (ha : (startK W).VL startE cfg.conc args cargs) :
  Calls P (cfg.conc f) cargs.toArray W fun e w' => ∃ (cv : Value) (κ' : K),e = .returned cv ∧ κ'.V startE cfg.conc v cv ∧ Old W w' := by
 rw [Option.map_eq_some_iff] at hrun
 obtain ⟨⟨v',σ'⟩,hrun,rfl⟩ := hrun
 refine ((run_ok hm hall n _ _ _ _ _ _ hrun).2 startE (startK W) cargs rfl rfl (start_R W) hg ha (W.os,W.output) W ⟨rfl,rfl,rfl⟩).mono fun e w' he => ?_
 cases e with
 | returned cv =>
  obtain ⟨κ',k1,k2,k3,k4,k5⟩ := he
  exact ⟨cv,κ',rfl,k5,grown_of k3 k1⟩
 | panicked c => exact he.elim
 | outgrown => exact he.elim
theorem same_of {W w' : World} (h : ∀ b,b < W.heap.size → w'.heap[b]? = W.heap[b]?) {p : MemPlace} (hp : p.block < W.heap.size) : W.sameAt w' p := by
 cases p with
 | cell b off => simp only [World.sameAt,World.cell?]; rw [h b hp]
 | map b => exact h b hp
theorem trodAll_stays {H : Type} {enc : TypeId × Value → H} {T : TypeId → Prop} (K : Kids P T) (hz : ∀ {t e : TypeId}, T t → P.underlying t = some (.slice e) → 0 < P.cellsOf e) {W w' : World} (h : ∀ b, b < W.heap.size → w'.heap[b]? = W.heap[b]?)
    {sp : Nat → Bool} : ∀ {ts : List TypeId} {vs : List Value} {ds : List (DataW H)} {ps : List MemPlace}, (∀ t ∈ ts, T t) → DataW.TrodAll enc P W 0 (fun _ => true) true ts vs ds ps → (∀ p ∈ ps, p.block < W.heap.size) → (∀ p ∈ ps, sp p.block = true) →
      DataW.TrodAll enc P w' 0 sp true ts vs ds ps
  | [], [], [], _, _, ht, _, _ => ht
  | t :: ts, v :: vs, d :: ds, ps, hT, ⟨p, q, ⟨n, hn⟩, h2, e⟩, hlt, hs => by
    subst e
    refine ⟨p, q, ⟨n, ?_⟩, trodAll_stays K hz h (fun t ht => hT t (List.mem_cons_of_mem _ ht)) h2 (fun x hx => hlt x (List.mem_append_right _ hx)) (fun x hx => hs x (List.mem_append_right _ hx)), rfl⟩
    exact DataW.trod_stays K hz (fun h => by cases h) (hT t List.mem_cons_self) hn (fun x hx => same_of h (hlt x (List.mem_append_left _ hx))) (fun x hx => hs x (List.mem_append_left _ hx))
structure Readable (P : Program) (ts : List TypeId) : Prop where
 laid : laidOutB P = true
 maps : mapsRowed P = true
 lt : ∀ t ∈ ts,t < P.types.size
 sized : ∀ {t e : TypeId},t < P.types.size → P.underlying t = some (.slice e) → 0 < P.cellsOf e
def sizedB (P : Program) : Bool := (List.range P.types.size).all fun t => match P.underlying t with
 | some (.slice e) => decide (0 < P.cellsOf e)
 | _ => true
theorem Readable.of {ts : List TypeId} (h1 : laidOutB P = true) (h2 : mapsRowed P = true) (h3 : ts.all (· < P.types.size) = true) (h4 : sizedB P = true) : Readable P ts :=
 ⟨h1,h2,fun t ht => by simpa using List.all_eq_true.1 h3 t ht,fun {t e} ht hu => by
  have := List.all_eq_true.1 h4 t (List.mem_range.2 ht)
  rw [hu] at this
  simpa using this⟩
theorem law_contract_gl {H : Type} {enc : TypeId × Value → H} (hm : P.follows .mixedOrders = true) (hall : CfgOk P cfg) {f : FuncId} {fn : Func} {tb : TypeId} (hres : fn.resultTypes = #[tb]) (hbool : P.underlying tb = some .bool)
  (hread : Readable P fn.params.toList) {s : ChangeSpec} (hvars : s.vars = []) {apart fresh handsOn again : Bool} {W : World} {cargs : Array Value} {ds gs : List (DataW H)} {before : List MemPlace}
  (hgl : Gl cfg startE (startK W)) (hW : DataW.Whole enc P fn.params.toList s.vars apart W cargs.toList ds gs before) (hfn : s.fn H (ds ++ gs) = { results := [.lit (.bool true)],args := ds }) {args : List AVal} {n : Nat}
  (hrun : (run cfg n 0 f args []).map (fun p => p.1) = some (.bool true)) (ha : (startK W).VL startE cfg.conc args cargs.toList) :
  Calls P (cfg.conc f) cargs W fun e W' => ∃ v,e = .returned v ∧ s.post enc P fn apart fresh handsOn again W cargs v W' := by
 have hc := am_calls hm hall hgl hrun ha
 rw [Array.toArray_toList] at hc
 refine hc.mono fun e W' ⟨cv,κ',he,hv,hg⟩ => ?_
 have := V_bool hv
 subst this
 have hlt := hW.lt
 obtain ⟨p,q,hA,hV,hpq,hfz,hnd⟩ := hW
 rw [hvars] at hV
 obtain ⟨rfl,rfl⟩ := trodVars_none hV
 subst hpq
 simp only [List.append_nil] at hlt hfn hfz hnd
 have hW' : DataW.Whole enc P fn.params.toList s.vars apart W cargs.toList ds [] (p ++ []) := ⟨p,[],hA,by rw [hvars]; exact hV,rfl,by simpa using hfz,by simpa using hnd⟩
 refine ⟨_,he,post_of_old (pa := p) (pv := []) hW' (fun b sp hd => ?_) (fun sp hs => ?_) (fun sp hs => ?_) rfl hg (ok_one hres rfl (okWide_bool_mk hbool _))⟩
 ·simp only [List.append_nil,hfn,hres]
  exact trodAll_cons_mk (p := []) (p' := []) (shut_bool hbool _) trodAll_mk0
 ·simp only [List.append_nil,hfn]
  exact trodAll_stays (kids_rows hread.laid hread.maps) hread.sized hg.heap hread.lt hA hlt (fun x hx => hs x (by simpa using hx))
 ·simp only [List.append_nil,hfn,hvars]
  exact rfl
end
end Go.Proofs.YtbbekbjcmnopjaaGreatDoor.Am
namespace Go.Proofs.YtbbekbjcmnopjaaGreatDoor.Am
open Go Go.RowKit Go.ChangeShapes Go.WideShapes Go.ChangeAt
def tight (P : Program) : Nat → List Field → Nat → Bool
 | off,[],tot => off == tot
 | off,f :: fs,tot => f.offset == off && tight P (off + P.cellsOf f.type) fs tot
def aggB (P : Program) (t : TypeId) : Bool := match P.underlying t with
 | some (.struct _) | some (.array _ _) => true
 | _ => false
def rdT (P : Program) : Nat → TypeId → Bool
 | 0,_ => false
 | n + 1,t => match P.underlying t with
  | some (.int _) | some .string | some .bool => P.cellsOf t == 1
  | some (.slice e) => P.cellsOf t == 1 && decide (0 < P.cellsOf e) && rdT P n e
  | some (.struct fs) => tight P 0 fs.toList (P.cellsOf t) && fs.toList.all fun f => rdT P n f.type
  | some (.array m e) => P.cellsOf t == m * P.cellsOf e && rdT P n e
  | _ => false
def elv (P : Program) (e : TypeId) (cs : List AVal) : AVal := if aggB P e then .agg cs else cs.headD .undef
def dec {H : Type} (P : Program) : Nat → TypeId → DataW H → List AVal
 | 0,_,_ => [.undef]
 | n + 1,t,d => match P.underlying t,d with
  | some (.slice e),.slice ds _ => [.fslice 0 false (P.cellsOf e) (ds.map fun x => elv P e (dec P n e x))]
  | some (.slice _),_ => [.nilslice]
  | some (.struct fs),.agg ds => (List.zipWith (fun (f : Field) x => dec P n f.type x) fs.toList ds).flatten
  | some (.array m e),.agg ds => (ds.map fun x => dec P n e x).flatten
  | _,.lit (.bool b) => [.bool b]
  | _,.lit (.int k i) => [.int k i]
  | _,.lit (.string s) => [.str s]
  | _,_ => [.undef]
def Typed {H : Type} (P : Program) : Nat → TypeId → DataW H → Prop
 | 0,_,_ => False
 | n + 1,t,d => match P.underlying t with
  | some (.int k) => ∃ i,d = .lit (.int k i) ∧ (Lit.int k i).wf = true
  | some .bool => ∃ b,d = .lit (.bool b)
  | some .string => ∃ s,d = .lit (.string s)
  | some (.slice e) => d = .nil ∨ ∃ ds rest,d = .slice ds rest ∧ ∀ x ∈ ds,Typed P n e x
  | some (.struct fs) => ∃ ds,d = .agg ds ∧ ds.length = fs.size ∧ ∀ (i : Nat) (f : Field) (x : DataW H),fs[i]? = some f → ds[i]? = some x → Typed P n f.type x
  | some (.array m e) => ∃ ds,d = .agg ds ∧ ds.length = m ∧ ∀ x ∈ ds,Typed P n e x
  | _ => False
section
variable {P : Program} {cf : FuncId → FuncId} {W : World} {H : Type} {enc : TypeId × Value → H}
abbrev SRel (cf : FuncId → FuncId) (W : World) (vs : List AVal) (cs : List Value) : Prop := VRelL cf W.heap ((startK W).safe startE) noIds vs cs
structure Good (cf : FuncId → FuncId) (P : Program) (W : World) (t : TypeId) (vs : List AVal) (cs : List Value) : Prop where
 rel : SRel cf W vs cs
 one : AVal.allOne vs
 tag : AVal.tagsLe 0 vs
 len : vs.length = P.cellsOf t
theorem rowAt_join {h : Array Obj} {b o : Nat} {xs ys : List Value} (h1 : rowAt h b o xs) (h2 : rowAt h b (o + xs.length) ys) : rowAt h b o (xs ++ ys) := by
 intro j v hj
 rw [List.getElem?_append] at hj
 split at hj
 ·exact h1 j v hj
 ·rename_i hlt
  have := h2 _ v hj
  rw [← this]; congr 1; omega
theorem SRel_app {a b : List AVal} {c d : List Value} (h1 : SRel cf W a c) (h2 : SRel cf W b d) : SRel cf W (a ++ b) (c ++ d) := by
 induction a generalizing c with
 | nil => cases h1; exact h2
 | cons x a ih => cases h1 with | cons _ _ cv _ cvs hv hvs => exact .cons _ _ _ _ _ hv (ih hvs)
theorem elv_cells {e : TypeId} {vs : List AVal} (hone : AVal.allOne vs) (hl : aggB P e = false → vs.length = 1) : (elv P e vs).cells = vs := by
 unfold elv
 cases ha : aggB P e with
 | true => simp
 | false =>
  have := hl ha
  match vs,this with
  | [v],_ =>
   have := hone v (by simp)
   simp only [Bool.false_eq_true,if_false,List.headD_cons]
   cases v <;> simp_all [AVal.one]
theorem tagL_le {vs : List AVal} (h : AVal.tagsLe 0 vs) : AVal.tagL vs ≤ 0 := by
 induction vs with
 | nil => simp
 | cons v vs ih =>
  simp only [AVal.tagL]
  have h1 := h v (by simp)
  have h2 := ih (fun c hc => h c (by simp [hc]))
  omega
theorem elv_tag {e : TypeId} {vs : List AVal} (h : AVal.tagsLe 0 vs) : (elv P e vs).tag ≤ 0 := by
 unfold elv
 split
 ·simp only [AVal.tag]; exact tagL_le h
 ·cases vs with
  | nil => simp
  | cons v vs => exact h v (by simp)
theorem cells_row {a : Addr} {n : Nat} {cs : List Value} (h : W.cells? 0 a n = some cs) : cs.length = n ∧ ∀ i,i < n → W.cell? (a.add i) = cs[i]? := by
 unfold World.cells? at h
 rw [if_pos (Nat.zero_le _)] at h
 have h1 := mapM_some_length h
 refine ⟨by simpa using h1,fun i hi => ?_⟩
 exact mapM_some_get h i i (by simp [hi])
theorem elems_read {n fuel : Nat} {e : TypeId} (ih : ∀ {cs : List Value} {x : DataW H × List MemPlace},DataW.trod enc P W 0 (fun _ => true) true fuel e cs = some x → Good cf P W e (dec P n e x.1) cs ∧ Typed P n e x.1)
  (hagg : aggB P e = false → P.cellsOf e = 1) {b o : Nat} : ∀ (els : List (DataW H × List MemPlace)) (k : Nat),
  (∀ i,i < els.length → (W.cells? 0 (Addr.add ⟨b,o,none⟩ ((k + i) * P.cellsOf e)) (P.cellsOf e)).bind (DataW.trod enc P W 0 (fun _ => true) true fuel e) = els[i]?) →
  ∃ vs,SRel cf W ((els.map fun x => elv P e (dec P n e x.1)).flatMap AVal.cells) vs ∧ rowAt W.heap b (o + k * P.cellsOf e) vs ∧ AVal.elemsOk (P.cellsOf e) (els.map fun x => elv P e (dec P n e x.1)) ∧
   AVal.tagsLe 0 (els.map fun x => elv P e (dec P n e x.1)) ∧ ∀ x ∈ els,Typed P n e x.1
 | [],k,_ => ⟨[],.nil _,fun j v hj => by simp at hj,fun x hx => by simp at hx,fun x hx => by simp at hx,fun x hx => by simp at hx⟩
 | x :: els,k,h => by
  have h0 := h 0 (by simp)
  simp only [Nat.add_zero,List.getElem?_cons_zero] at h0
  cases hc : W.cells? 0 (Addr.add ⟨b,o,none⟩ (k * P.cellsOf e)) (P.cellsOf e) with
  | none => rw [hc] at h0; cases h0
  | some cs =>
   rw [hc] at h0
   simp only [Option.bind_some] at h0
   obtain ⟨g,gt⟩ := ih h0
   obtain ⟨vs,r1,r2,r3,r4,r5⟩ := elems_read ih hagg els (k + 1) (fun i hi => by
    have := h (i + 1) (by simpa using hi)
    simpa [Nat.add_assoc,Nat.add_comm 1 i] using this)
   obtain ⟨c1,c2⟩ := cells_row hc
   have ec := elv_cells (P := P) (e := e) g.one (fun ha => by rw [g.len,hagg ha])
   refine ⟨cs ++ vs,?_,?_,?_,?_,?_⟩
   ·simp only [List.map_cons,List.flatMap_cons,ec]
    exact SRel_app g.rel r1
   ·refine rowAt_join (fun j v hj => ?_) ?_
    ·have hjl := (List.getElem?_eq_some_iff.1 hj).1
     have := c2 j (by omega)
     rw [hj,add_spot,add_spot,cellAt_eq] at this
     exact this
    ·rw [c1,Nat.add_assoc,← Nat.succ_mul]; exact r2
   ·intro y hy
    simp only [List.map_cons,List.mem_cons] at hy
    rcases hy with rfl | hy
    ·rw [ec]; exact ⟨g.len,g.one⟩
    ·exact r3 y hy
   ·intro y hy
    simp only [List.map_cons,List.mem_cons] at hy
    rcases hy with rfl | hy
    ·exact elv_tag g.tag
    ·exact r4 y hy
   ·intro y hy
    simp only [List.mem_cons] at hy
    rcases hy with rfl | hy
    ·exact gt
    ·exact r5 y hy
theorem rdT_len {n : Nat} {t : TypeId} (h : rdT P n t = true) (ha : aggB P t = false) : P.cellsOf t = 1 := by
 cases n with
 | zero => simp [rdT] at h
 | succ n =>
  unfold rdT at h
  unfold aggB at ha
  split at h <;> simp_all
theorem good_one {t : TypeId} {v : AVal} {cv : Value} (h : VRel cf W.heap ((startK W).safe startE) noIds v cv) (h1 : v.one = true) (h2 : v.tag = 0) (h3 : P.cellsOf t = 1) : Good cf P W t [v] [cv] :=
 ⟨.cons _ _ _ _ _ h (.nil _),fun c hc => by simp at hc; subst hc; exact h1,fun c hc => by simp at hc; subst hc; omega,by simp [h3]⟩
theorem fields_read {n fuel : Nat} (ih : ∀ {t : TypeId} {cs : List Value} {x : DataW H × List MemPlace},rdT P n t = true → DataW.trod enc P W 0 (fun _ => true) true fuel t cs = some x → Good cf P W t (dec P n t x.1) cs ∧ Typed P n t x.1) :
  ∀ (fs : List Field) (xs : List (DataW H × List MemPlace)) (cs : List Value) (off tot : Nat),xs.length = fs.length → tight P off fs tot = true → cs.length = tot → (∀ f ∈ fs,rdT P n f.type = true) →
  (∀ (i : Nat) (f : Field),fs[i]? = some f → DataW.trod enc P W 0 (fun _ => true) true fuel f.type ((cs.drop f.offset).take (P.cellsOf f.type)) = xs[i]?) →
  SRel cf W (List.zipWith (fun (f : Field) x => dec P n f.type x) fs (xs.map (·.1))).flatten (cs.drop off) ∧ AVal.allOne (List.zipWith (fun (f : Field) x => dec P n f.type x) fs (xs.map (·.1))).flatten ∧
   AVal.tagsLe 0 (List.zipWith (fun (f : Field) x => dec P n f.type x) fs (xs.map (·.1))).flatten ∧ off + (List.zipWith (fun (f : Field) x => dec P n f.type x) fs (xs.map (·.1))).flatten.length = tot ∧
   ∀ (i : Nat) (f : Field) (x : DataW H × List MemPlace),fs[i]? = some f → xs[i]? = some x → Typed P n f.type x.1
 | [],[],cs,off,tot,_,ht,hc,_,_ => by
  simp only [tight,beq_iff_eq] at ht
  refine ⟨?_,fun c hc => by simp at hc,fun c hc => by simp at hc,by simpa using ht,fun i f x h => by simp at h⟩
  rw [List.drop_eq_nil_of_le (by omega)]
  exact .nil _
 | f :: fs,[],cs,off,tot,hl,_,_,_,_ => by simp at hl
 | [],x :: xs,cs,off,tot,hl,_,_,_,_ => by simp at hl
 | f :: fs,x :: xs,cs,off,tot,hl,ht,hc,hr,hx => by
  simp only [tight,Bool.and_eq_true,beq_iff_eq] at ht
  obtain ⟨ho,ht⟩ := ht
  have h0 := hx 0 f rfl
  simp only [List.getElem?_cons_zero] at h0
  obtain ⟨g,gt⟩ := ih (hr f (by simp)) h0
  obtain ⟨r1,r2,r3,r4,r5⟩ := fields_read ih fs xs cs (off + P.cellsOf f.type) tot (by simpa using hl) ht hc (fun f hf => hr f (by simp [hf])) (fun i f hf => by simpa using hx (i + 1) f (by simpa using hf))
  simp only [List.map_cons,List.zipWith_cons_cons,List.flatten_cons]
  have hsp : cs.drop off = (cs.drop f.offset).take (P.cellsOf f.type) ++ cs.drop (off + P.cellsOf f.type) := by
   rw [ho,← List.drop_drop,List.take_append_drop]
  refine ⟨?_,?_,?_,?_,?_⟩
  ·rw [hsp]; exact SRel_app g.rel r1
  ·intro c hc
   rcases List.mem_append.1 hc with h | h
   ·exact g.one c h
   ·exact r2 c h
  ·intro c hc
   rcases List.mem_append.1 hc with h | h
   ·exact g.tag c h
   ·exact r3 c h
  ·rw [List.length_append,g.len]; omega
  ·intro i f' x' hf hx'
   cases i with
   | zero =>
    simp only [List.getElem?_cons_zero,Option.some.injEq] at hf hx'
    subst hf; subst hx'; exact gt
   | succ i => exact r5 i f' x' (by simpa using hf) (by simpa using hx')
theorem parts_read {n fuel : Nat} {e : TypeId} (ih : ∀ {cs : List Value} {x : DataW H × List MemPlace},DataW.trod enc P W 0 (fun _ => true) true fuel e cs = some x → Good cf P W e (dec P n e x.1) cs ∧ Typed P n e x.1) :
  ∀ (xs : List (DataW H × List MemPlace)) (cs : List Value) (k : Nat),cs.length = (k + xs.length) * P.cellsOf e →
  (∀ i,i < xs.length → DataW.trod enc P W 0 (fun _ => true) true fuel e ((cs.drop ((k + i) * P.cellsOf e)).take (P.cellsOf e)) = xs[i]?) →
  SRel cf W (xs.map fun x => dec P n e x.1).flatten (cs.drop (k * P.cellsOf e)) ∧ AVal.allOne (xs.map fun x => dec P n e x.1).flatten ∧ AVal.tagsLe 0 (xs.map fun x => dec P n e x.1).flatten ∧
   (xs.map fun x => dec P n e x.1).flatten.length = xs.length * P.cellsOf e ∧ ∀ x ∈ xs,Typed P n e x.1
 | [],cs,k,hl,_ => by
  refine ⟨?_,fun c hc => by simp at hc,fun c hc => by simp at hc,by simp,fun x hx => by simp at hx⟩
  rw [List.drop_eq_nil_of_le (by simp at hl; omega)]
  exact .nil _
 | x :: xs,cs,k,hl,hx => by
  have h0 := hx 0 (by simp)
  simp only [Nat.add_zero,List.getElem?_cons_zero] at h0
  obtain ⟨g,gt⟩ := ih h0
  obtain ⟨r1,r2,r3,r4,r5⟩ := parts_read ih xs cs (k + 1) (by rw [hl]; simp; congr 1; omega) (fun i hi => by
   have := hx (i + 1) (by simpa using hi)
   simpa [Nat.add_assoc,Nat.add_comm 1 i] using this)
  simp only [List.map_cons,List.flatten_cons]
  have hsp : cs.drop (k * P.cellsOf e) = (cs.drop (k * P.cellsOf e)).take (P.cellsOf e) ++ cs.drop ((k + 1) * P.cellsOf e) := by
   rw [Nat.add_mul,Nat.one_mul,← List.drop_drop,List.take_append_drop]
  refine ⟨?_,?_,?_,?_,?_⟩
  ·rw [hsp]; exact SRel_app g.rel r1
  ·intro c hc
   rcases List.mem_append.1 hc with h | h
   ·exact g.one c h
   ·exact r2 c h
  ·intro c hc
   rcases List.mem_append.1 hc with h | h
   ·exact g.tag c h
   ·exact r3 c h
  ·rw [List.length_append,g.len,r4,List.length_cons,Nat.add_mul,Nat.one_mul,Nat.add_comm]
  ·intro y hy
   rcases List.mem_cons.1 hy with rfl | hy
   ·exact gt
   ·exact r5 y hy
theorem read_dec : ∀ (n : Nat) {fuel : Nat} {t : TypeId} {cs : List Value} {x : DataW H × List MemPlace},rdT P n t = true → DataW.trod enc P W 0 (fun _ => true) true fuel t cs = some x → Good cf P W t (dec P n t x.1) cs ∧ Typed P n t x.1
 | 0,fuel,t,cs,x,hr,h => by simp [rdT] at hr
 | n + 1,fuel,t,cs,x,hr,h => by
  have ih := fun {fuel : Nat} {t : TypeId} {cs : List Value} {x : DataW H × List MemPlace} => read_dec n (fuel := fuel) (t := t) (cs := cs) (x := x)
  unfold rdT at hr
  split at hr
  ·rename_i k ht
   have hc : P.cellsOf t = 1 := by simpa using hr
   cases fuel with
   | zero => simp [DataW.trod] at h
   | succ m =>
    unfold DataW.trod at h
    rw [ht] at h
    split at h <;> simp_all
    obtain ⟨h1,h2⟩ := h
    subst h2
    simp only [dec,ht,Typed]
    exact ⟨good_one (.int _ _ _) rfl rfl hc,_,rfl,h1.2⟩
  ·rename_i ht
   have hc : P.cellsOf t = 1 := by simpa using hr
   cases fuel with
   | zero => simp [DataW.trod] at h
   | succ m =>
    unfold DataW.trod at h
    rw [ht] at h
    split at h <;> simp_all
    obtain ⟨h1,h2⟩ := h
    subst h2
    simp only [dec,ht,Typed]
    exact ⟨good_one (.str _ _) rfl rfl hc,_,rfl⟩
  ·rename_i ht
   have hc : P.cellsOf t = 1 := by simpa using hr
   cases fuel with
   | zero => simp [DataW.trod] at h
   | succ m =>
    unfold DataW.trod at h
    rw [ht] at h
    split at h <;> simp_all
    subst h
    simp only [dec,ht,Typed]
    exact ⟨good_one (.bool _ _) rfl rfl hc,_,rfl⟩
  ·rename_i e ht
   simp only [Bool.and_eq_true,beq_iff_eq,decide_eq_true_eq] at hr
   obtain ⟨⟨hc,he⟩,hre⟩ := hr
   rcases DataW.trod_slice ht h with ⟨rfl,rfl⟩ | ⟨a,len,cap,elems,rest,m,rfl,rfl,rfl,hb,hl,hm,hlen,hel,hsp,hns⟩
   ·simp only [dec,ht,Typed]
    exact ⟨good_one (.nilslice _) rfl rfl hc,.inl trivial⟩
   ·obtain ⟨hrl,hre2⟩ := hsp rfl
    simp only [dec,ht,Typed]
    by_cases hcap : cap = 0
    ·have h0 : len = 0 := by omega
     subst hcap; subst h0
     have : elems = [] := List.eq_nil_of_length_eq_zero hlen
     subst this
     exact ⟨good_one (.zslice _ _ _ _ _ he) rfl rfl hc,.inr ⟨_,_,rfl,fun x hx => by simp at hx⟩⟩
    ·have hfirst : ∃ cs',W.cells? 0 (a.add 0) (P.cellsOf e) = some cs' := by
      by_cases h0 : len = 0
      ·have := hre2 0 (by omega)
       rw [h0] at this
       simp only [Nat.zero_add,Nat.zero_mul] at this
       cases hcc : W.cells? 0 (a.add 0) (P.cellsOf e) with
       | some c => exact ⟨c,rfl⟩
       | none =>
        rw [hcc] at this
        simp only [Option.bind_none] at this
        have h9 : 0 < rest.length := by omega
        rw [List.getElem?_eq_getElem h9] at this
        cases this
      ·have := hel 0 (by omega)
       simp only [Nat.zero_mul] at this
       cases hcc : W.cells? 0 (a.add 0) (P.cellsOf e) with
       | some c => exact ⟨c,rfl⟩
       | none =>
        rw [hcc] at this
        simp only [Option.bind_none] at this
        have h9 : 0 < elems.length := by omega
        rw [List.getElem?_eq_getElem h9] at this
        cases this
     obtain ⟨cs',hcs⟩ := hfirst
     obtain ⟨c1,c2⟩ := cells_row hcs
     have c3 := c2 0 he
     have : cs'[0]? = some (cs'[0]'(by omega)) := List.getElem?_eq_getElem _
     rw [this] at c3
     have ea : (a.add 0).add 0 = a := rfl
     rw [ea] at c3
     obtain ⟨b,o,sp⟩ := a
     have hblk : sp = none ∧ b < W.heap.size := by
      unfold World.cell? at c3
      split at c3
      ·rename_i c e' f hh
       split at c3
       ·cases c3
       ·rename_i hsp'
        exact ⟨by simpa using hsp',(Array.getElem?_eq_some_iff.1 hh).1⟩
      ·cases c3
     obtain ⟨rfl,hblk⟩ := hblk
     obtain ⟨vs,r1,r2,r3,r4,r5⟩ := elems_read (cf := cf) (fun h => ih hre h) (fun ha => rdT_len hre ha) (b := b) (o := o) elems 0 (fun i hi => by
      have := hel i (by omega)
      simpa using this)
     refine ⟨good_one ?_ rfl rfl hc,.inr ⟨_,_,rfl,fun x hx => ?_⟩⟩
     ·simp only [List.map_map]
      exact .fslice _ 0 false (P.cellsOf e) _ b o len cap vs ⟨hblk,start_own W b,fun k _ hk => by simp [startE] at hk⟩ r1 r3 he r4 (by simpa using r2) (by simpa using hlen) hl (fun h => by cases h)
     ·obtain ⟨y,hy,rfl⟩ := List.mem_map.1 hx
      exact r5 y hy
  ·rename_i fs ht
   simp only [Bool.and_eq_true,List.all_eq_true] at hr
   obtain ⟨h1,h2⟩ := hr
   obtain ⟨xs,m,rfl,rfl,hl,hxl,hx⟩ := DataW.trod_struct ht h
   obtain ⟨r1,r2,r3,r4,r5⟩ := fields_read (cf := cf) (fun hr h => ih hr h) fs.toList xs cs 0 _ (by simpa using hxl) h1 hl (fun f hf => h2 f hf) (fun i f hf => hx i f (by simpa using hf))
   simp only [dec,ht,Typed]
   refine ⟨⟨by simpa using r1,r2,r3,by simpa using r4⟩,_,rfl,by simpa using hxl,fun i f x hf hx' => ?_⟩
   rw [List.getElem?_map,Option.map_eq_some_iff] at hx'
   obtain ⟨y,hy,rfl⟩ := hx'
   exact r5 i f y (by simpa using hf) hy
  ·rename_i k e ht
   simp only [Bool.and_eq_true,beq_iff_eq] at hr
   obtain ⟨hc,hre⟩ := hr
   cases fuel with
   | zero => simp [DataW.trod] at h
   | succ m =>
    unfold DataW.trod at h
    rw [ht] at h
    have key : cs.length = P.cellsOf t ∧ ∃ xs,(List.range k).mapM (fun i => DataW.trod enc P W 0 (fun _ => true) true m e ((cs.drop (i * P.cellsOf e)).take (P.cellsOf e))) = some xs ∧ x = (.agg (xs.map (·.1)),xs.flatMap (·.2)) := by
     split at h <;> simp_all
     obtain ⟨h1,xs,h2,h3⟩ := h
     exact ⟨xs,h2,h3.symm⟩
    obtain ⟨hl,xs,hxs,rfl⟩ := key
    have hxl := mapM_some_length hxs
    simp only [List.length_range] at hxl
    obtain ⟨r1,r2,r3,r4,r5⟩ := parts_read (cf := cf) (fun h => ih hre h) xs cs 0 (by rw [hl,hc,Nat.zero_add]; congr 1; omega) (fun i hi => by
     have := mapM_some_get hxs i i (by rw [List.getElem?_range (by omega)])
     simpa using this)
    simp only [dec,ht,Typed]
    simp only [Nat.zero_mul,List.drop_zero] at r1
    refine ⟨⟨by rw [List.map_map]; exact r1,by rw [List.map_map]; exact r2,by rw [List.map_map]; exact r3,?_⟩,_,rfl,by simpa using (by omega : xs.length = k),fun x hx => ?_⟩
    ·rw [List.map_map,hc,← (by omega : xs.length = k)]; exact r4
    ·obtain ⟨y,hy,rfl⟩ := List.mem_map.1 hx
     exact r5 y hy
  ·cases hr
end
end Go.Proofs.YtbbekbjcmnopjaaGreatDoor.Am
namespace Go.Proofs.YtbbekbjcmnopjaaGreatDoor.Am
open Go
def CallF.le (F G : CallF) : Prop := ∀ d f a σ r,F d f a σ = some r → G d f a σ = some r
section
variable {cfg : Cfg} {F G : CallF} {d : Nat} (hFG : F.le G)
include hFG
theorem doCall_mono {m : Mode} {f : FuncId} {args : List AVal} {σ : Store} {r : AVal × Store} (h : doCall F d m f args σ = some r) : doCall G d m f args σ = some r := by
 cases m with
 | shared => exact hFG _ _ _ _ _ h
 | iso =>
  simp only [doCall] at h ⊢
  split at h
  ·rename_i a ha
   split at h
   ·rename_i v σ1 hv
    rw [hFG _ _ _ _ _ hv]
    exact h
   ·cases h
  ·cases h
theorem opStep_mono {fr : List AVal} {σ : Store} {op : AOp} {r : AVal × Store} (h : opStep cfg F d fr σ op = some r) : opStep cfg G d fr σ op = some r := by
 cases op with
 | call m f args => exact doCall_mono hFG h
 | callv m f args =>
  simp only [opStep] at h ⊢
  split at h
  ·exact doCall_mono hFG h
  ·cases h
 | _ => exact h
theorem stepO_mono {o : AOper} {s r : FS} (h : stepO cfg F d o s = some r) : stepO cfg G d o s = some r := by
 unfold stepO at h ⊢
 split at h
 ·split at h
  ·rename_i v σ hv
   rw [opStep_mono hFG hv]; exact h
  ·cases h
 ·exact h
 ·cases h
theorem stepOs_mono : ∀ {os : List AOper} {s r : FS},stepOs cfg F d os s = some r → stepOs cfg G d os s = some r ∧ traceOs cfg G d os s = traceOs cfg F d os s
 | [],s,r,h => ⟨h,rfl⟩
 | o :: os,s,r,h => by
  simp only [stepOs] at h
  split at h
  ·rename_i s1 hs1
   have e := stepO_mono hFG hs1
   obtain ⟨h1,h2⟩ := stepOs_mono h
   simp only [stepOs,traceOs,e,hs1,h1,h2,and_self]
  ·cases h
theorem steady_mono {ops : List AOper} {tr : List FS} {p : Nat × Nat} (h : steady cfg F d ops tr p = true) : steady cfg G d ops tr p = true := by
 unfold steady at h ⊢
 split at h
 ·rename_i o s s' h1 h2 h3
  split at h
  ·split at h
   ·rename_i v u v' u' g1 g2
    rw [opStep_mono hFG g1,opStep_mono hFG g2]
    exact h
   ·cases h
  ·exact h
 ·cases h
omit hFG in
theorem iter_mono {live : List Nat} {b b' : FS → Option (AExit × FS)} (hb : ∀ s r,b s = some r → b' s = some r) : ∀ {n n' : Nat} {s : FS} {r : AExit × FS},n ≤ n' → iter live b n s = some r → iter live b' n' s = some r
 | 0,_,s,r,_,h => by simp [iter] at h
 | n + 1,0,s,r,hn,_ => by omega
 | n + 1,n' + 1,s,r,hn,h => by
  simp only [iter] at h ⊢
  cases hbs : b (cleanFrom live 0 s.1,s.2) with
  | none => rw [hbs] at h; cases h
  | some p =>
   rw [hbs] at h
   rw [hb _ _ hbs]
   obtain ⟨x,s'⟩ := p
   cases x with
   | normal => exact iter_mono hb (by omega) h
   | exit id => exact h
   | ret => exact h
theorem evC_mono {n n' : Nat} (hn : n ≤ n') : ∀ {c : ACode} {s : FS} {r : AExit × FS},evC cfg F d n c s = some r → evC cfg G d n' c s = some r
 | .skip,s,r,h => h
 | .region ops,s,r,h => by
  simp only [evC] at h ⊢
  split at h
  ·rename_i s' hs; rw [(stepOs_mono hFG hs).1]; exact h
  ·cases h
 | .drawn ops pairs,s,r,h => by
  simp only [evC] at h ⊢
  split at h
  ·rename_i s' hs
   obtain ⟨h1,h2⟩ := stepOs_mono hFG hs
   rw [h1,h2]
   dsimp only
   split at h
   ·rename_i hp
    have : (pairs.all (steady cfg G d ops (traceOs cfg F d ops s))) = true := by
     rw [List.all_eq_true] at hp ⊢
     exact fun p hpm => steady_mono hFG (hp p hpm)
    rw [if_pos this]; exact h
   ·cases h
  ·cases h
 | .ahead ops pairs,s,r,h => by
  simp only [evC] at h ⊢
  split at h
  ·rename_i s' hs
   obtain ⟨h1,h2⟩ := stepOs_mono hFG hs
   rw [h1,h2]
   dsimp only
   split at h
   ·rename_i hp
    have : (pairs.all (steady cfg G d (aheadO s.2.length ops) (traceOs cfg F d (aheadO s.2.length ops) (s.1,s.2 ++ aheadZ ops)))) = true := by
     rw [List.all_eq_true] at hp ⊢
     exact fun p hpm => steady_mono hFG (hp p hpm)
    rw [if_pos this]; exact h
   ·cases h
  ·cases h
 | .seq a b,s,r,h => by
  simp only [evC] at h ⊢
  cases ha : evC cfg F d n a s with
  | none => rw [ha] at h; cases h
  | some p =>
   rw [ha] at h
   rw [evC_mono hn ha]
   obtain ⟨x,s'⟩ := p
   cases x with
   | normal => exact evC_mono hn h
   | exit id => exact h
   | ret => exact h
 | .cond c a b,s,r,h => by
  simp only [evC] at h ⊢
  split at h
  ·exact evC_mono hn h
  ·exact evC_mono hn h
  ·cases h
 | .block id c,s,r,h => by
  simp only [evC] at h ⊢
  cases hc : evC cfg F d n c s with
  | none => rw [hc] at h; cases h
  | some p => rw [hc] at h; rw [evC_mono hn hc]; exact h
 | .loop live c,s,r,h => by
  simp only [evC] at h ⊢
  exact iter_mono (fun s r h => evC_mono hn h) hn h
 | .exit id,s,r,h => h
 | .ret,s,r,h => h
 | .stop,s,r,h => h
end
theorem run_le (cfg : Cfg) : ∀ {n n' : Nat},n ≤ n' → CallF.le (run cfg n) (run cfg n')
 | 0,_,_,d,f,a,σ,r,h => by simp [run] at h
 | n + 1,0,hn,d,f,a,σ,r,h => by omega
 | n + 1,n' + 1,hn,d,f,a,σ,r,h => by
  simp only [run] at h ⊢
  split at h
  ·exact h
  split at h
  ·cases h
  ·rename_i fn hfn
   have ih := run_le cfg (n := n) (n' := n') (by omega)
   cases he : evC cfg (run cfg n) d n fn.body (a ++ List.replicate (fn.ntmps - a.length) (.tuple []),σ) with
   | none => rw [he] at h; cases h
   | some p =>
    rw [he] at h
    rw [evC_mono ih (by omega) he]
    exact h
theorem evC_run_mono {cfg : Cfg} {d n n' : Nat} (hn : n ≤ n') {c : ACode} {s : FS} {r : AExit × FS} (h : evC cfg (run cfg n) d n c s = some r) : evC cfg (run cfg n') d n' c s = some r :=
 evC_mono (run_le cfg hn) hn h
end Go.Proofs.YtbbekbjcmnopjaaGreatDoor.Am
namespace Go.Proofs.YtbbekbjcmnopjaaGreatDoor.Am
open Go
def noCall : CallF := fun _ _ _ _ => none
theorem noCall_le (F : CallF) : CallF.le noCall F := fun _ _ _ _ _ h => by cases h
def Called (cfg : Cfg) (d : Nat) (f : FuncId) (args : List AVal) (σ : Store) (Q : AVal → Store → Prop) : Prop :=
 ∃ n v σ',run cfg n d f args σ = some (v,σ') ∧ Q v σ'
theorem Called.mono {cfg : Cfg} {d : Nat} {f : FuncId} {args : List AVal} {σ : Store} {Q Q' : AVal → Store → Prop} (h : Called cfg d f args σ Q) (hq : ∀ v σ',Q v σ' → Q' v σ') : Called cfg d f args σ Q' := by
 obtain ⟨n,v,σ',h1,h2⟩ := h; exact ⟨n,v,σ',h1,hq _ _ h2⟩
def callP (cfg : Cfg) (d : Nat) (m : Mode) (f : FuncId) (args : List AVal) (σ : Store) (Q : AVal → Store → Prop) : Prop :=
 match m with
 | .shared => Called cfg d f args σ Q
 | .iso => ∃ args',mapO (frz σ (d + 1) frzFuel) args = some args' ∧ Called cfg (d + 1) f args' [] fun v σ1 => ∃ v',frz σ1 0 frzFuel v = some v' ∧ v'.tag ≤ d ∧ Q v' σ
theorem callP_sound {cfg : Cfg} {d : Nat} {m : Mode} {f : FuncId} {args : List AVal} {σ : Store} {Q : AVal → Store → Prop} (h : callP cfg d m f args σ Q) : ∃ n v σ',doCall (run cfg n) d m f args σ = some (v,σ') ∧ Q v σ' := by
 cases m with
 | shared => exact h
 | iso =>
  obtain ⟨a,h1,n,v,σ1,h2,v',h3,h4,h5⟩ := h
  exact ⟨n,v',σ,by simp only [doCall,h1,h2,h3,h4,if_true],h5⟩
inductive Wit {α : Type} (a : α) : Type
 | mk
def optP {α : Type} (x : Option α) (K : α → Prop) (w : Wit K) : Prop := match x with
 | some a => K a
 | none => False
abbrev PostC := AExit → List AVal → Store → Prop
abbrev PostF := List AVal → Store → Prop
def guardP (b : Option Bool) (A B : PostF → Prop) (K : PostF) (w : Wit A) (w' : Wit B) (w'' : Wit K) : Prop := match b with
 | some true => A K
 | some false => B K
 | none => False
def condP (v : AVal) (A B : PostC → Prop) (Q : PostC) (w : Wit A) (w' : Wit B) (w'' : Wit Q) : Prop := match v with
 | .bool true => A Q
 | .bool false => B Q
 | _ => False
def stepP {α : Type} (x : Option α) (fr : List AVal) (σ : Store) (K : List AVal → Store → α → Prop) (w : Wit K) : Prop := match x with
 | some a => K fr σ a
 | none => False
theorem stepP_some {α : Type} (a : α) (fr : List AVal) (σ : Store) (K : List AVal → Store → α → Prop) (w : Wit K) : stepP (some a) fr σ K w = K fr σ a := propext Iff.rfl
theorem optP_some {α : Type} (a : α) (K : α → Prop) (w : Wit K) : optP (some a) K w = K a := propext Iff.rfl
section
variable {A B : PostF → Prop} {K : PostF} {w : Wit A} {w' : Wit B} {w'' : Wit K} {A' B' : PostC → Prop} {Q : PostC} {x : Wit A'} {x' : Wit B'} {x'' : Wit Q}
theorem guardP_true : guardP (some true) A B K w w' w'' = A K := propext Iff.rfl
theorem guardP_false : guardP (some false) A B K w w' w'' = B K := propext Iff.rfl
theorem condP_true : condP (.bool true) A' B' Q x x' x'' = A' Q := propext Iff.rfl
theorem condP_false : condP (.bool false) A' B' Q x x' x'' = B' Q := propext Iff.rfl
end
def opE (cfg : Cfg) (d : Nat) (fr : List AVal) (σ : Store) (op : AOp) (Q : AVal → Store → Prop) : Prop := optP (opStep cfg noCall d fr σ op) (fun p => Q p.1 p.2) .mk
def opP (cfg : Cfg) (d : Nat) (fr : List AVal) (σ : Store) (op : AOp) (Q : AVal → Store → Prop) : Prop :=
 match op with
 | .call m f args => callP cfg d m f (args.map (ev cfg fr)) σ Q
 | .callv m f args => match ev cfg fr f with
  | .func g first caps => callP cfg d m g (first ++ args.map (ev cfg fr) ++ caps) σ Q
  | _ => False
 | op => opE cfg d fr σ op Q
def wpOs (cfg : Cfg) (d : Nat) : List AOper → List AVal → Store → (List AVal → Store → Prop) → Prop
 | [],fr,σ,Q => Q fr σ
 | o :: os,fr,σ,Q => guardP (wantedA fr o.guard) (fun Q => opP cfg d fr σ o.op fun v σ' => wpOs cfg d os (put fr o.dst v) σ' Q) (fun Q => wpOs cfg d os (put fr o.dst (.tuple [])) σ Q) Q .mk .mk .mk
def drawnP (cfg : Cfg) (d : Nat) (ops : List AOper) (pairs : List (Nat × Nat)) (fr : List AVal) (σ : Store) (Q : List AVal → Store → Prop) (w : Wit Q) : Prop :=
 ∃ n s',stepOs cfg (run cfg n) d ops (fr,σ) = some s' ∧ pairs.all (steady cfg (run cfg n) d ops (traceOs cfg (run cfg n) d ops (fr,σ))) = true ∧ Q s'.1 s'.2
def loopP (cfg : Cfg) (d : Nat) (live : List Nat) (c : ACode) (fr : List AVal) (σ : Store) (Q : AExit → List AVal → Store → Prop) (w : Wit Q) (w' : Wit c) : Prop :=
 ∃ n x s',iter live (evC cfg (run cfg n) d n c) n (fr,σ) = some (x,s') ∧ Q x s'.1 s'.2
def seqQ (K : List AVal → Store → PostC → Prop) (Q : PostC) : AExit → List AVal → Store → Prop
 | .normal,fr,σ => K fr σ Q
 | x,fr,σ => Q x fr σ
def blockQ (id : Nat) (Q : AExit → List AVal → Store → Prop) : AExit → List AVal → Store → Prop
 | .exit id',fr,σ => Q (if id' = id then .normal else .exit id') fr σ
 | x,fr,σ => Q x fr σ
def wpC (cfg : Cfg) (d : Nat) : ACode → List AVal → Store → (AExit → List AVal → Store → Prop) → Prop
 | .skip,fr,σ,Q => Q .normal fr σ
 | .region ops,fr,σ,Q => wpOs cfg d ops fr σ (Q .normal)
 | .drawn ops pairs,fr,σ,Q => drawnP cfg d ops pairs fr σ (Q .normal) .mk
 | .ahead ops pairs,fr,σ,Q => drawnP cfg d (aheadO σ.length ops) pairs fr (σ ++ aheadZ ops) (Q .normal) .mk
 | .seq a b,fr,σ,Q => wpC cfg d a fr σ (seqQ (fun fr σ Q => wpC cfg d b fr σ Q) Q)
 | .cond c a b,fr,σ,Q => condP (ev cfg fr c) (fun Q => wpC cfg d a fr σ Q) (fun Q => wpC cfg d b fr σ Q) Q .mk .mk .mk
 | .block id c,fr,σ,Q => wpC cfg d c fr σ (blockQ id Q)
 | .loop live c,fr,σ,Q => loopP cfg d live c fr σ Q .mk .mk
 | .exit id,fr,σ,Q => Q (.exit id) fr σ
 | .ret,fr,σ,Q => Q .ret fr σ
 | .stop,_,_,_ => False
def calledW (cfg : Cfg) (d : Nat) (f : FuncId) (args : List AVal) (fr : List AVal) (σ : Store) (K : List AVal → AVal → Store → Prop) (w : Wit K) : Prop := Called cfg d f args σ (K fr)
theorem calledW_of {cfg : Cfg} {d : Nat} {f : FuncId} {args fr : List AVal} {σ : Store} {Q : AVal → Store → Prop} {K : List AVal → AVal → Store → Prop} {w : Wit K} (h : Called cfg d f args σ Q) (hq : ∀ v σ',Q v σ' → K fr v σ') : calledW cfg d f args fr σ K w := h.mono hq
section
variable {cfg : Cfg} {d : Nat}
theorem opP_sound {fr : List AVal} {σ : Store} {op : AOp} {Q : AVal → Store → Prop} (h : opP cfg d fr σ op Q) : ∃ n v σ',opStep cfg (run cfg n) d fr σ op = some (v,σ') ∧ Q v σ' := by
 have key : opE cfg d fr σ op Q → ∃ n v σ',opStep cfg (run cfg n) d fr σ op = some (v,σ') ∧ Q v σ' := by
  intro h
  unfold opE at h
  cases hs : opStep cfg noCall d fr σ op with
  | none => rw [hs] at h; exact h.elim
  | some p => rw [hs] at h; exact ⟨0,p.1,p.2,opStep_mono (noCall_le _) hs,h⟩
 cases op with
 | call m f args => exact callP_sound h
 | callv m f args =>
  simp only [opP] at h
  simp only [opStep]
  split at h
  ·rename_i g first caps hg
   rw [hg]
   exact callP_sound h
  ·exact h.elim
 | _ => exact key h
theorem stepO_of {n : Nat} {o : AOper} {fr : List AVal} {σ : Store} {v : AVal} {σ' : Store} (hw : wantedA fr o.guard = some true) (h : opStep cfg (run cfg n) d fr σ o.op = some (v,σ')) : stepO cfg (run cfg n) d o (fr,σ) = some (put fr o.dst v,σ') := by
 simp only [stepO,hw,h]
theorem wpOs_sound : ∀ {os : List AOper} {fr : List AVal} {σ : Store} {Q : List AVal → Store → Prop},wpOs cfg d os fr σ Q → ∃ n s',stepOs cfg (run cfg n) d os (fr,σ) = some s' ∧ Q s'.1 s'.2
 | [],fr,σ,Q,h => ⟨0,_,rfl,h⟩
 | o :: os,fr,σ,Q,h => by
  simp only [wpOs] at h
  cases hw : wantedA fr o.guard with
  | none => rw [hw] at h; exact h.elim
  | some b =>
   rw [hw] at h
   cases b with
   | true =>
    obtain ⟨n1,v,σ1,h1,h2⟩ := opP_sound h
    obtain ⟨n2,s',h3,h4⟩ := wpOs_sound h2
    refine ⟨max n1 n2,s',?_,h4⟩
    simp only [stepOs]
    rw [stepO_of hw (opStep_mono (run_le cfg (Nat.le_max_left n1 n2)) h1)]
    exact (stepOs_mono (run_le cfg (Nat.le_max_right n1 n2)) h3).1
   | false =>
    obtain ⟨n2,s',h3,h4⟩ := wpOs_sound h
    refine ⟨n2,s',?_,h4⟩
    simp only [stepOs,stepO,hw]
    exact h3
theorem wpC_sound : ∀ {c : ACode} {fr : List AVal} {σ : Store} {Q : AExit → List AVal → Store → Prop},wpC cfg d c fr σ Q → ∃ n x s',evC cfg (run cfg n) d n c (fr,σ) = some (x,s') ∧ Q x s'.1 s'.2
 | .skip,fr,σ,Q,h => ⟨0,.normal,(fr,σ),rfl,h⟩
 | .region ops,fr,σ,Q,h => by
  obtain ⟨n,s',h1,h2⟩ := wpOs_sound h
  exact ⟨n,.normal,s',by simp only [evC,h1],h2⟩
 | .drawn ops pairs,fr,σ,Q,h => by
  obtain ⟨n,s',h1,h2,h3⟩ := h
  exact ⟨n,.normal,s',by simp only [evC,h1,h2,if_true],h3⟩
 | .ahead ops pairs,fr,σ,Q,h => by
  obtain ⟨n,s',h1,h2,h3⟩ := h
  exact ⟨n,.normal,s',by simp only [evC,h1,h2,if_true],h3⟩
 | .seq a b,fr,σ,Q,h => by
  obtain ⟨n1,x,s1,h1,h2⟩ := wpC_sound (c := a) h
  cases x with
  | normal =>
   obtain ⟨n2,y,s2,h3,h4⟩ := wpC_sound (c := b) h2
   refine ⟨max n1 n2,y,s2,?_,h4⟩
   simp only [evC]
   rw [evC_run_mono (Nat.le_max_left n1 n2) h1]
   exact evC_run_mono (Nat.le_max_right n1 n2) h3
  | exit id => exact ⟨n1,.exit id,s1,by simp only [evC,h1],h2⟩
  | ret => exact ⟨n1,.ret,s1,by simp only [evC,h1],h2⟩
 | .cond c a b,fr,σ,Q,h => by
  simp only [wpC] at h
  unfold condP at h
  split at h
  ·rename_i hc
   obtain ⟨n,x,s',h1,h2⟩ := wpC_sound (c := a) h
   exact ⟨n,x,s',by simp only [evC,hc]; exact h1,h2⟩
  ·rename_i hc
   obtain ⟨n,x,s',h1,h2⟩ := wpC_sound (c := b) h
   exact ⟨n,x,s',by simp only [evC,hc]; exact h1,h2⟩
  ·exact h.elim
 | .block id c,fr,σ,Q,h => by
  obtain ⟨n,x,s',h1,h2⟩ := wpC_sound (c := c) h
  cases x with
  | normal => exact ⟨n,.normal,s',by simp only [evC,h1],h2⟩
  | exit id' => exact ⟨n,_,s',by simp only [evC,h1],h2⟩
  | ret => exact ⟨n,.ret,s',by simp only [evC,h1],h2⟩
 | .loop live c,fr,σ,Q,h => by
  obtain ⟨n,x,s',h1,h2⟩ := h
  exact ⟨n,x,s',by simp only [evC]; exact h1,h2⟩
 | .exit id,fr,σ,Q,h => ⟨0,.exit id,(fr,σ),rfl,h⟩
 | .ret,fr,σ,Q,h => ⟨0,.ret,(fr,σ),rfl,h⟩
 | .stop,fr,σ,Q,h => h.elim
def Fr' (n : Nat) (e : Nat → AVal) : List AVal := (List.range n).map e
def upd (e : Nat → AVal) (k : Nat) (v : AVal) : Nat → AVal := fun t => if t = k then v else e t
def argE : List AVal → Nat → AVal
 | [],_ => .tuple []
 | a :: _,0 => a
 | _ :: azs,t + 1 => argE azs t
def liveE : List Nat → List AVal → Nat → AVal
 | k :: ks,v :: vs,t => if t = k then v else liveE ks vs t
 | _,_,_ => .undef
theorem upd_apply (e : Nat → AVal) (k : Nat) (v : AVal) (t : Nat) : upd e k v t = if t = k then v else e t := rfl
theorem argE_zero (a : AVal) (azs : List AVal) : argE (a :: azs) 0 = a := rfl
theorem argE_succ (a : AVal) (azs : List AVal) (t : Nat) : argE (a :: azs) (t + 1) = argE azs t := rfl
theorem argE_nil (t : Nat) : argE [] t = .tuple [] := rfl
theorem liveE_cons (k : Nat) (ks : List Nat) (v : AVal) (vs : List AVal) (t : Nat) : liveE (k :: ks) (v :: vs) t = if t = k then v else liveE ks vs t := rfl
theorem Fr_get {n t : Nat} {e : Nat → AVal} (h : t < n) : (Fr' n e).getD t .undef = e t := by
 simp [Fr',List.getD_eq_getElem?_getD,List.getElem?_map,List.getElem?_range h]
theorem Fr_ev {n t : Nat} {e : Nat → AVal} (h : t < n) : ev cfg (Fr' n e) (.tmp t) = e t := Fr_get h
theorem ev_const (fr : List AVal) (v : AVal) : ev cfg fr (.const v) = v := rfl
theorem Fr_put {n k : Nat} {e : Nat → AVal} {v : AVal} (h : k < n) : put (Fr' n e) (some k) v = Fr' n (upd e k v) := by
 refine List.ext_getElem? fun i => ?_
 simp only [put,Fr',List.getElem?_set,List.getElem?_map,List.length_map,List.length_range]
 by_cases hi : i < n
 ·rw [List.getElem?_range hi]
  by_cases hk : k = i
  ·subst hk; simp [h,upd]
  ·simp [hk,upd,Ne.symm hk]
 ·rw [List.getElem?_eq_none (by simp; omega)]
  have : k ≠ i := by omega
  simp [this]
theorem put_none (fr : List AVal) (v : AVal) : put fr none v = fr := rfl
theorem Fr_args {n : Nat} {args : List AVal} (h : args.length ≤ n) : args ++ List.replicate (n - args.length) (.tuple []) = Fr' n (argE args) := by
 have key : ∀ (args : List AVal) (t : Nat),argE args t = args.getD t (.tuple []) := by
  intro args
  induction args with
  | nil => intro t; simp [argE]
  | cons a azs ih => intro t; cases t <;> simp [argE,ih]
 refine List.ext_getElem? fun i => ?_
 simp only [Fr',List.getElem?_map]
 by_cases hi : i < n
 ·rw [List.getElem?_range hi]
  simp only [Option.map_some,key]
  by_cases ha : i < args.length
  ·rw [List.getElem?_append_left ha]
   simp [List.getD_eq_getElem?_getD,List.getElem?_eq_getElem ha]
  ·rw [List.getElem?_append_right (by omega),List.getElem?_replicate,if_pos (by omega)]
   simp [List.getD_eq_getElem?_getD,List.getElem?_eq_none (show args.length ≤ i by omega)]
 ·rw [List.getElem?_eq_none (by simp; omega),List.getElem?_eq_none (by simp; omega)]; rfl
theorem Fr_len {n : Nat} {e : Nat → AVal} : (Fr' n e).length = n := by simp [Fr']
def loopQ (live : List Nat) (I : Nat → List AVal → Store → Prop) (m : Nat) (Q : AExit → List AVal → Store → Prop) (n : Nat) : AExit → List AVal → Store → Prop
 | .normal,fr,σ => fr.length = n ∧ ∃ m',m' < m ∧ I m' (live.map fun t => fr.getD t .undef) σ
 | x,fr,σ => Q x fr σ
def endQ (rs : List ARes) (Q : AVal → Store → Prop) : AExit → List AVal → Store → Prop
 | .exit _,_,_ => False
 | _,fr,σ => stepP (resultsA rs (fr,σ)) fr σ (fun _ σ v => Q v σ) .mk
theorem called_of {f : FuncId} {fn : AFunc} {args : List AVal} {σ : Store} {Q : AVal → Store → Prop} (hf : cfg.ir f = some fn) (hl : args.length ≤ fn.ntmps) (h : wpC cfg d fn.body (Fr' fn.ntmps (argE args)) σ (endQ fn.results Q)) (hn : natR cfg f args σ = none := by rfl) : Called cfg d f args σ Q := by
 obtain ⟨n,x,s,h1,h2⟩ := wpC_sound h
 have key : stepP (resultsA fn.results s) s.1 s.2 (fun _ σ v => Q v σ) .mk → (x = .normal ∨ x = .ret) → Called cfg d f args σ Q := by
  intro h3 h4
  cases hr : resultsA fn.results s with
  | none => rw [hr] at h3; exact h3.elim
  | some v =>
   rw [hr] at h3
   refine ⟨n + 1,v,s.2,?_,h3⟩
   simp only [run,hn,hf,Fr_args hl,h1]
   rcases h4 with rfl | rfl <;> simp only [hr]
 cases x with
 | normal => exact key h2 (.inl rfl)
 | exit id => exact h2.elim
 | ret => exact key h2 (.inr rfl)
end
section
variable {cfg : Cfg} {d : Nat} {fr : List AVal} {σ : Store} {Q : AExit → List AVal → Store → Prop} {K : List AVal → Store → Prop} {R : AVal → Store → Prop}
theorem wpC_skip : wpC cfg d .skip fr σ Q = Q .normal fr σ := propext Iff.rfl
theorem wpC_region (ops : List AOper) : wpC cfg d (.region ops) fr σ Q = wpOs cfg d ops fr σ (Q .normal) := propext Iff.rfl
theorem wpC_drawn (ops : List AOper) (pairs : List (Nat × Nat)) : wpC cfg d (.drawn ops pairs) fr σ Q = drawnP cfg d ops pairs fr σ (Q .normal) .mk := propext Iff.rfl
theorem wpC_ahead (ops : List AOper) (pairs : List (Nat × Nat)) : wpC cfg d (.ahead ops pairs) fr σ Q = drawnP cfg d (aheadO σ.length ops) pairs fr (σ ++ aheadZ ops) (Q .normal) .mk := propext Iff.rfl
theorem wpC_seq (a b : ACode) : wpC cfg d (.seq a b) fr σ Q = wpC cfg d a fr σ (seqQ (fun fr σ Q => wpC cfg d b fr σ Q) Q) := propext Iff.rfl
theorem wpC_cond (c : Opnd) (a b : ACode) : wpC cfg d (.cond c a b) fr σ Q = condP (ev cfg fr c) (fun Q => wpC cfg d a fr σ Q) (fun Q => wpC cfg d b fr σ Q) Q .mk .mk .mk := propext Iff.rfl
theorem wpC_block (id : Nat) (c : ACode) : wpC cfg d (.block id c) fr σ Q = wpC cfg d c fr σ (blockQ id Q) := propext Iff.rfl
theorem wpC_loop (live : List Nat) (c : ACode) : wpC cfg d (.loop live c) fr σ Q = loopP cfg d live c fr σ Q .mk .mk := propext Iff.rfl
theorem wpC_exit (id : Nat) : wpC cfg d (.exit id) fr σ Q = Q (.exit id) fr σ := propext Iff.rfl
theorem wpC_ret : wpC cfg d .ret fr σ Q = Q .ret fr σ := propext Iff.rfl
theorem wpOs_nil : wpOs cfg d [] fr σ K = K fr σ := propext Iff.rfl
theorem wpOs_guard (o : Option Nat) (op : AOp) (t : Nat) (b : Bool) (os : List AOper) : wpOs cfg d (⟨o,op,some (t,b)⟩ :: os) fr σ K = guardP (wantedA fr (some (t,b))) (fun K => wpOs cfg d (⟨o,op,none⟩ :: os) fr σ K) (fun K => wpOs cfg d os (put fr o (.tuple [])) σ K) K .mk .mk .mk := propext Iff.rfl
def wantV (b : Bool) (v : AVal) : Option Bool := match v with
 | .bool c => some (c == b)
 | .tuple [] => some false
 | _ => none
theorem wantedA_eq (t : Nat) (b : Bool) : wantedA fr (some (t,b)) = wantV b (fr.getD t .undef) := rfl
theorem wantV_bool (b c : Bool) : wantV b (.bool c) = some (c == b) := rfl
theorem wantV_hole (b : Bool) : wantV b (.tuple []) = some false := rfl
variable (K' : List AVal → Store → PostC → Prop)
theorem seqQ_normal : seqQ K' Q .normal fr σ = K' fr σ Q := propext Iff.rfl
theorem seqQ_exit (id : Nat) : seqQ K' Q (.exit id) fr σ = Q (.exit id) fr σ := propext Iff.rfl
theorem seqQ_ret : seqQ K' Q .ret fr σ = Q .ret fr σ := propext Iff.rfl
theorem blockQ_normal (id : Nat) : blockQ id Q .normal fr σ = Q .normal fr σ := propext Iff.rfl
theorem blockQ_hit (id : Nat) : blockQ id Q (.exit id) fr σ = Q .normal fr σ := by simp only [blockQ,if_true]
theorem blockQ_miss (id id' : Nat) (h : (id' == id) = false) : blockQ id Q (.exit id') fr σ = Q (.exit id') fr σ := by
 have h' : ¬ id' = id := by simpa using h
 simp only [blockQ,if_neg h']
theorem blockQ_ret (id : Nat) : blockQ id Q .ret fr σ = Q .ret fr σ := propext Iff.rfl
theorem endQ_normal (rs : List ARes) : endQ rs R .normal fr σ = stepP (resultsA rs (fr,σ)) fr σ (fun _ σ v => R v σ) .mk := propext Iff.rfl
theorem endQ_ret (rs : List ARes) : endQ rs R .ret fr σ = stepP (resultsA rs (fr,σ)) fr σ (fun _ σ v => R v σ) .mk := propext Iff.rfl
theorem loopQ_normal (live : List Nat) (I : Nat → List AVal → Store → Prop) (m n : Nat) : loopQ live I m Q n .normal fr σ = (fr.length = n ∧ ∃ m',m' < m ∧ I m' (live.map fun t => fr.getD t .undef) σ) := propext Iff.rfl
theorem loopQ_exit (live : List Nat) (I : Nat → List AVal → Store → Prop) (m n id : Nat) : loopQ live I m Q n (.exit id) fr σ = Q (.exit id) fr σ := propext Iff.rfl
theorem loopQ_ret (live : List Nat) (I : Nat → List AVal → Store → Prop) (m n : Nat) : loopQ live I m Q n .ret fr σ = Q .ret fr σ := propext Iff.rfl
theorem res_one (r : ARes) : resultsA [r] (fr,σ) = resOf (fr,σ) r := by
 simp only [resultsA,mapO]
 cases resOf (fr,σ) r <;> rfl
theorem res2_tmp (a b : Nat) : resultsA [.tmp a,.tmp b] (fr,σ) = some (.tuple [fr.getD a .undef,fr.getD b .undef]) := rfl
theorem res3_tmp (a b c : Nat) : resultsA [.tmp a,.tmp b,.tmp c] (fr,σ) = some (.tuple [fr.getD a .undef,fr.getD b .undef,fr.getD c .undef]) := rfl
theorem res4_tmp (a b c e : Nat) : resultsA [.tmp a,.tmp b,.tmp c,.tmp e] (fr,σ) = some (.tuple [fr.getD a .undef,fr.getD b .undef,fr.getD c .undef,fr.getD e .undef]) := rfl
theorem res_tmp (t : Nat) : resOf (fr,σ) (.tmp t) = some (fr.getD t .undef) := rfl
theorem res_cell (t n : Nat) (agg : Bool) : resOf (fr,σ) (.cell t n agg) = loadV σ n agg (fr.getD t .undef) := rfl
theorem opP_move (x : Opnd) : opP cfg d fr σ (.move x) R = R (ev cfg fr x) σ := propext Iff.rfl
def pickV (c a b : AVal) : Option AVal := match c with
 | .bool t => some (if t then a else b)
 | _ => none
theorem pickV_bool (t : Bool) (a b : AVal) : pickV (.bool t) a b = some (if t then a else b) := rfl
theorem opP_pick (c a b : Opnd) : opP cfg d fr σ (.pick c a b) R = optP (pickV (ev cfg fr c) (ev cfg fr a) (ev cfg fr b)) (fun v => R v σ) .mk := by
 simp only [opP,opE,opStep]; cases ev cfg fr c <;> rfl
theorem opP_alloc (z : List AVal) : opP cfg d fr σ (.alloc z) R = R (.ptr σ.length 0) (σ ++ [.cells z]) := propext Iff.rfl
theorem opP_box (x : Opnd) : opP cfg d fr σ (.box x) R = optP (if (ev cfg fr x).cells.all AVal.one then some () else none) (fun _ => R (.ptr σ.length 0) (σ ++ [.cells (ev cfg fr x).cells])) .mk := by
 simp only [opP,opE,opStep]; split <;> rfl
theorem opP_build (z : List AVal) (parts : List (Nat × Nat × Opnd)) : opP cfg d fr σ (.build z parts) R = optP (fillA z (parts.map fun p => (p.1,p.2.1,ev cfg fr p.2.2))) (fun cs => R (.agg cs) σ) .mk := by
 simp only [opP,opE,opStep]; cases fillA z (parts.map fun p => (p.1,p.2.1,ev cfg fr p.2.2)) <;> rfl
theorem opP_lit (sz : Nat) (z : List AVal) (agg : Bool) (n : Nat) (parts : List (Nat × Opnd)) : opP cfg d fr σ (.lit sz z agg n parts) R = optP (fillL sz agg (List.replicate n (zel z agg)) (parts.map fun p => (p.1,ev cfg fr p.2))) (fun es => R (.fslice (AVal.tagL es) true sz es) σ) .mk := by
 simp only [opP,opE,opStep]; cases fillL sz agg (List.replicate n (zel z agg)) (parts.map fun p => (p.1,ev cfg fr p.2)) <;> rfl
theorem opP_litA (sz : Nat) (z : List AVal) (agg : Bool) (n : Nat) (parts : List (Nat × Opnd)) : opP cfg d fr σ (.litA sz z agg n parts) R = optP (fillL sz agg (List.replicate n (zel z agg)) (parts.map fun p => (p.1,ev cfg fr p.2))) (fun es => R (.slice sz σ.length 0 0 n (some n)) (σ ++ [.arr sz es 0 0])) .mk := by
 simp only [opP,opE,opStep]; cases fillL sz agg (List.replicate n (zel z agg)) (parts.map fun p => (p.1,ev cfg fr p.2)) <;> rfl
theorem opP_load (n : Nat) (agg : Bool) (a : Opnd) : opP cfg d fr σ (.load n agg a) R = optP (loadV σ n agg (ev cfg fr a)) (fun v => R v σ) .mk := by
 simp only [opP,opE,opStep]; cases loadV σ n agg (ev cfg fr a) <;> rfl
theorem opP_store (n : Nat) (a v : Opnd) : opP cfg d fr σ (.store n a v) R = optP (storeV σ n (ev cfg fr a) (ev cfg fr v)) (fun σ' => R (.tuple []) σ') .mk := by
 simp only [opP,opE,opStep]; cases storeV σ n (ev cfg fr a) (ev cfg fr v) <;> rfl
def ncV (v : AVal) : Option AVal := match v with
 | .ptr id off => some (.ptr id off)
 | .eptr id ep i off => some (.eptr id ep i off)
 | .fptr t cs off => some (.fptr t cs off)
 | .func f a b => some (.func f a b)
 | _ => none
theorem ncV_ptr (id off : Nat) : ncV (.ptr id off) = some (.ptr id off) := rfl
theorem ncV_eptr (id ep i off : Nat) : ncV (.eptr id ep i off) = some (.eptr id ep i off) := rfl
theorem ncV_fptr (t : Nat) (cs : List AVal) (off : Nat) : ncV (.fptr t cs off) = some (.fptr t cs off) := rfl
theorem ncV_func (f : FuncId) (a b : List AVal) : ncV (.func f a b) = some (.func f a b) := rfl
theorem opP_nilCheck (x : Opnd) : opP cfg d fr σ (.nilCheck x) R = optP (ncV (ev cfg fr x)) (fun v => R v σ) .mk := by
 simp only [opP,opE,opStep]; cases ev cfg fr x <;> rfl
theorem opP_iop (op : BinOp) (x y : Opnd) : opP cfg d fr σ (.iop op x y) R = optP (iopV op (ev cfg fr x) (ev cfg fr y)) (fun v => R v σ) .mk := by
 simp only [opP,opE,opStep]; cases iopV op (ev cfg fr x) (ev cfg fr y) <;> rfl
theorem opP_sop (op : BinOp) (x y : Opnd) : opP cfg d fr σ (.sop op x y) R = optP (sopV op (ev cfg fr x) (ev cfg fr y)) (fun v => R v σ) .mk := by
 simp only [opP,opE,opStep]; cases sopV op (ev cfg fr x) (ev cfg fr y) <;> rfl
def bopV (neg : Bool) (x y : AVal) : Option AVal := match x,y with
 | .bool a,.bool b => some (.bool (if neg then !(a == b) else a == b))
 | _,_ => none
theorem bopV_bool (neg a b : Bool) : bopV neg (.bool a) (.bool b) = some (.bool (if neg then !(a == b) else a == b)) := rfl
theorem opP_bop (neg : Bool) (x y : Opnd) : opP cfg d fr σ (.bop neg x y) R = optP (bopV neg (ev cfg fr x) (ev cfg fr y)) (fun v => R v σ) .mk := by
 simp only [opP,opE,opStep]; cases ev cfg fr x <;> first | rfl | (cases ev cfg fr y <;> rfl)
theorem opP_eqs (neg : Bool) (ks : List EK) (x y : Opnd) : opP cfg d fr σ (.eqs neg ks x y) R = optP (eqsV ks (ev cfg fr x) (ev cfg fr y)) (fun b => R (.bool (if neg then !b else b)) σ) .mk := by
 simp only [opP,opE,opStep]; cases eqsV ks (ev cfg fr x) (ev cfg fr y) <;> rfl
theorem opP_eqnil (neg : Bool) (k : NK) (x : Opnd) : opP cfg d fr σ (.eqnil neg k x) R = optP (isNil k (ev cfg fr x)) (fun b => R (.bool (if neg then !b else b)) σ) .mk := by
 simp only [opP,opE,opStep]; cases isNil k (ev cfg fr x) <;> rfl
def notV (v : AVal) : Option AVal := match v with
 | .bool b => some (.bool !b)
 | _ => none
theorem notV_bool (b : Bool) : notV (.bool b) = some (.bool !b) := rfl
theorem opP_not (x : Opnd) : opP cfg d fr σ (.not x) R = optP (notV (ev cfg fr x)) (fun v => R v σ) .mk := by
 simp only [opP,opE,opStep]; cases ev cfg fr x <;> rfl
def negV (v : AVal) : Option AVal := match v with
 | .int k n => some (.int k (k.wrap (0 - n)))
 | _ => none
theorem negV_int (k : IntKind) (n : Int) : negV (.int k n) = some (.int k (k.wrap (0 - n))) := rfl
theorem opP_neg (x : Opnd) : opP cfg d fr σ (.neg x) R = optP (negV (ev cfg fr x)) (fun v => R v σ) .mk := by
 simp only [opP,opE,opStep]; cases ev cfg fr x <;> rfl
def convV (k : IntKind) (v : AVal) : Option AVal := match v with
 | .int _ n => some (.int k (k.wrap n))
 | _ => none
theorem opP_convI (k : IntKind) (x : Opnd) : opP cfg d fr σ (.convI k x) R = optP (convV k (ev cfg fr x)) (fun v => R v σ) .mk := by
 simp only [opP,opE,opStep]; cases ev cfg fr x <;> rfl
theorem opP_sliceOp (sz : Nat) (x : Opnd) (lo hi mx : Option Opnd) : opP cfg d fr σ (.sliceOp sz x lo hi mx) R = optP (sliceV sz (ev cfg fr x) (oev cfg fr lo) (oev cfg fr hi) (oev cfg fr mx)) (fun v => R v σ) .mk := by
 simp only [opP,opE,opStep]; cases sliceV sz (ev cfg fr x) (oev cfg fr lo) (oev cfg fr hi) (oev cfg fr mx) <;> rfl
theorem opP_substr (x : Opnd) (lo hi : Option Opnd) : opP cfg d fr σ (.substr x lo hi) R = optP (substrV (ev cfg fr x) (oev cfg fr lo) (oev cfg fr hi)) (fun v => R v σ) .mk := by
 simp only [opP,opE,opStep]; cases substrV (ev cfg fr x) (oev cfg fr lo) (oev cfg fr hi) <;> rfl
theorem opP_gslice (n sz : Nat) (x : Opnd) : opP cfg d fr σ (.gslice n sz x) R = optP (gsliceV n sz (ev cfg fr x)) (fun v => R v σ) .mk := by
 simp only [opP,opE,opStep]; cases gsliceV n sz (ev cfg fr x) <;> rfl
theorem opP_faddr (off : Nat) (x : Opnd) : opP cfg d fr σ (.faddr off x) R = optP (faddrV off (ev cfg fr x)) (fun v => R v σ) .mk := by
 simp only [opP,opE,opStep]; cases faddrV off (ev cfg fr x) <;> rfl
def fieldV (off n : Nat) (agg : Bool) (v : AVal) : Option AVal := match v with
 | .agg cs => ld cs off n agg
 | _ => none
theorem fieldV_agg (off n : Nat) (agg : Bool) (cs : List AVal) : fieldV off n agg (.agg cs) = ld cs off n agg := rfl
theorem opP_field (off n : Nat) (agg : Bool) (x : Opnd) : opP cfg d fr σ (.field off n agg x) R = optP (fieldV off n agg (ev cfg fr x)) (fun v => R v σ) .mk := by
 simp only [opP,opE,opStep]
 cases ev cfg fr x <;> try rfl
 rename_i cs
 simp only [fieldV]
 cases ld cs off n agg <;> rfl
theorem opP_iaddr (sz : Nat) (x i : Opnd) : opP cfg d fr σ (.iaddr sz x i) R = optP (iaddrV sz (ev cfg fr x) (ev cfg fr i)) (fun v => R v σ) .mk := by
 simp only [opP,opE,opStep]; cases iaddrV sz (ev cfg fr x) (ev cfg fr i) <;> rfl
theorem opP_aaddr (len sz : Nat) (x i : Opnd) : opP cfg d fr σ (.aaddr len sz x i) R = optP (aaddrV len sz (ev cfg fr x) (ev cfg fr i)) (fun v => R v σ) .mk := by
 simp only [opP,opE,opStep]; cases aaddrV len sz (ev cfg fr x) (ev cfg fr i) <;> rfl
theorem opP_strIdx (x i : Opnd) : opP cfg d fr σ (.strIdx x i) R = optP (strIdxV (ev cfg fr x) (ev cfg fr i)) (fun v => R v σ) .mk := by
 simp only [opP,opE,opStep]; cases strIdxV (ev cfg fr x) (ev cfg fr i) <;> rfl
theorem opP_arrIdx (len sz : Nat) (agg : Bool) (x i : Opnd) : opP cfg d fr σ (.arrIdx len sz agg x i) R = optP (arrIdxV len sz agg (ev cfg fr x) (ev cfg fr i)) (fun v => R v σ) .mk := by
 simp only [opP,opE,opStep]; cases arrIdxV len sz agg (ev cfg fr x) (ev cfg fr i) <;> rfl
theorem opP_lenS (x : Opnd) : opP cfg d fr σ (.lenS x) R = optP (lenSV (ev cfg fr x)) (fun n => R (.int .i64 n) σ) .mk := by
 simp only [opP,opE,opStep]; cases lenSV (ev cfg fr x) <;> rfl
def lenStrV (v : AVal) : Option Nat := match v with
 | .str s => some s.length
 | _ => none
theorem lenStrV_str (s : List UInt8) : lenStrV (.str s) = some s.length := rfl
theorem opP_lenStr (x : Opnd) : opP cfg d fr σ (.lenStr x) R = optP (lenStrV (ev cfg fr x)) (fun n => R (.int .i64 n) σ) .mk := by
 simp only [opP,opE,opStep]; cases ev cfg fr x <;> rfl
theorem opP_lenM (x : Opnd) : opP cfg d fr σ (.lenM x) R = optP (lenMV σ (ev cfg fr x)) (fun n => R (.int .i64 n) σ) .mk := by
 simp only [opP,opE,opStep]; cases lenMV σ (ev cfg fr x) <;> rfl
theorem opP_lenA (n : Nat) : opP cfg d fr σ (.lenA n) R = R (.int .i64 n) σ := propext Iff.rfl
theorem opP_capS (x : Opnd) : opP cfg d fr σ (.capS x) R = optP (capSV (ev cfg fr x)) (fun n => R (.int .i64 n) σ) .mk := by
 simp only [opP,opE,opStep]; cases capSV (ev cfg fr x) <;> rfl
theorem opP_minI (x : Opnd) (xs : List Opnd) : opP cfg d fr σ (.minI (x :: xs)) R = optP (foldV minV (ev cfg fr x) (xs.map (ev cfg fr))) (fun v => R v σ) .mk := by
 simp only [opP,opE,opStep]; cases foldV minV (ev cfg fr x) (xs.map (ev cfg fr)) <;> rfl
theorem opP_maxI (x : Opnd) (xs : List Opnd) : opP cfg d fr σ (.maxI (x :: xs)) R = optP (foldV maxV (ev cfg fr x) (xs.map (ev cfg fr))) (fun v => R v σ) .mk := by
 simp only [opP,opE,opStep]; cases foldV maxV (ev cfg fr x) (xs.map (ev cfg fr)) <;> rfl
theorem opP_append (sz bytes : Nat) (x y : Opnd) : opP cfg d fr σ (.append sz bytes x y) R = optP (elems sz σ (ev cfg fr y)) (fun ys => optP (appendV σ sz bytes (ev cfg fr x) ys) (fun p => R p.1 p.2) .mk) .mk := by
 simp only [opP,opE,opStep]; cases elems sz σ (ev cfg fr y) <;> rfl
def appzV (σ : Store) (sz bytes : Nat) (z : List AVal) (agg : Bool) (x y : AVal) : Option (AVal × Store) := match x,y with
  | .nilslice,.int .i64 n => if 0 ≤ n ∧ n * bytes ≤ apLim then
    (if n = 0 then some (.nilslice,σ) else some (.slice sz σ.length 0 0 n.toNat none,σ ++ [.arr sz (List.replicate n.toNat (zel z agg)) 0 0])) else none
  | _,_ => none
theorem opP_appendz (sz bytes : Nat) (z : List AVal) (agg : Bool) (x y : Opnd) : opP cfg d fr σ (.appendz sz bytes z agg x y) R = optP (appzV σ sz bytes z agg (ev cfg fr x) (ev cfg fr y)) (fun p => R p.1 p.2) .mk := propext Iff.rfl
def mkslV (σ : Store) (sz bytes : Nat) (z : List AVal) (agg : Bool) (l c : AVal) : Option (AVal × Store) := match l,c with
 | .int .i64 n,.int .i64 c => if 0 ≤ n ∧ n ≤ c ∧ c * bytes ≤ apLim then
    some (.slice sz σ.length 0 0 n.toNat (if n = c then some n.toNat else none),σ ++ [.arr sz (List.replicate n.toNat (zel z agg)) 0 0]) else none
 | _,_ => none
theorem opP_mkslice (sz bytes : Nat) (z : List AVal) (agg : Bool) (l c : Opnd) : opP cfg d fr σ (.mkslice sz bytes z agg l c) R = optP (mkslV σ sz bytes z agg (ev cfg fr l) (ev cfg fr c)) (fun p => R p.1 p.2) .mk := propext Iff.rfl
def extrV (v : AVal) (i : Nat) : Option AVal := match v with
 | .tuple vs => vs[i]?
 | _ => none
theorem extrV_tuple (vs : List AVal) (i : Nat) : extrV (.tuple vs) i = vs[i]? := rfl
theorem opP_extract (x : Opnd) (i : Nat) : opP cfg d fr σ (.extract x i) R = optP (extrV (ev cfg fr x) i) (fun v => R v σ) .mk := by
 simp only [opP,opE,opStep]
 cases ev cfg fr x <;> try rfl
 rename_i cs
 simp only [extrV]
 cases cs[i]? <;> rfl
theorem opP_mkfunc (f : FuncId) (first caps : List Opnd) : opP cfg d fr σ (.mkfunc f first caps) R = R (.func f (first.map (ev cfg fr)) (caps.map (ev cfg fr))) σ := propext Iff.rfl
theorem opP_mkmap : opP cfg d fr σ .mkmap R = R (.map σ.length) (σ ++ [.map [] []]) := propext Iff.rfl
theorem opP_lookup (g : Bool) (q : List EK) (z : AVal) (x k : Opnd) (ok : Bool) : opP cfg d fr σ (.lookup g q z x k ok) R = optP (lookupV σ g q z (ev cfg fr x) (ev cfg fr k) ok) (fun v => R v σ) .mk := by
 simp only [opP,opE,opStep]; cases lookupV σ g q z (ev cfg fr x) (ev cfg fr k) ok <;> rfl
theorem opP_mapset (g : Bool) (q : List EK) (m k v : Opnd) : opP cfg d fr σ (.mapset g q m k v) R = optP (mapsetV σ g q (ev cfg fr m) (ev cfg fr k) (ev cfg fr v)) (fun σ' => R (.tuple []) σ') .mk := by
 simp only [opP,opE,opStep]; cases mapsetV σ g q (ev cfg fr m) (ev cfg fr k) (ev cfg fr v) <;> rfl
theorem opP_clr (sz : Nat) (z : List AVal) (g : Bool) (x : Opnd) : opP cfg d fr σ (.clr sz z g x) R = optP (clrV σ sz z g (ev cfg fr x)) (fun σ' => R (.tuple []) σ') .mk := by
 simp only [opP,opE,opStep]; cases clrV σ sz z g (ev cfg fr x) <;> rfl
theorem opP_mapdel (g : Bool) (q : List EK) (m k : Opnd) : opP cfg d fr σ (.mapdel g q m k) R = optP (mapdelV σ g q (ev cfg fr m) (ev cfg fr k)) (fun σ' => R (.tuple []) σ') .mk := by
 simp only [opP,opE,opStep]; cases mapdelV σ g q (ev cfg fr m) (ev cfg fr k) <;> rfl
theorem opP_mkiface (t : TypeId) (x : Opnd) : opP cfg d fr σ (.mkiface t x) R = R (.iface t (ev cfg fr x)) σ := propext Iff.rfl
theorem opP_callS (f : FuncId) (args : List Opnd) : opP cfg d fr σ (.call .shared f args) R = calledW cfg d f (args.map (ev cfg fr)) fr σ (fun _ => R) .mk := propext Iff.rfl
def callvP (cfg : Cfg) (d : Nat) (m : Mode) (f : AVal) (args fr : List AVal) (σ : Store) (R : List AVal → AVal → Store → Prop) (w : Wit R) : Prop := match f with
 | .func g first caps => callP cfg d m g (first ++ args ++ caps) σ (R fr)
 | _ => False
theorem callvP_func (g : FuncId) (first caps args fr : List AVal) (R : List AVal → AVal → Store → Prop) (w : Wit R) : callvP cfg d .shared (.func g first caps) args fr σ R w = calledW cfg d g (first ++ args ++ caps) fr σ R .mk := propext Iff.rfl
theorem wpO_move (o : Option Nat) (os : List AOper) (x : Opnd) : wpOs cfg d (⟨o,.move x,none⟩ :: os) fr σ K = stepP (some (ev cfg fr x)) fr σ (fun fr σ v => wpOs cfg d os (put fr o v) σ K) .mk := opP_move (cfg := cfg) (d := d) (fr := fr) (σ := σ) (R := fun v σ' => wpOs cfg d os (put fr o v) σ' K) x
theorem wpO_pick (o : Option Nat) (os : List AOper) (c a b : Opnd) : wpOs cfg d (⟨o,.pick c a b,none⟩ :: os) fr σ K = stepP (pickV (ev cfg fr c) (ev cfg fr a) (ev cfg fr b)) fr σ (fun fr σ v => wpOs cfg d os (put fr o v) σ K) .mk := opP_pick (cfg := cfg) (d := d) (fr := fr) (σ := σ) (R := fun v σ' => wpOs cfg d os (put fr o v) σ' K) c a b
theorem wpO_alloc (o : Option Nat) (os : List AOper) (z : List AVal) : wpOs cfg d (⟨o,.alloc z,none⟩ :: os) fr σ K = stepP (some (.ptr σ.length 0)) fr (σ ++ [.cells z]) (fun fr σ v => wpOs cfg d os (put fr o v) σ K) .mk := opP_alloc (cfg := cfg) (d := d) (fr := fr) (σ := σ) (R := fun v σ' => wpOs cfg d os (put fr o v) σ' K) z
theorem wpO_box (o : Option Nat) (os : List AOper) (x : Opnd) : wpOs cfg d (⟨o,.box x,none⟩ :: os) fr σ K = stepP (if (ev cfg fr x).cells.all AVal.one then some () else none) fr σ (fun fr σ _ => wpOs cfg d os (put fr o (.ptr σ.length 0)) (σ ++ [.cells (ev cfg fr x).cells]) K) .mk := opP_box (cfg := cfg) (d := d) (fr := fr) (σ := σ) (R := fun v σ' => wpOs cfg d os (put fr o v) σ' K) x
theorem wpO_build (o : Option Nat) (os : List AOper) (z : List AVal) (parts : List (Nat × Nat × Opnd)) : wpOs cfg d (⟨o,.build z parts,none⟩ :: os) fr σ K = stepP (fillA z (parts.map fun p => (p.1,p.2.1,ev cfg fr p.2.2))) fr σ (fun fr σ cs => wpOs cfg d os (put fr o (.agg cs)) σ K) .mk := opP_build (cfg := cfg) (d := d) (fr := fr) (σ := σ) (R := fun v σ' => wpOs cfg d os (put fr o v) σ' K) z parts
theorem wpO_lit (o : Option Nat) (os : List AOper) (sz : Nat) (z : List AVal) (agg : Bool) (n : Nat) (parts : List (Nat × Opnd)) : wpOs cfg d (⟨o,.lit sz z agg n parts,none⟩ :: os) fr σ K = stepP (fillL sz agg (List.replicate n (zel z agg)) (parts.map fun p => (p.1,ev cfg fr p.2))) fr σ (fun fr σ es => wpOs cfg d os (put fr o (.fslice (AVal.tagL es) true sz es)) σ K) .mk := opP_lit (cfg := cfg) (d := d) (fr := fr) (σ := σ) (R := fun v σ' => wpOs cfg d os (put fr o v) σ' K) sz z agg n parts
theorem wpO_litA (o : Option Nat) (os : List AOper) (sz : Nat) (z : List AVal) (agg : Bool) (n : Nat) (parts : List (Nat × Opnd)) : wpOs cfg d (⟨o,.litA sz z agg n parts,none⟩ :: os) fr σ K = stepP (fillL sz agg (List.replicate n (zel z agg)) (parts.map fun p => (p.1,ev cfg fr p.2))) fr σ (fun fr σ es => wpOs cfg d os (put fr o (.slice sz σ.length 0 0 n (some n))) (σ ++ [.arr sz es 0 0]) K) .mk := opP_litA (cfg := cfg) (d := d) (fr := fr) (σ := σ) (R := fun v σ' => wpOs cfg d os (put fr o v) σ' K) sz z agg n parts
theorem wpO_load (o : Option Nat) (os : List AOper) (n : Nat) (agg : Bool) (a : Opnd) : wpOs cfg d (⟨o,.load n agg a,none⟩ :: os) fr σ K = stepP (loadV σ n agg (ev cfg fr a)) fr σ (fun fr σ v => wpOs cfg d os (put fr o v) σ K) .mk := opP_load (cfg := cfg) (d := d) (fr := fr) (σ := σ) (R := fun v σ' => wpOs cfg d os (put fr o v) σ' K) n agg a
theorem wpO_store (o : Option Nat) (os : List AOper) (n : Nat) (a v : Opnd) : wpOs cfg d (⟨o,.store n a v,none⟩ :: os) fr σ K = stepP (storeV σ n (ev cfg fr a) (ev cfg fr v)) fr σ (fun fr _ σ' => wpOs cfg d os (put fr o (.tuple [])) σ' K) .mk := opP_store (cfg := cfg) (d := d) (fr := fr) (σ := σ) (R := fun v σ' => wpOs cfg d os (put fr o v) σ' K) n a v
theorem wpO_nilCheck (o : Option Nat) (os : List AOper) (x : Opnd) : wpOs cfg d (⟨o,.nilCheck x,none⟩ :: os) fr σ K = stepP (ncV (ev cfg fr x)) fr σ (fun fr σ v => wpOs cfg d os (put fr o v) σ K) .mk := opP_nilCheck (cfg := cfg) (d := d) (fr := fr) (σ := σ) (R := fun v σ' => wpOs cfg d os (put fr o v) σ' K) x
theorem wpO_iop (o : Option Nat) (os : List AOper) (op : BinOp) (x y : Opnd) : wpOs cfg d (⟨o,.iop op x y,none⟩ :: os) fr σ K = stepP (iopV op (ev cfg fr x) (ev cfg fr y)) fr σ (fun fr σ v => wpOs cfg d os (put fr o v) σ K) .mk := opP_iop (cfg := cfg) (d := d) (fr := fr) (σ := σ) (R := fun v σ' => wpOs cfg d os (put fr o v) σ' K) op x y
theorem wpO_sop (o : Option Nat) (os : List AOper) (op : BinOp) (x y : Opnd) : wpOs cfg d (⟨o,.sop op x y,none⟩ :: os) fr σ K = stepP (sopV op (ev cfg fr x) (ev cfg fr y)) fr σ (fun fr σ v => wpOs cfg d os (put fr o v) σ K) .mk := opP_sop (cfg := cfg) (d := d) (fr := fr) (σ := σ) (R := fun v σ' => wpOs cfg d os (put fr o v) σ' K) op x y
theorem wpO_bop (o : Option Nat) (os : List AOper) (neg : Bool) (x y : Opnd) : wpOs cfg d (⟨o,.bop neg x y,none⟩ :: os) fr σ K = stepP (bopV neg (ev cfg fr x) (ev cfg fr y)) fr σ (fun fr σ v => wpOs cfg d os (put fr o v) σ K) .mk := opP_bop (cfg := cfg) (d := d) (fr := fr) (σ := σ) (R := fun v σ' => wpOs cfg d os (put fr o v) σ' K) neg x y
theorem wpO_eqs (o : Option Nat) (os : List AOper) (neg : Bool) (ks : List EK) (x y : Opnd) : wpOs cfg d (⟨o,.eqs neg ks x y,none⟩ :: os) fr σ K = stepP (eqsV ks (ev cfg fr x) (ev cfg fr y)) fr σ (fun fr σ b => wpOs cfg d os (put fr o (.bool (if neg then !b else b))) σ K) .mk := opP_eqs (cfg := cfg) (d := d) (fr := fr) (σ := σ) (R := fun v σ' => wpOs cfg d os (put fr o v) σ' K) neg ks x y
theorem wpO_eqnil (o : Option Nat) (os : List AOper) (neg : Bool) (k : NK) (x : Opnd) : wpOs cfg d (⟨o,.eqnil neg k x,none⟩ :: os) fr σ K = stepP (isNil k (ev cfg fr x)) fr σ (fun fr σ b => wpOs cfg d os (put fr o (.bool (if neg then !b else b))) σ K) .mk := opP_eqnil (cfg := cfg) (d := d) (fr := fr) (σ := σ) (R := fun v σ' => wpOs cfg d os (put fr o v) σ' K) neg k x
theorem wpO_not (o : Option Nat) (os : List AOper) (x : Opnd) : wpOs cfg d (⟨o,.not x,none⟩ :: os) fr σ K = stepP (notV (ev cfg fr x)) fr σ (fun fr σ v => wpOs cfg d os (put fr o v) σ K) .mk := opP_not (cfg := cfg) (d := d) (fr := fr) (σ := σ) (R := fun v σ' => wpOs cfg d os (put fr o v) σ' K) x
theorem wpO_neg (o : Option Nat) (os : List AOper) (x : Opnd) : wpOs cfg d (⟨o,.neg x,none⟩ :: os) fr σ K = stepP (negV (ev cfg fr x)) fr σ (fun fr σ v => wpOs cfg d os (put fr o v) σ K) .mk := opP_neg (cfg := cfg) (d := d) (fr := fr) (σ := σ) (R := fun v σ' => wpOs cfg d os (put fr o v) σ' K) x
theorem wpO_convI (o : Option Nat) (os : List AOper) (k : IntKind) (x : Opnd) : wpOs cfg d (⟨o,.convI k x,none⟩ :: os) fr σ K = stepP (convV k (ev cfg fr x)) fr σ (fun fr σ v => wpOs cfg d os (put fr o v) σ K) .mk := opP_convI (cfg := cfg) (d := d) (fr := fr) (σ := σ) (R := fun v σ' => wpOs cfg d os (put fr o v) σ' K) k x
theorem wpO_sliceOp (o : Option Nat) (os : List AOper) (sz : Nat) (x : Opnd) (lo hi mx : Option Opnd) : wpOs cfg d (⟨o,.sliceOp sz x lo hi mx,none⟩ :: os) fr σ K = stepP (sliceV sz (ev cfg fr x) (oev cfg fr lo) (oev cfg fr hi) (oev cfg fr mx)) fr σ (fun fr σ v => wpOs cfg d os (put fr o v) σ K) .mk := opP_sliceOp (cfg := cfg) (d := d) (fr := fr) (σ := σ) (R := fun v σ' => wpOs cfg d os (put fr o v) σ' K) sz x lo hi mx
theorem wpO_substr (o : Option Nat) (os : List AOper) (x : Opnd) (lo hi : Option Opnd) : wpOs cfg d (⟨o,.substr x lo hi,none⟩ :: os) fr σ K = stepP (substrV (ev cfg fr x) (oev cfg fr lo) (oev cfg fr hi)) fr σ (fun fr σ v => wpOs cfg d os (put fr o v) σ K) .mk := opP_substr (cfg := cfg) (d := d) (fr := fr) (σ := σ) (R := fun v σ' => wpOs cfg d os (put fr o v) σ' K) x lo hi
theorem wpO_gslice (o : Option Nat) (os : List AOper) (n sz : Nat) (x : Opnd) : wpOs cfg d (⟨o,.gslice n sz x,none⟩ :: os) fr σ K = stepP (gsliceV n sz (ev cfg fr x)) fr σ (fun fr σ v => wpOs cfg d os (put fr o v) σ K) .mk := opP_gslice (cfg := cfg) (d := d) (fr := fr) (σ := σ) (R := fun v σ' => wpOs cfg d os (put fr o v) σ' K) n sz x
theorem wpO_faddr (o : Option Nat) (os : List AOper) (off : Nat) (x : Opnd) : wpOs cfg d (⟨o,.faddr off x,none⟩ :: os) fr σ K = stepP (faddrV off (ev cfg fr x)) fr σ (fun fr σ v => wpOs cfg d os (put fr o v) σ K) .mk := opP_faddr (cfg := cfg) (d := d) (fr := fr) (σ := σ) (R := fun v σ' => wpOs cfg d os (put fr o v) σ' K) off x
theorem wpO_field (o : Option Nat) (os : List AOper) (off n : Nat) (agg : Bool) (x : Opnd) : wpOs cfg d (⟨o,.field off n agg x,none⟩ :: os) fr σ K = stepP (fieldV off n agg (ev cfg fr x)) fr σ (fun fr σ v => wpOs cfg d os (put fr o v) σ K) .mk := opP_field (cfg := cfg) (d := d) (fr := fr) (σ := σ) (R := fun v σ' => wpOs cfg d os (put fr o v) σ' K) off n agg x
theorem wpO_iaddr (o : Option Nat) (os : List AOper) (sz : Nat) (x i : Opnd) : wpOs cfg d (⟨o,.iaddr sz x i,none⟩ :: os) fr σ K = stepP (iaddrV sz (ev cfg fr x) (ev cfg fr i)) fr σ (fun fr σ v => wpOs cfg d os (put fr o v) σ K) .mk := opP_iaddr (cfg := cfg) (d := d) (fr := fr) (σ := σ) (R := fun v σ' => wpOs cfg d os (put fr o v) σ' K) sz x i
theorem wpO_aaddr (o : Option Nat) (os : List AOper) (len sz : Nat) (x i : Opnd) : wpOs cfg d (⟨o,.aaddr len sz x i,none⟩ :: os) fr σ K = stepP (aaddrV len sz (ev cfg fr x) (ev cfg fr i)) fr σ (fun fr σ v => wpOs cfg d os (put fr o v) σ K) .mk := opP_aaddr (cfg := cfg) (d := d) (fr := fr) (σ := σ) (R := fun v σ' => wpOs cfg d os (put fr o v) σ' K) len sz x i
theorem wpO_strIdx (o : Option Nat) (os : List AOper) (x i : Opnd) : wpOs cfg d (⟨o,.strIdx x i,none⟩ :: os) fr σ K = stepP (strIdxV (ev cfg fr x) (ev cfg fr i)) fr σ (fun fr σ v => wpOs cfg d os (put fr o v) σ K) .mk := opP_strIdx (cfg := cfg) (d := d) (fr := fr) (σ := σ) (R := fun v σ' => wpOs cfg d os (put fr o v) σ' K) x i
theorem wpO_arrIdx (o : Option Nat) (os : List AOper) (len sz : Nat) (agg : Bool) (x i : Opnd) : wpOs cfg d (⟨o,.arrIdx len sz agg x i,none⟩ :: os) fr σ K = stepP (arrIdxV len sz agg (ev cfg fr x) (ev cfg fr i)) fr σ (fun fr σ v => wpOs cfg d os (put fr o v) σ K) .mk := opP_arrIdx (cfg := cfg) (d := d) (fr := fr) (σ := σ) (R := fun v σ' => wpOs cfg d os (put fr o v) σ' K) len sz agg x i
theorem wpO_lenS (o : Option Nat) (os : List AOper) (x : Opnd) : wpOs cfg d (⟨o,.lenS x,none⟩ :: os) fr σ K = stepP (lenSV (ev cfg fr x)) fr σ (fun fr σ n => wpOs cfg d os (put fr o (.int .i64 n)) σ K) .mk := opP_lenS (cfg := cfg) (d := d) (fr := fr) (σ := σ) (R := fun v σ' => wpOs cfg d os (put fr o v) σ' K) x
theorem wpO_lenStr (o : Option Nat) (os : List AOper) (x : Opnd) : wpOs cfg d (⟨o,.lenStr x,none⟩ :: os) fr σ K = stepP (lenStrV (ev cfg fr x)) fr σ (fun fr σ n => wpOs cfg d os (put fr o (.int .i64 n)) σ K) .mk := opP_lenStr (cfg := cfg) (d := d) (fr := fr) (σ := σ) (R := fun v σ' => wpOs cfg d os (put fr o v) σ' K) x
theorem wpO_lenM (o : Option Nat) (os : List AOper) (x : Opnd) : wpOs cfg d (⟨o,.lenM x,none⟩ :: os) fr σ K = stepP (lenMV σ (ev cfg fr x)) fr σ (fun fr σ n => wpOs cfg d os (put fr o (.int .i64 n)) σ K) .mk := opP_lenM (cfg := cfg) (d := d) (fr := fr) (σ := σ) (R := fun v σ' => wpOs cfg d os (put fr o v) σ' K) x
theorem wpO_lenA (o : Option Nat) (os : List AOper) (n : Nat) : wpOs cfg d (⟨o,.lenA n,none⟩ :: os) fr σ K = stepP (some (.int .i64 n)) fr σ (fun fr σ v => wpOs cfg d os (put fr o v) σ K) .mk := opP_lenA (cfg := cfg) (d := d) (fr := fr) (σ := σ) (R := fun v σ' => wpOs cfg d os (put fr o v) σ' K) n
theorem wpO_capS (o : Option Nat) (os : List AOper) (x : Opnd) : wpOs cfg d (⟨o,.capS x,none⟩ :: os) fr σ K = stepP (capSV (ev cfg fr x)) fr σ (fun fr σ n => wpOs cfg d os (put fr o (.int .i64 n)) σ K) .mk := opP_capS (cfg := cfg) (d := d) (fr := fr) (σ := σ) (R := fun v σ' => wpOs cfg d os (put fr o v) σ' K) x
theorem wpO_minI (o : Option Nat) (os : List AOper) (x : Opnd) (xs : List Opnd) : wpOs cfg d (⟨o,.minI (x :: xs),none⟩ :: os) fr σ K = stepP (foldV minV (ev cfg fr x) (xs.map (ev cfg fr))) fr σ (fun fr σ v => wpOs cfg d os (put fr o v) σ K) .mk := opP_minI (cfg := cfg) (d := d) (fr := fr) (σ := σ) (R := fun v σ' => wpOs cfg d os (put fr o v) σ' K) x xs
theorem wpO_maxI (o : Option Nat) (os : List AOper) (x : Opnd) (xs : List Opnd) : wpOs cfg d (⟨o,.maxI (x :: xs),none⟩ :: os) fr σ K = stepP (foldV maxV (ev cfg fr x) (xs.map (ev cfg fr))) fr σ (fun fr σ v => wpOs cfg d os (put fr o v) σ K) .mk := opP_maxI (cfg := cfg) (d := d) (fr := fr) (σ := σ) (R := fun v σ' => wpOs cfg d os (put fr o v) σ' K) x xs
theorem wpO_append (o : Option Nat) (os : List AOper) (sz bytes : Nat) (x y : Opnd) : wpOs cfg d (⟨o,.append sz bytes x y,none⟩ :: os) fr σ K = stepP (elems sz σ (ev cfg fr y)) fr σ (fun fr σ ys => stepP (appendV σ sz bytes (ev cfg fr x) ys) fr σ (fun fr _ p => wpOs cfg d os (put fr o p.1) p.2 K) .mk) .mk := opP_append (cfg := cfg) (d := d) (fr := fr) (σ := σ) (R := fun v σ' => wpOs cfg d os (put fr o v) σ' K) sz bytes x y
theorem wpO_appendz (o : Option Nat) (os : List AOper) (sz bytes : Nat) (z : List AVal) (agg : Bool) (x y : Opnd) : wpOs cfg d (⟨o,.appendz sz bytes z agg x y,none⟩ :: os) fr σ K = stepP (appzV σ sz bytes z agg (ev cfg fr x) (ev cfg fr y)) fr σ (fun fr _ p => wpOs cfg d os (put fr o p.1) p.2 K) .mk := opP_appendz (cfg := cfg) (d := d) (fr := fr) (σ := σ) (R := fun v σ' => wpOs cfg d os (put fr o v) σ' K) sz bytes z agg x y
theorem wpO_mkslice (o : Option Nat) (os : List AOper) (sz bytes : Nat) (z : List AVal) (agg : Bool) (l c : Opnd) : wpOs cfg d (⟨o,.mkslice sz bytes z agg l c,none⟩ :: os) fr σ K = stepP (mkslV σ sz bytes z agg (ev cfg fr l) (ev cfg fr c)) fr σ (fun fr _ p => wpOs cfg d os (put fr o p.1) p.2 K) .mk := opP_mkslice (cfg := cfg) (d := d) (fr := fr) (σ := σ) (R := fun v σ' => wpOs cfg d os (put fr o v) σ' K) sz bytes z agg l c
theorem wpO_extract (o : Option Nat) (os : List AOper) (x : Opnd) (i : Nat) : wpOs cfg d (⟨o,.extract x i,none⟩ :: os) fr σ K = stepP (extrV (ev cfg fr x) i) fr σ (fun fr σ v => wpOs cfg d os (put fr o v) σ K) .mk := opP_extract (cfg := cfg) (d := d) (fr := fr) (σ := σ) (R := fun v σ' => wpOs cfg d os (put fr o v) σ' K) x i
theorem wpO_mkfunc (o : Option Nat) (os : List AOper) (f : FuncId) (first caps : List Opnd) : wpOs cfg d (⟨o,.mkfunc f first caps,none⟩ :: os) fr σ K = stepP (some (.func f (first.map (ev cfg fr)) (caps.map (ev cfg fr)))) fr σ (fun fr σ v => wpOs cfg d os (put fr o v) σ K) .mk := opP_mkfunc (cfg := cfg) (d := d) (fr := fr) (σ := σ) (R := fun v σ' => wpOs cfg d os (put fr o v) σ' K) f first caps
theorem wpO_mkmap (o : Option Nat) (os : List AOper) : wpOs cfg d (⟨o,.mkmap,none⟩ :: os) fr σ K = stepP (some (.map σ.length)) fr (σ ++ [.map [] []]) (fun fr σ v => wpOs cfg d os (put fr o v) σ K) .mk := opP_mkmap (cfg := cfg) (d := d) (fr := fr) (σ := σ) (R := fun v σ' => wpOs cfg d os (put fr o v) σ' K)
theorem wpO_lookup (o : Option Nat) (os : List AOper) (g : Bool) (q : List EK) (z : AVal) (x k : Opnd) (ok : Bool) : wpOs cfg d (⟨o,.lookup g q z x k ok,none⟩ :: os) fr σ K = stepP (lookupV σ g q z (ev cfg fr x) (ev cfg fr k) ok) fr σ (fun fr σ v => wpOs cfg d os (put fr o v) σ K) .mk := opP_lookup (cfg := cfg) (d := d) (fr := fr) (σ := σ) (R := fun v σ' => wpOs cfg d os (put fr o v) σ' K) g q z x k ok
theorem wpO_mapset (o : Option Nat) (os : List AOper) (g : Bool) (q : List EK) (m k v : Opnd) : wpOs cfg d (⟨o,.mapset g q m k v,none⟩ :: os) fr σ K = stepP (mapsetV σ g q (ev cfg fr m) (ev cfg fr k) (ev cfg fr v)) fr σ (fun fr _ σ' => wpOs cfg d os (put fr o (.tuple [])) σ' K) .mk := opP_mapset (cfg := cfg) (d := d) (fr := fr) (σ := σ) (R := fun v σ' => wpOs cfg d os (put fr o v) σ' K) g q m k v
theorem wpO_mapdel (o : Option Nat) (os : List AOper) (g : Bool) (q : List EK) (m k : Opnd) : wpOs cfg d (⟨o,.mapdel g q m k,none⟩ :: os) fr σ K = stepP (mapdelV σ g q (ev cfg fr m) (ev cfg fr k)) fr σ (fun fr _ σ' => wpOs cfg d os (put fr o (.tuple [])) σ' K) .mk := opP_mapdel (cfg := cfg) (d := d) (fr := fr) (σ := σ) (R := fun v σ' => wpOs cfg d os (put fr o v) σ' K) g q m k
theorem wpO_clr (o : Option Nat) (os : List AOper) (sz : Nat) (z : List AVal) (g : Bool) (x : Opnd) : wpOs cfg d (⟨o,.clr sz z g x,none⟩ :: os) fr σ K = stepP (clrV σ sz z g (ev cfg fr x)) fr σ (fun fr _ σ' => wpOs cfg d os (put fr o (.tuple [])) σ' K) .mk := opP_clr (cfg := cfg) (d := d) (fr := fr) (σ := σ) (R := fun v σ' => wpOs cfg d os (put fr o v) σ' K) sz z g x
theorem wpO_mkiface (o : Option Nat) (os : List AOper) (t : TypeId) (x : Opnd) : wpOs cfg d (⟨o,.mkiface t x,none⟩ :: os) fr σ K = stepP (some (.iface t (ev cfg fr x))) fr σ (fun fr σ v => wpOs cfg d os (put fr o v) σ K) .mk := opP_mkiface (cfg := cfg) (d := d) (fr := fr) (σ := σ) (R := fun v σ' => wpOs cfg d os (put fr o v) σ' K) t x
theorem wpO_callS (o : Option Nat) (os : List AOper) (f : FuncId) (args : List Opnd) : wpOs cfg d (⟨o,.call .shared f args,none⟩ :: os) fr σ K = calledW cfg d f (args.map (ev cfg fr)) fr σ (fun fr v σ' => wpOs cfg d os (put fr o v) σ' K) .mk := opP_callS (cfg := cfg) (d := d) (fr := fr) (σ := σ) (R := fun v σ' => wpOs cfg d os (put fr o v) σ' K) f args
def isoW (cfg : Cfg) (d : Nat) (f : FuncId) (args : List AVal) (fr : List AVal) (σ : Store) (K : List AVal → Store → AVal → Prop) (w : Wit K) : Prop := callP cfg d .iso f args σ (fun v σ' => K fr σ' v)
theorem wpO_callI (o : Option Nat) (os : List AOper) (f : FuncId) (args : List Opnd) : wpOs cfg d (⟨o,.call .iso f args,none⟩ :: os) fr σ K = isoW cfg d f (args.map (ev cfg fr)) fr σ (fun fr σ v => wpOs cfg d os (put fr o v) σ K) .mk := propext Iff.rfl
theorem isoW_bool {f : FuncId} {fr : List AVal} {σ : Store} {K : List AVal → Store → AVal → Prop} {w : Wit K} {n : Nat} {b : Bool} (h : (run cfg n (d + 1) f [] []).map (fun p => p.1) = some (.bool b)) (hk : K fr σ (.bool b)) : isoW cfg d f [] fr σ K w := by
 rw [Option.map_eq_some_iff] at h
 obtain ⟨⟨v,σ1⟩,h1,h2⟩ := h
 dsimp only at h2
 subst h2
 exact ⟨[],rfl,n,.bool b,σ1,h1,.bool b,rfl,Nat.zero_le _,hk⟩
theorem wpO_callv (o : Option Nat) (os : List AOper) (m : Mode) (f : Opnd) (args : List Opnd) : wpOs cfg d (⟨o,.callv m f args,none⟩ :: os) fr σ K = callvP cfg d m (ev cfg fr f) (args.map (ev cfg fr)) fr σ (fun fr v σ' => wpOs cfg d os (put fr o v) σ' K) .mk := by
 simp only [wpOs,wantedA,guardP,opP,callvP]
theorem bq_tt : (true == true) = true := rfl
theorem bq_ff : (false == false) = true := rfl
theorem bq_tf : (true == false) = false := rfl
theorem bq_ft : (false == true) = false := rfl
theorem iop_add (k : IntKind) (a b : Int) : iopV .add (.int k a) (.int k b) = some (.int k (k.wrap (a + b))) := by simp
theorem iop_sub (k : IntKind) (a b : Int) : iopV .sub (.int k a) (.int k b) = some (.int k (k.wrap (a - b))) := by simp
theorem iop_eql (k : IntKind) (a b : Int) : iopV .eql (.int k a) (.int k b) = some (.bool (a == b)) := by simp
theorem iop_neq (k : IntKind) (a b : Int) : iopV .neq (.int k a) (.int k b) = some (.bool (a != b)) := by simp
theorem iop_lss (k : IntKind) (a b : Int) : iopV .lss (.int k a) (.int k b) = some (.bool (decide (a < b))) := by simp
theorem iop_leq (k : IntKind) (a b : Int) : iopV .leq (.int k a) (.int k b) = some (.bool (decide (a ≤ b))) := by simp
theorem iop_gtr (k : IntKind) (a b : Int) : iopV .gtr (.int k a) (.int k b) = some (.bool (decide (a > b))) := by simp
theorem iop_geq (k : IntKind) (a b : Int) : iopV .geq (.int k a) (.int k b) = some (.bool (decide (a ≥ b))) := by simp
end
attribute [irreducible] wpOs wpC stepP optP guardP condP loopP drawnP calledW isoW callvP seqQ blockQ endQ loopQ
end Go.Proofs.YtbbekbjcmnopjaaGreatDoor.Am
namespace Go.Proofs.YtbbekbjcmnopjaaGreatDoor.Am
open Go
def AVal.sid : AVal → Option Nat
 | .slice _ id _ _ _ _ => some id
 | _ => none
structure SlOf (σ : Store) (sz : Nat) (v : AVal) (es : List AVal) : Prop where
 els : elems sz σ v = some es
 len : lenSV v = some es.length
 cap : ∀ s id ep off len c,v = .slice s id ep off len (some c) → len ≤ c
def addrOf (sz : Nat) (v : AVal) (i : Nat) : AVal := (iaddrV sz v (.int .i64 i)).getD .undef
def Keeps (M : Nat → Prop) (σ σ' : Store) : Prop := σ.length ≤ σ'.length ∧ ∀ i,i < σ.length → ¬ M i → σ'[i]? = σ[i]?
abbrev Grows (σ σ' : Store) : Prop := Keeps (fun _ => False) σ σ'
theorem Keeps.refl (M : Nat → Prop) (σ : Store) : Keeps M σ σ := ⟨Nat.le_refl _,fun _ _ _ => rfl⟩
theorem Keeps.trans {M M' : Nat → Prop} {σ σ1 σ2 : Store} (h : Keeps M σ σ1) (h' : Keeps M' σ1 σ2) (hm : ∀ i,i < σ.length → M' i → M i) : Keeps M σ σ2 :=
 ⟨Nat.le_trans h.1 h'.1,fun i hi hn => (h'.2 i (Nat.lt_of_lt_of_le hi h.1) (fun hx => hn (hm i hi hx))).trans (h.2 i hi hn)⟩
theorem Keeps.mono {M M' : Nat → Prop} {σ σ' : Store} (h : Keeps M σ σ') (hm : ∀ i,i < σ.length → M i → M' i) : Keeps M' σ σ' := ⟨h.1,fun i hi hn => h.2 i hi fun hx => hn (hm i hi hx)⟩
theorem Grows.trans {σ σ1 σ2 : Store} (h : Grows σ σ1) (h' : Grows σ1 σ2) : Grows σ σ2 := Keeps.trans h h' fun _ _ h => h
theorem Grows.any {M : Nat → Prop} {σ σ' : Store} (h : Grows σ σ') : Keeps M σ σ' := h.mono fun _ _ h => h.elim
theorem Grows.app (σ : Store) (xs : List AObj) : Grows σ (σ ++ xs) := ⟨by simp,fun i hi _ => List.getElem?_append_left hi⟩
theorem Grows.get {σ σ' : Store} (h : Grows σ σ') {i : Nat} {o : AObj} (ho : σ[i]? = some o) : σ'[i]? = some o := by
 rw [h.2 i (List.getElem?_eq_some_iff.1 ho).1 (fun h => h)]; exact ho
theorem Keeps.get {M : Nat → Prop} {σ σ' : Store} (h : Keeps M σ σ') {i : Nat} {o : AObj} (ho : σ[i]? = some o) (hm : ¬ M i) : σ'[i]? = some o := by
 rw [h.2 i (List.getElem?_eq_some_iff.1 ho).1 hm]; exact ho
theorem Keeps.set (σ : Store) (id : Nat) (o : AObj) : Keeps (fun i => i = id) σ (σ.set id o) :=
 ⟨by simp,fun i hi hn => List.getElem?_set_ne (fun h => hn h.symm)⟩
section
variable {σ σ' : Store} {sz : Nat} {v : AVal} {es : List AVal}
theorem SlOf.nil (σ : Store) (sz : Nat) : SlOf σ sz .nilslice [] := ⟨rfl,rfl,fun _ _ _ _ _ _ h => by cases h⟩
theorem SlOf.fs (σ : Store) (sz t : Nat) (full : Bool) (es : List AVal) : SlOf σ sz (.fslice t full sz es) es := ⟨by simp,rfl,fun _ _ _ _ _ _ h => by cases h⟩
theorem SlOf.cases (h : SlOf σ sz v es) : (v = .nilslice ∧ es = []) ∨ (∃ t full,v = .fslice t full sz es) ∨
  ∃ id ep off cap sz' azs epo fl,v = .slice sz id ep off es.length cap ∧ σ[id]? = some (.arr sz' azs epo fl) ∧ fl ≤ ep ∧ es = (azs.drop off).take es.length ∧ (0 < es.length → off + es.length ≤ azs.length) ∧ es.length ≤ cap.getD es.length := by
 obtain ⟨h1,h2,h3⟩ := h
 cases v <;> simp only [elems,reduceCtorEq] at h1
 ·left; simp at h1; exact ⟨rfl,h1⟩
 ·rename_i s id ep off len cap
  right; right
  simp only [lenSV,Option.some.injEq] at h2
  subst h2
  split at h1
  ·rename_i s' azs epo fl ho
   split at h1
   ·rename_i hc
    injection h1 with h1
    obtain ⟨rfl,hf⟩ := hc
    refine ⟨id,ep,off,cap,s',azs,epo,fl,rfl,ho,hf,h1.symm,fun h0 => ?_,?_⟩
    ·have := congrArg List.length h1
     simp only [List.length_take,List.length_drop] at this
     omega
    ·cases cap with
     | none => exact Nat.le_refl _
     | some c => exact h3 _ _ _ _ _ _ rfl
   ·cases h1
  ·cases h1
 ·rename_i t full s es'
  right; left
  split at h1
  ·rename_i hc; subst hc; injection h1 with h1; subst h1; exact ⟨t,full,rfl⟩
  ·cases h1
theorem SlOf.keep (h : SlOf σ sz v es) (hk : ∀ id,v.sid = some id → σ'[id]? = σ[id]?) : SlOf σ' sz v es := by
 refine ⟨?_,h.len,h.cap⟩
 rw [← h.els]
 cases v <;> try rfl
 rename_i s id ep off len cap
 simp only [elems,hk id rfl]
theorem SlOf.grow (h : SlOf σ sz v es) (hk : Grows σ σ') : SlOf σ' sz v es := by
 refine h.keep fun id hid => ?_
 rcases h.cases with ⟨rfl,_⟩ | ⟨t,full,rfl⟩ | ⟨id',ep,off,cap,sz',azs,epo,fl,rfl,ho,_⟩
 ·cases hid
 ·cases hid
 ·injection hid with hid; subst hid
  rw [hk.get ho,ho]
theorem SlOf.lt (h : SlOf σ sz v es) {id : Nat} (hid : v.sid = some id) : id < σ.length := by
 rcases h.cases with ⟨rfl,_⟩ | ⟨t,full,rfl⟩ | ⟨id',ep,off,cap,sz',azs,epo,fl,rfl,ho,_⟩
 ·cases hid
 ·cases hid
 ·injection hid with hid; subst hid; exact (List.getElem?_eq_some_iff.1 ho).1
theorem SlOf.keeps {M : Nat → Prop} (h : SlOf σ sz v es) (hk : Keeps M σ σ') (hm : ∀ id,v.sid = some id → ¬ M id) : SlOf σ' sz v es :=
 h.keep fun id hid => hk.2 id (h.lt hid) (hm id hid)
theorem SlOf.addr (h : SlOf σ sz v es) {i : Nat} (hi : i < es.length) (k : IntKind) : iaddrV sz v (.int k i) = some (addrOf sz v i) ∧ behind σ (addrOf sz v i) = some ((es[i]).cells,0) := by
 rcases h.cases with ⟨rfl,rfl⟩ | ⟨t,full,rfl⟩ | ⟨id,ep,off,cap,sz',azs,epo,fl,rfl,ho,hf,he,hl,hcp⟩
 ·simp at hi
 ·simp [addrOf,iaddrV,List.getElem?_eq_getElem hi]
 ·have h2 : off + i < azs.length := by have := hl (by omega); omega
  have h3 : es[i] = azs[off + i] := by
   have h4 : es[i]? = azs[off + i]? := by rw [he,List.getElem?_take_of_lt hi,List.getElem?_drop]
   rw [List.getElem?_eq_getElem hi,List.getElem?_eq_getElem h2] at h4
   exact Option.some.inj h4
  simp [addrOf,iaddrV,hi,ho,hf,List.getElem?_eq_getElem h2,h3]
theorem SlOf.iaddr (h : SlOf σ sz v es) {i : Nat} (hi : i < es.length) (k : IntKind) : iaddrV sz v (.int k i) = some (addrOf sz v i) := (h.addr hi k).1
theorem SlOf.load (h : SlOf σ sz v es) {i : Nat} (hi : i < es.length) (n : Nat) (agg : Bool) : loadV σ n agg (addrOf sz v i) = ld (es[i]).cells 0 n agg := by
 simp only [loadV,(h.addr hi .i64).2]
theorem SlOf.load1 (h : SlOf σ sz v es) {i : Nat} (hi : i < es.length) (h1 : (es[i]).one = true) (n : Nat) : loadV σ n false (addrOf sz v i) = some es[i] := by
 rw [h.load hi]
 cases he : es[i] <;> simp_all [AVal.one]
theorem SlOf.sub (h : SlOf σ sz v es) {lo hi : Nat} (h1 : lo ≤ hi) (h2 : hi ≤ es.length) (k j : IntKind) : ∃ v',sliceV sz v (some (.int k lo)) (some (.int j hi)) none = some v' ∧ SlOf σ sz v' ((es.take hi).drop lo) ∧ (∀ id,v'.sid = some id → v.sid = some id) := by
 rcases h.cases with ⟨rfl,rfl⟩ | ⟨t,full,rfl⟩ | ⟨id,ep,off,cap,sz',azs,epo,fl,rfl,ho,hf,he,hl,hcp⟩
 ·have : hi = 0 := by simpa using h2
  subst this
  have : lo = 0 := by omega
  subst this
  exact ⟨.nilslice,by simp,by simpa using SlOf.nil σ sz,fun id h => by cases h⟩
 ·refine ⟨.fslice t (full && hi == es.length) sz ((es.take hi).drop lo),?_,SlOf.fs _ _ _ _ _,fun id h => by cases h⟩
  have e1 : (0 : Int) ≤ (lo : Int) ∧ (lo : Int) ≤ (hi : Int) := by omega
  have e2 : (0 : Int) ≤ (hi : Int) ∧ (hi : Int) ≤ (es.length : Int) := by omega
  simp [sliceV,e1,e2]
 ·refine ⟨.slice sz id ep (off + lo) (hi - lo) (cap.map (· - lo)),?_,⟨?_,?_,?_⟩,fun i hid => by simpa [AVal.sid] using hid⟩
  ·have e1 : (0 : Int) ≤ (lo : Int) ∧ (lo : Int) ≤ (hi : Int) := by omega
   have e2 : (0 : Int) ≤ (hi : Int) ∧ (hi : Int) ≤ (es.length : Int) := by omega
   have e3 : (0 : Int) ≤ (hi : Int) ∧ (hi : Int) ≤ ((cap.getD es.length : Nat) : Int) := by omega
   simp [sliceV,e1,e2,e3]
  ·simp only [elems,ho,hf,and_self,if_true]
   congr 1
   conv => rhs; rw [he]
   rw [List.take_take,Nat.min_eq_left h2,List.drop_take,List.drop_drop]
  ·simp [lenSV]; omega
  ·intro s id' ep' off' len c hc
   injection hc with _ _ _ _ e5 e6
   cases cap with
   | none => cases e6
   | some c' =>
    simp only [Option.map_some,Option.some.injEq] at e6
    simp only [Option.getD_some] at hcp
    omega
theorem SlOf.sub_hi (h : SlOf σ sz v es) {hi : Nat} (h1 : hi ≤ es.length) (k : IntKind) : ∃ v',sliceV sz v none (some (.int k hi)) none = some v' ∧ SlOf σ sz v' (es.take hi) ∧ (∀ id,v'.sid = some id → v.sid = some id) := by
 obtain ⟨v',h2,h3,h4⟩ := h.sub (Nat.zero_le hi) h1 .i64 k
 refine ⟨v',?_,by simpa using h3,h4⟩
 rw [← h2]
 rcases h.cases with ⟨rfl,rfl⟩ | ⟨t,full,rfl⟩ | ⟨id,ep,off,cap,sz',azs,epo,fl,rfl,ho,hf,he,hl,hcp⟩ <;> simp [sliceV]
structure Own (σ : Store) (sz : Nat) (v : AVal) (es : List AVal) : Prop where
 own : (v = .nilslice ∧ es = []) ∨ (∃ t,v = .fslice t true sz es) ∨
  ∃ id ep off cap azs' epo fl,v = .slice sz id ep off es.length cap ∧ σ[id]? = some (.arr sz azs' epo fl) ∧ fl ≤ ep ∧ es = (azs'.drop off).take es.length ∧ (0 < es.length → off + es.length ≤ azs'.length) ∧
   ((cap = none ∧ off = 0 ∧ azs' = es ∧ epo = ep) ∨ cap = some es.length)
theorem Own.nil (σ : Store) (sz : Nat) : Own σ sz .nilslice [] := ⟨.inl ⟨rfl,rfl⟩⟩
theorem Own.lit (σ : Store) (sz t : Nat) (es : List AVal) : Own σ sz (.fslice t true sz es) es := ⟨.inr (.inl ⟨t,rfl⟩)⟩
theorem Own.whole {σ : Store} {sz id ep fl : Nat} {es : List AVal} (h : σ[id]? = some (.arr sz es ep fl)) (hf : fl ≤ ep) : Own σ sz (.slice sz id ep 0 es.length none) es :=
 ⟨.inr (.inr ⟨id,ep,0,none,es,ep,fl,rfl,h,hf,by simp,fun _ => by simp,.inl ⟨rfl,rfl,rfl,rfl⟩⟩)⟩
theorem Own.sl (h : Own σ sz v es) : SlOf σ sz v es := by
 rcases h.own with ⟨rfl,rfl⟩ | ⟨t,rfl⟩ | ⟨id,ep,off,cap,xs,epo,fl,rfl,ho,hf,he,hl,hc⟩
 ·exact SlOf.nil _ _
 ·exact SlOf.fs _ _ _ _ _
 ·refine ⟨by simp [ho,hf]; exact he.symm,rfl,fun s id' ep' off' len c hc' => ?_⟩
  injection hc' with _ _ _ _ e5 e6
  rcases hc with ⟨rfl,_⟩ | rfl
  ·cases e6
  ·injection e6 with e6; omega
theorem Own.keep (h : Own σ sz v es) (hk : ∀ id,v.sid = some id → σ'[id]? = σ[id]?) : Own σ' sz v es := by
 rcases h.own with ⟨rfl,rfl⟩ | ⟨t,rfl⟩ | ⟨id,ep,off,cap,xs,epo,fl,rfl,ho,hr⟩
 ·exact ⟨.inl ⟨rfl,rfl⟩⟩
 ·exact ⟨.inr (.inl ⟨t,rfl⟩)⟩
 ·exact ⟨.inr (.inr ⟨id,ep,off,cap,xs,epo,fl,rfl,by rw [hk id rfl]; exact ho,hr⟩)⟩
theorem Own.keeps {M : Nat → Prop} (h : Own σ sz v es) (hk : Keeps M σ σ') (hm : ∀ id,v.sid = some id → ¬ M id) : Own σ' sz v es :=
 h.keep fun id hid => hk.2 id (h.sl.lt hid) (hm id hid)
theorem Own.grow (h : Own σ sz v es) (hk : Grows σ σ') : Own σ' sz v es := h.keeps hk fun _ _ h => h
def NoLit : AVal → Prop
 | .fslice _ _ _ es => es = []
 | .slice _ _ _ _ _ (some _) => False
 | _ => True
theorem Own.append (h : Own σ sz v es) (ys : List AVal) (bytes : Nat) (hb : (es.length + ys.length) * bytes ≤ 70368744177664) :
  ∃ v' σ',appendV σ sz bytes v ys = some (v',σ') ∧ Own σ' sz v' (es ++ ys) ∧ Keeps (fun i => v.sid = some i) σ σ' ∧ (∀ id,v'.sid = some id → v.sid = some id ∨ id = σ.length) ∧ (NoLit v ∨ ys ≠ [] → NoLit v') := by
 cases ys with
 | nil =>
  refine ⟨v,σ,?_,by simpa using h,Keeps.refl _ _,fun id h => .inl h,fun h => h.resolve_right (fun h => h rfl)⟩
  rcases h.own with ⟨rfl,rfl⟩ | ⟨t,rfl⟩ | ⟨id,ep,off,cap,xs,epo,fl,rfl,_⟩ <;> simp
 | cons y ys =>
  have hb' : (es.length + (y :: ys).length) * bytes ≤ apLim := hb
  have new : ∀ zs : List AVal,zs = es ++ y :: ys → Own (σ ++ [.arr sz zs 0 0]) sz (.slice sz σ.length 0 0 zs.length none) (es ++ y :: ys) := fun zs hz => by
   subst hz; exact Own.whole (by simp) (Nat.le_refl 0)
  have frs : ∀ {len : Nat} (id : Nat),(AVal.slice sz σ.length 0 0 len none).sid = some id → v.sid = some id ∨ id = σ.length := fun id h => .inr (by simpa [AVal.sid] using h.symm)
  rcases h.own with ⟨rfl,rfl⟩ | ⟨t,rfl⟩ | ⟨id,ep,off,cap,xs,epo,fl,rfl,ho,hf,he,hl,hc⟩
  ·refine ⟨.slice sz σ.length 0 0 (y :: ys).length none,σ ++ [.arr sz (y :: ys) 0 0],?_,new _ rfl,(Grows.app _ _).any,frs,fun _ => trivial⟩
   simp only [List.length_nil,Nat.zero_add] at hb'
   simp only [appendV,growV,List.isEmpty_cons,Bool.false_eq_true,if_false,if_pos hb']
  ·refine ⟨.slice sz σ.length 0 0 (es ++ y :: ys).length none,σ ++ [.arr sz (es ++ y :: ys) 0 0],?_,new _ rfl,(Grows.app _ _).any,frs,fun _ => trivial⟩
   simp only [appendV,growV,List.isEmpty_cons,Bool.false_eq_true,if_false,hb',and_self,if_true,List.length_append]
  ·rcases hc with ⟨rfl,rfl,rfl,rfl⟩ | rfl
   ·refine ⟨.slice sz id (epo + 1) 0 (xs ++ y :: ys).length none,σ.set id (.arr sz (xs ++ y :: ys) (epo + 1) fl),?_,Own.whole (by rw [List.getElem?_set_self (List.getElem?_eq_some_iff.1 ho).1]) (by omega),(Keeps.set _ _ _).mono fun i _ h => by rw [h]; rfl,fun i h => .inl (by simpa [AVal.sid] using h),fun _ => trivial⟩
    have e1 : (Option.none.getD (xs.length - 0)) < xs.length + (y :: ys).length := by simp
    simp only [appendV,growV,List.isEmpty_cons,Bool.false_eq_true,if_false,ho,hb',hf,and_self,if_true,e1,List.length_append]
   ·have ht : ((xs.drop off).take es.length ++ y :: ys) = es ++ y :: ys := by rw [← he]
    refine ⟨.slice sz σ.length 0 0 (es ++ y :: ys).length none,σ ++ [.arr sz (es ++ y :: ys) 0 0],?_,new _ rfl,(Grows.app _ _).any,frs,fun _ => trivial⟩
    have e1 : ((some es.length).getD (xs.length - off)) < es.length + (y :: ys).length := by simp
    simp only [appendV,growV,List.isEmpty_cons,Bool.false_eq_true,if_false,ho,hb',hf,and_self,if_true,e1,ht,List.length_append]
theorem Own.store (h : Own σ sz v es) (hn : NoLit v) {i : Nat} (hi : i < es.length) {x : AVal} (hx : x.cells.all AVal.one = true) (hxl : x.cells.length = sz) (hel : (es[i]).cells.length = sz) (hre : (es[i]).reform x.cells = x) :
  ∃ σ',storeV σ sz (addrOf sz v i) x = some σ' ∧ Own σ' sz v (es.set i x) ∧ Keeps (fun j => v.sid = some j) σ σ' ∧ σ'.length = σ.length := by
 rcases h.own with ⟨rfl,rfl⟩ | ⟨t,rfl⟩ | ⟨id,ep,off,cap,xs,epo,fl,rfl,ho,hf,he,hl,hc⟩
 ·simp at hi
 ·have : es = [] := hn
  subst this; simp at hi
 ·rcases hc with ⟨rfl,rfl,rfl,rfl⟩ | rfl
  ·have ha : addrOf sz (.slice sz id epo 0 xs.length none) i = .eptr id epo i 0 := by
    have e : (0 : Int) ≤ (i : Int) ∧ (i : Int) < (xs.length : Int) := by omega
    simp [addrOf,iaddrV,e]
   have hsp : splice (xs[i]).cells 0 x.cells = x.cells := by
    simp only [splice,List.take_zero,List.nil_append,Nat.zero_add]
    rw [List.drop_eq_nil_of_le (by omega),List.append_nil]
   refine ⟨σ.set id (.arr sz (xs.set i x) epo epo),?_,?_,(Keeps.set _ _ _).mono fun j _ h => by rw [h]; rfl,by simp⟩
   ·rw [ha]
    simp only [storeV,hxl,hx,and_self,if_true,ho,List.getElem?_eq_getElem hi,hsp,hre,Nat.zero_add]
    rw [if_pos ⟨trivial,by omega⟩]
   ·have := Own.whole (σ := σ.set id (.arr sz (xs.set i x) epo epo)) (sz := sz) (id := id) (ep := epo) (fl := epo) (es := xs.set i x) (by rw [List.getElem?_set_self (List.getElem?_eq_some_iff.1 ho).1]) (Nat.le_refl _)
    simpa using this
  ·exact hn.elim
end
def Fresh (n : Nat) (v : AVal) : Prop := ∀ id,v.sid = some id → n ≤ id
theorem Fresh.le {n m : Nat} {v : AVal} (h : Fresh n v) (hm : m ≤ n) : Fresh m v := fun id hid => Nat.le_trans hm (h id hid)
theorem Fresh.nil (n : Nat) : Fresh n .nilslice := fun id h => by cases h
structure ORows (σ : Store) (lo sz : Nat) (l : AVal) (es : List AVal) (ps : List (List AVal)) : Prop where
 row : Own σ 1 l es
 len : es.length = ps.length
 one : ∀ (i : Nat) (e : AVal) (p : List AVal),es[i]? = some e → ps[i]? = some p → Own σ sz e p
 frs : ∀ (i : Nat) (e : AVal),es[i]? = some e → Fresh lo e
 frl : Fresh lo l
 apart : ∀ (i j : Nat) (e e' : AVal) (id : Nat),es[i]? = some e → es[j]? = some e' → e.sid = some id → e'.sid = some id → i = j
 off : ∀ (i : Nat) (e : AVal) (id : Nat),es[i]? = some e → e.sid = some id → l.sid ≠ some id
 lit : ∀ (i : Nat) (e : AVal),es[i]? = some e → NoLit e
 litl : NoLit l
theorem ORows.nil (σ : Store) (lo sz : Nat) : ORows σ lo sz .nilslice [] [] :=
 ⟨Own.nil _ _,rfl,fun i e p h => by simp at h,fun i e h => by simp at h,Fresh.nil _,fun i j e e' id h => by simp at h,fun i e id h => by simp at h,fun i e h => by simp at h,trivial⟩
theorem ORows.lt {σ : Store} {lo sz : Nat} {l : AVal} {es : List AVal} {ps : List (List AVal)} (h : ORows σ lo sz l es ps) {i : Nat} {e : AVal} (hi : es[i]? = some e) {id : Nat} (hid : e.sid = some id) : id < σ.length := by
 have hlt := (List.getElem?_eq_some_iff.1 hi).1
 have := h.one i e (ps[i]'(by rw [← h.len]; exact hlt)) hi (List.getElem?_eq_getElem _)
 exact this.sl.lt hid
theorem ORows.grow {σ σ' : Store} {lo sz : Nat} {l : AVal} {es : List AVal} {ps : List (List AVal)} (h : ORows σ lo sz l es ps) (g : Grows σ σ') : ORows σ' lo sz l es ps :=
 ⟨h.row.grow g,h.len,fun i e p h1 h2 => (h.one i e p h1 h2).grow g,h.frs,h.frl,h.apart,h.off,h.lit,h.litl⟩
theorem ORows.push {σ σ1 : Store} {lo sz : Nat} {l : AVal} {es : List AVal} {ps : List (List AVal)} (h : ORows σ lo sz l es ps) (hlo : lo ≤ σ.length) (g : Grows σ σ1) {e : AVal} {p : List AVal} (he : Own σ1 sz e p) (fe : Fresh σ.length e) (le : NoLit e)
  (bytes : Nat) (hb : (es.length + 1) * bytes ≤ 70368744177664) :
  ∃ l' σ2,appendV σ1 1 bytes l [e] = some (l',σ2) ∧ ORows σ2 lo sz l' (es ++ [e]) (ps ++ [p]) ∧ Keeps (fun i => lo ≤ i) σ1 σ2 := by
 obtain ⟨l',σ2,h1,h2,h3,h4,h5⟩ := (h.row.grow g).append [e] bytes hb
 have old : ∀ (i : Nat) (x : AVal),(es ++ [e])[i]? = some x → (es[i]? = some x ∧ i < es.length) ∨ (i = es.length ∧ x = e) := by
  intro i x hx
  rw [List.getElem?_append] at hx
  split at hx
  ·rename_i hlt; exact .inl ⟨hx,hlt⟩
  ·rename_i hlt
   rw [List.getElem?_singleton] at hx
   split at hx
   ·injection hx with hx; exact .inr ⟨by omega,hx.symm⟩
   ·cases hx
 have hll : ∀ id,l.sid = some id → id < σ.length := fun id hid => h.row.sl.lt hid
 have hx1 : ∀ (i : Nat) (x : AVal) (id : Nat),(es ++ [e])[i]? = some x → x.sid = some id → id < σ1.length ∧ l.sid ≠ some id := by
  intro i x id hx hid
  rcases old i x hx with ⟨hx,_⟩ | ⟨_,rfl⟩
  ·exact ⟨Nat.lt_of_lt_of_le (h.lt hx hid) g.1,h.off i x id hx hid⟩
  ·exact ⟨he.sl.lt hid,fun hl => by have := fe id hid; have := hll id hl; omega⟩
 refine ⟨l',σ2,h1,⟨h2,by simp [h.len],?_,?_,?_,?_,?_,?_,h5 (.inr (by simp))⟩,h3.mono fun i hi hs => h.frl i hs⟩
 ·intro i x q hx hq
  refine Own.keeps (σ := σ1) ?_ h3 fun id hid => (hx1 i x id hx hid).2
  rcases old i x hx with ⟨hx,hlt⟩ | ⟨rfl,rfl⟩
  ·rw [List.getElem?_append_left (by rw [← h.len]; exact hlt)] at hq
   exact (h.one i x q hx hq).grow g
  ·rw [h.len,List.getElem?_append_right (Nat.le_refl _),Nat.sub_self] at hq
   simp at hq; subst hq; exact he
 ·intro i x hx
  rcases old i x hx with ⟨hx,_⟩ | ⟨_,rfl⟩
  ·exact h.frs i x hx
  ·exact fe.le hlo
 ·intro id hid
  rcases h4 id hid with hh | hh
  ·exact h.frl id hh
  ·have := g.1; omega
 ·intro i j x y id hx hy hxi hyi
  rcases old i x hx with ⟨hx',hil⟩ | ⟨hi,hxe⟩ <;> rcases old j y hy with ⟨hy',hjl⟩ | ⟨hj,hye⟩
  ·exact h.apart i j x y id hx' hy' hxi hyi
  ·rw [hye] at hyi; have := h.lt hx' hxi; have := fe id hyi; omega
  ·rw [hxe] at hxi; have := h.lt hy' hyi; have := fe id hxi; omega
  ·omega
 ·intro i x id hx hid hl
  obtain ⟨k1,k2⟩ := hx1 i x id hx hid
  rcases h4 id hl with hh | hh
  ·exact k2 hh
  ·omega
 ·intro i x hx
  rcases old i x hx with ⟨hx,_⟩ | ⟨_,rfl⟩
  ·exact h.lit i x hx
  ·exact le
def B (bs : List UInt8) : List AVal := bs.map fun b => .int .u8 b.toNat
structure SRows (σ : Store) (sz : Nat) (l : AVal) (es : List AVal) (ps : List (List AVal)) : Prop where
 row : SlOf σ 1 l es
 len : es.length = ps.length
 one : ∀ (i : Nat) (e : AVal) (p : List AVal),es[i]? = some e → ps[i]? = some p → SlOf σ sz e p
theorem SRows.grow {σ σ' : Store} {sz : Nat} {l : AVal} {es : List AVal} {ps : List (List AVal)} (h : SRows σ sz l es ps) (g : Grows σ σ') : SRows σ' sz l es ps :=
 ⟨h.row.grow g,h.len,fun i e p h1 h2 => (h.one i e p h1 h2).grow g⟩
theorem SlOf.one {σ : Store} {sz : Nat} {v : AVal} {es : List AVal} (h : SlOf σ sz v es) : v.one = true := by
 rcases h.cases with ⟨rfl,rfl⟩ | ⟨t,full,rfl⟩ | ⟨id,ep,off,cap,sz',xs,epo,fl,rfl,_⟩ <;> rfl
theorem SRows.at {σ : Store} {sz : Nat} {l : AVal} {es : List AVal} {ps : List (List UInt8)} (h : SRows σ sz l es (ps.map B)) {i : Nat} (hi : i < ps.length) :
  ∃ e,iaddrV 1 l (.int .i64 i) = some (addrOf 1 l i) ∧ loadV σ 1 false (addrOf 1 l i) = some e ∧ SlOf σ sz e (B (ps[i])) := by
 have hl : i < es.length := by rw [h.len]; simpa using hi
 have ho := h.one i es[i] (B ps[i]) (List.getElem?_eq_getElem hl) (by simp [List.getElem?_eq_getElem hi])
 exact ⟨es[i],h.row.iaddr hl .i64,h.row.load1 hl ho.one 1,ho⟩
theorem SRows.take {σ : Store} {sz : Nat} {l : AVal} {es : List AVal} {ps : List (List AVal)} (h : SRows σ sz l es ps) {n : Nat} (hn : n ≤ ps.length) (k : IntKind) :
  ∃ l',sliceV 1 l none (some (.int k n)) none = some l' ∧ SRows σ sz l' (es.take n) (ps.take n) := by
 obtain ⟨l',h1,h2,_⟩ := h.row.sub_hi (hi := n) (by rw [h.len]; exact hn) k
 refine ⟨l',h1,h2,by simp [h.len],fun i e p he hp => ?_⟩
 rw [List.getElem?_take] at he hp
 split at he
 ·rename_i hi
  rw [if_pos hi] at hp
  exact h.one i e p he hp
 ·cases he
end Go.Proofs.YtbbekbjcmnopjaaGreatDoor.Am
