/-
  The abstract machine and the functions of the law, 6: texts put together.
-/
import Derived.Test.YtelpjaejmneplaaGreatDoorReachNeededPkE
import Derived.Test.YtelpjaejmneplaaGreatDoorReachNeededPkC
import Derived.Test.YtelpjaejmneplaaGreatDoorReachNeededPkD
import Derived.Test.YtelpjaejmneplaaGreatDoorProg
import Derived.Test.YtelpjaejmneplaaGreatDoorReachNeededPkB
set_option linter.unusedVariables false
set_option linter.unusedSimpArgs false
set_option linter.unusedSectionVars false
set_option maxRecDepth 100000
namespace Go.Proofs.YtelpjaejmneplaaGreatDoor.Am
open Go Go.Proofs Go.RowKit Go.Maps Go.Sort Go.Shelf
def decNm : Value → Nm
 | .agg a => match a.toList with
  | [Value.int _ x, Value.int _ y] => (x, y)
  | _ => (0, 0)
 | _ => (0, 0)
theorem natSF_ok {cfg : Cfg} (hc : ∀ f, cfg.conc f = f) : NatOk Tryz.prog cfg 93 (natSF 140 95) := by
 intro args σ v σ' h
 rw [hc]
 refine ⟨⟨_, Tryz.func93, by decide, rfl⟩, ?_⟩
 obtain ⟨id, m, ks, ns, rfl, h1, h2, h3, hlen, h4⟩ := natSF_cases h
 intro E κ cargs hσ hR ha r w hw
 subst hσ
 cases ha with
 | cons _ _ _ _ _ a1 a2 =>
 cases a2 with
 | cons _ _ _ _ _ a2 a3 =>
 cases a3
 cases a2 with
 | func _ _ _ _ us us' b1 b2 =>
 cases b1; cases b2
 cases a1 with
 | func _ _ _ _ us us' b1 b2 =>
 cases b1
 cases b2 with
 | cons _ _ _ _ _ b1 b2 =>
 cases b2
 cases b1 with
 | ptr _ _ _ b hp =>
 obtain ⟨⟨_, hpd⟩, rfl⟩ := hp
 obtain ⟨hc1, vs, e, hb1, hvl⟩ := hR.obj id _ h1 hpd
 obtain ⟨cm, rfl, hm⟩ : ∃ cm, vs = #[cm] ∧ κ.V E cfg.conc m cm := by
  obtain ⟨l⟩ := vs
  cases hvl with
  | cons _ _ _ _ _ hv hl => cases hl; exact ⟨_, rfl, hv⟩
 obtain ⟨mb, es, clock, rfl, hmb, hkeys, hB⟩ := keysOf_ok hR hm h2
 have hks := nmsOf_eq h3
 subst hks
 have hke := nms_V hkeys
 have hel : es.size = ns.length := by
  have := congrArg List.length hke
  simpa using this
 obtain ⟨hwh, hwo, hwu⟩ := hw
 have hloc : κ.loc id < w.heap.size := by rw [hwh]; exact hR.hi id (K.live_of h1 hpd)
 have hcell : w.cell? ⟨κ.loc id, 0, none⟩ = some (.map (some mb)) := by rw [cellAt_eq, hwh]; simp [cellAt, hb1]
 have con := sorted_nm (κ.loc id) mb es clock w hloc hcell (by rw [hwh]; exact hmb) hB (fun e he => by
  have : e.key ∈ es.toList.map (·.key) := List.mem_map.2 ⟨e, he, rfl⟩
  rw [hke] at this
  obtain ⟨n, _, hn⟩ := List.mem_map.1 this
  exact ⟨n, hn.symm⟩) (by rw [hel]; exact hlen)
 rw [hc, hc]
 refine Calls.mono con ?_
 rintro e w' ⟨v0, ns', rfl, hperm, hrow, hnil, hbel⟩
 simp only
 have hs : κ.h.size ≤ w'.heap.size := by rw [← hwh]; exact hbel.size
 have hh : ∀ b, b < κ.h.size → w'.heap[b]? = κ.h[b]? := fun b hb => by rw [← hwh]; exact hbel.block b (by rw [hwh]; exact hb)
 have hns : ns'.Perm ns := by
  rw [hke] at hperm
  have h := hperm.map decNm
  have e : ∀ l : List Nm, (l.map encNm).map decNm = l := fun l => by
   rw [List.map_map, show decNm ∘ encNm = _root_.id from funext fun a => rfl, List.map_id]
  have e' : (ns.map fun n => (Value.agg #[.int .i64 n.1, .int .i64 n.2])).map decNm = ns := e ns
  rw [e, e'] at h
  exact h
 rcases h4 with ⟨rfl, rfl, rfl⟩ | ⟨hne, rfl, rfl⟩
 ·have e0 : ns' = [] := List.perm_nil.1 hns
  rw [hnil.2 e0]
  exact ⟨κ.more w'.heap, ⟨rfl, hbel.os.trans hwo, hbel.output.trans hwu⟩, rfl, K.more_le hR hs hh, K.more_R hR hs hh, .nilslice _⟩
 ·have hso : sortN ns' = sortN ns := up_one (sortN_up _) (sortN_up _) ((sortN_perm _).trans (hns.trans (sortN_perm _).symm))
  have hl' := hns.length_eq
  rcases hrow.2 with ⟨e1, _⟩ | ⟨g, cap, cur, rfl, hg, hgb, c1, c2, c3, c4⟩
  ·have := hnil.1 e1
   subst this
   exact (hne (List.nil_perm.1 hns)).elim
  ·have htake : cur.toList = (sortN ns).flatMap nmCells ++ cur.toList.drop (ns'.length * 2) := by
    rw [← hso, ← c4, List.take_append_drop]
   obtain ⟨k1, k2⟩ := farArr_ok (es := (sortN ns).map nmV) hR hs hh (by rw [← hwh]; exact hg) hgb htake (by decide) (nms_elems _) (nms_VL _) (by simp [sortN_len]; omega) c3
   refine ⟨_, ⟨rfl, hbel.os.trans hwo, hbel.output.trans hwu⟩, rfl, K.far_le hR hs hh g (by rw [← hwh]; exact hg) _, k1, ?_⟩
   rw [hl']
   simpa [sortN_len] using k2
theorem natMC_ok {cfg : Cfg} (hc : ∀ f, cfg.conc f = f) : NatOk Tryz.prog cfg 142 natMC := by
 intro args σ v σ' h
 rw [hc]
 refine ⟨⟨_, Tryz.func142, by decide, rfl⟩, ?_⟩
 obtain ⟨m, ks, vs, rfl, h1, rfl, rfl⟩ := natMC_cases h
 intro E κ cargs hσ hR ha r w hw
 subst hσ
 cases ha with
 | cons _ _ _ _ _ a1 a2 =>
 cases a2
 obtain ⟨b, es, clock, rfl, hb, hk, hv, hB⟩ := kvOf_ok hR a1 h1
 obtain ⟨hwh, hwo, hwu⟩ := hw
 refine Calls.mono (AnyW.maps_Clone cloneNm b es clock w (by rw [hwh]; exact hb)) ?_
 rintro e w' ⟨rfl, rfl⟩
 simp only
 refine ⟨κ.new (.map es clock) (.map ks vs), ⟨by simp [World.alloc, K.new, hwh], hwo, hwu⟩, by simp [K.new], K.new_le hR _ _,
  K.new_R hR _ _ ⟨es, clock, by simp [K.new], K.VL.le hR.lb (K.new_le hR _ _) hk, K.VL.le hR.lb (K.new_le hR _ _) hv, hB⟩, ?_⟩
 rw [hwh]
 exact .map _ _ _ ⟨⟨⟨ks, vs, by simp [K.new]⟩, hR.fresh⟩, by simp [K.new]⟩
theorem rorder_nm (x y : Nm) (W : World) : Calls Tryz.prog 117 #[encNm x, encNm y] W fun e w' => e = .returned (.int .i64 (ordF x y)) ∧ ∃ q os', w' = grow (W.drewN q) os' := by
 have h := less_nm x y
 go_enter Tryz.func117, Tryz.ntmps117
 obtain ⟨W1, hW1⟩ : ∃ W1, (W.alloc (.cells #[.int .i64 x.1, .int .i64 x.2] 49)).alloc (.cells #[.int .i64 y.1, .int .i64 y.2] 49) = W1 := ⟨_, rfl⟩
 have b0 : W.heap.size < W1.heap.size := by rw [← hW1]; simp; omega
 have b1 : W.heap.size + 1 < W1.heap.size := by rw [← hW1]; simp
 have c0 : W1.cell? ⟨W.heap.size, 0, none⟩ = some (.int .i64 x.1) := by rw [← hW1]; simp [go_sem]
 have c1 : W1.cell? ⟨W.heap.size, 1, none⟩ = some (.int .i64 x.2) := by rw [← hW1]; simp [go_sem]
 have c2 : W1.cell? ⟨W.heap.size + 1, 0, none⟩ = some (.int .i64 y.1) := by rw [← hW1]; simp [go_sem]
 have c3 : W1.cell? ⟨W.heap.size + 1, 1, none⟩ = some (.int .i64 y.2) := by rw [← hW1]; simp [go_sem]
 go_wp2_with (go_at_call 81; rw [hW1])
 refine (h _).mono ?_
 rintro e w' ⟨rfl, hE⟩
 have d0 : w'.cell? ⟨W.heap.size, 0, none⟩ = some (.int .i64 x.1) := by obtain ⟨q, os', rfl⟩ := hE; exact cell_grow (w := W1.drewN q) c0 b0
 have d1 : w'.cell? ⟨W.heap.size, 1, none⟩ = some (.int .i64 x.2) := by obtain ⟨q, os', rfl⟩ := hE; exact cell_grow (w := W1.drewN q) c1 b0
 have d2 : w'.cell? ⟨W.heap.size + 1, 0, none⟩ = some (.int .i64 y.1) := by obtain ⟨q, os', rfl⟩ := hE; exact cell_grow (w := W1.drewN q) c2 b1
 have d3 : w'.cell? ⟨W.heap.size + 1, 1, none⟩ = some (.int .i64 y.2) := by obtain ⟨q, os', rfl⟩ := hE; exact cell_grow (w := W1.drewN q) c3 b1
 have hF : ∃ q os', w' = grow (W.drewN q) os' := by
  obtain ⟨q, os', rfl⟩ := hE
  rw [← hW1, alloc_eq_grow, alloc_eq_grow, grow_grow]
  exact ⟨q, _, (grow_grow (W.drewN q) _ os')⟩
 clear hE hW1
 go_wp2
 all_goals go_ret
 all_goals refine ⟨?_, hF⟩
 all_goals show Ending.returned (Value.int .i64 _) = Ending.returned (Value.int .i64 _)
 all_goals congr 2
 all_goals (unfold ordF; simp [*, Prod.ext_iff])
theorem nms_us {cf : FuncId → FuncId} {h : Array Obj} {S : Nat → Nat → Prop} {I : Ids} : ∀ {ns : List Nm} {us : List Value}, VRelL cf h S I ((ns.map nmV).flatMap AVal.cells) us → us = ns.flatMap nmCells
 | [], _, h => by cases h; rfl
 | n :: r, us, h => by
  rw [List.map_cons, List.flatMap_cons] at h
  have e : (nmV n).cells = [.int .i64 n.1, .int .i64 n.2] := rfl
  rw [e] at h
  simp only [List.cons_append, List.nil_append] at h
  cases h with
  | cons _ _ _ _ _ a h =>
  cases a
  cases h with
  | cons _ _ _ _ _ b h =>
  cases b
  rw [nms_us h]; rfl
theorem natSO_ok {cfg : Cfg} (hc : ∀ f, cfg.conc f = f) : NatOk Tryz.prog cfg 116 (natSO 117) := by
 intro args σ v σ' h
 rw [hc]
 refine ⟨⟨_, Tryz.func116, by decide, rfl⟩, ?_⟩
 intro E κ cargs hσ hR ha r w hw
 subst hσ
 have eo : ∀ args w, (callFunc 117 args).run Tryz.prog w = .ok (.enter 117 args) w := enters_of Tryz.func117 (by kernel_rfl) rfl
 obtain ⟨hwh, hwo, hwu⟩ := hw
 rcases natSO_cases h with ⟨id, ep, ns, fl, rfl, h1, hpos, hlen, rfl, rfl⟩ | ⟨rfl, rfl, rfl⟩
 ·cases ha with
  | cons _ _ _ _ _ a1 a2 =>
  cases a2 with
  | cons _ _ _ _ _ a2 a3 =>
  cases a3
  cases a2 with
  | func _ _ _ _ us us' b1 b2 =>
  cases b1; cases b2
  cases a1 with
  | slice _ _ _ _ _ _ _ b o cap hp =>
  obtain ⟨⟨hlc, hpd⟩, -, h0, es, epo, fl', hid, hep, hat⟩ := hp
  rw [h1] at hid
  cases hid
  obtain ⟨q1, q2, q3, vs, e, us, rest, hb, hvs, hl⟩ := hR.obj id _ h1 hpd
  obtain ⟨-, hAt, hwhole⟩ := hat q1
  have hone : b = κ.loc id ∧ o = 0 := by
   rcases hAt with ⟨e1, e2 | e2⟩ | ⟨e1, _⟩
   ·exact ⟨e1, by simpa using e2⟩
   ·omega
   ·omega
  obtain ⟨rfl, rfl⟩ := hone
  have hus := nms_us hl
  subst hus
  have hul : (ns.flatMap nmCells).length = ns.length * 2 := by
   have := flat_length q3
   have e : (ns.map nmV).flatMap AVal.cells = ns.flatMap fun n => (nmV n).cells := by rw [List.flatMap_map]
   have h2 := VL_len hl
   rw [this, List.length_map] at h2
   exact h2.symm
  have hwb : w.heap[κ.loc id]? = some (.cells vs e (0, 0)) := by rw [hwh]; exact hb
  have htk : vs.toList.take (ns.length * 2) = ns.flatMap nmCells := by rw [hvs, ← hul, List.take_left]
  have hH : HoldsK nmCells 2 w (κ.loc id) 0 ns.toArray := holds_nm hwb htk
  have hgl : κ.loc id < w.heap.size := (Array.getElem?_eq_some_iff.1 hwb).1
  have cS := AnyQ.slices_SortFunc sortNm 2 Tryz.isAgg49 Tryz.sizeOf49 nmCells (fun _ => rfl) (fun x v hv => by simp [nmCells] at hv; rcases hv with rfl | rfl <;> rfl) ordF ordF_swo 117 #[] (κ.loc id) 0 cap ns.toArray w eo (fun _ _ _ _ x y => rorder_nm x y _) hH hgl (by simp; omega)
  change Calls Tryz.prog 116 _ _ _ at cS
  rw [List.size_toArray] at cS
  rw [hc]
  refine cS.mono ?_
  rintro e' w' ⟨rfl, d', n, os, hp, hs, rfl⟩
  simp only
  have hd := sorted_is (d := ns.toArray) (by simpa using hp) (by simpa using hs)
  have hds : d'.size = ns.length := by have := hp.1; simpa using this
  have hfs : (flatK nmCells 2 d').size = ns.length * 2 := by rw [size_flatK, hds]
  have hvsz : ns.length * 2 ≤ vs.size := by rw [← Array.length_toList, hvs, List.length_append, hul]; omega
  have hnew := heap_sortedV (n := n) (os := os) (flatK nmCells 2 d') hwb
  have hgb := grownBy_sortedV (w := w) (g := κ.loc id) (n := n) (os := os) (flatK nmCells 2 d')
  have htake := take_putCellsV vs (flatK nmCells 2 d') (by rw [hfs]; exact hvsz)
  rw [hfs, flatK_nm, hd] at htake
  have hpsz : (putCells _root_.id 0 (flatK nmCells 2 d') vs).size = vs.size := by simp [putCells]
  change (sortWorldK nmCells 2 w (κ.loc id) 0 n d' os).heap[κ.loc id]? = _ at hnew
  change w.grownBy (sortWorldK nmCells 2 w (κ.loc id) 0 n d' os) _ at hgb
  generalize sortWorldK nmCells 2 w (κ.loc id) 0 n d' os = w' at hnew hgb
  generalize putCells _root_.id 0 (flatK nmCells 2 d') vs = vs' at hnew htake hpsz
  have hle : κ.Le (κ.upd id (.cells vs' e (0, 0)) (.arr 2 ((sortN ns).map nmV) ep ep)) := by
   refine K.upd_le hR id _ _ _ h1 hpd ⟨_, ep, ep, K.upd_σ id _ _ _ h1, Nat.le_refl _, q1, by simp [sortN_len], fun _ => ⟨rfl, by simp [sortN_len], fun vs2 e2 f2 hv2 => ?_⟩, fun _ h => by omega, fun h => by omega⟩
   rw [K.upd_at hR id _ _ _ h1 hpd] at hv2
   cases hv2
   exact ⟨vs, e, (0, 0), hb, hpsz⟩
  have hRu := K.upd_R hR id (.cells vs' e (0, 0)) (.arr 2 ((sortN ns).map nmV) ep ep) _ h1 hpd hle ⟨Nat.le_refl _, q2, nms_elems _, vs', e, (sortN ns).flatMap nmCells, vs'.toList.drop (ns.length * 2), K.upd_at hR id _ _ _ h1 hpd, by rw [← htake, List.take_append_drop], nms_VL _⟩
  have hsz : (κ.upd id (.cells vs' e (0, 0)) (.arr 2 ((sortN ns).map nmV) ep ep)).h.size = w.heap.size := by simp [K.upd, hwh]
  have hs' : (κ.upd id (.cells vs' e (0, 0)) (.arr 2 ((sortN ns).map nmV) ep ep)).h.size ≤ w'.heap.size := by rw [hsz]; exact hgb.size
  have hh : ∀ b, b < (κ.upd id (.cells vs' e (0, 0)) (.arr 2 ((sortN ns).map nmV) ep ep)).h.size → w'.heap[b]? = (κ.upd id (.cells vs' e (0, 0)) (.arr 2 ((sortN ns).map nmV) ep ep)).h[b]? := fun b hb' => by
   rw [hsz] at hb'
   by_cases hbe : b = κ.loc id
   ·subst hbe
    rw [hnew, K.upd_at hR id _ _ _ h1 hpd]
   ·rw [hgb.block b hb' (fun e => hbe (by injection e))]
    simp only [K.upd]
    rw [Array.getElem?_setIfInBounds_ne (fun e => hbe e.symm), hwh]
  exact ⟨(κ.upd id (.cells vs' e (0, 0)) (.arr 2 ((sortN ns).map nmV) ep ep)).more w'.heap, ⟨rfl, hgb.os.trans hwo, hgb.output.trans hwu⟩, rfl, K.Le.trans hR.lb hle (K.more_le hRu hs' hh), K.more_R hRu hs' hh, .tuple _ [] [] (.nil _)⟩
 ·cases ha with
  | cons _ _ _ _ _ a1 a2 =>
  cases a2 with
  | cons _ _ _ _ _ a2 a3 =>
  cases a3
  cases a2 with
  | func _ _ _ _ us us' b1 b2 =>
  cases b1; cases b2
  cases a1
  rw [hc]
  refine Calls.mono (show Calls Tryz.prog 116 #[.slice none 0 0, .func (.func 117) #[] #[]] w fun e w' => e = .returned (.tuple #[]) ∧ w' = w from AnyF.slices_SortFunc_none sortNm none 0 _ w) ?_
  rintro e w' ⟨rfl, rfl⟩
  exact ⟨κ, ⟨hwh, hwo, hwu⟩, rfl, K.Le.refl _, hR, .tuple _ [] [] (.nil _)⟩
end Go.Proofs.YtelpjaejmneplaaGreatDoor.Am
namespace Go.Proofs.YtelpjaejmneplaaGreatDoor.Am.CU
open Go Go.Proofs.YtelpjaejmneplaaGreatDoor.Am
set_option maxHeartbeats 4000000
theorem ok3 : FnOk cfg Tryz.prog 3 a3 := ⟨⟨Tryz.f3, _, Tryz.func3, by decide, rfl, rfl, by kernel_rfl, by kernel_rfl⟩⟩
theorem ok8 : FnOk cfg Tryz.prog 8 a8 := ⟨⟨Tryz.f8, _, Tryz.func8, by decide, rfl, rfl, by kernel_rfl, by kernel_rfl⟩⟩
theorem ok9 : FnOk cfg Tryz.prog 9 a9 := ⟨⟨Tryz.f9, _, Tryz.func9, by decide, rfl, rfl, by kernel_rfl, by kernel_rfl⟩⟩
theorem ok10 : FnOk cfg Tryz.prog 10 a10 := ⟨⟨Tryz.f10, _, Tryz.func10, by decide, rfl, rfl, by kernel_rfl, by kernel_rfl⟩⟩
theorem ok11 : FnOk cfg Tryz.prog 11 a11 := ⟨⟨Tryz.f11, _, Tryz.func11, by decide, rfl, rfl, by kernel_rfl, by kernel_rfl⟩⟩
theorem ok12 : FnOk cfg Tryz.prog 12 a12 := ⟨⟨Tryz.f12, _, Tryz.func12, by decide, rfl, rfl, by kernel_rfl, by kernel_rfl⟩⟩
theorem ok13 : FnOk cfg Tryz.prog 13 a13 := ⟨⟨Tryz.f13, _, Tryz.func13, by decide, rfl, rfl, by kernel_rfl, by kernel_rfl⟩⟩
theorem ok14 : FnOk cfg Tryz.prog 14 a14 := ⟨⟨Tryz.f14, _, Tryz.func14, by decide, rfl, rfl, by kernel_rfl, by kernel_rfl⟩⟩
theorem ok15 : FnOk cfg Tryz.prog 15 a15 := ⟨⟨Tryz.f15, _, Tryz.func15, by decide, rfl, rfl, by kernel_rfl, by kernel_rfl⟩⟩
theorem ok16 : FnOk cfg Tryz.prog 16 a16 := ⟨⟨Tryz.f16, _, Tryz.func16, by decide, rfl, rfl, by kernel_rfl, by kernel_rfl⟩⟩
theorem ok17 : FnOk cfg Tryz.prog 17 a17 := ⟨⟨Tryz.f17, _, Tryz.func17, by decide, rfl, rfl, by kernel_rfl, by kernel_rfl⟩⟩
theorem ok18 : FnOk cfg Tryz.prog 18 a18 := ⟨⟨Tryz.f18, _, Tryz.func18, by decide, rfl, rfl, by kernel_rfl, by kernel_rfl⟩⟩
theorem ok19 : FnOk cfg Tryz.prog 19 a19 := ⟨⟨Tryz.f19, _, Tryz.func19, by decide, rfl, rfl, by kernel_rfl, by kernel_rfl⟩⟩
theorem ok20 : FnOk cfg Tryz.prog 20 a20 := ⟨⟨Tryz.f20, _, Tryz.func20, by decide, rfl, rfl, by kernel_rfl, by kernel_rfl⟩⟩
theorem ok21 : FnOk cfg Tryz.prog 21 a21 := ⟨⟨Tryz.f21, _, Tryz.func21, by decide, rfl, rfl, by kernel_rfl, by kernel_rfl⟩⟩
theorem ok22 : FnOk cfg Tryz.prog 22 a22 := ⟨⟨Tryz.f22, _, Tryz.func22, by decide, rfl, rfl, by kernel_rfl, by kernel_rfl⟩⟩
theorem ok23 : FnOk cfg Tryz.prog 23 a23 := ⟨⟨Tryz.f23, _, Tryz.func23, by decide, rfl, rfl, by kernel_rfl, by kernel_rfl⟩⟩
theorem ok26 : FnOk cfg Tryz.prog 26 a26 := ⟨⟨Tryz.f26, _, Tryz.func26, by decide, rfl, rfl, by kernel_rfl, by kernel_rfl⟩⟩
theorem ok40 : FnOk cfg Tryz.prog 40 a40 := ⟨⟨Tryz.f40, _, Tryz.func40, by decide, rfl, rfl, by kernel_rfl, by kernel_rfl⟩⟩
theorem ok55 : FnOk cfg Tryz.prog 55 a55 := ⟨⟨Tryz.f55, _, Tryz.func55, by decide, rfl, rfl, by kernel_rfl, by kernel_rfl⟩⟩
theorem ok56 : FnOk cfg Tryz.prog 56 a56 := ⟨⟨Tryz.f56, _, Tryz.func56, by decide, rfl, rfl, by kernel_rfl, by kernel_rfl⟩⟩
theorem ok57 : FnOk cfg Tryz.prog 57 a57 := ⟨⟨Tryz.f57, _, Tryz.func57, by decide, rfl, rfl, by kernel_rfl, by kernel_rfl⟩⟩
theorem ok58 : FnOk cfg Tryz.prog 58 a58 := ⟨⟨Tryz.f58, _, Tryz.func58, by decide, rfl, rfl, by kernel_rfl, by kernel_rfl⟩⟩
theorem ok59 : FnOk cfg Tryz.prog 59 a59 := ⟨⟨Tryz.f59, _, Tryz.func59, by decide, rfl, rfl, by kernel_rfl, by kernel_rfl⟩⟩
theorem ok60 : FnOk cfg Tryz.prog 60 a60 := ⟨⟨Tryz.f60, _, Tryz.func60, by decide, rfl, rfl, by kernel_rfl, by kernel_rfl⟩⟩
theorem ok61 : FnOk cfg Tryz.prog 61 a61 := ⟨⟨Tryz.f61, _, Tryz.func61, by decide, rfl, rfl, by kernel_rfl, by kernel_rfl⟩⟩
theorem ok62 : FnOk cfg Tryz.prog 62 a62 := ⟨⟨Tryz.f62, _, Tryz.func62, by decide, rfl, rfl, by kernel_rfl, by kernel_rfl⟩⟩
theorem ok63 : FnOk cfg Tryz.prog 63 a63 := ⟨⟨Tryz.f63, _, Tryz.func63, by decide, rfl, rfl, by kernel_rfl, by kernel_rfl⟩⟩
theorem ok64 : FnOk cfg Tryz.prog 64 a64 := ⟨⟨Tryz.f64, _, Tryz.func64, by decide, rfl, rfl, by kernel_rfl, by kernel_rfl⟩⟩
theorem ok65 : FnOk cfg Tryz.prog 65 a65 := ⟨⟨Tryz.f65, _, Tryz.func65, by decide, rfl, rfl, by kernel_rfl, by kernel_rfl⟩⟩
theorem ok66 : FnOk cfg Tryz.prog 66 a66 := ⟨⟨Tryz.f66, _, Tryz.func66, by decide, rfl, rfl, by kernel_rfl, by kernel_rfl⟩⟩
theorem ok67 : FnOk cfg Tryz.prog 67 a67 := ⟨⟨Tryz.f67, _, Tryz.func67, by decide, rfl, rfl, by kernel_rfl, by kernel_rfl⟩⟩
theorem ok68 : FnOk cfg Tryz.prog 68 a68 := ⟨⟨Tryz.f68, _, Tryz.func68, by decide, rfl, rfl, by kernel_rfl, by kernel_rfl⟩⟩
theorem ok69 : FnOk cfg Tryz.prog 69 a69 := ⟨⟨Tryz.f69, _, Tryz.func69, by decide, rfl, rfl, by kernel_rfl, by kernel_rfl⟩⟩
theorem ok70 : FnOk cfg Tryz.prog 70 a70 := ⟨⟨Tryz.f70, _, Tryz.func70, by decide, rfl, rfl, by kernel_rfl, by kernel_rfl⟩⟩
theorem ok71 : FnOk cfg Tryz.prog 71 a71 := ⟨⟨Tryz.f71, _, Tryz.func71, by decide, rfl, rfl, by kernel_rfl, by kernel_rfl⟩⟩
theorem ok72 : FnOk cfg Tryz.prog 72 a72 := ⟨⟨Tryz.f72, _, Tryz.func72, by decide, rfl, rfl, by kernel_rfl, by kernel_rfl⟩⟩
theorem ok73 : FnOk cfg Tryz.prog 73 a73 := ⟨⟨Tryz.f73, _, Tryz.func73, by decide, rfl, rfl, by kernel_rfl, by kernel_rfl⟩⟩
theorem ok75 : FnOk cfg Tryz.prog 75 a75 := ⟨⟨Tryz.f75, _, Tryz.func75, by decide, rfl, rfl, by kernel_rfl, by kernel_rfl⟩⟩
theorem ok77 : FnOk cfg Tryz.prog 77 a77 := ⟨⟨Tryz.f77, _, Tryz.func77, by decide, rfl, rfl, by kernel_rfl, by kernel_rfl⟩⟩
theorem ok78 : FnOk cfg Tryz.prog 78 a78 := ⟨⟨Tryz.f78, _, Tryz.func78, by decide, rfl, rfl, by kernel_rfl, by kernel_rfl⟩⟩
theorem ok79 : FnOk cfg Tryz.prog 79 a79 := ⟨⟨Tryz.f79, _, Tryz.func79, by decide, rfl, rfl, by kernel_rfl, by kernel_rfl⟩⟩
theorem ok81 : FnOk cfg Tryz.prog 81 a81 := ⟨⟨Tryz.f81, _, Tryz.func81, by decide, rfl, rfl, by kernel_rfl, by kernel_rfl⟩⟩
theorem ok82 : FnOk cfg Tryz.prog 82 a82 := ⟨⟨Tryz.f82, _, Tryz.func82, by decide, rfl, rfl, by kernel_rfl, by kernel_rfl⟩⟩
theorem ok87 : FnOk cfg Tryz.prog 87 a87 := ⟨⟨Tryz.f87, _, Tryz.func87, by decide, rfl, rfl, by kernel_rfl, by kernel_rfl⟩⟩
theorem ok89 : FnOk cfg Tryz.prog 89 a89 := ⟨⟨Tryz.f89, _, Tryz.func89, by decide, rfl, rfl, by kernel_rfl, by kernel_rfl⟩⟩
theorem ok92 : FnOk cfg Tryz.prog 92 a92 := ⟨⟨Tryz.f92, _, Tryz.func92, by decide, rfl, rfl, by kernel_rfl, by kernel_rfl⟩⟩
theorem ok93 : FnOk cfg Tryz.prog 93 a93 := ⟨⟨Tryz.f93, _, Tryz.func93, by decide, rfl, rfl, by kernel_rfl, by kernel_rfl⟩⟩
theorem ok94 : FnOk cfg Tryz.prog 94 a94 := ⟨⟨Tryz.f94, _, Tryz.func94, by decide, rfl, rfl, by kernel_rfl, by kernel_rfl⟩⟩
theorem ok95 : FnOk cfg Tryz.prog 95 a95 := ⟨⟨Tryz.f95, _, Tryz.func95, by decide, rfl, rfl, by kernel_rfl, by kernel_rfl⟩⟩
theorem ok112 : FnOk cfg Tryz.prog 112 a112 := ⟨⟨Tryz.f112, _, Tryz.func112, by decide, rfl, rfl, by kernel_rfl, by kernel_rfl⟩⟩
theorem ok113 : FnOk cfg Tryz.prog 113 a113 := ⟨⟨Tryz.f113, _, Tryz.func113, by decide, rfl, rfl, by kernel_rfl, by kernel_rfl⟩⟩
theorem ok114 : FnOk cfg Tryz.prog 114 a114 := ⟨⟨Tryz.f114, _, Tryz.func114, by decide, rfl, rfl, by kernel_rfl, by kernel_rfl⟩⟩
theorem ok115 : FnOk cfg Tryz.prog 115 a115 := ⟨⟨Tryz.f115, _, Tryz.func115, by decide, rfl, rfl, by kernel_rfl, by kernel_rfl⟩⟩
theorem ok116 : FnOk cfg Tryz.prog 116 a116 := ⟨⟨Tryz.f116, _, Tryz.func116, by decide, rfl, rfl, by kernel_rfl, by kernel_rfl⟩⟩
theorem ok117 : FnOk cfg Tryz.prog 117 a117 := ⟨⟨Tryz.f117, _, Tryz.func117, by decide, rfl, rfl, by kernel_rfl, by kernel_rfl⟩⟩
theorem ok118 : FnOk cfg Tryz.prog 118 a118 := ⟨⟨Tryz.f118, _, Tryz.func118, by decide, rfl, rfl, by kernel_rfl, by kernel_rfl⟩⟩
theorem ok119 : FnOk cfg Tryz.prog 119 a119 := ⟨⟨Tryz.f119, _, Tryz.func119, by decide, rfl, rfl, by kernel_rfl, by kernel_rfl⟩⟩
theorem ok120 : FnOk cfg Tryz.prog 120 a120 := ⟨⟨Tryz.f120, _, Tryz.func120, by decide, rfl, rfl, by kernel_rfl, by kernel_rfl⟩⟩
theorem ok121 : FnOk cfg Tryz.prog 121 a121 := ⟨⟨Tryz.f121, _, Tryz.func121, by decide, rfl, rfl, by kernel_rfl, by kernel_rfl⟩⟩
theorem ok123 : FnOk cfg Tryz.prog 123 a123 := ⟨⟨Tryz.f123, _, Tryz.func123, by decide, rfl, rfl, by kernel_rfl, by kernel_rfl⟩⟩
theorem ok124 : FnOk cfg Tryz.prog 124 a124 := ⟨⟨Tryz.f124, _, Tryz.func124, by decide, rfl, rfl, by kernel_rfl, by kernel_rfl⟩⟩
theorem ok125 : FnOk cfg Tryz.prog 125 a125 := ⟨⟨Tryz.f125, _, Tryz.func125, by decide, rfl, rfl, by kernel_rfl, by kernel_rfl⟩⟩
theorem ok126 : FnOk cfg Tryz.prog 126 a126 := ⟨⟨Tryz.f126, _, Tryz.func126, by decide, rfl, rfl, by kernel_rfl, by kernel_rfl⟩⟩
theorem ok127 : FnOk cfg Tryz.prog 127 a127 := ⟨⟨Tryz.f127, _, Tryz.func127, by decide, rfl, rfl, by kernel_rfl, by kernel_rfl⟩⟩
theorem ok129 : FnOk cfg Tryz.prog 129 a129 := ⟨⟨Tryz.f129, _, Tryz.func129, by decide, rfl, rfl, by kernel_rfl, by kernel_rfl⟩⟩
theorem ok130 : FnOk cfg Tryz.prog 130 a130 := ⟨⟨Tryz.f130, _, Tryz.func130, by decide, rfl, rfl, by kernel_rfl, by kernel_rfl⟩⟩
theorem ok134 : FnOk cfg Tryz.prog 134 a134 := ⟨⟨Tryz.f134, _, Tryz.func134, by decide, rfl, rfl, by kernel_rfl, by kernel_rfl⟩⟩
theorem ok135 : FnOk cfg Tryz.prog 135 a135 := ⟨⟨Tryz.f135, _, Tryz.func135, by decide, rfl, rfl, by kernel_rfl, by kernel_rfl⟩⟩
theorem ok137 : FnOk cfg Tryz.prog 137 a137 := ⟨⟨Tryz.f137, _, Tryz.func137, by decide, rfl, rfl, by kernel_rfl, by kernel_rfl⟩⟩
theorem ok139 : FnOk cfg Tryz.prog 139 a139 := ⟨⟨Tryz.f139, _, Tryz.func139, by decide, rfl, rfl, by kernel_rfl, by kernel_rfl⟩⟩
theorem ok140 : FnOk cfg Tryz.prog 140 a140 := ⟨⟨Tryz.f140, _, Tryz.func140, by decide, rfl, rfl, by kernel_rfl, by kernel_rfl⟩⟩
theorem ok155 : FnOk cfg Tryz.prog 155 a155 := ⟨⟨Tryz.f155, _, Tryz.func155, by decide, rfl, rfl, by kernel_rfl, by kernel_rfl⟩⟩
theorem ok156 : FnOk cfg Tryz.prog 156 a156 := ⟨⟨Tryz.f156, _, Tryz.func156, by decide, rfl, rfl, by kernel_rfl, by kernel_rfl⟩⟩
theorem ok157 : FnOk cfg Tryz.prog 157 a157 := ⟨⟨Tryz.f157, _, Tryz.func157, by decide, rfl, rfl, by kernel_rfl, by kernel_rfl⟩⟩
theorem ok158 : FnOk cfg Tryz.prog 158 a158 := ⟨⟨Tryz.f158, _, Tryz.func158, by decide, rfl, rfl, by kernel_rfl, by kernel_rfl⟩⟩
theorem ok159 : FnOk cfg Tryz.prog 159 a159 := ⟨⟨Tryz.f159, _, Tryz.func159, by decide, rfl, rfl, by kernel_rfl, by kernel_rfl⟩⟩
theorem ok160 : FnOk cfg Tryz.prog 160 a160 := ⟨⟨Tryz.f160, _, Tryz.func160, by decide, rfl, rfl, by kernel_rfl, by kernel_rfl⟩⟩
theorem ok161 : FnOk cfg Tryz.prog 161 a161 := ⟨⟨Tryz.f161, _, Tryz.func161, by decide, rfl, rfl, by kernel_rfl, by kernel_rfl⟩⟩
theorem ok163 : FnOk cfg Tryz.prog 163 a163 := ⟨⟨Tryz.f163, _, Tryz.func163, by decide, rfl, rfl, by kernel_rfl, by kernel_rfl⟩⟩
theorem ok164 : FnOk cfg Tryz.prog 164 a164 := ⟨⟨Tryz.f164, _, Tryz.func164, by decide, rfl, rfl, by kernel_rfl, by kernel_rfl⟩⟩
theorem ok165 : FnOk cfg Tryz.prog 165 a165 := ⟨⟨Tryz.f165, _, Tryz.func165, by decide, rfl, rfl, by kernel_rfl, by kernel_rfl⟩⟩
theorem ok166 : FnOk cfg Tryz.prog 166 a166 := ⟨⟨Tryz.f166, _, Tryz.func166, by decide, rfl, rfl, by kernel_rfl, by kernel_rfl⟩⟩
theorem ok167 : FnOk cfg Tryz.prog 167 a167 := ⟨⟨Tryz.f167, _, Tryz.func167, by decide, rfl, rfl, by kernel_rfl, by kernel_rfl⟩⟩
theorem ok168 : FnOk cfg Tryz.prog 168 a168 := ⟨⟨Tryz.f168, _, Tryz.func168, by decide, rfl, rfl, by kernel_rfl, by kernel_rfl⟩⟩
theorem ok169 : FnOk cfg Tryz.prog 169 a169 := ⟨⟨Tryz.f169, _, Tryz.func169, by decide, rfl, rfl, by kernel_rfl, by kernel_rfl⟩⟩
theorem ok170 : FnOk cfg Tryz.prog 170 a170 := ⟨⟨Tryz.f170, _, Tryz.func170, by decide, rfl, rfl, by kernel_rfl, by kernel_rfl⟩⟩
theorem ok171 : FnOk cfg Tryz.prog 171 a171 := ⟨⟨Tryz.f171, _, Tryz.func171, by decide, rfl, rfl, by kernel_rfl, by kernel_rfl⟩⟩
theorem ok174 : FnOk cfg Tryz.prog 174 a174 := ⟨⟨Tryz.f174, _, Tryz.func174, by decide, rfl, rfl, by kernel_rfl, by kernel_rfl⟩⟩
theorem ok175 : FnOk cfg Tryz.prog 175 a175 := ⟨⟨Tryz.f175, _, Tryz.func175, by decide, rfl, rfl, by kernel_rfl, by kernel_rfl⟩⟩
theorem ok176 : FnOk cfg Tryz.prog 176 a176 := ⟨⟨Tryz.f176, _, Tryz.func176, by decide, rfl, rfl, by kernel_rfl, by kernel_rfl⟩⟩
theorem ok187 : FnOk cfg Tryz.prog 187 a187 := ⟨⟨Tryz.f187, _, Tryz.func187, by decide, rfl, rfl, by kernel_rfl, by kernel_rfl⟩⟩
theorem ok188 : FnOk cfg Tryz.prog 188 a188 := ⟨⟨Tryz.f188, _, Tryz.func188, by decide, rfl, rfl, by kernel_rfl, by kernel_rfl⟩⟩
theorem ok189 : FnOk cfg Tryz.prog 189 a189 := ⟨⟨Tryz.f189, _, Tryz.func189, by decide, rfl, rfl, by kernel_rfl, by kernel_rfl⟩⟩
theorem ok190 : FnOk cfg Tryz.prog 190 a190 := ⟨⟨Tryz.f190, _, Tryz.func190, by decide, rfl, rfl, by kernel_rfl, by kernel_rfl⟩⟩
theorem ok191 : FnOk cfg Tryz.prog 191 a191 := ⟨⟨Tryz.f191, _, Tryz.func191, by decide, rfl, rfl, by kernel_rfl, by kernel_rfl⟩⟩
theorem ok192 : FnOk cfg Tryz.prog 192 a192 := ⟨⟨Tryz.f192, _, Tryz.func192, by decide, rfl, rfl, by kernel_rfl, by kernel_rfl⟩⟩
theorem ok193 : FnOk cfg Tryz.prog 193 a193 := ⟨⟨Tryz.f193, _, Tryz.func193, by decide, rfl, rfl, by kernel_rfl, by kernel_rfl⟩⟩
theorem ok194 : FnOk cfg Tryz.prog 194 a194 := ⟨⟨Tryz.f194, _, Tryz.func194, by decide, rfl, rfl, by kernel_rfl, by kernel_rfl⟩⟩
theorem ok195 : FnOk cfg Tryz.prog 195 a195 := ⟨⟨Tryz.f195, _, Tryz.func195, by decide, rfl, rfl, by kernel_rfl, by kernel_rfl⟩⟩
theorem ok196 : FnOk cfg Tryz.prog 196 a196 := ⟨⟨Tryz.f196, _, Tryz.func196, by decide, rfl, rfl, by kernel_rfl, by kernel_rfl⟩⟩
theorem ok197 : FnOk cfg Tryz.prog 197 a197 := ⟨⟨Tryz.f197, _, Tryz.func197, by decide, rfl, rfl, by kernel_rfl, by kernel_rfl⟩⟩
theorem ok206 : FnOk cfg Tryz.prog 206 a206 := ⟨⟨Tryz.f206, _, Tryz.func206, by decide, rfl, rfl, by kernel_rfl, by kernel_rfl⟩⟩
theorem ok207 : FnOk cfg Tryz.prog 207 a207 := ⟨⟨Tryz.f207, _, Tryz.func207, by decide, rfl, rfl, by kernel_rfl, by kernel_rfl⟩⟩
theorem ok208 : FnOk cfg Tryz.prog 208 a208 := ⟨⟨Tryz.f208, _, Tryz.func208, by decide, rfl, rfl, by kernel_rfl, by kernel_rfl⟩⟩
theorem ok209 : FnOk cfg Tryz.prog 209 a209 := ⟨⟨Tryz.f209, _, Tryz.func209, by decide, rfl, rfl, by kernel_rfl, by kernel_rfl⟩⟩
theorem ok210 : FnOk cfg Tryz.prog 210 a210 := ⟨⟨Tryz.f210, _, Tryz.func210, by decide, rfl, rfl, by kernel_rfl, by kernel_rfl⟩⟩
theorem ok216 : FnOk cfg Tryz.prog 216 a216 := ⟨⟨Tryz.f216, _, Tryz.func216, by decide, rfl, rfl, by kernel_rfl, by kernel_rfl⟩⟩
theorem orF_cases {a b : Option AFunc} {x : AFunc} (h : orF a b = some x) : a = some x ∨ b = some x := by
 unfold orF at h
 split at h
 ·exact .inl h
 ·exact .inr h
theorem fns0 (f : FuncId) (fn : AFunc) (h : ir0 f = some fn) : FnOk cfg Tryz.prog f fn := by
 unfold ir0 at h
 split at h
 ·injection h with h; subst h; exact ok3
 ·injection h with h; subst h; exact ok8
 ·injection h with h; subst h; exact ok9
 ·injection h with h; subst h; exact ok10
 ·injection h with h; subst h; exact ok11
 ·injection h with h; subst h; exact ok12
 ·injection h with h; subst h; exact ok13
 ·injection h with h; subst h; exact ok14
 ·injection h with h; subst h; exact ok15
 ·injection h with h; subst h; exact ok16
 ·injection h with h; subst h; exact ok17
 ·injection h with h; subst h; exact ok18
 ·injection h with h; subst h; exact ok19
 ·injection h with h; subst h; exact ok20
 ·injection h with h; subst h; exact ok21
 ·injection h with h; subst h; exact ok22
 ·injection h with h; subst h; exact ok23
 ·injection h with h; subst h; exact ok26
 ·injection h with h; subst h; exact ok40
 ·injection h with h; subst h; exact ok55
 ·injection h with h; subst h; exact ok56
 ·injection h with h; subst h; exact ok57
 ·injection h with h; subst h; exact ok58
 ·injection h with h; subst h; exact ok59
 ·injection h with h; subst h; exact ok60
 ·injection h with h; subst h; exact ok61
 ·injection h with h; subst h; exact ok62
 ·injection h with h; subst h; exact ok63
 ·injection h with h; subst h; exact ok64
 ·injection h with h; subst h; exact ok65
 ·injection h with h; subst h; exact ok66
 ·injection h with h; subst h; exact ok67
 ·injection h with h; subst h; exact ok68
 ·injection h with h; subst h; exact ok69
 ·injection h with h; subst h; exact ok70
 ·injection h with h; subst h; exact ok71
 ·injection h with h; subst h; exact ok72
 ·injection h with h; subst h; exact ok73
 ·injection h with h; subst h; exact ok75
 ·injection h with h; subst h; exact ok77
 ·cases h
theorem fns1 (f : FuncId) (fn : AFunc) (h : ir1 f = some fn) : FnOk cfg Tryz.prog f fn := by
 unfold ir1 at h
 split at h
 ·injection h with h; subst h; exact ok78
 ·injection h with h; subst h; exact ok79
 ·injection h with h; subst h; exact ok81
 ·injection h with h; subst h; exact ok82
 ·injection h with h; subst h; exact ok87
 ·injection h with h; subst h; exact ok89
 ·injection h with h; subst h; exact ok92
 ·injection h with h; subst h; exact ok93
 ·injection h with h; subst h; exact ok94
 ·injection h with h; subst h; exact ok95
 ·injection h with h; subst h; exact ok112
 ·injection h with h; subst h; exact ok113
 ·injection h with h; subst h; exact ok114
 ·injection h with h; subst h; exact ok115
 ·injection h with h; subst h; exact ok116
 ·injection h with h; subst h; exact ok117
 ·injection h with h; subst h; exact ok118
 ·injection h with h; subst h; exact ok119
 ·injection h with h; subst h; exact ok120
 ·injection h with h; subst h; exact ok121
 ·injection h with h; subst h; exact ok123
 ·injection h with h; subst h; exact ok124
 ·injection h with h; subst h; exact ok125
 ·injection h with h; subst h; exact ok126
 ·injection h with h; subst h; exact ok127
 ·injection h with h; subst h; exact ok129
 ·injection h with h; subst h; exact ok130
 ·injection h with h; subst h; exact ok134
 ·injection h with h; subst h; exact ok135
 ·injection h with h; subst h; exact ok137
 ·injection h with h; subst h; exact ok139
 ·injection h with h; subst h; exact ok140
 ·injection h with h; subst h; exact ok155
 ·injection h with h; subst h; exact ok156
 ·injection h with h; subst h; exact ok157
 ·injection h with h; subst h; exact ok158
 ·injection h with h; subst h; exact ok159
 ·injection h with h; subst h; exact ok160
 ·injection h with h; subst h; exact ok161
 ·injection h with h; subst h; exact ok163
 ·cases h
theorem fns2 (f : FuncId) (fn : AFunc) (h : ir2 f = some fn) : FnOk cfg Tryz.prog f fn := by
 unfold ir2 at h
 split at h
 ·injection h with h; subst h; exact ok164
 ·injection h with h; subst h; exact ok165
 ·injection h with h; subst h; exact ok166
 ·injection h with h; subst h; exact ok167
 ·injection h with h; subst h; exact ok168
 ·injection h with h; subst h; exact ok169
 ·injection h with h; subst h; exact ok170
 ·injection h with h; subst h; exact ok171
 ·injection h with h; subst h; exact ok174
 ·injection h with h; subst h; exact ok175
 ·injection h with h; subst h; exact ok176
 ·injection h with h; subst h; exact ok187
 ·injection h with h; subst h; exact ok188
 ·injection h with h; subst h; exact ok189
 ·injection h with h; subst h; exact ok190
 ·injection h with h; subst h; exact ok191
 ·injection h with h; subst h; exact ok192
 ·injection h with h; subst h; exact ok193
 ·injection h with h; subst h; exact ok194
 ·injection h with h; subst h; exact ok195
 ·injection h with h; subst h; exact ok196
 ·injection h with h; subst h; exact ok197
 ·injection h with h; subst h; exact ok206
 ·injection h with h; subst h; exact ok207
 ·injection h with h; subst h; exact ok208
 ·injection h with h; subst h; exact ok209
 ·injection h with h; subst h; exact ok210
 ·injection h with h; subst h; exact ok216
 ·cases h
theorem fns : ∀ f fn, cfg.ir f = some fn → FnOk cfg Tryz.prog f fn := by
 intro f fn h
 rcases orF_cases h with h | h
 ·exact fns0 f fn h
 rcases orF_cases h with h | h
 ·exact fns1 f fn h
 exact fns2 f fn h
theorem all : CfgOk Tryz.prog cfg := ⟨fns, by
 intro f g h
 simp only [cfg] at h
 split at h
 ·injection h with h; subst h; exact natSF_ok fun _ => rfl
 ·injection h with h; subst h; exact natMC_ok fun _ => rfl
 ·injection h with h; subst h; exact natSO_ok fun _ => rfl
 ·cases h⟩
end Go.Proofs.YtelpjaejmneplaaGreatDoor.Am.CU
namespace Go.Proofs.YtelpjaejmneplaaGreatDoor.Am
open Go
def addN (ws : List Nm) (v : Nm) : List Nm := if ws.contains v then ws else ws ++ [v]
theorem addN_len (ws : List Nm) (v : Nm) : (addN ws v).length ≤ ws.length + 1 := by unfold addN; split <;> simp
def varsL (ws : List Nm) (t : List Cel) : List Nm := t.foldl (fun ws c => if c.k = 4 then addN ws c.v else ws) ws
theorem varsL_snoc (ws : List Nm) (t : List Cel) (c : Cel) : varsL ws (t ++ [c]) = if c.k = 4 then addN (varsL ws t) c.v else varsL ws t := by simp [varsL]
theorem varsL_len (ws : List Nm) : ∀ (t : List Cel), (varsL ws t).length ≤ ws.length + t.length := by
 intro t
 induction t generalizing ws with
 | nil => simp [varsL]
 | cons c t ih =>
  simp only [varsL, List.foldl_cons, List.length_cons]
  have := ih (if c.k = 4 then addN ws c.v else ws)
  simp only [varsL] at this
  have h2 : (if c.k = 4 then addN ws c.v else ws).length ≤ ws.length + 1 := by
   split
   ·exact addN_len _ _
   ·omega
  omega
structure TSt where
 ls : List (List Cel)
 ws : List Nm
def foldO {S α : Type} (f : S → α → α → Option S) : S → List α → List α → Option S
 | s, [], _ => some s
 | s, _ :: _, [] => some s
 | s, a :: azs, b :: bs => (f s a b).bind fun s' => foldO f s' azs bs
theorem foldO_step {S α : Type} {f : S → α → α → Option S} {s : S} {azs bs : List α} {k : Nat} (ha : k < azs.length) (hb : k < bs.length) : foldO f s (azs.drop k) (bs.drop k) = (f s azs[k] bs[k]).bind fun s' => foldO f s' (azs.drop (k + 1)) (bs.drop (k + 1)) := by
 rw [List.drop_eq_getElem_cons ha, List.drop_eq_getElem_cons hb, foldO]
theorem flat_step {azs : List (List Cel)} {k : Nat} (h : k < azs.length) : (azs.take (k + 1)).flatten.length = (azs.take k).flatten.length + (azs[k]).length := by
 rw [List.take_succ_eq_append_getElem h, List.flatten_append, List.length_append]; simp only [List.flatten_cons, List.flatten_nil, List.append_nil]
theorem flat_le (azs : List (List Cel)) (k : Nat) : (azs.take k).flatten.length ≤ azs.flatten.length := by
 have h : azs.flatten = (azs.take k).flatten ++ (azs.drop k).flatten := by rw [← List.flatten_append, List.take_append_drop]
 rw [h]; simp
structure TryR where
 k : Nat
 ls : List (List Cel)
 ws : List Nm
end Go.Proofs.YtelpjaejmneplaaGreatDoor.Am
namespace Go.Proofs.YtelpjaejmneplaaGreatDoor.Am
open Go
theorem WF.short {H : Hp} (hw : WF H) {p : Nm × List Cel} (hp : p ∈ H) : p.2.length ≤ 256 := (right_len (glob_right (hw.ok _ hp).2.2.1)).2
theorem WF.lk_short {H : Hp} (hw : WF H) (v : Nm) : ((lk H v).getD []).length ≤ 256 := by
 cases h : lk H v with
 | none => simp
 | some t => exact hw.short (lk_mem h)
def stepN (H : Hp) (v : Nm) : List Nm := varsL [] ((lk H v).getD [])
inductive Rea (H : Hp) (rs : List Nm) : Nm → Prop
 | root {v : Nm} : v ∈ rs → Rea H rs v
 | step {v w : Nm} : Rea H rs v → w ∈ stepN H v → Rea H rs w
def adds (l ws : List Nm) : List Nm := ws.foldl addN l
theorem addN_mem_rc {l : List Nm} {v w : Nm} : w ∈ addN l v ↔ w ∈ l ∨ w = v := by
 unfold addN
 split
 ·rename_i h
  have h' : v ∈ l := by simpa using h
  constructor
  ·exact .inl
  ·rintro (h | rfl)
   ·exact h
   ·exact h'
 ·simp
theorem addN_nodup {l : List Nm} {v : Nm} (h : l.Nodup) : (addN l v).Nodup := by
 unfold addN
 split
 ·exact h
 ·rename_i hc
  have hc' : v ∉ l := by simpa using hc
  rw [List.nodup_append]
  refine ⟨h, by simp, fun a ha b hb e => ?_⟩
  simp at hb; subst hb; subst e; exact hc' ha
theorem addN_pre (l : List Nm) (v : Nm) : ∃ x, addN l v = l ++ x := by
 unfold addN
 split
 ·exact ⟨[], by simp⟩
 ·exact ⟨[v], rfl⟩
theorem adds_mem : ∀ {ws l : List Nm} {w : Nm}, w ∈ adds l ws ↔ w ∈ l ∨ w ∈ ws
 | [], l, w => by simp [adds]
 | v :: ws, l, w => by
  have := adds_mem (ws := ws) (l := addN l v) (w := w)
  simp only [adds, List.foldl_cons] at this ⊢
  rw [this, addN_mem_rc, List.mem_cons]
  constructor
  ·rintro ((h | h) | h)
   ·exact .inl h
   ·exact .inr (.inl h)
   ·exact .inr (.inr h)
  ·rintro (h | h | h)
   ·exact .inl (.inl h)
   ·exact .inl (.inr h)
   ·exact .inr h
theorem adds_nodup : ∀ {ws l : List Nm}, l.Nodup → (adds l ws).Nodup
 | [], l, h => h
 | v :: ws, l, h => adds_nodup (ws := ws) (addN_nodup h)
theorem adds_pre : ∀ (ws l : List Nm), ∃ x, adds l ws = l ++ x
 | [], l => ⟨[], by simp [adds]⟩
 | v :: ws, l => by
  obtain ⟨x, hx⟩ := addN_pre l v
  obtain ⟨y, hy⟩ := adds_pre ws (addN l v)
  exact ⟨x ++ y, by simp only [adds, List.foldl_cons] at hy ⊢; rw [hy, hx, List.append_assoc]⟩
theorem adds_snoc (l ws : List Nm) (v : Nm) : adds l (ws ++ [v]) = addN (adds l ws) v := by simp [adds]
theorem nodup_le : ∀ {l u : List Nm}, l.Nodup → (∀ v ∈ l, v ∈ u) → l.length ≤ u.length
 | [], u, _, _ => Nat.zero_le _
 | v :: l, u, hn, h => by
  simp only [List.nodup_cons] at hn
  have hv := h v List.mem_cons_self
  have ih := nodup_le (u := u.erase v) hn.2 fun w hw => (List.mem_erase_of_ne (fun e : w = v => hn.1 (by rw [← e]; exact hw))).2 (h w (List.mem_cons_of_mem _ hw))
  have := List.length_erase_of_mem hv
  have hp := List.length_pos_of_mem hv
  simp only [List.length_cons]
  omega
def univ (H : Hp) (rs : List Nm) : List Nm := rs ++ H.flatMap fun p => varsL [] p.2
theorem stepN_univ {H : Hp} {rs : List Nm} {v w : Nm} (h : w ∈ stepN H v) : w ∈ univ H rs := by
 unfold stepN at h
 cases hl : lk H v with
 | none => rw [hl] at h; simp [varsL] at h
 | some t =>
  rw [hl] at h
  exact List.mem_append.2 (.inr (List.mem_flatMap.2 ⟨_, lk_mem hl, h⟩))
theorem Rea.univ {H : Hp} {rs : List Nm} {v : Nm} (h : Rea H rs v) : v ∈ univ H rs := by
 cases h with
 | root h => exact List.mem_append.2 (.inl h)
 | step _ h => exact stepN_univ h
theorem stepN_len {H : Hp} (hw : WF H) (v : Nm) : (stepN H v).length ≤ 256 := by
 have := varsL_len [] ((lk H v).getD [])
 have := hw.lk_short v
 unfold stepN
 simp only [List.length_nil] at *
 omega
theorem univ_len {H : Hp} (hw : WF H) (rs : List Nm) : (univ H rs).length ≤ rs.length + H.length * 256 := by
 unfold univ
 rw [List.length_append]
 have key : ∀ l : Hp, (∀ p ∈ l, p.2.length ≤ 256) → (l.flatMap fun p => varsL [] p.2).length ≤ l.length * 256 := by
  intro l
  induction l with
  | nil => intro _; simp
  | cons p l ih =>
   intro h
   have h1 := h p List.mem_cons_self
   have h2 := ih fun q hq => h q (List.mem_cons_of_mem _ hq)
   have h3 := varsL_len [] p.2
   rw [List.flatMap_cons, List.length_append, List.length_cons]
   simp only [List.length_nil] at h3
   omega
 have := key H fun p hp => hw.short hp
 omega
structure Way (H : Hp) (rs l : List Nm) (i : Nat) : Prop where
 nodup : l.Nodup
 rea : ∀ v ∈ l, Rea H rs v
 roots : ∀ v ∈ rs, v ∈ l
 done : ∀ (j : Nat) (hj : j < l.length), j < i → ∀ w ∈ stepN H l[j], w ∈ l
theorem Way.start (H : Hp) (rs : List Nm) : Way H rs (adds [] rs) 0 :=
 ⟨adds_nodup List.nodup_nil, fun v hv => by
  rcases adds_mem.1 hv with h | h
  ·cases h
  ·exact .root h, fun v hv => adds_mem.2 (.inr hv), fun j _ h => by omega⟩
theorem Way.len {H : Hp} {rs l : List Nm} {i : Nat} (h : Way H rs l i) : l.length ≤ (univ H rs).length := nodup_le h.nodup fun v hv => (h.rea v hv).univ
theorem Way.next {H : Hp} {rs l : List Nm} {i : Nat} (h : Way H rs l i) (hi : i < l.length) : Way H rs (adds l (stepN H l[i])) (i + 1) := by
 obtain ⟨x, hx⟩ := adds_pre (stepN H l[i]) l
 refine ⟨adds_nodup h.nodup, fun v hv => ?_, fun v hv => adds_mem.2 (.inl (h.roots v hv)), fun j hj hji w hw => ?_⟩
 ·rcases adds_mem.1 hv with hv | hv
  ·exact h.rea v hv
  ·exact .step (h.rea _ (List.getElem_mem hi)) hv
 ·have hjl : j < l.length := by omega
  have e : (adds l (stepN H l[i]))[j] = l[j] := by
   have : ∀ (y : List Nm) (hy : y = l ++ x) (h : j < y.length), y[j] = l[j] := by
    intro y hy h; subst hy; exact List.getElem_append_left hjl
   exact this _ hx hj
  rw [e] at hw
  by_cases hji' : j = i
  ·subst hji'; exact adds_mem.2 (.inr hw)
  ·exact adds_mem.2 (.inl (h.done j hjl (by omega) w hw))
theorem Way.all {H : Hp} {rs l : List Nm} (h : Way H rs l l.length) : ∀ v, v ∈ l ↔ Rea H rs v := fun v => ⟨h.rea v, fun hr => by
 induction hr with
 | root hv => exact h.roots _ hv
 | step _ hw ih =>
  obtain ⟨j, hj, rfl⟩ := List.mem_iff_getElem.1 ih
  exact h.done j hj hj _ hw⟩
theorem Rea.again {H : Hp} {rs xs : List Nm} (hx : ∀ v, v ∈ xs ↔ Rea H rs v) (v : Nm) : Rea H xs v ↔ Rea H rs v := by
 constructor
 ·intro h
  induction h with
  | root h => exact (hx _).1 h
  | step _ hw ih => exact .step ih hw
 ·intro h; exact .root ((hx v).2 h)
theorem Rea.more {H H' : Hp} {rs rs' : List Nm} (hr : ∀ v ∈ rs, v ∈ rs') (hH : ∀ v t, lk H v = some t → lk H' v = some t) {v : Nm} (h : Rea H rs v) : Rea H' rs' v := by
 induction h with
 | root h => exact .root (hr _ h)
 | step _ hw ih =>
  rename_i v w _
  refine .step ih ?_
  unfold stepN at hw ⊢
  cases hl : lk H v with
  | none => rw [hl] at hw; simp [varsL] at hw
  | some t => rw [hl] at hw; rw [hH v t hl]; exact hw
theorem sortN_same {a b : List Nm} (ha : a.Nodup) (hb : b.Nodup) (h : ∀ v, v ∈ a ↔ v ∈ b) : sortN a = sortN b := by
 have hp : a.Perm b := (List.perm_ext_iff_of_nodup ha hb).2 h
 exact up_one (sortN_up _) (sortN_up _) ((sortN_perm _).trans (hp.trans (sortN_perm _).symm))
theorem insN_at {x : Nm} : ∀ {l : List Nm} {k : Nat} (hk : k ≤ l.length) (hx : x ∉ l) (h1 : ∀ (j : Nat) (hj : j < l.length), j < k → nless l[j] x = true) (h2 : ∀ hk : k < l.length, nless l[k] x = false), l.take k ++ x :: l.drop k = insN x l
 | [], k, hk, _, _, _ => by simp [insN]
 | y :: r, 0, hk, hx, h1, h2 => by
  have h := h2 (by simp)
  simp only [List.getElem_cons_zero] at h
  have hne : y ≠ x := fun e => hx (by simp [e])
  simp [insN, nless_not h hne]
 | y :: r, k + 1, hk, hx, h1, h2 => by
  have h := h1 0 (by simp) (by omega)
  simp only [List.getElem_cons_zero] at h
  have ih := insN_at (x := x) (l := r) (k := k) (by simpa using hk) (fun hm => hx (List.mem_cons_of_mem _ hm)) (fun j hj hjk => by
   have := h1 (j + 1) (by simpa using hj) (by omega)
   simpa using this) (fun hk' => by
   have := h2 (by simpa using hk')
   simpa using this)
  simp only [List.take_succ_cons, List.drop_succ_cons, List.cons_append, insN, nless_asymm h, Bool.false_eq_true, if_false, ih]
def riseN (l ms : List Nm) : List Nm := ms.foldl (fun l x => insN x l) l
theorem riseN_perm : ∀ (ms l : List Nm), (riseN l ms).Perm (l ++ ms)
 | [], l => by simp [riseN]
 | x :: r, l => by
  have ih := riseN_perm r (insN x l)
  simp only [riseN, List.foldl_cons] at ih ⊢
  refine ih.trans ?_
  refine ((insN_perm x l).append_right r).trans ?_
  simpa using (List.perm_middle (a := x) (l₁ := l) (l₂ := r)).symm
theorem riseN_up : ∀ (ms : List Nm) {l : List Nm}, UpN l → UpN (riseN l ms)
 | [], _, h => h
 | x :: r, l, h => riseN_up r (l := insN x l) (insN_up x h)
theorem riseN_sort (ms : List Nm) : riseN [] ms = sortN ms :=
 (sortN_of (riseN_up ms List.Pairwise.nil) (by simpa using (riseN_perm ms []).symm)).symm
theorem riseN_snoc (l ms : List Nm) (x : Nm) : riseN l (ms ++ [x]) = insN x (riseN l ms) := by simp [riseN]
theorem riseN_mem {l ms : List Nm} {v : Nm} : v ∈ riseN l ms ↔ v ∈ l ∨ v ∈ ms := by
 rw [(riseN_perm ms l).mem_iff, List.mem_append]
theorem riseN_len (l ms : List Nm) : (riseN l ms).length = l.length + ms.length := by
 rw [(riseN_perm ms l).length_eq, List.length_append]
theorem Same.rea {H R : Hp} (hs : Same H R) (rs : List Nm) (v : Nm) : Rea R rs v ↔ Rea H rs v := by
 constructor
 ·exact Rea.more (fun _ h => h) fun w t h => by rw [hs.lk]; exact h
 ·exact Rea.more (fun _ h => h) fun w t h => by rw [← hs.lk]; exact h
structure XRows (σ : Store) (lo k sz : Nat) (l : AVal) (xs es : List AVal) (ps : List (List AVal)) : Prop where
 row : Own σ k l xs
 lex : xs.length = es.length
 len : es.length = ps.length
 one : ∀ (i : Nat) (e : AVal) (p : List AVal), es[i]? = some e → ps[i]? = some p → Own σ sz e p
 frs : ∀ (i : Nat) (e : AVal), es[i]? = some e → Fresh lo e
 frl : Fresh lo l
 apart : ∀ (i j : Nat) (e e' : AVal) (id : Nat), es[i]? = some e → es[j]? = some e' → e.sid = some id → e'.sid = some id → i = j
 off : ∀ (i : Nat) (e : AVal) (id : Nat), es[i]? = some e → e.sid = some id → l.sid ≠ some id
 lit : ∀ (i : Nat) (e : AVal), es[i]? = some e → NoLit e
theorem XRows.nil (σ : Store) (lo k sz : Nat) : XRows σ lo k sz .nilslice [] [] [] :=
 ⟨Own.nil _ _, rfl, rfl, fun i e p h => by simp at h, fun i e h => by simp at h, Fresh.nil _, fun i j e e' id h => by simp at h, fun i e id h => by simp at h, fun i e h => by simp at h⟩
theorem XRows.lo {σ : Store} {lo lo' k sz : Nat} {l : AVal} {xs es : List AVal} {ps : List (List AVal)} (h : XRows σ lo k sz l xs es ps) (hl : lo' ≤ lo) : XRows σ lo' k sz l xs es ps :=
 ⟨h.row, h.lex, h.len, h.one, fun i e he => (h.frs i e he).le hl, h.frl.le hl, h.apart, h.off, h.lit⟩
theorem XRows.lt {σ : Store} {lo k sz : Nat} {l : AVal} {xs es : List AVal} {ps : List (List AVal)} (h : XRows σ lo k sz l xs es ps) {i : Nat} {e : AVal} (hi : es[i]? = some e) {id : Nat} (hid : e.sid = some id) : id < σ.length := by
 have hlt := (List.getElem?_eq_some_iff.1 hi).1
 have := h.one i e (ps[i]'(by rw [← h.len]; exact hlt)) hi (List.getElem?_eq_getElem _)
 exact this.sl.lt hid
theorem XRows.grow {σ σ' : Store} {lo k sz : Nat} {l : AVal} {xs es : List AVal} {ps : List (List AVal)} (h : XRows σ lo k sz l xs es ps) (g : Grows σ σ') : XRows σ' lo k sz l xs es ps :=
 ⟨h.row.grow g, h.lex, h.len, fun i e p h1 h2 => (h.one i e p h1 h2).grow g, h.frs, h.frl, h.apart, h.off, h.lit⟩
theorem XRows.keeps {σ σ' : Store} {M : Nat → Prop} {lo k sz : Nat} {l : AVal} {xs es : List AVal} {ps : List (List AVal)} (h : XRows σ lo k sz l xs es ps) (g : Keeps M σ σ') (hm : ∀ i, i < σ.length → lo ≤ i → ¬ M i) : XRows σ' lo k sz l xs es ps :=
 ⟨Own.keeps h.row g fun id hid => hm id (h.row.sl.lt hid) (h.frl id hid), h.lex, h.len, fun i e p h1 h2 => Own.keeps (h.one i e p h1 h2) g fun id hid => hm id (h.lt h1 hid) (h.frs i e h1 id hid), h.frs, h.frl, h.apart, h.off, h.lit⟩
theorem XRows.push {σ σ1 : Store} {lo k sz : Nat} {l : AVal} {xs es : List AVal} {ps : List (List AVal)} (h : XRows σ lo k sz l xs es ps) (hlo : lo ≤ σ.length) (g : Grows σ σ1) {x e : AVal} {p : List AVal} (he : Own σ1 sz e p) (fe : Fresh σ.length e) (le : NoLit e)
  (bytes : Nat) (hb : (es.length + 1) * bytes ≤ 70368744177664) :
  ∃ l' σ2, appendV σ1 k bytes l [x] = some (l', σ2) ∧ XRows σ2 lo k sz l' (xs ++ [x]) (es ++ [e]) (ps ++ [p]) ∧ Keeps (fun i => lo ≤ i) σ1 σ2 := by
 obtain ⟨l', σ2, h1, h2, h3, h4, h5⟩ := (h.row.grow g).append [x] bytes (by rw [h.lex]; exact hb)
 have old : ∀ (i : Nat) (x : AVal), (es ++ [e])[i]? = some x → (es[i]? = some x ∧ i < es.length) ∨ (i = es.length ∧ x = e) := by
  intro i x hx
  rw [List.getElem?_append] at hx
  split at hx
  ·rename_i hlt; exact .inl ⟨hx, hlt⟩
  ·rename_i hlt
   rw [List.getElem?_singleton] at hx
   split at hx
   ·injection hx with hx; exact .inr ⟨by omega, hx.symm⟩
   ·cases hx
 have hll : ∀ id, l.sid = some id → id < σ.length := fun id hid => h.row.sl.lt hid
 have hx1 : ∀ (i : Nat) (x : AVal) (id : Nat), (es ++ [e])[i]? = some x → x.sid = some id → id < σ1.length ∧ l.sid ≠ some id := by
  intro i x id hx hid
  rcases old i x hx with ⟨hx, _⟩ | ⟨_, rfl⟩
  ·exact ⟨Nat.lt_of_lt_of_le (h.lt hx hid) g.1, h.off i x id hx hid⟩
  ·exact ⟨he.sl.lt hid, fun hl => by have := fe id hid; have := hll id hl; omega⟩
 refine ⟨l', σ2, h1, ⟨h2, by simp [h.lex], by simp [h.len], ?_, ?_, ?_, ?_, ?_, ?_⟩, h3.mono fun i hi hs => h.frl i hs⟩
 ·intro i x q hx hq
  refine Own.keeps (σ := σ1) ?_ h3 fun id hid => (hx1 i x id hx hid).2
  rcases old i x hx with ⟨hx, hlt⟩ | ⟨rfl, rfl⟩
  ·rw [List.getElem?_append_left (by rw [← h.len]; exact hlt)] at hq
   exact (h.one i x q hx hq).grow g
  ·rw [h.len, List.getElem?_append_right (Nat.le_refl _), Nat.sub_self] at hq
   simp at hq; subst hq; exact he
 ·intro i x hx
  rcases old i x hx with ⟨hx, _⟩ | ⟨_, rfl⟩
  ·exact h.frs i x hx
  ·exact fe.le hlo
 ·intro id hid
  rcases h4 id hid with hh | hh
  ·exact h.frl id hh
  ·have := g.1; omega
 ·intro i j x y id hx hy hxi hyi
  rcases old i x hx with ⟨hx', hil⟩ | ⟨hi, hxe⟩ <;> rcases old j y hy with ⟨hy', hjl⟩ | ⟨hj, hye⟩
  ·exact h.apart i j x y id hx' hy' hxi hyi
  ·rw [hye] at hyi; have := h.lt hx' hxi; have := fe id hyi; omega
  ·rw [hxe] at hxi; have := h.lt hy' hyi; have := fe id hxi; omega
  ·omega
 ·intro i x id hx hid hl
  obtain ⟨k1, k2⟩ := hx1 i x id hx hid
  rcases h4 id hl with hh | hh
  ·exact k2 hh
  ·omega
 ·intro i x hx
  rcases old i x hx with ⟨hx, _⟩ | ⟨_, rfl⟩
  ·exact h.lit i x hx
  ·exact le
theorem nm_putB (σ : Store) (v : Nm) : storeV (σ ++ [AObj.cells [.int .i64 0, .int .i64 0]]) 2 (.ptr σ.length 0) (nmV v) = some (σ ++ [AObj.cells (nmC v)]) := by
 have h : (σ ++ [AObj.cells [.int .i64 0, .int .i64 0]])[σ.length]? = some (.cells [.int .i64 0, .int .i64 0]) := by simp
 rw [nm_agg, storeN_cells (cs' := nmC v) (n := 2) h rfl rfl rfl, set_last]
theorem HeapP.look1 {σ : Store} {id mid : Nat} {vs : List AVal} {H : Hp} (h : HeapP σ id mid vs H) (v : Nm) :
  ∃ u, lookupV σ true [.i, .i] .nilslice (.map mid) (nmV v) false = some u ∧ Told u ((lk H v).getD []) := by
 obtain ⟨o, h1, h2⟩ := find_nm v H
 have hk : keyEq true [.i, .i] (nmV v) (nmV v) = some true := by rw [nm_keyEq, decide_eq_true rfl]
 have hf : findKK true [.i, .i] (nmV v) (H.map fun p => nmV p.1) = some o := by simp only [findKK, hk, Option.isSome_some, if_true, h1]
 have hm : mapOf σ (.map mid) = some (H.map fun p => nmV p.1, vs) := by simp only [mapOf, h.map]
 cases o with
 | none =>
  refine ⟨.nilslice, ?_, ?_⟩
  ·simp only [lookupV, hm, hf]; rfl
  ·rw [h2]; exact Told.nil
 | some i =>
  obtain ⟨p, p1, p2, p3⟩ := h2
  obtain ⟨hi, hpe⟩ := List.getElem?_eq_some_iff.1 p1
  obtain ⟨u, u1, u2⟩ := h.vals.get hi
  refine ⟨u, ?_, ?_⟩
  ·simp only [lookupV, hm, hf, u1, Option.map_some]; rfl
  ·rw [p3]; rw [hpe] at u2; exact u2
def bdVs (R : Hp) (us : List AVal) : List AVal := List.zipWith (fun p u => bdV p.1 u) R us
abbrev BRows (σ : Store) (lo : Nat) (l : AVal) (us : List AVal) (R : Hp) : Prop := XRows σ lo 3 5 l (bdVs R us) us (R.map fun p => CC p.2)
section
variable (d : Nat) (σ : Store)
theorem mkeys_ok (m : AVal) (hm : m.one = true) : Called CU.cfg d 94 [m] σ fun r σ' => r = .func 140 [] [.ptr σ.length 0] ∧ σ' = σ ++ [.cells [m]] := by
 refine called_of (fn := CU.a94) rfl (Nat.le_of_ble_eq_true rfl) ?_
 simp only [CU.a94]
 have hc : m.cells = [m] := by cases m <;> simp_all [AVal.one]
 have h1 : [m].all AVal.one = true := by simp only [List.all_cons, List.all_nil, hm]; rfl
 simp -dsimp only [↓WPd, ↓wpC_block, ↓wpC_cond, WPu, Bool.false_eq_true, Bool.true_eq_false, Bool.not_true, Bool.not_false, if_true, if_false, ite_true, ite_false, Nat.reduceEqDiff, Nat.reduceLT, true_and, List.map_cons, List.map_nil, Nat.zero_add, Nat.reduceBEq, hc, h1]
theorem sorted_ok (i mid : Nat) (ns : List Nm) (vs : List AVal) (h1 : σ[i]? = some (.cells [.map mid])) (h2 : σ[mid]? = some (.map (ns.map nmV) vs)) (hn : ns.length ≤ 8796093022208) :
  Called CU.cfg d 93 [.func 140 [] [.ptr i 0], .func 95 [] []] σ fun r σ' => SlOf σ' 2 r ((sortN ns).map nmV) ∧ Grows σ σ' := by
 have hk : keysOf σ (.map mid) = some (ns.map nmV) := by simp only [keysOf, h2]
 have he : natSF 140 95 [.func 140 [] [.ptr i 0], .func 95 [] []] σ = some (match ns with | [] => (.nilslice, σ) | _ => (.slice 2 σ.length 0 0 ns.length none, σ ++ [.arr 2 ((sortN ns).map nmV) 0 0])) := by
  simp only [natSF, and_self, if_true, h1, hk, nmsOf_map, if_pos hn]
  cases ns <;> rfl
 cases ns with
 | nil => exact called_nat rfl he ⟨SlOf.nil _ _, Keeps.refl _ _⟩
 | cons x r =>
  refine called_nat rfl he ⟨?_, Grows.app _ _⟩
  have hl : ((sortN (x :: r)).map nmV).length = (x :: r).length := by rw [List.length_map, sortN_len]
  refine ⟨?_, ?_, fun s id ep off len c h => by cases h⟩
  ·have e : ((sortN (x :: r)).map nmV).take (x :: r).length = (sortN (x :: r)).map nmV := List.take_of_length_le (by omega)
   simp only [List.length_cons] at e
   simp [elems, hl, e]
  ·simp [lenSV, hl]
set_option maxHeartbeats 1000000 in
theorem bindings_ok (id mid : Nat) (vs : List AVal) (H R : Hp) (h : HeapP σ id mid vs H) (hs : Same H R) (hn : R.length < 2 ^ 30) (hsm : ∀ p ∈ R, p.2.length < 2 ^ 30) :
  Called CU.cfg d 40 [.ptr id 0] σ fun l σ' => Grows σ σ' ∧ ∃ us, BRows σ' σ.length l us R := by
 refine called_of (fn := CU.a40) rfl (Nat.le_of_ble_eq_true rfl) ?_
 simp only [CU.a40]
 have e1 : ([AVal.map mid] : List AVal)[0]? = some (.map mid) := rfl
 simp -dsimp only [↓WPd, ↓wpC_block, ↓wpC_cond, WPu, Bool.false_eq_true, Bool.true_eq_false, Bool.not_true, Bool.not_false, if_true, if_false, ite_true, ite_false, Nat.reduceEqDiff, Nat.reduceLT, true_and, List.map_cons, List.map_nil, Nat.zero_add, Nat.reduceBEq, isnil_ptr, faddr_ptr, Nat.add_zero, load_cells h.obj, e1]
 refine calledW_of (mkeys_ok d σ (.map mid) rfl) ?_
 rintro r σ1 ⟨rfl, rfl⟩
 have g1 : Grows σ (σ ++ [AObj.cells [.map mid]]) := Grows.app _ _
 have ho : (σ ++ [AObj.cells [.map mid]])[σ.length]? = some (.cells [.map mid]) := by simp
 have h1 := h.grow g1
 generalize σ ++ [AObj.cells [.map mid]] = σ1 at g1 ho h1
 simp -dsimp only [↓WPd, ↓wpC_block, ↓wpC_cond, WPu, Bool.false_eq_true, Bool.true_eq_false, Bool.not_true, Bool.not_false, if_true, if_false, ite_true, ite_false, Nat.reduceEqDiff, Nat.reduceLT, true_and, List.map_cons, List.map_nil, Nat.zero_add, Nat.reduceBEq]
 have hm := h1.map
 have em : (H.map fun p => nmV p.1) = (H.map (·.1)).map nmV := by rw [List.map_map]; rfl
 rw [em] at hm
 have hHR := hs.perm.length_eq
 refine calledW_of (sorted_ok d σ1 σ.length mid (H.map (·.1)) vs ho hm (by rw [List.length_map]; omega)) ?_
 rintro r σ2 ⟨hr, g2⟩
 rw [hs.sort] at hr
 have g02 := g1.trans g2
 have h2 := h1.grow g2
 have lr : lenSV r = some R.length := by rw [hr.len]; simp
 simp -dsimp only [↓WPd, ↓wpC_block, ↓wpC_cond, WPu, Bool.false_eq_true, Bool.true_eq_false, Bool.not_true, Bool.not_false, if_true, if_false, ite_true, ite_false, Nat.reduceEqDiff, Nat.reduceLT, true_and, List.map_cons, List.map_nil, Nat.zero_add, Nat.reduceBEq, lr]
 refine loop_rule2 (fun m vs' σ' => ∃ (k : Nat) (l : AVal) (us : List AVal), k ≤ R.length ∧ m = R.length - k ∧ vs' = [.ptr id 0, l, r, .int .i64 R.length, .int .i64 (k : Nat)] ∧ Grows σ σ' ∧ Grows σ2 σ' ∧ BRows σ' σ2.length l us (R.take k))
  [3] (fun e vs' σ' => e = .exit 0 ∧ ∃ (l : AVal) (us : List AVal), vs' = [l] ∧ Grows σ σ' ∧ BRows σ' σ2.length l us R) R.length
  ⟨0, .nilslice, [], Nat.zero_le _, rfl, ?_, g02, Keeps.refl _ _, XRows.nil _ _ _ _⟩ ?_ ?_
 ·simp -dsimp only [↓WPd, ↓wpC_block, ↓wpC_cond, WPu, Bool.false_eq_true, Bool.true_eq_false, Bool.not_true, Bool.not_false, if_true, if_false, ite_true, ite_false, Nat.reduceEqDiff, Nat.reduceLT, true_and, List.map_cons, List.map_nil, Nat.zero_add, Nat.reduceBEq]; rfl
 ·rintro m vs' σ' ⟨k, l, us, hk, rfl, rfl, g, g', hx⟩
  simp -dsimp only [↓WPd, ↓wpC_block, ↓wpC_cond, WPu, Bool.false_eq_true, Bool.true_eq_false, Bool.not_true, Bool.not_false, if_true, if_false, ite_true, ite_false, Nat.reduceEqDiff, Nat.reduceLT, true_and, List.map_cons, List.map_nil, Nat.zero_add, Nat.reduceBEq]
  refine condP_dec (fun hc => ?_) (fun hc => ?_)
  ·have hk' : k < R.length := by omega
   have hr' := hr.grow g'
   have hke : k < ((R.map (·.1)).map nmV).length := by simpa using hk'
   have ia : iaddrV 2 r (.int .i64 k) = some (addrOf 2 r k) := hr'.iaddr hke .i64
   have hb := (hr'.addr hke .i64).2
   have hb' : behind σ' (addrOf 2 r k) = some (nmC R[k].1, 0) := by
    rw [hb]; simp only [List.getElem_map, nm_cells]
   have ld : loadV σ' 2 true (addrOf 2 r k) = some (nmV R[k].1) := loadN_at hb' (by simp [nmC])
   have ho' : (σ' ++ [AObj.cells (nmC R[k].1)])[σ'.length]? = some (.cells (nmC R[k].1)) := by simp
   have g3 : Grows σ' (σ' ++ [AObj.cells (nmC R[k].1)]) := Grows.app _ _
   simp -dsimp only [↓WPd, ↓wpC_block, ↓wpC_cond, WPu, Bool.false_eq_true, Bool.true_eq_false, Bool.not_true, Bool.not_false, if_true, if_false, ite_true, ite_false, Nat.reduceEqDiff, Nat.reduceLT, true_and, List.map_cons, List.map_nil, Nat.zero_add, Nat.reduceBEq, ia, ld, nm_putB]
   have h3 := (h2.grow g').grow g3
   have hx3 := hx.grow g3
   have g03 := g.trans g3
   have g23 := g'.trans g3
   have hl3 : σ2.length ≤ (σ' ++ [AObj.cells (nmC R[k].1)]).length := g23.1
   generalize σ' ++ [AObj.cells (nmC R[k].1)] = σ3 at ho' g3 h3 hx3 g03 g23 hl3
   obtain ⟨t, u1, u2⟩ := h3.look1 R[k].1
   have hlk : (lk H R[k].1).getD [] = R[k].2 := by
    rw [lk_of_mem hs.wf.keys (t := R[k].2) (hs.perm.mem_iff.2 (show (R[k].1, R[k].2) ∈ R from List.getElem_mem hk'))]; rfl
   rw [hlk] at u2
   refine drawnP_of rfl ?_
   simp -dsimp only [↓WPd, ↓wpC_block, ↓wpC_cond, WPu, Bool.false_eq_true, Bool.true_eq_false, Bool.not_true, Bool.not_false, if_true, if_false, ite_true, ite_false, Nat.reduceEqDiff, Nat.reduceLT, true_and, List.map_cons, List.map_nil, Nat.zero_add, Nat.reduceBEq, ↓WPed, WPeu, Nat.reduceAdd, and_self, load_nm ho', isnil_ptr, faddr_ptr, Nat.add_zero, load_cells h3.obj, e1, u1]
   refine calledW_of (cclone_ok d σ3 t R[k].2 (hsm _ (List.getElem_mem hk')) (u2 σ3)) ?_
   rintro u σ4 ⟨g4, ou, fu, nu⟩
   obtain ⟨l', σ5, a1, a2, a3⟩ := hx3.push hl3 g4 (x := bdV R[k].1 u) ou (fu.le (Nat.le_refl _)) nu 40 (by have := hx3.lex; have := hx3.len; simp only [List.length_map, List.length_take] at this; omega)
   have fl := elems_fs 3 (AVal.tagL [bdV R[k].1 u]) true σ4 [bdV R[k].1 u]
   simp -dsimp only [↓WPd, ↓wpC_block, ↓wpC_cond, WPu, Bool.false_eq_true, Bool.true_eq_false, Bool.not_true, Bool.not_false, if_true, if_false, ite_true, ite_false, Nat.reduceEqDiff, Nat.reduceLT, true_and, List.map_cons, List.map_nil, Nat.zero_add, Nat.reduceBEq, ↓WPed, WPeu, Nat.reduceAdd, and_self, load_nm ho', load_nm (g4.get ho'), isnil_ptr, faddr_ptr, Nat.add_zero, bd_build R[k].1 u ou.one, bd_lit R[k].1 u ou.one, fl, a1]
   have ht : R.take (k + 1) = R.take k ++ [R[k]] := List.take_succ_eq_append_getElem hk'
   have hul : us.length = (R.take k).length := by have := hx3.len; simpa using this
   have hbd : bdVs (R.take (k + 1)) (us ++ [u]) = bdVs (R.take k) us ++ [bdV R[k].1 u] := by
    rw [ht]; unfold bdVs
    rw [List.zipWith_append hul.symm]; rfl
   refine ⟨R.length - (k + 1), by omega, k + 1, l', us ++ [u], by omega, rfl, by rw [wrap_i64 (by omega) (by omega), Int.natCast_add, Int.natCast_one], ?_, ?_, ?_⟩
   ·exact Keeps.trans (g03.trans g4) a3 fun i hi e => by have := g02.1; omega
   ·exact Keeps.trans (g23.trans g4) a3 fun i hi e => by omega
   ·rw [BRows, hbd, ht, List.map_append]; exact a2
  ·have : k = R.length := by omega
   subst this
   rw [List.take_length] at hx
   simp -dsimp only [↓WPd, ↓wpC_block, ↓wpC_cond, WPu, Bool.false_eq_true, Bool.true_eq_false, Bool.not_true, Bool.not_false, if_true, if_false, ite_true, ite_false, Nat.reduceEqDiff, Nat.reduceLT, true_and, List.map_cons, List.map_nil, Nat.zero_add, Nat.reduceBEq]
   exact ⟨l, us, rfl, g, hx⟩
 ·rintro e σ' env ⟨rfl, l, us, hv, g, hx⟩
  simp only [List.map_cons, List.map_nil, List.cons.injEq, and_true] at hv
  simp -dsimp only [↓WPd, ↓wpC_block, ↓wpC_cond, WPu, Bool.false_eq_true, Bool.true_eq_false, Bool.not_true, Bool.not_false, if_true, if_false, ite_true, ite_false, Nat.reduceEqDiff, Nat.reduceLT, true_and, List.map_cons, List.map_nil, Nat.zero_add, Nat.reduceBEq, hv]
  exact ⟨g, us, hx.lo g02.1⟩
end
def BdSl (σ : Store) (v : AVal) (R : Hp) : Prop := ∃ es, SlOf σ 3 v es ∧ Two (fun e p => ∃ u, e = bdV p.1 u ∧ SlOf σ 5 u (CC p.2)) es R
theorem BdSl.grow {σ σ' : Store} {v : AVal} {R : Hp} (h : BdSl σ v R) (g : Grows σ σ') : BdSl σ' v R := by
 obtain ⟨es, h1, h2⟩ := h
 exact ⟨es, h1.grow g, h2.mono fun e p ⟨u, hu, hs⟩ => ⟨u, hu, hs.grow g⟩⟩
theorem BdSl.len {σ : Store} {v : AVal} {R : Hp} (h : BdSl σ v R) : lenSV v = some R.length := by
 obtain ⟨es, h1, h2⟩ := h
 rw [← h2.len]; exact h1.len
theorem BdSl.at {σ : Store} {v : AVal} {R : Hp} (h : BdSl σ v R) {k : Nat} (hk : k < R.length) : ∃ q0 q2 u, iaddrV 3 v (.int .i64 k) = some (addrOf 3 v k) ∧ faddrV 0 (addrOf 3 v k) = some q0 ∧ loadV σ 2 true q0 = some (nmV R[k].1) ∧ faddrV 2 (addrOf 3 v k) = some q2 ∧ loadV σ 1 false q2 = some u ∧ SlOf σ 5 u (CC R[k].2) := by
 obtain ⟨es, h1, h2⟩ := h
 have hke : k < es.length := by rw [h2.len]; exact hk
 obtain ⟨e, he1, u, he2, he3⟩ := h2.get hk
 have hee : es[k] = e := by rw [List.getElem?_eq_getElem hke] at he1; exact Option.some.inj he1
 have hb := (h1.addr hke .i64).2
 rw [hee, he2] at hb
 have hb' : behind σ (addrOf 3 v k) = some (bdC (R[k]).1 u, 0) := hb
 obtain ⟨q0, p0, b0⟩ := faddr_at hb' 0
 obtain ⟨q2, p2, b2⟩ := faddr_at hb' 2
 exact ⟨q0, q2, u, h1.iaddr hke .i64, p0, loadN_at b0 (by simp [bdC]), p2, load_at b2, he3⟩
theorem RefP.bds {σ : Store} {A : Nat → Prop} {id : Nat} {R : Hp} (h : RefP σ A id R) : ∃ w, σ[id]? = some (.cells [w]) ∧ BdSl σ w R := by
 obtain ⟨w, es, h1, h2, _, h4⟩ := h
 exact ⟨w, h1, es, h2, h4.mono fun e p ⟨u, hu, hs, _⟩ => ⟨u, hu, hs⟩⟩
theorem bdVs_get {R : Hp} {us : List AVal} (h : us.length = R.length) {k : Nat} (hk : k < R.length) : (bdVs R us)[k]? = some (bdV R[k].1 (us[k]'(by omega))) := by
 unfold bdVs
 rw [List.getElem?_zipWith, List.getElem?_eq_getElem hk, List.getElem?_eq_getElem (by omega)]
theorem BRows.bds {σ : Store} {lo : Nat} {l : AVal} {us : List AVal} {R : Hp} (h : BRows σ lo l us R) : BdSl σ l R := by
 have hl : us.length = R.length := by have := h.len; simpa using this
 refine ⟨_, h.row.sl, Two.of_get (by rw [h.lex]; exact hl) fun i a b hi hj => ?_⟩
 obtain ⟨hk, rfl⟩ := List.getElem?_eq_some_iff.1 hj
 have e := bdVs_get hl hk
 rw [hi] at e
 exact ⟨us[i]'(by omega), Option.some.inj e, (h.one i (us[i]'(by omega)) (CC R[i].2) (List.getElem?_eq_getElem _) (by simp [hk])).sl⟩
section
variable (d : Nat) (σ : Store)
theorem hvalue_ok (hv : AVal) (H : Hp) (v : Nm) (h : HeapV σ hv H) (hs : ((lk H v).getD []).length < 2 ^ 30) : Called CU.cfg d 123 [hv, nmV v] σ fun r σ' => ∃ u, r = .tuple [u, .bool (lk H v).isSome] ∧ Own σ' 5 u (CC ((lk H v).getD [])) ∧ Fresh σ.length u ∧ NoLit u ∧ Grows σ σ' := by
 refine called_of (fn := CU.a123) rfl (Nat.le_of_ble_eq_true rfl) ?_
 simp only [CU.a123]
 simp -dsimp only [↓WPd, ↓wpC_block, ↓wpC_cond, WPu, Bool.false_eq_true, Bool.true_eq_false, Bool.not_true, Bool.not_false, if_true, if_false, ite_true, ite_false, Nat.reduceEqDiff, Nat.reduceLT, true_and, List.map_cons, List.map_nil, Nat.zero_add, Nat.reduceBEq, nm_cells, nm_one]
 have ho : (σ ++ [AObj.cells (nmC v)])[σ.length]? = some (.cells (nmC v)) := by simp
 have g0 : Grows σ (σ ++ [AObj.cells (nmC v)]) := Grows.app _ _
 have h1 := h.grow g0
 generalize σ ++ [AObj.cells (nmC v)] = σ1 at ho g0 h1
 simp -dsimp only [↓WPd, ↓wpC_block, ↓wpC_cond, WPu, Bool.false_eq_true, Bool.true_eq_false, Bool.not_true, Bool.not_false, if_true, if_false, ite_true, ite_false, Nat.reduceEqDiff, Nat.reduceLT, true_and, List.map_cons, List.map_nil, Nat.zero_add, Nat.reduceBEq, load_nm ho]
 refine calledW_of (value_ok d σ1 hv H v h1) ?_
 rintro r σ2 ⟨u, rfl, hu, g2⟩
 simp -dsimp only [↓WPd, ↓wpC_block, ↓wpC_cond, WPu, Bool.false_eq_true, Bool.true_eq_false, Bool.not_true, Bool.not_false, if_true, if_false, ite_true, ite_false, Nat.reduceEqDiff, Nat.reduceLT, true_and, List.map_cons, List.map_nil, Nat.zero_add, Nat.reduceBEq, List.getElem?_cons_zero, List.getElem?_cons_succ]
 refine calledW_of (cclone_ok d σ2 u _ hs (hu σ2)) ?_
 rintro w σ3 ⟨g3, ow, fw, nw⟩
 simp -dsimp only [↓WPd, ↓wpC_block, ↓wpC_cond, WPu, Bool.false_eq_true, Bool.true_eq_false, Bool.not_true, Bool.not_false, if_true, if_false, ite_true, ite_false, Nat.reduceEqDiff, Nat.reduceLT, true_and, List.map_cons, List.map_nil, Nat.zero_add, Nat.reduceBEq]
 exact ⟨w, rfl, ow, fw.le (g0.trans g2).1, nw, (g0.trans g2).trans g3⟩
end
theorem BdArg.all {v : AVal} {bs : Hp} (h : BdArg v bs) {k : Nat} (hk : k < bs.length) : ∃ q0 q2 u, iaddrV 3 v (.int .i64 k) = some (addrOf 3 v k) ∧ faddrV 0 (addrOf 3 v k) = some q0 ∧ (∀ σ, loadV σ 2 true q0 = some (nmV bs[k].1)) ∧ faddrV 2 (addrOf 3 v k) = some q2 ∧ (∀ σ, loadV σ 1 false q2 = some u) ∧ Told u bs[k].2 := by
 obtain ⟨es, h1, h2⟩ := h.row
 have hke : k < es.length := by rw [h2.len]; exact hk
 obtain ⟨e, he1, u, he2, he3⟩ := h2.get hk
 have hee : es[k] = e := by rw [List.getElem?_eq_getElem hke] at he1; exact Option.some.inj he1
 have hb : ∀ σ, behind σ (addrOf 3 v k) = some (bdC (bs[k]).1 u, 0) := fun σ => by
  have hb := ((h1 σ).addr hke .i64).2
  rw [hee, he2] at hb; exact hb
 obtain ⟨q0, p0, -⟩ := faddr_at (hb []) 0
 obtain ⟨q2, p2, -⟩ := faddr_at (hb []) 2
 refine ⟨q0, q2, u, (h1 []).iaddr hke .i64, p0, fun σ => ?_, p2, fun σ => ?_, he3⟩
 ·obtain ⟨q, r0, r1⟩ := faddr_at (hb σ) 0
  rw [p0] at r0
  rw [Option.some.inj r0]
  exact loadN_at r1 (by simp [bdC])
 ·obtain ⟨q, r0, r1⟩ := faddr_at (hb σ) 2
  rw [p2] at r0
  rw [Option.some.inj r0]
  exact load_at r1
section
variable (d : Nat) (σ : Store)
end
abbrev NN (ws : List Nm) : List AVal := ws.map nmV
theorem names_at {σ : Store} {l : AVal} {ws : List Nm} (hl : SlOf σ 2 l (NN ws)) {i : Nat} (hi : i < ws.length) : iaddrV 2 l (.int .i64 i) = some (addrOf 2 l i) ∧ loadV σ 2 true (addrOf 2 l i) = some (nmV ws[i]) := by
 have hi' : i < (NN ws).length := by rw [List.length_map]; exact hi
 exact ⟨hl.iaddr hi' .i64, hl.loadA hi' (cs := nmC ws[i]) (by rw [List.getElem_map]; rfl)⟩
theorem names_len {σ : Store} {l : AVal} {ws : List Nm} (hl : SlOf σ 2 l (NN ws)) : lenSV l = some ws.length := by
 have := hl.len; rwa [List.length_map] at this
theorem nm_lit (v : Nm) : fillL 2 true (List.replicate 1 (zel [AVal.int IntKind.i64 0, AVal.int IntKind.i64 0] true)) [(0, nmV v)] = some [nmV v] := rfl
theorem elems2 (tg : Nat) (σ : Store) (x : AVal) : elems 2 σ (.fslice tg true 2 [x]) = some [x] := elems_fs 2 tg true σ [x]
theorem contains_not {ws : List Nm} {v : Nm} (h : ∀ (j : Nat) (hj : j < ws.length), ws[j] ≠ v) : ws.contains v = false := by
 rw [Bool.eq_false_iff]
 intro hc
 rw [List.contains_iff_mem] at hc
 obtain ⟨j, hj, e⟩ := List.getElem_of_mem hc
 exact h j hj e
theorem contains_at {ws : List Nm} {v : Nm} {k : Nat} (hk : k < ws.length) (h : ws[k] = v) : ws.contains v = true := by
 rw [List.contains_iff_mem, ← h]; exact List.getElem_mem hk
section
variable (d : Nat) (σ : Store)
theorem nindex_ok (l : AVal) (ws : List Nm) (v : Nm) (hx : ws.length < 2 ^ 40) (hl : SlOf σ 2 l (NN ws)) :
  Called CU.cfg d 124 [l, nmV v] σ fun r σ' => (∃ i : Int, r = .int .i64 i ∧ decide (0 ≤ i) = ws.contains v) ∧ Grows σ σ' := by
 refine called_of (fn := CU.a124) rfl (Nat.le_of_ble_eq_true rfl) ?_
 simp only [CU.a124]
 have ll := names_len hl
 simp -dsimp only [↓WPd, ↓wpC_block, ↓wpC_cond, WPu, Bool.false_eq_true, Bool.true_eq_false, Bool.not_true, Bool.not_false, if_true, if_false, ite_true, ite_false, Nat.reduceEqDiff, Nat.reduceLT, true_and, List.map_cons, List.map_nil, Nat.zero_add, Nat.reduceBEq, nm_cells, nm_one, ll]
 have ho : (σ ++ [AObj.cells (nmC v)])[σ.length]? = some (.cells (nmC v)) := by simp
 have g0 : Grows σ (σ ++ [AObj.cells (nmC v)]) := Grows.app _ _
 have hl1 := hl.grow g0
 generalize σ ++ [AObj.cells (nmC v)] = σ1 at ho g0 hl1
 generalize σ.length = i1 at ho
 refine loop_rule2 (fun m vs σ' => ∃ k, k ≤ ws.length ∧ m = ws.length - k ∧ vs = [l, .ptr i1 0, .int .i64 ws.length, .int .i64 k] ∧ σ' = σ1 ∧ ∀ (j : Nat) (hj : j < ws.length), j < k → ws[j] ≠ v) [4]
  (fun e vs σ' => σ' = σ1 ∧ ((e = .exit 0 ∧ ws.contains v = false) ∨ (e = .ret ∧ ws.contains v = true ∧ ∃ k : Nat, vs = [.int .i64 k]))) ws.length ⟨0, Nat.zero_le _, rfl, ?_, rfl, fun j _ h => by omega⟩ ?_ ?_
 ·simp -dsimp only [↓WPd, ↓wpC_block, ↓wpC_cond, WPu, Bool.false_eq_true, Bool.true_eq_false, Bool.not_true, Bool.not_false, if_true, if_false, ite_true, ite_false, Nat.reduceEqDiff, Nat.reduceLT, true_and, List.map_cons, List.map_nil, Nat.zero_add, Nat.reduceBEq]; rfl
 ·rintro m vs σ' ⟨k, hk, rfl, rfl, rfl, hall⟩
  simp -dsimp only [↓WPd, ↓wpC_block, ↓wpC_cond, WPu, Bool.false_eq_true, Bool.true_eq_false, Bool.not_true, Bool.not_false, if_true, if_false, ite_true, ite_false, Nat.reduceEqDiff, Nat.reduceLT, true_and, List.map_cons, List.map_nil, Nat.zero_add, Nat.reduceBEq]
  refine condP_dec (fun h => ?_) (fun h => ?_)
  ·have hk' : k < ws.length := by omega
   obtain ⟨e1, e2⟩ := names_at hl1 hk'
   simp -dsimp only [↓WPd, ↓wpC_block, ↓wpC_cond, WPu, Bool.false_eq_true, Bool.true_eq_false, Bool.not_true, Bool.not_false, if_true, if_false, ite_true, ite_false, Nat.reduceEqDiff, Nat.reduceLT, true_and, List.map_cons, List.map_nil, Nat.zero_add, Nat.reduceBEq, e1, e2, load_nm ho, nm_eqs]
   refine condP_intro (fun h => ?_) (fun h => ?_)
   ·rw [decide_eq_true_eq] at h
    simp -dsimp only [↓WPd, ↓wpC_block, ↓wpC_cond, WPu, Bool.false_eq_true, Bool.true_eq_false, Bool.not_true, Bool.not_false, if_true, if_false, ite_true, ite_false, Nat.reduceEqDiff, Nat.reduceLT, true_and, List.map_cons, List.map_nil, Nat.zero_add, Nat.reduceBEq]
    exact .inr ⟨contains_at hk' h.symm, k, rfl⟩
   ·rw [decide_eq_false_iff_not] at h
    simp -dsimp only [↓WPd, ↓wpC_block, ↓wpC_cond, WPu, Bool.false_eq_true, Bool.true_eq_false, Bool.not_true, Bool.not_false, if_true, if_false, ite_true, ite_false, Nat.reduceEqDiff, Nat.reduceLT, true_and, List.map_cons, List.map_nil, Nat.zero_add, Nat.reduceBEq]
    refine ⟨ws.length - (k + 1), by omega, k + 1, by omega, rfl, by rw [wrap_i64 (by omega) (by omega), Int.natCast_add, Int.natCast_one], fun j hj hjk => ?_⟩
    by_cases e : j = k
    ·subst e; exact fun e => h e.symm
    ·exact hall j hj (by omega)
  ·simp -dsimp only [↓WPd, ↓wpC_block, ↓wpC_cond, WPu, Bool.false_eq_true, Bool.true_eq_false, Bool.not_true, Bool.not_false, if_true, if_false, ite_true, ite_false, Nat.reduceEqDiff, Nat.reduceLT, true_and, List.map_cons, List.map_nil, Nat.zero_add, Nat.reduceBEq]
   exact .inl (contains_not fun j hj => hall j hj (by omega))
 ·rintro e σ' env ⟨rfl, ⟨rfl, hno⟩ | ⟨rfl, hyes, k, hv⟩⟩
  ·simp -dsimp only [↓WPd, ↓wpC_block, ↓wpC_cond, WPu, Bool.false_eq_true, Bool.true_eq_false, Bool.not_true, Bool.not_false, if_true, if_false, ite_true, ite_false, Nat.reduceEqDiff, Nat.reduceLT, true_and, List.map_cons, List.map_nil, Nat.zero_add, Nat.reduceBEq]
   exact ⟨⟨_, rfl, by rw [hno]; rfl⟩, g0⟩
  ·simp only [List.map_cons, List.map_nil, List.cons.injEq, and_true] at hv
   simp -dsimp only [↓WPd, ↓wpC_block, ↓wpC_cond, WPu, Bool.false_eq_true, Bool.true_eq_false, Bool.not_true, Bool.not_false, if_true, if_false, ite_true, ite_false, Nat.reduceEqDiff, Nat.reduceLT, true_and, List.map_cons, List.map_nil, Nat.zero_add, Nat.reduceBEq, hv]
   exact ⟨⟨_, rfl, by rw [hyes]; simp⟩, g0⟩
theorem ncontains_ok (l : AVal) (ws : List Nm) (v : Nm) (hx : ws.length < 2 ^ 40) (hl : SlOf σ 2 l (NN ws)) :
  Called CU.cfg d 78 [l, nmV v] σ fun r σ' => r = .bool (ws.contains v) ∧ Grows σ σ' := by
 refine called_of (fn := CU.a78) rfl (Nat.le_of_ble_eq_true rfl) ?_
 simp only [CU.a78]
 simp -dsimp only [↓WPd, ↓wpC_block, ↓wpC_cond, WPu, Bool.false_eq_true, Bool.true_eq_false, Bool.not_true, Bool.not_false, if_true, if_false, ite_true, ite_false, Nat.reduceEqDiff, Nat.reduceLT, true_and, List.map_cons, List.map_nil, Nat.zero_add, Nat.reduceBEq, nm_cells, nm_one]
 have ho : (σ ++ [AObj.cells (nmC v)])[σ.length]? = some (.cells (nmC v)) := by simp
 have g0 : Grows σ (σ ++ [AObj.cells (nmC v)]) := Grows.app _ _
 have hl1 := hl.grow g0
 generalize σ ++ [AObj.cells (nmC v)] = σ1 at ho g0 hl1
 generalize σ.length = i1 at ho
 simp -dsimp only [↓WPd, ↓wpC_block, ↓wpC_cond, WPu, Bool.false_eq_true, Bool.true_eq_false, Bool.not_true, Bool.not_false, if_true, if_false, ite_true, ite_false, Nat.reduceEqDiff, Nat.reduceLT, true_and, List.map_cons, List.map_nil, Nat.zero_add, Nat.reduceBEq, load_nm ho]
 refine calledW_of (nindex_ok d σ1 l ws v hx hl1) ?_
 rintro r σ2 ⟨⟨i, rfl, hi⟩, g2⟩
 simp -dsimp only [↓WPd, ↓wpC_block, ↓wpC_cond, WPu, Bool.false_eq_true, Bool.true_eq_false, Bool.not_true, Bool.not_false, if_true, if_false, ite_true, ite_false, Nat.reduceEqDiff, Nat.reduceLT, true_and, List.map_cons, List.map_nil, Nat.zero_add, Nat.reduceBEq]
 have : decide (i ≥ 0) = ws.contains v := hi
 rw [this]
 exact ⟨rfl, g0.trans g2⟩
theorem hasname_ok (l : AVal) (ws : List Nm) (v : Nm) (hx : ws.length < 2 ^ 40) (hl : SlOf σ 2 l (NN ws)) :
  Called CU.cfg d 63 [l, nmV v] σ fun r σ' => r = .bool (ws.contains v) ∧ Grows σ σ' := by
 refine called_of (fn := CU.a63) rfl (Nat.le_of_ble_eq_true rfl) ?_
 simp only [CU.a63]
 have ll := names_len hl
 simp -dsimp only [↓WPd, ↓wpC_block, ↓wpC_cond, WPu, Bool.false_eq_true, Bool.true_eq_false, Bool.not_true, Bool.not_false, if_true, if_false, ite_true, ite_false, Nat.reduceEqDiff, Nat.reduceLT, true_and, List.map_cons, List.map_nil, Nat.zero_add, Nat.reduceBEq, nm_cells, nm_one]
 have ho : (σ ++ [AObj.cells (nmC v)])[σ.length]? = some (.cells (nmC v)) := by simp
 have g0 : Grows σ (σ ++ [AObj.cells (nmC v)]) := Grows.app _ _
 have hl1 := hl.grow g0
 generalize σ ++ [AObj.cells (nmC v)] = σ1 at ho g0 hl1
 generalize σ.length = i1 at ho
 refine loop_rule2 (fun m vs σ' => ∃ k, k ≤ ws.length ∧ m = ws.length - k ∧ vs = [l, .ptr i1 0, .int .i64 k] ∧ σ' = σ1 ∧ ∀ (j : Nat) (hj : j < ws.length), j < k → ws[j] ≠ v) [4]
  (fun e vs σ' => σ' = σ1 ∧ ((e = .exit 0 ∧ ws.contains v = false) ∨ (e = .ret ∧ ws.contains v = true ∧ vs = [.bool true]))) ws.length ⟨0, Nat.zero_le _, rfl, ?_, rfl, fun j _ h => by omega⟩ ?_ ?_
 ·simp -dsimp only [↓WPd, ↓wpC_block, ↓wpC_cond, WPu, Bool.false_eq_true, Bool.true_eq_false, Bool.not_true, Bool.not_false, if_true, if_false, ite_true, ite_false, Nat.reduceEqDiff, Nat.reduceLT, true_and, List.map_cons, List.map_nil, Nat.zero_add, Nat.reduceBEq]; rfl
 ·rintro m vs σ' ⟨k, hk, rfl, rfl, rfl, hall⟩
  simp -dsimp only [↓WPd, ↓wpC_block, ↓wpC_cond, WPu, Bool.false_eq_true, Bool.true_eq_false, Bool.not_true, Bool.not_false, if_true, if_false, ite_true, ite_false, Nat.reduceEqDiff, Nat.reduceLT, true_and, List.map_cons, List.map_nil, Nat.zero_add, Nat.reduceBEq, ll]
  refine condP_dec (fun h => ?_) (fun h => ?_)
  ·have hk' : k < ws.length := by omega
   obtain ⟨e1, e2⟩ := names_at hl1 hk'
   simp -dsimp only [↓WPd, ↓wpC_block, ↓wpC_cond, WPu, Bool.false_eq_true, Bool.true_eq_false, Bool.not_true, Bool.not_false, if_true, if_false, ite_true, ite_false, Nat.reduceEqDiff, Nat.reduceLT, true_and, List.map_cons, List.map_nil, Nat.zero_add, Nat.reduceBEq, e1, e2, load_nm ho, nm_eqs]
   refine condP_intro (fun h => ?_) (fun h => ?_)
   ·rw [decide_eq_true_eq] at h
    simp -dsimp only [↓WPd, ↓wpC_block, ↓wpC_cond, WPu, Bool.false_eq_true, Bool.true_eq_false, Bool.not_true, Bool.not_false, if_true, if_false, ite_true, ite_false, Nat.reduceEqDiff, Nat.reduceLT, true_and, List.map_cons, List.map_nil, Nat.zero_add, Nat.reduceBEq]
    exact .inr ⟨contains_at hk' h, trivial⟩
   ·rw [decide_eq_false_iff_not] at h
    simp -dsimp only [↓WPd, ↓wpC_block, ↓wpC_cond, WPu, Bool.false_eq_true, Bool.true_eq_false, Bool.not_true, Bool.not_false, if_true, if_false, ite_true, ite_false, Nat.reduceEqDiff, Nat.reduceLT, true_and, List.map_cons, List.map_nil, Nat.zero_add, Nat.reduceBEq]
    refine ⟨ws.length - (k + 1), by omega, k + 1, by omega, rfl, by rw [wrap_i64 (by omega) (by omega), Int.natCast_add, Int.natCast_one], fun j hj hjk => ?_⟩
    by_cases e : j = k
    ·subst e; exact h
    ·exact hall j hj (by omega)
  ·simp -dsimp only [↓WPd, ↓wpC_block, ↓wpC_cond, WPu, Bool.false_eq_true, Bool.true_eq_false, Bool.not_true, Bool.not_false, if_true, if_false, ite_true, ite_false, Nat.reduceEqDiff, Nat.reduceLT, true_and, List.map_cons, List.map_nil, Nat.zero_add, Nat.reduceBEq]
   exact .inl (contains_not fun j hj => hall j hj (by omega))
 ·rintro e σ' env ⟨rfl, ⟨rfl, hno⟩ | ⟨rfl, hyes, hv⟩⟩
  ·simp -dsimp only [↓WPd, ↓wpC_block, ↓wpC_cond, WPu, Bool.false_eq_true, Bool.true_eq_false, Bool.not_true, Bool.not_false, if_true, if_false, ite_true, ite_false, Nat.reduceEqDiff, Nat.reduceLT, true_and, List.map_cons, List.map_nil, Nat.zero_add, Nat.reduceBEq, hno]
   exact g0
  ·simp only [List.map_cons, List.map_nil, List.cons.injEq, and_true] at hv
   simp -dsimp only [↓WPd, ↓wpC_block, ↓wpC_cond, WPu, Bool.false_eq_true, Bool.true_eq_false, Bool.not_true, Bool.not_false, if_true, if_false, ite_true, ite_false, Nat.reduceEqDiff, Nat.reduceLT, true_and, List.map_cons, List.map_nil, Nat.zero_add, Nat.reduceBEq, hv, hyes]
   exact g0
theorem Own.name {σ : Store} {l : AVal} {ws : List Nm} (h : Own σ 2 l (NN ws)) (v : Nm) (hx : ws.length < 2 ^ 40) :
  ∃ l' σ', appendV σ 2 16 l [nmV v] = some (l', σ') ∧ Own σ' 2 l' (NN (ws ++ [v])) ∧ Keeps (fun i => l.sid = some i) σ σ' ∧ (∀ id, l'.sid = some id → l.sid = some id ∨ id = σ.length) ∧ NoLit l' := by
 obtain ⟨l', σ', a, b, c, e, f⟩ := h.append [nmV v] 16 (by simp only [List.length_map, List.length_singleton]; omega)
 exact ⟨l', σ', a, by simpa using b, c, e, f (.inr (by simp))⟩
end
theorem cel_put (σ : Store) (c : Cel) : storeV (σ ++ [AObj.cells [.int .u8 0, .str [], .int .i64 0, .int .i64 0, .int .i64 0]]) 5 (.ptr σ.length 0) c.val = some (σ ++ [AObj.cells c.cs]) := by
 have h : (σ ++ [AObj.cells [.int .u8 0, .str [], .int .i64 0, .int .i64 0, .int .i64 0]])[σ.length]? = some (.cells [.int .u8 0, .str [], .int .i64 0, .int .i64 0, .int .i64 0]) := by simp
 have e : c.val = .agg c.cs := rfl
 rw [e, storeN_cells (cs' := c.cs) (n := 5) h rfl rfl rfl, set_last]
theorem cela_at {σ : Store} {l : AVal} {t : List Cel} (hl : SlOf σ 5 l (CC t)) {i : Nat} (hi : i < t.length) : iaddrV 5 l (.int .i64 i) = some (addrOf 5 l i) ∧ loadV σ 5 true (addrOf 5 l i) = some (t[i]).val := by
 have hi' : i < (CC t).length := by rw [List.length_map]; exact hi
 exact ⟨hl.iaddr hi' .i64, hl.loadA hi' (cs := (t[i]).cs) (by rw [cel_get]; rfl)⟩
theorem Terms.at0 {σ : Store} {l : AVal} {ts : List (List Cel)} (h : Terms σ l ts) {i : Nat} (hi : i < ts.length) : ∃ e, SlOf σ 5 e (CC ts[i]) ∧ ∀ σ', Grows σ σ' → iaddrV 1 l (.int .i64 i) = some (addrOf 1 l i) ∧ loadV σ' 1 false (addrOf 1 l i) = some e := by
 obtain ⟨es, h1, h2⟩ := h
 have hi' : i < es.length := by rw [h2.len]; exact hi
 obtain ⟨e, he1, he2⟩ := h2.get hi
 have hee : es[i] = e := by rw [List.getElem?_eq_getElem hi'] at he1; exact Option.some.inj he1
 refine ⟨e, he2, fun σ' g => ⟨h1.iaddr hi' .i64, ?_⟩⟩
 have := (h1.grow g).load1 hi' (by rw [hee]; exact he2.one) 1
 rw [hee] at this; exact this
section
variable (d : Nat) (σ : Store)
theorem vars_ok (lv : AVal) (ts : List (List Cel)) (hx : ts.flatten.length < 2 ^ 30) (hn : ts.length < 2 ^ 30) (hl : Terms σ lv ts) :
  Called CU.cfg d 62 [lv] σ fun r σ' => Grows σ σ' ∧ Own σ' 2 r (NN (varsL [] ts.flatten)) ∧ Fresh σ.length r := by
 refine called_of (fn := CU.a62) rfl (Nat.le_of_ble_eq_true rfl) ?_
 simp only [CU.a62]
 have ll := hl.len
 simp -dsimp only [↓WPd, ↓wpC_block, ↓wpC_cond, WPu, Bool.false_eq_true, Bool.true_eq_false, Bool.not_true, Bool.not_false, if_true, if_false, ite_true, ite_false, Nat.reduceEqDiff, Nat.reduceLT, true_and, List.map_cons, List.map_nil, Nat.zero_add, Nat.reduceBEq, ll]
 refine loop_rule2 (fun m vs σ' => ∃ k acc, k ≤ ts.length ∧ m = ts.length - k ∧ vs = [acc, lv, .int .i64 ts.length, .int .i64 k] ∧ Grows σ σ' ∧ Own σ' 2 acc (NN (varsL [] (ts.take k).flatten)) ∧ Fresh σ.length acc) [3]
  (fun e vs σ' => e = .exit 0 ∧ ∃ acc, vs = [acc] ∧ Grows σ σ' ∧ Own σ' 2 acc (NN (varsL [] ts.flatten)) ∧ Fresh σ.length acc) ts.length ⟨0, .nilslice, Nat.zero_le _, rfl, ?_, Keeps.refl _ _, Own.nil _ _, Fresh.nil _⟩ ?_ ?_
 ·simp -dsimp only [↓WPd, ↓wpC_block, ↓wpC_cond, WPu, Bool.false_eq_true, Bool.true_eq_false, Bool.not_true, Bool.not_false, if_true, if_false, ite_true, ite_false, Nat.reduceEqDiff, Nat.reduceLT, true_and, List.map_cons, List.map_nil, Nat.zero_add, Nat.reduceBEq]; rfl
 ·rintro m vs σ' ⟨k, acc, hk, rfl, rfl, g, ha, fa⟩
  simp -dsimp only [↓WPd, ↓wpC_block, ↓wpC_cond, WPu, Bool.false_eq_true, Bool.true_eq_false, Bool.not_true, Bool.not_false, if_true, if_false, ite_true, ite_false, Nat.reduceEqDiff, Nat.reduceLT, true_and, List.map_cons, List.map_nil, Nat.zero_add, Nat.reduceBEq]
  refine condP_dec (fun h => ?_) (fun h => ?_)
  ·have hk' : k < ts.length := by omega
   obtain ⟨e, e3, e0⟩ := hl.at0 hk'
   obtain ⟨e1, e2⟩ := e0 σ' g
   have le := e3.len
   rw [List.length_map] at le
   have hf : (ts.take (k + 1)).flatten = (ts.take k).flatten ++ ts[k] := by
    rw [List.take_succ_eq_append_getElem hk', List.flatten_append]; simp only [List.flatten_cons, List.flatten_nil, List.append_nil]
   have hb := flat_le ts (k + 1)
   rw [hf, List.length_append] at hb
   simp -dsimp only [↓WPd, ↓wpC_block, ↓wpC_cond, WPu, Bool.false_eq_true, Bool.true_eq_false, Bool.not_true, Bool.not_false, if_true, if_false, ite_true, ite_false, Nat.reduceEqDiff, Nat.reduceLT, true_and, List.map_cons, List.map_nil, Nat.zero_add, Nat.reduceBEq, e1, e2, le]
   refine loop_rule2 (fun m vs σ2 => ∃ j acc, j ≤ (ts[k]).length ∧ m = (ts[k]).length - j ∧ vs = [acc, lv, .int .i64 ts.length, .int .i64 k, e, .int .i64 (ts[k]).length, .int .i64 j] ∧ Grows σ σ2 ∧ Own σ2 2 acc (NN (varsL [] ((ts.take k).flatten ++ (ts[k]).take j))) ∧ Fresh σ.length acc) [3, 8, 9, 10]
    (fun x vs σ2 => x = .exit 2 ∧ ∃ acc, vs = [acc, lv, .int .i64 ts.length, .int .i64 k] ∧ Grows σ σ2 ∧ Own σ2 2 acc (NN (varsL [] ((ts.take k).flatten ++ ts[k]))) ∧ Fresh σ.length acc) (ts[k]).length ⟨0, acc, Nat.zero_le _, rfl, ?_, g, by simpa using ha, fa⟩ ?_ ?_
   ·simp -dsimp only [↓WPd, ↓wpC_block, ↓wpC_cond, WPu, Bool.false_eq_true, Bool.true_eq_false, Bool.not_true, Bool.not_false, if_true, if_false, ite_true, ite_false, Nat.reduceEqDiff, Nat.reduceLT, true_and, List.map_cons, List.map_nil, Nat.zero_add, Nat.reduceBEq]; rfl
   ·rintro m vs σ2 ⟨j, acc, hj, rfl, rfl, g2, ha, fa⟩
    simp -dsimp only [↓WPd, ↓wpC_block, ↓wpC_cond, WPu, Bool.false_eq_true, Bool.true_eq_false, Bool.not_true, Bool.not_false, if_true, if_false, ite_true, ite_false, Nat.reduceEqDiff, Nat.reduceLT, true_and, List.map_cons, List.map_nil, Nat.zero_add, Nat.reduceBEq]
    refine condP_dec (fun h => ?_) (fun h => ?_)
    ·have hj' : j < (ts[k]).length := by omega
     have he := e3.grow g2
     obtain ⟨a1, a2⟩ := cela_at he hj'
     have hv := varsL_snoc [] ((ts.take k).flatten ++ (ts[k]).take j) (ts[k])[j]
     rw [List.append_assoc, ← List.take_succ_eq_append_getElem hj'] at hv
     have hvl := varsL_len [] ((ts.take k).flatten ++ (ts[k]).take j)
     rw [List.length_append, List.length_take] at hvl
     simp only [List.length_nil] at hvl
     simp -dsimp only [↓WPd, ↓wpC_block, ↓wpC_cond, WPu, Bool.false_eq_true, Bool.true_eq_false, Bool.not_true, Bool.not_false, if_true, if_false, ite_true, ite_false, Nat.reduceEqDiff, Nat.reduceLT, true_and, List.map_cons, List.map_nil, Nat.zero_add, Nat.reduceBEq, a1, a2, cel_put]
     generalize hcc : (ts[k])[j] = c at *
     have oc : (σ2 ++ [AObj.cells c.cs])[σ2.length]? = some (.cells c.cs) := by simp
     have g3 : Grows σ2 (σ2 ++ [AObj.cells c.cs]) := Grows.app _ _
     have he3 := he.grow g3
     have ha3 := ha.grow g3
     have gg := g2.trans g3
     generalize σ2 ++ [AObj.cells c.cs] = σ3 at oc g3 he3 ha3 gg
     generalize σ2.length = ic at oc
     have k4 : ((c.k : Int) == 4) = decide (c.k = 4) := by by_cases h : c.k = 4 <;> simp [h] <;> omega
     simp -dsimp only [↓WPd, ↓wpC_block, ↓wpC_cond, WPu, Bool.false_eq_true, Bool.true_eq_false, Bool.not_true, Bool.not_false, if_true, if_false, ite_true, ite_false, Nat.reduceEqDiff, Nat.reduceLT, true_and, List.map_cons, List.map_nil, Nat.zero_add, Nat.reduceBEq, faddr_ptr, Nat.add_zero, load_cells oc, Cel.g0, k4]
     by_cases h4 : c.k = 4
     ·simp -dsimp only [↓WPd, ↓wpC_block, ↓wpC_cond, WPu, Bool.false_eq_true, Bool.true_eq_false, Bool.not_true, Bool.not_false, if_true, if_false, ite_true, ite_false, Nat.reduceEqDiff, Nat.reduceLT, true_and, List.map_cons, List.map_nil, Nat.zero_add, Nat.reduceBEq, decide_eq_true h4, faddr_ptr, Nat.zero_add, celvar_load oc]
      refine calledW_of (ncontains_ok d σ3 acc _ c.v (by omega) ha3.sl) ?_
      rintro r σ4 ⟨rfl, g4⟩
      have oc4 := g4.get oc
      have he4 := he3.grow g4
      have ha4 := ha3.grow g4
      simp -dsimp only [↓WPd, ↓wpC_block, ↓wpC_cond, WPu, Bool.false_eq_true, Bool.true_eq_false, Bool.not_true, Bool.not_false, if_true, if_false, ite_true, ite_false, Nat.reduceEqDiff, Nat.reduceLT, true_and, List.map_cons, List.map_nil, Nat.zero_add, Nat.reduceBEq]
      rw [if_pos h4, addN] at hv
      refine condP_intro (fun hc => ?_) (fun hc => ?_)
      ·simp only [Bool.not_eq_true'] at hc
       rw [hc, if_neg (by simp)] at hv
       obtain ⟨l', σ5, p1, p2, p3, p4, p5⟩ := ha4.name c.v (by omega)
       simp -dsimp only [↓WPd, ↓wpC_block, ↓wpC_cond, WPu, Bool.false_eq_true, Bool.true_eq_false, Bool.not_true, Bool.not_false, if_true, if_false, ite_true, ite_false, Nat.reduceEqDiff, Nat.reduceLT, true_and, List.map_cons, List.map_nil, Nat.zero_add, Nat.reduceBEq, faddr_ptr, Nat.add_zero, celvar_load oc4, nm_lit, elems2, p1]
       refine ⟨(ts[k]).length - (j + 1), by omega, j + 1, l', by omega, rfl, by rw [wrap_i64 (by omega) (by omega), Int.natCast_add, Int.natCast_one], ?_, ?_, ?_⟩
       ·exact Keeps.trans (gg.trans g4) p3 fun i hi e => by have := fa i e; omega
       ·rw [hv]; exact p2
       ·intro i hi
        rcases p4 i hi with e | e
        ·exact fa i e
        ·have := (gg.trans g4).1; omega
      ·simp only [Bool.not_eq_false'] at hc
       rw [hc, if_pos rfl] at hv
       simp -dsimp only [↓WPd, ↓wpC_block, ↓wpC_cond, WPu, Bool.false_eq_true, Bool.true_eq_false, Bool.not_true, Bool.not_false, if_true, if_false, ite_true, ite_false, Nat.reduceEqDiff, Nat.reduceLT, true_and, List.map_cons, List.map_nil, Nat.zero_add, Nat.reduceBEq]
       refine ⟨(ts[k]).length - (j + 1), by omega, j + 1, acc, by omega, rfl, by rw [wrap_i64 (by omega) (by omega), Int.natCast_add, Int.natCast_one], gg.trans g4, ?_, fa⟩
       rw [hv]; exact ha4
     ·rw [if_neg h4] at hv
      simp -dsimp only [↓WPd, ↓wpC_block, ↓wpC_cond, WPu, Bool.false_eq_true, Bool.true_eq_false, Bool.not_true, Bool.not_false, if_true, if_false, ite_true, ite_false, Nat.reduceEqDiff, Nat.reduceLT, true_and, List.map_cons, List.map_nil, Nat.zero_add, Nat.reduceBEq, decide_eq_false h4]
      refine ⟨(ts[k]).length - (j + 1), by omega, j + 1, acc, by omega, rfl, by rw [wrap_i64 (by omega) (by omega), Int.natCast_add, Int.natCast_one], gg, ?_, fa⟩
      rw [hv]; exact ha3
    ·have : j = (ts[k]).length := by omega
     subst this
     rw [List.take_length] at ha
     simp -dsimp only [↓WPd, ↓wpC_block, ↓wpC_cond, WPu, Bool.false_eq_true, Bool.true_eq_false, Bool.not_true, Bool.not_false, if_true, if_false, ite_true, ite_false, Nat.reduceEqDiff, Nat.reduceLT, true_and, List.map_cons, List.map_nil, Nat.zero_add, Nat.reduceBEq]
     exact ⟨acc, rfl, g2, ha, fa⟩
   ·rintro x σ2 env ⟨rfl, acc, hv, g2, ha, fa⟩
    simp only [List.map_cons, List.map_nil, List.cons.injEq, and_true] at hv
    obtain ⟨v1, v2, v3, v4⟩ := hv
    simp -dsimp only [↓WPd, ↓wpC_block, ↓wpC_cond, WPu, Bool.false_eq_true, Bool.true_eq_false, Bool.not_true, Bool.not_false, if_true, if_false, ite_true, ite_false, Nat.reduceEqDiff, Nat.reduceLT, true_and, List.map_cons, List.map_nil, Nat.zero_add, Nat.reduceBEq, v1, v2, v3, v4]
    refine ⟨ts.length - (k + 1), by omega, k + 1, acc, by omega, rfl, by rw [wrap_i64 (by omega) (by omega), Int.natCast_add, Int.natCast_one], g2, ?_, fa⟩
    rw [hf]; exact ha
  ·have : k = ts.length := by omega
   subst this
   rw [List.take_length] at ha
   simp -dsimp only [↓WPd, ↓wpC_block, ↓wpC_cond, WPu, Bool.false_eq_true, Bool.true_eq_false, Bool.not_true, Bool.not_false, if_true, if_false, ite_true, ite_false, Nat.reduceEqDiff, Nat.reduceLT, true_and, List.map_cons, List.map_nil, Nat.zero_add, Nat.reduceBEq]
   exact ⟨acc, rfl, g, ha, fa⟩
 ·rintro e σ' env ⟨rfl, acc, hv, g, ha, fa⟩
  simp only [List.map_cons, List.map_nil, List.cons.injEq, and_true] at hv
  simp -dsimp only [↓WPd, ↓wpC_block, ↓wpC_cond, WPu, Bool.false_eq_true, Bool.true_eq_false, Bool.not_true, Bool.not_false, if_true, if_false, ite_true, ite_false, Nat.reduceEqDiff, Nat.reduceLT, true_and, List.map_cons, List.map_nil, Nat.zero_add, Nat.reduceBEq, hv]
  exact ⟨g, ha, fa⟩
theorem rvars_ok (lv : AVal) (ts : List (List Cel)) (hx : ts.flatten.length < 2 ^ 30) (hn : ts.length < 2 ^ 30) (hl : Terms σ lv ts) :
  Called CU.cfg d 66 [lv] σ fun r σ' => Grows σ σ' ∧ Own σ' 2 r (NN (varsL [] ts.flatten)) ∧ Fresh σ.length r := by
 refine called_of (fn := CU.a66) rfl (Nat.le_of_ble_eq_true rfl) ?_
 simp only [CU.a66]
 have ll := hl.len
 simp -dsimp only [↓WPd, ↓wpC_block, ↓wpC_cond, WPu, Bool.false_eq_true, Bool.true_eq_false, Bool.not_true, Bool.not_false, if_true, if_false, ite_true, ite_false, Nat.reduceEqDiff, Nat.reduceLT, true_and, List.map_cons, List.map_nil, Nat.zero_add, Nat.reduceBEq, ll]
 refine loop_rule2 (fun m vs σ' => ∃ k acc, k ≤ ts.length ∧ m = ts.length - k ∧ vs = [lv, acc, .int .i64 k] ∧ Grows σ σ' ∧ Own σ' 2 acc (NN (varsL [] (ts.take k).flatten)) ∧ Fresh σ.length acc) [3]
  (fun e vs σ' => e = .exit 0 ∧ ∃ acc, vs = [acc] ∧ Grows σ σ' ∧ Own σ' 2 acc (NN (varsL [] ts.flatten)) ∧ Fresh σ.length acc) ts.length ⟨0, .nilslice, Nat.zero_le _, rfl, ?_, Keeps.refl _ _, Own.nil _ _, Fresh.nil _⟩ ?_ ?_
 ·simp -dsimp only [↓WPd, ↓wpC_block, ↓wpC_cond, WPu, Bool.false_eq_true, Bool.true_eq_false, Bool.not_true, Bool.not_false, if_true, if_false, ite_true, ite_false, Nat.reduceEqDiff, Nat.reduceLT, true_and, List.map_cons, List.map_nil, Nat.zero_add, Nat.reduceBEq]; rfl
 ·rintro m vs σ' ⟨k, acc, hk, rfl, rfl, g, ha, fa⟩
  simp -dsimp only [↓WPd, ↓wpC_block, ↓wpC_cond, WPu, Bool.false_eq_true, Bool.true_eq_false, Bool.not_true, Bool.not_false, if_true, if_false, ite_true, ite_false, Nat.reduceEqDiff, Nat.reduceLT, true_and, List.map_cons, List.map_nil, Nat.zero_add, Nat.reduceBEq, ll]
  refine condP_dec (fun h => ?_) (fun h => ?_)
  ·have hk' : k < ts.length := by omega
   obtain ⟨e, e3, e0⟩ := hl.at0 hk'
   obtain ⟨e1, e2⟩ := e0 σ' g
   have le := e3.len
   rw [List.length_map] at le
   have hf : (ts.take (k + 1)).flatten = (ts.take k).flatten ++ ts[k] := by
    rw [List.take_succ_eq_append_getElem hk', List.flatten_append]; simp only [List.flatten_cons, List.flatten_nil, List.append_nil]
   have hb := flat_le ts (k + 1)
   rw [hf, List.length_append] at hb
   simp -dsimp only [↓WPd, ↓wpC_block, ↓wpC_cond, WPu, Bool.false_eq_true, Bool.true_eq_false, Bool.not_true, Bool.not_false, if_true, if_false, ite_true, ite_false, Nat.reduceEqDiff, Nat.reduceLT, true_and, List.map_cons, List.map_nil, Nat.zero_add, Nat.reduceBEq]
   refine loop_rule2 (fun m vs σ2 => ∃ j acc, j ≤ (ts[k]).length ∧ m = (ts[k]).length - j ∧ vs = [lv, acc, .int .i64 k, .int .i64 j] ∧ Grows σ σ2 ∧ Own σ2 2 acc (NN (varsL [] ((ts.take k).flatten ++ (ts[k]).take j))) ∧ Fresh σ.length acc) [0, 3, 4]
    (fun x vs σ2 => x = .exit 2 ∧ ∃ acc, vs = [lv, acc, .int .i64 k] ∧ Grows σ σ2 ∧ Own σ2 2 acc (NN (varsL [] ((ts.take k).flatten ++ ts[k]))) ∧ Fresh σ.length acc) (ts[k]).length ⟨0, acc, Nat.zero_le _, rfl, ?_, g, by simpa using ha, fa⟩ ?_ ?_
   ·simp -dsimp only [↓WPd, ↓wpC_block, ↓wpC_cond, WPu, Bool.false_eq_true, Bool.true_eq_false, Bool.not_true, Bool.not_false, if_true, if_false, ite_true, ite_false, Nat.reduceEqDiff, Nat.reduceLT, true_and, List.map_cons, List.map_nil, Nat.zero_add, Nat.reduceBEq]; rfl
   ·rintro m vs σ2 ⟨j, acc, hj, rfl, rfl, g2, ha, fa⟩
    obtain ⟨b1, b2⟩ := e0 σ2 g2
    simp -dsimp only [↓WPd, ↓wpC_block, ↓wpC_cond, WPu, Bool.false_eq_true, Bool.true_eq_false, Bool.not_true, Bool.not_false, if_true, if_false, ite_true, ite_false, Nat.reduceEqDiff, Nat.reduceLT, true_and, List.map_cons, List.map_nil, Nat.zero_add, Nat.reduceBEq, b1, b2, le]
    refine condP_dec (fun h => ?_) (fun h => ?_)
    ·have hj' : j < (ts[k]).length := by omega
     have he := e3.grow g2
     obtain ⟨a1, a2⟩ := cela_at he hj'
     have hv := varsL_snoc [] ((ts.take k).flatten ++ (ts[k]).take j) (ts[k])[j]
     rw [List.append_assoc, ← List.take_succ_eq_append_getElem hj'] at hv
     have hvl := varsL_len [] ((ts.take k).flatten ++ (ts[k]).take j)
     rw [List.length_append, List.length_take] at hvl
     simp only [List.length_nil] at hvl
     simp -dsimp only [↓WPd, ↓wpC_block, ↓wpC_cond, WPu, Bool.false_eq_true, Bool.true_eq_false, Bool.not_true, Bool.not_false, if_true, if_false, ite_true, ite_false, Nat.reduceEqDiff, Nat.reduceLT, true_and, List.map_cons, List.map_nil, Nat.zero_add, Nat.reduceBEq, b1, b2, a1, a2, cel_put]
     generalize hcc : (ts[k])[j] = c at *
     have oc : (σ2 ++ [AObj.cells c.cs])[σ2.length]? = some (.cells c.cs) := by simp
     have g3 : Grows σ2 (σ2 ++ [AObj.cells c.cs]) := Grows.app _ _
     have he3 := he.grow g3
     have ha3 := ha.grow g3
     have gg := g2.trans g3
     generalize σ2 ++ [AObj.cells c.cs] = σ3 at oc g3 he3 ha3 gg
     generalize σ2.length = ic at oc
     have k4 : ((c.k : Int) == 4) = decide (c.k = 4) := by by_cases h : c.k = 4 <;> simp [h] <;> omega
     simp -dsimp only [↓WPd, ↓wpC_block, ↓wpC_cond, WPu, Bool.false_eq_true, Bool.true_eq_false, Bool.not_true, Bool.not_false, if_true, if_false, ite_true, ite_false, Nat.reduceEqDiff, Nat.reduceLT, true_and, List.map_cons, List.map_nil, Nat.zero_add, Nat.reduceBEq, faddr_ptr, Nat.add_zero, load_cells oc, Cel.g0, k4]
     by_cases h4 : c.k = 4
     ·simp -dsimp only [↓WPd, ↓wpC_block, ↓wpC_cond, WPu, Bool.false_eq_true, Bool.true_eq_false, Bool.not_true, Bool.not_false, if_true, if_false, ite_true, ite_false, Nat.reduceEqDiff, Nat.reduceLT, true_and, List.map_cons, List.map_nil, Nat.zero_add, Nat.reduceBEq, decide_eq_true h4, faddr_ptr, Nat.zero_add, celvar_load oc]
      refine calledW_of (hasname_ok d σ3 acc _ c.v (by omega) ha3.sl) ?_
      rintro r σ4 ⟨rfl, g4⟩
      have oc4 := g4.get oc
      have he4 := he3.grow g4
      have ha4 := ha3.grow g4
      simp -dsimp only [↓WPd, ↓wpC_block, ↓wpC_cond, WPu, Bool.false_eq_true, Bool.true_eq_false, Bool.not_true, Bool.not_false, if_true, if_false, ite_true, ite_false, Nat.reduceEqDiff, Nat.reduceLT, true_and, List.map_cons, List.map_nil, Nat.zero_add, Nat.reduceBEq]
      rw [if_pos h4, addN] at hv
      refine condP_intro (fun hc => ?_) (fun hc => ?_)
      ·simp only [Bool.not_eq_true'] at hc
       rw [hc, if_neg (by simp)] at hv
       obtain ⟨l', σ5, p1, p2, p3, p4, p5⟩ := ha4.name c.v (by omega)
       simp -dsimp only [↓WPd, ↓wpC_block, ↓wpC_cond, WPu, Bool.false_eq_true, Bool.true_eq_false, Bool.not_true, Bool.not_false, if_true, if_false, ite_true, ite_false, Nat.reduceEqDiff, Nat.reduceLT, true_and, List.map_cons, List.map_nil, Nat.zero_add, Nat.reduceBEq, faddr_ptr, Nat.add_zero, celvar_load oc4, nm_lit, elems2, p1]
       refine ⟨(ts[k]).length - (j + 1), by omega, j + 1, l', by omega, rfl, by rw [wrap_i64 (by omega) (by omega), Int.natCast_add, Int.natCast_one], ?_, ?_, ?_⟩
       ·exact Keeps.trans (gg.trans g4) p3 fun i hi e => by have := fa i e; omega
       ·rw [hv]; exact p2
       ·intro i hi
        rcases p4 i hi with e | e
        ·exact fa i e
        ·have := (gg.trans g4).1; omega
      ·simp only [Bool.not_eq_false'] at hc
       rw [hc, if_pos rfl] at hv
       simp -dsimp only [↓WPd, ↓wpC_block, ↓wpC_cond, WPu, Bool.false_eq_true, Bool.true_eq_false, Bool.not_true, Bool.not_false, if_true, if_false, ite_true, ite_false, Nat.reduceEqDiff, Nat.reduceLT, true_and, List.map_cons, List.map_nil, Nat.zero_add, Nat.reduceBEq]
       refine ⟨(ts[k]).length - (j + 1), by omega, j + 1, acc, by omega, rfl, by rw [wrap_i64 (by omega) (by omega), Int.natCast_add, Int.natCast_one], gg.trans g4, ?_, fa⟩
       rw [hv]; exact ha4
     ·rw [if_neg h4] at hv
      simp -dsimp only [↓WPd, ↓wpC_block, ↓wpC_cond, WPu, Bool.false_eq_true, Bool.true_eq_false, Bool.not_true, Bool.not_false, if_true, if_false, ite_true, ite_false, Nat.reduceEqDiff, Nat.reduceLT, true_and, List.map_cons, List.map_nil, Nat.zero_add, Nat.reduceBEq, decide_eq_false h4]
      refine ⟨(ts[k]).length - (j + 1), by omega, j + 1, acc, by omega, rfl, by rw [wrap_i64 (by omega) (by omega), Int.natCast_add, Int.natCast_one], gg, ?_, fa⟩
      rw [hv]; exact ha3
    ·have : j = (ts[k]).length := by omega
     subst this
     rw [List.take_length] at ha
     simp -dsimp only [↓WPd, ↓wpC_block, ↓wpC_cond, WPu, Bool.false_eq_true, Bool.true_eq_false, Bool.not_true, Bool.not_false, if_true, if_false, ite_true, ite_false, Nat.reduceEqDiff, Nat.reduceLT, true_and, List.map_cons, List.map_nil, Nat.zero_add, Nat.reduceBEq]
     exact ⟨acc, rfl, g2, ha, fa⟩
   ·rintro x σ2 env ⟨rfl, acc, hv, g2, ha, fa⟩
    simp only [List.map_cons, List.map_nil, List.cons.injEq, and_true] at hv
    obtain ⟨v1, v2, v3⟩ := hv
    simp -dsimp only [↓WPd, ↓wpC_block, ↓wpC_cond, WPu, Bool.false_eq_true, Bool.true_eq_false, Bool.not_true, Bool.not_false, if_true, if_false, ite_true, ite_false, Nat.reduceEqDiff, Nat.reduceLT, true_and, List.map_cons, List.map_nil, Nat.zero_add, Nat.reduceBEq, v1, v2, v3]
    refine ⟨ts.length - (k + 1), by omega, k + 1, acc, by omega, rfl, by rw [wrap_i64 (by omega) (by omega), Int.natCast_add, Int.natCast_one], g2, ?_, fa⟩
    rw [hf]; exact ha
  ·have : k = ts.length := by omega
   subst this
   rw [List.take_length] at ha
   simp -dsimp only [↓WPd, ↓wpC_block, ↓wpC_cond, WPu, Bool.false_eq_true, Bool.true_eq_false, Bool.not_true, Bool.not_false, if_true, if_false, ite_true, ite_false, Nat.reduceEqDiff, Nat.reduceLT, true_and, List.map_cons, List.map_nil, Nat.zero_add, Nat.reduceBEq]
   exact ⟨acc, rfl, g, ha, fa⟩
 ·rintro e σ' env ⟨rfl, acc, hv, g, ha, fa⟩
  simp only [List.map_cons, List.map_nil, List.cons.injEq, and_true] at hv
  simp -dsimp only [↓WPd, ↓wpC_block, ↓wpC_cond, WPu, Bool.false_eq_true, Bool.true_eq_false, Bool.not_true, Bool.not_false, if_true, if_false, ite_true, ite_false, Nat.reduceEqDiff, Nat.reduceLT, true_and, List.map_cons, List.map_nil, Nat.zero_add, Nat.reduceBEq, hv]
  exact ⟨g, ha, fa⟩
end
def tryC (k : Nat) (lv wv : AVal) : List AVal := [.int .u8 k, .int .i64 (-1), lv, wv]
abbrev tryZ : List AVal := [.int .u8 0, .int .i64 0, .nilslice, .nilslice]
theorem try_put {σ σ' : Store} {i : Nat} {k : Nat} {lv wv : AVal} (h : σ[i]? = some (.cells tryZ)) (hl : lv.one = true) (hw : wv.one = true) :
  storeV σ 4 (.ptr i 0) (.agg (tryC k lv wv)) = some (σ.set i (.cells (tryC k lv wv))) ∧ loadV (σ.set i (.cells (tryC k lv wv))) 4 true (.ptr i 0) = some (.agg (tryC k lv wv)) := by
 refine ⟨storeN_cells (n := 4) (cs' := tryC k lv wv) h rfl rfl ?_, loadN_cells (get_set h) rfl⟩
 simp only [tryC, List.all_cons, List.all_nil, hl, hw]; rfl
section
variable (d : Nat) (σ : Store)
end
theorem SlOf.noMap {σ : Store} {sz : Nat} {v : AVal} {es ks vs : List AVal} {id : Nat} (h : SlOf σ sz v es) (ho : σ[id]? = some (.map ks vs)) : v.sid ≠ some id := by
 intro hs
 rcases h.cases with ⟨rfl, _⟩ | ⟨t, f, rfl⟩ | ⟨id', ep, off, cap, sz', xs, epo, fl, rfl, h1, _⟩
 ·cases hs
 ·cases hs
 ·injection hs with hs; subst hs; rw [ho] at h1; cases h1
def delN (H : Hp) (v : Nm) : Hp := H.filter fun p => decide (p.1 ≠ v)
theorem WF.filter {H : Hp} (h : WF H) (f : Nm × List Cel → Bool) : WF (H.filter f) :=
 ⟨(List.filter_sublist.map _).nodup h.keys, fun p hp => h.ok p (List.mem_filter.1 hp).1⟩
theorem Two.erase {α β : Type} {Q : α → β → Prop} {us : List α} {ws : List β} (h : Two Q us ws) (i : Nat) : Two Q (us.eraseIdx i) (ws.eraseIdx i) := by
 rw [List.eraseIdx_eq_take_drop_succ, List.eraseIdx_eq_take_drop_succ]
 exact (h.take i).append (h.drop (i + 1))
def dropH (H : Hp) (ws : List Nm) : Hp := ws.foldl delN H
def dropR (R : Hp) (ws : List Nm) : Hp := R.filter fun p => !ws.contains p.1
theorem dropH_eq : ∀ (ws : List Nm) (H : Hp), dropH H ws = H.filter fun p => !ws.contains p.1
 | [], H => by
  simp only [dropH, List.foldl_nil]
  exact (List.filter_eq_self.2 fun _ _ => by simp).symm
 | v :: ws, H => by
  have ih := dropH_eq ws (delN H v)
  simp only [dropH, List.foldl_cons] at ih ⊢
  rw [ih, delN, List.filter_filter]
  congr 1
  funext p
  by_cases e : p.1 = v
  ·simp [e]
  ·have e2 : ¬ (v = p.1) := fun h => e h.symm
   simp [List.contains_cons, e]
theorem Same.drop {H R : Hp} (h : Same H R) (ws : List Nm) : Same (dropH H ws) (dropR R ws) := by
 rw [dropH_eq]
 exact ⟨h.wf.filter _, h.perm.filter _, List.Pairwise.sublist List.filter_sublist h.rise⟩
section
variable (d : Nat) (σ : Store)
end
def garb (R : Hp) (l : List Nm) : List Nm := (R.map (·.1)).filter fun v => !l.contains v
def addB (l bs : List Nm) (v b : Nm) : List Nm := if l.contains v then bs else bs ++ [b]
structure Come (H : Hp) (rs l bs : List Nm) : Prop where
 len : bs.length = l.length
 by_ : ∀ (j : Nat) (hj : j < l.length) (hb : j < bs.length), (l[j] ∈ rs ∧ bs[j] = l[j]) ∨ ∃ (i : Nat) (hi : i < j), bs[j] = l[i]'(by omega) ∧ l[j] ∈ stepN H (l[i]'(by omega))
theorem Come.nil (H : Hp) (rs : List Nm) : Come H rs [] [] := ⟨rfl, fun j hj => by simp at hj⟩
theorem Come.add {H : Hp} {rs l bs : List Nm} (h : Come H rs l bs) {v b : Nm} (hv : (v ∈ rs ∧ b = v) ∨ ∃ (i : Nat) (hi : i < l.length), b = l[i] ∧ v ∈ stepN H l[i]) : Come H rs (addN l v) (addB l bs v b) := by
 unfold addN addB
 by_cases hc : l.contains v = true
 ·rw [if_pos hc, if_pos hc]; exact h
 ·rw [if_neg hc, if_neg hc]
  refine ⟨by simp [h.len], fun j hj hb => ?_⟩
  by_cases hjl : j < l.length
  ·have e1 : (l ++ [v])[j] = l[j] := List.getElem_append_left hjl
   have e2 : (bs ++ [b])[j] = bs[j]'(by rw [h.len]; exact hjl) := List.getElem_append_left (by rw [h.len]; exact hjl)
   rw [e1, e2]
   rcases h.by_ j hjl (by rw [h.len]; exact hjl) with h1 | ⟨i, hi, h1, h2⟩
   ·exact .inl h1
   ·refine .inr ⟨i, hi, ?_, ?_⟩
    ·rw [h1, List.getElem_append_left (by omega)]
    ·rw [List.getElem_append_left (by omega)]; exact h2
  ·have hj' : j = l.length := by simp at hj; omega
   subst hj'
   have e1 : (l ++ [v])[l.length] = v := by simp
   have e2 : (bs ++ [b])[l.length]'hb = b := by simp [← h.len]
   rw [e1, e2]
   rcases hv with h1 | ⟨i, hi, h1, h2⟩
   ·exact .inl h1
   ·refine .inr ⟨i, hi, ?_, ?_⟩
    ·rw [h1, List.getElem_append_left hi]
    ·rw [List.getElem_append_left hi]; exact h2
theorem BRows.keeps {σ σ' : Store} {M : Nat → Prop} {lo : Nat} {l : AVal} {us : List AVal} {R : Hp} (h : BRows σ lo l us R) (g : Keeps M σ σ') (hm : ∀ i, i < σ.length → lo ≤ i → ¬ M i) : BRows σ' lo l us R := XRows.keeps h g hm
theorem Told.at {u : AVal} {t : List Cel} (h : Told u t) (σ : Store) : SlOf σ 5 u (CC t) := h σ
theorem XRows.at {σ : Store} {lo sz : Nat} {l : AVal} {es : List AVal} {ps : List (List AVal)} (h : XRows σ lo 1 sz l es es ps) {i : Nat} (hi : i < ps.length) :
  ∃ e, es[i]? = some e ∧ iaddrV 1 l (.int .i64 i) = some (addrOf 1 l i) ∧ loadV σ 1 false (addrOf 1 l i) = some e ∧ Own σ sz e ps[i] ∧ NoLit e := by
 have hi' : i < es.length := by rw [h.len]; exact hi
 have o := h.one i es[i] ps[i] (List.getElem?_eq_getElem hi') (List.getElem?_eq_getElem hi)
 exact ⟨es[i], List.getElem?_eq_getElem hi', h.row.sl.iaddr hi' .i64, h.row.sl.load1 hi' o.one 1, o, h.lit i _ (List.getElem?_eq_getElem hi')⟩
theorem HeapV.none (σ : Store) : HeapV σ .nilptr [] := .inl ⟨rfl, rfl⟩
section
variable (d : Nat) (σ : Store)
theorem nbindings_ok : Called CU.cfg d 40 [.nilptr] σ fun r σ' => r = .nilslice ∧ Grows σ σ' := by
 refine called_of (fn := CU.a40) rfl (Nat.le_of_ble_eq_true rfl) ?_
 simp only [CU.a40]
 have e1 : isNil .p .nilptr = some true := rfl
 simp -dsimp only [↓WPd, ↓wpC_block, ↓wpC_cond, WPu, Bool.false_eq_true, Bool.true_eq_false, Bool.not_true, Bool.not_false, if_true, if_false, ite_true, ite_false, Nat.reduceEqDiff, Nat.reduceLT, true_and, List.map_cons, List.map_nil, Nat.zero_add, Nat.reduceBEq, WPm, e1]
 exact Keeps.refl _ _
end
inductive Repl : List Cel → List Cel → Prop
 | nil : Repl [] []
 | keep (c : Cel) {t r : List Cel} : c.ok = true → Repl t r → Repl (c :: t) (c :: r)
 | put (c : Cel) (w : List Cel) {t r : List Cel} : c.parts = 0 → right w = true → Repl t r → Repl (c :: t) (w ++ r)
theorem Repl.len {t r : List Cel} (h : Repl t r) : t.length ≤ r.length := by
 induction h with
 | nil => exact Nat.le_refl _
 | keep c _ _ ih => simp; omega
 | put c w _ hw _ ih => have := (right_len hw).1; simp; omega
theorem Repl.oks {t r : List Cel} (h : Repl t r) : ∀ c ∈ r, c.ok = true := by
 induction h with
 | nil => simp
 | keep c hc _ ih => 
  intro x hx
  rcases List.mem_cons.1 hx with rfl | hx
  ·exact hc
  ·exact ih x hx
 | put c w _ hw _ ih => 
  intro x hx
  rcases List.mem_append.1 hx with hx | hx
  ·exact right_ok_mem hw hx
  ·exact ih x hx
theorem Repl.ends {L L' : Nat} (hL : L ≤ L') {t r : List Cel} (h : Repl t r) (hl : r.length ≤ L') : ∀ {q a b : Nat}, endAt L t q a = a + t.length → 0 < a + t.length → endAt L' r q b = b + r.length := by
 induction h with
 | nil =>
  intro q a b h h0
  cases q with
  | zero => rw [endAt_zero]; rfl
  | succ q => rw [endAt_nil] at h; simp at h h0; omega
 | keep c hc hr ih =>
  intro q a b h h0
  cases q with
  | zero => rw [endAt_zero] at h; simp at h
  | succ q =>
   rw [endAt_cons] at h
   simp only [List.length_cons] at h hl ⊢
   split at h
   ·omega
   ·rename_i hp
    rw [endAt_cons, if_neg (by omega), ih (by omega) (a := a + 1) (b := b + 1) (by omega) (by omega)]
    omega
 | put c w hp hw hr ih =>
  intro q a b h h0
  cases q with
  | zero => rw [endAt_zero] at h; simp at h
  | succ q =>
   rw [endAt_cons] at h
   simp only [List.length_cons, List.length_append] at h hl ⊢
   rw [hp, Nat.add_zero] at h
   split at h
   ·omega
   ·rw [show q + 1 = 1 + q by omega, endAt_right hw (by omega), ih (by omega) (a := a + 1) (b := b + w.length) (by omega) (by omega)]
    omega
theorem Repl.right {t r : List Cel} (h : Repl t r) (ht : right t = true) (hl : r.length ≤ 256) : right r = true := by
 have h1 := (right_len ht).1
 have h2 := h.len
 have he := right_end ht
 have e := h.ends (L := t.length) (L' := r.length) h2 (Nat.le_refl _) (b := 0) he (by omega)
 rw [Nat.zero_add] at e
 have ho : r.all Cel.ok = true := List.all_eq_true.2 h.oks
 simp only [Am.right, Bool.and_eq_true, decide_eq_true_eq]
 exact ⟨⟨⟨by omega, hl⟩, e⟩, ho⟩
theorem Own.noMap {σ : Store} {sz : Nat} {v : AVal} {es ks vs : List AVal} {id : Nat} (h : Own σ sz v es) (ho : σ[id]? = some (.map ks vs)) : v.sid ≠ some id := by
 intro hs
 rcases h.own with ⟨rfl, _⟩ | ⟨t, rfl⟩ | ⟨id', ep, off, cap, xs, epo, fl, rfl, h1, _⟩
 ·cases hs
 ·cases hs
 ·injection hs with hs; subst hs; rw [ho] at h1; cases h1
def Mv (id aid : Nat) (nv : AVal) : Nat → Prop := fun i => i = id ∨ i = aid ∨ nv.sid = some i
structure Att (fm : AVal → List AVal) (σ0 : Store) (id aid : Nat) (σ : Store) (nv : AVal) (s : TSt) : Prop where
 old : Grows σ0 σ
 lid : σ0.length ≤ id
 laid : σ0.length ≤ aid
 lnv : Fresh σ0.length nv
 obj : σ[id]? = some (.cells (fm nv))
 names : Own σ 2 nv (NN s.ws)
 arr : ∃ es, σ[aid]? = some (.arr 1 es 0 0) ∧ Two (fun e t => Own σ 5 e (CC t)) es s.ls
theorem Own.noArr {σ : Store} {sz sz' i ep fl : Nat} {v : AVal} {es xs : List AVal} (h : Own σ sz v es) (ho : σ[i]? = some (.arr sz' xs ep fl)) (hn : sz ≠ sz') : v.sid ≠ some i := by
 intro hv
 rcases h.own with ⟨rfl, _⟩ | ⟨t, rfl⟩ | ⟨id, ep, off, cap, ys, epo, fl, rfl, h1, _⟩
 ·cases hv
 ·cases hv
 ·injection hv with hv
  subst hv
  rw [ho] at h1; injection h1 with h1; injection h1 with h1; exact hn h1.symm
section
variable {fm : AVal → List AVal} {σ0 : Store} {id aid : Nat} {σ σ' : Store} {nv : AVal} {s : TSt}
theorem Att.lt (h : Att fm σ0 id aid σ nv s) : id < σ.length ∧ aid < σ.length := by
 obtain ⟨es, ha, -⟩ := h.arr
 exact ⟨(List.getElem?_eq_some_iff.1 h.obj).1, (List.getElem?_eq_some_iff.1 ha).1⟩
theorem Att.own5 (h : Att fm σ0 id aid σ nv s) {e : AVal} {p : List AVal} (he : Own σ 5 e p) (i : Nat) (hi : e.sid = some i) : ¬ Mv id aid nv i := by
 obtain ⟨es, ha, -⟩ := h.arr
 rintro (rfl | rfl | hv)
 ·exact he.noCell h.obj hi
 ·exact he.noArr ha (by decide) hi
 ·exact he.sizes h.names (by decide) hi hv
theorem Att.keep5 (h : Att fm σ0 id aid σ nv s) {e : AVal} {p : List AVal} (he : Own σ 5 e p) (hk : Keeps (Mv id aid nv) σ σ') : Own σ' 5 e p :=
 he.keeps hk fun i hi => h.own5 he i hi
theorem Att.grow (h : Att fm σ0 id aid σ nv s) (g : Grows σ σ') : Att fm σ0 id aid σ' nv s := by
 obtain ⟨es, ha, ht⟩ := h.arr
 exact ⟨h.old.trans g, h.lid, h.laid, h.lnv, g.get h.obj, h.names.grow g, es, g.get ha, ht.mono fun e t ho => ho.grow g⟩
theorem Mv.trans {nv1 : AVal} {σ1 σ2 : Store} (h1 : Keeps (Mv id aid nv) σ σ1) (hs : ∀ i, nv1.sid = some i → nv.sid = some i ∨ σ.length ≤ i) (h2 : Keeps (Mv id aid nv1) σ1 σ2) : Keeps (Mv id aid nv) σ σ2 :=
 Keeps.trans h1 h2 fun i hi e => by
  rcases e with rfl | rfl | e
  ·exact .inl rfl
  ·exact .inr (.inl rfl)
  ·rcases hs i e with e | e
   ·exact .inr (.inr e)
   ·omega
structure OT (σ : Store) (lo : Nat) (l : AVal) (es : List AVal) (ts : List (List Cel)) : Prop where
 row : Own σ 1 l es
 two : Two (fun e t => Own σ 5 e (CC t)) es ts
 frl : Fresh lo l
theorem OT.grow {lo : Nat} {l : AVal} {es : List AVal} {ts : List (List Cel)} (h : OT σ lo l es ts) (g : Grows σ σ') : OT σ' lo l es ts :=
 ⟨h.row.grow g, h.two.mono fun e t ho => ho.grow g, h.frl⟩
theorem OT.keep {lo : Nat} {l : AVal} {es : List AVal} {ts : List (List Cel)} (h : OT σ lo l es ts) (ha : Att fm σ0 id aid σ nv s) (h1 : id < lo) (h2 : aid < lo) (hk : Keeps (Mv id aid nv) σ σ') : OT σ' lo l es ts := by
 refine ⟨h.row.keeps hk fun i hi => ?_, h.two.mono fun e t ho => ha.keep5 ho hk, h.frl⟩
 have := h.frl i hi
 rintro (rfl | rfl | hv)
 ·omega
 ·omega
 ·exact h.row.sizes ha.names (by decide) hi hv
theorem OT.at {lo : Nat} {l : AVal} {es : List AVal} {ts : List (List Cel)} (h : OT σ lo l es ts) {i : Nat} (hi : i < ts.length) : ∃ e, iaddrV 1 l (.int .i64 i) = some (addrOf 1 l i) ∧ loadV σ 1 false (addrOf 1 l i) = some e ∧ Own σ 5 e (CC ts[i]) := by
 have hi' : i < es.length := by rw [h.two.len]; exact hi
 obtain ⟨e, he1, he2⟩ := h.two.get hi
 have hee : es[i] = e := by rw [List.getElem?_eq_getElem hi'] at he1; exact Option.some.inj he1
 refine ⟨e, h.row.sl.iaddr hi' .i64, ?_, he2⟩
 have := h.row.sl.load1 hi' (by rw [hee]; exact he2.one) 1
 rw [hee] at this; exact this
theorem OT.len {lo : Nat} {l : AVal} {es : List AVal} {ts : List (List Cel)} (h : OT σ lo l es ts) : lenSV l = some ts.length := by
 rw [← h.two.len]; exact h.row.sl.len
end
def StepQ (fm : AVal → List AVal) (σ0 : Store) (id aid : Nat) (res : Option TSt) (s : TSt) (add : Nat) (nv : AVal) (σ : Store) : AVal → Store → Prop := fun r σ' =>
 ∃ (b : Bool) (nv' : AVal) (s' : TSt), r = .bool b ∧ Att fm σ0 id aid σ' nv' s' ∧ Keeps (Mv id aid nv) σ σ' ∧ (∀ i, nv'.sid = some i → nv.sid = some i ∨ σ.length ≤ i) ∧ res = (if b then some s' else none) ∧ s'.ws.length ≤ s.ws.length + add ∧ s'.ls.length = s.ls.length
section
variable (d : Nat)
theorem Two.set {α β : Type} {R : α → β → Prop} {us : List α} {ws : List β} (h : Two R us ws) (j : Nat) {a : α} {b : β} (hr : R a b) : Two R (us.set j a) (ws.set j b) :=
 Two.of_get (by simp [h.len]) fun i x y hx hy => by
  rw [List.getElem?_set] at hx hy
  split at hx
  ·rename_i hij
   rw [if_pos hij] at hy
   split at hx
   ·split at hy
    ·injection hx with hx; injection hy with hy; subst hx; subst hy; exact hr
    ·cases hy
   ·cases hx
  ·rename_i hij
   rw [if_neg hij] at hy
   exact h.at hx hy
theorem StepQ.plain {fm : AVal → List AVal} {σ0 : Store} {id aid : Nat} {res : Option TSt} {s : TSt} {add : Nat} {nv : AVal} {σ σ' : Store} (ha : Att fm σ0 id aid σ nv s) (g : Grows σ σ') (hr : res = none) : StepQ fm σ0 id aid res s add nv σ (.bool false) σ' :=
 ⟨false, nv, s, rfl, ha.grow g, g.any, fun i h => .inl h, by rw [hr]; rfl, by omega, rfl⟩
theorem Att.put {fm : AVal → List AVal} {σ0 : Store} {id aid : Nat} {nv : AVal} {s : TSt} {σ : Store} (ha : Att fm σ0 id aid σ nv s) {j : Nat} {u : AVal} {t : List Cel} (hu : Own σ 5 u (CC t)) (hj : j < s.ls.length) :
  ∃ σ', storeV σ 1 (.eptr aid 0 j 0) u = some σ' ∧ Att fm σ0 id aid σ' nv ⟨s.ls.set j t, s.ws⟩ ∧ Keeps (fun i => i = aid) σ σ' := by
 obtain ⟨es, h1, h2⟩ := ha.arr
 have hj' : j < es.length := by rw [h2.len]; exact hj
 obtain ⟨e, he1, he2⟩ := h2.get hj
 have hee : es[j] = e := by rw [List.getElem?_eq_getElem hj'] at he1; exact Option.some.inj he1
 have st := arr_store1 h1 hj' hu.one (by rw [hee]; exact he2.one)
 have k := Keeps.set σ aid (.arr 1 (es.set j u) 0 0)
 have hne : id ≠ aid := fun e => by have a := ha.obj; rw [e, h1] at a; cases a
 refine ⟨_, st, ⟨?_, ha.lid, ha.laid, ha.lnv, k.get ha.obj hne, ha.names.keeps k fun i hi e => ha.names.noArr h1 (by decide) (by rw [← e]; exact hi), es.set j u, get_set h1, ?_⟩, k⟩
 ·exact Keeps.trans ha.old k fun i hi e => by have := ha.laid; omega
 ·refine Two.set (h2.mono fun e t ho => ho.keeps k fun i hi e' => ho.noArr h1 (by decide) (by rw [← e']; exact hi)) j ?_
  exact hu.keeps k fun i hi e' => hu.noArr h1 (by decide) (by rw [← e']; exact hi)
theorem Att.get {fm : AVal → List AVal} {σ0 : Store} {id aid : Nat} {nv : AVal} {s : TSt} {σ : Store} (ha : Att fm σ0 id aid σ nv s) {j : Nat} (hj : j < s.ls.length) : ∃ e, loadV σ 1 false (.eptr aid 0 j 0) = some e ∧ lenSV e = some (s.ls[j]).length := by
 obtain ⟨es, h1, h2⟩ := ha.arr
 have hj' : j < es.length := by rw [h2.len]; exact hj
 obtain ⟨e, he1, he2⟩ := h2.get hj
 have hee : es[j] = e := by rw [List.getElem?_eq_getElem hj'] at he1; exact Option.some.inj he1
 refine ⟨e, ?_, by have := he2.sl.len; rwa [List.length_map] at this⟩
 rw [arr_load1 h1 (Nat.le_refl _) hj' (by rw [hee]; exact he2.one), hee]
end
section
variable (d : Nat)
structure Tried (fm : AVal → List AVal) (σ0 : Store) (id aid : Nat) (F : TSt → List Cel → List Cel → Option TSt) (s : TSt) (azs bs : List (List Cel)) (lo : Nat) (al bl : AVal) (es fs : List AVal) (nv : AVal) (σ2 σ' : Store) (k : Nat) (nk : AVal) (sk : TSt) : Prop where
 att : Att fm σ0 id aid σ' nk sk
 keep : Keeps (Mv id aid nv) σ2 σ'
 nam : ∀ i, nk.sid = some i → nv.sid = some i ∨ σ2.length ≤ i
 ra : OT σ' lo al es azs
 rb : OT σ' lo bl fs bs
 res : foldO F s azs bs = foldO F sk (azs.drop k) (bs.drop k)
 ws : sk.ws.length ≤ s.ws.length + (azs.take k).flatten.length
 ls : sk.ls.length = s.ls.length
theorem Tried.step {fm : AVal → List AVal} {σ0 : Store} {id aid : Nat} {F : TSt → List Cel → List Cel → Option TSt} {s : TSt} {azs bs : List (List Cel)} {lo : Nat} {al bl : AVal} {es fs : List AVal} {nv : AVal} {σ2 σ' : Store} {k : Nat} {nk : AVal} {sk : TSt} (h : Tried fm σ0 id aid F s azs bs lo al bl es fs nv σ2 σ' k nk sk)
  (hk : k < azs.length) (hb : k < bs.length) (h1 : id < lo) (h2 : aid < lo) {σ3 : Store} {r : AVal} (hq : StepQ fm σ0 id aid (F sk azs[k] bs[k]) sk (azs[k]).length nk σ' r σ3) :
  ∃ b : Bool, r = .bool b ∧ ∃ nk' sk', Att fm σ0 id aid σ3 nk' sk' ∧ Keeps (Mv id aid nv) σ2 σ3 ∧ (∀ i, nk'.sid = some i → nv.sid = some i ∨ σ2.length ≤ i) ∧ sk'.ws.length ≤ s.ws.length + (azs.take (k + 1)).flatten.length ∧ sk'.ls.length = s.ls.length ∧ (b = true → Tried fm σ0 id aid F s azs bs lo al bl es fs nv σ2 σ3 (k + 1) nk' sk') ∧ (b = false → foldO F s azs bs = none) := by
 obtain ⟨b, nk', sk', rfl, a1, a2, a3, a4, a5, a6⟩ := hq
 have hfs := flat_step hk
 have stp := foldO_step (f := F) (s := sk) hk hb
 have c1 := Mv.trans h.keep h.nam a2
 have c2 : ∀ i, nk'.sid = some i → nv.sid = some i ∨ σ2.length ≤ i := fun i hi => (a3 i hi).elim (h.nam i) (fun e => .inr (by have := h.keep.1; omega))
 have c3 : sk'.ws.length ≤ s.ws.length + (azs.take (k + 1)).flatten.length := by have := h.ws; omega
 have c4 : sk'.ls.length = s.ls.length := by rw [a6]; exact h.ls
 refine ⟨b, rfl, nk', sk', a1, c1, c2, c3, c4, fun hb' => ?_, fun hb' => ?_⟩
 ·refine ⟨a1, c1, c2, h.ra.keep h.att h1 h2 a2, h.rb.keep h.att h1 h2 a2, ?_, c3, c4⟩
  rw [h.res, stp, a4, hb']; rfl
 ·rw [h.res, stp, a4, hb']; rfl
end
theorem HeapV.one {σ : Store} {hv : AVal} {H : Hp} (h : HeapV σ hv H) : hv.one = true := by
 rcases h with ⟨rfl, _⟩ | ⟨id, mid, vs, rfl, _⟩ <;> rfl
theorem RefV.one {σ : Store} {rv : AVal} {R : Hp} (h : RefV σ rv R) : rv.one = true := by
 rcases h with ⟨rfl, _⟩ | ⟨id, A, rfl, _⟩ <;> rfl
def TryOk (σ : Store) (r : AVal) (x : TryR) : Prop := ∃ lv wv, r = .agg (tryC x.k lv wv) ∧ Terms σ lv x.ls ∧ SlOf σ 2 wv (NN x.ws)
theorem TryOk.grow {σ σ' : Store} {r : AVal} {x : TryR} (h : TryOk σ r x) (g : Grows σ σ') : TryOk σ' r x := by
 obtain ⟨lv, wv, h1, h2, h3⟩ := h
 exact ⟨lv, wv, h1, h2.grow g, h3.grow g⟩
theorem Terms.one {σ : Store} {l : AVal} {ts : List (List Cel)} (h : Terms σ l ts) : l.one = true := by obtain ⟨es, h1, -⟩ := h; exact h1.one
theorem try_told {σ σ0 : Store} {i k : Nat} {lv wv : AVal} {x : TryR} (ho : σ[i]? = some (.cells tryZ)) (hk : x.k = k) (h1 : Terms σ lv x.ls) (h2 : SlOf σ 2 wv (NN x.ws)) (hi : σ0.length ≤ i) (g : Grows σ0 σ) (n1 : ∀ j, lv.sid = some j → j ≠ i) (n2 : ∀ j, wv.sid = some j → j ≠ i) (n3 : ∀ (es : List AVal) (e : AVal) (j : Nat), SlOf σ 1 lv es → e ∈ es → e.sid = some j → j ≠ i) :
  ∃ σ', storeV σ 4 (.ptr i 0) (.agg (tryC k lv wv)) = some σ' ∧ loadV σ' 4 true (.ptr i 0) = some (.agg (tryC k lv wv)) ∧ Grows σ0 σ' ∧ TryOk σ' (.agg (tryC k lv wv)) x := by
 obtain ⟨p1, p2⟩ := try_put (σ' := σ) (k := k) ho h1.one h2.one
 have kk := Keeps.set σ i (.cells (tryC k lv wv))
 refine ⟨_, p1, p2, Keeps.trans g kk fun j hj e => by omega, lv, wv, by rw [hk], ?_, h2.keeps kk fun j hj e => n2 j hj e⟩
 obtain ⟨es, a1, a2⟩ := h1
 refine ⟨es, a1.keeps kk fun j hj e => n1 j hj e, a2.mono_mem fun e t he ht hs => hs.keeps kk fun j hj e' => n3 es e j a1 he hj e'⟩
theorem Att.new (fm : AVal → List AVal) (σ : Store) (n : Nat) : Att fm σ (σ.length + 1) σ.length ((σ ++ [.arr 1 (List.replicate n .nilslice) 0 0]) ++ [.cells (fm .nilslice)]) .nilslice ⟨List.replicate n [], []⟩ := by
 refine ⟨Grows.trans (Grows.app _ _) (Grows.app _ _), by omega, Nat.le_refl _, Fresh.nil _, by simp, Own.nil _ _, List.replicate n .nilslice, by simp, ?_⟩
 refine Two.of_get (by simp) fun i a b ha hb => ?_
 rw [List.getElem?_replicate] at ha hb
 by_cases h : i < n
 ·rw [if_pos h] at ha hb
  cases ha; cases hb; exact Own.nil _ _
 ·rw [if_neg h] at ha
  cases ha
theorem Att.terms {fm : AVal → List AVal} {σ0 : Store} {id aid : Nat} {nv : AVal} {s : TSt} {σ : Store} (ha : Att fm σ0 id aid σ nv s) : ∃ es, Own σ 1 (.slice 1 aid 0 0 s.ls.length (some s.ls.length)) es ∧ Two (fun e t => Own σ 5 e (CC t)) es s.ls := by
 obtain ⟨es, h1, h2⟩ := ha.arr
 refine ⟨es, ⟨.inr (.inr ⟨aid, 0, 0, some s.ls.length, es, 0, 0, by rw [h2.len], h1, Nat.le_refl _, by simp, fun _ => by simp, .inr (by rw [h2.len])⟩)⟩, h2⟩
section
variable (d : Nat) (σ : Store)
end
section
variable (d : Nat) (σ : Store)
end
theorem TryOk.put {σ σ0 : Store} {i : Nat} {r : AVal} {x : TryR} (h : TryOk σ r x) (ho : σ[i]? = some (.cells tryZ)) (hi : σ0.length ≤ i) (g : Grows σ0 σ) :
  ∃ σ', storeV σ 4 (.ptr i 0) r = some σ' ∧ loadV σ' 4 true (.ptr i 0) = some r ∧ Grows σ0 σ' ∧ TryOk σ' r x := by
 obtain ⟨lv, wv, rfl, h2, h3⟩ := h
 have h2' := h2
 obtain ⟨es, a1, a2⟩ := h2'
 refine try_told ho rfl h2 h3 hi g (fun j h e => a1.noCell ho (by rw [← e]; exact h)) (fun j h e => h3.noCell ho (by rw [← e]; exact h)) (fun fs e j hf he hj e' => ?_)
 have : fs = es := Option.some.inj (hf.1.symm.trans a1.1)
 subst this
 obtain ⟨b, _, hb⟩ := a2.mem_left he
 exact hb.noCell ho (by rw [← e']; exact hj)
theorem Terms.lit {σ : Store} {v : AVal} {p : List Cel} (tg : Nat) (h : SlOf σ 5 v (CC p)) : Terms σ (.fslice tg true 1 [v]) [p] := ⟨[v], SlOf.fs _ _ _ _ _, Two.one h⟩
theorem I64.of {i : Int} (h : I64 i) : -9223372036854775808 ≤ i ∧ i < 9223372036854775808 := h
section
variable (d : Nat) (σ : Store)
theorem rvarsof_ok (pv : AVal) (p : List Cel) (sp : Small p) (hp : SlOf σ 5 pv (CC p)) : Called CU.cfg d 120 [pv] σ fun r σ' => Grows σ σ' ∧ Own σ' 2 r (NN (varsL [] p)) := by
 refine called_of (fn := CU.a120) rfl (Nat.le_of_ble_eq_true rfl) ?_
 simp only [CU.a120]
 simp -dsimp only [↓WPd, ↓wpC_block, ↓wpC_cond, WPu, Bool.false_eq_true, Bool.true_eq_false, Bool.not_true, Bool.not_false, if_true, if_false, ite_true, ite_false, Nat.reduceEqDiff, Nat.reduceLT, true_and, List.map_cons, List.map_nil, Nat.zero_add, Nat.reduceBEq, lit1_ok hp.one]
 refine calledW_of (rvars_ok d σ _ [p] (by simpa using sp.1) (by simp) (Terms.lit _ hp)) ?_
 rintro l σ2 ⟨g2, ol, -⟩
 have hfl : [p].flatten = p := by simp
 rw [hfl] at ol
 simp -dsimp only [↓WPd, ↓wpC_block, ↓wpC_cond, WPu, Bool.false_eq_true, Bool.true_eq_false, Bool.not_true, Bool.not_false, if_true, if_false, ite_true, ite_false, Nat.reduceEqDiff, Nat.reduceLT, true_and, List.map_cons, List.map_nil, Nat.zero_add, Nat.reduceBEq]
 exact ⟨g2, ol⟩
end
section
variable (d : Nat) (σ : Store)
end
theorem find_names (v : Nm) : ∀ (l : List Nm), ∃ o : Option Nat, findK true [.i, .i] (nmV v) (l.map nmV) = some o ∧ (match o with | some i => l[i]? = some v | none => v ∉ l)
 | [] => ⟨none, rfl, by simp⟩
 | p :: r => by
  obtain ⟨o, h1, h2⟩ := find_names v r
  by_cases e : v = p
  ·refine ⟨some 0, ?_, by simp [e]⟩
   simp only [List.map_cons, findK, nm_keyEq, decide_eq_true e]
  ·refine ⟨o.map (· + 1), ?_, ?_⟩
   ·simp only [List.map_cons, findK, nm_keyEq, decide_eq_false e, h1]
    cases o <;> rfl
   ·cases o with
    | none => simp only [Option.map_none]; simp only at h2; simp [e, h2]
    | some i => simpa using h2
structure WayS (σ : Store) (fi li mid : Nat) (lv : AVal) (l bs : List Nm) : Prop where
 fc : σ[fi]? = some (.cells [.map mid])
 lc : σ[li]? = some (.cells [lv])
 mc : σ[mid]? = some (.map (l.map nmV) (bs.map nmV))
 len : bs.length = l.length
 own : Own σ 2 lv (NN l)
 nilc : l = [] → lv = .nilslice
theorem WayS.grow {σ σ' : Store} {fi li mid : Nat} {lv : AVal} {l bs : List Nm} (h : WayS σ fi li mid lv l bs) (g : Grows σ σ') : WayS σ' fi li mid lv l bs :=
 ⟨g.get h.fc, g.get h.lc, g.get h.mc, h.len, h.own.grow g, h.nilc⟩
def ComeT (mid li : Nat) (lv : AVal) (i : Nat) : Prop := i = mid ∨ i = li ∨ lv.sid = some i
set_option maxHeartbeats 1000000 in
theorem come_ok (d : Nat) (σ : Store) (fi li mid : Nat) (lv : AVal) (l bs : List Nm) (v b : Nm) (h : WayS σ fi li mid lv l bs) (hl : l.length < 2 ^ 40) :
  Called CU.cfg d 115 [nmV v, nmV b, .ptr fi 0, .ptr li 0] σ fun r σ' => (∃ lv', WayS σ' fi li mid lv' (addN l v) (addB l bs v b) ∧ ∀ i, lv'.sid = some i → lv.sid = some i ∨ σ.length ≤ i) ∧ Keeps (ComeT mid li lv) σ σ' := by
 refine called_of (fn := CU.a115) rfl (Nat.le_of_ble_eq_true rfl) ?_
 simp only [CU.a115]
 simp -dsimp only [↓WPd, ↓wpC_block, ↓wpC_cond, WPu, Bool.false_eq_true, Bool.true_eq_false, Bool.not_true, Bool.not_false, if_true, if_false, ite_true, ite_false, Nat.reduceEqDiff, Nat.reduceLT, true_and, List.map_cons, List.map_nil, Nat.zero_add, Nat.reduceBEq, WPm, nm_cells, nm_one]
 have ov : (σ ++ [AObj.cells (nmC v)] ++ [AObj.cells (nmC b)])[σ.length]? = some (.cells (nmC v)) := by simp
 have ob : (σ ++ [AObj.cells (nmC v)] ++ [AObj.cells (nmC b)])[(σ ++ [AObj.cells (nmC v)]).length]? = some (.cells (nmC b)) := by simp
 have g0 : Grows σ (σ ++ [AObj.cells (nmC v)] ++ [AObj.cells (nmC b)]) := (Grows.app _ _).trans (Grows.app _ _)
 have hbl : σ.length < (σ ++ [AObj.cells (nmC v)]).length := by simp
 generalize (σ ++ [AObj.cells (nmC v)]).length = ib at ob hbl
 generalize σ ++ [AObj.cells (nmC v)] ++ [AObj.cells (nmC b)] = σ1 at ov ob g0
 have h1 := h.grow g0
 obtain ⟨o, f1, f2⟩ := find_names v l
 have hk : keyEq true [.i, .i] (nmV v) (nmV v) = some true := by rw [nm_keyEq, decide_eq_true rfl]
 have hf : findKK true [.i, .i] (nmV v) (l.map nmV) = some o := by simp only [findKK, hk, Option.isSome_some, if_true, f1]
 have hm : mapOf σ1 (.map mid) = some (l.map nmV, bs.map nmV) := by simp only [mapOf, h1.mc]
 have e1 : ([AVal.map mid] : List AVal)[0]? = some (.map mid) := rfl
 have e2 : ([lv] : List AVal)[0]? = some lv := rfl
 obtain ⟨x, hlook⟩ : ∃ x : Nm, lookupV σ1 true [.i, .i] (.agg [.int .i64 0, .int .i64 0]) (.map mid) (nmV v) true = some (.tuple [nmV x, .bool o.isSome]) := by
  cases o with
  | none => exact ⟨(0, 0), by simp only [lookupV, hm, hf]; rfl⟩
  | some i =>
   have hi : i < bs.length := by rw [h.len]; exact (List.getElem?_eq_some_iff.1 f2).1
   have e : (bs.map nmV)[i]? = some (nmV bs[i]) := by simp [hi]
   exact ⟨bs[i], by simp only [lookupV, hm, hf, e, Option.map_some]; rfl⟩
 simp -dsimp only [↓WPd, ↓wpC_block, ↓wpC_cond, WPu, Bool.false_eq_true, Bool.true_eq_false, Bool.not_true, Bool.not_false, if_true, if_false, ite_true, ite_false, Nat.reduceEqDiff, Nat.reduceLT, true_and, List.map_cons, List.map_nil, Nat.zero_add, Nat.reduceBEq, WPm, load_cells h1.fc, e1, load_nm ov, hlook, List.getElem?_cons_zero, List.getElem?_cons_succ, nm_putB]
 have g2 : Grows σ1 (σ1 ++ [AObj.cells (nmC x)]) := Grows.app _ _
 generalize σ1 ++ [AObj.cells (nmC x)] = σ2 at g2
 have h2 := h1.grow g2
 have ov2 := g2.get ov
 have ob2 := g2.get ob
 have g02 := g0.trans g2
 have hr : ∀ s : FS, resultsA [] s = some (.tuple []) := fun _ => rfl
 cases o with
 | some i =>
  have hc : l.contains v = true := by simpa using List.mem_of_getElem? f2
  have ha : addN l v = l := by unfold addN; rw [if_pos hc]
  simp -dsimp only [↓WPd, ↓wpC_block, ↓wpC_cond, WPu, Bool.false_eq_true, Bool.true_eq_false, Bool.not_true, Bool.not_false, if_true, if_false, ite_true, ite_false, Nat.reduceEqDiff, Nat.reduceLT, true_and, List.map_cons, List.map_nil, Nat.zero_add, Nat.reduceBEq, WPm, Option.isSome_some, hr]
  have hb : addB l bs v b = bs := by unfold addB; rw [if_pos hc]
  rw [ha, hb]
  exact ⟨⟨lv, h2, fun i hi => .inl hi⟩, g02.any⟩
 | none =>
  have hc : ¬ l.contains v = true := by simpa using f2
  have ha : addN l v = l ++ [v] := by unfold addN; rw [if_neg hc]
  have hb : addB l bs v b = bs ++ [b] := by unfold addB; rw [if_neg hc]
  rw [ha, hb]
  have hset : mapsetV σ2 true [.i, .i] (.map mid) (nmV v) (nmV b) = some (σ2.set mid (.map (l.map nmV ++ [nmV v]) (bs.map nmV ++ [nmV b]))) := by simp only [mapsetV, h2.mc, hf]
  have k3 : Keeps (fun i => i = mid) σ2 (σ2.set mid (.map (l.map nmV ++ [nmV v]) (bs.map nmV ++ [nmV b]))) := Keeps.set _ _ _
  have m3 : (σ2.set mid (.map (l.map nmV ++ [nmV v]) (bs.map nmV ++ [nmV b])))[mid]? = some (.map (l.map nmV ++ [nmV v]) (bs.map nmV ++ [nmV b])) := get_set h2.mc
  simp -dsimp only [↓WPd, ↓wpC_block, ↓wpC_cond, WPu, Bool.false_eq_true, Bool.true_eq_false, Bool.not_true, Bool.not_false, if_true, if_false, ite_true, ite_false, Nat.reduceEqDiff, Nat.reduceLT, true_and, List.map_cons, List.map_nil, Nat.zero_add, Nat.reduceBEq, WPm, Option.isSome_none, load_cells h2.fc, e1, load_nm ov2, load_nm ob2, hset]
  generalize σ2.set mid (.map (l.map nmV ++ [nmV v]) (bs.map nmV ++ [nmV b])) = σ3 at k3 m3
  have nmid : fi ≠ mid ∧ li ≠ mid := ⟨(fun e => by have := h2.fc; rw [e, h2.mc] at this; cases this), (fun e => by have := h2.lc; rw [e, h2.mc] at this; cases this)⟩
  have nfl : fi ≠ li := fun e => by
   have := h2.fc
   rw [e, h2.lc] at this
   injection this with this; injection this with this; injection this with this
   exact absurd h2.own.sl.len (by rw [this]; simp [lenSV])
  have hmlt : mid < σ.length := (List.getElem?_eq_some_iff.1 h.mc).1
  have f3 := k3.get h2.fc nmid.1
  have l3 := k3.get h2.lc nmid.2
  have w3 := h2.own.keeps k3 fun i hi e => h2.own.noMap h2.mc (e ▸ hi)
  have ov3 := k3.get ov2 (by omega)
  obtain ⟨y, σ4, a1, a2, a3, a4, a5⟩ := w3.append [nmV v] 16 (by rw [List.length_map]; simp; omega)
  have lit : fillL 2 true (List.replicate 1 (zel [AVal.int IntKind.i64 0, AVal.int IntKind.i64 0] true)) [(0, nmV v)] = some [nmV v] := rfl
  have fl := elems_fs 2 (AVal.tagL [nmV v]) true σ3 [nmV v]
  have l4 := a3.get l3 (fun e => w3.noCell l3 e)
  have f4 := a3.get f3 (fun e => w3.noCell f3 e)
  have m4 := a3.get m3 (fun e => w3.noMap m3 e)
  have st := store_cells l4 (off := 0) (v := y) (by simp) a2.one
  simp -dsimp only [↓WPd, ↓wpC_block, ↓wpC_cond, WPu, Bool.false_eq_true, Bool.true_eq_false, Bool.not_true, Bool.not_false, if_true, if_false, ite_true, ite_false, Nat.reduceEqDiff, Nat.reduceLT, true_and, List.map_cons, List.map_nil, Nat.zero_add, Nat.reduceBEq, WPm, load_cells l3, e2, load_nm ov3, lit, fl, a1, st, hr]
  have k5 : Keeps (fun i => i = li) σ4 (σ4.set li (.cells [y])) := Keeps.set _ _ _
  refine ⟨⟨y, ⟨k5.get f4 nfl, get_set l4, ?_, by simp [h.len], ?_, fun e => by simp at e⟩, fun i hi => ?_⟩, ?_⟩
  ·have := k5.get m4 (fun e => nmid.2 e.symm)
   simpa using this
  ·have e : NN (l ++ [v]) = NN l ++ [nmV v] := by simp [NN]
   rw [e]
   exact a2.keeps k5 fun i hi e => a2.noCell l4 (e ▸ hi)
  ·rcases a4 i hi with e | e
   ·exact .inl e
   ·have := g02.1; have := k3.1; exact .inr (by omega)
  ·refine Keeps.trans (Keeps.trans (Keeps.trans (g02.any (M := ComeT mid li lv)) k3 fun i hi e => ?_) a3 fun i hi e => ?_) k5 fun i hi e => ?_
   ·exact .inl e
   ·exact .inr (.inr e)
   ·exact .inr (.inl e)
theorem nextn_ok (d : Nat) (σ : Store) (hv : AVal) (H : Hp) (hw : WF H) (v : Nm) (h : HeapV σ hv H) : Called CU.cfg d 77 [hv, nmV v] σ fun r σ' => Grows σ σ' ∧ Own σ' 2 r (NN (stepN H v)) ∧ Fresh σ.length r := by
 refine called_of (fn := CU.a77) rfl (Nat.le_of_ble_eq_true rfl) ?_
 simp only [CU.a77]
 simp -dsimp only [↓WPd, ↓wpC_block, ↓wpC_cond, WPu, Bool.false_eq_true, Bool.true_eq_false, Bool.not_true, Bool.not_false, if_true, if_false, ite_true, ite_false, Nat.reduceEqDiff, Nat.reduceLT, true_and, List.map_cons, List.map_nil, Nat.zero_add, Nat.reduceBEq, WPm, nm_cells, nm_one]
 have ho : (σ ++ [AObj.cells (nmC v)])[σ.length]? = some (.cells (nmC v)) := by simp
 have g0 : Grows σ (σ ++ [AObj.cells (nmC v)]) := Grows.app _ _
 have h1 := h.grow g0
 generalize σ ++ [AObj.cells (nmC v)] = σ1 at ho g0 h1
 have hsh := hw.lk_short v
 simp -dsimp only [↓WPd, ↓wpC_block, ↓wpC_cond, WPu, Bool.false_eq_true, Bool.true_eq_false, Bool.not_true, Bool.not_false, if_true, if_false, ite_true, ite_false, Nat.reduceEqDiff, Nat.reduceLT, true_and, List.map_cons, List.map_nil, Nat.zero_add, Nat.reduceBEq, WPm, load_nm ho]
 refine calledW_of (hvalue_ok d σ1 hv H v h1 (by omega)) ?_
 rintro r σ2 ⟨u, rfl, ou, -, -, g2⟩
 have e1 : fillL 1 false (List.replicate 1 (zel [AVal.nilslice] false)) [(0, u)] = some [u] := by
  have hu := ou.one
  have hc : u.cells = [u] := by cases u <;> simp_all [AVal.one]
  have h1 : [u].all AVal.one = true := by simp only [List.all_cons, List.all_nil, hu]; rfl
  have h2 : isAggV u = false := by cases u <;> first | (cases hu; done) | rfl
  simp only [fillL, hc, h1, h2]
  rfl
 simp -dsimp only [↓WPd, ↓wpC_block, ↓wpC_cond, WPu, Bool.false_eq_true, Bool.true_eq_false, Bool.not_true, Bool.not_false, if_true, if_false, ite_true, ite_false, Nat.reduceEqDiff, Nat.reduceLT, true_and, List.map_cons, List.map_nil, Nat.zero_add, Nat.reduceBEq, WPm, List.getElem?_cons_zero, List.getElem?_cons_succ, e1]
 refine calledW_of (vars_ok d σ2 _ [(lk H v).getD []] (by simp; omega) (by simp) (Terms.lit _ ou.sl)) ?_
 rintro r σ3 ⟨g3, or, fr⟩
 have hfl : [(lk H v).getD []].flatten = (lk H v).getD [] := by simp
 rw [hfl] at or
 simp -dsimp only [↓WPd, ↓wpC_block, ↓wpC_cond, WPu, Bool.false_eq_true, Bool.true_eq_false, Bool.not_true, Bool.not_false, if_true, if_false, ite_true, ite_false, Nat.reduceEqDiff, Nat.reduceLT, true_and, List.map_cons, List.map_nil, Nat.zero_add, Nat.reduceBEq]
 exact ⟨(g0.trans g2).trans g3, or, fr.le (g0.trans g2).1⟩
theorem names_load {σ : Store} {l : AVal} {ws : List Nm} (hl : SlOf σ 2 l (NN ws)) {i : Nat} (hi : i < ws.length) : iaddrV 2 l (.int .i64 i) = some (addrOf 2 l i) ∧ loadV σ 2 true (addrOf 2 l i) = some (nmV ws[i]) := names_at hl hi
theorem adds_len (l ws : List Nm) : (adds l ws).length ≤ l.length + ws.length := by
 induction ws generalizing l with
 | nil => simp [adds]
 | cons v ws ih =>
  have := ih (addN l v)
  have h2 := addN_len l v
  simp only [adds, List.foldl_cons, List.length_cons] at this ⊢
  omega
theorem set_here {σ : Store} {i : Nat} {o : AObj} (h : σ[i]? = some o) : σ.set i o = σ := by
 apply List.ext_getElem?
 intro j
 rw [List.getElem?_set]
 split
 ·rename_i e
  subst e
  rw [h, if_pos (List.getElem?_eq_some_iff.1 h).1]
 ·rfl
set_option maxHeartbeats 4000000 in
theorem walk_ok (d : Nat) (σ : Store) (hv : AVal) (H : Hp) (hw : WF H) (hH : H.length < 2 ^ 28) (rsv : AVal) (rs : List Nm) (h : HeapV σ hv H) (hr : SlOf σ 2 rsv (NN rs)) (hrs : rs.length < 2 ^ 38) :
  Called CU.cfg d 60 [hv, rsv] σ fun r σ' => Grows σ σ' ∧ ∃ (lv : AVal) (mid : Nat) (l bs : List Nm), r = .tuple [lv, .map mid] ∧ Own σ' 2 lv (NN l) ∧ Fresh σ.length lv ∧ l.Nodup ∧ (∀ v, v ∈ l ↔ Rea H rs v) ∧ σ'[mid]? = some (.map (l.map nmV) (bs.map nmV)) ∧ σ.length ≤ mid ∧ (l = [] → lv = .nilslice) ∧ Come H rs l bs := by
 refine called_of (fn := CU.a60) rfl (Nat.le_of_ble_eq_true rfl) ?_
 simp only [CU.a60]
 have hu := univ_len hw rs
 have hu2 : (univ H rs).length < 2 ^ 39 := by omega
 simp -dsimp only [↓WPd, ↓wpC_block, ↓wpC_cond, WPu, Bool.false_eq_true, Bool.true_eq_false, Bool.not_true, Bool.not_false, if_true, if_false, ite_true, ite_false, Nat.reduceEqDiff, Nat.reduceLT, true_and, List.map_cons, List.map_nil, Nat.zero_add, Nat.reduceBEq, WPm]
 have oL : (σ ++ [AObj.cells [.nilslice]] ++ [AObj.cells [.nilmap]] ++ [AObj.map [] []])[σ.length]? = some (.cells [.nilslice]) := by simp
 have oF : (σ ++ [AObj.cells [.nilslice]] ++ [AObj.cells [.nilmap]] ++ [AObj.map [] []])[(σ ++ [AObj.cells [.nilslice]]).length]? = some (.cells [.nilmap]) := by simp
 have oM : (σ ++ [AObj.cells [.nilslice]] ++ [AObj.cells [.nilmap]] ++ [AObj.map [] []])[(σ ++ [AObj.cells [.nilslice]] ++ [AObj.cells [.nilmap]]).length]? = some (.map [] []) := by simp
 have gA : Grows σ (σ ++ [AObj.cells [.nilslice]] ++ [AObj.cells [.nilmap]] ++ [AObj.map [] []]) := ((Grows.app _ _).trans (Grows.app _ _)).trans (Grows.app _ _)
 have lf : σ.length < (σ ++ [AObj.cells [.nilslice]]).length := by simp
 have lm : (σ ++ [AObj.cells [.nilslice]]).length < (σ ++ [AObj.cells [.nilslice]] ++ [AObj.cells [.nilmap]]).length := by simp
 generalize (σ ++ [AObj.cells [.nilslice]] ++ [AObj.cells [.nilmap]]).length = mid at oM lm
 generalize (σ ++ [AObj.cells [.nilslice]]).length = fi at oF lf lm
 generalize σ ++ [AObj.cells [.nilslice]] ++ [AObj.cells [.nilmap]] ++ [AObj.map [] []] = σ3 at oL oF oM gA
 have st := store_cells oF (off := 0) (v := .map mid) (by simp) rfl
 have k4 : Keeps (fun i => i = fi) σ3 (σ3.set fi (.cells ([.nilmap].set 0 (.map mid)))) := Keeps.set _ _ _
 have f4 : (σ3.set fi (.cells ([.nilmap].set 0 (.map mid))))[fi]? = some (.cells [.map mid]) := get_set oF
 generalize σ3.set fi (.cells ([.nilmap].set 0 (.map mid))) = σ4 at st k4 f4
 generalize hli : σ.length = li at oL lf
 have l4 := k4.get oL (by omega)
 have m4 := k4.get oM (by omega)
 have g4 : Grows σ σ4 := Keeps.trans gA k4 fun i hi e => by omega
 have W4 : WayS σ4 fi li mid .nilslice [] [] := ⟨f4, l4, m4, rfl, Own.nil _ _, fun _ => rfl⟩
 have lr := (hr.grow g4).len
 rw [List.length_map] at lr
 simp -dsimp only [↓WPd, ↓wpC_block, ↓wpC_cond, WPu, Bool.false_eq_true, Bool.true_eq_false, Bool.not_true, Bool.not_false, if_true, if_false, ite_true, ite_false, Nat.reduceEqDiff, Nat.reduceLT, true_and, List.map_cons, List.map_nil, Nat.zero_add, Nat.reduceBEq, WPm, st, lr]
 refine loop_rule2 (fun m xs σ' => ∃ (k : Nat) (lv : AVal) (bs : List Nm), k ≤ rs.length ∧ m = rs.length - k ∧ xs = [hv, .ptr li 0, .ptr fi 0, .func 115 [] [.ptr fi 0, .ptr li 0], rsv, .int .i64 rs.length, .int .i64 (k : Nat)] ∧ Grows σ σ' ∧ WayS σ' fi li mid lv (adds [] (rs.take k)) bs ∧ Fresh li lv ∧ Come H rs (adds [] (rs.take k)) bs)
  [0, 4, 5, 6] (fun e xs σ' => e = .exit 0 ∧ xs = [hv, .ptr li 0, .ptr fi 0, .func 115 [] [.ptr fi 0, .ptr li 0]] ∧ Grows σ σ' ∧ ∃ lv bs, WayS σ' fi li mid lv (adds [] rs) bs ∧ Fresh li lv ∧ Come H rs (adds [] rs) bs) rs.length
  ⟨0, .nilslice, [], Nat.zero_le _, rfl, ?_, g4, W4, Fresh.nil _, Come.nil H rs⟩ ?_ ?_
 ·simp -dsimp only [↓WPd, ↓wpC_block, ↓wpC_cond, WPu, Bool.false_eq_true, Bool.true_eq_false, Bool.not_true, Bool.not_false, if_true, if_false, ite_true, ite_false, Nat.reduceEqDiff, Nat.reduceLT, true_and, List.map_cons, List.map_nil, Nat.zero_add, Nat.reduceBEq]; rfl
 ·rintro m xs σ' ⟨k, lv, bs, hk, rfl, rfl, g, W, fl, cm⟩
  simp -dsimp only [↓WPd, ↓wpC_block, ↓wpC_cond, WPu, Bool.false_eq_true, Bool.true_eq_false, Bool.not_true, Bool.not_false, if_true, if_false, ite_true, ite_false, Nat.reduceEqDiff, Nat.reduceLT, true_and, List.map_cons, List.map_nil, Nat.zero_add, Nat.reduceBEq]
  refine condP_dec (fun hc => ?_) (fun hc => ?_)
  ·have hk' : k < rs.length := by omega
   obtain ⟨n1, n2⟩ := names_load (hr.grow g) hk'
   have oj : (σ' ++ [AObj.cells (nmC rs[k])])[σ'.length]? = some (.cells (nmC rs[k])) := by simp
   have g1 : Grows σ' (σ' ++ [AObj.cells (nmC rs[k])]) := Grows.app _ _
   simp -dsimp only [↓WPd, ↓wpC_block, ↓wpC_cond, WPu, Bool.false_eq_true, Bool.true_eq_false, Bool.not_true, Bool.not_false, if_true, if_false, ite_true, ite_false, Nat.reduceEqDiff, Nat.reduceLT, true_and, List.map_cons, List.map_nil, Nat.zero_add, Nat.reduceBEq, WPm, n1, n2, nm_putB]
   generalize σ' ++ [AObj.cells (nmC rs[k])] = σ5 at oj g1
   have hal := adds_len [] (rs.take k)
   have htl : (rs.take k).length ≤ rs.length := by simp; omega
   simp only [List.length_nil] at hal
   simp -dsimp only [↓WPd, ↓wpC_block, ↓wpC_cond, WPu, Bool.false_eq_true, Bool.true_eq_false, Bool.not_true, Bool.not_false, if_true, if_false, ite_true, ite_false, Nat.reduceEqDiff, Nat.reduceLT, true_and, List.map_cons, List.map_nil, Nat.zero_add, Nat.reduceBEq, WPm, load_nm oj]
   refine calledW_of (come_ok d σ5 fi li mid lv _ bs rs[k] rs[k] (W.grow g1) (by omega)) ?_
   rintro r σ6 ⟨⟨lv', W6, hs6⟩, k6⟩
   have ht : rs.take (k + 1) = rs.take k ++ [rs[k]] := List.take_succ_eq_append_getElem hk'
   simp -dsimp only [↓WPd, ↓wpC_block, ↓wpC_cond, WPu, Bool.false_eq_true, Bool.true_eq_false, Bool.not_true, Bool.not_false, if_true, if_false, ite_true, ite_false, Nat.reduceEqDiff, Nat.reduceLT, true_and, List.map_cons, List.map_nil, Nat.zero_add, Nat.reduceBEq, WPm]
   refine ⟨rs.length - (k + 1), by omega, k + 1, lv', _, by omega, rfl, by rw [wrap_i64 (by omega) (by omega), Int.natCast_add, Int.natCast_one], Keeps.trans (g.trans g1) k6 fun i hi e => ?_, by rw [ht, adds_snoc]; exact W6, fun i hi => ?_, by rw [ht, adds_snoc]; exact cm.add (.inl ⟨List.getElem_mem hk', rfl⟩)⟩
   ·rcases e with e | e | e
    ·omega
    ·omega
    ·have := fl i e; omega
   ·rcases hs6 i hi with e | e
    ·exact fl i e
    ·have := (g.trans g1).1; omega
  ·have : k = rs.length := by omega
   subst this
   rw [List.take_length] at W cm
   simp -dsimp only [↓WPd, ↓wpC_block, ↓wpC_cond, WPu, Bool.false_eq_true, Bool.true_eq_false, Bool.not_true, Bool.not_false, if_true, if_false, ite_true, ite_false, Nat.reduceEqDiff, Nat.reduceLT, true_and, List.map_cons, List.map_nil, Nat.zero_add, Nat.reduceBEq]
   exact ⟨g, lv, bs, W, fl, cm⟩
 ·rintro e σ5 env ⟨rfl, hv', g5, lv, bs, W5, fl5, cm5⟩
  simp only [List.map_cons, List.map_nil, List.cons.injEq, and_true] at hv'
  obtain ⟨v0, v4, v5, v6⟩ := hv'
  simp -dsimp only [↓WPd, ↓wpC_block, ↓wpC_cond, WPu, Bool.false_eq_true, Bool.true_eq_false, Bool.not_true, Bool.not_false, if_true, if_false, ite_true, ite_false, Nat.reduceEqDiff, Nat.reduceLT, true_and, List.map_cons, List.map_nil, Nat.zero_add, Nat.reduceBEq, WPm, v0, v4, v5, v6]
  refine loop_rule2 (fun m xs σ' => ∃ (i : Nat) (lv : AVal) (l bs : List Nm), i ≤ l.length ∧ m = (univ H rs).length - i ∧ xs = [hv, .ptr li 0, .ptr fi 0, .func 115 [] [.ptr fi 0, .ptr li 0], .int .i64 (i : Nat)] ∧ Grows σ σ' ∧ WayS σ' fi li mid lv l bs ∧ Fresh li lv ∧ Way H rs l i ∧ Come H rs l bs)
   [4, 5] (fun e xs σ' => e = .exit 2 ∧ xs = [.ptr li 0, .ptr fi 0] ∧ Grows σ σ' ∧ ∃ (lv : AVal) (l bs : List Nm), WayS σ' fi li mid lv l bs ∧ Fresh li lv ∧ Way H rs l l.length ∧ Come H rs l bs) (univ H rs).length
   ⟨0, lv, adds [] rs, bs, Nat.zero_le _, rfl, ?_, g5, W5, fl5, Way.start H rs, cm5⟩ ?_ ?_
  ·simp -dsimp only [↓WPd, ↓wpC_block, ↓wpC_cond, WPu, Bool.false_eq_true, Bool.true_eq_false, Bool.not_true, Bool.not_false, if_true, if_false, ite_true, ite_false, Nat.reduceEqDiff, Nat.reduceLT, true_and, List.map_cons, List.map_nil, Nat.zero_add, Nat.reduceBEq, v0, v4, v5, v6]; rfl
  ·rintro m xs σ' ⟨i, lv, l, bs, hi, rfl, rfl, g, W, fl, wy, cm⟩
   have e1 : ([lv] : List AVal)[0]? = some lv := rfl
   have ll := W.own.sl.len
   rw [List.length_map] at ll
   have hlu := wy.len
   simp -dsimp only [↓WPd, ↓wpC_block, ↓wpC_cond, WPu, Bool.false_eq_true, Bool.true_eq_false, Bool.not_true, Bool.not_false, if_true, if_false, ite_true, ite_false, Nat.reduceEqDiff, Nat.reduceLT, true_and, List.map_cons, List.map_nil, Nat.zero_add, Nat.reduceBEq, WPm, load_cells W.lc, e1, ll]
   refine condP_dec (fun hc => ?_) (fun hc => ?_)
   ·have hi' : i < l.length := by omega
    obtain ⟨n1, n2⟩ := names_load W.own.sl hi'
    simp -dsimp only [↓WPd, ↓wpC_block, ↓wpC_cond, WPu, Bool.false_eq_true, Bool.true_eq_false, Bool.not_true, Bool.not_false, if_true, if_false, ite_true, ite_false, Nat.reduceEqDiff, Nat.reduceLT, true_and, List.map_cons, List.map_nil, Nat.zero_add, Nat.reduceBEq, WPm, load_cells W.lc, e1, n1, n2]
    refine calledW_of (nextn_ok d σ' hv H hw l[i] (h.grow g)) ?_
    rintro r σ6 ⟨g6, or, fr⟩
    have sl := stepN_len hw l[i]
    have lr6 := or.sl.len
    rw [List.length_map] at lr6
    have hg6 := g6.1
    have W6 := W.grow g6
    have fl6 : ∀ j, lv.sid = some j → r.sid ≠ some j := fun j hj e => by have := W.own.sl.lt hj; have := fr j e; omega
    have hrs6 : ∀ j, r.sid = some j → j < σ6.length := fun j hj => or.sl.lt hj
    obtain ⟨w0, hw0⟩ : ∃ w0, w0 = l[i] := ⟨_, rfl⟩
    rw [← hw0] at or sl lr6
    simp -dsimp only [↓WPd, ↓wpC_block, ↓wpC_cond, WPu, Bool.false_eq_true, Bool.true_eq_false, Bool.not_true, Bool.not_false, if_true, if_false, ite_true, ite_false, Nat.reduceEqDiff, Nat.reduceLT, true_and, List.map_cons, List.map_nil, Nat.zero_add, Nat.reduceBEq, WPm, lr6]
    refine loop_rule2 (fun m xs σ' => ∃ (k : Nat) (lv2 : AVal) (l2 bs2 : List Nm), k ≤ (stepN H w0).length ∧ m = (stepN H w0).length - k ∧ xs = [hv, .ptr li 0, .ptr fi 0, .func 115 [] [.ptr fi 0, .ptr li 0], .int .i64 (i : Nat), r, .int .i64 (stepN H w0).length, .int .i64 (k : Nat)] ∧ Grows σ σ' ∧ σ6.length ≤ σ'.length ∧ l2 = adds l ((stepN H w0).take k) ∧ WayS σ' fi li mid lv2 l2 bs2 ∧ Fresh li lv2 ∧ Own σ' 2 r (NN (stepN H w0)) ∧ (∀ j, lv2.sid = some j → r.sid ≠ some j) ∧ Come H rs l2 bs2)
     [0, 4, 5, 6, 9] (fun e xs σ' => e = .exit 4 ∧ xs = [hv, .ptr li 0, .ptr fi 0, .func 115 [] [.ptr fi 0, .ptr li 0], .int .i64 (i : Nat)] ∧ Grows σ σ' ∧ ∃ (lv2 : AVal) (bs2 : List Nm), WayS σ' fi li mid lv2 (adds l (stepN H w0)) bs2 ∧ Fresh li lv2 ∧ Come H rs (adds l (stepN H w0)) bs2) (stepN H w0).length
     ⟨0, lv, l, bs, Nat.zero_le _, rfl, ?_, g.trans g6, Nat.le_refl _, by simp [adds], W6, fl, or, fl6, cm⟩ ?_ ?_
    ·simp -dsimp only [↓WPd, ↓wpC_block, ↓wpC_cond, WPu, Bool.false_eq_true, Bool.true_eq_false, Bool.not_true, Bool.not_false, if_true, if_false, ite_true, ite_false, Nat.reduceEqDiff, Nat.reduceLT, true_and, List.map_cons, List.map_nil, Nat.zero_add, Nat.reduceBEq]; rfl
    ·rintro m xs σ7 ⟨k, lv2, l2, bs2, hk, rfl, rfl, g7, hl7, hl2, W7, f7, o7, d7, cm7⟩
     simp -dsimp only [↓WPd, ↓wpC_block, ↓wpC_cond, WPu, Bool.false_eq_true, Bool.true_eq_false, Bool.not_true, Bool.not_false, if_true, if_false, ite_true, ite_false, Nat.reduceEqDiff, Nat.reduceLT, true_and, List.map_cons, List.map_nil, Nat.zero_add, Nat.reduceBEq]
     refine condP_dec (fun hc => ?_) (fun hc => ?_)
     ·have hk' : k < (stepN H w0).length := by omega
      obtain ⟨m1, m2⟩ := names_load o7.sl hk'
      have oj : (σ7 ++ [AObj.cells (nmC (stepN H w0)[k])])[σ7.length]? = some (.cells (nmC (stepN H w0)[k])) := by simp
      have g8 : Grows σ7 (σ7 ++ [AObj.cells (nmC (stepN H w0)[k])]) := Grows.app _ _
      simp -dsimp only [↓WPd, ↓wpC_block, ↓wpC_cond, WPu, Bool.false_eq_true, Bool.true_eq_false, Bool.not_true, Bool.not_false, if_true, if_false, ite_true, ite_false, Nat.reduceEqDiff, Nat.reduceLT, true_and, List.map_cons, List.map_nil, Nat.zero_add, Nat.reduceBEq, WPm, m1, m2, nm_putB]
      generalize σ7 ++ [AObj.cells (nmC (stepN H w0)[k])] = σ8 at oj g8
      have W8 := W7.grow g8
      have e2 : ([lv2] : List AVal)[0]? = some lv2 := rfl
      obtain ⟨x, hx⟩ := adds_pre ((stepN H w0).take k) l
      have hl2i : i < l2.length := by rw [hl2, hx, List.length_append]; omega
      obtain ⟨p1, p2⟩ := names_load W8.own.sl hl2i
      have hl2l : l2.length ≤ l.length + 256 := by
       have := adds_len l ((stepN H w0).take k)
       rw [hl2]
       have : ((stepN H w0).take k).length ≤ 256 := by simp; omega
       omega
      simp -dsimp only [↓WPd, ↓wpC_block, ↓wpC_cond, WPu, Bool.false_eq_true, Bool.true_eq_false, Bool.not_true, Bool.not_false, if_true, if_false, ite_true, ite_false, Nat.reduceEqDiff, Nat.reduceLT, true_and, List.map_cons, List.map_nil, Nat.zero_add, Nat.reduceBEq, WPm, load_nm oj, load_cells W8.lc, e2, p1, p2]
      refine calledW_of (come_ok d σ8 fi li mid lv2 l2 bs2 _ _ W8 (by omega)) ?_
      rintro r9 σ9 ⟨⟨lv3, W9, hs9⟩, k9⟩
      have ht : (stepN H w0).take (k + 1) = (stepN H w0).take k ++ [(stepN H w0)[k]] := List.take_succ_eq_append_getElem hk'
      have o8 := o7.grow g8
      have hk9 := k9.1
      have hg8 := g8.1
      have hg7 := g7.1
      simp -dsimp only [↓WPd, ↓wpC_block, ↓wpC_cond, WPu, Bool.false_eq_true, Bool.true_eq_false, Bool.not_true, Bool.not_false, if_true, if_false, ite_true, ite_false, Nat.reduceEqDiff, Nat.reduceLT, true_and, List.map_cons, List.map_nil, Nat.zero_add, Nat.reduceBEq, WPm]
      refine ⟨(stepN H w0).length - (k + 1), by omega, k + 1, lv3, addN l2 (stepN H w0)[k], _, by omega, rfl, by rw [wrap_i64 (by omega) (by omega), Int.natCast_add, Int.natCast_one], Keeps.trans (g7.trans g8) k9 fun j hj e => ?_, by omega, by rw [ht, adds_snoc, hl2], W9, fun j hj => ?_, o8.keeps k9 fun j hj e => ?_, fun j hj e => ?_, cm7.add (.inr ⟨i, hl2i, rfl, ?_⟩)⟩
      ·rcases e with e | e | e
       ·omega
       ·omega
       ·have := f7 j e; omega
      ·rcases hs9 j hj with e | e
       ·exact f7 j e
       ·omega
      ·rcases e with e | e | e
       ·exact o8.noMap W8.mc (e ▸ hj)
       ·exact o8.noCell W8.lc (e ▸ hj)
       ·exact d7 j e hj
      ·rcases hs9 j hj with e' | e'
       ·exact d7 j e' e
       ·have := hrs6 j e; omega
      ·have e : l2[i] = w0 := by
        have key : ∀ (y : List Nm) (hy : y = l ++ x) (h : i < y.length), y[i] = l[i] := by
         intro y hy h; subst hy; exact List.getElem_append_left hi'
        rw [hw0]; exact key l2 (by rw [hl2, hx]) hl2i
       rw [e]; exact List.getElem_mem hk'
     ·have : k = (stepN H w0).length := by omega
      subst this
      rw [List.take_length] at hl2
      subst hl2
      simp -dsimp only [↓WPd, ↓wpC_block, ↓wpC_cond, WPu, Bool.false_eq_true, Bool.true_eq_false, Bool.not_true, Bool.not_false, if_true, if_false, ite_true, ite_false, Nat.reduceEqDiff, Nat.reduceLT, true_and, List.map_cons, List.map_nil, Nat.zero_add, Nat.reduceBEq]
      exact ⟨g7, lv2, bs2, W7, f7, cm7⟩
    ·rintro e σ7 env ⟨rfl, hv', g7, lv2, bs2, W7, f7, cm7⟩
     simp only [List.map_cons, List.map_nil, List.cons.injEq, and_true] at hv'
     obtain ⟨v0, v4, v5, v6, v9⟩ := hv'
     have wn := wy.next hi'
     rw [← hw0] at wn
     have hil : i + 1 ≤ (adds l (stepN H w0)).length := by
      obtain ⟨x, hx⟩ := adds_pre (stepN H w0) l
      rw [hx, List.length_append]; omega
     have hnu := wn.len
     simp -dsimp only [↓WPd, ↓wpC_block, ↓wpC_cond, WPu, Bool.false_eq_true, Bool.true_eq_false, Bool.not_true, Bool.not_false, if_true, if_false, ite_true, ite_false, Nat.reduceEqDiff, Nat.reduceLT, true_and, List.map_cons, List.map_nil, Nat.zero_add, Nat.reduceBEq, WPm, v0, v4, v5, v6, v9]
     refine ⟨(univ H rs).length - (i + 1), by omega, i + 1, lv2, _, bs2, hil, rfl, by rw [wrap_i64 (by omega) (by omega), Int.natCast_add, Int.natCast_one], g7, W7, f7, wn, cm7⟩
   ·have : i = l.length := by omega
    subst this
    simp -dsimp only [↓WPd, ↓wpC_block, ↓wpC_cond, WPu, Bool.false_eq_true, Bool.true_eq_false, Bool.not_true, Bool.not_false, if_true, if_false, ite_true, ite_false, Nat.reduceEqDiff, Nat.reduceLT, true_and, List.map_cons, List.map_nil, Nat.zero_add, Nat.reduceBEq]
    exact ⟨g, lv, l, bs, W, fl, wy, cm⟩
  ·rintro e σ6 env ⟨rfl, hv', g6, lv, l, bs, W, fl, wy, cm⟩
   simp only [List.map_cons, List.map_nil, List.cons.injEq, and_true] at hv'
   obtain ⟨v4, v5⟩ := hv'
   have e1 : ([lv] : List AVal)[0]? = some lv := rfl
   have e2 : ([AVal.map mid] : List AVal)[0]? = some (.map mid) := rfl
   simp -dsimp only [↓WPd, ↓wpC_block, ↓wpC_cond, WPu, Bool.false_eq_true, Bool.true_eq_false, Bool.not_true, Bool.not_false, if_true, if_false, ite_true, ite_false, Nat.reduceEqDiff, Nat.reduceLT, true_and, List.map_cons, List.map_nil, Nat.zero_add, Nat.reduceBEq, WPm, v4, v5]
   refine drawnP_of rfl ?_
   have s1 : storeV σ6 1 (.ptr li 0) lv = some σ6 := by
    rw [store_cells W.lc (off := 0) (by simp) W.own.one]
    exact congrArg some (set_here W.lc)
   have s2 : storeV σ6 1 (.ptr fi 0) (.map mid) = some σ6 := by
    rw [store_cells W.fc (off := 0) (by simp) rfl]
    exact congrArg some (set_here W.fc)
   simp -dsimp only [↓WPd, ↓wpC_block, ↓wpC_cond, WPu, Bool.false_eq_true, Bool.true_eq_false, Bool.not_true, Bool.not_false, if_true, if_false, ite_true, ite_false, Nat.reduceEqDiff, Nat.reduceLT, true_and, List.map_cons, List.map_nil, Nat.zero_add, Nat.reduceBEq, ↓WPed, WPeu, Nat.reduceAdd, and_self, v4, v5, load_cells W.lc, load_cells W.fc, e1, e2, s1, s2, resultsA, resOf, mapO]
   exact ⟨g6, lv, mid, l, bs, rfl, W.own, fl, wy.nodup, wy.all, W.mc, by omega, W.nilc, cm⟩
theorem Own.shape {σ : Store} {sz : Nat} {v : AVal} {es : List AVal} (h : Own σ sz v es) (hn : NoLit v) (he : es ≠ []) : ∃ id ep fl, v = .slice sz id ep 0 es.length none ∧ σ[id]? = some (.arr sz es ep fl) := by
 rcases h.own with ⟨_, e⟩ | ⟨t, rfl⟩ | ⟨id, ep, off, cap, xs, epo, fl, rfl, ho, hf, he', hl, hc⟩
 ·exact (he e).elim
 ·exact (he hn).elim
 ·rcases hc with ⟨rfl, rfl, rfl, rfl⟩ | rfl
  ·exact ⟨id, _, fl, rfl, ho⟩
  ·exact hn.elim
theorem nclone_ok (d : Nat) (σ : Store) (b : AVal) (t : List Nm) (hs : t.length < 2 ^ 40) (hb : SlOf σ 2 b (NN t)) (hnil : t = [] → b = .nilslice) : Called CU.cfg d 75 [b] σ fun v σ' => Grows σ σ' ∧ Own σ' 2 v (NN t) ∧ Fresh σ.length v ∧ NoLit v ∧ (t = [] → v = .nilslice) := by
 refine called_of (fn := CU.a75) rfl (Nat.le_of_ble_eq_true rfl) ?_
 obtain ⟨x, hx, hx'⟩ := hb.isnil
 simp only [CU.a75]
 simp -dsimp only [↓WPd, ↓wpC_block, ↓wpC_cond, WPu, Bool.false_eq_true, Bool.true_eq_false, Bool.not_true, Bool.not_false, if_true, if_false, ite_true, ite_false, Nat.reduceEqDiff, Nat.reduceLT, true_and, List.map_cons, List.map_nil, Nat.zero_add, Nat.reduceBEq, hx, Bool.false_eq_true]
 refine condP_intro (fun h => ?_) (fun h => ?_)
 ·obtain ⟨rfl, he⟩ := hx' h
  simp -dsimp only [↓WPd, ↓wpC_block, ↓wpC_cond, WPu, Bool.false_eq_true, Bool.true_eq_false, Bool.not_true, Bool.not_false, if_true, if_false, ite_true, ite_false, Nat.reduceEqDiff, Nat.reduceLT, true_and, List.map_cons, List.map_nil, Nat.zero_add, Nat.reduceBEq]
  exact ⟨Keeps.refl _ _, by rw [he]; exact Own.nil _ _, (fun id h => by cases h), trivial, fun _ => trivial⟩
 ·have hne : t ≠ [] := fun e => by
   rw [hnil e] at hx
   cases hx
   cases h
  simp -dsimp only [↓WPd, ↓wpC_block, ↓wpC_cond, WPu, Bool.false_eq_true, Bool.true_eq_false, Bool.not_true, Bool.not_false, if_true, if_false, ite_true, ite_false, Nat.reduceEqDiff, Nat.reduceLT, true_and, List.map_cons, List.map_nil, Nat.zero_add, Nat.reduceBEq, hb.els]
  refine stepP_of [] rfl ?_
  have ho : Own σ 2 (.fslice (AVal.tagL []) true 2 []) [] := ⟨.inr (.inl ⟨_, rfl⟩)⟩
  obtain ⟨v', σ', h1, h2, h3, h4, h5⟩ := ho.append (NN t) 16 (by rw [List.length_map]; simp; omega)
  simp -dsimp only [↓WPd, ↓wpC_block, ↓wpC_cond, WPu, Bool.false_eq_true, Bool.true_eq_false, Bool.not_true, Bool.not_false, if_true, if_false, ite_true, ite_false, Nat.reduceEqDiff, Nat.reduceLT, true_and, List.map_cons, List.map_nil, Nat.zero_add, Nat.reduceBEq, hb.els, h1]
  refine ⟨h3.mono (fun i _ h => by cases h), by simpa using h2, fun id hid => ?_, h5 (.inl rfl), fun e => (hne e).elim⟩
  rcases h4 id hid with h | h
  ·cases h
  ·omega
theorem sortf_ok (d : Nat) (σ : Store) (v : AVal) (l : List Nm) (h : Own σ 2 v (NN l)) (hn : NoLit v) (hnil : l = [] → v = .nilslice) (hl : l.length < 2 ^ 40) : Called CU.cfg d 116 [v, .func 117 [] []] σ fun r σ' => Own σ' 2 v (NN (sortN l)) ∧ Keeps (fun i => v.sid = some i) σ σ' := by
 cases l with
 | nil =>
  rw [hnil rfl]
  refine called_nat (g := natSO 117) rfl rfl ⟨Own.nil _ _, Keeps.refl _ _⟩
 | cons x r =>
  obtain ⟨id, ep, fl, rfl, ho⟩ := h.shape hn (by simp)
  have he : natSO 117 [.slice 2 id ep 0 (NN (x :: r)).length none, .func 117 [] []] σ = some (.tuple [], σ.set id (.arr 2 ((sortN (x :: r)).map nmV) ep ep)) := by
   have hp : 0 < (NN (x :: r)).length ∧ (NN (x :: r)).length ≤ 8796093022208 := by rw [List.length_map]; simp only [List.length_cons] at hl ⊢; omega
   simp only [natSO, if_true, ho, hp, and_self, nmsOf_map]
  refine called_nat (g := natSO 117) rfl he ⟨?_, Keeps.set _ _ _ |>.mono fun i _ e => by rw [e]; rfl⟩
  have hlen : (NN (sortN (x :: r))).length = (NN (x :: r)).length := by rw [List.length_map, List.length_map, sortN_len]
  have hw := Own.whole (σ := σ.set id (.arr 2 (NN (sortN (x :: r))) ep ep)) (sz := 2) (id := id) (ep := ep) (fl := ep) (es := NN (sortN (x :: r))) (get_set ho) (Nat.le_refl _)
  rw [hlen] at hw
  exact hw
theorem names_eqs {σ : Store} {l : AVal} {ws : List Nm} (hl : SlOf σ 2 l (NN ws)) {i : Nat} (hi : i < ws.length) : iaddrV 2 l (.int .i64 i) = some (addrOf 2 l i) ∧ loadV σ 2 true (addrOf 2 l i) = some (nmV ws[i]) := names_at hl hi
theorem compact_ok (d : Nat) (σ : Store) (v : AVal) (l : List Nm) (h : SlOf σ 2 v (NN l)) (hd : l.Nodup) (hl : l.length < 2 ^ 40) : Called CU.cfg d 118 [v] σ fun r σ' => r = v ∧ σ' = σ := by
 refine called_of (fn := CU.a118) rfl (Nat.le_of_ble_eq_true rfl) ?_
 simp only [CU.a118]
 have ll := h.len
 rw [List.length_map] at ll
 simp -dsimp only [↓WPd, ↓wpC_block, ↓wpC_cond, WPu, Bool.false_eq_true, Bool.true_eq_false, Bool.not_true, Bool.not_false, if_true, if_false, ite_true, ite_false, Nat.reduceEqDiff, Nat.reduceLT, true_and, List.map_cons, List.map_nil, Nat.zero_add, Nat.reduceBEq, ll]
 refine condP_dec (fun hc => ?_) (fun hc => ?_)
 ·simp -dsimp only [↓WPd, ↓wpC_block, ↓wpC_cond, WPu, Bool.false_eq_true, Bool.true_eq_false, Bool.not_true, Bool.not_false, if_true, if_false, ite_true, ite_false, Nat.reduceEqDiff, Nat.reduceLT, true_and, List.map_cons, List.map_nil, Nat.zero_add, Nat.reduceBEq]
 ·simp -dsimp only [↓WPd, ↓wpC_block, ↓wpC_cond, WPu, Bool.false_eq_true, Bool.true_eq_false, Bool.not_true, Bool.not_false, if_true, if_false, ite_true, ite_false, Nat.reduceEqDiff, Nat.reduceLT, true_and, List.map_cons, List.map_nil, Nat.zero_add, Nat.reduceBEq]
  refine loop_rule2 (fun m vs σ' => ∃ k : Nat, 1 ≤ k ∧ k ≤ l.length ∧ m = l.length - k ∧ vs = [v, .int .i64 (k : Nat)] ∧ σ' = σ) [0] (fun e vs σ' => e = .exit 0 ∧ vs = [v] ∧ σ' = σ) (l.length - 1) ⟨1, Nat.le_refl _, by omega, rfl, ?_, rfl⟩ ?_ ?_
  ·simp -dsimp only [↓WPd, ↓wpC_block, ↓wpC_cond, WPu, Bool.false_eq_true, Bool.true_eq_false, Bool.not_true, Bool.not_false, if_true, if_false, ite_true, ite_false, Nat.reduceEqDiff, Nat.reduceLT, true_and, List.map_cons, List.map_nil, Nat.zero_add, Nat.reduceBEq]; rfl
  ·rintro m vs σ' ⟨k, hk1, hk, rfl, rfl, rfl⟩
   simp -dsimp only [↓WPd, ↓wpC_block, ↓wpC_cond, WPu, Bool.false_eq_true, Bool.true_eq_false, Bool.not_true, Bool.not_false, if_true, if_false, ite_true, ite_false, Nat.reduceEqDiff, Nat.reduceLT, true_and, List.map_cons, List.map_nil, Nat.zero_add, Nat.reduceBEq, ll]
   refine condP_dec (fun hc => ?_) (fun hc => ?_)
   ·have hk' : k < l.length := by omega
    have e1 : IntKind.i64.wrap ((k : Int) - 1) = ((k - 1 : Nat) : Int) := by rw [wrap_i64 (by omega) (by omega)]; omega
    obtain ⟨n1, n2⟩ := names_eqs h hk'
    obtain ⟨m1, m2⟩ := names_eqs h (show k - 1 < l.length by omega)
    have hne : l[k] ≠ l[k - 1] := fun e => List.pairwise_iff_getElem.1 hd (k - 1) k (by omega) hk' (by omega) e.symm
    simp -dsimp only [↓WPd, ↓wpC_block, ↓wpC_cond, WPu, Bool.false_eq_true, Bool.true_eq_false, Bool.not_true, Bool.not_false, if_true, if_false, ite_true, ite_false, Nat.reduceEqDiff, Nat.reduceLT, true_and, List.map_cons, List.map_nil, Nat.zero_add, Nat.reduceBEq, WPm, n1, n2, e1, m1, m2, nm_eqs, decide_eq_false hne]
    refine ⟨l.length - (k + 1), by omega, k + 1, by omega, by omega, rfl, by rw [wrap_i64 (by omega) (by omega), Int.natCast_add, Int.natCast_one], trivial⟩
   ·simp -dsimp only [↓WPd, ↓wpC_block, ↓wpC_cond, WPu, Bool.false_eq_true, Bool.true_eq_false, Bool.not_true, Bool.not_false, if_true, if_false, ite_true, ite_false, Nat.reduceEqDiff, Nat.reduceLT, true_and, List.map_cons, List.map_nil, Nat.zero_add, Nat.reduceBEq]
  ·rintro e σ' env ⟨rfl, hv, rfl⟩
   simp only [List.map_cons, List.map_nil, List.cons.injEq, and_true] at hv
   simp -dsimp only [↓WPd, ↓wpC_block, ↓wpC_cond, WPu, Bool.false_eq_true, Bool.true_eq_false, Bool.not_true, Bool.not_false, if_true, if_false, ite_true, ite_false, Nat.reduceEqDiff, Nat.reduceLT, true_and, List.map_cons, List.map_nil, Nat.zero_add, Nat.reduceBEq, hv]
theorem nsorted_ok (d : Nat) (σ : Store) (lv : AVal) (l : List Nm) (h : SlOf σ 2 lv (NN l)) (hd : l.Nodup) (hnil : l = [] → lv = .nilslice) (hl : l.length < 2 ^ 40) : Called CU.cfg d 61 [lv] σ fun r σ' => Grows σ σ' ∧ Own σ' 2 r (NN (sortN l)) ∧ Fresh σ.length r ∧ NoLit r := by
 refine called_of (fn := CU.a61) rfl (Nat.le_of_ble_eq_true rfl) ?_
 simp only [CU.a61]
 simp -dsimp only [↓WPd, ↓wpC_block, ↓wpC_cond, WPu, Bool.false_eq_true, Bool.true_eq_false, Bool.not_true, Bool.not_false, if_true, if_false, ite_true, ite_false, Nat.reduceEqDiff, Nat.reduceLT, true_and, List.map_cons, List.map_nil, Nat.zero_add, Nat.reduceBEq]
 refine calledW_of (nclone_ok d σ lv l hl h hnil) ?_
 rintro v σ1 ⟨g1, ov, fv, nv, hvn⟩
 simp -dsimp only [↓WPd, ↓wpC_block, ↓wpC_cond, WPu, Bool.false_eq_true, Bool.true_eq_false, Bool.not_true, Bool.not_false, if_true, if_false, ite_true, ite_false, Nat.reduceEqDiff, Nat.reduceLT, true_and, List.map_cons, List.map_nil, Nat.zero_add, Nat.reduceBEq]
 refine calledW_of (sortf_ok d σ1 v l ov nv hvn hl) ?_
 rintro r σ2 ⟨os, k2⟩
 simp -dsimp only [↓WPd, ↓wpC_block, ↓wpC_cond, WPu, Bool.false_eq_true, Bool.true_eq_false, Bool.not_true, Bool.not_false, if_true, if_false, ite_true, ite_false, Nat.reduceEqDiff, Nat.reduceLT, true_and, List.map_cons, List.map_nil, Nat.zero_add, Nat.reduceBEq]
 refine calledW_of (compact_ok d σ2 v (sortN l) os.sl ((sortN_perm l).nodup_iff.2 hd) (by rw [sortN_len]; exact hl)) ?_
 rintro r σ3 ⟨rfl, rfl⟩
 simp -dsimp only [↓WPd, ↓wpC_block, ↓wpC_cond, WPu, Bool.false_eq_true, Bool.true_eq_false, Bool.not_true, Bool.not_false, if_true, if_false, ite_true, ite_false, Nat.reduceEqDiff, Nat.reduceLT, true_and, List.map_cons, List.map_nil, Nat.zero_add, Nat.reduceBEq]
 exact ⟨Keeps.trans g1 k2 fun i hi e => by have := fv i e; omega, os, fv, nv⟩
theorem needed_ok (d : Nat) (σ : Store) (hv : AVal) (H : Hp) (hw : WF H) (hH : H.length < 2 ^ 28) (rsv : AVal) (rs : List Nm) (h : HeapV σ hv H) (hr : SlOf σ 2 rsv (NN rs)) (hrs : rs.length < 2 ^ 38) :
  Called CU.cfg d 11 [hv, rsv] σ fun r σ' => Grows σ σ' ∧ ∃ l, Own σ' 2 r (NN (sortN l)) ∧ (Fresh σ.length r ∧ NoLit r) ∧ l.Nodup ∧ (∀ v, v ∈ l ↔ Rea H rs v) ∧ l.length < 2 ^ 40 := by
 refine called_of (fn := CU.a11) rfl (Nat.le_of_ble_eq_true rfl) ?_
 simp only [CU.a11]
 simp -dsimp only [↓WPd, ↓wpC_block, ↓wpC_cond, WPu, Bool.false_eq_true, Bool.true_eq_false, Bool.not_true, Bool.not_false, if_true, if_false, ite_true, ite_false, Nat.reduceEqDiff, Nat.reduceLT, true_and, List.map_cons, List.map_nil, Nat.zero_add, Nat.reduceBEq]
 refine calledW_of (walk_ok d σ hv H hw hH rsv rs h hr hrs) ?_
 rintro r σ1 ⟨g1, lv, mid, l, bs, rfl, ol, fl, hd, hm, -, -, hnil, -⟩
 have hu := univ_len hw rs
 have hll : l.length ≤ (univ H rs).length := nodup_le hd fun v hv => ((hm v).1 hv).univ
 simp -dsimp only [↓WPd, ↓wpC_block, ↓wpC_cond, WPu, Bool.false_eq_true, Bool.true_eq_false, Bool.not_true, Bool.not_false, if_true, if_false, ite_true, ite_false, Nat.reduceEqDiff, Nat.reduceLT, true_and, List.map_cons, List.map_nil, Nat.zero_add, Nat.reduceBEq, List.getElem?_cons_zero, List.getElem?_cons_succ]
 refine calledW_of (nsorted_ok d σ1 lv l ol.sl hd hnil (by omega)) ?_
 rintro r σ2 ⟨g2, os, fs⟩
 simp -dsimp only [↓WPd, ↓wpC_block, ↓wpC_cond, WPu, Bool.false_eq_true, Bool.true_eq_false, Bool.not_true, Bool.not_false, if_true, if_false, ite_true, ite_false, Nat.reduceEqDiff, Nat.reduceLT, true_and, List.map_cons, List.map_nil, Nat.zero_add, Nat.reduceBEq]
 exact ⟨g1.trans g2, l, os, ⟨fs.1.le g1.1, fs.2⟩, hd, hm, by omega⟩
theorem from_look {σ : Store} {mid : Nat} {l bs : List Nm} (hm : σ[mid]? = some (.map (l.map nmV) (bs.map nmV))) (hl : bs.length = l.length) (v : Nm) :
  ∃ x : Nm, lookupV σ true [.i, .i] (.agg [.int .i64 0, .int .i64 0]) (.map mid) (nmV v) true = some (.tuple [nmV x, .bool (l.contains v)]) ∧
   lookupV σ true [.i, .i] (.agg [.int .i64 0, .int .i64 0]) (.map mid) (nmV v) false = some (nmV x) ∧ (v ∈ l → ∃ (i : Nat) (hi : i < l.length) (hb : i < bs.length), l[i] = v ∧ x = bs[i]) := by
 obtain ⟨o, f1, f2⟩ := find_names v l
 have hk : keyEq true [.i, .i] (nmV v) (nmV v) = some true := by rw [nm_keyEq, decide_eq_true rfl]
 have hf : findKK true [.i, .i] (nmV v) (l.map nmV) = some o := by simp only [findKK, hk, Option.isSome_some, if_true, f1]
 have hmo : mapOf σ (.map mid) = some (l.map nmV, bs.map nmV) := by simp only [mapOf, hm]
 cases o with
 | none =>
  have hc : l.contains v = false := by simpa using f2
  refine ⟨(0, 0), ?_, ?_, fun h => (f2 h).elim⟩
  ·rw [hc]; simp only [lookupV, hmo, hf]; rfl
  ·simp only [lookupV, hmo, hf]; rfl
 | some i =>
  obtain ⟨hi, he⟩ := List.getElem?_eq_some_iff.1 f2
  have hib : i < bs.length := by rw [hl]; exact hi
  have hc : l.contains v = true := by simpa using List.mem_of_getElem? f2
  have e : (bs.map nmV)[i]? = some (nmV bs[i]) := by simp [hib]
  refine ⟨bs[i], ?_, ?_, fun _ => ⟨i, hi, hib, he, rfl⟩⟩
  ·rw [hc]; simp only [lookupV, hmo, hf, e, Option.map_some]; rfl
  ·simp only [lookupV, hmo, hf, e, Option.map_some]; rfl
set_option maxHeartbeats 1000000 in
theorem garbage_ok (d : Nat) (σ : Store) (id mid : Nat) (vs : List AVal) (H R : Hp) (h : HeapP σ id mid vs H) (hs : Same H R) (hH : H.length < 2 ^ 28) (rsv : AVal) (rs : List Nm) (hr : SlOf σ 2 rsv (NN rs)) (hrs : rs.length < 2 ^ 38) :
  Called CU.cfg d 12 [.ptr id 0, rsv] σ fun r σ' => Grows σ σ' ∧ ∃ l, Own σ' 2 r (NN (garb R l)) ∧ (Fresh σ.length r ∧ NoLit r) ∧ l.Nodup ∧ (∀ v, v ∈ l ↔ Rea H rs v) := by
 refine called_of (fn := CU.a12) rfl (Nat.le_of_ble_eq_true rfl) ?_
 simp only [CU.a12]
 have hw := h.wf
 have hHR := hs.len
 simp -dsimp only [↓WPd, ↓wpC_block, ↓wpC_cond, WPu, Bool.false_eq_true, Bool.true_eq_false, Bool.not_true, Bool.not_false, if_true, if_false, ite_true, ite_false, Nat.reduceEqDiff, Nat.reduceLT, true_and, List.map_cons, List.map_nil, Nat.zero_add, Nat.reduceBEq]
 refine calledW_of (walk_ok d σ (.ptr id 0) H hw hH rsv rs h.v hr hrs) ?_
 rintro r σ1 ⟨g1, lv, fm, l, bs, rfl, ol, fl, hd, hm, hfm, -, -, cm⟩
 simp -dsimp only [↓WPd, ↓wpC_block, ↓wpC_cond, WPu, Bool.false_eq_true, Bool.true_eq_false, Bool.not_true, Bool.not_false, if_true, if_false, ite_true, ite_false, Nat.reduceEqDiff, Nat.reduceLT, true_and, List.map_cons, List.map_nil, Nat.zero_add, Nat.reduceBEq, List.getElem?_cons_zero, List.getElem?_cons_succ]
 refine calledW_of (bindings_ok d σ1 id mid vs H R (h.grow g1) hs (by omega) fun p hp => by have := hs.wfr.short hp; omega) ?_
 rintro b σ2 ⟨g2, us, hb⟩
 have hB := hb.bds
 have lb := hB.len
 simp -dsimp only [↓WPd, ↓wpC_block, ↓wpC_cond, WPu, Bool.false_eq_true, Bool.true_eq_false, Bool.not_true, Bool.not_false, if_true, if_false, ite_true, ite_false, Nat.reduceEqDiff, Nat.reduceLT, true_and, List.map_cons, List.map_nil, Nat.zero_add, Nat.reduceBEq, lb]
 refine loop_rule2 (fun m xs σ' => ∃ (k : Nat) (o : AVal), k ≤ R.length ∧ m = R.length - k ∧ xs = [.map fm, o, b, .int .i64 R.length, .int .i64 (k : Nat)] ∧ Grows σ2 σ' ∧ Own σ' 2 o (NN (garb (R.take k) l)) ∧ Fresh σ2.length o ∧ NoLit o)
  [7] (fun e xs σ' => e = .exit 0 ∧ ∃ o, xs = [o] ∧ Grows σ2 σ' ∧ Own σ' 2 o (NN (garb R l)) ∧ Fresh σ2.length o ∧ NoLit o) R.length
  ⟨0, .nilslice, Nat.zero_le _, rfl, ?_, Keeps.refl _ _, by simp [garb]; exact Own.nil _ _, Fresh.nil _, trivial⟩ ?_ ?_
 ·simp -dsimp only [↓WPd, ↓wpC_block, ↓wpC_cond, WPu, Bool.false_eq_true, Bool.true_eq_false, Bool.not_true, Bool.not_false, if_true, if_false, ite_true, ite_false, Nat.reduceEqDiff, Nat.reduceLT, true_and, List.map_cons, List.map_nil, Nat.zero_add, Nat.reduceBEq]; rfl
 ·rintro m xs σ' ⟨k, o, hk, rfl, rfl, g, oo, fo, no⟩
  simp -dsimp only [↓WPd, ↓wpC_block, ↓wpC_cond, WPu, Bool.false_eq_true, Bool.true_eq_false, Bool.not_true, Bool.not_false, if_true, if_false, ite_true, ite_false, Nat.reduceEqDiff, Nat.reduceLT, true_and, List.map_cons, List.map_nil, Nat.zero_add, Nat.reduceBEq]
  refine condP_dec (fun hc => ?_) (fun hc => ?_)
  ·have hk' : k < R.length := by omega
   have hB' := hB.grow g
   obtain ⟨es, E1, E2⟩ := hB'
   have hke : k < es.length := by rw [E2.len]; exact hk'
   obtain ⟨e, he1, u, he2, he3⟩ := E2.get hk'
   have hee : es[k] = e := by rw [List.getElem?_eq_getElem hke] at he1; exact Option.some.inj he1
   have hbh := (E1.addr hke .i64).2
   rw [hee, he2] at hbh
   have hbh' : behind σ' (addrOf 3 b k) = some (bdC (R[k]).1 u, 0) := hbh
   have ia : iaddrV 3 b (.int .i64 k) = some (addrOf 3 b k) := E1.iaddr hke .i64
   have ld : loadV σ' 3 true (addrOf 3 b k) = some (bdV R[k].1 u) := loadN_at hbh' (by simp [bdC])
   have hu1 := bdV_one R[k].1 he3
   have st : storeV (σ' ++ [AObj.cells [.int .i64 0, .int .i64 0, .nilslice]]) 3 (.ptr σ'.length 0) (bdV R[k].1 u) = some (σ' ++ [AObj.cells (bdC R[k].1 u)]) := by
    have h : (σ' ++ [AObj.cells [.int .i64 0, .int .i64 0, .nilslice]])[σ'.length]? = some (.cells [.int .i64 0, .int .i64 0, .nilslice]) := by simp
    rw [show bdV R[k].1 u = .agg (bdC R[k].1 u) from rfl, storeN_cells (cs' := bdC R[k].1 u) (n := 3) h rfl rfl hu1, set_last]
   simp -dsimp only [↓WPd, ↓wpC_block, ↓wpC_cond, WPu, Bool.false_eq_true, Bool.true_eq_false, Bool.not_true, Bool.not_false, if_true, if_false, ite_true, ite_false, Nat.reduceEqDiff, Nat.reduceLT, true_and, List.map_cons, List.map_nil, Nat.zero_add, Nat.reduceBEq, WPm, ia, ld, st]
   have oj : (σ' ++ [AObj.cells (bdC R[k].1 u)])[σ'.length]? = some (.cells (bdC R[k].1 u)) := by simp
   have g3 : Grows σ' (σ' ++ [AObj.cells (bdC R[k].1 u)]) := Grows.app _ _
   generalize σ' ++ [AObj.cells (bdC R[k].1 u)] = σ3 at oj g3
   have lj : ∀ {σ4 : Store}, Grows σ3 σ4 → loadV σ4 2 true (.ptr σ'.length 0) = some (nmV R[k].1) := fun {σ4} g4 => loadN_at (q := .ptr σ'.length 0) (cs := bdC R[k].1 u) (off := 0) (by simp only [behind, g4.get oj]) (by simp [bdC])
   have gm : Grows σ1 σ3 := (g2.trans g).trans g3
   obtain ⟨x, k1, -, -⟩ := from_look (gm.get hfm) cm.len R[k].1
   simp -dsimp only [↓WPd, ↓wpC_block, ↓wpC_cond, WPu, Bool.false_eq_true, Bool.true_eq_false, Bool.not_true, Bool.not_false, if_true, if_false, ite_true, ite_false, Nat.reduceEqDiff, Nat.reduceLT, true_and, List.map_cons, List.map_nil, Nat.zero_add, Nat.reduceBEq, WPm, faddr_ptr, Nat.add_zero, lj (Keeps.refl _ _), k1, List.getElem?_cons_zero, List.getElem?_cons_succ, nm_putB]
   have g4 : Grows σ3 (σ3 ++ [AObj.cells (nmC x)]) := Grows.app _ _
   generalize σ3 ++ [AObj.cells (nmC x)] = σ4 at g4
   have ht : R.take (k + 1) = R.take k ++ [R[k]] := List.take_succ_eq_append_getElem hk'
   have g34 := g3.trans g4
   cases hcl : l.contains R[k].1 with
   | true =>
    have eg : garb (R.take (k + 1)) l = garb (R.take k) l := by
     rw [ht]; unfold garb
     rw [List.map_append, List.filter_append]
     have hcl' : R[k].1 ∈ l := by simpa using hcl
     simp [hcl']
    simp -dsimp only [↓WPd, ↓wpC_block, ↓wpC_cond, WPu, Bool.false_eq_true, Bool.true_eq_false, Bool.not_true, Bool.not_false, if_true, if_false, ite_true, ite_false, Nat.reduceEqDiff, Nat.reduceLT, true_and, List.map_cons, List.map_nil, Nat.zero_add, Nat.reduceBEq, WPm]
    refine ⟨R.length - (k + 1), by omega, k + 1, o, by omega, rfl, by rw [wrap_i64 (by omega) (by omega), Int.natCast_add, Int.natCast_one], g.trans g34, by rw [eg]; exact oo.grow g34, fo, no⟩
   | false =>
    have eg : garb (R.take (k + 1)) l = garb (R.take k) l ++ [R[k].1] := by
     rw [ht]; unfold garb
     rw [List.map_append, List.filter_append]
     have hcl' : R[k].1 ∉ l := by simpa using hcl
     simp [hcl']
    have hgl : (garb (R.take k) l).length ≤ R.length := by
     have h1 : (garb (R.take k) l).length ≤ ((R.take k).map (·.1)).length := List.length_filter_le _ _
     simp at h1; omega
    obtain ⟨w, σ5, a1, a2, a3, a4, a5⟩ := (oo.grow g34).append [nmV R[k].1] 16 (by rw [List.length_map]; simp; omega)
    have lit : fillL 2 true (List.replicate 1 (zel [AVal.int IntKind.i64 0, AVal.int IntKind.i64 0] true)) [(0, nmV R[k].1)] = some [nmV R[k].1] := rfl
    have fle := elems_fs 2 (AVal.tagL [nmV R[k].1]) true σ4 [nmV R[k].1]
    simp -dsimp only [↓WPd, ↓wpC_block, ↓wpC_cond, WPu, Bool.false_eq_true, Bool.true_eq_false, Bool.not_true, Bool.not_false, if_true, if_false, ite_true, ite_false, Nat.reduceEqDiff, Nat.reduceLT, true_and, List.map_cons, List.map_nil, Nat.zero_add, Nat.reduceBEq, WPm, faddr_ptr, Nat.add_zero, lj g4, lit, fle, a1]
    have e : NN (garb (R.take k) l ++ [R[k].1]) = NN (garb (R.take k) l) ++ [nmV R[k].1] := by simp [NN]
    refine ⟨R.length - (k + 1), by omega, k + 1, w, by omega, rfl, by rw [wrap_i64 (by omega) (by omega), Int.natCast_add, Int.natCast_one], Keeps.trans (g.trans g34) a3 fun i hi e => by have := fo i e; omega, by rw [eg, e]; exact a2, fun i hi => ?_, a5 (.inr (by simp))⟩
    rcases a4 i hi with e | e
    ·exact fo i e
    ·have := (g.trans g34).1; omega
  ·have : k = R.length := by omega
   subst this
   rw [List.take_length] at oo
   simp -dsimp only [↓WPd, ↓wpC_block, ↓wpC_cond, WPu, Bool.false_eq_true, Bool.true_eq_false, Bool.not_true, Bool.not_false, if_true, if_false, ite_true, ite_false, Nat.reduceEqDiff, Nat.reduceLT, true_and, List.map_cons, List.map_nil, Nat.zero_add, Nat.reduceBEq]
   exact ⟨o, rfl, g, oo, fo, no⟩
 ·rintro e σ' env ⟨rfl, o, hv, g, oo, fo, no⟩
  simp only [List.map_cons, List.map_nil, List.cons.injEq, and_true] at hv
  simp -dsimp only [↓WPd, ↓wpC_block, ↓wpC_cond, WPu, Bool.false_eq_true, Bool.true_eq_false, Bool.not_true, Bool.not_false, if_true, if_false, ite_true, ite_false, Nat.reduceEqDiff, Nat.reduceLT, true_and, List.map_cons, List.map_nil, Nat.zero_add, Nat.reduceBEq, hv]
  exact ⟨(g1.trans g2).trans g, l, oo, ⟨fo.le (g1.trans g2).1, no⟩, hd, hm⟩
theorem WF.lk_small {H : Hp} (hw : WF H) {v : Nm} {t : List Cel} (h : lk H v = some t) : Small t := right_small (glob_right (hw.ok _ (lk_mem h)).2.2.1)
section
variable (d : Nat) (σ : Store)
theorem rnext_ok (rv : AVal) (R : Hp) (v : Nm) (h : RefV σ rv R) (hw : WF R) (hR : R.length < 2 ^ 30) : Called CU.cfg d 64 [rv, nmV v] σ fun r σ' => Grows σ σ' ∧ SlOf σ' 2 r (NN (stepN R v)) := by
 refine called_of (fn := CU.a64) rfl (Nat.le_of_ble_eq_true rfl) ?_
 simp only [CU.a64]
 simp -dsimp only [↓WPd, ↓wpC_block, ↓wpC_cond, WPu, Bool.false_eq_true, Bool.true_eq_false, Bool.not_true, Bool.not_false, if_true, if_false, ite_true, ite_false, Nat.reduceEqDiff, Nat.reduceLT, true_and, List.map_cons, List.map_nil, Nat.zero_add, Nat.reduceBEq, WPm, nm_cells, nm_one]
 have ho : (σ ++ [AObj.cells (nmC v)])[σ.length]? = some (.cells (nmC v)) := by simp
 have g0 : Grows σ (σ ++ [AObj.cells (nmC v)]) := Grows.app _ _
 have h1 := h.grow g0
 generalize σ ++ [AObj.cells (nmC v)] = σ1 at ho g0 h1
 simp -dsimp only [↓WPd, ↓wpC_block, ↓wpC_cond, WPu, Bool.false_eq_true, Bool.true_eq_false, Bool.not_true, Bool.not_false, if_true, if_false, ite_true, ite_false, Nat.reduceEqDiff, Nat.reduceLT, true_and, List.map_cons, List.map_nil, Nat.zero_add, Nat.reduceBEq, WPm, load_nm ho]
 refine calledW_of (rvalue_ok d σ1 σ1 rv R v h1 (Keeps.refl _ _) (by omega)) ?_
 rintro r σ2 ⟨u, rfl, su, g2⟩
 unfold stepN
 cases hl : lk R v with
 | none =>
  simp -dsimp only [↓WPd, ↓wpC_block, ↓wpC_cond, WPu, Bool.false_eq_true, Bool.true_eq_false, Bool.not_true, Bool.not_false, if_true, if_false, ite_true, ite_false, Nat.reduceEqDiff, Nat.reduceLT, true_and, List.map_cons, List.map_nil, Nat.zero_add, Nat.reduceBEq, WPm, List.getElem?_cons_zero, List.getElem?_cons_succ, Option.isSome_none]
  exact ⟨g0.trans g2, SlOf.nil _ _⟩
 | some t =>
  rw [hl] at su
  simp -dsimp only [↓WPd, ↓wpC_block, ↓wpC_cond, WPu, Bool.false_eq_true, Bool.true_eq_false, Bool.not_true, Bool.not_false, if_true, if_false, ite_true, ite_false, Nat.reduceEqDiff, Nat.reduceLT, true_and, List.map_cons, List.map_nil, Nat.zero_add, Nat.reduceBEq, WPm, List.getElem?_cons_zero, List.getElem?_cons_succ, Option.isSome_some]
  refine calledW_of (rvarsof_ok d σ2 u t (hw.lk_small hl) (su.grow g2)) ?_
  rintro r σ3 ⟨g3, or⟩
  simp -dsimp only [↓WPd, ↓wpC_block, ↓wpC_cond, WPu, Bool.false_eq_true, Bool.true_eq_false, Bool.not_true, Bool.not_false, if_true, if_false, ite_true, ite_false, Nat.reduceEqDiff, Nat.reduceLT, true_and, List.map_cons, List.map_nil, Nat.zero_add, Nat.reduceBEq]
  exact ⟨(g0.trans g2).trans g3, or.sl⟩
set_option maxHeartbeats 1000000 in
theorem rising_ok (mv : AVal) (ms : List Nm) (hd : ms.Nodup) (hn : ms.length < 2 ^ 39) (hm : SlOf σ 2 mv (NN ms)) : Called CU.cfg d 65 [.nilslice, mv] σ fun r σ' => Grows σ σ' ∧ SlOf σ' 2 r (NN (sortN ms)) := by
 refine called_of (fn := CU.a65) rfl (Nat.le_of_ble_eq_true rfl) ?_
 simp only [CU.a65]
 simp -dsimp only [↓WPd, ↓wpC_block, ↓wpC_cond, WPu, Bool.false_eq_true, Bool.true_eq_false, Bool.not_true, Bool.not_false, if_true, if_false, ite_true, ite_false, Nat.reduceEqDiff, Nat.reduceLT, true_and, List.map_cons, List.map_nil, Nat.zero_add, Nat.reduceBEq]
 refine loop_rule2 (fun m xs σ' => ∃ (i : Nat) (lv : AVal), i ≤ ms.length ∧ m = ms.length - i ∧ xs = [lv, mv, .int .i64 (i : Nat)] ∧ Grows σ σ' ∧ SlOf σ' 2 lv (NN (riseN [] (ms.take i))))
  [0] (fun e xs σ' => e = .exit 0 ∧ ∃ lv, xs = [lv] ∧ Grows σ σ' ∧ SlOf σ' 2 lv (NN (riseN [] ms))) ms.length
  ⟨0, .nilslice, Nat.zero_le _, rfl, ?_, Keeps.refl _ _, SlOf.nil _ _⟩ ?_ ?_
 ·simp -dsimp only [↓WPd, ↓wpC_block, ↓wpC_cond, WPu, Bool.false_eq_true, Bool.true_eq_false, Bool.not_true, Bool.not_false, if_true, if_false, ite_true, ite_false, Nat.reduceEqDiff, Nat.reduceLT, true_and, List.map_cons, List.map_nil, Nat.zero_add, Nat.reduceBEq]; rfl
 ·rintro m xs σ1 ⟨i, lv, hi, rfl, rfl, g1, sl⟩
  have lm := (hm.grow g1).len
  rw [List.length_map] at lm
  simp -dsimp only [↓WPd, ↓wpC_block, ↓wpC_cond, WPu, Bool.false_eq_true, Bool.true_eq_false, Bool.not_true, Bool.not_false, if_true, if_false, ite_true, ite_false, Nat.reduceEqDiff, Nat.reduceLT, true_and, List.map_cons, List.map_nil, Nat.zero_add, Nat.reduceBEq, lm]
  refine condP_dec (fun hc => ?_) (fun hc => ?_)
  ·have hi' : i < ms.length := by omega
   obtain ⟨x, hx⟩ : ∃ x, x = ms[i] := ⟨_, rfl⟩
   have hrl := riseN_len [] (ms.take i)
   rw [List.length_take, Nat.min_eq_left (by omega)] at hrl
   simp only [List.length_nil, Nat.zero_add] at hrl
   have hxn : x ∉ riseN [] (ms.take i) := fun h => by
    rcases riseN_mem.1 h with h | h
    ·cases h
    ·obtain ⟨j, hj, hje⟩ := List.mem_iff_getElem.1 h
     rw [List.getElem_take] at hje
     have hji : j < i := by simp at hj; omega
     exact List.pairwise_iff_getElem.1 hd j i (by omega) hi' hji (by rw [hje, hx])
   have ht : ms.take (i + 1) = ms.take i ++ [x] := by rw [hx]; exact List.take_succ_eq_append_getElem hi'
   have hins : riseN [] (ms.take (i + 1)) = insN x (riseN [] (ms.take i)) := by rw [ht, riseN_snoc]
   generalize riseN [] (ms.take i) = ls at sl hrl hxn hins
   have mx : ∀ {σ' : Store}, Grows σ σ' → iaddrV 2 mv (.int .i64 i) = some (addrOf 2 mv i) ∧ loadV σ' 2 true (addrOf 2 mv i) = some (nmV x) := fun g => by rw [hx]; exact names_at (hm.grow g) hi'
   simp -dsimp only [↓WPd, ↓wpC_block, ↓wpC_cond, WPu, Bool.false_eq_true, Bool.true_eq_false, Bool.not_true, Bool.not_false, if_true, if_false, ite_true, ite_false, Nat.reduceEqDiff, Nat.reduceLT, true_and, List.map_cons, List.map_nil, Nat.zero_add, Nat.reduceBEq]
   refine loop_rule2 (fun m xs σ' => ∃ (k : Nat) (nx : AVal), k ≤ ls.length ∧ m = ls.length - k ∧ xs = [lv, mv, .int .i64 (i : Nat), nx, .int .i64 (k : Nat)] ∧ Grows σ σ' ∧ SlOf σ' 2 lv (NN ls) ∧ Own σ' 2 nx (NN (ls.take k)) ∧ Fresh σ.length nx ∧ ∀ (j : Nat) (hj : j < ls.length), j < k → nless ls[j] x = true)
    [0, 1, 5, 6, 7] (fun e xs σ' => e = .exit 2 ∧ ∃ (k : Nat) (nx : AVal), k ≤ ls.length ∧ xs = [lv, mv, .int .i64 (i : Nat), nx, .int .i64 (k : Nat)] ∧ Grows σ σ' ∧ SlOf σ' 2 lv (NN ls) ∧ Own σ' 2 nx (NN (ls.take k)) ∧ Fresh σ.length nx ∧ (∀ (j : Nat) (hj : j < ls.length), j < k → nless ls[j] x = true) ∧ ∀ hk : k < ls.length, nless ls[k] x = false) ls.length
    ⟨0, .nilslice, Nat.zero_le _, rfl, ?_, g1, sl, Own.nil _ _, Fresh.nil _, fun j _ h => by omega⟩ ?_ ?_
   ·simp -dsimp only [↓WPd, ↓wpC_block, ↓wpC_cond, WPu, Bool.false_eq_true, Bool.true_eq_false, Bool.not_true, Bool.not_false, if_true, if_false, ite_true, ite_false, Nat.reduceEqDiff, Nat.reduceLT, true_and, List.map_cons, List.map_nil, Nat.zero_add, Nat.reduceBEq]; rfl
   ·rintro m xs σ2 ⟨k, nx, hk, rfl, rfl, g2, sl2, on, fn, hlt⟩
    have ll := sl2.len
    rw [List.length_map] at ll
    obtain ⟨x1, x2⟩ := mx g2
    by_cases hc : k < ls.length
    ·have dc : decide ((k : Int) < (ls.length : Int)) = true := decide_eq_true (by omega)
     obtain ⟨n1, n2⟩ := names_at sl2 hc
     simp -dsimp only [↓WPd, ↓wpC_block, ↓wpC_cond, WPu, Bool.false_eq_true, Bool.true_eq_false, Bool.not_true, Bool.not_false, if_true, if_false, ite_true, ite_false, Nat.reduceEqDiff, Nat.reduceLT, true_and, List.map_cons, List.map_nil, Nat.zero_add, Nat.reduceBEq, ll, dc, n1, n2, x1, x2]
     refine calledW_of (rless_ok d σ2 ls[k] x) ?_
     rintro r σ3 ⟨rfl, g3⟩
     cases hle : nless ls[k] x with
     | true =>
      have sl3 := sl2.grow g3
      obtain ⟨m1, m2⟩ := names_at sl3 hc
      obtain ⟨nx', σ4, a1, a2, a3, a4, a5⟩ := (on.grow g3).name ls[k] (by simp; omega)
      have fl := elems2 (AVal.tagL [nmV ls[k]]) σ3 (nmV ls[k])
      simp -dsimp only [↓WPd, ↓wpC_block, ↓wpC_cond, WPu, Bool.false_eq_true, Bool.true_eq_false, Bool.not_true, Bool.not_false, if_true, if_false, ite_true, ite_false, Nat.reduceEqDiff, Nat.reduceLT, true_and, List.map_cons, List.map_nil, Nat.zero_add, Nat.reduceBEq, m1, m2, nm_lit, fl, a1]
      have tk : ls.take (k + 1) = ls.take k ++ [ls[k]] := List.take_succ_eq_append_getElem hc
      refine ⟨ls.length - (k + 1), by omega, k + 1, nx', by omega, rfl, by rw [wrap_i64 (by omega) (by omega), Int.natCast_add, Int.natCast_one], Keeps.trans (g2.trans g3) a3 fun j hj e => by have := fn j e; omega, (on.grow g3).append_view a1 sl3, by rw [tk]; exact a2, fun j hj => ?_, fun j hj hjk => ?_⟩
      ·rcases a4 j hj with e | e
       ·exact fn j e
       ·have := (g2.trans g3).1; omega
      ·by_cases e : j = k
       ·subst e; exact hle
       ·exact hlt j hj (by omega)
     | false =>
      simp -dsimp only [↓WPd, ↓wpC_block, ↓wpC_cond, WPu, Bool.false_eq_true, Bool.true_eq_false, Bool.not_true, Bool.not_false, if_true, if_false, ite_true, ite_false, Nat.reduceEqDiff, Nat.reduceLT, true_and, List.map_cons, List.map_nil, Nat.zero_add, Nat.reduceBEq]
      exact ⟨k, nx, hk, rfl, g2.trans g3, sl2.grow g3, on.grow g3, fn, hlt, fun _ => hle⟩
    ·have dc : decide ((k : Int) < (ls.length : Int)) = false := decide_eq_false (by omega)
     simp -dsimp only [↓WPd, ↓wpC_block, ↓wpC_cond, WPu, Bool.false_eq_true, Bool.true_eq_false, Bool.not_true, Bool.not_false, if_true, if_false, ite_true, ite_false, Nat.reduceEqDiff, Nat.reduceLT, true_and, List.map_cons, List.map_nil, Nat.zero_add, Nat.reduceBEq, ll, dc]
     exact ⟨k, nx, hk, rfl, g2, sl2, on, fn, hlt, fun h => absurd h hc⟩
   ·rintro e σ2 env ⟨rfl, k, nx, hk, hv, g2, sl2, on, fn, hlt, hst⟩
    simp only [List.map_cons, List.map_nil, List.cons.injEq, and_true] at hv
    obtain ⟨v0, v1, v5, v6, v7⟩ := hv
    have ll := sl2.len
    rw [List.length_map] at ll
    obtain ⟨x1, x2⟩ := mx g2
    obtain ⟨nx', σ3, a1, a2, a3, a4, a5⟩ := on.name x (by simp; omega)
    have fl := elems2 (AVal.tagL [nmV x]) σ2 (nmV x)
    have sl3 := on.append_view a1 sl2
    have g3 : Grows σ σ3 := Keeps.trans g2 a3 fun j hj e => by have := fn j e; omega
    have f3 : Fresh σ.length nx' := fun j hj => by
     rcases a4 j hj with e | e
     ·exact fn j e
     ·have := g2.1; omega
    obtain ⟨y1, y2⟩ := mx g3
    have ll3 := sl3.len
    rw [List.length_map] at ll3
    have hkn : k ≤ (NN ls).length := by rw [List.length_map]; exact hk
    obtain ⟨dv, d1, d2, d3⟩ := sl3.sub_lo hkn .i64
    have ed : (NN ls).drop k = NN (ls.drop k) := by simp [List.map_drop]
    rw [ed] at d2
    obtain ⟨z, σ4, b1, b2, b3, b4, b5⟩ := a2.append (NN (ls.drop k)) 16 (by simp; omega)
    have ez : NN (ls.take k ++ [x]) ++ NN (ls.drop k) = NN (insN x ls) := by
     rw [← insN_at hk hxn hlt hst]; simp
    rw [ez] at b2
    have fin : ∃ m', m' < ms.length - i ∧ ∃ (i_1 : Nat) (lv : AVal), i_1 ≤ ms.length ∧ m' = ms.length - i_1 ∧ [z, mv, AVal.int .i64 (IntKind.i64.wrap ((i : Int) + 1))] = [lv, mv, .int .i64 (i_1 : Nat)] ∧ Grows σ σ4 ∧ SlOf σ4 2 lv (NN (riseN [] (ms.take i_1))) :=
     ⟨ms.length - (i + 1), by omega, i + 1, z, by omega, rfl, by rw [wrap_i64 (by omega) (by omega), Int.natCast_add, Int.natCast_one], Keeps.trans g3 b3 fun j hj e => by have := f3 j e; omega, by rw [hins]; exact b2.sl⟩
    by_cases hc : k < ls.length
    ·have dc : decide ((k : Int) < (ls.length : Int)) = true := decide_eq_true (by omega)
     obtain ⟨n1, n2⟩ := names_at sl3 hc
     have hne : ls[k] ≠ x := fun e => hxn (by rw [← e]; exact List.getElem_mem hc)
     simp -dsimp only [↓WPd, ↓wpC_block, ↓wpC_cond, WPu, Bool.false_eq_true, Bool.true_eq_false, Bool.not_true, Bool.not_false, if_true, if_false, ite_true, ite_false, Nat.reduceEqDiff, Nat.reduceLT, true_and, List.map_cons, List.map_nil, Nat.zero_add, Nat.reduceBEq, v0, v1, v5, v6, v7, x1, x2, nm_lit, fl, a1, ll3, dc, n1, n2, y1, y2, nm_eqs, decide_eq_false hne, oev, d1, d2.els, b1]
     exact fin
    ·have dc : decide ((k : Int) < (ls.length : Int)) = false := decide_eq_false (by omega)
     simp -dsimp only [↓WPd, ↓wpC_block, ↓wpC_cond, WPu, Bool.false_eq_true, Bool.true_eq_false, Bool.not_true, Bool.not_false, if_true, if_false, ite_true, ite_false, Nat.reduceEqDiff, Nat.reduceLT, true_and, List.map_cons, List.map_nil, Nat.zero_add, Nat.reduceBEq, v0, v1, v5, v6, v7, x1, x2, nm_lit, fl, a1, ll3, dc, oev, d1, d2.els, b1]
     exact fin
  ·have : i = ms.length := by omega
   subst this
   rw [List.take_length] at sl
   simp -dsimp only [↓WPd, ↓wpC_block, ↓wpC_cond, WPu, Bool.false_eq_true, Bool.true_eq_false, Bool.not_true, Bool.not_false, if_true, if_false, ite_true, ite_false, Nat.reduceEqDiff, Nat.reduceLT, true_and, List.map_cons, List.map_nil, Nat.zero_add, Nat.reduceBEq]
   exact ⟨lv, rfl, g1, sl⟩
 ·rintro e σ' env ⟨rfl, lv, hv, g, sl⟩
  simp only [List.map_cons, List.map_nil, List.cons.injEq, and_true] at hv
  simp -dsimp only [↓WPd, ↓wpC_block, ↓wpC_cond, WPu, Bool.false_eq_true, Bool.true_eq_false, Bool.not_true, Bool.not_false, if_true, if_false, ite_true, ite_false, Nat.reduceEqDiff, Nat.reduceLT, true_and, List.map_cons, List.map_nil, Nat.zero_add, Nat.reduceBEq, hv]
  rw [riseN_sort] at sl
  exact ⟨g, sl⟩
theorem addN_in {l : List Nm} {v : Nm} (h : l.contains v = true) : addN l v = l := by unfold addN; rw [if_pos h]
theorem addN_out {l : List Nm} {v : Nm} (h : l.contains v = false) : addN l v = l ++ [v] := by unfold addN; rw [if_neg (by rw [h]; simp)]
set_option maxHeartbeats 2000000 in
theorem rneeded_ok (rv : AVal) (R : Hp) (hw : WF R) (hR : R.length < 2 ^ 28) (rsv : AVal) (rs : List Nm) (h : RefV σ rv R) (hr : SlOf σ 2 rsv (NN rs)) (hrs : rs.length < 2 ^ 37) :
  Called CU.cfg d 16 [rv, rsv] σ fun r σ' => Grows σ σ' ∧ ∃ l, SlOf σ' 2 r (NN (sortN l)) ∧ l.Nodup ∧ (∀ v, v ∈ l ↔ Rea R rs v) ∧ l.length < 2 ^ 39 := by
 refine called_of (fn := CU.a16) rfl (Nat.le_of_ble_eq_true rfl) ?_
 simp only [CU.a16]
 have hu := univ_len hw rs
 have hu2 : (univ R rs).length < 2 ^ 38 := by omega
 simp -dsimp only [↓WPd, ↓wpC_block, ↓wpC_cond, WPu, Bool.false_eq_true, Bool.true_eq_false, Bool.not_true, Bool.not_false, if_true, if_false, ite_true, ite_false, Nat.reduceEqDiff, Nat.reduceLT, true_and, List.map_cons, List.map_nil, Nat.zero_add, Nat.reduceBEq]
 refine loop_rule2 (fun m xs σ' => ∃ (k : Nat) (lv : AVal) (l : List Nm), k ≤ rs.length ∧ m = rs.length - k ∧ xs = [rv, rsv, lv, .int .i64 (k : Nat)] ∧ Grows σ σ' ∧ l = adds [] (rs.take k) ∧ Own σ' 2 lv (NN l) ∧ Fresh σ.length lv)
  [0, 5] (fun e xs σ' => e = .exit 0 ∧ ∃ lv, xs = [rv, lv] ∧ Grows σ σ' ∧ Own σ' 2 lv (NN (adds [] rs)) ∧ Fresh σ.length lv) rs.length
  ⟨0, .nilslice, [], Nat.zero_le _, rfl, ?_, Keeps.refl _ _, by simp [adds], Own.nil _ _, Fresh.nil _⟩ ?_ ?_
 ·simp -dsimp only [↓WPd, ↓wpC_block, ↓wpC_cond, WPu, Bool.false_eq_true, Bool.true_eq_false, Bool.not_true, Bool.not_false, if_true, if_false, ite_true, ite_false, Nat.reduceEqDiff, Nat.reduceLT, true_and, List.map_cons, List.map_nil, Nat.zero_add, Nat.reduceBEq]; rfl
 ·rintro m xs σ' ⟨k, lv, l, hk, rfl, rfl, g, hl, ol, fl⟩
  have lr := (hr.grow g).len
  rw [List.length_map] at lr
  simp -dsimp only [↓WPd, ↓wpC_block, ↓wpC_cond, WPu, Bool.false_eq_true, Bool.true_eq_false, Bool.not_true, Bool.not_false, if_true, if_false, ite_true, ite_false, Nat.reduceEqDiff, Nat.reduceLT, true_and, List.map_cons, List.map_nil, Nat.zero_add, Nat.reduceBEq, lr]
  refine condP_dec (fun hc => ?_) (fun hc => ?_)
  ·have hk' : k < rs.length := by omega
   have hal : l.length ≤ rs.length := by
    have := adds_len [] (rs.take k)
    rw [hl]
    simp only [List.length_nil, List.length_take] at this
    omega
   obtain ⟨n1, n2⟩ := names_at (hr.grow g) hk'
   have ht : addN l rs[k] = adds [] (rs.take (k + 1)) := by rw [List.take_succ_eq_append_getElem hk', adds_snoc, hl]
   simp -dsimp only [↓WPd, ↓wpC_block, ↓wpC_cond, WPu, Bool.false_eq_true, Bool.true_eq_false, Bool.not_true, Bool.not_false, if_true, if_false, ite_true, ite_false, Nat.reduceEqDiff, Nat.reduceLT, true_and, List.map_cons, List.map_nil, Nat.zero_add, Nat.reduceBEq, n1, n2]
   refine calledW_of (hasname_ok d σ' lv l rs[k] (by omega) ol.sl) ?_
   rintro r σ2 ⟨rfl, g2⟩
   cases hcn : l.contains rs[k] with
   | true =>
    simp -dsimp only [↓WPd, ↓wpC_block, ↓wpC_cond, WPu, Bool.false_eq_true, Bool.true_eq_false, Bool.not_true, Bool.not_false, if_true, if_false, ite_true, ite_false, Nat.reduceEqDiff, Nat.reduceLT, true_and, List.map_cons, List.map_nil, Nat.zero_add, Nat.reduceBEq]
    exact ⟨rs.length - (k + 1), by omega, k + 1, lv, l, by omega, rfl, by rw [wrap_i64 (by omega) (by omega), Int.natCast_add, Int.natCast_one], g.trans g2, by rw [← ht, addN_in hcn], ol.grow g2, fl⟩
   | false =>
    obtain ⟨m1, m2⟩ := names_at (hr.grow (g.trans g2)) hk'
    obtain ⟨lv', σ3, a1, a2, a3, a4, a5⟩ := (ol.grow g2).name rs[k] (by omega)
    have fe := elems2 (AVal.tagL [nmV rs[k]]) σ2 (nmV rs[k])
    simp -dsimp only [↓WPd, ↓wpC_block, ↓wpC_cond, WPu, Bool.false_eq_true, Bool.true_eq_false, Bool.not_true, Bool.not_false, if_true, if_false, ite_true, ite_false, Nat.reduceEqDiff, Nat.reduceLT, true_and, List.map_cons, List.map_nil, Nat.zero_add, Nat.reduceBEq, m1, m2, nm_lit, fe, a1]
    refine ⟨rs.length - (k + 1), by omega, k + 1, lv', l ++ [rs[k]], by omega, rfl, by rw [wrap_i64 (by omega) (by omega), Int.natCast_add, Int.natCast_one], Keeps.trans (g.trans g2) a3 fun j hj e => by have := fl j e; omega, by rw [← ht, addN_out hcn], a2, fun j hj => ?_⟩
    rcases a4 j hj with e | e
    ·exact fl j e
    ·have := (g.trans g2).1; omega
  ·have : k = rs.length := by omega
   subst this
   rw [List.take_length] at hl
   subst hl
   simp -dsimp only [↓WPd, ↓wpC_block, ↓wpC_cond, WPu, Bool.false_eq_true, Bool.true_eq_false, Bool.not_true, Bool.not_false, if_true, if_false, ite_true, ite_false, Nat.reduceEqDiff, Nat.reduceLT, true_and, List.map_cons, List.map_nil, Nat.zero_add, Nat.reduceBEq]
   exact ⟨lv, rfl, g, ol, fl⟩
 ·rintro e σ1 env ⟨rfl, lv, hv, g1, ol1, fl1⟩
  simp only [List.map_cons, List.map_nil, List.cons.injEq, and_true] at hv
  obtain ⟨v0, v5⟩ := hv
  simp -dsimp only [↓WPd, ↓wpC_block, ↓wpC_cond, WPu, Bool.false_eq_true, Bool.true_eq_false, Bool.not_true, Bool.not_false, if_true, if_false, ite_true, ite_false, Nat.reduceEqDiff, Nat.reduceLT, true_and, List.map_cons, List.map_nil, Nat.zero_add, Nat.reduceBEq, v0, v5]
  refine loop_rule2 (fun m xs σ' => ∃ (i : Nat) (lv : AVal) (l : List Nm), i ≤ l.length ∧ m = (univ R rs).length - i ∧ xs = [rv, lv, .int .i64 (i : Nat)] ∧ Grows σ σ' ∧ Own σ' 2 lv (NN l) ∧ Fresh σ.length lv ∧ Way R rs l i)
   [5] (fun e xs σ' => e = .exit 2 ∧ ∃ (lv : AVal) (l : List Nm), xs = [lv] ∧ Grows σ σ' ∧ Own σ' 2 lv (NN l) ∧ Way R rs l l.length) (univ R rs).length
   ⟨0, lv, adds [] rs, Nat.zero_le _, rfl, ?_, g1, ol1, fl1, Way.start R rs⟩ ?_ ?_
  ·simp -dsimp only [↓WPd, ↓wpC_block, ↓wpC_cond, WPu, Bool.false_eq_true, Bool.true_eq_false, Bool.not_true, Bool.not_false, if_true, if_false, ite_true, ite_false, Nat.reduceEqDiff, Nat.reduceLT, true_and, List.map_cons, List.map_nil, Nat.zero_add, Nat.reduceBEq, v0, v5]; rfl
  ·rintro m xs σ' ⟨i, lv, l, hi, rfl, rfl, g, ol, fl, wy⟩
   have ll := ol.sl.len
   rw [List.length_map] at ll
   have hlu := wy.len
   simp -dsimp only [↓WPd, ↓wpC_block, ↓wpC_cond, WPu, Bool.false_eq_true, Bool.true_eq_false, Bool.not_true, Bool.not_false, if_true, if_false, ite_true, ite_false, Nat.reduceEqDiff, Nat.reduceLT, true_and, List.map_cons, List.map_nil, Nat.zero_add, Nat.reduceBEq, ll]
   refine condP_dec (fun hc => ?_) (fun hc => ?_)
   ·have hi' : i < l.length := by omega
    obtain ⟨n1, n2⟩ := names_at ol.sl hi'
    simp -dsimp only [↓WPd, ↓wpC_block, ↓wpC_cond, WPu, Bool.false_eq_true, Bool.true_eq_false, Bool.not_true, Bool.not_false, if_true, if_false, ite_true, ite_false, Nat.reduceEqDiff, Nat.reduceLT, true_and, List.map_cons, List.map_nil, Nat.zero_add, Nat.reduceBEq, n1, n2]
    refine calledW_of (rnext_ok d σ' rv R l[i] (h.grow g) hw (by omega)) ?_
    rintro mv σ2 ⟨g2, sm⟩
    have hsl := stepN_len hw l[i]
    obtain ⟨w0, hw0⟩ : ∃ w0, w0 = l[i] := ⟨_, rfl⟩
    rw [← hw0] at sm hsl
    simp -dsimp only [↓WPd, ↓wpC_block, ↓wpC_cond, WPu, Bool.false_eq_true, Bool.true_eq_false, Bool.not_true, Bool.not_false, if_true, if_false, ite_true, ite_false, Nat.reduceEqDiff, Nat.reduceLT, true_and, List.map_cons, List.map_nil, Nat.zero_add, Nat.reduceBEq]
    have hlt2 : ∀ j, mv.sid = some j → j < σ2.length := fun j hj => sm.lt hj
    refine loop_rule2 (fun m xs σ' => ∃ (k : Nat) (lv2 : AVal) (l2 : List Nm), k ≤ (stepN R w0).length ∧ m = (stepN R w0).length - k ∧ xs = [rv, lv2, .int .i64 (i : Nat), mv, .int .i64 (k : Nat)] ∧ Grows σ σ' ∧ l2 = adds l ((stepN R w0).take k) ∧ Own σ' 2 lv2 (NN l2) ∧ Fresh σ.length lv2 ∧ SlOf σ' 2 mv (NN (stepN R w0)))
     [0, 5, 7] (fun e xs σ' => e = .exit 4 ∧ ∃ lv2 : AVal, xs = [rv, lv2, .int .i64 (i : Nat)] ∧ Grows σ σ' ∧ Own σ' 2 lv2 (NN (adds l (stepN R w0))) ∧ Fresh σ.length lv2) (stepN R w0).length
     ⟨0, lv, l, Nat.zero_le _, rfl, ?_, g.trans g2, by simp [adds], ol.grow g2, fl, sm⟩ ?_ ?_
    ·simp -dsimp only [↓WPd, ↓wpC_block, ↓wpC_cond, WPu, Bool.false_eq_true, Bool.true_eq_false, Bool.not_true, Bool.not_false, if_true, if_false, ite_true, ite_false, Nat.reduceEqDiff, Nat.reduceLT, true_and, List.map_cons, List.map_nil, Nat.zero_add, Nat.reduceBEq]; rfl
    ·rintro m xs σ3 ⟨k, lv2, l2, hk, rfl, rfl, g3, hl2, ol2, fl2, sm3⟩
     have lm := sm3.len
     rw [List.length_map] at lm
     simp -dsimp only [↓WPd, ↓wpC_block, ↓wpC_cond, WPu, Bool.false_eq_true, Bool.true_eq_false, Bool.not_true, Bool.not_false, if_true, if_false, ite_true, ite_false, Nat.reduceEqDiff, Nat.reduceLT, true_and, List.map_cons, List.map_nil, Nat.zero_add, Nat.reduceBEq, lm]
     refine condP_dec (fun hc => ?_) (fun hc => ?_)
     ·have hk' : k < (stepN R w0).length := by omega
      have hl2l : l2.length ≤ l.length + 256 := by
       have := adds_len l ((stepN R w0).take k)
       rw [hl2]
       simp only [List.length_take] at this
       omega
      obtain ⟨p1, p2⟩ := names_at sm3 hk'
      have ht : addN l2 (stepN R w0)[k] = adds l ((stepN R w0).take (k + 1)) := by rw [List.take_succ_eq_append_getElem hk', adds_snoc, hl2]
      simp -dsimp only [↓WPd, ↓wpC_block, ↓wpC_cond, WPu, Bool.false_eq_true, Bool.true_eq_false, Bool.not_true, Bool.not_false, if_true, if_false, ite_true, ite_false, Nat.reduceEqDiff, Nat.reduceLT, true_and, List.map_cons, List.map_nil, Nat.zero_add, Nat.reduceBEq, p1, p2]
      refine calledW_of (hasname_ok d σ3 lv2 l2 (stepN R w0)[k] (by omega) ol2.sl) ?_
      rintro r σ4 ⟨rfl, g4⟩
      have sm4 := sm3.grow g4
      cases hcn : l2.contains (stepN R w0)[k] with
      | true =>
       simp -dsimp only [↓WPd, ↓wpC_block, ↓wpC_cond, WPu, Bool.false_eq_true, Bool.true_eq_false, Bool.not_true, Bool.not_false, if_true, if_false, ite_true, ite_false, Nat.reduceEqDiff, Nat.reduceLT, true_and, List.map_cons, List.map_nil, Nat.zero_add, Nat.reduceBEq]
       exact ⟨(stepN R w0).length - (k + 1), by omega, k + 1, lv2, l2, by omega, rfl, by rw [wrap_i64 (by omega) (by omega), Int.natCast_add, Int.natCast_one], g3.trans g4, by rw [← ht, addN_in hcn], ol2.grow g4, fl2, sm4⟩
      | false =>
       obtain ⟨q1, q2⟩ := names_at sm4 hk'
       obtain ⟨lv', σ5, a1, a2, a3, a4, a5⟩ := (ol2.grow g4).name (stepN R w0)[k] (by omega)
       have fe := elems2 (AVal.tagL [nmV (stepN R w0)[k]]) σ4 (nmV (stepN R w0)[k])
       simp -dsimp only [↓WPd, ↓wpC_block, ↓wpC_cond, WPu, Bool.false_eq_true, Bool.true_eq_false, Bool.not_true, Bool.not_false, if_true, if_false, ite_true, ite_false, Nat.reduceEqDiff, Nat.reduceLT, true_and, List.map_cons, List.map_nil, Nat.zero_add, Nat.reduceBEq, q1, q2, nm_lit, fe, a1]
       refine ⟨(stepN R w0).length - (k + 1), by omega, k + 1, lv', l2 ++ [(stepN R w0)[k]], by omega, rfl, by rw [wrap_i64 (by omega) (by omega), Int.natCast_add, Int.natCast_one], Keeps.trans (g3.trans g4) a3 fun j hj e => by have := fl2 j e; omega, by rw [← ht, addN_out hcn], a2, fun j hj => ?_, (ol2.grow g4).append_view a1 sm4⟩
       rcases a4 j hj with e | e
       ·exact fl2 j e
       ·have := (g3.trans g4).1; omega
     ·have : k = (stepN R w0).length := by omega
      subst this
      rw [List.take_length] at hl2
      subst hl2
      simp -dsimp only [↓WPd, ↓wpC_block, ↓wpC_cond, WPu, Bool.false_eq_true, Bool.true_eq_false, Bool.not_true, Bool.not_false, if_true, if_false, ite_true, ite_false, Nat.reduceEqDiff, Nat.reduceLT, true_and, List.map_cons, List.map_nil, Nat.zero_add, Nat.reduceBEq]
      exact ⟨lv2, rfl, g3, ol2, fl2⟩
    ·rintro e σ3 env ⟨rfl, lv2, hv, g3, ol2, fl2⟩
     simp only [List.map_cons, List.map_nil, List.cons.injEq, and_true] at hv
     obtain ⟨v0, v5, v7⟩ := hv
     have wy2 := wy.next hi'
     rw [← hw0] at wy2
     have := wy2.len
     have hal : l.length ≤ (adds l (stepN R w0)).length := by obtain ⟨x, hx⟩ := adds_pre (stepN R w0) l; rw [hx, List.length_append]; omega
     simp -dsimp only [↓WPd, ↓wpC_block, ↓wpC_cond, WPu, Bool.false_eq_true, Bool.true_eq_false, Bool.not_true, Bool.not_false, if_true, if_false, ite_true, ite_false, Nat.reduceEqDiff, Nat.reduceLT, true_and, List.map_cons, List.map_nil, Nat.zero_add, Nat.reduceBEq, v0, v5, v7]
     exact ⟨(univ R rs).length - (i + 1), by omega, i + 1, lv2, _, by omega, rfl, by rw [wrap_i64 (by omega) (by omega), Int.natCast_add, Int.natCast_one], g3, ol2, fl2, wy2⟩
   ·have : i = l.length := by omega
    subst this
    simp -dsimp only [↓WPd, ↓wpC_block, ↓wpC_cond, WPu, Bool.false_eq_true, Bool.true_eq_false, Bool.not_true, Bool.not_false, if_true, if_false, ite_true, ite_false, Nat.reduceEqDiff, Nat.reduceLT, true_and, List.map_cons, List.map_nil, Nat.zero_add, Nat.reduceBEq]
    exact ⟨lv, l, rfl, g, ol, wy⟩
  ·rintro e σ2 env ⟨rfl, lv, l, hv, g2, ol, wy⟩
   simp only [List.map_cons, List.map_nil, List.cons.injEq, and_true] at hv
   have hlu := wy.len
   simp -dsimp only [↓WPd, ↓wpC_block, ↓wpC_cond, WPu, Bool.false_eq_true, Bool.true_eq_false, Bool.not_true, Bool.not_false, if_true, if_false, ite_true, ite_false, Nat.reduceEqDiff, Nat.reduceLT, true_and, List.map_cons, List.map_nil, Nat.zero_add, Nat.reduceBEq, hv]
   refine calledW_of (rising_ok d σ2 lv l wy.nodup (by omega) ol.sl) ?_
   rintro r σ3 ⟨g3, sr⟩
   simp -dsimp only [↓WPd, ↓wpC_block, ↓wpC_cond, WPu, Bool.false_eq_true, Bool.true_eq_false, Bool.not_true, Bool.not_false, if_true, if_false, ite_true, ite_false, Nat.reduceEqDiff, Nat.reduceLT, true_and, List.map_cons, List.map_nil, Nat.zero_add, Nat.reduceBEq]
   exact ⟨g2.trans g3, l, sr, wy.nodup, wy.all, by omega⟩
theorem rterms_ok (rv : AVal) (R : Hp) (hw : WF R) (hR : R.length < 2 ^ 28) (tv : AVal) (ts : List (List Cel)) (h : RefV σ rv R) (ht : Terms σ tv ts) (hx : ts.flatten.length < 2 ^ 30) (hn : ts.length < 2 ^ 30) :
  Called CU.cfg d 18 [rv, tv] σ fun r σ' => Grows σ σ' ∧ ∃ l, SlOf σ' 2 r (NN (sortN l)) ∧ l.Nodup ∧ (∀ v, v ∈ l ↔ Rea R (varsL [] ts.flatten) v) ∧ l.length < 2 ^ 39 := by
 refine called_of (fn := CU.a18) rfl (Nat.le_of_ble_eq_true rfl) ?_
 simp only [CU.a18]
 simp -dsimp only [↓WPd, ↓wpC_block, ↓wpC_cond, WPu, Bool.false_eq_true, Bool.true_eq_false, Bool.not_true, Bool.not_false, if_true, if_false, ite_true, ite_false, Nat.reduceEqDiff, Nat.reduceLT, true_and, List.map_cons, List.map_nil, Nat.zero_add, Nat.reduceBEq]
 refine calledW_of (rvars_ok d σ tv ts hx hn ht) ?_
 rintro v σ1 ⟨g1, ov, -⟩
 have hl := varsL_len [] ts.flatten
 simp only [List.length_nil] at hl
 simp -dsimp only [↓WPd, ↓wpC_block, ↓wpC_cond, WPu, Bool.false_eq_true, Bool.true_eq_false, Bool.not_true, Bool.not_false, if_true, if_false, ite_true, ite_false, Nat.reduceEqDiff, Nat.reduceLT, true_and, List.map_cons, List.map_nil, Nat.zero_add, Nat.reduceBEq]
 refine calledW_of (rneeded_ok d σ1 rv R hw hR v _ (h.grow g1) ov.sl (by omega)) ?_
 rintro r σ2 ⟨g2, l, q⟩
 simp -dsimp only [↓WPd, ↓wpC_block, ↓wpC_cond, WPu, Bool.false_eq_true, Bool.true_eq_false, Bool.not_true, Bool.not_false, if_true, if_false, ite_true, ite_false, Nat.reduceEqDiff, Nat.reduceLT, true_and, List.map_cons, List.map_nil, Nat.zero_add, Nat.reduceBEq]
 exact ⟨g1.trans g2, l, q⟩
theorem pterms_ok (hv : AVal) (H : Hp) (hw : WF H) (hH : H.length < 2 ^ 28) (tv : AVal) (ts : List (List Cel)) (h : HeapV σ hv H) (ht : Terms σ tv ts) (hx : ts.flatten.length < 2 ^ 30) (hn : ts.length < 2 ^ 30) :
  Called CU.cfg d 13 [hv, tv] σ fun r σ' => Grows σ σ' ∧ ∃ l, Own σ' 2 r (NN (sortN l)) ∧ (Fresh σ.length r ∧ NoLit r) ∧ l.Nodup ∧ (∀ v, v ∈ l ↔ Rea H (varsL [] ts.flatten) v) ∧ l.length < 2 ^ 40 := by
 refine called_of (fn := CU.a13) rfl (Nat.le_of_ble_eq_true rfl) ?_
 simp only [CU.a13]
 simp -dsimp only [↓WPd, ↓wpC_block, ↓wpC_cond, WPu, Bool.false_eq_true, Bool.true_eq_false, Bool.not_true, Bool.not_false, if_true, if_false, ite_true, ite_false, Nat.reduceEqDiff, Nat.reduceLT, true_and, List.map_cons, List.map_nil, Nat.zero_add, Nat.reduceBEq]
 refine calledW_of (vars_ok d σ tv ts hx hn ht) ?_
 rintro v σ1 ⟨g1, ov, -⟩
 have hl := varsL_len [] ts.flatten
 simp only [List.length_nil] at hl
 simp -dsimp only [↓WPd, ↓wpC_block, ↓wpC_cond, WPu, Bool.false_eq_true, Bool.true_eq_false, Bool.not_true, Bool.not_false, if_true, if_false, ite_true, ite_false, Nat.reduceEqDiff, Nat.reduceLT, true_and, List.map_cons, List.map_nil, Nat.zero_add, Nat.reduceBEq]
 refine calledW_of (needed_ok d σ1 hv H hw hH v _ (h.grow g1) ov.sl (by omega)) ?_
 rintro r σ2 ⟨g2, l, o, f, q⟩
 simp -dsimp only [↓WPd, ↓wpC_block, ↓wpC_cond, WPu, Bool.false_eq_true, Bool.true_eq_false, Bool.not_true, Bool.not_false, if_true, if_false, ite_true, ite_false, Nat.reduceEqDiff, Nat.reduceLT, true_and, List.map_cons, List.map_nil, Nat.zero_add, Nat.reduceBEq]
 exact ⟨g1.trans g2, l, o, ⟨f.1.le g1.1, f.2⟩, q⟩
set_option maxHeartbeats 1000000 in
theorem rgarbage_ok (A : Nat → Prop) (id : Nat) (R : Hp) (h : RefP σ A id R) (hw : WF R) (hR : R.length < 2 ^ 28) (rsv : AVal) (rs : List Nm) (hr : SlOf σ 2 rsv (NN rs)) (hrs : rs.length < 2 ^ 37) :
  Called CU.cfg d 17 [.ptr id 0, rsv] σ fun r σ' => Grows σ σ' ∧ ∃ l, SlOf σ' 2 r (NN (garb R l)) ∧ l.Nodup ∧ (∀ v, v ∈ l ↔ Rea R rs v) := by
 refine called_of (fn := CU.a17) rfl (Nat.le_of_ble_eq_true rfl) ?_
 simp only [CU.a17]
 simp -dsimp only [↓WPd, ↓wpC_block, ↓wpC_cond, WPu, Bool.false_eq_true, Bool.true_eq_false, Bool.not_true, Bool.not_false, if_true, if_false, ite_true, ite_false, Nat.reduceEqDiff, Nat.reduceLT, true_and, List.map_cons, List.map_nil, Nat.zero_add, Nat.reduceBEq]
 refine calledW_of (rneeded_ok d σ (.ptr id 0) R hw hR rsv rs h.v hr hrs) ?_
 rintro nv σ1 ⟨g1, l, sn, hd, hm, hll⟩
 have hsl : (sortN l).length < 2 ^ 39 := by rw [sortN_len]; exact hll
 have hcs : ∀ v, (sortN l).contains v = l.contains v := fun v => by
  rw [Bool.eq_iff_iff]; simp [(sortN_perm l).mem_iff]
 simp -dsimp only [↓WPd, ↓wpC_block, ↓wpC_cond, WPu, Bool.false_eq_true, Bool.true_eq_false, Bool.not_true, Bool.not_false, if_true, if_false, ite_true, ite_false, Nat.reduceEqDiff, Nat.reduceLT, true_and, List.map_cons, List.map_nil, Nat.zero_add, Nat.reduceBEq]
 refine loop_rule2 (fun m xs σ' => ∃ (k : Nat) (o : AVal), k ≤ R.length ∧ m = R.length - k ∧ xs = [.ptr id 0, nv, o, .int .i64 (k : Nat)] ∧ Grows σ1 σ' ∧ Own σ' 2 o (NN (garb (R.take k) l)) ∧ Fresh σ1.length o)
  [6] (fun e xs σ' => e = .exit 0 ∧ ∃ o, xs = [o] ∧ Grows σ1 σ' ∧ Own σ' 2 o (NN (garb R l))) R.length
  ⟨0, .nilslice, Nat.zero_le _, rfl, ?_, Keeps.refl _ _, by simp [garb]; exact Own.nil _ _, Fresh.nil _⟩ ?_ ?_
 ·simp -dsimp only [↓WPd, ↓wpC_block, ↓wpC_cond, WPu, Bool.false_eq_true, Bool.true_eq_false, Bool.not_true, Bool.not_false, if_true, if_false, ite_true, ite_false, Nat.reduceEqDiff, Nat.reduceLT, true_and, List.map_cons, List.map_nil, Nat.zero_add, Nat.reduceBEq]; rfl
 ·rintro m xs σ' ⟨k, o, hk, rfl, rfl, g, oo, fo⟩
  obtain ⟨w, es, o1, o2, -, o4⟩ := h.grow (g1.trans g)
  have hlen := o4.len
  have lw := o2.len
  rw [hlen] at lw
  have e0 : ([w] : List AVal)[0]? = some w := rfl
  simp -dsimp only [↓WPd, ↓wpC_block, ↓wpC_cond, WPu, Bool.false_eq_true, Bool.true_eq_false, Bool.not_true, Bool.not_false, if_true, if_false, ite_true, ite_false, Nat.reduceEqDiff, Nat.reduceLT, true_and, List.map_cons, List.map_nil, Nat.zero_add, Nat.reduceBEq, WPm, isnil_ptr, faddr_ptr, Nat.add_zero, load_cells o1, e0, lw, Bool.not_false]
  refine condP_dec (fun hc => ?_) (fun hc => ?_)
  ·have hk' : k < R.length := by omega
   have hke : k < es.length := by omega
   obtain ⟨e, he1, u, he2, he3, -⟩ := o4.get hk'
   have hee : es[k] = e := by rw [List.getElem?_eq_getElem hke] at he1; exact Option.some.inj he1
   have hb := (o2.addr hke .i64).2
   rw [hee, he2] at hb
   have hb' : ∀ {σ'' : Store}, Grows σ' σ'' → behind σ'' (addrOf 3 w k) = some (bdC (R[k]).1 u, 0) := fun g' => by
    have := ((o2.grow g').addr hke .i64).2
    rw [hee, he2] at this; exact this
   obtain ⟨q0, p0, b0⟩ := faddr_at (hb' (Keeps.refl _ _)) 0
   have r0 : loadV σ' 2 true q0 = some (nmV (R[k]).1) := loadN_at b0 (by simp [bdC])
   have ia : iaddrV 3 w (.int .i64 k) = some (addrOf 3 w k) := o2.iaddr hke .i64
   simp -dsimp only [↓WPd, ↓wpC_block, ↓wpC_cond, WPu, Bool.false_eq_true, Bool.true_eq_false, Bool.not_true, Bool.not_false, if_true, if_false, ite_true, ite_false, Nat.reduceEqDiff, Nat.reduceLT, true_and, List.map_cons, List.map_nil, Nat.zero_add, Nat.reduceBEq, WPm, isnil_ptr, faddr_ptr, Nat.add_zero, load_cells o1, e0, ia, p0, r0]
   refine calledW_of (hasname_ok d σ' nv (sortN l) (R[k]).1 (by omega) (sn.grow g)) ?_
   rintro r σ2 ⟨rfl, g2⟩
   have ht : R.take (k + 1) = R.take k ++ [R[k]] := List.take_succ_eq_append_getElem hk'
   have hgl : (garb (R.take k) l).length ≤ R.length := by
    have h1 : (garb (R.take k) l).length ≤ ((R.take k).map (·.1)).length := List.length_filter_le _ _
    simp at h1; omega
   rw [hcs]
   cases hcl : l.contains (R[k]).1 with
   | true =>
    have eg : garb (R.take (k + 1)) l = garb (R.take k) l := by
     rw [ht]; unfold garb
     rw [List.map_append, List.filter_append]
     have hcl' : R[k].1 ∈ l := by simpa using hcl
     simp [hcl']
    simp -dsimp only [↓WPd, ↓wpC_block, ↓wpC_cond, WPu, Bool.false_eq_true, Bool.true_eq_false, Bool.not_true, Bool.not_false, if_true, if_false, ite_true, ite_false, Nat.reduceEqDiff, Nat.reduceLT, true_and, List.map_cons, List.map_nil, Nat.zero_add, Nat.reduceBEq, WPm]
    exact ⟨R.length - (k + 1), by omega, k + 1, o, by omega, rfl, by rw [wrap_i64 (by omega) (by omega), Int.natCast_add, Int.natCast_one], g.trans g2, by rw [eg]; exact oo.grow g2, fo⟩
   | false =>
    have eg : garb (R.take (k + 1)) l = garb (R.take k) l ++ [R[k].1] := by
     rw [ht]; unfold garb
     rw [List.map_append, List.filter_append]
     have hcl' : R[k].1 ∉ l := by simpa using hcl
     simp [hcl']
    obtain ⟨q0', p0', b0'⟩ := faddr_at (hb' g2) 0
    have r0' : loadV σ2 2 true q0' = some (nmV (R[k]).1) := loadN_at b0' (by simp [bdC])
    obtain ⟨o', σ3, a1, a2, a3, a4, a5⟩ := (oo.grow g2).name (R[k]).1 (by omega)
    have fe := elems2 (AVal.tagL [nmV (R[k]).1]) σ2 (nmV (R[k]).1)
    simp -dsimp only [↓WPd, ↓wpC_block, ↓wpC_cond, WPu, Bool.false_eq_true, Bool.true_eq_false, Bool.not_true, Bool.not_false, if_true, if_false, ite_true, ite_false, Nat.reduceEqDiff, Nat.reduceLT, true_and, List.map_cons, List.map_nil, Nat.zero_add, Nat.reduceBEq, WPm, isnil_ptr, faddr_ptr, Nat.add_zero, load_cells (g2.get o1), e0, ia, p0', r0', nm_lit, fe, a1]
    refine ⟨R.length - (k + 1), by omega, k + 1, o', by omega, rfl, by rw [wrap_i64 (by omega) (by omega), Int.natCast_add, Int.natCast_one], Keeps.trans (g.trans g2) a3 fun i hi e => by have := fo i e; omega, by rw [eg]; exact a2, fun i hi => ?_⟩
    rcases a4 i hi with e | e
    ·exact fo i e
    ·have := (g.trans g2).1; omega
  ·have : k = R.length := by omega
   subst this
   rw [List.take_length] at oo
   simp -dsimp only [↓WPd, ↓wpC_block, ↓wpC_cond, WPu, Bool.false_eq_true, Bool.true_eq_false, Bool.not_true, Bool.not_false, if_true, if_false, ite_true, ite_false, Nat.reduceEqDiff, Nat.reduceLT, true_and, List.map_cons, List.map_nil, Nat.zero_add, Nat.reduceBEq]
   exact ⟨o, rfl, g, oo⟩
 ·rintro e σ' env ⟨rfl, o, hv, g, oo⟩
  simp only [List.map_cons, List.map_nil, List.cons.injEq, and_true] at hv
  simp -dsimp only [↓WPd, ↓wpC_block, ↓wpC_cond, WPu, Bool.false_eq_true, Bool.true_eq_false, Bool.not_true, Bool.not_false, if_true, if_false, ite_true, ite_false, Nat.reduceEqDiff, Nat.reduceLT, true_and, List.map_cons, List.map_nil, Nat.zero_add, Nat.reduceBEq, hv]
  exact ⟨g1.trans g, l, oo.sl, hd, hm⟩
end
theorem live18_ran : (run CU.cfg 300 1 14 [] []).map (fun p => p.1) = some (.bool true) := by kernel_rfl
def BdIn (σ : Store) (v : AVal) (bs : Hp) : Prop := ∃ es, SlOf σ 3 v es ∧ Two (fun e p => ∃ u, e = bdV p.1 u ∧ Told u p.2) es bs
theorem BdArg.in {v : AVal} {bs : Hp} (h : BdArg v bs) (σ : Store) : BdIn σ v bs := by
 obtain ⟨es, h1, h2⟩ := h.row
 exact ⟨es, h1 σ, h2⟩
theorem BdIn.len {σ : Store} {v : AVal} {bs : Hp} (h : BdIn σ v bs) : lenSV v = some bs.length := by
 obtain ⟨es, h1, h2⟩ := h
 rw [← h2.len]; exact h1.len
theorem BdIn.grow {σ σ' : Store} {v : AVal} {bs : Hp} (h : BdIn σ v bs) (g : Grows σ σ') : BdIn σ' v bs := by
 obtain ⟨es, h1, h2⟩ := h
 exact ⟨es, h1.grow g, h2⟩
theorem BdIn.keepM {σ σ' : Store} {v : AVal} {bs : Hp} {j : Nat} {ks vs : List AVal} (h : BdIn σ v bs) (hm : σ[j]? = some (.map ks vs)) (k : Keeps (fun i => i = j) σ σ') : BdIn σ' v bs := by
 obtain ⟨es, h1, h2⟩ := h
 exact ⟨es, h1.keeps k fun i hi e => h1.noMap hm (e ▸ hi), h2⟩
theorem BdIn.keepC {σ σ' : Store} {v : AVal} {bs : Hp} {j : Nat} {cs : List AVal} (h : BdIn σ v bs) (hm : σ[j]? = some (.cells cs)) (k : Keeps (fun i => i = j) σ σ') : BdIn σ' v bs := by
 obtain ⟨es, h1, h2⟩ := h
 exact ⟨es, h1.keeps k fun i hi e => h1.noCell hm (e ▸ hi), h2⟩
theorem BdIn.at {σ : Store} {v : AVal} {bs : Hp} (h : BdIn σ v bs) {k : Nat} (hk : k < bs.length) : ∃ q0 q2 u, iaddrV 3 v (.int .i64 k) = some (addrOf 3 v k) ∧ faddrV 0 (addrOf 3 v k) = some q0 ∧ loadV σ 2 true q0 = some (nmV bs[k].1) ∧ faddrV 2 (addrOf 3 v k) = some q2 ∧ loadV σ 1 false q2 = some u ∧ Told u bs[k].2 := by
 obtain ⟨es, h1, h2⟩ := h
 have hke : k < es.length := by rw [h2.len]; exact hk
 obtain ⟨e, he1, u, he2, he3⟩ := h2.get hk
 have hee : es[k] = e := by rw [List.getElem?_eq_getElem hke] at he1; exact Option.some.inj he1
 have hb := (h1.addr hke .i64).2
 rw [hee, he2] at hb
 have hb' : behind σ (addrOf 3 v k) = some (bdC (bs[k]).1 u, 0) := hb
 obtain ⟨q0, p0, b0⟩ := faddr_at hb' 0
 obtain ⟨q2, p2, b2⟩ := faddr_at hb' 2
 exact ⟨q0, q2, u, h1.iaddr hke .i64, p0, loadN_at b0 (by simp [bdC]), p2, load_at b2, he3⟩
section
variable (d : Nat) (σ : Store)
set_option maxHeartbeats 1000000 in
theorem maps18_ok (bv : AVal) (bs : Hp) (h : BdIn σ bv bs) (hsm : ∀ p ∈ bs, Small p.2) (hlt : bs.length < 2 ^ 27) : Called CU.cfg d 8 [bv] σ fun v σ' => ∃ id mid vs rid A, v = .tuple [.ptr id 0, .ptr rid 0] ∧ HeapP σ' id mid vs (bindsH [] bs) ∧ RefP σ' A rid (bindsR [] bs) ∧ Grows σ σ' ∧ (σ.length ≤ id ∧ σ.length ≤ mid ∧ σ.length ≤ rid ∧ ∀ i, A i → σ.length ≤ i) ∧ id ≠ rid ∧ mid ≠ rid ∧ id ≠ mid := by
 refine called_of (fn := CU.a8) rfl (Nat.le_of_ble_eq_true rfl) ?_
 simp only [CU.a8]
 have lb := h.len
 simp -dsimp only [↓WPd, ↓wpC_block, ↓wpC_cond, WPu, Bool.false_eq_true, Bool.true_eq_false, Bool.not_true, Bool.not_false, if_true, if_false, ite_true, ite_false, Nat.reduceEqDiff, Nat.reduceLT, true_and, List.map_cons, List.map_nil, Nat.zero_add, Nat.reduceBEq]
 refine calledW_of (hnew_ok d σ) ?_
 rintro r σ1 ⟨id, mid, rfl, h1, g1, l1, l2, m1, m2⟩
 simp -dsimp only [↓WPd, ↓wpC_block, ↓wpC_cond, WPu, Bool.false_eq_true, Bool.true_eq_false, Bool.not_true, Bool.not_false, if_true, if_false, ite_true, ite_false, Nat.reduceEqDiff, Nat.reduceLT, true_and, List.map_cons, List.map_nil, Nat.zero_add, Nat.reduceBEq]
 refine calledW_of (rnew_ok d σ1) ?_
 rintro r σ2 ⟨rid, rfl, r2, g2, l3, m3⟩
 have hm : id ≠ mid := fun e => by have a := h1.obj; rw [e, h1.map] at a; cases a
 simp -dsimp only [↓WPd, ↓wpC_block, ↓wpC_cond, WPu, Bool.false_eq_true, Bool.true_eq_false, Bool.not_true, Bool.not_false, if_true, if_false, ite_true, ite_false, Nat.reduceEqDiff, Nat.reduceLT, true_and, List.map_cons, List.map_nil, Nat.zero_add, Nat.reduceBEq]
 refine loop_rule2 (fun m vs σ' => ∃ k ws A, k ≤ bs.length ∧ m = bs.length - k ∧ vs = [bv, .ptr id 0, .ptr rid 0, .int .i64 (k : Nat)] ∧ HeapP σ' id mid ws (bindsH [] (bs.take k)) ∧ RefP σ' A rid (bindsR [] (bs.take k)) ∧ (∀ i, A i → σ2.length ≤ i) ∧ Grows σ σ' ∧ σ2.length ≤ σ'.length ∧ BdIn σ' bv bs)
  [4, 5] (fun e vs σ' => e = .exit 0 ∧ ∃ ws A, vs = [.ptr id 0, .ptr rid 0] ∧ HeapP σ' id mid ws (bindsH [] bs) ∧ RefP σ' A rid (bindsR [] bs) ∧ (∀ i, A i → σ2.length ≤ i) ∧ Grows σ σ') bs.length
  ⟨0, [], _, Nat.zero_le _, rfl, ?_, h1.grow g2, r2, (fun i h => h.elim), g1.trans g2, Nat.le_refl _, h.grow (g1.trans g2)⟩ ?_ ?_
 ·simp -dsimp only [↓WPd, ↓wpC_block, ↓wpC_cond, WPu, Bool.false_eq_true, Bool.true_eq_false, Bool.not_true, Bool.not_false, if_true, if_false, ite_true, ite_false, Nat.reduceEqDiff, Nat.reduceLT, true_and, List.map_cons, List.map_nil, Nat.zero_add, Nat.reduceBEq]; rfl
 ·rintro m vs σ' ⟨k, ws, A, hk, rfl, rfl, hh, hr, hA, g, hl, hb⟩
  simp -dsimp only [↓WPd, ↓wpC_block, ↓wpC_cond, WPu, Bool.false_eq_true, Bool.true_eq_false, Bool.not_true, Bool.not_false, if_true, if_false, ite_true, ite_false, Nat.reduceEqDiff, Nat.reduceLT, true_and, List.map_cons, List.map_nil, Nat.zero_add, Nat.reduceBEq, lb]
  refine condP_dec (fun hc => ?_) (fun hc => ?_)
  ·have hk' : k < bs.length := by omega
   obtain ⟨q0, q2, u, a1, a2, a3, a4, a5, a6⟩ := hb.at hk'
   have hsm := hsm _ (List.getElem_mem hk')
   simp -dsimp only [↓WPd, ↓wpC_block, ↓wpC_cond, WPu, Bool.false_eq_true, Bool.true_eq_false, Bool.not_true, Bool.not_false, if_true, if_false, ite_true, ite_false, Nat.reduceEqDiff, Nat.reduceLT, true_and, List.map_cons, List.map_nil, Nat.zero_add, Nat.reduceBEq, a1, a2, a3, a4, a5]
   refine calledW_of (hbind_ok d σ' id mid ws _ bs[k].1 u bs[k].2 hh hsm (a6 σ')) ?_
   rintro r3 σ3 ⟨-, ⟨ws3, h3⟩, k3⟩
   have hb3 := hb.keepM hh.map k3
   obtain ⟨q0', q2', u', b1, b2, b3, b4, b5, b6⟩ := hb3.at hk'
   have hr3 : RefP σ3 A rid (bindsR [] (bs.take k)) := by
    refine hr.keeps k3 (by omega) fun i hi ha => ⟨ha, fun e => ?_⟩
    have := hA i ha
    have := g2.1
    omega
   have hRl := bindsR_len (bs.take k) []
   have htk : (bs.take k).length ≤ bs.length := by simp; omega
   simp -dsimp only [↓WPd, ↓wpC_block, ↓wpC_cond, WPu, Bool.false_eq_true, Bool.true_eq_false, Bool.not_true, Bool.not_false, if_true, if_false, ite_true, ite_false, Nat.reduceEqDiff, Nat.reduceLT, true_and, List.map_cons, List.map_nil, Nat.zero_add, Nat.reduceBEq, b1, b2, b3, b4, b5]
   refine calledW_of (rbind_ok d σ3 A rid _ bs[k].1 u' bs[k].2 hr3 (by simp only [List.length_nil] at hRl; omega) hsm.1 (b6 σ3)) ?_
   rintro r4 σ4 ⟨-, r4', k4⟩
   have hb4 : BdIn σ4 bv bs := by
    obtain ⟨w, w1, -⟩ := hr3.bds
    exact hb3.keepC w1 k4
   have ht : bs.take (k + 1) = bs.take k ++ [bs[k]] := List.take_succ_eq_append_getElem hk'
   simp -dsimp only [↓WPd, ↓wpC_block, ↓wpC_cond, WPu, Bool.false_eq_true, Bool.true_eq_false, Bool.not_true, Bool.not_false, if_true, if_false, ite_true, ite_false, Nat.reduceEqDiff, Nat.reduceLT, true_and, List.map_cons, List.map_nil, Nat.zero_add, Nat.reduceBEq]
   refine ⟨bs.length - (k + 1), by omega, k + 1, ws3, (fun i => A i ∨ σ3.length ≤ i), by omega, rfl, by rw [wrap_i64 (by omega) (by omega), Int.natCast_add, Int.natCast_one], ?_, ?_, ?_, ?_, by have := k3.1; have := k4.1; omega, hb4⟩
   ·rw [ht, bindsH_snoc]; exact h3.keeps k4 (by omega) (by omega)
   ·rw [ht, bindsR_snoc]; exact r4'
   ·rintro i (ha | ha)
    ·exact hA i ha
    ·have := k3.1; omega
   ·exact Keeps.trans (Keeps.trans g k3 fun i hi e => by omega) k4 fun i hi e => by have := g1.1; omega
  ·have : k = bs.length := by omega
   subst this
   rw [List.take_length] at hh hr
   simp -dsimp only [↓WPd, ↓wpC_block, ↓wpC_cond, WPu, Bool.false_eq_true, Bool.true_eq_false, Bool.not_true, Bool.not_false, if_true, if_false, ite_true, ite_false, Nat.reduceEqDiff, Nat.reduceLT, true_and, List.map_cons, List.map_nil, Nat.zero_add, Nat.reduceBEq]
   exact ⟨ws, A, hh, hr, hA, g⟩
 ·rintro e σ' env ⟨rfl, ws, A, hv, hh, hr, hA, g⟩
  simp only [List.map_cons, List.map_nil, List.cons.injEq, and_true] at hv
  obtain ⟨v4, v5⟩ := hv
  simp -dsimp only [↓WPd, ↓wpC_block, ↓wpC_cond, WPu, Bool.false_eq_true, Bool.true_eq_false, Bool.not_true, Bool.not_false, if_true, if_false, ite_true, ite_false, Nat.reduceEqDiff, Nat.reduceLT, true_and, List.map_cons, List.map_nil, Nat.zero_add, Nat.reduceBEq, v4, v5]
  have := g1.1
  exact ⟨id, mid, ws, rid, A, rfl, hh, hr, g, ⟨m1, m2, by omega, fun i ha => by have := hA i ha; have := g2.1; omega⟩, by omega, by omega, hm⟩
theorem msamenames_ok (a b : AVal) (ws : List Nm) (hx : ws.length < 2 ^ 41) (ha : SlOf σ 2 a (NN ws)) (hb : SlOf σ 2 b (NN ws)) : Called CU.cfg d 15 [a, b] σ fun v σ' => v = .bool true ∧ σ' = σ := by
 refine called_of (fn := CU.a15) rfl (Nat.le_of_ble_eq_true rfl) ?_
 simp only [CU.a15]
 have la := names_len ha
 have lb := names_len hb
 have e0 : ((ws.length : Int) != (ws.length : Int)) = false := by simp
 simp -dsimp only [↓WPd, ↓wpC_block, ↓wpC_cond, WPu, Bool.false_eq_true, Bool.true_eq_false, Bool.not_true, Bool.not_false, if_true, if_false, ite_true, ite_false, Nat.reduceEqDiff, Nat.reduceLT, true_and, List.map_cons, List.map_nil, Nat.zero_add, Nat.reduceBEq, la, lb, e0]
 refine loop_rule2 (fun m vs σ' => ∃ k, k ≤ ws.length ∧ m = ws.length - k ∧ vs = [a, b, .int .i64 (k : Nat)] ∧ σ' = σ) [] (fun e vs σ' => e = .exit 0 ∧ σ' = σ) ws.length ⟨0, Nat.zero_le _, rfl, ?_, rfl⟩ ?_ ?_
 ·simp -dsimp only [↓WPd, ↓wpC_block, ↓wpC_cond, WPu, Bool.false_eq_true, Bool.true_eq_false, Bool.not_true, Bool.not_false, if_true, if_false, ite_true, ite_false, Nat.reduceEqDiff, Nat.reduceLT, true_and, List.map_cons, List.map_nil, Nat.zero_add, Nat.reduceBEq]; rfl
 ·rintro m vs σ' ⟨k, hk, rfl, rfl, rfl⟩
  simp -dsimp only [↓WPd, ↓wpC_block, ↓wpC_cond, WPu, Bool.false_eq_true, Bool.true_eq_false, Bool.not_true, Bool.not_false, if_true, if_false, ite_true, ite_false, Nat.reduceEqDiff, Nat.reduceLT, true_and, List.map_cons, List.map_nil, Nat.zero_add, Nat.reduceBEq, la]
  refine condP_dec (fun h => ?_) (fun h => ?_)
  ·have hk' : k < ws.length := by omega
   obtain ⟨a1, a2⟩ := names_at ha hk'
   obtain ⟨b1, b2⟩ := names_at hb hk'
   simp -dsimp only [↓WPd, ↓wpC_block, ↓wpC_cond, WPu, Bool.false_eq_true, Bool.true_eq_false, Bool.not_true, Bool.not_false, if_true, if_false, ite_true, ite_false, Nat.reduceEqDiff, Nat.reduceLT, true_and, List.map_cons, List.map_nil, Nat.zero_add, Nat.reduceBEq, a1, a2, b1, b2, nm_eqs, decide_true]
   exact ⟨ws.length - (k + 1), by omega, k + 1, by omega, rfl, by rw [wrap_i64 (by omega) (by omega), Int.natCast_add, Int.natCast_one], trivial⟩
  ·simp -dsimp only [↓WPd, ↓wpC_block, ↓wpC_cond, WPu, Bool.false_eq_true, Bool.true_eq_false, Bool.not_true, Bool.not_false, if_true, if_false, ite_true, ite_false, Nat.reduceEqDiff, Nat.reduceLT, true_and, List.map_cons, List.map_nil, Nat.zero_add, Nat.reduceBEq]
 ·rintro e σ' env ⟨rfl, rfl⟩
  simp -dsimp only [↓WPd, ↓wpC_block, ↓wpC_cond, WPu, Bool.false_eq_true, Bool.true_eq_false, Bool.not_true, Bool.not_false, if_true, if_false, ite_true, ite_false, Nat.reduceEqDiff, Nat.reduceLT, true_and, List.map_cons, List.map_nil, Nat.zero_add, Nat.reduceBEq]
end
theorem nm_get (t : List Nm) (i : Nat) (h : i < (t.map nmV).length) : (t.map nmV)[i] = nmV (t[i]'(by simpa using h)) := by simp
theorem NN_len (l : List Nm) : (NN l).length = l.length := by simp
def mkN (n : Int) : Nm := (n, 0)
def zeroN : Nm := mkN 0
def nmarks : List Nm := (List.range 9).map fun j : Nat => mkN (-700 - (j : Int))
theorem nmarks_len : nmarks.length = 9 := rfl
theorem nmarks_get (j : Nat) (h : j < nmarks.length) : nmarks[j] = mkN (-700 - (j : Int)) := by simp [nmarks]
structure HandedN (σ : Store) (v : AVal) (x : List Nm) (id : Nat) : Prop where
 val : v = .slice 2 id 0 0 x.length (some (x.length + 9))
 obj : σ[id]? = some (.arr 2 (NN (x ++ nmarks)) 0 0)
theorem HandedN.sl {σ : Store} {v : AVal} {x : List Nm} {id : Nat} (h : HandedN σ v x id) : SlOf σ 2 v (NN x) := by
 obtain ⟨rfl, ho⟩ := h
 refine ⟨?_, by simp [lenSV, NN_len], fun s id' ep off len c hc => ?_⟩
 ·simp [elems, ho]
 ·injection hc with _ _ _ _ e5 e6; injection e6 with e6; omega
theorem HandedN.keep {σ σ' : Store} {v : AVal} {x : List Nm} {id : Nat} (h : HandedN σ v x id) {M : Nat → Prop} (hk : Keeps M σ σ') (hm : ¬ M id) : HandedN σ' v x id := ⟨h.val, hk.get h.obj hm⟩
section
variable (d : Nat) (σ : Store)
theorem handn_ok (l : AVal) (x : List Nm) (hx : x.length < 2 ^ 30) (hl : SlOf σ 2 l (NN x)) : Called CU.cfg d 9 [l] σ fun v σ' => HandedN σ' v x σ.length ∧ Grows σ σ' := by
 refine called_of (fn := CU.a9) rfl (Nat.le_of_ble_eq_true rfl) ?_
 have ll := hl.len
 rw [NN_len] at ll
 have w : IntKind.i64.wrap ((x.length : Int) + 9) = ((x.length + 9 : Nat) : Int) := by rw [wrap_i64 (by omega) (by omega)]; omega
 have mk : mkslV σ 2 16 [.int .i64 0, .int .i64 0] true (.int .i64 ((x.length + 9 : Nat) : Int)) (.int .i64 ((x.length + 9 : Nat) : Int)) =
   some (.slice 2 σ.length 0 0 (x.length + 9) (some (x.length + 9)), σ ++ [.arr 2 (NN (List.replicate (x.length + 9) zeroN)) 0 0]) := by
  have e : (0 : Int) ≤ ((x.length + 9 : Nat) : Int) ∧ ((x.length + 9 : Nat) : Int) ≤ ((x.length + 9 : Nat) : Int) ∧ ((x.length + 9 : Nat) : Int) * ((16 : Nat) : Int) ≤ apLim := by
   refine ⟨by omega, Int.le_refl _, ?_⟩
   have : (apLim : Int) = 70368744177664 := rfl
   omega
  simp only [mkslV]
  rw [if_pos e]
  simp [zel, zeroN, mkN, nmV]
  omega
 simp only [CU.a9]
 simp -dsimp only [↓WPd, ↓wpC_block, ↓wpC_cond, WPu, Bool.false_eq_true, Bool.true_eq_false, Bool.not_true, Bool.not_false, if_true, if_false, ite_true, ite_false, Nat.reduceEqDiff, Nat.reduceLT, true_and, List.map_cons, List.map_nil, Nat.zero_add, Nat.reduceBEq, ll, w, mk]
 have ho : (σ ++ [AObj.arr 2 (NN (List.replicate (x.length + 9) zeroN)) 0 0])[σ.length]? = some (.arr 2 (NN (List.replicate (x.length + 9) zeroN)) 0 0) := by simp
 have hcur : ∀ (σ' : Store) (bs : List Nm), Grows σ σ' → σ'[σ.length]? = some (.arr 2 (NN bs) 0 0) → SlOf σ' 2 l (NN x) := fun σ' bs g _ => hl.grow g
 refine loop_rule2 (fun m vs σ' => ∃ (k : Nat) (bs : List Nm), k ≤ x.length ∧ m = x.length - k ∧ vs = [l, .slice 2 σ.length 0 0 (x.length + 9) (some (x.length + 9)), .int .i64 k] ∧ Grows σ σ' ∧ σ'[σ.length]? = some (.arr 2 (NN bs) 0 0) ∧ bs.length = x.length + 9 ∧ bs.take k = (x ++ nmarks).take k)
  [0, 3] (fun e vs σ' => e = .exit 0 ∧ ∃ bs : List Nm, vs = [l, .slice 2 σ.length 0 0 (x.length + 9) (some (x.length + 9))] ∧ Grows σ σ' ∧ σ'[σ.length]? = some (.arr 2 (NN bs) 0 0) ∧ bs.length = x.length + 9 ∧ bs.take x.length = (x ++ nmarks).take x.length)
  x.length ⟨0, List.replicate (x.length + 9) zeroN, Nat.zero_le _, rfl, ?_, Grows.app _ _, ho, by simp, rfl⟩ ?_ ?_
 ·simp -dsimp only [↓WPd, ↓wpC_block, ↓wpC_cond, WPu, Bool.false_eq_true, Bool.true_eq_false, Bool.not_true, Bool.not_false, if_true, if_false, ite_true, ite_false, Nat.reduceEqDiff, Nat.reduceLT, true_and, List.map_cons, List.map_nil, Nat.zero_add, Nat.reduceBEq]; rfl
 ·rintro m vs σ' ⟨k, bs, hk, rfl, rfl, g, hob, hbl, ht⟩
  simp -dsimp only [↓WPd, ↓wpC_block, ↓wpC_cond, WPu, Bool.false_eq_true, Bool.true_eq_false, Bool.not_true, Bool.not_false, if_true, if_false, ite_true, ite_false, Nat.reduceEqDiff, Nat.reduceLT, true_and, List.map_cons, List.map_nil, Nat.zero_add, Nat.reduceBEq, ll]
  refine condP_dec (fun h => ?_) (fun h => ?_)
  ·have hk' : k < x.length := by omega
   have hi : k < (NN x).length := by rw [NN_len]; exact hk'
   have hi2 : k < (NN bs).length := by rw [NN_len]; omega
   have hlx := hl.grow g
   have st : storeV σ' 2 (.eptr σ.length 0 k 0) (nmV (x[k])) = some (σ'.set σ.length (.arr 2 ((NN bs).set k (nmV (x[k]))) 0 0)) := arr_storeA hob hi2 (cs0 := (nmC (bs[k]'(by omega)))) (by rw [nm_get]; rfl) rfl rfl rfl
   have lx : loadV σ' 2 true (addrOf 2 l k) = some (nmV (x[k])) := hlx.loadA hi (cs := (nmC (x[k]))) (by rw [nm_get]; rfl)
   simp -dsimp only [↓WPd, ↓wpC_block, ↓wpC_cond, WPu, Bool.false_eq_true, Bool.true_eq_false, Bool.not_true, Bool.not_false, if_true, if_false, ite_true, ite_false, Nat.reduceEqDiff, Nat.reduceLT, true_and, List.map_cons, List.map_nil, Nat.zero_add, Nat.reduceBEq, hlx.iaddr hi, lx, arr_iaddr (show k < x.length + 9 by omega), st]
   have eb : (NN bs).set k (nmV (x[k])) = NN (bs.set k x[k]) := by simp [List.map_set]
   refine ⟨x.length - (k + 1), by omega, k + 1, bs.set k x[k], by omega, rfl, ?_, ?_, ?_, by simpa using hbl, ?_⟩
   ·rw [wrap_i64 (by omega) (by omega), Int.natCast_add, Int.natCast_one]
   ·exact Keeps.trans g (Keeps.set _ _ _) fun i hi e => by omega
   ·rw [eb]; exact List.getElem?_set_self (List.getElem?_eq_some_iff.1 hob).1
   ·have := take_set_succ (l := bs) (y := x ++ nmarks) (k := k) (by omega) (by simp; omega) ht
    rwa [List.getElem_append_left hk'] at this
  ·simp -dsimp only [↓WPd, ↓wpC_block, ↓wpC_cond, WPu, Bool.false_eq_true, Bool.true_eq_false, Bool.not_true, Bool.not_false, if_true, if_false, ite_true, ite_false, Nat.reduceEqDiff, Nat.reduceLT, true_and, List.map_cons, List.map_nil, Nat.zero_add, Nat.reduceBEq]
   have : k = x.length := by omega
   subst this
   exact ⟨bs, g, hob, hbl, ht⟩
 ·rintro e σ' env ⟨rfl, bs, hv, g, hob, hbl, ht⟩
  simp only [List.map_cons, List.map_nil, List.cons.injEq, and_true] at hv
  obtain ⟨v0, v3⟩ := hv
  simp -dsimp only [↓WPd, ↓wpC_block, ↓wpC_cond, WPu, Bool.false_eq_true, Bool.true_eq_false, Bool.not_true, Bool.not_false, if_true, if_false, ite_true, ite_false, Nat.reduceEqDiff, Nat.reduceLT, true_and, List.map_cons, List.map_nil, Nat.zero_add, Nat.reduceBEq, v0, v3, ll]
  refine loop_rule2 (fun m vs σ' => ∃ (k : Nat) (bs : List Nm), x.length ≤ k ∧ k ≤ x.length + 9 ∧ m = x.length + 9 - k ∧ vs = [l, .slice 2 σ.length 0 0 (x.length + 9) (some (x.length + 9)), .int .i64 k] ∧ Grows σ σ' ∧ σ'[σ.length]? = some (.arr 2 (NN bs) 0 0) ∧ bs.length = x.length + 9 ∧ bs.take k = (x ++ nmarks).take k)
   [0, 3] (fun e vs σ' => e = .exit 2 ∧ vs = [l, .slice 2 σ.length 0 0 (x.length + 9) (some (x.length + 9))] ∧ Grows σ σ' ∧ σ'[σ.length]? = some (.arr 2 (NN (x ++ nmarks)) 0 0))
   9 ⟨x.length, bs, Nat.le_refl _, by omega, by omega, ?_, g, hob, hbl, ht⟩ ?_ ?_
  ·simp -dsimp only [↓WPd, ↓wpC_block, ↓wpC_cond, WPu, Bool.false_eq_true, Bool.true_eq_false, Bool.not_true, Bool.not_false, if_true, if_false, ite_true, ite_false, Nat.reduceEqDiff, Nat.reduceLT, true_and, List.map_cons, List.map_nil, Nat.zero_add, Nat.reduceBEq, v0, v3]
  ·rintro m vs σ' ⟨k, bs, hk0, hk, rfl, rfl, g, hob, hbl, ht⟩
   have el : lenSV (.slice 2 σ.length 0 0 (x.length + 9) (some (x.length + 9))) = some (x.length + 9) := rfl
   simp -dsimp only [↓WPd, ↓wpC_block, ↓wpC_cond, WPu, Bool.false_eq_true, Bool.true_eq_false, Bool.not_true, Bool.not_false, if_true, if_false, ite_true, ite_false, Nat.reduceEqDiff, Nat.reduceLT, true_and, List.map_cons, List.map_nil, Nat.zero_add, Nat.reduceBEq, el]
   refine condP_dec (fun h => ?_) (fun h => ?_)
   ·have hk' : k < x.length + 9 := by omega
    have hi2 : k < (NN bs).length := by rw [NN_len]; omega
    have w1 : IntKind.i64.wrap (-700 - (k : Int)) = -700 - (k : Int) := by rw [wrap_i64 (by omega) (by omega)]
    have w2 : IntKind.i64.wrap (-700 - (k : Int) + (x.length : Int)) = -700 - ((k - x.length : Nat) : Int) := by rw [wrap_i64 (by omega) (by omega)]; omega
    have bf : fillA [AVal.int IntKind.i64 0, AVal.int IntKind.i64 0] [(0, 1, AVal.int IntKind.i64 (-700 - ((k - x.length : Nat) : Int)))] = some (nmC (mkN (-700 - ((k - x.length : Nat) : Int)))) := rfl
    have st : storeV σ' 2 (.eptr σ.length 0 k 0) (.agg (nmC (mkN (-700 - ((k - x.length : Nat) : Int))))) = some (σ'.set σ.length (.arr 2 ((NN bs).set k (nmV (mkN (-700 - ((k - x.length : Nat) : Int))))) 0 0)) := arr_storeA hob hi2 (cs0 := (nmC (bs[k]'(by omega)))) (by rw [nm_get]; rfl) rfl rfl rfl
    simp -dsimp only [↓WPd, ↓wpC_block, ↓wpC_cond, WPu, Bool.false_eq_true, Bool.true_eq_false, Bool.not_true, Bool.not_false, if_true, if_false, ite_true, ite_false, Nat.reduceEqDiff, Nat.reduceLT, true_and, List.map_cons, List.map_nil, Nat.zero_add, Nat.reduceBEq, ll, w1, w2, bf, arr_iaddr (show k < x.length + 9 by omega), st]
    have eb : (NN bs).set k (nmV (mkN (-700 - ((k - x.length : Nat) : Int)))) = NN (bs.set k (mkN (-700 - ((k - x.length : Nat) : Int)))) := by simp [List.map_set]
    refine ⟨x.length + 9 - (k + 1), by omega, k + 1, bs.set k (mkN (-700 - ((k - x.length : Nat) : Int))), by omega, by omega, rfl, ?_, ?_, ?_, by simpa using hbl, ?_⟩
    ·rw [wrap_i64 (by omega) (by omega), Int.natCast_add, Int.natCast_one]
    ·exact Keeps.trans g (Keeps.set _ _ _) fun i hi e => by omega
    ·rw [eb]; exact List.getElem?_set_self (List.getElem?_eq_some_iff.1 hob).1
    ·have := take_set_succ (l := bs) (y := x ++ nmarks) (k := k) (by omega) (by simp [nmarks_len]; omega) ht
     rwa [List.getElem_append_right hk0, nmarks_get] at this
   ·simp -dsimp only [↓WPd, ↓wpC_block, ↓wpC_cond, WPu, Bool.false_eq_true, Bool.true_eq_false, Bool.not_true, Bool.not_false, if_true, if_false, ite_true, ite_false, Nat.reduceEqDiff, Nat.reduceLT, true_and, List.map_cons, List.map_nil, Nat.zero_add, Nat.reduceBEq]
    have : k = x.length + 9 := by omega
    subst this
    have e1 : bs = x ++ nmarks := by
     rw [List.take_of_length_le (by omega), List.take_of_length_le (by simp [nmarks_len])] at ht
     exact ht
    rw [← e1]
    exact ⟨g, hob⟩
  ·rintro e σ' env ⟨rfl, hv, g, hob⟩
   simp only [List.map_cons, List.map_nil, List.cons.injEq, and_true] at hv
   obtain ⟨v0, v3⟩ := hv
   have hsl : sliceV 2 (.slice 2 σ.length 0 0 (x.length + 9) (some (x.length + 9))) none (some (.int .i64 (x.length : Nat))) none = some (.slice 2 σ.length 0 0 x.length (some (x.length + 9))) := by
    simp only [sliceV, if_true, obnd_none, Option.getD_some]
    rw [obnd_some _ _ _ (show x.length ≤ x.length + 9 by omega)]
    simp
   simp -dsimp only [↓WPd, ↓wpC_block, ↓wpC_cond, WPu, Bool.false_eq_true, Bool.true_eq_false, Bool.not_true, Bool.not_false, if_true, if_false, ite_true, ite_false, Nat.reduceEqDiff, Nat.reduceLT, true_and, List.map_cons, List.map_nil, Nat.zero_add, Nat.reduceBEq, v0, v3, ll, oev, hsl]
   exact ⟨⟨rfl, hob⟩, g⟩
theorem keptn_ok (v l : AVal) (x : List Nm) (id : Nat) (hx : x.length < 2 ^ 30) (hv : HandedN σ v x id) (hl : SlOf σ 2 l (NN x)) : Called CU.cfg d 21 [v, l] σ fun r σ' => r = .bool true ∧ σ' = σ := by
 refine called_of (fn := CU.a21) rfl (Nat.le_of_ble_eq_true rfl) ?_
 have ll := hl.len
 rw [NN_len] at ll
 simp only [CU.a21]
 simp -dsimp only [↓WPd, ↓wpC_block, ↓wpC_cond, WPu, Bool.false_eq_true, Bool.true_eq_false, Bool.not_true, Bool.not_false, if_true, if_false, ite_true, ite_false, Nat.reduceEqDiff, Nat.reduceLT, true_and, List.map_cons, List.map_nil, Nat.zero_add, Nat.reduceBEq]
 refine calledW_of (msamenames_ok d σ v l x (by omega) hv.sl hl) ?_
 rintro r σ1 ⟨rfl, rfl⟩
 have w : IntKind.i64.wrap ((x.length : Int) + 9) = ((x.length + 9 : Nat) : Int) := by rw [wrap_i64 (by omega) (by omega)]; omega
 have hsl : sliceV 2 v none (some (.int .i64 ((x.length + 9 : Nat) : Int))) none = some (.slice 2 id 0 0 (x.length + 9) (some (x.length + 9))) := by
  rw [hv.val]
  simp only [sliceV, if_true, obnd_none, Option.getD_some]
  rw [obnd_some _ _ _ (Nat.le_refl _)]
  simp
 simp -dsimp only [↓WPd, ↓wpC_block, ↓wpC_cond, WPu, Bool.false_eq_true, Bool.true_eq_false, Bool.not_true, Bool.not_false, if_true, if_false, ite_true, ite_false, Nat.reduceEqDiff, Nat.reduceLT, true_and, List.map_cons, List.map_nil, Nat.zero_add, Nat.reduceBEq, decide_true, ll, w, oev, hsl]
 refine loop_rule (fun m vs σ' => ∃ k : Nat, x.length ≤ k ∧ k ≤ x.length + 9 ∧ m = x.length + 9 - k ∧ σ' = σ1 ∧ vs = [l, .slice 2 id 0 0 (x.length + 9) (some (x.length + 9)), .int .i64 k]) 9 ⟨x.length, Nat.le_refl _, by omega, by omega, rfl, ?_⟩ ?_
 ·simp -dsimp only [↓WPd, ↓wpC_block, ↓wpC_cond, WPu, Bool.false_eq_true, Bool.true_eq_false, Bool.not_true, Bool.not_false, if_true, if_false, ite_true, ite_false, Nat.reduceEqDiff, Nat.reduceLT, true_and, List.map_cons, List.map_nil, Nat.zero_add, Nat.reduceBEq]
 ·rintro m vs σ' ⟨k, hk0, hk, rfl, rfl, rfl⟩
  have el : lenSV (.slice 2 id 0 0 (x.length + 9) (some (x.length + 9))) = some (x.length + 9) := rfl
  simp -dsimp only [↓WPd, ↓wpC_block, ↓wpC_cond, WPu, Bool.false_eq_true, Bool.true_eq_false, Bool.not_true, Bool.not_false, if_true, if_false, ite_true, ite_false, Nat.reduceEqDiff, Nat.reduceLT, true_and, List.map_cons, List.map_nil, Nat.zero_add, Nat.reduceBEq, el]
  refine condP_dec (fun h => ?_) (fun h => ?_)
  ·have hk' : k < x.length + 9 := by omega
   have hi2 : k < (NN (x ++ nmarks)).length := by rw [NN_len]; simp [nmarks_len]; omega
   have w1 : IntKind.i64.wrap (-700 - (k : Int)) = -700 - (k : Int) := by rw [wrap_i64 (by omega) (by omega)]
   have w2 : IntKind.i64.wrap (-700 - (k : Int) + (x.length : Int)) = -700 - ((k - x.length : Nat) : Int) := by rw [wrap_i64 (by omega) (by omega)]; omega
   have bf : fillA [AVal.int IntKind.i64 0, AVal.int IntKind.i64 0] [(0, 1, AVal.int IntKind.i64 (-700 - ((k - x.length : Nat) : Int)))] = some (nmC (mkN (-700 - ((k - x.length : Nat) : Int)))) := rfl
   have ld : loadV σ' 2 true (.eptr id 0 k 0) = some (nmV (mkN (-700 - ((k - x.length : Nat) : Int)))) := arr_loadA hv.obj (Nat.le_refl 0) hi2 (by rw [nm_get, List.getElem_append_right hk0, nmarks_get]; rfl) rfl
   have en : eqsV [.i, .i] (nmV (mkN (-700 - ((k - x.length : Nat) : Int)))) (.agg (nmC (mkN (-700 - ((k - x.length : Nat) : Int))))) = some true := by
    have := nm_eqs (mkN (-700 - ((k - x.length : Nat) : Int))) (mkN (-700 - ((k - x.length : Nat) : Int)))
    rw [decide_eq_true rfl] at this; exact this
   simp -dsimp only [↓WPd, ↓wpC_block, ↓wpC_cond, WPu, Bool.false_eq_true, Bool.true_eq_false, Bool.not_true, Bool.not_false, if_true, if_false, ite_true, ite_false, Nat.reduceEqDiff, Nat.reduceLT, true_and, List.map_cons, List.map_nil, Nat.zero_add, Nat.reduceBEq, ll, w1, w2, bf, arr_iaddr (show k < x.length + 9 by omega), ld, en]
   refine ⟨x.length + 9 - (k + 1), by omega, k + 1, by omega, by omega, rfl, ?_⟩
   rw [wrap_i64 (by omega) (by omega), Int.natCast_add, Int.natCast_one]
  ·simp -dsimp only [↓WPd, ↓wpC_block, ↓wpC_cond, WPu, Bool.false_eq_true, Bool.true_eq_false, Bool.not_true, Bool.not_false, if_true, if_false, ite_true, ite_false, Nat.reduceEqDiff, Nat.reduceLT, true_and, List.map_cons, List.map_nil, Nat.zero_add, Nat.reduceBEq]
end
structure BookN (c1 c2 c3 c4 : AVal) (lo : Nat) (σ : Store) (id : Nat) (w : AVal) (es : List AVal) (ps : List (List Nm)) : Prop where
 obj : σ[id]? = some (.cells [c1, c2, c3, c4, w])
 rows : ORows σ lo 2 w es (ps.map fun l => l.map nmV)
section
variable (d : Nat) (σ : Store)
theorem taken_ok (c1 c2 c3 c4 : AVal) (lo : Nat) (id : Nat) (w e : AVal) (es : List AVal) (ps : List (List Nm)) (p : List Nm) (h : BookN c1 c2 c3 c4 lo σ id w es ps) (he : Own σ 2 e (NN p)) (fe : Fresh lo e) (hlo : lo ≤ σ.length) (le : NoLit e) (hn : ps.length < 2 ^ 30)
  (hl : ∀ j, e.sid = some j → w.sid ≠ some j) (hx : ∀ (i : Nat) (x : AVal) (j : Nat), es[i]? = some x → e.sid = some j → x.sid ≠ some j) :
  Called CU.cfg d 19 [.ptr id 0, e] σ fun _ σ' => Keeps (fun i => i = id ∨ w.sid = some i) σ σ' ∧ ∃ w', BookN c1 c2 c3 c4 lo σ' id w' (es ++ [e]) (ps ++ [p]) ∧ (∀ j, w'.sid = some j → w.sid = some j ∨ σ.length ≤ j) := by
 refine called_of (fn := CU.a19) rfl (Nat.le_of_ble_eq_true rfl) ?_
 have hlen := h.rows.len
 rw [List.length_map] at hlen
 obtain ⟨w', σ2, a1, a2, a3, a4⟩ := h.rows.push2 he fe le hlo hl hx 24 (by omega)
 have ho2 := a3.get h.obj (h.rows.row.noCell h.obj)
 have st := store_cells ho2 (off := 4) (by simp) (v := w') a2.row.sl.one
 simp only [List.set_cons_zero, List.set_cons_succ] at st
 have e1 : fillL 1 false (List.replicate 1 (zel [AVal.nilslice] false)) [(0, e)] = some [e] := by
  rcases he.own with ⟨rfl, _⟩ | ⟨t, rfl⟩ | ⟨id, ep, off, cap, xs, epo, fl, rfl, _⟩ <;> simp
 have lel : ∀ tg, elems 1 σ (.fslice tg true 1 [e]) = some [e] := fun tg => (SlOf.fs σ 1 tg true [e]).els
 simp only [CU.a19]
 simp -dsimp only [↓WPd, ↓wpC_block, ↓wpC_cond, WPu, Bool.false_eq_true, Bool.true_eq_false, Bool.not_true, Bool.not_false, if_true, if_false, ite_true, ite_false, Nat.reduceEqDiff, Nat.reduceLT, true_and, List.map_cons, List.map_nil, Nat.zero_add, Nat.reduceBEq, faddr_ptr, load_cells h.obj, List.getElem?_cons_zero, List.getElem?_cons_succ, e1, lel, a1, st, resultsA, mapO]
 have k1 : Keeps (fun i => i = id ∨ w.sid = some i) σ σ2 := a3.mono fun i hi e => .inr e
 refine ⟨Keeps.trans k1 (Keeps.set _ _ _) fun i hi e => .inl e, w', ⟨get_set ho2, ?_⟩, fun j hj => ?_⟩
 ·have := a2.cell ho2 (Keeps.set σ2 id (.cells [c1, c2, c3, c4, w']))
  simpa using this
 ·rcases a4 j hj with e | e
  ·exact .inl e
  ·exact .inr (by omega)
end
theorem NN_app (a b : List Nm) : NN a ++ NN b = NN (a ++ b) := by simp
def mkNK (i : Nat) : Nm := mkN (-9000 - i)
theorem mk_opsN (i : Nat) (hi : i < 2 ^ 40) : IntKind.i64.wrap (-9000 - (i : Int)) = -9000 - (i : Int) ∧ fillA [AVal.int IntKind.i64 0, AVal.int IntKind.i64 0] [(0, 1, AVal.int IntKind.i64 (-9000 - (i : Int)))] = some (nmC (mkNK i)) ∧ (nmC (mkNK i)).all AVal.one = true :=
 ⟨by rw [wrap_i64 (by omega) (by omega)], rfl, rfl⟩
section
variable (d : Nat) (σ : Store)
set_option maxHeartbeats 4000000 in
theorem alonen_ok (c1 c2 c3 c4 : AVal) (lo : Nat) (id : Nat) (w : AVal) (es : List AVal) (qs : List (List Nm)) (h : BookN c1 c2 c3 c4 lo σ id w es qs) (hn : qs.length < 2 ^ 38) (hq : ∀ q ∈ qs, q.length < 2 ^ 38) :
  Called CU.cfg d 71 [.ptr id 0] σ fun r σ' => r = .bool true ∧ σ'[id]? = some (.cells [c1, c2, c3, c4, w]) ∧ Keeps (fun j => ∃ (i : Nat) (e : AVal), es[i]? = some e ∧ e.sid = some j) σ σ' := by
 refine called_of (fn := CU.a71) rfl (Nat.le_of_ble_eq_true rfl) ?_
 have hpl := h.rows.len
 rw [List.length_map] at hpl
 have lw := h.rows.row.sl.len
 rw [hpl] at lw
 have sub : ∀ {i : Nat} {e : AVal} {σ1 σ2 : Store}, es[i]? = some e → Keeps (fun j => e.sid = some j) σ1 σ2 → Keeps (fun j => ∃ (i : Nat) (e : AVal), es[i]? = some e ∧ e.sid = some j) σ1 σ2 := fun hi hk => hk.mono fun j _ hj => ⟨_, _, hi, hj⟩
 simp only [CU.a71]
 simp -dsimp only [↓WPd, ↓wpC_block, ↓wpC_cond, WPu, Bool.false_eq_true, Bool.true_eq_false, Bool.not_true, Bool.not_false, if_true, if_false, ite_true, ite_false, Nat.reduceEqDiff, Nat.reduceLT, true_and, List.map_cons, List.map_nil, Nat.zero_add, Nat.reduceBEq]
 refine loop_rule2 (fun m vs σ' => ∃ (i : Nat) (xs : List (List Nm)), i ≤ qs.length ∧ m = qs.length - i ∧ vs = [.ptr id 0, .int .i64 i] ∧ BookN c1 c2 c3 c4 lo σ' id w es xs ∧ xs.length = qs.length ∧ (∀ (j : Nat) (x : List Nm), xs[j]? = some x → x.length < 2 ^ 38 ∧ (j < i → x = List.replicate x.length (mkNK j))) ∧
   Keeps (fun j => ∃ (i : Nat) (e : AVal), es[i]? = some e ∧ e.sid = some j) σ σ')
  [0] (fun x vs σ' => x = .exit 0 ∧ ∃ (xs : List (List Nm)), vs = [.ptr id 0] ∧ BookN c1 c2 c3 c4 lo σ' id w es xs ∧ xs.length = qs.length ∧ (∀ (j : Nat) (x : List Nm), xs[j]? = some x → x.length < 2 ^ 38 ∧ x = List.replicate x.length (mkNK j)) ∧
   Keeps (fun j => ∃ (i : Nat) (e : AVal), es[i]? = some e ∧ e.sid = some j) σ σ') qs.length
  ⟨0, qs, Nat.zero_le _, rfl, ?_, h, rfl, fun j x hx => ⟨hq x (List.mem_of_getElem? hx), fun h => by omega⟩, Keeps.refl _ _⟩ ?_ ?_
 ·simp -dsimp only [↓WPd, ↓wpC_block, ↓wpC_cond, WPu, Bool.false_eq_true, Bool.true_eq_false, Bool.not_true, Bool.not_false, if_true, if_false, ite_true, ite_false, Nat.reduceEqDiff, Nat.reduceLT, true_and, List.map_cons, List.map_nil, Nat.zero_add, Nat.reduceBEq]; rfl
 ·rintro m vs σ1 ⟨i, xs, hi, rfl, rfl, hb, hxl, hx, hk⟩
  simp -dsimp only [↓WPd, ↓wpC_block, ↓wpC_cond, WPu, Bool.false_eq_true, Bool.true_eq_false, Bool.not_true, Bool.not_false, if_true, if_false, ite_true, ite_false, Nat.reduceEqDiff, Nat.reduceLT, true_and, List.map_cons, List.map_nil, Nat.zero_add, Nat.reduceBEq, faddr_ptr, load_cells hb.obj, List.getElem?_cons_zero, List.getElem?_cons_succ, lw]
  refine condP_dec (fun hc => ?_) (fun hc => ?_)
  ·have hi' : i < qs.length := by omega
   have hie : i < es.length := by omega
   have hei : es[i]? = some es[i] := List.getElem?_eq_getElem hie
   generalize es[i] = e at hei
   obtain ⟨m1, m2, m3⟩ := mk_opsN i (by omega)
   simp -dsimp only [↓WPd, ↓wpC_block, ↓wpC_cond, WPu, Bool.false_eq_true, Bool.true_eq_false, Bool.not_true, Bool.not_false, if_true, if_false, ite_true, ite_false, Nat.reduceEqDiff, Nat.reduceLT, true_and, List.map_cons, List.map_nil, Nat.zero_add, Nat.reduceBEq]
   refine loop_rule2 (fun m vs σ' => ∃ (k : Nat) (ys : List (List Nm)) (y : List Nm), k ≤ y.length ∧ m = y.length - k ∧ vs = [.ptr id 0, .int .i64 i, .int .i64 k] ∧ BookN c1 c2 c3 c4 lo σ' id w es ys ∧ ys.length = qs.length ∧ ys[i]? = some y ∧ y.length < 2 ^ 38 ∧ y.take k = List.replicate k (mkNK i) ∧
     (∀ (j : Nat) (x : List Nm), j ≠ i → ys[j]? = some x → x.length < 2 ^ 38 ∧ (j < i → x = List.replicate x.length (mkNK j))) ∧ Keeps (fun j => ∃ (i : Nat) (e : AVal), es[i]? = some e ∧ e.sid = some j) σ σ')
    [0, 3] (fun x vs σ' => x = .exit 2 ∧ vs = [.ptr id 0, .int .i64 i] ∧ ∃ ys : List (List Nm), BookN c1 c2 c3 c4 lo σ' id w es ys ∧ ys.length = qs.length ∧ (∀ (j : Nat) (x : List Nm), ys[j]? = some x → x.length < 2 ^ 38 ∧ (j < i + 1 → x = List.replicate x.length (mkNK j))) ∧
     Keeps (fun j => ∃ (i : Nat) (e : AVal), es[i]? = some e ∧ e.sid = some j) σ σ') (xs[i]'(by omega)).length
    ⟨0, xs, xs[i]'(by omega), Nat.zero_le _, rfl, ?_, hb, hxl, List.getElem?_eq_getElem _, (hx i _ (List.getElem?_eq_getElem (by omega))).1, by simp, fun j x _ hj => hx j x hj, hk⟩ ?_ ?_
   ·simp -dsimp only [↓WPd, ↓wpC_block, ↓wpC_cond, WPu, Bool.false_eq_true, Bool.true_eq_false, Bool.not_true, Bool.not_false, if_true, if_false, ite_true, ite_false, Nat.reduceEqDiff, Nat.reduceLT, true_and, List.map_cons, List.map_nil, Nat.zero_add, Nat.reduceBEq]; rfl
   ·rintro m vs σ2 ⟨k, ys, y, hky, rfl, rfl, hb2, hyl, hyi, hy28, hyt, hyo, hk2⟩
    have oe := hb2.rows.one i e (NN y) hei (by rw [List.getElem?_map, hyi]; rfl)
    have le := oe.sl.len
    rw [NN_len] at le
    have e1 := hb2.rows.row.sl.iaddr hie .i64
    have e2 := hb2.rows.row.sl.load hie 1 false
    have hg : es[i] = e := by rw [List.getElem?_eq_getElem hie] at hei; exact Option.some.inj hei
    rw [hg, show ld e.cells 0 1 false = some e from by have := oe.sl.one; cases e <;> first | (cases this; done) | rfl] at e2
    simp -dsimp only [↓WPd, ↓wpC_block, ↓wpC_cond, WPu, Bool.false_eq_true, Bool.true_eq_false, Bool.not_true, Bool.not_false, if_true, if_false, ite_true, ite_false, Nat.reduceEqDiff, Nat.reduceLT, true_and, List.map_cons, List.map_nil, Nat.zero_add, Nat.reduceBEq, faddr_ptr, load_cells hb2.obj, List.getElem?_cons_zero, List.getElem?_cons_succ, e1, e2, le]
    refine condP_dec (fun hc => ?_) (fun hc => ?_)
    ·have hk' : k < y.length := by omega
     have hkB : k < (NN y).length := by rw [NN_len]; exact hk'
     obtain ⟨σ3, st, o3, k3, -⟩ := oe.store (hb2.rows.lit i e hei) hkB (x := (nmV (mkNK i))) rfl rfl (by rw [nm_get]; rfl) (by rw [nm_get]; rfl)
     have eb : (NN y).set k (nmV (mkNK i)) = NN (y.set k (mkNK i)) := by simp [List.map_set]
     rw [eb] at o3
     have st' : storeV σ2 2 (addrOf 2 e k) (.agg (nmC (mkNK i))) = some σ3 := st
     have r3 := hb2.rows.setElem hei o3 k3
     rw [← List.map_set] at r3
     have hb3 : BookN c1 c2 c3 c4 lo σ3 id w es (ys.set i (y.set k (mkNK i))) := ⟨k3.get hb2.obj (oe.noCell hb2.obj), r3⟩
     simp -dsimp only [↓WPd, ↓wpC_block, ↓wpC_cond, WPu, Bool.false_eq_true, Bool.true_eq_false, Bool.not_true, Bool.not_false, if_true, if_false, ite_true, ite_false, Nat.reduceEqDiff, Nat.reduceLT, true_and, List.map_cons, List.map_nil, Nat.zero_add, Nat.reduceBEq, faddr_ptr, load_cells hb2.obj, List.getElem?_cons_zero, List.getElem?_cons_succ, e1, e2, m1, m2, m3, oe.sl.iaddr hkB, st']
     refine ⟨y.length - (k + 1), by omega, k + 1, ys.set i (y.set k (mkNK i)), y.set k (mkNK i), by simp; omega, by simp, ?_, hb3, by simpa using hyl, ?_, by simpa using hy28, ?_, fun j x hj hx' => ?_, ?_⟩
     ·rw [wrap_i64 (by omega) (by omega), Int.natCast_add, Int.natCast_one]
     ·exact List.getElem?_set_self (by omega)
     ·have := take_set_succ (l := y) (y := List.replicate y.length (mkNK i)) (k := k) hk' (by simpa using hk') (by rw [hyt, List.take_replicate, Nat.min_eq_left (by omega)])
      rw [List.getElem_replicate, List.take_replicate, Nat.min_eq_left (by omega)] at this
      exact this
     ·rw [List.getElem?_set_ne (fun e => hj e.symm)] at hx'
      exact hyo j x hj hx'
     ·exact Keeps.trans hk2 (sub hei k3) fun _ _ h => h
    ·simp -dsimp only [↓WPd, ↓wpC_block, ↓wpC_cond, WPu, Bool.false_eq_true, Bool.true_eq_false, Bool.not_true, Bool.not_false, if_true, if_false, ite_true, ite_false, Nat.reduceEqDiff, Nat.reduceLT, true_and, List.map_cons, List.map_nil, Nat.zero_add, Nat.reduceBEq]
     have hk' : k = y.length := by omega
     subst hk'
     rw [List.take_length] at hyt
     refine ⟨ys, hb2, hyl, fun j x hj => ?_, hk2⟩
     by_cases hji : j = i
     ·subst hji
      rw [hyi] at hj; injection hj with hj; subst hj
      exact ⟨hy28, fun _ => hyt⟩
     ·obtain ⟨a1, a2⟩ := hyo j x hji hj
      exact ⟨a1, fun hlt => a2 (by omega)⟩
   ·rintro x σ2 env ⟨rfl, hv, ys, hb2, hyl, hyx, hk2⟩
    simp only [List.map_cons, List.map_nil, List.cons.injEq, and_true] at hv
    obtain ⟨v0, v3⟩ := hv
    simp -dsimp only [↓WPd, ↓wpC_block, ↓wpC_cond, WPu, Bool.false_eq_true, Bool.true_eq_false, Bool.not_true, Bool.not_false, if_true, if_false, ite_true, ite_false, Nat.reduceEqDiff, Nat.reduceLT, true_and, List.map_cons, List.map_nil, Nat.zero_add, Nat.reduceBEq, v0, v3]
    refine ⟨qs.length - (i + 1), by omega, i + 1, ys, by omega, rfl, ?_, hb2, hyl, hyx, hk2⟩
    rw [wrap_i64 (by omega) (by omega), Int.natCast_add, Int.natCast_one]
  ·simp -dsimp only [↓WPd, ↓wpC_block, ↓wpC_cond, WPu, Bool.false_eq_true, Bool.true_eq_false, Bool.not_true, Bool.not_false, if_true, if_false, ite_true, ite_false, Nat.reduceEqDiff, Nat.reduceLT, true_and, List.map_cons, List.map_nil, Nat.zero_add, Nat.reduceBEq]
   exact ⟨xs, hb, hxl, fun j x hj => ⟨(hx j x hj).1, (hx j x hj).2 (by have := (List.getElem?_eq_some_iff.1 hj).1; omega)⟩, hk⟩
 ·rintro x σ1 env ⟨rfl, xs, hv, hb, hxl, hx, hk⟩
  simp only [List.map_cons, List.map_nil, List.cons.injEq, and_true] at hv
  simp -dsimp only [↓WPd, ↓wpC_block, ↓wpC_cond, WPu, Bool.false_eq_true, Bool.true_eq_false, Bool.not_true, Bool.not_false, if_true, if_false, ite_true, ite_false, Nat.reduceEqDiff, Nat.reduceLT, true_and, List.map_cons, List.map_nil, Nat.zero_add, Nat.reduceBEq, hv]
  have hxe : ∀ {j : Nat} {e : AVal} {x : List Nm}, es[j]? = some e → xs[j]? = some x → Own σ1 2 e (NN x) := fun {j e x} h1 h2 => hb.rows.one j e (NN x) h1 (by rw [List.getElem?_map, h2]; rfl)
  have hel : ∀ {j : Nat} {e : AVal} {s : Nat}, es[j]? = some e → e.sid = some s → s < σ1.length := fun h1 h2 => hb.rows.lt h1 h2
  refine loop_rule2 (fun m vs σ' => ∃ (i : Nat) (a : AVal) (gs : List AVal), i ≤ qs.length ∧ m = qs.length - i ∧ vs = [.ptr id 0, a, .int .i64 i] ∧ σ'[id]? = some (.cells [c1, c2, c3, c4, w]) ∧ SlOf σ' 1 w es ∧
    (∀ (j : Nat) (e : AVal) (x : List Nm), es[j]? = some e → xs[j]? = some x → SlOf σ' 2 e (NN x) ∧ (i ≤ j → Own σ' 2 e (NN x))) ∧ Own σ' 1 a gs ∧ gs.length = i ∧ Fresh σ1.length a ∧
    (∀ (j : Nat) (g : AVal) (x : List Nm), gs[j]? = some g → xs[j]? = some x → SlOf σ' 2 g (NN (x ++ List.replicate 20 (mkNK j)))) ∧ Keeps (fun j => ∃ (i : Nat) (e : AVal), es[i]? = some e ∧ e.sid = some j) σ σ' ∧ σ1.length ≤ σ'.length)
   [0, 5] (fun x vs σ' => x = .exit 4 ∧ ∃ (a : AVal) (gs : List AVal), vs = [.ptr id 0, a] ∧ σ'[id]? = some (.cells [c1, c2, c3, c4, w]) ∧ SlOf σ' 1 w es ∧
    (∀ (j : Nat) (e : AVal) (x : List Nm), es[j]? = some e → xs[j]? = some x → SlOf σ' 2 e (NN x)) ∧ SlOf σ' 1 a gs ∧ gs.length = qs.length ∧
    (∀ (j : Nat) (g : AVal) (x : List Nm), gs[j]? = some g → xs[j]? = some x → SlOf σ' 2 g (NN (x ++ List.replicate 20 (mkNK j)))) ∧ Keeps (fun j => ∃ (i : Nat) (e : AVal), es[i]? = some e ∧ e.sid = some j) σ σ') qs.length
   ⟨0, .nilslice, [], Nat.zero_le _, rfl, ?_, hb.obj, hb.rows.row.sl, fun j e x h1 h2 => ⟨(hxe h1 h2).sl, fun _ => hxe h1 h2⟩, Own.nil _ _, rfl, Fresh.nil _, fun j g x h => by simp at h, hk, Nat.le_refl _⟩ ?_ ?_
  ·simp -dsimp only [↓WPd, ↓wpC_block, ↓wpC_cond, WPu, Bool.false_eq_true, Bool.true_eq_false, Bool.not_true, Bool.not_false, if_true, if_false, ite_true, ite_false, Nat.reduceEqDiff, Nat.reduceLT, true_and, List.map_cons, List.map_nil, Nat.zero_add, Nat.reduceBEq, hv]; rfl
  ·rintro m vs σ2 ⟨i, a, gs, hi, rfl, rfl, p1, p2, p3, p4, p5, p6, p7, p8, p9⟩
   simp -dsimp only [↓WPd, ↓wpC_block, ↓wpC_cond, WPu, Bool.false_eq_true, Bool.true_eq_false, Bool.not_true, Bool.not_false, if_true, if_false, ite_true, ite_false, Nat.reduceEqDiff, Nat.reduceLT, true_and, List.map_cons, List.map_nil, Nat.zero_add, Nat.reduceBEq, faddr_ptr, load_cells p1, List.getElem?_cons_zero, List.getElem?_cons_succ, lw]
   refine condP_dec (fun hc => ?_) (fun hc => ?_)
   ·have hi' : i < qs.length := by omega
    have hie : i < es.length := by omega
    have hei : es[i]? = some es[i] := List.getElem?_eq_getElem hie
    have hxi : xs[i]? = some (xs[i]'(by omega)) := List.getElem?_eq_getElem _
    generalize xs[i]'(by omega) = x at hxi
    obtain ⟨m1, m2, m3⟩ := mk_opsN i (by omega)
    have oe := (p3 i es[i] x hei hxi).2 (Nat.le_refl _)
    have hx28 := (hx i x hxi).1
    have e1 := p2.iaddr hie .i64
    have e2 := p2.load1 hie oe.sl.one 1
    simp -dsimp only [↓WPd, ↓wpC_block, ↓wpC_cond, WPu, Bool.false_eq_true, Bool.true_eq_false, Bool.not_true, Bool.not_false, if_true, if_false, ite_true, ite_false, Nat.reduceEqDiff, Nat.reduceLT, true_and, List.map_cons, List.map_nil, Nat.zero_add, Nat.reduceBEq, faddr_ptr, load_cells p1, List.getElem?_cons_zero, List.getElem?_cons_succ, e1, e2]
    generalize es[i] = e at hei oe
    refine loop_rule2 (fun m vs σ' => ∃ (k : Nat) (g : AVal), k ≤ 20 ∧ m = 20 - k ∧ vs = [.ptr id 0, a, .int .i64 i, g, .int .i64 k] ∧ Own σ' 2 g (NN (x ++ List.replicate k (mkNK i))) ∧ (∀ s, g.sid = some s → e.sid = some s ∨ σ2.length ≤ s) ∧ Keeps (fun s => e.sid = some s) σ2 σ' ∧
      ∀ (sz : Nat) (u : AVal) (us : List AVal), SlOf σ2 sz u us → SlOf σ' sz u us)
     [0, 5, 6, 7] (fun y vs σ' => y = .exit 6 ∧ ∃ g : AVal, vs = [.ptr id 0, a, .int .i64 i, g] ∧ Own σ' 2 g (NN (x ++ List.replicate 20 (mkNK i))) ∧ (∀ s, g.sid = some s → e.sid = some s ∨ σ2.length ≤ s) ∧ Keeps (fun s => e.sid = some s) σ2 σ' ∧
      ∀ (sz : Nat) (u : AVal) (us : List AVal), SlOf σ2 sz u us → SlOf σ' sz u us) 20
     ⟨0, e, Nat.zero_le _, rfl, ?_, by simpa using oe, fun s hs => .inl hs, Keeps.refl _ _, fun _ _ _ h => h⟩ ?_ ?_
    ·simp -dsimp only [↓WPd, ↓wpC_block, ↓wpC_cond, WPu, Bool.false_eq_true, Bool.true_eq_false, Bool.not_true, Bool.not_false, if_true, if_false, ite_true, ite_false, Nat.reduceEqDiff, Nat.reduceLT, true_and, List.map_cons, List.map_nil, Nat.zero_add, Nat.reduceBEq]; rfl
    ·rintro m vs σ3 ⟨k, g, hk20, rfl, rfl, og, gsid, gk, gv⟩
     simp -dsimp only [↓WPd, ↓wpC_block, ↓wpC_cond, WPu, Bool.false_eq_true, Bool.true_eq_false, Bool.not_true, Bool.not_false, if_true, if_false, ite_true, ite_false, Nat.reduceEqDiff, Nat.reduceLT, true_and, List.map_cons, List.map_nil, Nat.zero_add, Nat.reduceBEq]
     refine condP_dec (fun hc => ?_) (fun hc => ?_)
     ·have hk' : k < 20 := by omega
      obtain ⟨g', σ4, b1, b2, b3, b4, _⟩ := og.append (NN [mkNK i]) 16 (by rw [NN_len, NN_len]; simp; omega)
      rw [NN_app, List.append_assoc, ← List.replicate_succ'] at b2
      have b1' : appendV σ3 2 16 g [.agg (nmC (mkNK i))] = some (g', σ4) := b1
      have f1 : fillL 2 true (List.replicate 1 (zel [AVal.int IntKind.i64 0, AVal.int IntKind.i64 0] true)) [(0, .agg (nmC (mkNK i)))] = some [.agg (nmC (mkNK i))] := rfl
      have f2 : ∀ t : Nat, elems 2 σ3 (.fslice t true 2 [.agg (nmC (mkNK i))]) = some [.agg (nmC (mkNK i))] := fun t => rfl
      simp -dsimp only [↓WPd, ↓wpC_block, ↓wpC_cond, WPu, Bool.false_eq_true, Bool.true_eq_false, Bool.not_true, Bool.not_false, if_true, if_false, ite_true, ite_false, Nat.reduceEqDiff, Nat.reduceLT, true_and, List.map_cons, List.map_nil, Nat.zero_add, Nat.reduceBEq, m1, m2, m3, f1, f2, b1']
      refine ⟨20 - (k + 1), by omega, k + 1, g', by omega, rfl, ?_, b2, fun s hs => ?_, ?_, fun sz u us hu => og.append_view b1 (gv sz u us hu)⟩
      ·rw [wrap_i64 (by omega) (by omega), Int.natCast_add, Int.natCast_one]
      ·rcases b4 s hs with e | e
       ·exact gsid s e
       ·have := gk.1; exact .inr (by omega)
      ·refine Keeps.trans gk b3 fun s hs e => ?_
       rcases gsid s e with e' | e'
       ·exact e'
       ·omega
     ·simp -dsimp only [↓WPd, ↓wpC_block, ↓wpC_cond, WPu, Bool.false_eq_true, Bool.true_eq_false, Bool.not_true, Bool.not_false, if_true, if_false, ite_true, ite_false, Nat.reduceEqDiff, Nat.reduceLT, true_and, List.map_cons, List.map_nil, Nat.zero_add, Nat.reduceBEq]
      have hk' : k = 20 := by omega
      subst hk'
      exact ⟨g, rfl, og, gsid, gk, gv⟩
    ·rintro y σ3 env ⟨rfl, g, hv, og, gsid, gk, gv⟩
     simp only [List.map_cons, List.map_nil, List.cons.injEq, and_true] at hv
     obtain ⟨v0, v5, v6, v7⟩ := hv
     have g4 : Grows σ3 σ3 := Keeps.refl _ _
     have lel : ∀ tg, elems 1 σ3 (.fslice tg true 1 [g]) = some [g] := fun tg => (SlOf.fs σ3 1 tg true [g]).els
     have oa3 : Own σ3 1 a gs := p4.keeps gk fun s hs he => by have := p6 s hs; have := hel hei he; omega
     have oa4 := oa3.grow g4
     obtain ⟨a', σ5, c1, c2, c3, c4, _⟩ := oa4.append [g] 24 (by rw [p5]; simp; omega)
     have V : ∀ {s : Nat} {u : AVal} {us : List AVal}, SlOf σ2 s u us → SlOf σ5 s u us := fun {s u us} hu => oa4.append_view c1 ((gv s _ _ hu).grow g4)
     simp -dsimp only [↓WPd, ↓wpC_block, ↓wpC_cond, WPu, Bool.false_eq_true, Bool.true_eq_false, Bool.not_true, Bool.not_false, if_true, if_false, ite_true, ite_false, Nat.reduceEqDiff, Nat.reduceLT, true_and, List.map_cons, List.map_nil, Nat.zero_add, Nat.reduceBEq, v0, v5, v6, v7, og.lit1, lel, c1]
     refine ⟨qs.length - (i + 1), by omega, i + 1, a', gs ++ [g], by omega, rfl, ?_, ?_, V p2, fun j e' x' h1 h2 => ⟨V (p3 j e' x' h1 h2).1, fun hj => ?_⟩, c2, by simp [p5], fun s hs => ?_, fun j g' x' h1 h2 => ?_, ?_, ?_⟩
     ·rw [wrap_i64 (by omega) (by omega), Int.natCast_add, Int.natCast_one]
     ·exact c3.get (g4.get (gk.get p1 (oe.noCell p1))) (oa4.noCell (g4.get (gk.get p1 (oe.noCell p1))))
     ·refine (((p3 j e' x' h1 h2).2 (by omega)).keeps gk fun s hs he => ?_).grow g4 |>.keeps c3 fun s hs ha => ?_
      ·have := hb.rows.apart j i e' e s h1 hei hs he; omega
      ·have := p6 s ha; have := hel h1 hs; omega
     ·rcases c4 s hs with e' | e'
      ·exact p6 s e'
      ·have := g4.1; have := gk.1; omega
     ·by_cases hj : j < gs.length
      ·rw [List.getElem?_append_left hj] at h1
       exact V (p7 j g' x' h1 h2)
      ·rw [List.getElem?_append_right (by omega), List.getElem?_singleton] at h1
       split at h1
       ·rename_i hj0
        injection h1 with h1
        subst h1
        have : j = i := by omega
        subst this
        rw [hxi] at h2; injection h2 with h2; subst h2
        exact oa4.append_view c1 (og.sl.grow g4)
       ·cases h1
     ·have k1 : Keeps (fun j => ∃ (i : Nat) (e : AVal), es[i]? = some e ∧ e.sid = some j) σ σ3 := Keeps.trans p8 (sub hei gk) fun _ _ h => h
      have k2 : Keeps (fun j => ∃ (i : Nat) (e : AVal), es[i]? = some e ∧ e.sid = some j) σ σ3 := Keeps.trans k1 (Grows.any (M := fun j => ∃ (i : Nat) (e : AVal), es[i]? = some e ∧ e.sid = some j) g4) fun _ _ h => h
      exact Keeps.trans k2 c3 fun s hs ha => by have := p6 s ha; have := hk.1; omega
     ·have := gk.1; have := g4.1; have := c3.1; omega
   ·simp -dsimp only [↓WPd, ↓wpC_block, ↓wpC_cond, WPu, Bool.false_eq_true, Bool.true_eq_false, Bool.not_true, Bool.not_false, if_true, if_false, ite_true, ite_false, Nat.reduceEqDiff, Nat.reduceLT, true_and, List.map_cons, List.map_nil, Nat.zero_add, Nat.reduceBEq]
    have hi' : i = qs.length := by omega
    exact ⟨a, gs, rfl, p1, p2, fun j e x h1 h2 => (p3 j e x h1 h2).1, p4.sl, by omega, p7, p8⟩
  ·rintro y σ2 env ⟨rfl, a, gs, hv2, p1, p2, p3, p4, p5, p7, p8⟩
   simp only [List.map_cons, List.map_nil, List.cons.injEq, and_true] at hv2
   obtain ⟨v0, v5⟩ := hv2
   have la := p4.len
   rw [p5] at la
   simp -dsimp only [↓WPd, ↓wpC_block, ↓wpC_cond, WPu, Bool.false_eq_true, Bool.true_eq_false, Bool.not_true, Bool.not_false, if_true, if_false, ite_true, ite_false, Nat.reduceEqDiff, Nat.reduceLT, true_and, List.map_cons, List.map_nil, Nat.zero_add, Nat.reduceBEq, v0, v5]
   refine loop_rule (fun m vs σ' => ∃ i : Nat, i ≤ qs.length ∧ m = qs.length - i ∧ vs = [.ptr id 0, a, .int .i64 i] ∧ σ' = σ2) qs.length ⟨0, Nat.zero_le _, rfl, ?_, rfl⟩ ?_
   ·simp -dsimp only [↓WPd, ↓wpC_block, ↓wpC_cond, WPu, Bool.false_eq_true, Bool.true_eq_false, Bool.not_true, Bool.not_false, if_true, if_false, ite_true, ite_false, Nat.reduceEqDiff, Nat.reduceLT, true_and, List.map_cons, List.map_nil, Nat.zero_add, Nat.reduceBEq, v0, v5]; rfl
   ·rintro m vs σ' ⟨i, hi, rfl, rfl, rfl⟩
    simp -dsimp only [↓WPd, ↓wpC_block, ↓wpC_cond, WPu, Bool.false_eq_true, Bool.true_eq_false, Bool.not_true, Bool.not_false, if_true, if_false, ite_true, ite_false, Nat.reduceEqDiff, Nat.reduceLT, true_and, List.map_cons, List.map_nil, Nat.zero_add, Nat.reduceBEq, la]
    refine condP_dec (fun hc => ?_) (fun hc => ?_)
    ·have hi' : i < qs.length := by omega
     have hie : i < es.length := by omega
     have hig : i < gs.length := by omega
     have hei : es[i]? = some es[i] := List.getElem?_eq_getElem hie
     have hgi : gs[i]? = some gs[i] := List.getElem?_eq_getElem hig
     have hxi : xs[i]? = some (xs[i]'(by omega)) := List.getElem?_eq_getElem _
     generalize xs[i]'(by omega) = x at hxi
     obtain ⟨m1, m2, m3⟩ := mk_opsN i (by omega)
     have sg := p7 i gs[i] x hgi hxi
     have se := p3 i es[i] x hei hxi
     obtain ⟨hx28, hxr⟩ := hx i x hxi
     have a1 := p4.iaddr hig .i64
     have a2 := p4.load1 hig sg.one 1
     have e1 := p2.iaddr hie .i64
     have e2 := p2.load1 hie se.one 1
     generalize gs[i] = g at *
     generalize es[i] = e at *
     have lg := sg.len
     rw [NN_len] at lg
     have le := se.len
     rw [NN_len] at le
     have hz : ∀ (k : Nat) (h : k < (NN (x ++ List.replicate 20 (mkNK i))).length), (NN (x ++ List.replicate 20 (mkNK i)))[k] = (nmV (mkNK i)) := fun k h => by
      have e : x ++ List.replicate 20 (mkNK i) = List.replicate (x.length + 20) (mkNK i) := by
       rw [← List.replicate_append_replicate, ← hxr]
      rw [nm_get]; simp only [e, List.getElem_replicate]
     have hx' : ∀ (k : Nat) (h : k < (NN x).length), (NN x)[k] = (nmV (mkNK i)) := fun k h => by
      rw [nm_get]
      have h' : k < x.length := by rw [NN_len] at h; exact h
      have : x[k]? = some (mkNK i) := by rw [hxr, List.getElem?_replicate, if_pos h']
      rw [List.getElem?_eq_getElem h'] at this
      rw [Option.some.inj this]
     have en : eqsV [.i, .i] (.agg (nmC (mkNK i))) (.agg (nmC (mkNK i))) = some true := by
      have := nm_eqs (mkNK i) (mkNK i)
      rw [decide_eq_true rfl] at this; exact this
     simp -dsimp only [↓WPd, ↓wpC_block, ↓wpC_cond, WPu, Bool.false_eq_true, Bool.true_eq_false, Bool.not_true, Bool.not_false, if_true, if_false, ite_true, ite_false, Nat.reduceEqDiff, Nat.reduceLT, true_and, List.map_cons, List.map_nil, Nat.zero_add, Nat.reduceBEq]
     refine loop_rule (fun m vs σ'' => ∃ k : Nat, k ≤ (x ++ List.replicate 20 (mkNK i)).length ∧ m = (x ++ List.replicate 20 (mkNK i)).length - k ∧ vs = [.ptr id 0, a, .int .i64 i, .int .i64 k] ∧ σ'' = σ') (x ++ List.replicate 20 (mkNK i)).length ⟨0, Nat.zero_le _, rfl, ?_, rfl⟩ ?_
     ·simp -dsimp only [↓WPd, ↓wpC_block, ↓wpC_cond, WPu, Bool.false_eq_true, Bool.true_eq_false, Bool.not_true, Bool.not_false, if_true, if_false, ite_true, ite_false, Nat.reduceEqDiff, Nat.reduceLT, true_and, List.map_cons, List.map_nil, Nat.zero_add, Nat.reduceBEq]; rfl
     ·rintro m vs σ'' ⟨k, hk1, rfl, rfl, rfl⟩
      simp -dsimp only [↓WPd, ↓wpC_block, ↓wpC_cond, WPu, Bool.false_eq_true, Bool.true_eq_false, Bool.not_true, Bool.not_false, if_true, if_false, ite_true, ite_false, Nat.reduceEqDiff, Nat.reduceLT, true_and, List.map_cons, List.map_nil, Nat.zero_add, Nat.reduceBEq, a1, a2, lg]
      have hzl : (x ++ List.replicate 20 (mkNK i)).length < 2 ^ 40 := by simp; omega
      refine condP_dec (fun hc => ?_) (fun hc => ?_)
      ·have hkz : k < (NN (x ++ List.replicate 20 (mkNK i))).length := by rw [NN_len]; omega
       have lz : loadV σ'' 2 true (addrOf 2 g k) = some (.agg (nmC (mkNK i))) := sg.loadA hkz (cs := (nmC (mkNK i))) (by rw [hz]; rfl)
       simp -dsimp only [↓WPd, ↓wpC_block, ↓wpC_cond, WPu, Bool.false_eq_true, Bool.true_eq_false, Bool.not_true, Bool.not_false, if_true, if_false, ite_true, ite_false, Nat.reduceEqDiff, Nat.reduceLT, true_and, List.map_cons, List.map_nil, Nat.zero_add, Nat.reduceBEq, a1, a2, sg.iaddr hkz, lz, m1, m2, m3, en]
       refine ⟨(x ++ List.replicate 20 (mkNK i)).length - (k + 1), by omega, k + 1, by omega, rfl, ?_⟩
       exact ⟨by rw [wrap_i64 (by omega) (by omega), Int.natCast_add, Int.natCast_one], trivial⟩
      ·simp -dsimp only [↓WPd, ↓wpC_block, ↓wpC_cond, WPu, Bool.false_eq_true, Bool.true_eq_false, Bool.not_true, Bool.not_false, if_true, if_false, ite_true, ite_false, Nat.reduceEqDiff, Nat.reduceLT, true_and, List.map_cons, List.map_nil, Nat.zero_add, Nat.reduceBEq]
       refine loop_rule (fun m vs σ3 => ∃ k : Nat, k ≤ x.length ∧ m = x.length - k ∧ vs = [.ptr id 0, a, .int .i64 i, .int .i64 k] ∧ σ3 = σ'') x.length ⟨0, Nat.zero_le _, rfl, ?_, rfl⟩ ?_
       ·simp -dsimp only [↓WPd, ↓wpC_block, ↓wpC_cond, WPu, Bool.false_eq_true, Bool.true_eq_false, Bool.not_true, Bool.not_false, if_true, if_false, ite_true, ite_false, Nat.reduceEqDiff, Nat.reduceLT, true_and, List.map_cons, List.map_nil, Nat.zero_add, Nat.reduceBEq]; rfl
       ·rintro m vs σ3 ⟨k2, hk2', rfl, rfl, rfl⟩
        simp -dsimp only [↓WPd, ↓wpC_block, ↓wpC_cond, WPu, Bool.false_eq_true, Bool.true_eq_false, Bool.not_true, Bool.not_false, if_true, if_false, ite_true, ite_false, Nat.reduceEqDiff, Nat.reduceLT, true_and, List.map_cons, List.map_nil, Nat.zero_add, Nat.reduceBEq, faddr_ptr, load_cells p1, List.getElem?_cons_zero, List.getElem?_cons_succ, e1, e2, le]
        refine condP_dec (fun hc => ?_) (fun hc => ?_)
        ·have hkx : k2 < (NN x).length := by rw [NN_len]; omega
         have lx : loadV σ3 2 true (addrOf 2 e k2) = some (.agg (nmC (mkNK i))) := se.loadA hkx (cs := (nmC (mkNK i))) (by rw [hx']; rfl)
         simp -dsimp only [↓WPd, ↓wpC_block, ↓wpC_cond, WPu, Bool.false_eq_true, Bool.true_eq_false, Bool.not_true, Bool.not_false, if_true, if_false, ite_true, ite_false, Nat.reduceEqDiff, Nat.reduceLT, true_and, List.map_cons, List.map_nil, Nat.zero_add, Nat.reduceBEq, faddr_ptr, load_cells p1, List.getElem?_cons_zero, List.getElem?_cons_succ, e1, e2, se.iaddr hkx, lx, m1, m2, m3, en]
         refine ⟨x.length - (k2 + 1), by omega, k2 + 1, by omega, rfl, ?_⟩
         exact ⟨by rw [wrap_i64 (by omega) (by omega), Int.natCast_add, Int.natCast_one], trivial⟩
        ·simp -dsimp only [↓WPd, ↓wpC_block, ↓wpC_cond, WPu, Bool.false_eq_true, Bool.true_eq_false, Bool.not_true, Bool.not_false, if_true, if_false, ite_true, ite_false, Nat.reduceEqDiff, Nat.reduceLT, true_and, List.map_cons, List.map_nil, Nat.zero_add, Nat.reduceBEq]
         refine ⟨qs.length - (i + 1), by omega, i + 1, by omega, rfl, ?_⟩
         exact ⟨by rw [wrap_i64 (by omega) (by omega), Int.natCast_add, Int.natCast_one], trivial⟩
    ·simp -dsimp only [↓WPd, ↓wpC_block, ↓wpC_cond, WPu, Bool.false_eq_true, Bool.true_eq_false, Bool.not_true, Bool.not_false, if_true, if_false, ite_true, ite_false, Nat.reduceEqDiff, Nat.reduceLT, true_and, List.map_cons, List.map_nil, Nat.zero_add, Nat.reduceBEq]
     exact ⟨p1, p8⟩
end
end Go.Proofs.YtelpjaejmneplaaGreatDoor.Am
