/-
  The abstract machine and the functions of the law, 5: texts put together.
-/
import Derived.Test.YtkjnanfkclijcaaDoorMatchHeadsPkB
import Derived.ChangeArms
import Derived.OpenShut
import Derived.LaidMore
import Derived.Test.YtkjnanfkclijcaaDoorMatchHeadsPkC
import Derived.Test.YtkjnanfkclijcaaDoorProg
import Derived.Test.YtkjnanfkclijcaaDoorMatchHeadsPkD
namespace Go.Proofs.YtkjnanfkclijcaaDoor.Am
open Go Go.RowKit
set_option linter.unusedVariables false
set_option linter.unusedSimpArgs false
section
variable {P : Program} {cfg : Cfg} {H : Type} {enc : TypeId × Value → H} {W : World}
theorem texts_read {m base : Nat} {sp : Nat → Bool} {held : Bool} {e : TypeId} (he : P.underlying e = some .string) : ∀ (xs : List (DataW H × List MemPlace)) (cs : List Value), cs.length = xs.length →
    (∀ i, i < xs.length → DataW.trod enc P W base sp held m e ((cs.drop i).take 1) = xs[i]?) → ∃ bs : List ByteArray, cs = bs.map Value.string ∧ xs.map (·.1) = bs.map fun b => .lit (.string b.data.toList)
  | [], cs, hl, _ => ⟨[], by simpa using List.eq_nil_of_length_eq_zero hl, rfl⟩
  | x :: xs, [], hl, _ => by simp at hl
  | x :: xs, c :: cs, hl, h => by
    have h0 := h 0 (by simp)
    simp only [List.drop_zero, List.take_succ_cons, List.take_zero, List.getElem?_cons_zero] at h0
    obtain ⟨s, e1, e2, _⟩ := DataW.trod_string he h0
    obtain ⟨bs, r1, r2⟩ := texts_read he xs cs (by simpa using hl) (fun i hi => by simpa using h (i + 1) (by simpa using hi))
    injection e1 with e1
    exact ⟨s :: bs, by rw [e1, r1]; rfl, by rw [e2, List.map_cons, r2]; rfl⟩
theorem texts_inj : ∀ {ss : List (List UInt8)} {bs : List ByteArray}, (ss.map fun s => (DataW.lit (.string s) : DataW H)) = (bs.map fun b => .lit (.string b.data.toList)) → ss = bs.map fun b => b.data.toList
  | [], [], _ => rfl
  | [], _ :: _, h => by simp at h
  | _ :: _, [], h => by simp at h
  | s :: ss, b :: bs, h => by
    simp only [List.map_cons, List.cons.injEq] at h ⊢
    obtain ⟨h1, h2⟩ := h
    injection h1 with h1
    injection h1 with h1
    exact ⟨h1, texts_inj h2⟩
theorem gl_of_laid {name : String} {g : Nat} {t e : TypeId} {n : Nat} {ss : List (List UInt8)} (hg : P.globalNamed name = some g) (ht : (P.globals[g]?).map (·.type) = some t) (hu : P.underlying t = some (.array n e)) (he : P.underlying e = some .string)
    (hce : P.cellsOf e = 1) (hct : P.cellsOf t = n) (hglob : ∀ i cs, cfg.glob i = some cs → i = g ∧ cs = ss.map AVal.str) (h : laidMet P [(name, .agg (ss.map fun s => .lit (.string s)))] W) : Gl cfg startE (startK W) := by
  intro i cs hi
  obtain ⟨rfl, rfl⟩ := hglob i cs hi
  obtain ⟨ps, ⟨g', t', cs', fuel, p, q, e1, e2, e3, e4, _, _⟩, _, _⟩ := h
  obtain rfl := Option.some.inj (hg.symm.trans e1)
  obtain rfl := Option.some.inj (ht.symm.trans e2)
  have hb : ∃ ty f, W.heap[i]? = some (.cells cs' ty f) := by
    simp only [World.var?, hg, Option.bind_some] at e3
    split at e3
    · rename_i c ty f hc
      injection e3 with e3; subst e3
      exact ⟨ty, f, hc⟩
    · cases e3
  obtain ⟨ty, f, hb⟩ := hb
  obtain ⟨xs, m, rfl, hx, hl, hxl, hel⟩ := DataW.trod_array hu e4
  obtain ⟨bs, r1, r2⟩ := texts_read he xs cs'.toList (by rw [hl, hct, hxl]) (fun i hi => by
    have := hel i (by omega)
    rw [hce, Nat.mul_one] at this
    exact this)
  injection hx with hx _
  injection hx with hx
  have hss := texts_inj (hx.trans r2)
  have hrel : ∀ bs : List ByteArray, VRelL cfg.conc W.heap ((startK W).safe startE) noIds ((bs.map fun b => b.data.toList).map AVal.str) (bs.map Value.string) := by
    intro bs
    induction bs with
    | nil => exact .nil _
    | cons b bs ih => exact .cons _ _ _ _ _ (.str _ b) ih
  have := VRel.fptr (cf := cfg.conc) (h := W.heap) (S := (startK W).safe startE) noIds 0 (ss.map AVal.str) 0 i 0 cs'.toList ⟨(Array.getElem?_eq_some_iff.1 hb).1, start_own W i, fun k _ hk => by simp [startE] at hk⟩
    (by rw [hss, r1]; exact hrel bs) (fun c hc => by obtain ⟨s, _, rfl⟩ := List.mem_map.1 hc; rfl) (fun c hc => by obtain ⟨s, _, rfl⟩ := List.mem_map.1 hc; exact Nat.le_refl _)
    (fun j v hj => by simp only [cellAt, hb, Nat.zero_add]; simpa using hj)
  exact this
end
end Go.Proofs.YtkjnanfkclijcaaDoor.Am

namespace Go.Proofs.YtkjnanfkclijcaaDoor.Am.CU
open Go Go.Proofs.YtkjnanfkclijcaaDoor.Am
set_option linter.unusedVariables false
set_option maxRecDepth 100000
set_option maxHeartbeats 4000000
theorem ok5 : FnOk cfg Tryd.prog 5 a5 := ⟨⟨Tryd.f5, _, Tryd.func5, by decide, rfl, rfl, by kernel_rfl, by kernel_rfl⟩⟩
theorem ok18 : FnOk cfg Tryd.prog 18 a18 := ⟨⟨Tryd.f18, _, Tryd.func18, by decide, rfl, rfl, by kernel_rfl, by kernel_rfl⟩⟩
theorem ok24 : FnOk cfg Tryd.prog 24 a24 := ⟨⟨Tryd.f24, _, Tryd.func24, by decide, rfl, rfl, by kernel_rfl, by kernel_rfl⟩⟩
theorem ok25 : FnOk cfg Tryd.prog 25 a25 := ⟨⟨Tryd.f25, _, Tryd.func25, by decide, rfl, rfl, by kernel_rfl, by kernel_rfl⟩⟩
theorem ok26 : FnOk cfg Tryd.prog 26 a26 := ⟨⟨Tryd.f26, _, Tryd.func26, by decide, rfl, rfl, by kernel_rfl, by kernel_rfl⟩⟩
theorem ok27 : FnOk cfg Tryd.prog 27 a27 := ⟨⟨Tryd.f27, _, Tryd.func27, by decide, rfl, rfl, by kernel_rfl, by kernel_rfl⟩⟩
theorem ok28 : FnOk cfg Tryd.prog 28 a28 := ⟨⟨Tryd.f28, _, Tryd.func28, by decide, rfl, rfl, by kernel_rfl, by kernel_rfl⟩⟩
theorem ok29 : FnOk cfg Tryd.prog 29 a29 := ⟨⟨Tryd.f29, _, Tryd.func29, by decide, rfl, rfl, by kernel_rfl, by kernel_rfl⟩⟩
theorem ok34 : FnOk cfg Tryd.prog 34 a34 := ⟨⟨Tryd.f34, _, Tryd.func34, by decide, rfl, rfl, by kernel_rfl, by kernel_rfl⟩⟩
theorem ok37 : FnOk cfg Tryd.prog 37 a37 := ⟨⟨Tryd.f37, _, Tryd.func37, by decide, rfl, rfl, by kernel_rfl, by kernel_rfl⟩⟩
theorem ok41 : FnOk cfg Tryd.prog 41 a41 := ⟨⟨Tryd.f41, _, Tryd.func41, by decide, rfl, rfl, by kernel_rfl, by kernel_rfl⟩⟩
theorem ok44 : FnOk cfg Tryd.prog 44 a44 := ⟨⟨Tryd.f44, _, Tryd.func44, by decide, rfl, rfl, by kernel_rfl, by kernel_rfl⟩⟩
theorem ok45 : FnOk cfg Tryd.prog 45 a45 := ⟨⟨Tryd.f45, _, Tryd.func45, by decide, rfl, rfl, by kernel_rfl, by kernel_rfl⟩⟩
theorem ok47 : FnOk cfg Tryd.prog 47 a47 := ⟨⟨Tryd.f47, _, Tryd.func47, by decide, rfl, rfl, by kernel_rfl, by kernel_rfl⟩⟩
theorem ok48 : FnOk cfg Tryd.prog 48 a48 := ⟨⟨Tryd.f48, _, Tryd.func48, by decide, rfl, rfl, by kernel_rfl, by kernel_rfl⟩⟩
theorem ok49 : FnOk cfg Tryd.prog 49 a49 := ⟨⟨Tryd.f49, _, Tryd.func49, by decide, rfl, rfl, by kernel_rfl, by kernel_rfl⟩⟩
theorem ok60 : FnOk cfg Tryd.prog 60 a60 := ⟨⟨Tryd.f60, _, Tryd.func60, by decide, rfl, rfl, by kernel_rfl, by kernel_rfl⟩⟩
theorem ok62 : FnOk cfg Tryd.prog 62 a62 := ⟨⟨Tryd.f62, _, Tryd.func62, by decide, rfl, rfl, by kernel_rfl, by kernel_rfl⟩⟩
theorem ok63 : FnOk cfg Tryd.prog 63 a63 := ⟨⟨Tryd.f63, _, Tryd.func63, by decide, rfl, rfl, by kernel_rfl, by kernel_rfl⟩⟩
theorem ok65 : FnOk cfg Tryd.prog 65 a65 := ⟨⟨Tryd.f65, _, Tryd.func65, by decide, rfl, rfl, by kernel_rfl, by kernel_rfl⟩⟩
theorem ok66 : FnOk cfg Tryd.prog 66 a66 := ⟨⟨Tryd.f66, _, Tryd.func66, by decide, rfl, rfl, by kernel_rfl, by kernel_rfl⟩⟩
theorem ok76 : FnOk cfg Tryd.prog 76 a76 := ⟨⟨Tryd.f76, _, Tryd.func76, by decide, rfl, rfl, by kernel_rfl, by kernel_rfl⟩⟩
theorem ok77 : FnOk cfg Tryd.prog 77 a77 := ⟨⟨Tryd.f77, _, Tryd.func77, by decide, rfl, rfl, by kernel_rfl, by kernel_rfl⟩⟩
theorem ok78 : FnOk cfg Tryd.prog 78 a78 := ⟨⟨Tryd.f78, _, Tryd.func78, by decide, rfl, rfl, by kernel_rfl, by kernel_rfl⟩⟩
theorem ok79 : FnOk cfg Tryd.prog 79 a79 := ⟨⟨Tryd.f79, _, Tryd.func79, by decide, rfl, rfl, by kernel_rfl, by kernel_rfl⟩⟩
theorem ok80 : FnOk cfg Tryd.prog 80 a80 := ⟨⟨Tryd.f80, _, Tryd.func80, by decide, rfl, rfl, by kernel_rfl, by kernel_rfl⟩⟩
theorem ok82 : FnOk cfg Tryd.prog 82 a82 := ⟨⟨Tryd.f82, _, Tryd.func82, by decide, rfl, rfl, by kernel_rfl, by kernel_rfl⟩⟩
theorem ok83 : FnOk cfg Tryd.prog 83 a83 := ⟨⟨Tryd.f83, _, Tryd.func83, by decide, rfl, rfl, by kernel_rfl, by kernel_rfl⟩⟩
theorem ok84 : FnOk cfg Tryd.prog 84 a84 := ⟨⟨Tryd.f84, _, Tryd.func84, by decide, rfl, rfl, by kernel_rfl, by kernel_rfl⟩⟩
theorem ok85 : FnOk cfg Tryd.prog 85 a85 := ⟨⟨Tryd.f85, _, Tryd.func85, by decide, rfl, rfl, by kernel_rfl, by kernel_rfl⟩⟩
theorem ok86 : FnOk cfg Tryd.prog 86 a86 := ⟨⟨Tryd.f86, _, Tryd.func86, by decide, rfl, rfl, by kernel_rfl, by kernel_rfl⟩⟩
theorem ok87 : FnOk cfg Tryd.prog 87 a87 := ⟨⟨Tryd.f87, _, Tryd.func87, by decide, rfl, rfl, by kernel_rfl, by kernel_rfl⟩⟩
theorem ok89 : FnOk cfg Tryd.prog 89 a89 := ⟨⟨Tryd.f89, _, Tryd.func89, by decide, rfl, rfl, by kernel_rfl, by kernel_rfl⟩⟩
theorem ok90 : FnOk cfg Tryd.prog 90 a90 := ⟨⟨Tryd.f90, _, Tryd.func90, by decide, rfl, rfl, by kernel_rfl, by kernel_rfl⟩⟩
theorem ok91 : FnOk cfg Tryd.prog 91 a91 := ⟨⟨Tryd.f91, _, Tryd.func91, by decide, rfl, rfl, by kernel_rfl, by kernel_rfl⟩⟩
theorem ok93 : FnOk cfg Tryd.prog 93 a93 := ⟨⟨Tryd.f93, _, Tryd.func93, by decide, rfl, rfl, by kernel_rfl, by kernel_rfl⟩⟩
theorem ok95 : FnOk cfg Tryd.prog 95 a95 := ⟨⟨Tryd.f95, _, Tryd.func95, by decide, rfl, rfl, by kernel_rfl, by kernel_rfl⟩⟩
theorem ok96 : FnOk cfg Tryd.prog 96 a96 := ⟨⟨Tryd.f96, _, Tryd.func96, by decide, rfl, rfl, by kernel_rfl, by kernel_rfl⟩⟩
theorem ok100 : FnOk cfg Tryd.prog 100 a100 := ⟨⟨Tryd.f100, _, Tryd.func100, by decide, rfl, rfl, by kernel_rfl, by kernel_rfl⟩⟩
theorem ok101 : FnOk cfg Tryd.prog 101 a101 := ⟨⟨Tryd.f101, _, Tryd.func101, by decide, rfl, rfl, by kernel_rfl, by kernel_rfl⟩⟩
theorem ok103 : FnOk cfg Tryd.prog 103 a103 := ⟨⟨Tryd.f103, _, Tryd.func103, by decide, rfl, rfl, by kernel_rfl, by kernel_rfl⟩⟩
theorem ok104 : FnOk cfg Tryd.prog 104 a104 := ⟨⟨Tryd.f104, _, Tryd.func104, by decide, rfl, rfl, by kernel_rfl, by kernel_rfl⟩⟩
theorem ok106 : FnOk cfg Tryd.prog 106 a106 := ⟨⟨Tryd.f106, _, Tryd.func106, by decide, rfl, rfl, by kernel_rfl, by kernel_rfl⟩⟩
theorem ok113 : FnOk cfg Tryd.prog 113 a113 := ⟨⟨Tryd.f113, _, Tryd.func113, by decide, rfl, rfl, by kernel_rfl, by kernel_rfl⟩⟩
theorem ok114 : FnOk cfg Tryd.prog 114 a114 := ⟨⟨Tryd.f114, _, Tryd.func114, by decide, rfl, rfl, by kernel_rfl, by kernel_rfl⟩⟩
theorem ok115 : FnOk cfg Tryd.prog 115 a115 := ⟨⟨Tryd.f115, _, Tryd.func115, by decide, rfl, rfl, by kernel_rfl, by kernel_rfl⟩⟩
theorem ok116 : FnOk cfg Tryd.prog 116 a116 := ⟨⟨Tryd.f116, _, Tryd.func116, by decide, rfl, rfl, by kernel_rfl, by kernel_rfl⟩⟩
theorem ok117 : FnOk cfg Tryd.prog 117 a117 := ⟨⟨Tryd.f117, _, Tryd.func117, by decide, rfl, rfl, by kernel_rfl, by kernel_rfl⟩⟩
theorem ok118 : FnOk cfg Tryd.prog 118 a118 := ⟨⟨Tryd.f118, _, Tryd.func118, by decide, rfl, rfl, by kernel_rfl, by kernel_rfl⟩⟩
theorem ok119 : FnOk cfg Tryd.prog 119 a119 := ⟨⟨Tryd.f119, _, Tryd.func119, by decide, rfl, rfl, by kernel_rfl, by kernel_rfl⟩⟩
theorem ok123 : FnOk cfg Tryd.prog 123 a123 := ⟨⟨Tryd.f123, _, Tryd.func123, by decide, rfl, rfl, by kernel_rfl, by kernel_rfl⟩⟩
theorem ok124 : FnOk cfg Tryd.prog 124 a124 := ⟨⟨Tryd.f124, _, Tryd.func124, by decide, rfl, rfl, by kernel_rfl, by kernel_rfl⟩⟩
theorem ok125 : FnOk cfg Tryd.prog 125 a125 := ⟨⟨Tryd.f125, _, Tryd.func125, by decide, rfl, rfl, by kernel_rfl, by kernel_rfl⟩⟩
theorem ok128 : FnOk cfg Tryd.prog 128 a128 := ⟨⟨Tryd.f128, _, Tryd.func128, by decide, rfl, rfl, by kernel_rfl, by kernel_rfl⟩⟩
theorem ok129 : FnOk cfg Tryd.prog 129 a129 := ⟨⟨Tryd.f129, _, Tryd.func129, by decide, rfl, rfl, by kernel_rfl, by kernel_rfl⟩⟩
theorem ok130 : FnOk cfg Tryd.prog 130 a130 := ⟨⟨Tryd.f130, _, Tryd.func130, by decide, rfl, rfl, by kernel_rfl, by kernel_rfl⟩⟩
theorem ok131 : FnOk cfg Tryd.prog 131 a131 := ⟨⟨Tryd.f131, _, Tryd.func131, by decide, rfl, rfl, by kernel_rfl, by kernel_rfl⟩⟩
theorem ok132 : FnOk cfg Tryd.prog 132 a132 := ⟨⟨Tryd.f132, _, Tryd.func132, by decide, rfl, rfl, by kernel_rfl, by kernel_rfl⟩⟩
theorem ok133 : FnOk cfg Tryd.prog 133 a133 := ⟨⟨Tryd.f133, _, Tryd.func133, by decide, rfl, rfl, by kernel_rfl, by kernel_rfl⟩⟩
theorem ok134 : FnOk cfg Tryd.prog 134 a134 := ⟨⟨Tryd.f134, _, Tryd.func134, by decide, rfl, rfl, by kernel_rfl, by kernel_rfl⟩⟩
theorem ok135 : FnOk cfg Tryd.prog 135 a135 := ⟨⟨Tryd.f135, _, Tryd.func135, by decide, rfl, rfl, by kernel_rfl, by kernel_rfl⟩⟩
theorem ok136 : FnOk cfg Tryd.prog 136 a136 := ⟨⟨Tryd.f136, _, Tryd.func136, by decide, rfl, rfl, by kernel_rfl, by kernel_rfl⟩⟩
theorem ok137 : FnOk cfg Tryd.prog 137 a137 := ⟨⟨Tryd.f137, _, Tryd.func137, by decide, rfl, rfl, by kernel_rfl, by kernel_rfl⟩⟩
theorem ok138 : FnOk cfg Tryd.prog 138 a138 := ⟨⟨Tryd.f138, _, Tryd.func138, by decide, rfl, rfl, by kernel_rfl, by kernel_rfl⟩⟩
theorem ok139 : FnOk cfg Tryd.prog 139 a139 := ⟨⟨Tryd.f139, _, Tryd.func139, by decide, rfl, rfl, by kernel_rfl, by kernel_rfl⟩⟩
theorem ok140 : FnOk cfg Tryd.prog 140 a140 := ⟨⟨Tryd.f140, _, Tryd.func140, by decide, rfl, rfl, by kernel_rfl, by kernel_rfl⟩⟩
theorem ok151 : FnOk cfg Tryd.prog 151 a151 := ⟨⟨Tryd.f151, _, Tryd.func151, by decide, rfl, rfl, by kernel_rfl, by kernel_rfl⟩⟩
theorem ok152 : FnOk cfg Tryd.prog 152 a152 := ⟨⟨Tryd.f152, _, Tryd.func152, by decide, rfl, rfl, by kernel_rfl, by kernel_rfl⟩⟩
theorem ok153 : FnOk cfg Tryd.prog 153 a153 := ⟨⟨Tryd.f153, _, Tryd.func153, by decide, rfl, rfl, by kernel_rfl, by kernel_rfl⟩⟩
theorem ok154 : FnOk cfg Tryd.prog 154 a154 := ⟨⟨Tryd.f154, _, Tryd.func154, by decide, rfl, rfl, by kernel_rfl, by kernel_rfl⟩⟩
theorem ok155 : FnOk cfg Tryd.prog 155 a155 := ⟨⟨Tryd.f155, _, Tryd.func155, by decide, rfl, rfl, by kernel_rfl, by kernel_rfl⟩⟩
theorem ok156 : FnOk cfg Tryd.prog 156 a156 := ⟨⟨Tryd.f156, _, Tryd.func156, by decide, rfl, rfl, by kernel_rfl, by kernel_rfl⟩⟩
theorem ok157 : FnOk cfg Tryd.prog 157 a157 := ⟨⟨Tryd.f157, _, Tryd.func157, by decide, rfl, rfl, by kernel_rfl, by kernel_rfl⟩⟩
theorem ok158 : FnOk cfg Tryd.prog 158 a158 := ⟨⟨Tryd.f158, _, Tryd.func158, by decide, rfl, rfl, by kernel_rfl, by kernel_rfl⟩⟩
theorem ok159 : FnOk cfg Tryd.prog 159 a159 := ⟨⟨Tryd.f159, _, Tryd.func159, by decide, rfl, rfl, by kernel_rfl, by kernel_rfl⟩⟩
theorem ok160 : FnOk cfg Tryd.prog 160 a160 := ⟨⟨Tryd.f160, _, Tryd.func160, by decide, rfl, rfl, by kernel_rfl, by kernel_rfl⟩⟩
theorem ok161 : FnOk cfg Tryd.prog 161 a161 := ⟨⟨Tryd.f161, _, Tryd.func161, by decide, rfl, rfl, by kernel_rfl, by kernel_rfl⟩⟩
theorem ok162 : FnOk cfg Tryd.prog 162 a162 := ⟨⟨Tryd.f162, _, Tryd.func162, by decide, rfl, rfl, by kernel_rfl, by kernel_rfl⟩⟩
theorem ok164 : FnOk cfg Tryd.prog 164 a164 := ⟨⟨Tryd.f164, _, Tryd.func164, by decide, rfl, rfl, by kernel_rfl, by kernel_rfl⟩⟩
theorem ok166 : FnOk cfg Tryd.prog 166 a166 := ⟨⟨Tryd.f166, _, Tryd.func166, by decide, rfl, rfl, by kernel_rfl, by kernel_rfl⟩⟩
theorem ok167 : FnOk cfg Tryd.prog 167 a167 := ⟨⟨Tryd.f167, _, Tryd.func167, by decide, rfl, rfl, by kernel_rfl, by kernel_rfl⟩⟩
theorem ok168 : FnOk cfg Tryd.prog 168 a168 := ⟨⟨Tryd.f168, _, Tryd.func168, by decide, rfl, rfl, by kernel_rfl, by kernel_rfl⟩⟩
theorem ok169 : FnOk cfg Tryd.prog 169 a169 := ⟨⟨Tryd.f169, _, Tryd.func169, by decide, rfl, rfl, by kernel_rfl, by kernel_rfl⟩⟩
theorem ok173 : FnOk cfg Tryd.prog 173 a173 := ⟨⟨Tryd.f173, _, Tryd.func173, by decide, rfl, rfl, by kernel_rfl, by kernel_rfl⟩⟩
theorem ok174 : FnOk cfg Tryd.prog 174 a174 := ⟨⟨Tryd.f174, _, Tryd.func174, by decide, rfl, rfl, by kernel_rfl, by kernel_rfl⟩⟩
theorem ok175 : FnOk cfg Tryd.prog 175 a175 := ⟨⟨Tryd.f175, _, Tryd.func175, by decide, rfl, rfl, by kernel_rfl, by kernel_rfl⟩⟩
theorem ok176 : FnOk cfg Tryd.prog 176 a176 := ⟨⟨Tryd.f176, _, Tryd.func176, by decide, rfl, rfl, by kernel_rfl, by kernel_rfl⟩⟩
theorem ok177 : FnOk cfg Tryd.prog 177 a177 := ⟨⟨Tryd.f177, _, Tryd.func177, by decide, rfl, rfl, by kernel_rfl, by kernel_rfl⟩⟩
theorem ok188 : FnOk cfg Tryd.prog 188 a188 := ⟨⟨Tryd.f188, _, Tryd.func188, by decide, rfl, rfl, by kernel_rfl, by kernel_rfl⟩⟩
theorem ok189 : FnOk cfg Tryd.prog 189 a189 := ⟨⟨Tryd.f189, _, Tryd.func189, by decide, rfl, rfl, by kernel_rfl, by kernel_rfl⟩⟩
theorem ok190 : FnOk cfg Tryd.prog 190 a190 := ⟨⟨Tryd.f190, _, Tryd.func190, by decide, rfl, rfl, by kernel_rfl, by kernel_rfl⟩⟩
theorem ok196 : FnOk cfg Tryd.prog 196 a196 := ⟨⟨Tryd.f196, _, Tryd.func196, by decide, rfl, rfl, by kernel_rfl, by kernel_rfl⟩⟩
theorem ok197 : FnOk cfg Tryd.prog 197 a197 := ⟨⟨Tryd.f197, _, Tryd.func197, by decide, rfl, rfl, by kernel_rfl, by kernel_rfl⟩⟩
theorem ok198 : FnOk cfg Tryd.prog 198 a198 := ⟨⟨Tryd.f198, _, Tryd.func198, by decide, rfl, rfl, by kernel_rfl, by kernel_rfl⟩⟩
theorem ok199 : FnOk cfg Tryd.prog 199 a199 := ⟨⟨Tryd.f199, _, Tryd.func199, by decide, rfl, rfl, by kernel_rfl, by kernel_rfl⟩⟩
theorem ok200 : FnOk cfg Tryd.prog 200 a200 := ⟨⟨Tryd.f200, _, Tryd.func200, by decide, rfl, rfl, by kernel_rfl, by kernel_rfl⟩⟩
theorem ok202 : FnOk cfg Tryd.prog 202 a202 := ⟨⟨Tryd.f202, _, Tryd.func202, by decide, rfl, rfl, by kernel_rfl, by kernel_rfl⟩⟩
theorem ok203 : FnOk cfg Tryd.prog 203 a203 := ⟨⟨Tryd.f203, _, Tryd.func203, by decide, rfl, rfl, by kernel_rfl, by kernel_rfl⟩⟩
theorem ok204 : FnOk cfg Tryd.prog 204 a204 := ⟨⟨Tryd.f204, _, Tryd.func204, by decide, rfl, rfl, by kernel_rfl, by kernel_rfl⟩⟩
theorem orF_cases {a b : Option AFunc} {x : AFunc} (h : orF a b = some x) : a = some x ∨ b = some x := by
  unfold orF at h
  split at h
  · exact .inl h
  · exact .inr h
theorem fns0 (f : FuncId) (fn : AFunc) (h : ir0 f = some fn) : FnOk cfg Tryd.prog f fn := by
  unfold ir0 at h
  split at h
  · injection h with h; subst h; exact ok5
  · injection h with h; subst h; exact ok18
  · injection h with h; subst h; exact ok24
  · injection h with h; subst h; exact ok25
  · injection h with h; subst h; exact ok26
  · injection h with h; subst h; exact ok27
  · injection h with h; subst h; exact ok28
  · injection h with h; subst h; exact ok29
  · injection h with h; subst h; exact ok34
  · injection h with h; subst h; exact ok37
  · injection h with h; subst h; exact ok41
  · injection h with h; subst h; exact ok44
  · injection h with h; subst h; exact ok45
  · injection h with h; subst h; exact ok47
  · injection h with h; subst h; exact ok48
  · injection h with h; subst h; exact ok49
  · injection h with h; subst h; exact ok60
  · injection h with h; subst h; exact ok62
  · injection h with h; subst h; exact ok63
  · injection h with h; subst h; exact ok65
  · injection h with h; subst h; exact ok66
  · injection h with h; subst h; exact ok76
  · injection h with h; subst h; exact ok77
  · injection h with h; subst h; exact ok78
  · injection h with h; subst h; exact ok79
  · injection h with h; subst h; exact ok80
  · injection h with h; subst h; exact ok82
  · injection h with h; subst h; exact ok83
  · injection h with h; subst h; exact ok84
  · injection h with h; subst h; exact ok85
  · injection h with h; subst h; exact ok86
  · injection h with h; subst h; exact ok87
  · injection h with h; subst h; exact ok89
  · injection h with h; subst h; exact ok90
  · injection h with h; subst h; exact ok91
  · injection h with h; subst h; exact ok93
  · injection h with h; subst h; exact ok95
  · injection h with h; subst h; exact ok96
  · injection h with h; subst h; exact ok100
  · injection h with h; subst h; exact ok101
  · cases h
theorem fns1 (f : FuncId) (fn : AFunc) (h : ir1 f = some fn) : FnOk cfg Tryd.prog f fn := by
  unfold ir1 at h
  split at h
  · injection h with h; subst h; exact ok103
  · injection h with h; subst h; exact ok104
  · injection h with h; subst h; exact ok106
  · injection h with h; subst h; exact ok113
  · injection h with h; subst h; exact ok114
  · injection h with h; subst h; exact ok115
  · injection h with h; subst h; exact ok116
  · injection h with h; subst h; exact ok117
  · injection h with h; subst h; exact ok118
  · injection h with h; subst h; exact ok119
  · injection h with h; subst h; exact ok123
  · injection h with h; subst h; exact ok124
  · injection h with h; subst h; exact ok125
  · injection h with h; subst h; exact ok128
  · injection h with h; subst h; exact ok129
  · injection h with h; subst h; exact ok130
  · injection h with h; subst h; exact ok131
  · injection h with h; subst h; exact ok132
  · injection h with h; subst h; exact ok133
  · injection h with h; subst h; exact ok134
  · injection h with h; subst h; exact ok135
  · injection h with h; subst h; exact ok136
  · injection h with h; subst h; exact ok137
  · injection h with h; subst h; exact ok138
  · injection h with h; subst h; exact ok139
  · injection h with h; subst h; exact ok140
  · injection h with h; subst h; exact ok151
  · injection h with h; subst h; exact ok152
  · injection h with h; subst h; exact ok153
  · injection h with h; subst h; exact ok154
  · injection h with h; subst h; exact ok155
  · injection h with h; subst h; exact ok156
  · injection h with h; subst h; exact ok157
  · injection h with h; subst h; exact ok158
  · injection h with h; subst h; exact ok159
  · injection h with h; subst h; exact ok160
  · injection h with h; subst h; exact ok161
  · injection h with h; subst h; exact ok162
  · injection h with h; subst h; exact ok164
  · injection h with h; subst h; exact ok166
  · cases h
theorem fns2 (f : FuncId) (fn : AFunc) (h : ir2 f = some fn) : FnOk cfg Tryd.prog f fn := by
  unfold ir2 at h
  split at h
  · injection h with h; subst h; exact ok167
  · injection h with h; subst h; exact ok168
  · injection h with h; subst h; exact ok169
  · injection h with h; subst h; exact ok173
  · injection h with h; subst h; exact ok174
  · injection h with h; subst h; exact ok175
  · injection h with h; subst h; exact ok176
  · injection h with h; subst h; exact ok177
  · injection h with h; subst h; exact ok188
  · injection h with h; subst h; exact ok189
  · injection h with h; subst h; exact ok190
  · injection h with h; subst h; exact ok196
  · injection h with h; subst h; exact ok197
  · injection h with h; subst h; exact ok198
  · injection h with h; subst h; exact ok199
  · injection h with h; subst h; exact ok200
  · injection h with h; subst h; exact ok202
  · injection h with h; subst h; exact ok203
  · injection h with h; subst h; exact ok204
  · cases h
theorem fns : ∀ f fn, cfg.ir f = some fn → FnOk cfg Tryd.prog f fn := by
  intro f fn h
  rcases orF_cases h with h | h
  · exact fns0 f fn h
  rcases orF_cases h with h | h
  · exact fns1 f fn h
  exact fns2 f fn h
theorem all : CfgOk Tryd.prog cfg := ⟨fns, fun _ _ h => by cases h⟩
end Go.Proofs.YtkjnanfkclijcaaDoor.Am.CU

namespace Go.Proofs.YtkjnanfkclijcaaDoor.Am
open Go
set_option linter.unusedVariables false
set_option linter.unusedSimpArgs false
set_option linter.unusedSectionVars false
theorem argsFrom_flat : ∀ {L f : Nat} {r : List Cel} {a : Nat}, (argsFrom L f r a).flatten.length ≤ r.length
  | L, 0, r, a => by simp [argsFrom]
  | L, f + 1, r, a => by
    simp only [argsFrom]
    split
    · simp
    · have := @argsFrom_flat L f (r.drop (endAt L r 1 a - a)) (endAt L r 1 a)
      simp only [List.flatten_cons, List.length_append, List.length_take, List.length_drop] at this ⊢
      omega
theorem args_flat (t : List Cel) : (args t).flatten.length ≤ t.length - 1 := by
  unfold args
  split
  · have := argsFrom_flat (L := t.length) (f := t.length) (r := t.drop 1) (a := 1)
    simpa using this
  · simp
theorem argsFrom_mem : ∀ {L f : Nat} {r : List Cel} {a : Nat} {x : List Cel}, x ∈ argsFrom L f r a → ∀ c ∈ x, c ∈ r
  | L, 0, r, a, x, h, c, hc => by simp [argsFrom] at h
  | L, f + 1, r, a, x, h, c, hc => by
    simp only [argsFrom] at h
    split at h
    · cases h
    · rcases List.mem_cons.1 h with rfl | h
      · exact List.mem_of_mem_take hc
      · exact List.mem_of_mem_drop (argsFrom_mem h c hc)
theorem args_mem {t x : List Cel} (h : x ∈ args t) : ∀ c ∈ x, c ∈ t := by
  unfold args at h
  split at h
  · exact fun c hc => List.mem_of_mem_drop (argsFrom_mem h c hc)
  · cases h
theorem endAt_ge {L : Nat} : ∀ {r : List Cel} {o a n : Nat}, endAt L r o a = n → n ≠ 0 → o ≤ n - a
  | r, 0, a, n, h, hn => Nat.zero_le _
  | [], o + 1, a, n, h, hn => by rw [endAt_nil] at h; exact absurd h.symm hn
  | c :: r, o + 1, a, n, h, hn => by
    rw [endAt_cons] at h
    split at h
    · exact absurd h.symm hn
    · have h1 := endAt_ge h hn
      have h2 := (endAt_le h hn).1
      omega
theorem endAt_loc {L L' : Nat} : ∀ {r : List Cel} {o a n : Nat}, endAt L r o a = n → n ≠ 0 → n - a ≤ L' → ∀ b, endAt L' (r.take (n - a)) o b = n - a + b
  | r, 0, a, n, h, hn, hL, b => by rw [endAt_zero] at h; subst h; rw [endAt_zero]; omega
  | [], o + 1, a, n, h, hn, hL, b => by rw [endAt_nil] at h; exact absurd h.symm hn
  | c :: r, o + 1, a, n, h, hn, hL, b => by
    rw [endAt_cons] at h
    split at h
    · exact absurd h.symm hn
    · have h1 := endAt_ge h hn
      have h2 := (endAt_le h hn).1
      have e : n - a = n - (a + 1) + 1 := by omega
      rw [e, List.take_succ_cons, endAt_cons, if_neg (by omega), endAt_loc h hn (by omega) (b + 1)]
      omega
theorem argsFrom_right {L : Nat} (hL : L ≤ 256) : ∀ {q f : Nat} {r : List Cel} {a : Nat}, 0 < a → endAt L r q a = a + r.length → r.length ≤ f → a + r.length ≤ L → (∀ c ∈ r, c.ok = true) → ∀ x ∈ argsFrom L f r a, right x = true
  | 0, f, r, a, ha, h, hf, hr, hc, x, hx => by
    rw [endAt_zero] at h
    have : r = [] := List.eq_nil_of_length_eq_zero (by omega)
    subst this
    cases f <;> simp [argsFrom] at hx
  | q + 1, f, r, a, ha, h, hf, hr, hc, x, hx => by
    have hne : r ≠ [] := by
      intro e; subst e
      rw [endAt_nil] at h; simp at h; omega
    have hpos : 0 < r.length := List.length_pos_iff.2 hne
    cases f with
    | zero => omega
    | succ f =>
      rw [show q + 1 = 1 + q by omega] at h
      obtain ⟨g1, g2⟩ := endAt_add h (by omega) (by omega)
      obtain ⟨e1, e2, e3⟩ := endAt_le (rfl : endAt L r 1 a = _) g1
      have e4 := e3 (by omega)
      simp only [argsFrom, if_neg hne, List.mem_cons] at hx
      rcases hx with rfl | hx
      · have hl : (r.take (endAt L r 1 a - a)).length = endAt L r 1 a - a := by rw [List.length_take]; omega
        have h3 := endAt_loc (L' := endAt L r 1 a - a) rfl g1 (Nat.le_refl _) 0
        simp only [right, Bool.and_eq_true, decide_eq_true_eq, List.all_eq_true]
        refine ⟨⟨⟨by omega, by omega⟩, ?_⟩, fun c h => hc c (List.mem_of_mem_take h)⟩
        rw [hl, h3]; omega
      · exact argsFrom_right hL (by omega) (by rw [g2, List.length_drop]; omega) (by rw [List.length_drop]; omega) (by rw [List.length_drop]; omega) (fun c h => hc c (List.mem_of_mem_drop h)) x hx
theorem args_rights {t x : List Cel} (h : x ∈ args t) : right x = true := by
  have h' := h
  unfold args at h
  split at h
  · rename_i hc
    simp only [Bool.and_eq_true] at hc
    have hr := hc.1
    cases t with
    | nil => simp [right] at hr
    | cons c r =>
      obtain ⟨h1, h2, h3⟩ := right_cons hr
      exact argsFrom_right (L := (c :: r).length) (right_len hr).2 (q := c.parts) (by omega) h1 (by simp) (by simp; omega) (fun c hc => right_ok_mem hr (List.mem_cons_of_mem _ hc)) x h
  · cases h
theorem args_glob {t x : List Cel} (ht : glob t = true) (h : x ∈ args t) : glob x = true := by
  simp only [glob, Bool.and_eq_true, List.all_eq_true] at ht ⊢
  exact ⟨args_rights h, fun c hc => ht.2 c (args_mem h c hc)⟩
theorem args_same {p t : List Cel} (hp : right p = true) (ht : right t = true) (h : p.headD default = t.headD default) : (args p).length = (args t).length := by
  by_cases hk : (t.headD default).k = 3
  · rw [args_len hp (by rw [h]; exact hk), args_len ht hk, h]
  · rw [args, if_neg (by rw [h, decide_eq_false hk]; simp), args, if_neg (by rw [decide_eq_false hk]; simp)]
def addN (ws : List Nm) (v : Nm) : List Nm := if ws.contains v then ws else ws ++ [v]
theorem addN_len (ws : List Nm) (v : Nm) : (addN ws v).length ≤ ws.length + 1 := by unfold addN; split <;> simp
def varsL (ws : List Nm) (t : List Cel) : List Nm := t.foldl (fun ws c => if c.k = 4 then addN ws c.v else ws) ws
theorem varsL_snoc (ws : List Nm) (t : List Cel) (c : Cel) : varsL ws (t ++ [c]) = if c.k = 4 then addN (varsL ws t) c.v else varsL ws t := by simp [varsL]
theorem varsL_len (ws : List Nm) : ∀ (t : List Cel), (varsL ws t).length ≤ ws.length + t.length := by
  intro t
  induction t generalizing ws with
  | nil => simp [varsL]
  | cons c t ih =>
    simp only [varsL, List.foldl_cons, List.length_cons]
    have := ih (if c.k = 4 then addN ws c.v else ws)
    simp only [varsL] at this
    have h2 : (if c.k = 4 then addN ws c.v else ws).length ≤ ws.length + 1 := by
      split
      · exact addN_len _ _
      · omega
    omega
theorem varsL_mem : ∀ {t : List Cel} {ws : List Nm} {v : Nm}, v ∈ varsL ws t → v ∈ ws ∨ ∃ c ∈ t, c.v = v
  | [], ws, v, h => .inl h
  | c :: t, ws, v, h => by
    simp only [varsL, List.foldl_cons] at h
    rcases varsL_mem (t := t) h with h | ⟨e, he, hv⟩
    · split at h
      · unfold addN at h
        split at h
        · exact .inl h
        · rcases List.mem_append.1 h with h | h
          · exact .inl h
          · simp at h; exact .inr ⟨c, List.mem_cons_self, h.symm⟩
      · exact .inl h
    · exact .inr ⟨e, List.mem_cons_of_mem _ he, hv⟩
structure TSt where
  ls : List (List Cel)
  ws : List Nm
def foldO {S α : Type} (f : S → α → α → Option S) : S → List α → List α → Option S
  | s, [], _ => some s
  | s, _ :: _, [] => some s
  | s, a :: azs, b :: bs => (f s a b).bind fun s' => foldO f s' azs bs
def partF (D : List Cel → List Cel) : Nat → TSt → List Cel → List Cel → Option TSt
  | 0, _, _, _ => none
  | n + 1, s, p, t =>
    if (p.headD default).k = 4 then
      if 0 ≤ (p.headD default).v.1 ∨ (s.ls.length : Int) ≤ (p.headD default).v.2 ∨ s.ls[(p.headD default).v.2.toNat]?.getD [] ≠ [] then none
      else some ⟨s.ls.set (p.headD default).v.2.toNat t, s.ws⟩
    else if ((D t).headD default).k = 4 then some ⟨s.ls, addN s.ws ((D t).headD default).v⟩
    else if p.headD default ≠ (D t).headD default then none
    else foldO (partF D n) s (args p) (args (D t))
theorem foldO_step {S α : Type} {f : S → α → α → Option S} {s : S} {azs bs : List α} {k : Nat} (ha : k < azs.length) (hb : k < bs.length) : foldO f s (azs.drop k) (bs.drop k) = (f s azs[k] bs[k]).bind fun s' => foldO f s' (azs.drop (k + 1)) (bs.drop (k + 1)) := by
  rw [List.drop_eq_getElem_cons ha, List.drop_eq_getElem_cons hb, foldO]
theorem foldO_end {S α : Type} (f : S → α → α → Option S) (s : S) (azs bs : List α) : foldO f s (azs.drop azs.length) bs = some s := by
  rw [List.drop_length, foldO]
theorem flat_step {azs : List (List Cel)} {k : Nat} (h : k < azs.length) : (azs.take (k + 1)).flatten.length = (azs.take k).flatten.length + (azs[k]).length := by
  rw [List.take_succ_eq_append_getElem h, List.flatten_append, List.length_append]; simp only [List.flatten_cons, List.flatten_nil, List.append_nil]
theorem flat_le (azs : List (List Cel)) (k : Nat) : (azs.take k).flatten.length ≤ azs.flatten.length := by
  have h : azs.flatten = (azs.take k).flatten ++ (azs.drop k).flatten := by rw [← List.flatten_append, List.take_append_drop]
  rw [h]; simp
structure TryR where
  k : Nat
  ls : List (List Cel)
  ws : List Nm
def headL (D : List Cel → List Cel) (n : Nat) (p g : List Cel) : TryR :=
  if !glob (D g) || decide (((D g).headD default).k = 1) || !right p then ⟨2, [], []⟩
  else if ((D g).headD default).k = 4 then ⟨3, [], [((D g).headD default).v]⟩
  else if p.headD default ≠ (D g).headD default then ⟨2, [], []⟩
  else match foldO (partF D 256) ⟨List.replicate n [], []⟩ (args p) (args (D g)) with
    | none => ⟨2, [], []⟩
    | some s => if s.ws = [] then ⟨1, s.ls, []⟩ else ⟨3, [], s.ws⟩
def countS (n : Nat) (v : Nm) : Nat := if v.1 = -1 ∧ v.2 < 1048576 then max n (v.2 + 1).toNat else n
def countL (ws : List Nm) : Nat := ws.foldl countS 0
theorem countS_le {n : Nat} (v : Nm) (h : n ≤ 1048576) : countS n v ≤ 1048576 := by unfold countS; split <;> omega
theorem countF_le : ∀ (ws : List Nm) {n : Nat}, n ≤ 1048576 → ws.foldl countS n ≤ 1048576
  | [], _, h => h
  | v :: ws, _, h => countF_le ws (countS_le v h)
theorem count_le (ws : List Nm) : countL ws ≤ 1048576 := countF_le ws (by omega)
theorem countL_snoc (ws : List Nm) (v : Nm) : countL (ws ++ [v]) = countS (countL ws) v := by simp [countL]
end Go.Proofs.YtkjnanfkclijcaaDoor.Am

namespace Go.Proofs.YtkjnanfkclijcaaDoor.Am
open Go
set_option linter.unusedVariables false
set_option linter.unusedSimpArgs false
set_option linter.unusedSectionVars false
set_option maxRecDepth 100000
abbrev NN (ws : List Nm) : List AVal := ws.map nmV
theorem names_at {σ : Store} {l : AVal} {ws : List Nm} (hl : SlOf σ 2 l (NN ws)) {i : Nat} (hi : i < ws.length) : iaddrV 2 l (.int .i64 i) = some (addrOf 2 l i) ∧ loadV σ 2 true (addrOf 2 l i) = some (nmV ws[i]) := by
  have hi' : i < (NN ws).length := by rw [List.length_map]; exact hi
  exact ⟨hl.iaddr hi' .i64, hl.loadA hi' (cs := nmC ws[i]) (by rw [List.getElem_map]; rfl)⟩
theorem names_len {σ : Store} {l : AVal} {ws : List Nm} (hl : SlOf σ 2 l (NN ws)) : lenSV l = some ws.length := by
  have := hl.len; rwa [List.length_map] at this
theorem nm_lit (v : Nm) : fillL 2 true (List.replicate 1 (zel [AVal.int IntKind.i64 0, AVal.int IntKind.i64 0] true)) [(0, nmV v)] = some [nmV v] := rfl
theorem elems2 (tg : Nat) (σ : Store) (x : AVal) : elems 2 σ (.fslice tg true 2 [x]) = some [x] := elems_fs 2 tg true σ [x]
theorem contains_not {ws : List Nm} {v : Nm} (h : ∀ (j : Nat) (hj : j < ws.length), ws[j] ≠ v) : ws.contains v = false := by
  rw [Bool.eq_false_iff]
  intro hc
  rw [List.contains_iff_mem] at hc
  obtain ⟨j, hj, e⟩ := List.getElem_of_mem hc
  exact h j hj e
theorem contains_at {ws : List Nm} {v : Nm} {k : Nat} (hk : k < ws.length) (h : ws[k] = v) : ws.contains v = true := by
  rw [List.contains_iff_mem, ← h]; exact List.getElem_mem hk
section
variable (d : Nat) (σ : Store)
theorem nindex_ok (l : AVal) (ws : List Nm) (v : Nm) (hx : ws.length < 2 ^ 40) (hl : SlOf σ 2 l (NN ws)) :
    Called CU.cfg d 140 [l, nmV v] σ fun r σ' => (∃ i : Int, r = .int .i64 i ∧ decide (0 ≤ i) = ws.contains v) ∧ Grows σ σ' := by
  refine called_of (fn := CU.a140) rfl (Nat.le_of_ble_eq_true rfl) ?_
  simp only [CU.a140]
  have ll := names_len hl
  simp -dsimp only [↓WPd, ↓wpC_block, ↓wpC_cond, WPu, Bool.false_eq_true, Bool.true_eq_false, Bool.not_true, Bool.not_false, if_true, if_false, ite_true, ite_false, Nat.reduceEqDiff, Nat.reduceLT, true_and, List.map_cons, List.map_nil, Nat.zero_add, Nat.reduceBEq, nm_cells, nm_one, ll]
  have ho : (σ ++ [AObj.cells (nmC v)])[σ.length]? = some (.cells (nmC v)) := by simp
  have g0 : Grows σ (σ ++ [AObj.cells (nmC v)]) := Grows.app _ _
  have hl1 := hl.grow g0
  generalize σ ++ [AObj.cells (nmC v)] = σ1 at ho g0 hl1
  generalize σ.length = i1 at ho
  refine loop_rule2 (fun m vs σ' => ∃ k, k ≤ ws.length ∧ m = ws.length - k ∧ vs = [l, .ptr i1 0, .int .i64 ws.length, .int .i64 k] ∧ σ' = σ1 ∧ ∀ (j : Nat) (hj : j < ws.length), j < k → ws[j] ≠ v) [4]
    (fun e vs σ' => σ' = σ1 ∧ ((e = .exit 0 ∧ ws.contains v = false) ∨ (e = .ret ∧ ws.contains v = true ∧ ∃ k : Nat, vs = [.int .i64 k]))) ws.length ⟨0, Nat.zero_le _, rfl, ?_, rfl, fun j _ h => by omega⟩ ?_ ?_
  · simp -dsimp only [↓WPd, ↓wpC_block, ↓wpC_cond, WPu, Bool.false_eq_true, Bool.true_eq_false, Bool.not_true, Bool.not_false, if_true, if_false, ite_true, ite_false, Nat.reduceEqDiff, Nat.reduceLT, true_and, List.map_cons, List.map_nil, Nat.zero_add, Nat.reduceBEq]; rfl
  · rintro m vs σ' ⟨k, hk, rfl, rfl, rfl, hall⟩
    simp -dsimp only [↓WPd, ↓wpC_block, ↓wpC_cond, WPu, Bool.false_eq_true, Bool.true_eq_false, Bool.not_true, Bool.not_false, if_true, if_false, ite_true, ite_false, Nat.reduceEqDiff, Nat.reduceLT, true_and, List.map_cons, List.map_nil, Nat.zero_add, Nat.reduceBEq]
    refine condP_dec (fun h => ?_) (fun h => ?_)
    · have hk' : k < ws.length := by omega
      obtain ⟨e1, e2⟩ := names_at hl1 hk'
      simp -dsimp only [↓WPd, ↓wpC_block, ↓wpC_cond, WPu, Bool.false_eq_true, Bool.true_eq_false, Bool.not_true, Bool.not_false, if_true, if_false, ite_true, ite_false, Nat.reduceEqDiff, Nat.reduceLT, true_and, List.map_cons, List.map_nil, Nat.zero_add, Nat.reduceBEq, e1, e2, load_nm ho, nm_eqs]
      refine condP_intro (fun h => ?_) (fun h => ?_)
      · rw [decide_eq_true_eq] at h
        simp -dsimp only [↓WPd, ↓wpC_block, ↓wpC_cond, WPu, Bool.false_eq_true, Bool.true_eq_false, Bool.not_true, Bool.not_false, if_true, if_false, ite_true, ite_false, Nat.reduceEqDiff, Nat.reduceLT, true_and, List.map_cons, List.map_nil, Nat.zero_add, Nat.reduceBEq]
        exact .inr ⟨contains_at hk' h.symm, k, rfl⟩
      · rw [decide_eq_false_iff_not] at h
        simp -dsimp only [↓WPd, ↓wpC_block, ↓wpC_cond, WPu, Bool.false_eq_true, Bool.true_eq_false, Bool.not_true, Bool.not_false, if_true, if_false, ite_true, ite_false, Nat.reduceEqDiff, Nat.reduceLT, true_and, List.map_cons, List.map_nil, Nat.zero_add, Nat.reduceBEq]
        refine ⟨ws.length - (k + 1), by omega, k + 1, by omega, rfl, by rw [wrap_i64 (by omega) (by omega), Int.natCast_add, Int.natCast_one], fun j hj hjk => ?_⟩
        by_cases e : j = k
        · subst e; exact fun e => h e.symm
        · exact hall j hj (by omega)
    · simp -dsimp only [↓WPd, ↓wpC_block, ↓wpC_cond, WPu, Bool.false_eq_true, Bool.true_eq_false, Bool.not_true, Bool.not_false, if_true, if_false, ite_true, ite_false, Nat.reduceEqDiff, Nat.reduceLT, true_and, List.map_cons, List.map_nil, Nat.zero_add, Nat.reduceBEq]
      exact .inl (contains_not fun j hj => hall j hj (by omega))
  · rintro e σ' env ⟨rfl, ⟨rfl, hno⟩ | ⟨rfl, hyes, k, hv⟩⟩
    · simp -dsimp only [↓WPd, ↓wpC_block, ↓wpC_cond, WPu, Bool.false_eq_true, Bool.true_eq_false, Bool.not_true, Bool.not_false, if_true, if_false, ite_true, ite_false, Nat.reduceEqDiff, Nat.reduceLT, true_and, List.map_cons, List.map_nil, Nat.zero_add, Nat.reduceBEq]
      exact ⟨⟨_, rfl, by rw [hno]; rfl⟩, g0⟩
    · simp only [List.map_cons, List.map_nil, List.cons.injEq, and_true] at hv
      simp -dsimp only [↓WPd, ↓wpC_block, ↓wpC_cond, WPu, Bool.false_eq_true, Bool.true_eq_false, Bool.not_true, Bool.not_false, if_true, if_false, ite_true, ite_false, Nat.reduceEqDiff, Nat.reduceLT, true_and, List.map_cons, List.map_nil, Nat.zero_add, Nat.reduceBEq, hv]
      exact ⟨⟨_, rfl, by rw [hyes]; simp⟩, g0⟩
theorem ncontains_ok (l : AVal) (ws : List Nm) (v : Nm) (hx : ws.length < 2 ^ 40) (hl : SlOf σ 2 l (NN ws)) :
    Called CU.cfg d 95 [l, nmV v] σ fun r σ' => r = .bool (ws.contains v) ∧ Grows σ σ' := by
  refine called_of (fn := CU.a95) rfl (Nat.le_of_ble_eq_true rfl) ?_
  simp only [CU.a95]
  simp -dsimp only [↓WPd, ↓wpC_block, ↓wpC_cond, WPu, Bool.false_eq_true, Bool.true_eq_false, Bool.not_true, Bool.not_false, if_true, if_false, ite_true, ite_false, Nat.reduceEqDiff, Nat.reduceLT, true_and, List.map_cons, List.map_nil, Nat.zero_add, Nat.reduceBEq, nm_cells, nm_one]
  have ho : (σ ++ [AObj.cells (nmC v)])[σ.length]? = some (.cells (nmC v)) := by simp
  have g0 : Grows σ (σ ++ [AObj.cells (nmC v)]) := Grows.app _ _
  have hl1 := hl.grow g0
  generalize σ ++ [AObj.cells (nmC v)] = σ1 at ho g0 hl1
  generalize σ.length = i1 at ho
  simp -dsimp only [↓WPd, ↓wpC_block, ↓wpC_cond, WPu, Bool.false_eq_true, Bool.true_eq_false, Bool.not_true, Bool.not_false, if_true, if_false, ite_true, ite_false, Nat.reduceEqDiff, Nat.reduceLT, true_and, List.map_cons, List.map_nil, Nat.zero_add, Nat.reduceBEq, load_nm ho]
  refine calledW_of (nindex_ok d σ1 l ws v hx hl1) ?_
  rintro r σ2 ⟨⟨i, rfl, hi⟩, g2⟩
  simp -dsimp only [↓WPd, ↓wpC_block, ↓wpC_cond, WPu, Bool.false_eq_true, Bool.true_eq_false, Bool.not_true, Bool.not_false, if_true, if_false, ite_true, ite_false, Nat.reduceEqDiff, Nat.reduceLT, true_and, List.map_cons, List.map_nil, Nat.zero_add, Nat.reduceBEq]
  have : decide (i ≥ 0) = ws.contains v := hi
  rw [this]
  exact ⟨rfl, g0.trans g2⟩
theorem hasname_ok (l : AVal) (ws : List Nm) (v : Nm) (hx : ws.length < 2 ^ 40) (hl : SlOf σ 2 l (NN ws)) :
    Called CU.cfg d 96 [l, nmV v] σ fun r σ' => r = .bool (ws.contains v) ∧ Grows σ σ' := by
  refine called_of (fn := CU.a96) rfl (Nat.le_of_ble_eq_true rfl) ?_
  simp only [CU.a96]
  have ll := names_len hl
  simp -dsimp only [↓WPd, ↓wpC_block, ↓wpC_cond, WPu, Bool.false_eq_true, Bool.true_eq_false, Bool.not_true, Bool.not_false, if_true, if_false, ite_true, ite_false, Nat.reduceEqDiff, Nat.reduceLT, true_and, List.map_cons, List.map_nil, Nat.zero_add, Nat.reduceBEq, nm_cells, nm_one]
  have ho : (σ ++ [AObj.cells (nmC v)])[σ.length]? = some (.cells (nmC v)) := by simp
  have g0 : Grows σ (σ ++ [AObj.cells (nmC v)]) := Grows.app _ _
  have hl1 := hl.grow g0
  generalize σ ++ [AObj.cells (nmC v)] = σ1 at ho g0 hl1
  generalize σ.length = i1 at ho
  refine loop_rule2 (fun m vs σ' => ∃ k, k ≤ ws.length ∧ m = ws.length - k ∧ vs = [l, .ptr i1 0, .int .i64 k] ∧ σ' = σ1 ∧ ∀ (j : Nat) (hj : j < ws.length), j < k → ws[j] ≠ v) [4]
    (fun e vs σ' => σ' = σ1 ∧ ((e = .exit 0 ∧ ws.contains v = false) ∨ (e = .ret ∧ ws.contains v = true ∧ vs = [.bool true]))) ws.length ⟨0, Nat.zero_le _, rfl, ?_, rfl, fun j _ h => by omega⟩ ?_ ?_
  · simp -dsimp only [↓WPd, ↓wpC_block, ↓wpC_cond, WPu, Bool.false_eq_true, Bool.true_eq_false, Bool.not_true, Bool.not_false, if_true, if_false, ite_true, ite_false, Nat.reduceEqDiff, Nat.reduceLT, true_and, List.map_cons, List.map_nil, Nat.zero_add, Nat.reduceBEq]; rfl
  · rintro m vs σ' ⟨k, hk, rfl, rfl, rfl, hall⟩
    simp -dsimp only [↓WPd, ↓wpC_block, ↓wpC_cond, WPu, Bool.false_eq_true, Bool.true_eq_false, Bool.not_true, Bool.not_false, if_true, if_false, ite_true, ite_false, Nat.reduceEqDiff, Nat.reduceLT, true_and, List.map_cons, List.map_nil, Nat.zero_add, Nat.reduceBEq, ll]
    refine condP_dec (fun h => ?_) (fun h => ?_)
    · have hk' : k < ws.length := by omega
      obtain ⟨e1, e2⟩ := names_at hl1 hk'
      simp -dsimp only [↓WPd, ↓wpC_block, ↓wpC_cond, WPu, Bool.false_eq_true, Bool.true_eq_false, Bool.not_true, Bool.not_false, if_true, if_false, ite_true, ite_false, Nat.reduceEqDiff, Nat.reduceLT, true_and, List.map_cons, List.map_nil, Nat.zero_add, Nat.reduceBEq, e1, e2, load_nm ho, nm_eqs]
      refine condP_intro (fun h => ?_) (fun h => ?_)
      · rw [decide_eq_true_eq] at h
        simp -dsimp only [↓WPd, ↓wpC_block, ↓wpC_cond, WPu, Bool.false_eq_true, Bool.true_eq_false, Bool.not_true, Bool.not_false, if_true, if_false, ite_true, ite_false, Nat.reduceEqDiff, Nat.reduceLT, true_and, List.map_cons, List.map_nil, Nat.zero_add, Nat.reduceBEq]
        exact .inr ⟨contains_at hk' h, trivial⟩
      · rw [decide_eq_false_iff_not] at h
        simp -dsimp only [↓WPd, ↓wpC_block, ↓wpC_cond, WPu, Bool.false_eq_true, Bool.true_eq_false, Bool.not_true, Bool.not_false, if_true, if_false, ite_true, ite_false, Nat.reduceEqDiff, Nat.reduceLT, true_and, List.map_cons, List.map_nil, Nat.zero_add, Nat.reduceBEq]
        refine ⟨ws.length - (k + 1), by omega, k + 1, by omega, rfl, by rw [wrap_i64 (by omega) (by omega), Int.natCast_add, Int.natCast_one], fun j hj hjk => ?_⟩
        by_cases e : j = k
        · subst e; exact h
        · exact hall j hj (by omega)
    · simp -dsimp only [↓WPd, ↓wpC_block, ↓wpC_cond, WPu, Bool.false_eq_true, Bool.true_eq_false, Bool.not_true, Bool.not_false, if_true, if_false, ite_true, ite_false, Nat.reduceEqDiff, Nat.reduceLT, true_and, List.map_cons, List.map_nil, Nat.zero_add, Nat.reduceBEq]
      exact .inl (contains_not fun j hj => hall j hj (by omega))
  · rintro e σ' env ⟨rfl, ⟨rfl, hno⟩ | ⟨rfl, hyes, hv⟩⟩
    · simp -dsimp only [↓WPd, ↓wpC_block, ↓wpC_cond, WPu, Bool.false_eq_true, Bool.true_eq_false, Bool.not_true, Bool.not_false, if_true, if_false, ite_true, ite_false, Nat.reduceEqDiff, Nat.reduceLT, true_and, List.map_cons, List.map_nil, Nat.zero_add, Nat.reduceBEq, hno]
      exact g0
    · simp only [List.map_cons, List.map_nil, List.cons.injEq, and_true] at hv
      simp -dsimp only [↓WPd, ↓wpC_block, ↓wpC_cond, WPu, Bool.false_eq_true, Bool.true_eq_false, Bool.not_true, Bool.not_false, if_true, if_false, ite_true, ite_false, Nat.reduceEqDiff, Nat.reduceLT, true_and, List.map_cons, List.map_nil, Nat.zero_add, Nat.reduceBEq, hv, hyes]
      exact g0
theorem Own.name {σ : Store} {l : AVal} {ws : List Nm} (h : Own σ 2 l (NN ws)) (v : Nm) (hx : ws.length < 2 ^ 40) :
    ∃ l' σ', appendV σ 2 16 l [nmV v] = some (l', σ') ∧ Own σ' 2 l' (NN (ws ++ [v])) ∧ Keeps (fun i => l.sid = some i) σ σ' ∧ (∀ id, l'.sid = some id → l.sid = some id ∨ id = σ.length) ∧ NoLit l' := by
  obtain ⟨l', σ', a, b, c, e, f⟩ := h.append [nmV v] 16 (by simp only [List.length_map, List.length_singleton]; omega)
  exact ⟨l', σ', a, by simpa using b, c, e, f (.inr (by simp))⟩
end
end Go.Proofs.YtkjnanfkclijcaaDoor.Am

namespace Go.Proofs.YtkjnanfkclijcaaDoor.Am
open Go
set_option linter.unusedVariables false
set_option linter.unusedSimpArgs false
set_option linter.unusedSectionVars false
set_option maxRecDepth 100000
theorem cel_put (σ : Store) (c : Cel) : storeV (σ ++ [AObj.cells [.int .u8 0, .str [], .int .i64 0, .int .i64 0, .int .i64 0]]) 5 (.ptr σ.length 0) c.val = some (σ ++ [AObj.cells c.cs]) := by
  have h : (σ ++ [AObj.cells [.int .u8 0, .str [], .int .i64 0, .int .i64 0, .int .i64 0]])[σ.length]? = some (.cells [.int .u8 0, .str [], .int .i64 0, .int .i64 0, .int .i64 0]) := by simp
  have e : c.val = .agg c.cs := rfl
  rw [e, storeN_cells (cs' := c.cs) (n := 5) h rfl rfl rfl, set_last]
theorem cela_at {σ : Store} {l : AVal} {t : List Cel} (hl : SlOf σ 5 l (CC t)) {i : Nat} (hi : i < t.length) : iaddrV 5 l (.int .i64 i) = some (addrOf 5 l i) ∧ loadV σ 5 true (addrOf 5 l i) = some (t[i]).val := by
  have hi' : i < (CC t).length := by rw [List.length_map]; exact hi
  exact ⟨hl.iaddr hi' .i64, hl.loadA hi' (cs := (t[i]).cs) (by rw [cel_get]; rfl)⟩
theorem Terms.at0 {σ : Store} {l : AVal} {ts : List (List Cel)} (h : Terms σ l ts) {i : Nat} (hi : i < ts.length) : ∃ e, SlOf σ 5 e (CC ts[i]) ∧ ∀ σ', Grows σ σ' → iaddrV 1 l (.int .i64 i) = some (addrOf 1 l i) ∧ loadV σ' 1 false (addrOf 1 l i) = some e := by
  obtain ⟨es, h1, h2⟩ := h
  have hi' : i < es.length := by rw [h2.len]; exact hi
  obtain ⟨e, he1, he2⟩ := h2.get hi
  have hee : es[i] = e := by rw [List.getElem?_eq_getElem hi'] at he1; exact Option.some.inj he1
  refine ⟨e, he2, fun σ' g => ⟨h1.iaddr hi' .i64, ?_⟩⟩
  have := (h1.grow g).load1 hi' (by rw [hee]; exact he2.one) 1
  rw [hee] at this; exact this
section
variable (d : Nat) (σ : Store)
theorem vars_ok (lv : AVal) (ts : List (List Cel)) (hx : ts.flatten.length < 2 ^ 30) (hn : ts.length < 2 ^ 30) (hl : Terms σ lv ts) :
    Called CU.cfg d 85 [lv] σ fun r σ' => Grows σ σ' ∧ Own σ' 2 r (NN (varsL [] ts.flatten)) ∧ Fresh σ.length r := by
  refine called_of (fn := CU.a85) rfl (Nat.le_of_ble_eq_true rfl) ?_
  simp only [CU.a85]
  have ll := hl.len
  simp -dsimp only [↓WPd, ↓wpC_block, ↓wpC_cond, WPu, Bool.false_eq_true, Bool.true_eq_false, Bool.not_true, Bool.not_false, if_true, if_false, ite_true, ite_false, Nat.reduceEqDiff, Nat.reduceLT, true_and, List.map_cons, List.map_nil, Nat.zero_add, Nat.reduceBEq, ll]
  refine loop_rule2 (fun m vs σ' => ∃ k acc, k ≤ ts.length ∧ m = ts.length - k ∧ vs = [acc, lv, .int .i64 ts.length, .int .i64 k] ∧ Grows σ σ' ∧ Own σ' 2 acc (NN (varsL [] (ts.take k).flatten)) ∧ Fresh σ.length acc) [3]
    (fun e vs σ' => e = .exit 0 ∧ ∃ acc, vs = [acc] ∧ Grows σ σ' ∧ Own σ' 2 acc (NN (varsL [] ts.flatten)) ∧ Fresh σ.length acc) ts.length ⟨0, .nilslice, Nat.zero_le _, rfl, ?_, Keeps.refl _ _, Own.nil _ _, Fresh.nil _⟩ ?_ ?_
  · simp -dsimp only [↓WPd, ↓wpC_block, ↓wpC_cond, WPu, Bool.false_eq_true, Bool.true_eq_false, Bool.not_true, Bool.not_false, if_true, if_false, ite_true, ite_false, Nat.reduceEqDiff, Nat.reduceLT, true_and, List.map_cons, List.map_nil, Nat.zero_add, Nat.reduceBEq]; rfl
  · rintro m vs σ' ⟨k, acc, hk, rfl, rfl, g, ha, fa⟩
    simp -dsimp only [↓WPd, ↓wpC_block, ↓wpC_cond, WPu, Bool.false_eq_true, Bool.true_eq_false, Bool.not_true, Bool.not_false, if_true, if_false, ite_true, ite_false, Nat.reduceEqDiff, Nat.reduceLT, true_and, List.map_cons, List.map_nil, Nat.zero_add, Nat.reduceBEq]
    refine condP_dec (fun h => ?_) (fun h => ?_)
    · have hk' : k < ts.length := by omega
      obtain ⟨e, e3, e0⟩ := hl.at0 hk'
      obtain ⟨e1, e2⟩ := e0 σ' g
      have le := e3.len
      rw [List.length_map] at le
      have hf : (ts.take (k + 1)).flatten = (ts.take k).flatten ++ ts[k] := by
        rw [List.take_succ_eq_append_getElem hk', List.flatten_append]; simp only [List.flatten_cons, List.flatten_nil, List.append_nil]
      have hb := flat_le ts (k + 1)
      rw [hf, List.length_append] at hb
      simp -dsimp only [↓WPd, ↓wpC_block, ↓wpC_cond, WPu, Bool.false_eq_true, Bool.true_eq_false, Bool.not_true, Bool.not_false, if_true, if_false, ite_true, ite_false, Nat.reduceEqDiff, Nat.reduceLT, true_and, List.map_cons, List.map_nil, Nat.zero_add, Nat.reduceBEq, e1, e2, le]
      refine loop_rule2 (fun m vs σ2 => ∃ j acc, j ≤ (ts[k]).length ∧ m = (ts[k]).length - j ∧ vs = [acc, lv, .int .i64 ts.length, .int .i64 k, e, .int .i64 (ts[k]).length, .int .i64 j] ∧ Grows σ σ2 ∧ Own σ2 2 acc (NN (varsL [] ((ts.take k).flatten ++ (ts[k]).take j))) ∧ Fresh σ.length acc) [3, 8, 9, 10]
        (fun x vs σ2 => x = .exit 2 ∧ ∃ acc, vs = [acc, lv, .int .i64 ts.length, .int .i64 k] ∧ Grows σ σ2 ∧ Own σ2 2 acc (NN (varsL [] ((ts.take k).flatten ++ ts[k]))) ∧ Fresh σ.length acc) (ts[k]).length ⟨0, acc, Nat.zero_le _, rfl, ?_, g, by simpa using ha, fa⟩ ?_ ?_
      · simp -dsimp only [↓WPd, ↓wpC_block, ↓wpC_cond, WPu, Bool.false_eq_true, Bool.true_eq_false, Bool.not_true, Bool.not_false, if_true, if_false, ite_true, ite_false, Nat.reduceEqDiff, Nat.reduceLT, true_and, List.map_cons, List.map_nil, Nat.zero_add, Nat.reduceBEq]; rfl
      · rintro m vs σ2 ⟨j, acc, hj, rfl, rfl, g2, ha, fa⟩
        simp -dsimp only [↓WPd, ↓wpC_block, ↓wpC_cond, WPu, Bool.false_eq_true, Bool.true_eq_false, Bool.not_true, Bool.not_false, if_true, if_false, ite_true, ite_false, Nat.reduceEqDiff, Nat.reduceLT, true_and, List.map_cons, List.map_nil, Nat.zero_add, Nat.reduceBEq]
        refine condP_dec (fun h => ?_) (fun h => ?_)
        · have hj' : j < (ts[k]).length := by omega
          have he := e3.grow g2
          obtain ⟨a1, a2⟩ := cela_at he hj'
          have hv := varsL_snoc [] ((ts.take k).flatten ++ (ts[k]).take j) (ts[k])[j]
          rw [List.append_assoc, ← List.take_succ_eq_append_getElem hj'] at hv
          have hvl := varsL_len [] ((ts.take k).flatten ++ (ts[k]).take j)
          rw [List.length_append, List.length_take] at hvl
          simp only [List.length_nil] at hvl
          simp -dsimp only [↓WPd, ↓wpC_block, ↓wpC_cond, WPu, Bool.false_eq_true, Bool.true_eq_false, Bool.not_true, Bool.not_false, if_true, if_false, ite_true, ite_false, Nat.reduceEqDiff, Nat.reduceLT, true_and, List.map_cons, List.map_nil, Nat.zero_add, Nat.reduceBEq, a1, a2, cel_put]
          generalize hcc : (ts[k])[j] = c at *
          have oc : (σ2 ++ [AObj.cells c.cs])[σ2.length]? = some (.cells c.cs) := by simp
          have g3 : Grows σ2 (σ2 ++ [AObj.cells c.cs]) := Grows.app _ _
          have he3 := he.grow g3
          have ha3 := ha.grow g3
          have gg := g2.trans g3
          generalize σ2 ++ [AObj.cells c.cs] = σ3 at oc g3 he3 ha3 gg
          generalize σ2.length = ic at oc
          have k4 : ((c.k : Int) == 4) = decide (c.k = 4) := by by_cases h : c.k = 4 <;> simp [h] <;> omega
          simp -dsimp only [↓WPd, ↓wpC_block, ↓wpC_cond, WPu, Bool.false_eq_true, Bool.true_eq_false, Bool.not_true, Bool.not_false, if_true, if_false, ite_true, ite_false, Nat.reduceEqDiff, Nat.reduceLT, true_and, List.map_cons, List.map_nil, Nat.zero_add, Nat.reduceBEq, faddr_ptr, Nat.add_zero, load_cells oc, Cel.g0, k4]
          by_cases h4 : c.k = 4
          · simp -dsimp only [↓WPd, ↓wpC_block, ↓wpC_cond, WPu, Bool.false_eq_true, Bool.true_eq_false, Bool.not_true, Bool.not_false, if_true, if_false, ite_true, ite_false, Nat.reduceEqDiff, Nat.reduceLT, true_and, List.map_cons, List.map_nil, Nat.zero_add, Nat.reduceBEq, decide_eq_true h4, faddr_ptr, Nat.zero_add, celvar_load oc]
            refine calledW_of (ncontains_ok d σ3 acc _ c.v (by omega) ha3.sl) ?_
            rintro r σ4 ⟨rfl, g4⟩
            have oc4 := g4.get oc
            have he4 := he3.grow g4
            have ha4 := ha3.grow g4
            simp -dsimp only [↓WPd, ↓wpC_block, ↓wpC_cond, WPu, Bool.false_eq_true, Bool.true_eq_false, Bool.not_true, Bool.not_false, if_true, if_false, ite_true, ite_false, Nat.reduceEqDiff, Nat.reduceLT, true_and, List.map_cons, List.map_nil, Nat.zero_add, Nat.reduceBEq]
            rw [if_pos h4, addN] at hv
            refine condP_intro (fun hc => ?_) (fun hc => ?_)
            · simp only [Bool.not_eq_true'] at hc
              rw [hc, if_neg (by simp)] at hv
              obtain ⟨l', σ5, p1, p2, p3, p4, p5⟩ := ha4.name c.v (by omega)
              simp -dsimp only [↓WPd, ↓wpC_block, ↓wpC_cond, WPu, Bool.false_eq_true, Bool.true_eq_false, Bool.not_true, Bool.not_false, if_true, if_false, ite_true, ite_false, Nat.reduceEqDiff, Nat.reduceLT, true_and, List.map_cons, List.map_nil, Nat.zero_add, Nat.reduceBEq, faddr_ptr, Nat.add_zero, celvar_load oc4, nm_lit, elems2, p1]
              refine ⟨(ts[k]).length - (j + 1), by omega, j + 1, l', by omega, rfl, by rw [wrap_i64 (by omega) (by omega), Int.natCast_add, Int.natCast_one], ?_, ?_, ?_⟩
              · exact Keeps.trans (gg.trans g4) p3 fun i hi e => by have := fa i e; omega
              · rw [hv]; exact p2
              · intro i hi
                rcases p4 i hi with e | e
                · exact fa i e
                · have := (gg.trans g4).1; omega
            · simp only [Bool.not_eq_false'] at hc
              rw [hc, if_pos rfl] at hv
              simp -dsimp only [↓WPd, ↓wpC_block, ↓wpC_cond, WPu, Bool.false_eq_true, Bool.true_eq_false, Bool.not_true, Bool.not_false, if_true, if_false, ite_true, ite_false, Nat.reduceEqDiff, Nat.reduceLT, true_and, List.map_cons, List.map_nil, Nat.zero_add, Nat.reduceBEq]
              refine ⟨(ts[k]).length - (j + 1), by omega, j + 1, acc, by omega, rfl, by rw [wrap_i64 (by omega) (by omega), Int.natCast_add, Int.natCast_one], gg.trans g4, ?_, fa⟩
              rw [hv]; exact ha4
          · rw [if_neg h4] at hv
            simp -dsimp only [↓WPd, ↓wpC_block, ↓wpC_cond, WPu, Bool.false_eq_true, Bool.true_eq_false, Bool.not_true, Bool.not_false, if_true, if_false, ite_true, ite_false, Nat.reduceEqDiff, Nat.reduceLT, true_and, List.map_cons, List.map_nil, Nat.zero_add, Nat.reduceBEq, decide_eq_false h4]
            refine ⟨(ts[k]).length - (j + 1), by omega, j + 1, acc, by omega, rfl, by rw [wrap_i64 (by omega) (by omega), Int.natCast_add, Int.natCast_one], gg, ?_, fa⟩
            rw [hv]; exact ha3
        · have : j = (ts[k]).length := by omega
          subst this
          rw [List.take_length] at ha
          simp -dsimp only [↓WPd, ↓wpC_block, ↓wpC_cond, WPu, Bool.false_eq_true, Bool.true_eq_false, Bool.not_true, Bool.not_false, if_true, if_false, ite_true, ite_false, Nat.reduceEqDiff, Nat.reduceLT, true_and, List.map_cons, List.map_nil, Nat.zero_add, Nat.reduceBEq]
          exact ⟨acc, rfl, g2, ha, fa⟩
      · rintro x σ2 env ⟨rfl, acc, hv, g2, ha, fa⟩
        simp only [List.map_cons, List.map_nil, List.cons.injEq, and_true] at hv
        obtain ⟨v1, v2, v3, v4⟩ := hv
        simp -dsimp only [↓WPd, ↓wpC_block, ↓wpC_cond, WPu, Bool.false_eq_true, Bool.true_eq_false, Bool.not_true, Bool.not_false, if_true, if_false, ite_true, ite_false, Nat.reduceEqDiff, Nat.reduceLT, true_and, List.map_cons, List.map_nil, Nat.zero_add, Nat.reduceBEq, v1, v2, v3, v4]
        refine ⟨ts.length - (k + 1), by omega, k + 1, acc, by omega, rfl, by rw [wrap_i64 (by omega) (by omega), Int.natCast_add, Int.natCast_one], g2, ?_, fa⟩
        rw [hf]; exact ha
    · have : k = ts.length := by omega
      subst this
      rw [List.take_length] at ha
      simp -dsimp only [↓WPd, ↓wpC_block, ↓wpC_cond, WPu, Bool.false_eq_true, Bool.true_eq_false, Bool.not_true, Bool.not_false, if_true, if_false, ite_true, ite_false, Nat.reduceEqDiff, Nat.reduceLT, true_and, List.map_cons, List.map_nil, Nat.zero_add, Nat.reduceBEq]
      exact ⟨acc, rfl, g, ha, fa⟩
  · rintro e σ' env ⟨rfl, acc, hv, g, ha, fa⟩
    simp only [List.map_cons, List.map_nil, List.cons.injEq, and_true] at hv
    simp -dsimp only [↓WPd, ↓wpC_block, ↓wpC_cond, WPu, Bool.false_eq_true, Bool.true_eq_false, Bool.not_true, Bool.not_false, if_true, if_false, ite_true, ite_false, Nat.reduceEqDiff, Nat.reduceLT, true_and, List.map_cons, List.map_nil, Nat.zero_add, Nat.reduceBEq, hv]
    exact ⟨g, ha, fa⟩
theorem rvars_ok (lv : AVal) (ts : List (List Cel)) (hx : ts.flatten.length < 2 ^ 30) (hn : ts.length < 2 ^ 30) (hl : Terms σ lv ts) :
    Called CU.cfg d 103 [lv] σ fun r σ' => Grows σ σ' ∧ Own σ' 2 r (NN (varsL [] ts.flatten)) ∧ Fresh σ.length r := by
  refine called_of (fn := CU.a103) rfl (Nat.le_of_ble_eq_true rfl) ?_
  simp only [CU.a103]
  have ll := hl.len
  simp -dsimp only [↓WPd, ↓wpC_block, ↓wpC_cond, WPu, Bool.false_eq_true, Bool.true_eq_false, Bool.not_true, Bool.not_false, if_true, if_false, ite_true, ite_false, Nat.reduceEqDiff, Nat.reduceLT, true_and, List.map_cons, List.map_nil, Nat.zero_add, Nat.reduceBEq, ll]
  refine loop_rule2 (fun m vs σ' => ∃ k acc, k ≤ ts.length ∧ m = ts.length - k ∧ vs = [lv, acc, .int .i64 k] ∧ Grows σ σ' ∧ Own σ' 2 acc (NN (varsL [] (ts.take k).flatten)) ∧ Fresh σ.length acc) [3]
    (fun e vs σ' => e = .exit 0 ∧ ∃ acc, vs = [acc] ∧ Grows σ σ' ∧ Own σ' 2 acc (NN (varsL [] ts.flatten)) ∧ Fresh σ.length acc) ts.length ⟨0, .nilslice, Nat.zero_le _, rfl, ?_, Keeps.refl _ _, Own.nil _ _, Fresh.nil _⟩ ?_ ?_
  · simp -dsimp only [↓WPd, ↓wpC_block, ↓wpC_cond, WPu, Bool.false_eq_true, Bool.true_eq_false, Bool.not_true, Bool.not_false, if_true, if_false, ite_true, ite_false, Nat.reduceEqDiff, Nat.reduceLT, true_and, List.map_cons, List.map_nil, Nat.zero_add, Nat.reduceBEq]; rfl
  · rintro m vs σ' ⟨k, acc, hk, rfl, rfl, g, ha, fa⟩
    simp -dsimp only [↓WPd, ↓wpC_block, ↓wpC_cond, WPu, Bool.false_eq_true, Bool.true_eq_false, Bool.not_true, Bool.not_false, if_true, if_false, ite_true, ite_false, Nat.reduceEqDiff, Nat.reduceLT, true_and, List.map_cons, List.map_nil, Nat.zero_add, Nat.reduceBEq, ll]
    refine condP_dec (fun h => ?_) (fun h => ?_)
    · have hk' : k < ts.length := by omega
      obtain ⟨e, e3, e0⟩ := hl.at0 hk'
      obtain ⟨e1, e2⟩ := e0 σ' g
      have le := e3.len
      rw [List.length_map] at le
      have hf : (ts.take (k + 1)).flatten = (ts.take k).flatten ++ ts[k] := by
        rw [List.take_succ_eq_append_getElem hk', List.flatten_append]; simp only [List.flatten_cons, List.flatten_nil, List.append_nil]
      have hb := flat_le ts (k + 1)
      rw [hf, List.length_append] at hb
      simp -dsimp only [↓WPd, ↓wpC_block, ↓wpC_cond, WPu, Bool.false_eq_true, Bool.true_eq_false, Bool.not_true, Bool.not_false, if_true, if_false, ite_true, ite_false, Nat.reduceEqDiff, Nat.reduceLT, true_and, List.map_cons, List.map_nil, Nat.zero_add, Nat.reduceBEq]
      refine loop_rule2 (fun m vs σ2 => ∃ j acc, j ≤ (ts[k]).length ∧ m = (ts[k]).length - j ∧ vs = [lv, acc, .int .i64 k, .int .i64 j] ∧ Grows σ σ2 ∧ Own σ2 2 acc (NN (varsL [] ((ts.take k).flatten ++ (ts[k]).take j))) ∧ Fresh σ.length acc) [0, 3, 4]
        (fun x vs σ2 => x = .exit 2 ∧ ∃ acc, vs = [lv, acc, .int .i64 k] ∧ Grows σ σ2 ∧ Own σ2 2 acc (NN (varsL [] ((ts.take k).flatten ++ ts[k]))) ∧ Fresh σ.length acc) (ts[k]).length ⟨0, acc, Nat.zero_le _, rfl, ?_, g, by simpa using ha, fa⟩ ?_ ?_
      · simp -dsimp only [↓WPd, ↓wpC_block, ↓wpC_cond, WPu, Bool.false_eq_true, Bool.true_eq_false, Bool.not_true, Bool.not_false, if_true, if_false, ite_true, ite_false, Nat.reduceEqDiff, Nat.reduceLT, true_and, List.map_cons, List.map_nil, Nat.zero_add, Nat.reduceBEq]; rfl
      · rintro m vs σ2 ⟨j, acc, hj, rfl, rfl, g2, ha, fa⟩
        obtain ⟨b1, b2⟩ := e0 σ2 g2
        simp -dsimp only [↓WPd, ↓wpC_block, ↓wpC_cond, WPu, Bool.false_eq_true, Bool.true_eq_false, Bool.not_true, Bool.not_false, if_true, if_false, ite_true, ite_false, Nat.reduceEqDiff, Nat.reduceLT, true_and, List.map_cons, List.map_nil, Nat.zero_add, Nat.reduceBEq, b1, b2, le]
        refine condP_dec (fun h => ?_) (fun h => ?_)
        · have hj' : j < (ts[k]).length := by omega
          have he := e3.grow g2
          obtain ⟨a1, a2⟩ := cela_at he hj'
          have hv := varsL_snoc [] ((ts.take k).flatten ++ (ts[k]).take j) (ts[k])[j]
          rw [List.append_assoc, ← List.take_succ_eq_append_getElem hj'] at hv
          have hvl := varsL_len [] ((ts.take k).flatten ++ (ts[k]).take j)
          rw [List.length_append, List.length_take] at hvl
          simp only [List.length_nil] at hvl
          simp -dsimp only [↓WPd, ↓wpC_block, ↓wpC_cond, WPu, Bool.false_eq_true, Bool.true_eq_false, Bool.not_true, Bool.not_false, if_true, if_false, ite_true, ite_false, Nat.reduceEqDiff, Nat.reduceLT, true_and, List.map_cons, List.map_nil, Nat.zero_add, Nat.reduceBEq, b1, b2, a1, a2, cel_put]
          generalize hcc : (ts[k])[j] = c at *
          have oc : (σ2 ++ [AObj.cells c.cs])[σ2.length]? = some (.cells c.cs) := by simp
          have g3 : Grows σ2 (σ2 ++ [AObj.cells c.cs]) := Grows.app _ _
          have he3 := he.grow g3
          have ha3 := ha.grow g3
          have gg := g2.trans g3
          generalize σ2 ++ [AObj.cells c.cs] = σ3 at oc g3 he3 ha3 gg
          generalize σ2.length = ic at oc
          have k4 : ((c.k : Int) == 4) = decide (c.k = 4) := by by_cases h : c.k = 4 <;> simp [h] <;> omega
          simp -dsimp only [↓WPd, ↓wpC_block, ↓wpC_cond, WPu, Bool.false_eq_true, Bool.true_eq_false, Bool.not_true, Bool.not_false, if_true, if_false, ite_true, ite_false, Nat.reduceEqDiff, Nat.reduceLT, true_and, List.map_cons, List.map_nil, Nat.zero_add, Nat.reduceBEq, faddr_ptr, Nat.add_zero, load_cells oc, Cel.g0, k4]
          by_cases h4 : c.k = 4
          · simp -dsimp only [↓WPd, ↓wpC_block, ↓wpC_cond, WPu, Bool.false_eq_true, Bool.true_eq_false, Bool.not_true, Bool.not_false, if_true, if_false, ite_true, ite_false, Nat.reduceEqDiff, Nat.reduceLT, true_and, List.map_cons, List.map_nil, Nat.zero_add, Nat.reduceBEq, decide_eq_true h4, faddr_ptr, Nat.zero_add, celvar_load oc]
            refine calledW_of (hasname_ok d σ3 acc _ c.v (by omega) ha3.sl) ?_
            rintro r σ4 ⟨rfl, g4⟩
            have oc4 := g4.get oc
            have he4 := he3.grow g4
            have ha4 := ha3.grow g4
            simp -dsimp only [↓WPd, ↓wpC_block, ↓wpC_cond, WPu, Bool.false_eq_true, Bool.true_eq_false, Bool.not_true, Bool.not_false, if_true, if_false, ite_true, ite_false, Nat.reduceEqDiff, Nat.reduceLT, true_and, List.map_cons, List.map_nil, Nat.zero_add, Nat.reduceBEq]
            rw [if_pos h4, addN] at hv
            refine condP_intro (fun hc => ?_) (fun hc => ?_)
            · simp only [Bool.not_eq_true'] at hc
              rw [hc, if_neg (by simp)] at hv
              obtain ⟨l', σ5, p1, p2, p3, p4, p5⟩ := ha4.name c.v (by omega)
              simp -dsimp only [↓WPd, ↓wpC_block, ↓wpC_cond, WPu, Bool.false_eq_true, Bool.true_eq_false, Bool.not_true, Bool.not_false, if_true, if_false, ite_true, ite_false, Nat.reduceEqDiff, Nat.reduceLT, true_and, List.map_cons, List.map_nil, Nat.zero_add, Nat.reduceBEq, faddr_ptr, Nat.add_zero, celvar_load oc4, nm_lit, elems2, p1]
              refine ⟨(ts[k]).length - (j + 1), by omega, j + 1, l', by omega, rfl, by rw [wrap_i64 (by omega) (by omega), Int.natCast_add, Int.natCast_one], ?_, ?_, ?_⟩
              · exact Keeps.trans (gg.trans g4) p3 fun i hi e => by have := fa i e; omega
              · rw [hv]; exact p2
              · intro i hi
                rcases p4 i hi with e | e
                · exact fa i e
                · have := (gg.trans g4).1; omega
            · simp only [Bool.not_eq_false'] at hc
              rw [hc, if_pos rfl] at hv
              simp -dsimp only [↓WPd, ↓wpC_block, ↓wpC_cond, WPu, Bool.false_eq_true, Bool.true_eq_false, Bool.not_true, Bool.not_false, if_true, if_false, ite_true, ite_false, Nat.reduceEqDiff, Nat.reduceLT, true_and, List.map_cons, List.map_nil, Nat.zero_add, Nat.reduceBEq]
              refine ⟨(ts[k]).length - (j + 1), by omega, j + 1, acc, by omega, rfl, by rw [wrap_i64 (by omega) (by omega), Int.natCast_add, Int.natCast_one], gg.trans g4, ?_, fa⟩
              rw [hv]; exact ha4
          · rw [if_neg h4] at hv
            simp -dsimp only [↓WPd, ↓wpC_block, ↓wpC_cond, WPu, Bool.false_eq_true, Bool.true_eq_false, Bool.not_true, Bool.not_false, if_true, if_false, ite_true, ite_false, Nat.reduceEqDiff, Nat.reduceLT, true_and, List.map_cons, List.map_nil, Nat.zero_add, Nat.reduceBEq, decide_eq_false h4]
            refine ⟨(ts[k]).length - (j + 1), by omega, j + 1, acc, by omega, rfl, by rw [wrap_i64 (by omega) (by omega), Int.natCast_add, Int.natCast_one], gg, ?_, fa⟩
            rw [hv]; exact ha3
        · have : j = (ts[k]).length := by omega
          subst this
          rw [List.take_length] at ha
          simp -dsimp only [↓WPd, ↓wpC_block, ↓wpC_cond, WPu, Bool.false_eq_true, Bool.true_eq_false, Bool.not_true, Bool.not_false, if_true, if_false, ite_true, ite_false, Nat.reduceEqDiff, Nat.reduceLT, true_and, List.map_cons, List.map_nil, Nat.zero_add, Nat.reduceBEq]
          exact ⟨acc, rfl, g2, ha, fa⟩
      · rintro x σ2 env ⟨rfl, acc, hv, g2, ha, fa⟩
        simp only [List.map_cons, List.map_nil, List.cons.injEq, and_true] at hv
        obtain ⟨v1, v2, v3⟩ := hv
        simp -dsimp only [↓WPd, ↓wpC_block, ↓wpC_cond, WPu, Bool.false_eq_true, Bool.true_eq_false, Bool.not_true, Bool.not_false, if_true, if_false, ite_true, ite_false, Nat.reduceEqDiff, Nat.reduceLT, true_and, List.map_cons, List.map_nil, Nat.zero_add, Nat.reduceBEq, v1, v2, v3]
        refine ⟨ts.length - (k + 1), by omega, k + 1, acc, by omega, rfl, by rw [wrap_i64 (by omega) (by omega), Int.natCast_add, Int.natCast_one], g2, ?_, fa⟩
        rw [hf]; exact ha
    · have : k = ts.length := by omega
      subst this
      rw [List.take_length] at ha
      simp -dsimp only [↓WPd, ↓wpC_block, ↓wpC_cond, WPu, Bool.false_eq_true, Bool.true_eq_false, Bool.not_true, Bool.not_false, if_true, if_false, ite_true, ite_false, Nat.reduceEqDiff, Nat.reduceLT, true_and, List.map_cons, List.map_nil, Nat.zero_add, Nat.reduceBEq]
      exact ⟨acc, rfl, g, ha, fa⟩
  · rintro e σ' env ⟨rfl, acc, hv, g, ha, fa⟩
    simp only [List.map_cons, List.map_nil, List.cons.injEq, and_true] at hv
    simp -dsimp only [↓WPd, ↓wpC_block, ↓wpC_cond, WPu, Bool.false_eq_true, Bool.true_eq_false, Bool.not_true, Bool.not_false, if_true, if_false, ite_true, ite_false, Nat.reduceEqDiff, Nat.reduceLT, true_and, List.map_cons, List.map_nil, Nat.zero_add, Nat.reduceBEq, hv]
    exact ⟨g, ha, fa⟩
end
end Go.Proofs.YtkjnanfkclijcaaDoor.Am

namespace Go.Proofs.YtkjnanfkclijcaaDoor.Am
open Go
set_option linter.unusedVariables false
set_option linter.unusedSimpArgs false
set_option linter.unusedSectionVars false
set_option maxRecDepth 100000
def tryC (k : Nat) (lv wv : AVal) : List AVal := [.int .u8 k, .int .i64 (-1), lv, wv]
abbrev tryZ : List AVal := [.int .u8 0, .int .i64 0, .nilslice, .nilslice]
theorem try_put {σ σ' : Store} {i : Nat} {k : Nat} {lv wv : AVal} (h : σ[i]? = some (.cells tryZ)) (hl : lv.one = true) (hw : wv.one = true) :
    storeV σ 4 (.ptr i 0) (.agg (tryC k lv wv)) = some (σ.set i (.cells (tryC k lv wv))) ∧ loadV (σ.set i (.cells (tryC k lv wv))) 4 true (.ptr i 0) = some (.agg (tryC k lv wv)) := by
  refine ⟨storeN_cells (n := 4) (cs' := tryC k lv wv) h rfl rfl ?_, loadN_cells (get_set h) rfl⟩
  simp only [tryC, List.all_cons, List.all_nil, hl, hw]; rfl
theorem try_fails : fillA tryZ [(0, 1, AVal.int .u8 2), (1, 1, AVal.int .i64 (-1))] = some (tryC 2 .nilslice .nilslice) := rfl
theorem try_waits {l : AVal} (h : l.one = true) : fillA tryZ [(0, 1, AVal.int .u8 3), (1, 1, AVal.int .i64 (-1)), (3, 1, l)] = some (tryC 3 .nilslice l) := by
  have hc : l.cells = [l] := by cases l <;> simp_all [AVal.one]
  have h1 : [l].all AVal.one = true := by simp only [List.all_cons, List.all_nil, h]; rfl
  simp only [fillA, hc, h1]
  rfl
theorem try_commits {l : AVal} (h : l.one = true) : fillA tryZ [(0, 1, AVal.int .u8 1), (1, 1, AVal.int .i64 (-1)), (2, 1, l)] = some (tryC 1 l .nilslice) := by
  have hc : l.cells = [l] := by cases l <;> simp_all [AVal.one]
  have h1 : [l].all AVal.one = true := by simp only [List.all_cons, List.all_nil, h]; rfl
  simp only [fillA, hc, h1]
  rfl
theorem nm_put (σ : Store) (v : Nm) : storeV (σ ++ [AObj.cells [.int .i64 0, .int .i64 0]]) 2 (.ptr σ.length 0) (nmV v) = some (σ ++ [AObj.cells (nmC v)]) := by
  have h : (σ ++ [AObj.cells [.int .i64 0, .int .i64 0]])[σ.length]? = some (.cells [.int .i64 0, .int .i64 0]) := by simp
  rw [nm_agg, storeN_cells (cs' := nmC v) (n := 2) h rfl rfl rfl, set_last]
theorem res_nil (fr : List AVal) (σ : Store) : resultsA [] (fr, σ) = some (.tuple []) := by simp only [resultsA, mapO]
section
variable (d : Nat) (σ : Store)
theorem fails_ok : Called CU.cfg d 129 [] σ fun r σ' => r = .agg (tryC 2 .nilslice .nilslice) ∧ Grows σ σ' := by
  refine called_of (fn := CU.a129) rfl (Nat.le_of_ble_eq_true rfl) ?_
  simp only [CU.a129]
  have ho : (σ ++ [AObj.cells tryZ])[σ.length]? = some (.cells tryZ) := by simp
  obtain ⟨p1, p2⟩ := try_put (σ' := σ) (k := 2) (lv := .nilslice) (wv := .nilslice) ho rfl rfl
  simp -dsimp only [↓WPd, ↓wpC_block, ↓wpC_cond, WPu, Bool.false_eq_true, Bool.true_eq_false, Bool.not_true, Bool.not_false, if_true, if_false, ite_true, ite_false, Nat.reduceEqDiff, Nat.reduceLT, true_and, List.map_cons, List.map_nil, Nat.zero_add, Nat.reduceBEq, try_fails, p1, p2]
  rw [set_last]; exact Grows.app _ _
theorem waits_ok (l : AVal) (hl : l.one = true) : Called CU.cfg d 132 [l] σ fun r σ' => r = .agg (tryC 3 .nilslice l) ∧ Grows σ σ' := by
  refine called_of (fn := CU.a132) rfl (Nat.le_of_ble_eq_true rfl) ?_
  simp only [CU.a132]
  have ho : (σ ++ [AObj.cells tryZ])[σ.length]? = some (.cells tryZ) := by simp
  obtain ⟨p1, p2⟩ := try_put (σ' := σ) (k := 3) (lv := .nilslice) (wv := l) ho rfl hl
  simp -dsimp only [↓WPd, ↓wpC_block, ↓wpC_cond, WPu, Bool.false_eq_true, Bool.true_eq_false, Bool.not_true, Bool.not_false, if_true, if_false, ite_true, ite_false, Nat.reduceEqDiff, Nat.reduceLT, true_and, List.map_cons, List.map_nil, Nat.zero_add, Nat.reduceBEq, try_waits hl, p1, p2]
  rw [set_last]; exact Grows.app _ _
theorem rfails_ok : Called CU.cfg d 134 [] σ fun r σ' => r = .agg (tryC 2 .nilslice .nilslice) ∧ Grows σ σ' := by
  refine called_of (fn := CU.a134) rfl (Nat.le_of_ble_eq_true rfl) ?_
  simp only [CU.a134]
  have ho : (σ ++ [AObj.cells tryZ])[σ.length]? = some (.cells tryZ) := by simp
  obtain ⟨p1, p2⟩ := try_put (σ' := σ) (k := 2) (lv := .nilslice) (wv := .nilslice) ho rfl rfl
  simp -dsimp only [↓WPd, ↓wpC_block, ↓wpC_cond, WPu, Bool.false_eq_true, Bool.true_eq_false, Bool.not_true, Bool.not_false, if_true, if_false, ite_true, ite_false, Nat.reduceEqDiff, Nat.reduceLT, true_and, List.map_cons, List.map_nil, Nat.zero_add, Nat.reduceBEq, try_fails, p1, p2]
  rw [set_last]; exact Grows.app _ _
theorem rwaits_ok (l : AVal) (hl : l.one = true) : Called CU.cfg d 135 [l] σ fun r σ' => r = .agg (tryC 3 .nilslice l) ∧ Grows σ σ' := by
  refine called_of (fn := CU.a135) rfl (Nat.le_of_ble_eq_true rfl) ?_
  simp only [CU.a135]
  have ho : (σ ++ [AObj.cells tryZ])[σ.length]? = some (.cells tryZ) := by simp
  obtain ⟨p1, p2⟩ := try_put (σ' := σ) (k := 3) (lv := .nilslice) (wv := l) ho rfl hl
  simp -dsimp only [↓WPd, ↓wpC_block, ↓wpC_cond, WPu, Bool.false_eq_true, Bool.true_eq_false, Bool.not_true, Bool.not_false, if_true, if_false, ite_true, ite_false, Nat.reduceEqDiff, Nat.reduceLT, true_and, List.map_cons, List.map_nil, Nat.zero_add, Nat.reduceBEq, try_waits hl, p1, p2]
  rw [set_last]; exact Grows.app _ _
theorem note_ok (id : Nat) (nv lv : AVal) (rest : List AVal) (ws : List Nm) (v : Nm) (ho : σ[id]? = some (.cells (nv :: rest))) (hn : Own σ 2 nv (NN ws)) (hx : ws.length < 2 ^ 36) (hl : ∀ σ' : Store, SlOf σ' 2 lv (NN [v])) :
    Called CU.cfg d 131 [.ptr id 0, lv] σ fun r σ' => ∃ nv', σ'[id]? = some (.cells (nv' :: rest)) ∧ Own σ' 2 nv' (NN (addN ws v)) ∧ Keeps (fun i => i = id ∨ nv.sid = some i) σ σ' ∧ (∀ i, nv'.sid = some i → nv.sid = some i ∨ σ.length ≤ i) := by
  refine called_of (fn := CU.a131) rfl (Nat.le_of_ble_eq_true rfl) ?_
  simp only [CU.a131]
  have ll := names_len (hl σ)
  have l1 : ([v] : List Nm).length = 1 := rfl
  rw [l1] at ll
  have hne := hn.noCell ho
  simp -dsimp only [↓WPd, ↓wpC_block, ↓wpC_cond, WPu, Bool.false_eq_true, Bool.true_eq_false, Bool.not_true, Bool.not_false, if_true, if_false, ite_true, ite_false, Nat.reduceEqDiff, Nat.reduceLT, true_and, List.map_cons, List.map_nil, Nat.zero_add, Nat.reduceBEq, ll]
  refine loop_rule2 (fun m vs σ' => (m = 1 ∧ σ' = σ ∧ vs = [.ptr id 0, lv, .int .i64 ((1 : Nat) : Int), .int .i64 ((0 : Nat) : Int)]) ∨ (m = 0 ∧ vs = [.ptr id 0, lv, .int .i64 ((1 : Nat) : Int), .int .i64 ((1 : Nat) : Int)] ∧ ∃ nv', σ'[id]? = some (.cells (nv' :: rest)) ∧ Own σ' 2 nv' (NN (addN ws v)) ∧ Keeps (fun i => i = id ∨ nv.sid = some i) σ σ' ∧ (∀ i, nv'.sid = some i → nv.sid = some i ∨ σ.length ≤ i)))
    [] (fun e vs σ' => e = .exit 0 ∧ ∃ nv', σ'[id]? = some (.cells (nv' :: rest)) ∧ Own σ' 2 nv' (NN (addN ws v)) ∧ Keeps (fun i => i = id ∨ nv.sid = some i) σ σ' ∧ (∀ i, nv'.sid = some i → nv.sid = some i ∨ σ.length ≤ i)) 1 (.inl ⟨rfl, rfl, ?_⟩) ?_ ?_
  · simp -dsimp only [↓WPd, ↓wpC_block, ↓wpC_cond, WPu, Bool.false_eq_true, Bool.true_eq_false, Bool.not_true, Bool.not_false, if_true, if_false, ite_true, ite_false, Nat.reduceEqDiff, Nat.reduceLT, true_and, List.map_cons, List.map_nil, Nat.zero_add, Nat.reduceBEq]; rfl
  · rintro m vs σ' (⟨rfl, rfl, rfl⟩ | ⟨rfl, rfl, nv', w⟩)
    · have h01 : decide (((0 : Nat) : Int) < ((1 : Nat) : Int)) = true := by simp
      obtain ⟨a1, a2⟩ := names_at (hl σ') (i := 0) (by simp)
      have a3 : ([v] : List Nm)[0] = v := rfl
      rw [a3] at a2
      have e0 : (nv :: rest)[0]? = some nv := rfl
      simp -dsimp only [↓WPd, ↓wpC_block, ↓wpC_cond, WPu, Bool.false_eq_true, Bool.true_eq_false, Bool.not_true, Bool.not_false, if_true, if_false, ite_true, ite_false, Nat.reduceEqDiff, Nat.reduceLT, true_and, List.map_cons, List.map_nil, Nat.zero_add, Nat.reduceBEq, h01, a1, a2, nm_put]
      have ov : (σ' ++ [AObj.cells (nmC v)])[σ'.length]? = some (.cells (nmC v)) := by simp
      have g1 : Grows σ' (σ' ++ [AObj.cells (nmC v)]) := Grows.app _ _
      have ho1 := g1.get ho
      have hn1 := hn.grow g1
      generalize σ' ++ [AObj.cells (nmC v)] = σ1 at ov g1 ho1 hn1
      generalize hi1 : σ'.length = i1 at ov
      simp -dsimp only [↓WPd, ↓wpC_block, ↓wpC_cond, WPu, Bool.false_eq_true, Bool.true_eq_false, Bool.not_true, Bool.not_false, if_true, if_false, ite_true, ite_false, Nat.reduceEqDiff, Nat.reduceLT, true_and, List.map_cons, List.map_nil, Nat.zero_add, Nat.reduceBEq, isnil_ptr, faddr_ptr, Nat.add_zero, load_cells ho1, e0, load_nm ov]
      refine calledW_of (ncontains_ok d σ1 nv ws v (by omega) hn1.sl) ?_
      rintro r σ2 ⟨rfl, g2⟩
      have ho2 := g2.get ho1
      have ov2 := g2.get ov
      have hn2 := hn1.grow g2
      have g12 := g1.trans g2
      have w1 : IntKind.i64.wrap (((0 : Nat) : Int) + 1) = ((1 : Nat) : Int) := by decide
      simp -dsimp only [↓WPd, ↓wpC_block, ↓wpC_cond, WPu, Bool.false_eq_true, Bool.true_eq_false, Bool.not_true, Bool.not_false, if_true, if_false, ite_true, ite_false, Nat.reduceEqDiff, Nat.reduceLT, true_and, List.map_cons, List.map_nil, Nat.zero_add, Nat.reduceBEq]
      cases hc : ws.contains v with
      | true =>
        have : addN ws v = ws := by rw [addN, hc, if_pos rfl]
        simp -dsimp only [↓WPd, ↓wpC_block, ↓wpC_cond, WPu, Bool.false_eq_true, Bool.true_eq_false, Bool.not_true, Bool.not_false, if_true, if_false, ite_true, ite_false, Nat.reduceEqDiff, Nat.reduceLT, true_and, List.map_cons, List.map_nil, Nat.zero_add, Nat.reduceBEq, w1]
        refine ⟨0, by omega, ?_⟩
        rw [this]
        exact .inr ⟨rfl, nv, ho2, hn2, g12.any, fun i hi => .inl hi⟩
      | false =>
        have : addN ws v = ws ++ [v] := by rw [addN, hc, if_neg (by simp)]
        obtain ⟨l', σ3, p1, p2, p3, p4, p5⟩ := hn2.name v (by omega)
        have ho3 := p3.get ho2 hne
        have st := store_cells ho3 (off := 0) (v := l') (by simp) p2.one
        have e1 : (nv :: rest).set 0 l' = l' :: rest := rfl
        rw [e1] at st
        simp -dsimp only [↓WPd, ↓wpC_block, ↓wpC_cond, WPu, Bool.false_eq_true, Bool.true_eq_false, Bool.not_true, Bool.not_false, if_true, if_false, ite_true, ite_false, Nat.reduceEqDiff, Nat.reduceLT, true_and, List.map_cons, List.map_nil, Nat.zero_add, Nat.reduceBEq, isnil_ptr, faddr_ptr, Nat.add_zero, load_cells ho2, e0, load_nm ov2, nm_lit, elems2, p1, st, w1]
        refine ⟨0, by omega, ?_⟩
        rw [this]
        refine .inr ⟨rfl, l', get_set ho3, p2.keeps (Keeps.set _ _ _) fun i hi e => by rw [e] at hi; exact p2.noCell ho3 hi, ?_, fun i hi => ?_⟩
        · exact Keeps.trans (Keeps.trans g12.any p3 fun i _ h => .inr h) (Keeps.set _ _ _) fun i _ h => .inl h
        · rcases p4 i hi with e | e
          · exact .inl e
          · have := g12.1; exact .inr (by omega)
    · have h11 : decide (((1 : Nat) : Int) < ((1 : Nat) : Int)) = false := by simp
      simp -dsimp only [↓WPd, ↓wpC_block, ↓wpC_cond, WPu, Bool.false_eq_true, Bool.true_eq_false, Bool.not_true, Bool.not_false, if_true, if_false, ite_true, ite_false, Nat.reduceEqDiff, Nat.reduceLT, true_and, List.map_cons, List.map_nil, Nat.zero_add, Nat.reduceBEq, h11]
      exact ⟨nv', w⟩
  · rintro e σ' env ⟨rfl, w⟩
    simp -dsimp only [↓WPd, ↓wpC_block, ↓wpC_cond, WPu, Bool.false_eq_true, Bool.true_eq_false, Bool.not_true, Bool.not_false, if_true, if_false, ite_true, ite_false, Nat.reduceEqDiff, Nat.reduceLT, true_and, List.map_cons, List.map_nil, Nat.zero_add, Nat.reduceBEq, res_nil]
    exact w
end
end Go.Proofs.YtkjnanfkclijcaaDoor.Am

namespace Go.Proofs.YtkjnanfkclijcaaDoor.Am
open Go
set_option linter.unusedVariables false
set_option linter.unusedSimpArgs false
set_option linter.unusedSectionVars false
set_option maxRecDepth 100000
def Mv (id aid : Nat) (nv : AVal) : Nat → Prop := fun i => i = id ∨ i = aid ∨ nv.sid = some i
structure Att (fm : AVal → List AVal) (σ0 : Store) (id aid : Nat) (σ : Store) (nv : AVal) (s : TSt) : Prop where
  old : Grows σ0 σ
  lid : σ0.length ≤ id
  laid : σ0.length ≤ aid
  lnv : Fresh σ0.length nv
  obj : σ[id]? = some (.cells (fm nv))
  names : Own σ 2 nv (NN s.ws)
  arr : ∃ es, σ[aid]? = some (.arr 1 es 0 0) ∧ Two (fun e t => Own σ 5 e (CC t)) es s.ls
theorem Own.noArr {σ : Store} {sz sz' i ep fl : Nat} {v : AVal} {es xs : List AVal} (h : Own σ sz v es) (ho : σ[i]? = some (.arr sz' xs ep fl)) (hn : sz ≠ sz') : v.sid ≠ some i := by
  intro hv
  rcases h.own with ⟨rfl, _⟩ | ⟨t, rfl⟩ | ⟨id, ep, off, cap, ys, epo, fl, rfl, h1, _⟩
  · cases hv
  · cases hv
  · injection hv with hv
    subst hv
    rw [ho] at h1; injection h1 with h1; injection h1 with h1; exact hn h1.symm
section
variable {fm : AVal → List AVal} {σ0 : Store} {id aid : Nat} {σ σ' : Store} {nv : AVal} {s : TSt}
theorem Att.lt (h : Att fm σ0 id aid σ nv s) : id < σ.length ∧ aid < σ.length := by
  obtain ⟨es, ha, -⟩ := h.arr
  exact ⟨(List.getElem?_eq_some_iff.1 h.obj).1, (List.getElem?_eq_some_iff.1 ha).1⟩
theorem Att.own5 (h : Att fm σ0 id aid σ nv s) {e : AVal} {p : List AVal} (he : Own σ 5 e p) (i : Nat) (hi : e.sid = some i) : ¬ Mv id aid nv i := by
  obtain ⟨es, ha, -⟩ := h.arr
  rintro (rfl | rfl | hv)
  · exact he.noCell h.obj hi
  · exact he.noArr ha (by decide) hi
  · exact he.sizes h.names (by decide) hi hv
theorem Att.keep5 (h : Att fm σ0 id aid σ nv s) {e : AVal} {p : List AVal} (he : Own σ 5 e p) (hk : Keeps (Mv id aid nv) σ σ') : Own σ' 5 e p :=
  he.keeps hk fun i hi => h.own5 he i hi
theorem Att.grow (h : Att fm σ0 id aid σ nv s) (g : Grows σ σ') : Att fm σ0 id aid σ' nv s := by
  obtain ⟨es, ha, ht⟩ := h.arr
  exact ⟨h.old.trans g, h.lid, h.laid, h.lnv, g.get h.obj, h.names.grow g, es, g.get ha, ht.mono fun e t ho => ho.grow g⟩
theorem Att.olds (h : Att fm σ0 id aid σ nv s) (hk : Keeps (Mv id aid nv) σ σ') : Grows σ0 σ' :=
  Keeps.trans h.old hk fun i hi e => by
    rcases e with rfl | rfl | e
    · have := h.lid; omega
    · have := h.laid; omega
    · have := h.lnv i e; omega
theorem Mv.trans {nv1 : AVal} {σ1 σ2 : Store} (h1 : Keeps (Mv id aid nv) σ σ1) (hs : ∀ i, nv1.sid = some i → nv.sid = some i ∨ σ.length ≤ i) (h2 : Keeps (Mv id aid nv1) σ1 σ2) : Keeps (Mv id aid nv) σ σ2 :=
  Keeps.trans h1 h2 fun i hi e => by
    rcases e with rfl | rfl | e
    · exact .inl rfl
    · exact .inr (.inl rfl)
    · rcases hs i e with e | e
      · exact .inr (.inr e)
      · omega
structure OT (σ : Store) (lo : Nat) (l : AVal) (es : List AVal) (ts : List (List Cel)) : Prop where
  row : Own σ 1 l es
  two : Two (fun e t => Own σ 5 e (CC t)) es ts
  frl : Fresh lo l
theorem ORows.ot {σ : Store} {lo : Nat} {l : AVal} {es : List AVal} {ts : List (List Cel)} (h : ORows σ lo 5 l es (ts.map CC)) : OT σ lo l es ts :=
  ⟨h.row, Two.of_get (by rw [h.len, List.length_map]) fun i a b ha hb => h.one i a (CC b) ha (by rw [List.getElem?_map, hb]; rfl), h.frl⟩
theorem OT.grow {lo : Nat} {l : AVal} {es : List AVal} {ts : List (List Cel)} (h : OT σ lo l es ts) (g : Grows σ σ') : OT σ' lo l es ts :=
  ⟨h.row.grow g, h.two.mono fun e t ho => ho.grow g, h.frl⟩
theorem OT.keep {lo : Nat} {l : AVal} {es : List AVal} {ts : List (List Cel)} (h : OT σ lo l es ts) (ha : Att fm σ0 id aid σ nv s) (h1 : id < lo) (h2 : aid < lo) (hk : Keeps (Mv id aid nv) σ σ') : OT σ' lo l es ts := by
  refine ⟨h.row.keeps hk fun i hi => ?_, h.two.mono fun e t ho => ha.keep5 ho hk, h.frl⟩
  have := h.frl i hi
  rintro (rfl | rfl | hv)
  · omega
  · omega
  · exact h.row.sizes ha.names (by decide) hi hv
theorem OT.at {lo : Nat} {l : AVal} {es : List AVal} {ts : List (List Cel)} (h : OT σ lo l es ts) {i : Nat} (hi : i < ts.length) : ∃ e, iaddrV 1 l (.int .i64 i) = some (addrOf 1 l i) ∧ loadV σ 1 false (addrOf 1 l i) = some e ∧ Own σ 5 e (CC ts[i]) := by
  have hi' : i < es.length := by rw [h.two.len]; exact hi
  obtain ⟨e, he1, he2⟩ := h.two.get hi
  have hee : es[i] = e := by rw [List.getElem?_eq_getElem hi'] at he1; exact Option.some.inj he1
  refine ⟨e, h.row.sl.iaddr hi' .i64, ?_, he2⟩
  have := h.row.sl.load1 hi' (by rw [hee]; exact he2.one) 1
  rw [hee] at this; exact this
theorem OT.len {lo : Nat} {l : AVal} {es : List AVal} {ts : List (List Cel)} (h : OT σ lo l es ts) : lenSV l = some ts.length := by
  rw [← h.two.len]; exact h.row.sl.len
end
def StepQ (fm : AVal → List AVal) (σ0 : Store) (id aid : Nat) (res : Option TSt) (s : TSt) (add : Nat) (nv : AVal) (σ : Store) : AVal → Store → Prop := fun r σ' =>
  ∃ (b : Bool) (nv' : AVal) (s' : TSt), r = .bool b ∧ Att fm σ0 id aid σ' nv' s' ∧ Keeps (Mv id aid nv) σ σ' ∧ (∀ i, nv'.sid = some i → nv.sid = some i ∨ σ.length ≤ i) ∧ res = (if b then some s' else none) ∧ s'.ws.length ≤ s.ws.length + add ∧ s'.ls.length = s.ls.length
def PartAt (d : Nat) (f : FuncId) (fm : AVal → List AVal) (σ0 : Store) (id aid : Nat) (D : List Cel → List Cel) (N n : Nat) : Prop :=
  ∀ (σ : Store) (nv pv tv : AVal) (s : TSt) (p t : List Cel), p.length ≤ n → right p = true → glob t = true → s.ws.length + p.length < 2 ^ 30 → s.ls.length = N → Att fm σ0 id aid σ nv s → SlOf σ 5 pv (CC p) → Own σ 5 tv (CC t) →
    Called CU.cfg d f [.ptr id 0, pv, tv] σ (StepQ fm σ0 id aid (partF D n s p t) s p.length nv σ)
theorem headD_cons' {α : Type} [Inhabited α] {l : List α} (h : 0 < l.length) : l.headD default = l[0] := by
  match l, h with
  | a :: _, _ => rfl
theorem head_at {σ : Store} {l : AVal} {t : List Cel} (hl : SlOf σ 5 l (CC t)) (h : 0 < t.length) : ∃ q0 q3 : AVal, iaddrV 5 l (.int .i64 0) = some (addrOf 5 l 0) ∧ loadV σ 5 true (addrOf 5 l 0) = some (t.headD default).val ∧ faddrV 0 (addrOf 5 l 0) = some q0 ∧ loadV σ 1 false q0 = some (.int .u8 (t.headD default).k) ∧ faddrV 3 (addrOf 5 l 0) = some q3 ∧ loadV σ 2 true q3 = some (nmV (t.headD default).v) := by
  have hi0 : 0 < (CC t).length := by rw [List.length_map]; exact h
  have hb := (hl.addr hi0 .i64).2
  rw [cel_get] at hb
  rw [headD_cons' h]
  have hb' : behind σ (addrOf 5 l 0) = some ((t[0]).cs, 0) := hb
  obtain ⟨q0, p0, b0⟩ := faddr_at hb' 0
  obtain ⟨q3, p3, b3⟩ := faddr_at hb' 3
  obtain ⟨a1, a2⟩ := cela_at hl h
  exact ⟨q0, q3, a1, a2, p0, load_at b0, p3, loadN_at b3 (by simp [Cel.cs])⟩
section
variable (d : Nat)
def fmP (hv : AVal) (n aid : Nat) : AVal → List AVal := fun nv => [nv, hv, .slice 1 aid 0 0 n (some n)]
theorem mparts_ok (hv : AVal) (n aid id : Nat) (σ0 : Store) (D : List Cel → List Cel) (m : Nat) (hP : PartAt d 169 (fmP hv n aid) σ0 id aid D n m)
    (σ : Store) (nv pv tv : AVal) (s : TSt) (p t : List Cel) (hm : p.length ≤ m + 1) (hp : right p = true) (ht : glob t = true) (hh : p.headD default = t.headD default) (hb : s.ws.length + p.length < 2 ^ 30) (hn : s.ls.length = n) (ha : Att (fmP hv n aid) σ0 id aid σ nv s) (hpv : SlOf σ 5 pv (CC p)) (htv : SlOf σ 5 tv (CC t)) :
    Called CU.cfg d 133 [.ptr id 0, pv, tv] σ (StepQ (fmP hv n aid) σ0 id aid (foldO (partF D m) s (args p) (args t)) s (p.length - 1) nv σ) := by
  refine called_of (fn := CU.a133) rfl (Nat.le_of_ble_eq_true rfl) ?_
  simp only [CU.a133]
  have sp := right_small hp
  have st := right_small (glob_right ht)
  have hsame := args_same hp (glob_right ht) hh
  have hfl := args_flat p
  have h8 := args_len8 p
  simp -dsimp only [↓WPd, ↓wpC_block, ↓wpC_cond, WPu, Bool.false_eq_true, Bool.true_eq_false, Bool.not_true, Bool.not_false, if_true, if_false, ite_true, ite_false, Nat.reduceEqDiff, Nat.reduceLT, true_and, List.map_cons, List.map_nil, Nat.zero_add, Nat.reduceBEq]
  refine calledW_of (args_ok d σ pv p sp.1 sp.2 hpv) ?_
  rintro al σ1 ⟨g1, es, oa⟩
  simp -dsimp only [↓WPd, ↓wpC_block, ↓wpC_cond, WPu, Bool.false_eq_true, Bool.true_eq_false, Bool.not_true, Bool.not_false, if_true, if_false, ite_true, ite_false, Nat.reduceEqDiff, Nat.reduceLT, true_and, List.map_cons, List.map_nil, Nat.zero_add, Nat.reduceBEq]
  refine calledW_of (args_ok d σ1 tv t st.1 st.2 (htv.grow g1)) ?_
  rintro bl σ2 ⟨g2, fs, ob⟩
  have ta : OT σ2 σ.length al es (args p) := oa.ot.grow g2
  have tb : OT σ2 σ.length bl fs (args t) := ⟨ob.ot.row, ob.ot.two, ob.ot.frl.le g1.1⟩
  have ha2 := (ha.grow g1).grow g2
  have g02 := g1.trans g2
  obtain ⟨hl1, hl2⟩ := ha.lt
  have hA : ∀ x ∈ args p, right x = true := fun x hx => args_rights hx
  have hB : ∀ x ∈ args t, glob x = true := fun x hx => args_glob ht hx
  generalize args p = azs at *
  generalize args t = bs at *
  have la := ta.len
  simp -dsimp only [↓WPd, ↓wpC_block, ↓wpC_cond, WPu, Bool.false_eq_true, Bool.true_eq_false, Bool.not_true, Bool.not_false, if_true, if_false, ite_true, ite_false, Nat.reduceEqDiff, Nat.reduceLT, true_and, List.map_cons, List.map_nil, Nat.zero_add, Nat.reduceBEq, la]
  refine loop_rule2 (fun m' vs σ' => ∃ (k : Nat) (b : Bool) (nk : AVal) (sk : TSt), k ≤ azs.length ∧ m' = azs.length - k ∧ vs = [.ptr id 0, al, bl, .bool b, .int .i64 azs.length, .int .i64 k] ∧ Att (fmP hv n aid) σ0 id aid σ' nk sk ∧ Keeps (Mv id aid nv) σ2 σ' ∧ (∀ i, nk.sid = some i → nv.sid = some i ∨ σ2.length ≤ i) ∧ OT σ' σ.length al es azs ∧ OT σ' σ.length bl fs bs ∧
        foldO (partF D m) s azs bs = (if b then foldO (partF D m) sk (azs.drop k) (bs.drop k) else none) ∧ sk.ws.length ≤ s.ws.length + (azs.take k).flatten.length ∧ sk.ls.length = s.ls.length)
    [9] (fun e vs σ' => e = .exit 0 ∧ ∃ (b : Bool) (nk : AVal) (sk : TSt), vs = [.bool b] ∧ Att (fmP hv n aid) σ0 id aid σ' nk sk ∧ Keeps (Mv id aid nv) σ2 σ' ∧ (∀ i, nk.sid = some i → nv.sid = some i ∨ σ2.length ≤ i) ∧
        foldO (partF D m) s azs bs = (if b then some sk else none) ∧ sk.ws.length ≤ s.ws.length + azs.flatten.length ∧ sk.ls.length = s.ls.length) azs.length
    ⟨0, true, nv, s, Nat.zero_le _, rfl, ?_, ha2, Keeps.refl _ _, fun i h => .inl h, ta, tb, by simp, by simp, rfl⟩ ?_ ?_
  · simp -dsimp only [↓WPd, ↓wpC_block, ↓wpC_cond, WPu, Bool.false_eq_true, Bool.true_eq_false, Bool.not_true, Bool.not_false, if_true, if_false, ite_true, ite_false, Nat.reduceEqDiff, Nat.reduceLT, true_and, List.map_cons, List.map_nil, Nat.zero_add, Nat.reduceBEq]; rfl
  · rintro m' vs σ' ⟨k, b, nk, sk, hk, rfl, rfl, hak, hkk, hsk, hta, htb, hf, hw, hls⟩
    simp -dsimp only [↓WPd, ↓wpC_block, ↓wpC_cond, WPu, Bool.false_eq_true, Bool.true_eq_false, Bool.not_true, Bool.not_false, if_true, if_false, ite_true, ite_false, Nat.reduceEqDiff, Nat.reduceLT, true_and, List.map_cons, List.map_nil, Nat.zero_add, Nat.reduceBEq]
    refine condP_dec (fun h => ?_) (fun h => ?_)
    · have hk' : k < azs.length := by omega
      have hkb : k < bs.length := by omega
      obtain ⟨e, e1, e2, e3⟩ := hta.at hk'
      obtain ⟨f, f1, f2, f3⟩ := htb.at hkb
      have hfs := flat_step hk'
      have hfle := flat_le azs (k + 1)
      simp -dsimp only [↓WPd, ↓wpC_block, ↓wpC_cond, WPu, Bool.false_eq_true, Bool.true_eq_false, Bool.not_true, Bool.not_false, if_true, if_false, ite_true, ite_false, Nat.reduceEqDiff, Nat.reduceLT, true_and, List.map_cons, List.map_nil, Nat.zero_add, Nat.reduceBEq, e1, e2, f1, f2]
      refine calledW_of (hP σ' nk e f sk azs[k] bs[k] (by omega) (hA _ (List.getElem_mem hk')) (hB _ (List.getElem_mem hkb)) (by omega) (by omega) hak e3.sl f3) ?_
      rintro r σ3 ⟨b', nk', sk', rfl, a1, a2, a3, a4, a5, a6⟩
      have stp := foldO_step (f := partF D m) (s := sk) hk' hkb
      have fin : ∀ b'' : Bool, b'' = (b' && b) → foldO (partF D m) s azs bs = (if b'' then foldO (partF D m) sk' (azs.drop (k + 1)) (bs.drop (k + 1)) else none) := by
        rintro b'' rfl
        rw [hf]
        cases b with
        | false => simp
        | true =>
          rw [if_pos rfl, stp, a4]
          cases b' <;> simp
      have out : ∀ b'' : Bool, b'' = (b' && b) → ∃ (k' : Nat) (b0 : Bool) (nk0 : AVal) (sk0 : TSt), k' ≤ azs.length ∧ azs.length - (k + 1) = azs.length - k' ∧ [AVal.ptr id 0, al, bl, .bool b'', .int .i64 azs.length, .int .i64 ((k : Int) + 1)] = [.ptr id 0, al, bl, .bool b0, .int .i64 azs.length, .int .i64 k'] ∧ Att (fmP hv n aid) σ0 id aid σ3 nk0 sk0 ∧ Keeps (Mv id aid nv) σ2 σ3 ∧ (∀ i, nk0.sid = some i → nv.sid = some i ∨ σ2.length ≤ i) ∧ OT σ3 σ.length al es azs ∧ OT σ3 σ.length bl fs bs ∧
          foldO (partF D m) s azs bs = (if b0 then foldO (partF D m) sk0 (azs.drop k') (bs.drop k') else none) ∧ sk0.ws.length ≤ s.ws.length + (azs.take k').flatten.length ∧ sk0.ls.length = s.ls.length := fun b'' hb'' =>
        ⟨k + 1, b'', nk', sk', by omega, rfl, by rw [Int.natCast_add, Int.natCast_one], a1, Mv.trans hkk hsk a2, fun i hi => (a3 i hi).elim (hsk i) (fun h => .inr (by have := hkk.1; omega)), hta.keep hak hl1 hl2 a2, htb.keep hak hl1 hl2 a2, fin b'' hb'', by omega, by omega⟩
      have wk : IntKind.i64.wrap ((k : Int) + 1) = (k : Int) + 1 := wrap_i64 (by omega) (by omega)
      cases b' with
      | false =>
        simp -dsimp only [↓WPd, ↓wpC_block, ↓wpC_cond, WPu, Bool.false_eq_true, Bool.true_eq_false, Bool.not_true, Bool.not_false, if_true, if_false, ite_true, ite_false, Nat.reduceEqDiff, Nat.reduceLT, true_and, List.map_cons, List.map_nil, Nat.zero_add, Nat.reduceBEq, wk]
        exact ⟨azs.length - (k + 1), by omega, out false rfl⟩
      | true =>
        simp -dsimp only [↓WPd, ↓wpC_block, ↓wpC_cond, WPu, Bool.false_eq_true, Bool.true_eq_false, Bool.not_true, Bool.not_false, if_true, if_false, ite_true, ite_false, Nat.reduceEqDiff, Nat.reduceLT, true_and, List.map_cons, List.map_nil, Nat.zero_add, Nat.reduceBEq, wk]
        exact ⟨azs.length - (k + 1), by omega, out b (by simp)⟩
    · have : k = azs.length := by omega
      subst this
      rw [List.take_length] at hw
      rw [foldO_end] at hf
      simp -dsimp only [↓WPd, ↓wpC_block, ↓wpC_cond, WPu, Bool.false_eq_true, Bool.true_eq_false, Bool.not_true, Bool.not_false, if_true, if_false, ite_true, ite_false, Nat.reduceEqDiff, Nat.reduceLT, true_and, List.map_cons, List.map_nil, Nat.zero_add, Nat.reduceBEq]
      exact ⟨b, nk, sk, rfl, hak, hkk, hsk, hf, hw, hls⟩
  · rintro e σ' env ⟨rfl, b, nk, sk, hv', a1, a2, a3, a4, a5, a6⟩
    simp only [List.map_cons, List.map_nil, List.cons.injEq, and_true] at hv'
    simp -dsimp only [↓WPd, ↓wpC_block, ↓wpC_cond, WPu, Bool.false_eq_true, Bool.true_eq_false, Bool.not_true, Bool.not_false, if_true, if_false, ite_true, ite_false, Nat.reduceEqDiff, Nat.reduceLT, true_and, List.map_cons, List.map_nil, Nat.zero_add, Nat.reduceBEq, hv']
    exact ⟨b, nk, sk, rfl, a1, Keeps.trans g02.any a2 fun i _ h => h, fun i hi => (a3 i hi).imp (fun h => h) fun h => by have := g02.1; omega, a4, by omega, a6⟩
theorem Two.set {α β : Type} {R : α → β → Prop} {us : List α} {ws : List β} (h : Two R us ws) (j : Nat) {a : α} {b : β} (hr : R a b) : Two R (us.set j a) (ws.set j b) :=
  Two.of_get (by simp [h.len]) fun i x y hx hy => by
    rw [List.getElem?_set] at hx hy
    split at hx
    · rename_i hij
      rw [if_pos hij] at hy
      split at hx
      · split at hy
        · injection hx with hx; injection hy with hy; subst hx; subst hy; exact hr
        · cases hy
      · cases hx
    · rename_i hij
      rw [if_neg hij] at hy
      exact h.at hx hy
theorem partF_succ (D : List Cel → List Cel) (n : Nat) (s : TSt) (p t : List Cel) : partF D (n + 1) s p t =
    if (p.headD default).k = 4 then
      if 0 ≤ (p.headD default).v.1 ∨ (s.ls.length : Int) ≤ (p.headD default).v.2 ∨ s.ls[(p.headD default).v.2.toNat]?.getD [] ≠ [] then none
      else some ⟨s.ls.set (p.headD default).v.2.toNat t, s.ws⟩
    else if ((D t).headD default).k = 4 then some ⟨s.ls, addN s.ws ((D t).headD default).v⟩
    else if p.headD default ≠ (D t).headD default then none
    else foldO (partF D n) s (args p) (args (D t)) := rfl
theorem StepQ.plain {fm : AVal → List AVal} {σ0 : Store} {id aid : Nat} {res : Option TSt} {s : TSt} {add : Nat} {nv : AVal} {σ σ' : Store} (ha : Att fm σ0 id aid σ nv s) (g : Grows σ σ') (hr : res = none) : StepQ fm σ0 id aid res s add nv σ (.bool false) σ' :=
  ⟨false, nv, s, rfl, ha.grow g, g.any, fun i h => .inl h, by rw [hr]; rfl, by omega, rfl⟩
theorem Att.put {fm : AVal → List AVal} {σ0 : Store} {id aid : Nat} {nv : AVal} {s : TSt} {σ : Store} (ha : Att fm σ0 id aid σ nv s) {j : Nat} {u : AVal} {t : List Cel} (hu : Own σ 5 u (CC t)) (hj : j < s.ls.length) :
    ∃ σ', storeV σ 1 (.eptr aid 0 j 0) u = some σ' ∧ Att fm σ0 id aid σ' nv ⟨s.ls.set j t, s.ws⟩ ∧ Keeps (fun i => i = aid) σ σ' := by
  obtain ⟨es, h1, h2⟩ := ha.arr
  have hj' : j < es.length := by rw [h2.len]; exact hj
  obtain ⟨e, he1, he2⟩ := h2.get hj
  have hee : es[j] = e := by rw [List.getElem?_eq_getElem hj'] at he1; exact Option.some.inj he1
  have st := arr_store1 h1 hj' hu.one (by rw [hee]; exact he2.one)
  have k := Keeps.set σ aid (.arr 1 (es.set j u) 0 0)
  have hne : id ≠ aid := fun e => by have a := ha.obj; rw [e, h1] at a; cases a
  refine ⟨_, st, ⟨?_, ha.lid, ha.laid, ha.lnv, k.get ha.obj hne, ha.names.keeps k fun i hi e => ha.names.noArr h1 (by decide) (by rw [← e]; exact hi), es.set j u, get_set h1, ?_⟩, k⟩
  · exact Keeps.trans ha.old k fun i hi e => by have := ha.laid; omega
  · refine Two.set (h2.mono fun e t ho => ho.keeps k fun i hi e' => ho.noArr h1 (by decide) (by rw [← e']; exact hi)) j ?_
    exact hu.keeps k fun i hi e' => hu.noArr h1 (by decide) (by rw [← e']; exact hi)
theorem Att.get {fm : AVal → List AVal} {σ0 : Store} {id aid : Nat} {nv : AVal} {s : TSt} {σ : Store} (ha : Att fm σ0 id aid σ nv s) {j : Nat} (hj : j < s.ls.length) : ∃ e, loadV σ 1 false (.eptr aid 0 j 0) = some e ∧ lenSV e = some (s.ls[j]).length := by
  obtain ⟨es, h1, h2⟩ := ha.arr
  have hj' : j < es.length := by rw [h2.len]; exact hj
  obtain ⟨e, he1, he2⟩ := h2.get hj
  have hee : es[j] = e := by rw [List.getElem?_eq_getElem hj'] at he1; exact Option.some.inj he1
  refine ⟨e, ?_, by have := he2.sl.len; rwa [List.length_map] at this⟩
  rw [arr_load1 h1 (Nat.le_refl _) hj' (by rw [hee]; exact he2.one), hee]
theorem Att.noted {fm : AVal → List AVal} {σ0 : Store} {id aid : Nat} {nv : AVal} {s : TSt} {σ : Store} (ha : Att fm σ0 id aid σ nv s) {σ' : Store} {nv' : AVal} {ws' : List Nm} (h1 : σ'[id]? = some (.cells (fm nv'))) (h2 : Own σ' 2 nv' (NN ws')) (h3 : Keeps (fun i => i = id ∨ nv.sid = some i) σ σ') (h4 : ∀ i, nv'.sid = some i → nv.sid = some i ∨ σ.length ≤ i) :
    Att fm σ0 id aid σ' nv' ⟨s.ls, ws'⟩ ∧ Keeps (Mv id aid nv) σ σ' := by
  have k : Keeps (Mv id aid nv) σ σ' := h3.mono fun i hi e => e.elim .inl fun e => .inr (.inr e)
  obtain ⟨es, a1, a2⟩ := ha.arr
  refine ⟨⟨ha.olds k, ha.lid, ha.laid, fun i hi => ?_, h1, h2, es, h3.get a1 ?_, a2.mono fun e t ho => ha.keep5 ho k⟩, k⟩
  · rcases h4 i hi with e | e
    · exact ha.lnv i e
    · have := ha.old.1; omega
  · rintro (e | e)
    · have a := ha.obj; rw [← e, a1] at a; cases a
    · exact ha.names.noArr a1 (by decide) e
theorem mpart_ok (hv : AVal) (H : Hp) (n aid id : Nat) (σ0 : Store) (h0 : HeapV σ0 hv H) : ∀ m, PartAt d 169 (fmP hv n aid) σ0 id aid (deref H) n m
  | 0 => fun σ nv pv tv s p t hm hp => by have := right_len hp; omega
  | m + 1 => fun σ nv pv tv s p t hm hp ht hb hn ha hpv htv => by
    refine called_of (fn := CU.a169) rfl (Nat.le_of_ble_eq_true rfl) ?_
    have hw := h0.wf
    have hp0 : 0 < p.length := (right_len hp).1
    obtain ⟨q0, q3, i1, i2, i3, i4, i5, i6⟩ := head_at hpv hp0
    have hok : (p.headD default).ok = true := right_ok_mem hp (by rw [headD_cons' hp0]; exact List.getElem_mem hp0)
    have hpF := partF_succ (deref H) m s p t
    simp only [CU.a169]
    generalize hcc : p.headD default = c at *
    have k4 : ((c.k : Int) == 4) = decide (c.k = 4) := by by_cases h : c.k = 4 <;> simp [h] <;> omega
    have f0 : ∀ x, (fmP hv n aid x)[0]? = some x := fun x => rfl
    have f1 : ∀ x, (fmP hv n aid x)[1]? = some hv := fun x => rfl
    have f2 : ∀ x, (fmP hv n aid x)[2]? = some (.slice 1 aid 0 0 n (some n)) := fun x => rfl
    have ls1 : lenSV (.slice 1 aid 0 0 n (some n)) = some n := rfl
    by_cases hc : c.k = 4
    · obtain ⟨-, -, v1, v2, v3⟩ := ok_var hok hc
      rw [if_pos hc] at hpF
      simp -dsimp only [↓WPd, ↓wpC_block, ↓wpC_cond, WPu, Bool.false_eq_true, Bool.true_eq_false, Bool.not_true, Bool.not_false, if_true, if_false, ite_true, ite_false, Nat.reduceEqDiff, Nat.reduceLT, true_and, List.map_cons, List.map_nil, Nat.zero_add, Nat.reduceBEq, i1, i3, i4, k4, decide_eq_true hc, i5, i6, nm_put]
      have ov : (σ ++ [AObj.cells (nmC c.v)])[σ.length]? = some (.cells (nmC c.v)) := by simp
      have g1 : Grows σ (σ ++ [AObj.cells (nmC c.v)]) := Grows.app _ _
      have ha1 := ha.grow g1
      have htv1 := htv.grow g1
      generalize σ ++ [AObj.cells (nmC c.v)] = σ1 at ov g1 ha1 htv1
      generalize σ.length = iv at ov
      by_cases h1 : c.v.1 = -1
      · have e1 : (c.v.1 != -1) = false := by rw [h1]; rfl
        by_cases h2 : c.v.2 < n
        · obtain ⟨j, hj⟩ : ∃ j : Nat, c.v.2 = j := ⟨c.v.2.toNat, by omega⟩
          have hjn : j < n := by omega
          have hjl : j < s.ls.length := by omega
          have e2 : decide (c.v.2 ≥ (n : Int)) = false := by rw [decide_eq_false_iff_not]; omega
          have ia : iaddrV 1 (.slice 1 aid 0 0 n (some n)) (.int .i64 c.v.2) = some (.eptr aid 0 j 0) := by
            rw [hj]; have := arr_iaddr (sz := 1) (id := aid) (ep := 0) (off := 0) (len := n) (cap := some n) hjn .i64; rwa [Nat.zero_add] at this
          obtain ⟨e, l1, l2⟩ := ha1.get hjl
          have hjt : c.v.2.toNat = j := by omega
          rw [hjt] at hpF
          have hgj : s.ls[j]?.getD [] = s.ls[j] := by rw [List.getElem?_eq_getElem hjl]; rfl
          rw [hgj] at hpF
          by_cases h3 : s.ls[j] = []
          · have e3 : decide (((s.ls[j]).length : Int) > 0) = false := by rw [h3]; rfl
            rw [if_neg (by rintro (h | h | h)
                           · omega
                           · omega
                           · exact h h3)] at hpF
            simp -dsimp only [↓WPd, ↓wpC_block, ↓wpC_cond, WPu, Bool.false_eq_true, Bool.true_eq_false, Bool.not_true, Bool.not_false, if_true, if_false, ite_true, ite_false, Nat.reduceEqDiff, Nat.reduceLT, true_and, List.map_cons, List.map_nil, Nat.zero_add, Nat.reduceBEq, faddr_ptr, Nat.add_zero, load_cells ov, nm_g0, nm_g1, e1, isnil_ptr, load_cells ha1.obj, f2, ls1, e2, ia, l1, l2, e3]
            refine drawnP_of rfl ?_
            simp -dsimp only [↓WPd, ↓wpC_block, ↓wpC_cond, WPu, Bool.false_eq_true, Bool.true_eq_false, Bool.not_true, Bool.not_false, if_true, if_false, ite_true, ite_false, Nat.reduceEqDiff, Nat.reduceLT, true_and, List.map_cons, List.map_nil, Nat.zero_add, Nat.reduceBEq, ↓WPed, WPeu, Nat.reduceAdd, and_self, faddr_ptr, Nat.add_zero, load_cells ov, nm_g0, nm_g1, isnil_ptr, load_cells ha1.obj, f2]
            refine calledW_of (cclone_ok d σ1 tv t (right_small (glob_right ht)).1 htv1.sl) ?_
            rintro u σ2 ⟨g2, ou, fu, nu⟩
            have ha2 := ha1.grow g2
            obtain ⟨σ3, p1, p2, p3⟩ := ha2.put ou hjl
            simp -dsimp only [↓WPd, ↓wpC_block, ↓wpC_cond, WPu, Bool.false_eq_true, Bool.true_eq_false, Bool.not_true, Bool.not_false, if_true, if_false, ite_true, ite_false, Nat.reduceEqDiff, Nat.reduceLT, true_and, List.map_cons, List.map_nil, Nat.zero_add, Nat.reduceBEq, ↓WPed, WPeu, Nat.reduceAdd, and_self, faddr_ptr, Nat.add_zero, load_cells (g2.get ov), load_cells ov, load_cells ha1.obj, nm_g0, nm_g1, isnil_ptr, load_cells ha2.obj, f2, ia, p1]
            refine ⟨true, nv, _, rfl, p2, Keeps.trans (g1.trans g2).any p3 fun i hi e => .inr (.inl e), fun i hi => .inl hi, hpF, Nat.le_add_right _ _, by simp⟩
          · have e3 : decide (((s.ls[j]).length : Int) > 0) = true := by
              have := List.length_pos_iff.2 h3
              rw [decide_eq_true_eq]; omega
            rw [if_pos (.inr (.inr h3))] at hpF
            simp -dsimp only [↓WPd, ↓wpC_block, ↓wpC_cond, WPu, Bool.false_eq_true, Bool.true_eq_false, Bool.not_true, Bool.not_false, if_true, if_false, ite_true, ite_false, Nat.reduceEqDiff, Nat.reduceLT, true_and, List.map_cons, List.map_nil, Nat.zero_add, Nat.reduceBEq, faddr_ptr, Nat.add_zero, load_cells ov, nm_g0, nm_g1, e1, isnil_ptr, load_cells ha1.obj, f2, ls1, e2, ia, l1, l2, e3]
            exact StepQ.plain ha g1 hpF
        · have e2 : decide (c.v.2 ≥ (n : Int)) = true := by rw [decide_eq_true_eq]; omega
          rw [if_pos (.inr (.inl (by omega)))] at hpF
          simp -dsimp only [↓WPd, ↓wpC_block, ↓wpC_cond, WPu, Bool.false_eq_true, Bool.true_eq_false, Bool.not_true, Bool.not_false, if_true, if_false, ite_true, ite_false, Nat.reduceEqDiff, Nat.reduceLT, true_and, List.map_cons, List.map_nil, Nat.zero_add, Nat.reduceBEq, faddr_ptr, Nat.add_zero, load_cells ov, nm_g0, nm_g1, e1, isnil_ptr, load_cells ha1.obj, f2, ls1, e2]
          exact StepQ.plain ha g1 hpF
      · have e1 : (c.v.1 != -1) = true := by simp [h1]
        rw [if_pos (.inl (by omega))] at hpF
        simp -dsimp only [↓WPd, ↓wpC_block, ↓wpC_cond, WPu, Bool.false_eq_true, Bool.true_eq_false, Bool.not_true, Bool.not_false, if_true, if_false, ite_true, ite_false, Nat.reduceEqDiff, Nat.reduceLT, true_and, List.map_cons, List.map_nil, Nat.zero_add, Nat.reduceBEq, faddr_ptr, Nat.add_zero, load_cells ov, nm_g0, nm_g1, e1]
        exact StepQ.plain ha g1 hpF
    · rw [if_neg hc] at hpF
      have gd := deref_glob hw ht
      have sd := right_small (glob_right gd)
      simp -dsimp only [↓WPd, ↓wpC_block, ↓wpC_cond, WPu, Bool.false_eq_true, Bool.true_eq_false, Bool.not_true, Bool.not_false, if_true, if_false, ite_true, ite_false, Nat.reduceEqDiff, Nat.reduceLT, true_and, List.map_cons, List.map_nil, Nat.zero_add, Nat.reduceBEq, i1, i3, i4, k4, decide_eq_false hc, faddr_ptr, Nat.zero_add, isnil_ptr, load_cells ha.obj, f1]
      refine calledW_of (hderef_ok d σ hv tv H t (h0.grow ha.old) htv.sl sd.1) ?_
      rintro u σ1 ⟨g1, ou, fu, nu⟩
      have ha1 := ha.grow g1
      have hpv1 := hpv.grow g1
      obtain ⟨-, -, -, j2, -, -, -, -⟩ := head_at hpv1 hp0
      rw [hcc] at j2
      have hd0 : 0 < (deref H t).length := (right_len (glob_right gd)).1
      obtain ⟨r0, r3, d1, d2, d3, d4, d5, d6⟩ := head_at ou.sl hd0
      generalize hdt : deref H t = dt at *
      generalize hee : dt.headD default = e at *
      have ke : ((e.k : Int) == 4) = decide (e.k = 4) := by by_cases h : e.k = 4 <;> simp [h] <;> omega
      by_cases hd : e.k = 4
      · rw [if_pos hd] at hpF
        simp -dsimp only [↓WPd, ↓wpC_block, ↓wpC_cond, WPu, Bool.false_eq_true, Bool.true_eq_false, Bool.not_true, Bool.not_false, if_true, if_false, ite_true, ite_false, Nat.reduceEqDiff, Nat.reduceLT, true_and, List.map_cons, List.map_nil, Nat.zero_add, Nat.reduceBEq, d1, d3, d4, ke, decide_eq_true hd, faddr_ptr, Nat.zero_add, isnil_ptr, d5, d6, nm_lit]
        refine calledW_of (note_ok d σ1 id nv _ _ s.ws e.v ha1.obj ha1.names (by omega) (fun σ' => SlOf.fs _ _ _ _ _)) ?_
        rintro r σ2 ⟨nv', n1, n2, n3, n4⟩
        obtain ⟨a1, a2⟩ := ha1.noted n1 n2 n3 n4
        simp -dsimp only [↓WPd, ↓wpC_block, ↓wpC_cond, WPu, Bool.false_eq_true, Bool.true_eq_false, Bool.not_true, Bool.not_false, if_true, if_false, ite_true, ite_false, Nat.reduceEqDiff, Nat.reduceLT, true_and, List.map_cons, List.map_nil, Nat.zero_add, Nat.reduceBEq]
        have := addN_len s.ws e.v
        refine ⟨true, nv', _, rfl, a1, Keeps.trans g1.any a2 fun i _ h => h, fun i hi => (n4 i hi).imp (fun h => h) fun h => by have := g1.1; omega, hpF, by simp only; omega, rfl⟩
      · rw [if_neg hd] at hpF
        by_cases hce : c = e
        · rw [if_neg (fun h => h hce)] at hpF
          simp -dsimp only [↓WPd, ↓wpC_block, ↓wpC_cond, WPu, Bool.false_eq_true, Bool.true_eq_false, Bool.not_true, Bool.not_false, if_true, if_false, ite_true, ite_false, Nat.reduceEqDiff, Nat.reduceLT, true_and, List.map_cons, List.map_nil, Nat.zero_add, Nat.reduceBEq, d1, d2, d3, d4, ke, decide_eq_false hd, i1, j2, Cel.eqs, decide_eq_true hce]
          refine calledW_of (mparts_ok d hv n aid id σ0 (deref H) m (mpart_ok hv H n aid id σ0 h0 m) σ1 nv pv u s p dt hm hp gd (by rw [hcc, hee]; exact hce) hb hn ha1 hpv1 ou.sl) ?_
          rintro r σ2 ⟨b, nv', s', rfl, a1, a2, a3, a4, a5, a6⟩
          simp -dsimp only [↓WPd, ↓wpC_block, ↓wpC_cond, WPu, Bool.false_eq_true, Bool.true_eq_false, Bool.not_true, Bool.not_false, if_true, if_false, ite_true, ite_false, Nat.reduceEqDiff, Nat.reduceLT, true_and, List.map_cons, List.map_nil, Nat.zero_add, Nat.reduceBEq]
          refine ⟨b, nv', s', rfl, a1, Keeps.trans g1.any a2 fun i _ h => h, fun i hi => (a3 i hi).imp (fun h => h) fun h => by have := g1.1; omega, by rw [hpF]; exact a4, by omega, a6⟩
        · rw [if_pos hce] at hpF
          simp -dsimp only [↓WPd, ↓wpC_block, ↓wpC_cond, WPu, Bool.false_eq_true, Bool.true_eq_false, Bool.not_true, Bool.not_false, if_true, if_false, ite_true, ite_false, Nat.reduceEqDiff, Nat.reduceLT, true_and, List.map_cons, List.map_nil, Nat.zero_add, Nat.reduceBEq, d1, d2, d3, d4, ke, decide_eq_false hd, i1, j2, Cel.eqs, decide_eq_false hce]
          exact StepQ.plain ha g1 hpF
end
end Go.Proofs.YtkjnanfkclijcaaDoor.Am

namespace Go.Proofs.YtkjnanfkclijcaaDoor.Am
open Go
set_option linter.unusedVariables false
set_option linter.unusedSimpArgs false
set_option linter.unusedSectionVars false
set_option maxRecDepth 100000
section
variable (d : Nat)
def fmR (rv : AVal) (n aid : Nat) : AVal → List AVal := fun nv => [rv, .slice 1 aid 0 0 n (some n), nv]
structure Tried (fm : AVal → List AVal) (σ0 : Store) (id aid : Nat) (F : TSt → List Cel → List Cel → Option TSt) (s : TSt) (azs bs : List (List Cel)) (lo : Nat) (al bl : AVal) (es fs : List AVal) (nv : AVal) (σ2 σ' : Store) (k : Nat) (nk : AVal) (sk : TSt) : Prop where
  att : Att fm σ0 id aid σ' nk sk
  keep : Keeps (Mv id aid nv) σ2 σ'
  nam : ∀ i, nk.sid = some i → nv.sid = some i ∨ σ2.length ≤ i
  ra : OT σ' lo al es azs
  rb : OT σ' lo bl fs bs
  res : foldO F s azs bs = foldO F sk (azs.drop k) (bs.drop k)
  ws : sk.ws.length ≤ s.ws.length + (azs.take k).flatten.length
  ls : sk.ls.length = s.ls.length
theorem Tried.step {fm : AVal → List AVal} {σ0 : Store} {id aid : Nat} {F : TSt → List Cel → List Cel → Option TSt} {s : TSt} {azs bs : List (List Cel)} {lo : Nat} {al bl : AVal} {es fs : List AVal} {nv : AVal} {σ2 σ' : Store} {k : Nat} {nk : AVal} {sk : TSt} (h : Tried fm σ0 id aid F s azs bs lo al bl es fs nv σ2 σ' k nk sk)
    (hk : k < azs.length) (hb : k < bs.length) (h1 : id < lo) (h2 : aid < lo) {σ3 : Store} {r : AVal} (hq : StepQ fm σ0 id aid (F sk azs[k] bs[k]) sk (azs[k]).length nk σ' r σ3) :
    ∃ b : Bool, r = .bool b ∧ ∃ nk' sk', Att fm σ0 id aid σ3 nk' sk' ∧ Keeps (Mv id aid nv) σ2 σ3 ∧ (∀ i, nk'.sid = some i → nv.sid = some i ∨ σ2.length ≤ i) ∧ sk'.ws.length ≤ s.ws.length + (azs.take (k + 1)).flatten.length ∧ sk'.ls.length = s.ls.length ∧ (b = true → Tried fm σ0 id aid F s azs bs lo al bl es fs nv σ2 σ3 (k + 1) nk' sk') ∧ (b = false → foldO F s azs bs = none) := by
  obtain ⟨b, nk', sk', rfl, a1, a2, a3, a4, a5, a6⟩ := hq
  have hfs := flat_step hk
  have stp := foldO_step (f := F) (s := sk) hk hb
  have c1 := Mv.trans h.keep h.nam a2
  have c2 : ∀ i, nk'.sid = some i → nv.sid = some i ∨ σ2.length ≤ i := fun i hi => (a3 i hi).elim (h.nam i) (fun e => .inr (by have := h.keep.1; omega))
  have c3 : sk'.ws.length ≤ s.ws.length + (azs.take (k + 1)).flatten.length := by have := h.ws; omega
  have c4 : sk'.ls.length = s.ls.length := by rw [a6]; exact h.ls
  refine ⟨b, rfl, nk', sk', a1, c1, c2, c3, c4, fun hb' => ?_, fun hb' => ?_⟩
  · refine ⟨a1, c1, c2, h.ra.keep h.att h1 h2 a2, h.rb.keep h.att h1 h2 a2, ?_, c3, c4⟩
    rw [h.res, stp, a4, hb']; rfl
  · rw [h.res, stp, a4, hb']; rfl
theorem rpart_ok (rv : AVal) (R : Hp) (n aid id : Nat) (σ0 : Store) (h0 : RefV σ0 rv R) (hw : WF R) (hR : R.length < 2 ^ 30) : ∀ m, PartAt d 136 (fmR rv n aid) σ0 id aid (deref R) n m
  | 0 => fun σ nv pv tv s p t hm hp => by have := right_len hp; omega
  | m + 1 => fun σ nv pv tv s p t hm hp ht hb hn ha hpv htv => by
    refine called_of (fn := CU.a136) rfl (Nat.le_of_ble_eq_true rfl) ?_
    have hp0 : 0 < p.length := (right_len hp).1
    obtain ⟨q0, q3, i1, i2, i3, i4, i5, i6⟩ := head_at hpv hp0
    have hok : (p.headD default).ok = true := right_ok_mem hp (by rw [headD_cons' hp0]; exact List.getElem_mem hp0)
    have hpF := partF_succ (deref R) m s p t
    simp only [CU.a136]
    generalize hcc : p.headD default = c at *
    have k4 : ((c.k : Int) == 4) = decide (c.k = 4) := by by_cases h : c.k = 4 <;> simp [h] <;> omega
    have f0 : ∀ x, (fmR rv n aid x)[0]? = some rv := fun x => rfl
    have f1 : ∀ x, (fmR rv n aid x)[1]? = some (.slice 1 aid 0 0 n (some n)) := fun x => rfl
    have f2 : ∀ x, (fmR rv n aid x)[2]? = some x := fun x => rfl
    have ls1 : lenSV (.slice 1 aid 0 0 n (some n)) = some n := rfl
    simp -dsimp only [↓WPd, ↓wpC_block, ↓wpC_cond, WPu, Bool.false_eq_true, Bool.true_eq_false, Bool.not_true, Bool.not_false, if_true, if_false, ite_true, ite_false, Nat.reduceEqDiff, Nat.reduceLT, true_and, List.map_cons, List.map_nil, Nat.zero_add, Nat.reduceBEq, i1, i2, cel_put]
    have oc : (σ ++ [AObj.cells c.cs])[σ.length]? = some (.cells c.cs) := by simp
    have g1 : Grows σ (σ ++ [AObj.cells c.cs]) := Grows.app _ _
    have ha1 := ha.grow g1
    have htv1 := htv.grow g1
    have hpv1 := hpv.grow g1
    generalize σ ++ [AObj.cells c.cs] = σ1 at oc g1 ha1 htv1 hpv1
    generalize hic : σ.length = ic at oc
    by_cases hc : c.k = 4
    · obtain ⟨-, -, v1, v2, v3⟩ := ok_var hok hc
      rw [if_pos hc] at hpF
      simp -dsimp only [↓WPd, ↓wpC_block, ↓wpC_cond, WPu, Bool.false_eq_true, Bool.true_eq_false, Bool.not_true, Bool.not_false, if_true, if_false, ite_true, ite_false, Nat.reduceEqDiff, Nat.reduceLT, true_and, List.map_cons, List.map_nil, Nat.zero_add, Nat.reduceBEq, faddr_ptr, Nat.add_zero, load_cells oc, Cel.g0, k4, decide_eq_true hc]
      by_cases h1 : c.v.1 = -1
      · have e1 : decide (c.v.1 ≥ 0) = false := by rw [h1]; rfl
        by_cases h2 : c.v.2 < n
        · obtain ⟨j, hj⟩ : ∃ j : Nat, c.v.2 = j := ⟨c.v.2.toNat, by omega⟩
          have hjn : j < n := by omega
          have hjl : j < s.ls.length := by omega
          have e2 : decide (c.v.2 ≥ (n : Int)) = false := by rw [decide_eq_false_iff_not]; omega
          have ia : iaddrV 1 (.slice 1 aid 0 0 n (some n)) (.int .i64 c.v.2) = some (.eptr aid 0 j 0) := by
            rw [hj]; have := arr_iaddr (sz := 1) (id := aid) (ep := 0) (off := 0) (len := n) (cap := some n) hjn .i64; rwa [Nat.zero_add] at this
          obtain ⟨e, l1, l2⟩ := ha1.get hjl
          have hjt : c.v.2.toNat = j := by omega
          rw [hjt] at hpF
          have hgj : s.ls[j]?.getD [] = s.ls[j] := by rw [List.getElem?_eq_getElem hjl]; rfl
          rw [hgj] at hpF
          by_cases h3 : s.ls[j] = []
          · have e3 : decide (((s.ls[j]).length : Int) > 0) = false := by rw [h3]; rfl
            rw [if_neg (by rintro (h | h | h)
                           · omega
                           · omega
                           · exact h h3)] at hpF
            obtain ⟨σ3, p1, p2, p3⟩ := ha1.put htv1 hjl
            simp -dsimp only [↓WPd, ↓wpC_block, ↓wpC_cond, WPu, Bool.false_eq_true, Bool.true_eq_false, Bool.not_true, Bool.not_false, if_true, if_false, ite_true, ite_false, Nat.reduceEqDiff, Nat.reduceLT, true_and, List.map_cons, List.map_nil, Nat.zero_add, Nat.reduceBEq, faddr_ptr, Nat.add_zero, Nat.reduceAdd, load_cells oc, Cel.g3, Cel.g4, e1, isnil_ptr, load_cells ha1.obj, f1, ls1, e2, ia, l1, l2, e3, p1]
            refine ⟨true, nv, _, rfl, p2, Keeps.trans g1.any p3 fun i hi e => .inr (.inl e), fun i hi => .inl hi, hpF, Nat.le_add_right _ _, by simp⟩
          · have e3 : decide (((s.ls[j]).length : Int) > 0) = true := by
              have := List.length_pos_iff.2 h3
              rw [decide_eq_true_eq]; omega
            rw [if_pos (.inr (.inr h3))] at hpF
            simp -dsimp only [↓WPd, ↓wpC_block, ↓wpC_cond, WPu, Bool.false_eq_true, Bool.true_eq_false, Bool.not_true, Bool.not_false, if_true, if_false, ite_true, ite_false, Nat.reduceEqDiff, Nat.reduceLT, true_and, List.map_cons, List.map_nil, Nat.zero_add, Nat.reduceBEq, faddr_ptr, Nat.add_zero, Nat.reduceAdd, load_cells oc, Cel.g3, Cel.g4, e1, isnil_ptr, load_cells ha1.obj, f1, ls1, e2, ia, l1, l2, e3]
            exact StepQ.plain ha g1 hpF
        · have e2 : decide (c.v.2 ≥ (n : Int)) = true := by rw [decide_eq_true_eq]; omega
          rw [if_pos (.inr (.inl (by omega)))] at hpF
          simp -dsimp only [↓WPd, ↓wpC_block, ↓wpC_cond, WPu, Bool.false_eq_true, Bool.true_eq_false, Bool.not_true, Bool.not_false, if_true, if_false, ite_true, ite_false, Nat.reduceEqDiff, Nat.reduceLT, true_and, List.map_cons, List.map_nil, Nat.zero_add, Nat.reduceBEq, faddr_ptr, Nat.add_zero, Nat.reduceAdd, load_cells oc, Cel.g3, Cel.g4, e1, isnil_ptr, load_cells ha1.obj, f1, ls1, e2]
          exact StepQ.plain ha g1 hpF
      · have e1 : decide (c.v.1 ≥ 0) = true := by rw [decide_eq_true_eq]; omega
        rw [if_pos (.inl (by omega))] at hpF
        simp -dsimp only [↓WPd, ↓wpC_block, ↓wpC_cond, WPu, Bool.false_eq_true, Bool.true_eq_false, Bool.not_true, Bool.not_false, if_true, if_false, ite_true, ite_false, Nat.reduceEqDiff, Nat.reduceLT, true_and, List.map_cons, List.map_nil, Nat.zero_add, Nat.reduceBEq, faddr_ptr, Nat.add_zero, Nat.reduceAdd, load_cells oc, Cel.g3, Cel.g4, e1]
        exact StepQ.plain ha g1 hpF
    · rw [if_neg hc] at hpF
      have gd := deref_glob hw ht
      have sd := right_small (glob_right gd)
      simp -dsimp only [↓WPd, ↓wpC_block, ↓wpC_cond, WPu, Bool.false_eq_true, Bool.true_eq_false, Bool.not_true, Bool.not_false, if_true, if_false, ite_true, ite_false, Nat.reduceEqDiff, Nat.reduceLT, true_and, List.map_cons, List.map_nil, Nat.zero_add, Nat.reduceBEq, faddr_ptr, Nat.add_zero, load_cells oc, Cel.g0, k4, decide_eq_false hc, isnil_ptr, load_cells ha1.obj, f0]
      refine calledW_of (rderef_ok d σ1 rv tv R t (h0.grow ha1.old) hw hR htv1.sl) ?_
      rintro u σ2 ⟨ou, g2⟩
      have ha2 := ha1.grow g2
      have hpv2 := hpv1.grow g2
      have oc2 := g2.get oc
      have hd0 : 0 < (deref R t).length := (right_len (glob_right gd)).1
      obtain ⟨r0, r3, d1, d2, d3, d4, d5, d6⟩ := head_at ou hd0
      generalize hdt : deref R t = dt at *
      generalize hee : dt.headD default = e at *
      have ke : ((e.k : Int) == 4) = decide (e.k = 4) := by by_cases h : e.k = 4 <;> simp [h] <;> omega
      simp -dsimp only [↓WPd, ↓wpC_block, ↓wpC_cond, WPu, Bool.false_eq_true, Bool.true_eq_false, Bool.not_true, Bool.not_false, if_true, if_false, ite_true, ite_false, Nat.reduceEqDiff, Nat.reduceLT, true_and, List.map_cons, List.map_nil, Nat.zero_add, Nat.reduceBEq, d1, d2, cel_put]
      have oe : (σ2 ++ [AObj.cells e.cs])[σ2.length]? = some (.cells e.cs) := by simp
      have g3 : Grows σ2 (σ2 ++ [AObj.cells e.cs]) := Grows.app _ _
      have ha3 := ha2.grow g3
      have hpv3 := hpv2.grow g3
      have ou3 := ou.grow g3
      have oc3 := g3.get oc2
      generalize σ2 ++ [AObj.cells e.cs] = σ3 at oe g3 ha3 hpv3 ou3 oc3
      generalize σ2.length = ie at oe
      have g03 := (g1.trans g2).trans g3
      by_cases hd : e.k = 4
      · rw [if_pos hd] at hpF
        have hnx : s.ws.length < 2 ^ 40 := by omega
        simp -dsimp only [↓WPd, ↓wpC_block, ↓wpC_cond, WPu, Bool.false_eq_true, Bool.true_eq_false, Bool.not_true, Bool.not_false, if_true, if_false, ite_true, ite_false, Nat.reduceEqDiff, Nat.reduceLT, true_and, List.map_cons, List.map_nil, Nat.zero_add, Nat.reduceBEq, faddr_ptr, Nat.add_zero, Nat.zero_add, load_cells oe, Cel.g0, ke, decide_eq_true hd, isnil_ptr, load_cells ha3.obj, f2, celvar_load oe]
        refine calledW_of (hasname_ok d σ3 nv s.ws e.v hnx ha3.names.sl) ?_
        rintro r σ4 ⟨rfl, g4⟩
        have ha4 := ha3.grow g4
        have g04 := g03.trans g4
        have oe4 := g4.get oe
        simp -dsimp only [↓WPd, ↓wpC_block, ↓wpC_cond, WPu, Bool.false_eq_true, Bool.true_eq_false, Bool.not_true, Bool.not_false, if_true, if_false, ite_true, ite_false, Nat.reduceEqDiff, Nat.reduceLT, true_and, List.map_cons, List.map_nil, Nat.zero_add, Nat.reduceBEq]
        have hal := addN_len s.ws e.v
        cases hcn : s.ws.contains e.v with
        | true =>
          have hadd : addN s.ws e.v = s.ws := by rw [addN, hcn, if_pos rfl]
          rw [hadd] at hpF
          simp -dsimp only [↓WPd, ↓wpC_block, ↓wpC_cond, WPu, Bool.false_eq_true, Bool.true_eq_false, Bool.not_true, Bool.not_false, if_true, if_false, ite_true, ite_false, Nat.reduceEqDiff, Nat.reduceLT, true_and, List.map_cons, List.map_nil, Nat.zero_add, Nat.reduceBEq]
          exact ⟨true, nv, s, rfl, ha4, g04.any, fun i hi => .inl hi, hpF, Nat.le_add_right _ _, rfl⟩
        | false =>
          have hadd : addN s.ws e.v = s.ws ++ [e.v] := by rw [addN, hcn, if_neg (by simp)]
          obtain ⟨l', σ5, p1, p2, p3, p4, p5⟩ := ha4.names.name e.v hnx
          have hne := ha4.names.noCell ha4.obj
          have ho5 := p3.get ha4.obj hne
          have st := store_cells ho5 (off := 2) (v := l') (by simp [fmR]) p2.one
          have es1 : (fmR rv n aid nv).set 2 l' = fmR rv n aid l' := rfl
          rw [es1] at st
          simp -dsimp only [↓WPd, ↓wpC_block, ↓wpC_cond, WPu, Bool.false_eq_true, Bool.true_eq_false, Bool.not_true, Bool.not_false, if_true, if_false, ite_true, ite_false, Nat.reduceEqDiff, Nat.reduceLT, true_and, List.map_cons, List.map_nil, Nat.zero_add, Nat.reduceBEq, faddr_ptr, Nat.add_zero, Nat.zero_add, isnil_ptr, load_cells ha4.obj, f2, celvar_load oe4, nm_lit, elems2, p1, st]
          rw [hadd] at hpF hal
          have k45 : Keeps (fun i => i = id ∨ nv.sid = some i) σ4 (σ5.set id (.cells (fmR rv n aid l'))) := Keeps.trans (p3.mono fun i hi e => .inr e) (Keeps.set _ _ _) fun i _ h => .inl h
          obtain ⟨a1, a2⟩ := ha4.noted (get_set ho5) (p2.keeps (Keeps.set _ _ _) fun i hi e => by rw [e] at hi; exact p2.noCell ho5 hi) k45 (fun i hi => (p4 i hi).imp (fun h => h) fun h => by omega)
          refine ⟨true, l', _, rfl, a1, Keeps.trans g04.any a2 fun i _ h => h, fun i hi => (p4 i hi).imp (fun h => h) fun h => by have := g04.1; omega, hpF, by simp only; omega, rfl⟩
      · rw [if_neg hd] at hpF
        by_cases hce : c = e
        · rw [if_neg (fun h => h hce)] at hpF
          simp -dsimp only [↓WPd, ↓wpC_block, ↓wpC_cond, WPu, Bool.false_eq_true, Bool.true_eq_false, Bool.not_true, Bool.not_false, if_true, if_false, ite_true, ite_false, Nat.reduceEqDiff, Nat.reduceLT, true_and, List.map_cons, List.map_nil, Nat.zero_add, Nat.reduceBEq, faddr_ptr, Nat.add_zero, load_cells oe, Cel.g0, ke, decide_eq_false hd, cell_load oe, cell_load oc3, Cel.eqs, decide_eq_true hce]
          refine calledW_of (rargs_ok d σ3 pv p (right_small hp).1 hpv3) ?_
          rintro al σ4 ⟨g4, es, oa⟩
          simp -dsimp only [↓WPd, ↓wpC_block, ↓wpC_cond, WPu, Bool.false_eq_true, Bool.true_eq_false, Bool.not_true, Bool.not_false, if_true, if_false, ite_true, ite_false, Nat.reduceEqDiff, Nat.reduceLT, true_and, List.map_cons, List.map_nil, Nat.zero_add, Nat.reduceBEq]
          refine calledW_of (rargs_ok d σ4 u dt sd.1 (ou3.grow g4)) ?_
          rintro bl σ5 ⟨g5, fs, ob⟩
          have ta : OT σ5 σ3.length al es (args p) := oa.ot.grow g5
          have tb : OT σ5 σ3.length bl fs (args dt) := ⟨ob.ot.row, ob.ot.two, ob.ot.frl.le g4.1⟩
          have ha5 := (ha3.grow g4).grow g5
          have g05 := g03.trans (g4.trans g5)
          obtain ⟨hl1, hl2⟩ := ha3.lt
          have hsame := args_same hp (glob_right gd) (by rw [hcc, hee]; exact hce)
          have hfl := args_flat p
          have h8 := args_len8 p
          have hA : ∀ x ∈ args p, right x = true := fun x hx => args_rights hx
          have hB : ∀ x ∈ args dt, glob x = true := fun x hx => args_glob gd hx
          generalize args p = azs at *
          generalize args dt = bs at *
          have la := ta.len
          simp -dsimp only [↓WPd, ↓wpC_block, ↓wpC_cond, WPu, Bool.false_eq_true, Bool.true_eq_false, Bool.not_true, Bool.not_false, if_true, if_false, ite_true, ite_false, Nat.reduceEqDiff, Nat.reduceLT, true_and, List.map_cons, List.map_nil, Nat.zero_add, Nat.reduceBEq]
          refine loop_rule2 (fun m' vs σ' => ∃ (k : Nat) (nk : AVal) (sk : TSt), k ≤ azs.length ∧ m' = azs.length - k ∧ vs = [.ptr id 0, al, bl, .int .i64 k] ∧ Tried (fmR rv n aid) σ0 id aid (partF (deref R) m) s azs bs σ3.length al bl es fs nv σ5 σ' k nk sk)
            [6] (fun e vs σ' => ∃ (nk : AVal) (sk : TSt), Att (fmR rv n aid) σ0 id aid σ' nk sk ∧ Keeps (Mv id aid nv) σ5 σ' ∧ (∀ i, nk.sid = some i → nv.sid = some i ∨ σ5.length ≤ i) ∧ sk.ws.length ≤ s.ws.length + azs.flatten.length ∧ sk.ls.length = s.ls.length ∧ ((e = .exit 0 ∧ foldO (partF (deref R) m) s azs bs = some sk) ∨ (e = .ret ∧ vs = [.bool false] ∧ foldO (partF (deref R) m) s azs bs = none))) azs.length
            ⟨0, nv, s, Nat.zero_le _, rfl, ?_, ⟨ha5, Keeps.refl _ _, fun i h => .inl h, ta, tb, rfl, by simp, rfl⟩⟩ ?_ ?_
          · simp -dsimp only [↓WPd, ↓wpC_block, ↓wpC_cond, WPu, Bool.false_eq_true, Bool.true_eq_false, Bool.not_true, Bool.not_false, if_true, if_false, ite_true, ite_false, Nat.reduceEqDiff, Nat.reduceLT, true_and, List.map_cons, List.map_nil, Nat.zero_add, Nat.reduceBEq]; rfl
          · rintro m' vs σ' ⟨k, nk, sk, hk, rfl, rfl, T⟩
            simp -dsimp only [↓WPd, ↓wpC_block, ↓wpC_cond, WPu, Bool.false_eq_true, Bool.true_eq_false, Bool.not_true, Bool.not_false, if_true, if_false, ite_true, ite_false, Nat.reduceEqDiff, Nat.reduceLT, true_and, List.map_cons, List.map_nil, Nat.zero_add, Nat.reduceBEq, la]
            refine condP_dec (fun h => ?_) (fun h => ?_)
            · have hk' : k < azs.length := by omega
              have hkb : k < bs.length := by omega
              obtain ⟨x, e1, e2, e3⟩ := T.ra.at hk'
              obtain ⟨y, f1, f2, f3⟩ := T.rb.at hkb
              have hfs := flat_step hk'
              have hfle := flat_le azs (k + 1)
              have hws := T.ws
              have hls := T.ls
              simp -dsimp only [↓WPd, ↓wpC_block, ↓wpC_cond, WPu, Bool.false_eq_true, Bool.true_eq_false, Bool.not_true, Bool.not_false, if_true, if_false, ite_true, ite_false, Nat.reduceEqDiff, Nat.reduceLT, true_and, List.map_cons, List.map_nil, Nat.zero_add, Nat.reduceBEq, e1, e2, f1, f2]
              refine calledW_of (rpart_ok rv R n aid id σ0 h0 hw hR m σ' nk x y sk azs[k] bs[k] (by omega) (hA _ (List.getElem_mem hk')) (hB _ (List.getElem_mem hkb)) (by omega) (by omega) T.att e3.sl f3) ?_
              intro r σ6 hq
              obtain ⟨b, rfl, nk', sk', a1, a2, a3, a4, a5, a6, a7⟩ := T.step hk' hkb hl1 hl2 hq
              cases b with
              | true =>
                simp -dsimp only [↓WPd, ↓wpC_block, ↓wpC_cond, WPu, Bool.false_eq_true, Bool.true_eq_false, Bool.not_true, Bool.not_false, if_true, if_false, ite_true, ite_false, Nat.reduceEqDiff, Nat.reduceLT, true_and, List.map_cons, List.map_nil, Nat.zero_add, Nat.reduceBEq]
                exact ⟨azs.length - (k + 1), by omega, k + 1, nk', sk', by omega, rfl, by rw [wrap_i64 (by omega) (by omega), Int.natCast_add, Int.natCast_one], a6 rfl⟩
              | false =>
                simp -dsimp only [↓WPd, ↓wpC_block, ↓wpC_cond, WPu, Bool.false_eq_true, Bool.true_eq_false, Bool.not_true, Bool.not_false, if_true, if_false, ite_true, ite_false, Nat.reduceEqDiff, Nat.reduceLT, true_and, List.map_cons, List.map_nil, Nat.zero_add, Nat.reduceBEq]
                exact ⟨nk', sk', a1, a2, a3, by omega, a5, .inr (by first | exact a7 rfl | exact ⟨rfl, a7 rfl⟩)⟩
            · have : k = azs.length := by omega
              subst this
              have hws := T.ws
              have hres := T.res
              rw [List.take_length] at hws
              rw [foldO_end] at hres
              simp -dsimp only [↓WPd, ↓wpC_block, ↓wpC_cond, WPu, Bool.false_eq_true, Bool.true_eq_false, Bool.not_true, Bool.not_false, if_true, if_false, ite_true, ite_false, Nat.reduceEqDiff, Nat.reduceLT, true_and, List.map_cons, List.map_nil, Nat.zero_add, Nat.reduceBEq]
              exact ⟨nk, sk, T.att, T.keep, T.nam, hws, T.ls, .inl (by first | exact hres | exact ⟨rfl, hres⟩)⟩
          · rintro x σ' env ⟨nk, sk, a1, a2, a3, a4, a5, ⟨rfl, hres⟩ | ⟨rfl, hv', hres⟩⟩
            · simp -dsimp only [↓WPd, ↓wpC_block, ↓wpC_cond, WPu, Bool.false_eq_true, Bool.true_eq_false, Bool.not_true, Bool.not_false, if_true, if_false, ite_true, ite_false, Nat.reduceEqDiff, Nat.reduceLT, true_and, List.map_cons, List.map_nil, Nat.zero_add, Nat.reduceBEq]
              exact ⟨true, nk, sk, rfl, a1, Keeps.trans g05.any a2 fun i _ h => h, fun i hi => (a3 i hi).imp (fun h => h) fun h => by have := g05.1; omega, by rw [hpF]; exact hres, by omega, a5⟩
            · simp only [List.map_cons, List.map_nil, List.cons.injEq, and_true] at hv'
              simp -dsimp only [↓WPd, ↓wpC_block, ↓wpC_cond, WPu, Bool.false_eq_true, Bool.true_eq_false, Bool.not_true, Bool.not_false, if_true, if_false, ite_true, ite_false, Nat.reduceEqDiff, Nat.reduceLT, true_and, List.map_cons, List.map_nil, Nat.zero_add, Nat.reduceBEq, hv']
              exact ⟨false, nk, sk, rfl, a1, Keeps.trans g05.any a2 fun i _ h => h, fun i hi => (a3 i hi).imp (fun h => h) fun h => by have := g05.1; omega, by rw [hpF]; exact hres, by omega, a5⟩
        · rw [if_pos hce] at hpF
          simp -dsimp only [↓WPd, ↓wpC_block, ↓wpC_cond, WPu, Bool.false_eq_true, Bool.true_eq_false, Bool.not_true, Bool.not_false, if_true, if_false, ite_true, ite_false, Nat.reduceEqDiff, Nat.reduceLT, true_and, List.map_cons, List.map_nil, Nat.zero_add, Nat.reduceBEq, faddr_ptr, Nat.add_zero, load_cells oe, Cel.g0, ke, decide_eq_false hd, cell_load oe, cell_load oc3, Cel.eqs, decide_eq_false hce]
          exact StepQ.plain ha g03 hpF
end
end Go.Proofs.YtkjnanfkclijcaaDoor.Am

namespace Go.Proofs.YtkjnanfkclijcaaDoor.Am
open Go
set_option linter.unusedVariables false
set_option linter.unusedSimpArgs false
set_option linter.unusedSectionVars false
set_option maxRecDepth 100000
theorem deref_smallT {H : Hp} (hw : WF H) {t : List Cel} (h : Small t) : Small (deref H t) := by
  rcases deref_mem (H := H) t with e | ⟨v, hm⟩
  · rw [e]; exact h
  · exact right_small (glob_right (hw.ok _ hm).2.2.1)
theorem HeapV.one {σ : Store} {hv : AVal} {H : Hp} (h : HeapV σ hv H) : hv.one = true := by
  rcases h with ⟨rfl, _⟩ | ⟨id, mid, vs, rfl, _⟩ <;> rfl
theorem RefV.one {σ : Store} {rv : AVal} {R : Hp} (h : RefV σ rv R) : rv.one = true := by
  rcases h with ⟨rfl, _⟩ | ⟨id, A, rfl, _⟩ <;> rfl
def TryOk (σ : Store) (r : AVal) (x : TryR) : Prop := ∃ lv wv, r = .agg (tryC x.k lv wv) ∧ Terms σ lv x.ls ∧ SlOf σ 2 wv (NN x.ws)
theorem TryOk.grow {σ σ' : Store} {r : AVal} {x : TryR} (h : TryOk σ r x) (g : Grows σ σ') : TryOk σ' r x := by
  obtain ⟨lv, wv, h1, h2, h3⟩ := h
  exact ⟨lv, wv, h1, h2.grow g, h3.grow g⟩
theorem Terms.one {σ : Store} {l : AVal} {ts : List (List Cel)} (h : Terms σ l ts) : l.one = true := by obtain ⟨es, h1, -⟩ := h; exact h1.one
theorem try_told {σ σ0 : Store} {i k : Nat} {lv wv : AVal} {x : TryR} (ho : σ[i]? = some (.cells tryZ)) (hk : x.k = k) (h1 : Terms σ lv x.ls) (h2 : SlOf σ 2 wv (NN x.ws)) (hi : σ0.length ≤ i) (g : Grows σ0 σ) (n1 : ∀ j, lv.sid = some j → j ≠ i) (n2 : ∀ j, wv.sid = some j → j ≠ i) (n3 : ∀ (es : List AVal) (e : AVal) (j : Nat), SlOf σ 1 lv es → e ∈ es → e.sid = some j → j ≠ i) :
    ∃ σ', storeV σ 4 (.ptr i 0) (.agg (tryC k lv wv)) = some σ' ∧ loadV σ' 4 true (.ptr i 0) = some (.agg (tryC k lv wv)) ∧ Grows σ0 σ' ∧ TryOk σ' (.agg (tryC k lv wv)) x := by
  obtain ⟨p1, p2⟩ := try_put (σ' := σ) (k := k) ho h1.one h2.one
  have kk := Keeps.set σ i (.cells (tryC k lv wv))
  refine ⟨_, p1, p2, Keeps.trans g kk fun j hj e => by omega, lv, wv, by rw [hk], ?_, h2.keeps kk fun j hj e => n2 j hj e⟩
  obtain ⟨es, a1, a2⟩ := h1
  refine ⟨es, a1.keeps kk fun j hj e => n1 j hj e, a2.mono_mem fun e t he ht hs => hs.keeps kk fun j hj e' => n3 es e j a1 he hj e'⟩
theorem try_none {σ σ0 : Store} {i k : Nat} {wv : AVal} {x : TryR} (ho : σ[i]? = some (.cells tryZ)) (hx : x = ⟨k, [], x.ws⟩) (h2 : SlOf σ 2 wv (NN x.ws)) (hi : σ0.length ≤ i) (g : Grows σ0 σ) :
    ∃ σ', storeV σ 4 (.ptr i 0) (.agg (tryC k .nilslice wv)) = some σ' ∧ loadV σ' 4 true (.ptr i 0) = some (.agg (tryC k .nilslice wv)) ∧ Grows σ0 σ' ∧ TryOk σ' (.agg (tryC k .nilslice wv)) x :=
  try_told ho (by rw [hx]) (by rw [hx]; exact Terms.nil _) h2 hi g (fun j h => by cases h) (fun j h e => h2.noCell ho (by rw [← e]; exact h)) (fun es e j h he => by
    rcases h.cases with ⟨_, rfl⟩ | ⟨t, f, h⟩ | ⟨id, ep, off, cap, sz', xs, epo, fl, h, _⟩
    · cases he
    · cases h
    · cases h)
theorem Att.new (fm : AVal → List AVal) (σ : Store) (n : Nat) : Att fm σ (σ.length + 1) σ.length ((σ ++ [.arr 1 (List.replicate n .nilslice) 0 0]) ++ [.cells (fm .nilslice)]) .nilslice ⟨List.replicate n [], []⟩ := by
  refine ⟨Grows.trans (Grows.app _ _) (Grows.app _ _), by omega, Nat.le_refl _, Fresh.nil _, by simp, Own.nil _ _, List.replicate n .nilslice, by simp, ?_⟩
  refine Two.of_get (by simp) fun i a b ha hb => ?_
  rw [List.getElem?_replicate] at ha hb
  by_cases h : i < n
  · rw [if_pos h] at ha hb
    cases ha; cases hb; exact Own.nil _ _
  · rw [if_neg h] at ha
    cases ha
theorem Att.terms {fm : AVal → List AVal} {σ0 : Store} {id aid : Nat} {nv : AVal} {s : TSt} {σ : Store} (ha : Att fm σ0 id aid σ nv s) : ∃ es, Own σ 1 (.slice 1 aid 0 0 s.ls.length (some s.ls.length)) es ∧ Two (fun e t => Own σ 5 e (CC t)) es s.ls := by
  obtain ⟨es, h1, h2⟩ := ha.arr
  refine ⟨es, ⟨.inr (.inr ⟨aid, 0, 0, some s.ls.length, es, 0, 0, by rw [h2.len], h1, Nat.le_refl _, by simp, fun _ => by simp, .inr (by rw [h2.len])⟩)⟩, h2⟩
theorem mk_locals (σ : Store) {n : Nat} (hn : n ≤ 1048576) : mkslV σ 1 24 [.nilslice] false (.int .i64 n) (.int .i64 n) = some (.slice 1 σ.length 0 0 n (some n), σ ++ [.arr 1 (List.replicate n .nilslice) 0 0]) := by
  have e : (0 : Int) ≤ (n : Int) ∧ (n : Int) ≤ (n : Int) ∧ (n : Int) * ((24 : Nat) : Int) ≤ apLim := by
    refine ⟨by omega, by omega, ?_⟩
    have : (apLim : Int) = 70368744177664 := rfl
    omega
  simp only [mkslV]
  rw [if_pos e]
  simp [zel]
theorem fmP_build {hv lv : AVal} (h1 : hv.one = true) (h2 : lv.one = true) : fillA [AVal.nilslice, .nilptr, .nilslice] [(1, 1, hv), (2, 1, lv)] = some [.nilslice, hv, lv] := by
  have c1 : hv.cells = [hv] := by cases hv <;> simp_all [AVal.one]
  have c2 : lv.cells = [lv] := by cases lv <;> simp_all [AVal.one]
  have a1 : [hv].all AVal.one = true := by simp only [List.all_cons, List.all_nil, h1]; rfl
  have a2 : [lv].all AVal.one = true := by simp only [List.all_cons, List.all_nil, h2]; rfl
  simp only [fillA, c1, c2, a1, a2]
  rfl
theorem fmR_build {hv lv : AVal} (h1 : hv.one = true) (h2 : lv.one = true) : fillA [AVal.nilptr, .nilslice, .nilslice] [(0, 1, hv), (1, 1, lv)] = some [hv, lv, .nilslice] := by
  have c1 : hv.cells = [hv] := by cases hv <;> simp_all [AVal.one]
  have c2 : lv.cells = [lv] := by cases lv <;> simp_all [AVal.one]
  have a1 : [hv].all AVal.one = true := by simp only [List.all_cons, List.all_nil, h1]; rfl
  have a2 : [lv].all AVal.one = true := by simp only [List.all_cons, List.all_nil, h2]; rfl
  simp only [fillA, c1, c2, a1, a2]
  rfl
theorem three_one {a b c : AVal} (h1 : a.one = true) (h2 : b.one = true) (h3 : c.one = true) : [a, b, c].all AVal.one = true := by simp only [List.all_cons, List.all_nil, h1, h2, h3]; rfl
section
variable (d : Nat) (σ : Store)
theorem mhead_ok (hv pv gv : AVal) (H : Hp) (p g : List Cel) (n : Nat) (hn : n ≤ 1048576) (h : HeapV σ hv H) (sp : Small p) (sg : Small g) (hp : SlOf σ 5 pv (CC p)) (hg : SlOf σ 5 gv (CC g)) :
    Called CU.cfg d 86 [hv, pv, gv, .int .i64 n] σ fun r σ' => Grows σ σ' ∧ TryOk σ' r (headL (deref H) n p g) := by
  refine called_of (fn := CU.a86) rfl (Nat.le_of_ble_eq_true rfl) ?_
  simp only [CU.a86]
  have hw := h.wf
  have sd := deref_smallT hw sg
  obtain ⟨x, hL⟩ : ∃ x, x = headL (deref H) n p g := ⟨_, rfl⟩
  rw [← hL]
  unfold headL at hL
  simp -dsimp only [↓WPd, ↓wpC_block, ↓wpC_cond, WPu, Bool.false_eq_true, Bool.true_eq_false, Bool.not_true, Bool.not_false, if_true, if_false, ite_true, ite_false, Nat.reduceEqDiff, Nat.reduceLT, true_and, List.map_cons, List.map_nil, Nat.zero_add, Nat.reduceBEq]
  have ho : (σ ++ [AObj.cells tryZ])[σ.length]? = some (.cells tryZ) := by simp
  have g0 : Grows σ (σ ++ [AObj.cells tryZ]) := Grows.app _ _
  generalize σ ++ [AObj.cells tryZ] = σ1 at ho g0
  generalize hi8 : σ.length = i8 at ho
  have hi : σ.length ≤ i8 := by omega
  have h1 := h.grow g0
  have hp1 := hp.grow g0
  refine calledW_of (hderef_ok d σ1 hv gv H g h1 (hg.grow g0) sd.1) ?_
  rintro u σ2 ⟨g2, ou, fu, nu⟩
  generalize hdt : deref H g = dt at *
  have g02 := g0.trans g2
  simp -dsimp only [↓WPd, ↓wpC_block, ↓wpC_cond, WPu, Bool.false_eq_true, Bool.true_eq_false, Bool.not_true, Bool.not_false, if_true, if_false, ite_true, ite_false, Nat.reduceEqDiff, Nat.reduceLT, true_and, List.map_cons, List.map_nil, Nat.zero_add, Nat.reduceBEq]
  refine calledW_of (global_ok d σ2 u dt sd ou.sl) ?_
  rintro r σ3 ⟨rfl, g3⟩
  have g03 := g02.trans g3
  have ho3 := g3.get (g2.get ho)
  have bad : x = ⟨2, [], []⟩ → ∀ {σ' : Store} (h : Grows σ3 σ'), ∃ σ'', storeV σ' 4 (.ptr i8 0) (.agg (tryC 2 .nilslice .nilslice)) = some σ'' ∧ loadV σ'' 4 true (.ptr i8 0) = some (.agg (tryC 2 .nilslice .nilslice)) ∧ Grows σ σ'' ∧ TryOk σ'' (.agg (tryC 2 .nilslice .nilslice)) x := fun hx σ' g => by
    subst hx
    exact try_none (g.get ho3) rfl (SlOf.nil _ _) hi (g03.trans g)
  cases hgd : glob dt with
  | false =>
    simp -dsimp only [↓WPd, ↓wpC_block, ↓wpC_cond, WPu, Bool.false_eq_true, Bool.true_eq_false, Bool.not_true, Bool.not_false, if_true, if_false, ite_true, ite_false, Nat.reduceEqDiff, Nat.reduceLT, true_and, List.map_cons, List.map_nil, Nat.zero_add, Nat.reduceBEq]
    refine calledW_of (fails_ok d σ3) ?_
    rintro r σ4 ⟨rfl, g4⟩
    obtain ⟨σ5, p1, p2, p3, p4⟩ := bad (by rw [hL]; simp [hgd]) g4
    simp -dsimp only [↓WPd, ↓wpC_block, ↓wpC_cond, WPu, Bool.false_eq_true, Bool.true_eq_false, Bool.not_true, Bool.not_false, if_true, if_false, ite_true, ite_false, Nat.reduceEqDiff, Nat.reduceLT, true_and, List.map_cons, List.map_nil, Nat.zero_add, Nat.reduceBEq, p1, p2]
    exact ⟨p3, p4⟩
  | true =>
    have ou3 := (ou.grow g3).sl
    obtain ⟨r0, r3, d1, d2, d3, d4, d5, d6⟩ := head_at ou3 (right_len (glob_right hgd)).1
    generalize hee : dt.headD default = e at *
    have ke : ((e.k : Int) == 1) = decide (e.k = 1) := by by_cases h : e.k = 1 <;> simp [h] <;> omega
    have ke4 : ((e.k : Int) == 4) = decide (e.k = 4) := by by_cases h : e.k = 4 <;> simp [h] <;> omega
    simp -dsimp only [↓WPd, ↓wpC_block, ↓wpC_cond, WPu, Bool.false_eq_true, Bool.true_eq_false, Bool.not_true, Bool.not_false, if_true, if_false, ite_true, ite_false, Nat.reduceEqDiff, Nat.reduceLT, true_and, List.map_cons, List.map_nil, Nat.zero_add, Nat.reduceBEq, d1, d3, d4, ke]
    by_cases hk1 : e.k = 1
    · simp -dsimp only [↓WPd, ↓wpC_block, ↓wpC_cond, WPu, Bool.false_eq_true, Bool.true_eq_false, Bool.not_true, Bool.not_false, if_true, if_false, ite_true, ite_false, Nat.reduceEqDiff, Nat.reduceLT, true_and, List.map_cons, List.map_nil, Nat.zero_add, Nat.reduceBEq, decide_eq_true hk1]
      refine calledW_of (fails_ok d σ3) ?_
      rintro r σ4 ⟨rfl, g4⟩
      obtain ⟨σ5, p1, p2, p3, p4⟩ := bad (by rw [hL]; simp [hk1]) g4
      simp -dsimp only [↓WPd, ↓wpC_block, ↓wpC_cond, WPu, Bool.false_eq_true, Bool.true_eq_false, Bool.not_true, Bool.not_false, if_true, if_false, ite_true, ite_false, Nat.reduceEqDiff, Nat.reduceLT, true_and, List.map_cons, List.map_nil, Nat.zero_add, Nat.reduceBEq, p1, p2]
      exact ⟨p3, p4⟩
    · have hp3 := hp1.grow (g2.trans g3)
      simp -dsimp only [↓WPd, ↓wpC_block, ↓wpC_cond, WPu, Bool.false_eq_true, Bool.true_eq_false, Bool.not_true, Bool.not_false, if_true, if_false, ite_true, ite_false, Nat.reduceEqDiff, Nat.reduceLT, true_and, List.map_cons, List.map_nil, Nat.zero_add, Nat.reduceBEq, decide_eq_false hk1]
      refine calledW_of (right_ok d σ3 pv p sp.1 sp.2 hp3) ?_
      rintro r σ4 ⟨rfl, g4⟩
      have ou4 := ou3.grow g4
      have hp4 := hp3.grow g4
      have ho4 := g4.get ho3
      have g04 := g03.trans g4
      cases hrp : right p with
      | false =>
        simp -dsimp only [↓WPd, ↓wpC_block, ↓wpC_cond, WPu, Bool.false_eq_true, Bool.true_eq_false, Bool.not_true, Bool.not_false, if_true, if_false, ite_true, ite_false, Nat.reduceEqDiff, Nat.reduceLT, true_and, List.map_cons, List.map_nil, Nat.zero_add, Nat.reduceBEq]
        refine calledW_of (fails_ok d σ4) ?_
        rintro r σ5 ⟨rfl, g5⟩
        obtain ⟨σ6, p1, p2, p3, p4⟩ := bad (by rw [hL]; simp [hrp]) (g4.trans g5)
        simp -dsimp only [↓WPd, ↓wpC_block, ↓wpC_cond, WPu, Bool.false_eq_true, Bool.true_eq_false, Bool.not_true, Bool.not_false, if_true, if_false, ite_true, ite_false, Nat.reduceEqDiff, Nat.reduceLT, true_and, List.map_cons, List.map_nil, Nat.zero_add, Nat.reduceBEq, p1, p2]
        exact ⟨p3, p4⟩
      | true =>
        rw [if_neg (by simp [hgd, hk1, hrp])] at hL
        obtain ⟨s0, s3, b1, b2, b3, b4, b5, b6⟩ := head_at ou4 (right_len (glob_right hgd)).1
        obtain ⟨t0, t3, c1, c2, -, -, -, -⟩ := head_at hp4 (right_len hrp).1
        rw [hee] at b2 b4 b6
        have er : s0 = r0 := by rw [d3] at b3; exact (Option.some.inj b3).symm
        subst er
        simp -dsimp only [↓WPd, ↓wpC_block, ↓wpC_cond, WPu, Bool.false_eq_true, Bool.true_eq_false, Bool.not_true, Bool.not_false, if_true, if_false, ite_true, ite_false, Nat.reduceEqDiff, Nat.reduceLT, true_and, List.map_cons, List.map_nil, Nat.zero_add, Nat.reduceBEq, d1, d3, b4, ke4]
        by_cases hk4 : e.k = 4
        · rw [if_pos hk4] at hL
          subst hL
          simp -dsimp only [↓WPd, ↓wpC_block, ↓wpC_cond, WPu, Bool.false_eq_true, Bool.true_eq_false, Bool.not_true, Bool.not_false, if_true, if_false, ite_true, ite_false, Nat.reduceEqDiff, Nat.reduceLT, true_and, List.map_cons, List.map_nil, Nat.zero_add, Nat.reduceBEq, decide_eq_true hk4, d1, b5, b6, nm_lit]
          refine calledW_of (waits_ok d σ4 _ rfl) ?_
          rintro r σ5 ⟨rfl, g5⟩
          obtain ⟨σ6, p1, p2, p3, p4⟩ := try_none (σ0 := σ) (k := 3) (wv := .fslice (AVal.tagL [nmV e.v]) true 2 [nmV e.v]) (x := ⟨3, [], [e.v]⟩) (g5.get ho4) rfl (SlOf.fs _ _ _ _ _) hi (g04.trans g5)
          simp -dsimp only [↓WPd, ↓wpC_block, ↓wpC_cond, WPu, Bool.false_eq_true, Bool.true_eq_false, Bool.not_true, Bool.not_false, if_true, if_false, ite_true, ite_false, Nat.reduceEqDiff, Nat.reduceLT, true_and, List.map_cons, List.map_nil, Nat.zero_add, Nat.reduceBEq, p1, p2]
          exact ⟨p3, p4⟩
        · rw [if_neg hk4] at hL
          simp -dsimp only [↓WPd, ↓wpC_block, ↓wpC_cond, WPu, Bool.false_eq_true, Bool.true_eq_false, Bool.not_true, Bool.not_false, if_true, if_false, ite_true, ite_false, Nat.reduceEqDiff, Nat.reduceLT, true_and, List.map_cons, List.map_nil, Nat.zero_add, Nat.reduceBEq, decide_eq_false hk4, d1, b2, c1, c2, Cel.eqs]
          by_cases hne : p.headD default = e
          · rw [if_neg (fun h => h hne)] at hL
            have hlen : (σ4 ++ [AObj.arr 1 (List.replicate n AVal.nilslice) 0 0]).length = σ4.length + 1 := by simp
            have h4 := ((h1.grow g2).grow g3).grow g4
            simp -dsimp only [↓WPd, ↓wpC_block, ↓wpC_cond, WPu, Bool.false_eq_true, Bool.true_eq_false, Bool.not_true, Bool.not_false, if_true, if_false, ite_true, ite_false, Nat.reduceEqDiff, Nat.reduceLT, true_and, List.map_cons, List.map_nil, Nat.zero_add, Nat.reduceBEq, decide_eq_true hne, mk_locals σ4 hn, fmP_build (lv := .slice 1 σ4.length 0 0 n (some n)) h.one rfl, cells_agg, three_one (a := .nilslice) (c := .slice 1 σ4.length 0 0 n (some n)) rfl h.one rfl, hlen]
            have ha : Att (fmP hv n σ4.length) σ4 (σ4.length + 1) σ4.length ((σ4 ++ [.arr 1 (List.replicate n .nilslice) 0 0]) ++ [.cells [.nilslice, hv, .slice 1 σ4.length 0 0 n (some n)]]) .nilslice ⟨List.replicate n [], []⟩ := Att.new _ σ4 n
            generalize (σ4 ++ [AObj.arr 1 (List.replicate n AVal.nilslice) 0 0]) ++ [AObj.cells [AVal.nilslice, hv, AVal.slice 1 σ4.length 0 0 n (some n)]] = σ5 at ha
            have g5 := ha.old
            refine calledW_of (mparts_ok d hv n σ4.length (σ4.length + 1) σ4 (deref H) 256 (mpart_ok d hv H n σ4.length (σ4.length + 1) σ4 h4 256) σ5 .nilslice pv u _ p dt (by have := right_len hrp; omega) hrp hgd (by rw [hee]; exact hne) (by have := right_len hrp; simp only [List.length_nil]; omega) (by simp) ha (hp4.grow g5) (ou4.grow g5)) ?_
            rintro r σ6 ⟨b, nv', s', rfl, a1, a2, a3, a4, a5, a6⟩
            have g6 := a1.old
            have ho6 := g6.get ho4
            have hi4 := (List.getElem?_eq_some_iff.1 ho4).1
            rw [a4] at hL
            cases b with
            | false =>
              simp -dsimp only [↓WPd, ↓wpC_block, ↓wpC_cond, WPu, Bool.false_eq_true, Bool.true_eq_false, Bool.not_true, Bool.not_false, if_true, if_false, ite_true, ite_false, Nat.reduceEqDiff, Nat.reduceLT, true_and, List.map_cons, List.map_nil, Nat.zero_add, Nat.reduceBEq]
              refine calledW_of (fails_ok d σ6) ?_
              rintro r σ7 ⟨rfl, g7⟩
              obtain ⟨σ8, p1, p2, p3, p4⟩ := bad (by rw [hL]; rfl) ((g4.trans g6).trans g7)
              simp -dsimp only [↓WPd, ↓wpC_block, ↓wpC_cond, WPu, Bool.false_eq_true, Bool.true_eq_false, Bool.not_true, Bool.not_false, if_true, if_false, ite_true, ite_false, Nat.reduceEqDiff, Nat.reduceLT, true_and, List.map_cons, List.map_nil, Nat.zero_add, Nat.reduceBEq, p1, p2]
              exact ⟨p3, p4⟩
            | true =>
              have f0 : (fmP hv n σ4.length nv')[0]? = some nv' := rfl
              have f2 : (fmP hv n σ4.length nv')[2]? = some (.slice 1 σ4.length 0 0 n (some n)) := rfl
              have ln := names_len a1.names.sl
              have hL' : x = if s'.ws = [] then ⟨1, s'.ls, []⟩ else ⟨3, [], s'.ws⟩ := hL
              simp -dsimp only [↓WPd, ↓wpC_block, ↓wpC_cond, WPu, Bool.false_eq_true, Bool.true_eq_false, Bool.not_true, Bool.not_false, if_true, if_false, ite_true, ite_false, Nat.reduceEqDiff, Nat.reduceLT, true_and, List.map_cons, List.map_nil, Nat.zero_add, Nat.reduceBEq, isnil_ptr, faddr_ptr, Nat.add_zero, load_cells a1.obj, f0, ln]
              by_cases hws : s'.ws = []
              · have e0 : decide ((s'.ws.length : Int) > 0) = false := by rw [hws]; rfl
                rw [if_pos hws] at hL'
                subst hL'
                obtain ⟨es, t1, t2⟩ := a1.terms
                have hls : s'.ls.length = n := by rw [a6]; simp
                rw [hls] at t1
                obtain ⟨σ7, p1, p2, p3, p4⟩ := try_told (σ0 := σ) (k := 1) (lv := .slice 1 σ4.length 0 0 n (some n)) (wv := .nilslice) (x := ⟨1, s'.ls, []⟩) ho6 rfl ⟨es, t1.sl, t2.mono fun e t h => h.sl⟩ (SlOf.nil _ _) hi (g04.trans g6) (fun j hj => by injection hj with hj; omega) (fun j hj => by cases hj) (fun fs e j hf he hj => by
                  have : fs = es := Option.some.inj (hf.1.symm.trans t1.sl.1)
                  subst this
                  obtain ⟨b, _, hb⟩ := t2.mem_left he
                  exact fun e' => hb.noCell ho6 (by rw [← e']; exact hj))
                simp -dsimp only [↓WPd, ↓wpC_block, ↓wpC_cond, WPu, Bool.false_eq_true, Bool.true_eq_false, Bool.not_true, Bool.not_false, if_true, if_false, ite_true, ite_false, Nat.reduceEqDiff, Nat.reduceLT, true_and, List.map_cons, List.map_nil, Nat.zero_add, Nat.reduceBEq, e0, isnil_ptr, faddr_ptr, Nat.zero_add, load_cells a1.obj, f2, try_commits (l := .slice 1 σ4.length 0 0 n (some n)) rfl, p1, p2]
                exact ⟨p3, p4⟩
              · have e0 : decide ((s'.ws.length : Int) > 0) = true := by
                  have := List.length_pos_iff.2 hws
                  rw [decide_eq_true_eq]; omega
                rw [if_neg hws] at hL'
                subst hL'
                simp -dsimp only [↓WPd, ↓wpC_block, ↓wpC_cond, WPu, Bool.false_eq_true, Bool.true_eq_false, Bool.not_true, Bool.not_false, if_true, if_false, ite_true, ite_false, Nat.reduceEqDiff, Nat.reduceLT, true_and, List.map_cons, List.map_nil, Nat.zero_add, Nat.reduceBEq, e0, isnil_ptr, faddr_ptr, Nat.add_zero, load_cells a1.obj, f0]
                refine calledW_of (waits_ok d σ6 nv' a1.names.one) ?_
                rintro r σ7 ⟨rfl, g7⟩
                obtain ⟨σ8, p1, p2, p3, p4⟩ := try_none (σ0 := σ) (k := 3) (wv := nv') (x := ⟨3, [], s'.ws⟩) (g7.get ho6) rfl (a1.names.grow g7).sl hi ((g04.trans g6).trans g7)
                simp -dsimp only [↓WPd, ↓wpC_block, ↓wpC_cond, WPu, Bool.false_eq_true, Bool.true_eq_false, Bool.not_true, Bool.not_false, if_true, if_false, ite_true, ite_false, Nat.reduceEqDiff, Nat.reduceLT, true_and, List.map_cons, List.map_nil, Nat.zero_add, Nat.reduceBEq, p1, p2]
                exact ⟨p3, p4⟩
          · rw [if_pos hne] at hL
            simp -dsimp only [↓WPd, ↓wpC_block, ↓wpC_cond, WPu, Bool.false_eq_true, Bool.true_eq_false, Bool.not_true, Bool.not_false, if_true, if_false, ite_true, ite_false, Nat.reduceEqDiff, Nat.reduceLT, true_and, List.map_cons, List.map_nil, Nat.zero_add, Nat.reduceBEq, decide_eq_false hne]
            refine calledW_of (fails_ok d σ4) ?_
            rintro r σ5 ⟨rfl, g5⟩
            obtain ⟨σ6, p1, p2, p3, p4⟩ := bad hL (g4.trans g5)
            simp -dsimp only [↓WPd, ↓wpC_block, ↓wpC_cond, WPu, Bool.false_eq_true, Bool.true_eq_false, Bool.not_true, Bool.not_false, if_true, if_false, ite_true, ite_false, Nat.reduceEqDiff, Nat.reduceLT, true_and, List.map_cons, List.map_nil, Nat.zero_add, Nat.reduceBEq, p1, p2]
            exact ⟨p3, p4⟩
end
end Go.Proofs.YtkjnanfkclijcaaDoor.Am

namespace Go.Proofs.YtkjnanfkclijcaaDoor.Am
open Go
set_option linter.unusedVariables false
set_option linter.unusedSimpArgs false
set_option linter.unusedSectionVars false
set_option maxRecDepth 100000
section
variable (d : Nat) (σ : Store)
set_option maxHeartbeats 1000000 in
theorem rhead_ok (rv pv gv : AVal) (R : Hp) (p g : List Cel) (n : Nat) (hn : n ≤ 1048576) (h : RefV σ rv R) (hw : WF R) (hR : R.length < 2 ^ 30) (sp : Small p) (sg : Small g) (hp : SlOf σ 5 pv (CC p)) (hg : SlOf σ 5 gv (CC g)) :
    Called CU.cfg d 87 [rv, pv, gv, .int .i64 n] σ fun r σ' => Grows σ σ' ∧ TryOk σ' r (headL (deref R) n p g) := by
  refine called_of (fn := CU.a87) rfl (Nat.le_of_ble_eq_true rfl) ?_
  simp only [CU.a87]
  have sd := deref_smallT hw sg
  obtain ⟨x, hL⟩ : ∃ x, x = headL (deref R) n p g := ⟨_, rfl⟩
  rw [← hL]
  unfold headL at hL
  simp -dsimp only [↓WPd, ↓wpC_block, ↓wpC_cond, WPu, Bool.false_eq_true, Bool.true_eq_false, Bool.not_true, Bool.not_false, if_true, if_false, ite_true, ite_false, Nat.reduceEqDiff, Nat.reduceLT, true_and, List.map_cons, List.map_nil, Nat.zero_add, Nat.reduceBEq]
  have ho : (σ ++ [AObj.cells tryZ])[σ.length]? = some (.cells tryZ) := by simp
  have g0 : Grows σ (σ ++ [AObj.cells tryZ]) := Grows.app _ _
  generalize σ ++ [AObj.cells tryZ] = σ1 at ho g0
  generalize hi8 : σ.length = i8 at ho
  have hi : σ.length ≤ i8 := by omega
  have h1 := h.grow g0
  have hp1 := hp.grow g0
  refine calledW_of (rderef_ok d σ1 rv gv R g h1 hw hR (hg.grow g0)) ?_
  rintro u σ2 ⟨ou, g2⟩
  generalize hdt : deref R g = dt at *
  have g02 := g0.trans g2
  simp -dsimp only [↓WPd, ↓wpC_block, ↓wpC_cond, WPu, Bool.false_eq_true, Bool.true_eq_false, Bool.not_true, Bool.not_false, if_true, if_false, ite_true, ite_false, Nat.reduceEqDiff, Nat.reduceLT, true_and, List.map_cons, List.map_nil, Nat.zero_add, Nat.reduceBEq]
  refine calledW_of (rglobal_ok d σ2 u dt sd.1 ou) ?_
  rintro r σ3 ⟨rfl, g3⟩
  have g03 := g02.trans g3
  have ho3 := g3.get (g2.get ho)
  have bad : x = ⟨2, [], []⟩ → ∀ {σ' : Store} (h : Grows σ3 σ'), ∃ σ'', storeV σ' 4 (.ptr i8 0) (.agg (tryC 2 .nilslice .nilslice)) = some σ'' ∧ loadV σ'' 4 true (.ptr i8 0) = some (.agg (tryC 2 .nilslice .nilslice)) ∧ Grows σ σ'' ∧ TryOk σ'' (.agg (tryC 2 .nilslice .nilslice)) x := fun hx σ' g => by
    subst hx
    exact try_none (g.get ho3) rfl (SlOf.nil _ _) hi (g03.trans g)
  cases hgd : glob dt with
  | false =>
    simp -dsimp only [↓WPd, ↓wpC_block, ↓wpC_cond, WPu, Bool.false_eq_true, Bool.true_eq_false, Bool.not_true, Bool.not_false, if_true, if_false, ite_true, ite_false, Nat.reduceEqDiff, Nat.reduceLT, true_and, List.map_cons, List.map_nil, Nat.zero_add, Nat.reduceBEq]
    refine calledW_of (rfails_ok d σ3) ?_
    rintro r σ4 ⟨rfl, g4⟩
    obtain ⟨σ5, p1, p2, p3, p4⟩ := bad (by rw [hL]; simp [hgd]) g4
    simp -dsimp only [↓WPd, ↓wpC_block, ↓wpC_cond, WPu, Bool.false_eq_true, Bool.true_eq_false, Bool.not_true, Bool.not_false, if_true, if_false, ite_true, ite_false, Nat.reduceEqDiff, Nat.reduceLT, true_and, List.map_cons, List.map_nil, Nat.zero_add, Nat.reduceBEq, p1, p2]
    exact ⟨p3, p4⟩
  | true =>
    have ou3 := ou.grow g3
    obtain ⟨r0, r3, d1, d2, d3, d4, d5, d6⟩ := head_at ou3 (right_len (glob_right hgd)).1
    generalize hee : dt.headD default = e at *
    have ke : ((e.k : Int) == 1) = decide (e.k = 1) := by by_cases h : e.k = 1 <;> simp [h] <;> omega
    have ke4 : ((e.k : Int) == 4) = decide (e.k = 4) := by by_cases h : e.k = 4 <;> simp [h] <;> omega
    simp -dsimp only [↓WPd, ↓wpC_block, ↓wpC_cond, WPu, Bool.false_eq_true, Bool.true_eq_false, Bool.not_true, Bool.not_false, if_true, if_false, ite_true, ite_false, Nat.reduceEqDiff, Nat.reduceLT, true_and, List.map_cons, List.map_nil, Nat.zero_add, Nat.reduceBEq, d1, d3, d4, ke]
    by_cases hk1 : e.k = 1
    · simp -dsimp only [↓WPd, ↓wpC_block, ↓wpC_cond, WPu, Bool.false_eq_true, Bool.true_eq_false, Bool.not_true, Bool.not_false, if_true, if_false, ite_true, ite_false, Nat.reduceEqDiff, Nat.reduceLT, true_and, List.map_cons, List.map_nil, Nat.zero_add, Nat.reduceBEq, decide_eq_true hk1]
      refine calledW_of (rfails_ok d σ3) ?_
      rintro r σ4 ⟨rfl, g4⟩
      obtain ⟨σ5, p1, p2, p3, p4⟩ := bad (by rw [hL]; simp [hk1]) g4
      simp -dsimp only [↓WPd, ↓wpC_block, ↓wpC_cond, WPu, Bool.false_eq_true, Bool.true_eq_false, Bool.not_true, Bool.not_false, if_true, if_false, ite_true, ite_false, Nat.reduceEqDiff, Nat.reduceLT, true_and, List.map_cons, List.map_nil, Nat.zero_add, Nat.reduceBEq, p1, p2]
      exact ⟨p3, p4⟩
    · have hp3 := hp1.grow (g2.trans g3)
      simp -dsimp only [↓WPd, ↓wpC_block, ↓wpC_cond, WPu, Bool.false_eq_true, Bool.true_eq_false, Bool.not_true, Bool.not_false, if_true, if_false, ite_true, ite_false, Nat.reduceEqDiff, Nat.reduceLT, true_and, List.map_cons, List.map_nil, Nat.zero_add, Nat.reduceBEq, decide_eq_false hk1]
      refine calledW_of (rright_ok d σ3 pv p sp.1 hp3) ?_
      rintro r σ4 ⟨rfl, g4⟩
      have ou4 := ou3.grow g4
      have hp4 := hp3.grow g4
      have ho4 := g4.get ho3
      have g04 := g03.trans g4
      cases hrp : right p with
      | false =>
        simp -dsimp only [↓WPd, ↓wpC_block, ↓wpC_cond, WPu, Bool.false_eq_true, Bool.true_eq_false, Bool.not_true, Bool.not_false, if_true, if_false, ite_true, ite_false, Nat.reduceEqDiff, Nat.reduceLT, true_and, List.map_cons, List.map_nil, Nat.zero_add, Nat.reduceBEq]
        refine calledW_of (rfails_ok d σ4) ?_
        rintro r σ5 ⟨rfl, g5⟩
        obtain ⟨σ6, p1, p2, p3, p4⟩ := bad (by rw [hL]; simp [hrp]) (g4.trans g5)
        simp -dsimp only [↓WPd, ↓wpC_block, ↓wpC_cond, WPu, Bool.false_eq_true, Bool.true_eq_false, Bool.not_true, Bool.not_false, if_true, if_false, ite_true, ite_false, Nat.reduceEqDiff, Nat.reduceLT, true_and, List.map_cons, List.map_nil, Nat.zero_add, Nat.reduceBEq, p1, p2]
        exact ⟨p3, p4⟩
      | true =>
        rw [if_neg (by simp [hgd, hk1, hrp])] at hL
        obtain ⟨s0, s3, b1, b2, b3, b4, b5, b6⟩ := head_at ou4 (right_len (glob_right hgd)).1
        obtain ⟨t0, t3, c1, c2, -, -, -, -⟩ := head_at hp4 (right_len hrp).1
        rw [hee] at b2 b4 b6
        have er : s0 = r0 := by rw [d3] at b3; exact (Option.some.inj b3).symm
        subst er
        simp -dsimp only [↓WPd, ↓wpC_block, ↓wpC_cond, WPu, Bool.false_eq_true, Bool.true_eq_false, Bool.not_true, Bool.not_false, if_true, if_false, ite_true, ite_false, Nat.reduceEqDiff, Nat.reduceLT, true_and, List.map_cons, List.map_nil, Nat.zero_add, Nat.reduceBEq, d1, d3, b4, ke4]
        by_cases hk4 : e.k = 4
        · rw [if_pos hk4] at hL
          subst hL
          simp -dsimp only [↓WPd, ↓wpC_block, ↓wpC_cond, WPu, Bool.false_eq_true, Bool.true_eq_false, Bool.not_true, Bool.not_false, if_true, if_false, ite_true, ite_false, Nat.reduceEqDiff, Nat.reduceLT, true_and, List.map_cons, List.map_nil, Nat.zero_add, Nat.reduceBEq, decide_eq_true hk4, d1, b5, b6, nm_lit]
          refine calledW_of (rwaits_ok d σ4 _ rfl) ?_
          rintro r σ5 ⟨rfl, g5⟩
          obtain ⟨σ6, p1, p2, p3, p4⟩ := try_none (σ0 := σ) (k := 3) (wv := .fslice (AVal.tagL [nmV e.v]) true 2 [nmV e.v]) (x := ⟨3, [], [e.v]⟩) (g5.get ho4) rfl (SlOf.fs _ _ _ _ _) hi (g04.trans g5)
          simp -dsimp only [↓WPd, ↓wpC_block, ↓wpC_cond, WPu, Bool.false_eq_true, Bool.true_eq_false, Bool.not_true, Bool.not_false, if_true, if_false, ite_true, ite_false, Nat.reduceEqDiff, Nat.reduceLT, true_and, List.map_cons, List.map_nil, Nat.zero_add, Nat.reduceBEq, p1, p2]
          exact ⟨p3, p4⟩
        · rw [if_neg hk4] at hL
          simp -dsimp only [↓WPd, ↓wpC_block, ↓wpC_cond, WPu, Bool.false_eq_true, Bool.true_eq_false, Bool.not_true, Bool.not_false, if_true, if_false, ite_true, ite_false, Nat.reduceEqDiff, Nat.reduceLT, true_and, List.map_cons, List.map_nil, Nat.zero_add, Nat.reduceBEq, decide_eq_false hk4, d1, b2, c1, c2, Cel.eqs]
          by_cases hne : p.headD default = e
          · rw [if_neg (fun h => h hne)] at hL
            have hlen : (σ4 ++ [AObj.arr 1 (List.replicate n AVal.nilslice) 0 0]).length = σ4.length + 1 := by simp
            have h4 := ((h1.grow g2).grow g3).grow g4
            simp -dsimp only [↓WPd, ↓wpC_block, ↓wpC_cond, WPu, Bool.false_eq_true, Bool.true_eq_false, Bool.not_true, Bool.not_false, if_true, if_false, ite_true, ite_false, Nat.reduceEqDiff, Nat.reduceLT, true_and, List.map_cons, List.map_nil, Nat.zero_add, Nat.reduceBEq, decide_eq_true hne, mk_locals σ4 hn, fmR_build (lv := .slice 1 σ4.length 0 0 n (some n)) h.one rfl, cells_agg, three_one (b := .slice 1 σ4.length 0 0 n (some n)) (c := .nilslice) h.one rfl rfl, hlen]
            have ha : Att (fmR rv n σ4.length) σ4 (σ4.length + 1) σ4.length ((σ4 ++ [.arr 1 (List.replicate n .nilslice) 0 0]) ++ [.cells [rv, .slice 1 σ4.length 0 0 n (some n), .nilslice]]) .nilslice ⟨List.replicate n [], []⟩ := Att.new _ σ4 n
            generalize (σ4 ++ [AObj.arr 1 (List.replicate n AVal.nilslice) 0 0]) ++ [AObj.cells [rv, AVal.slice 1 σ4.length 0 0 n (some n), AVal.nilslice]] = σ5 at ha
            have g45 := ha.old
            have hl5 := ha.lt
            refine calledW_of (rargs_ok d σ5 pv p sp.1 (hp4.grow g45)) ?_
            rintro al σ6 ⟨g6, es, oa⟩
            simp -dsimp only [↓WPd, ↓wpC_block, ↓wpC_cond, WPu, Bool.false_eq_true, Bool.true_eq_false, Bool.not_true, Bool.not_false, if_true, if_false, ite_true, ite_false, Nat.reduceEqDiff, Nat.reduceLT, true_and, List.map_cons, List.map_nil, Nat.zero_add, Nat.reduceBEq]
            refine calledW_of (rargs_ok d σ6 u dt sd.1 ((ou4.grow g45).grow g6)) ?_
            rintro bl σ7 ⟨g7, fs, ob⟩
            have ta : OT σ7 σ5.length al es (args p) := oa.ot.grow g7
            have tb : OT σ7 σ5.length bl fs (args dt) := ⟨ob.ot.row, ob.ot.two, ob.ot.frl.le g6.1⟩
            have ha7 := (ha.grow g6).grow g7
            have hsame := args_same hrp (glob_right hgd) (by rw [hee]; exact hne)
            have hfl := args_flat p
            have h8 := args_len8 p
            have hA : ∀ x ∈ args p, right x = true ∧ x.length ≤ 256 := fun x hx => ⟨args_rights hx, (right_len (args_rights hx)).2⟩
            have hB : ∀ x ∈ args dt, glob x = true := fun x hx => args_glob hgd hx
            have hpl := (right_len hrp).2
            generalize args p = azs at *
            generalize args dt = bs at *
            have la := ta.len
            have hi4 := (List.getElem?_eq_some_iff.1 ho4).1
            simp -dsimp only [↓WPd, ↓wpC_block, ↓wpC_cond, WPu, Bool.false_eq_true, Bool.true_eq_false, Bool.not_true, Bool.not_false, if_true, if_false, ite_true, ite_false, Nat.reduceEqDiff, Nat.reduceLT, true_and, List.map_cons, List.map_nil, Nat.zero_add, Nat.reduceBEq]
            refine loop_rule2 (fun m' vs σ' => ∃ (k : Nat) (nk : AVal) (sk : TSt), k ≤ azs.length ∧ m' = azs.length - k ∧ vs = [.ptr i8 0, .ptr (σ4.length + 1) 0, al, bl, .int .i64 k] ∧ Tried (fmR rv n σ4.length) σ4 (σ4.length + 1) σ4.length (partF (deref R) 256) ⟨List.replicate n [], []⟩ azs bs σ5.length al bl es fs .nilslice σ7 σ' k nk sk)
              [8, 10] (fun e vs σ' => (e = .exit 0 ∧ vs = [.ptr i8 0, .ptr (σ4.length + 1) 0] ∧ ∃ (nk : AVal) (sk : TSt), Att (fmR rv n σ4.length) σ4 (σ4.length + 1) σ4.length σ' nk sk ∧ foldO (partF (deref R) 256) ⟨List.replicate n [], []⟩ azs bs = some sk ∧ sk.ls.length = n) ∨
                (e = .ret ∧ vs = [.ptr i8 0, .ptr (σ4.length + 1) 0] ∧ loadV σ' 4 true (.ptr i8 0) = some (.agg (tryC 2 .nilslice .nilslice)) ∧ Grows σ σ' ∧ TryOk σ' (.agg (tryC 2 .nilslice .nilslice)) x)) azs.length
              ⟨0, .nilslice, ⟨List.replicate n [], []⟩, Nat.zero_le _, rfl, ?_, ⟨ha7, Keeps.refl _ _, fun i h => .inl h, ta, tb, rfl, by simp, rfl⟩⟩ ?_ ?_
            · simp -dsimp only [↓WPd, ↓wpC_block, ↓wpC_cond, WPu, Bool.false_eq_true, Bool.true_eq_false, Bool.not_true, Bool.not_false, if_true, if_false, ite_true, ite_false, Nat.reduceEqDiff, Nat.reduceLT, true_and, List.map_cons, List.map_nil, Nat.zero_add, Nat.reduceBEq]; rfl
            · rintro m' vs σ' ⟨k, nk, sk, hk, rfl, rfl, T⟩
              simp -dsimp only [↓WPd, ↓wpC_block, ↓wpC_cond, WPu, Bool.false_eq_true, Bool.true_eq_false, Bool.not_true, Bool.not_false, if_true, if_false, ite_true, ite_false, Nat.reduceEqDiff, Nat.reduceLT, true_and, List.map_cons, List.map_nil, Nat.zero_add, Nat.reduceBEq, la]
              refine condP_dec (fun h => ?_) (fun h => ?_)
              · have hk' : k < azs.length := by omega
                have hkb : k < bs.length := by omega
                obtain ⟨x', e1, e2, e3⟩ := T.ra.at hk'
                obtain ⟨y, f1, f2, f3⟩ := T.rb.at hkb
                have hfs := flat_step hk'
                have hfle := flat_le azs (k + 1)
                have hws := T.ws
                have hls := T.ls
                simp only [List.length_nil, Nat.zero_add, List.length_replicate] at hws hls
                simp -dsimp only [↓WPd, ↓wpC_block, ↓wpC_cond, WPu, Bool.false_eq_true, Bool.true_eq_false, Bool.not_true, Bool.not_false, if_true, if_false, ite_true, ite_false, Nat.reduceEqDiff, Nat.reduceLT, true_and, List.map_cons, List.map_nil, Nat.zero_add, Nat.reduceBEq, e1, e2, f1, f2]
                refine calledW_of (rpart_ok d rv R n σ4.length (σ4.length + 1) σ4 h4 hw hR 256 σ' nk x' y sk azs[k] bs[k] (hA _ (List.getElem_mem hk')).2 (hA _ (List.getElem_mem hk')).1 (hB _ (List.getElem_mem hkb)) (by omega) hls T.att e3.sl f3) ?_
                intro r σ8 hq
                obtain ⟨b, rfl, nk', sk', a1, a2, a3, a4, a5, a6, a7⟩ := T.step hk' hkb hl5.1 hl5.2 hq
                cases b with
                | true =>
                  simp -dsimp only [↓WPd, ↓wpC_block, ↓wpC_cond, WPu, Bool.false_eq_true, Bool.true_eq_false, Bool.not_true, Bool.not_false, if_true, if_false, ite_true, ite_false, Nat.reduceEqDiff, Nat.reduceLT, true_and, List.map_cons, List.map_nil, Nat.zero_add, Nat.reduceBEq]
                  exact ⟨azs.length - (k + 1), by omega, k + 1, nk', sk', by omega, rfl, by rw [wrap_i64 (by omega) (by omega), Int.natCast_add, Int.natCast_one], a6 rfl⟩
                | false =>
                  simp -dsimp only [↓WPd, ↓wpC_block, ↓wpC_cond, WPu, Bool.false_eq_true, Bool.true_eq_false, Bool.not_true, Bool.not_false, if_true, if_false, ite_true, ite_false, Nat.reduceEqDiff, Nat.reduceLT, true_and, List.map_cons, List.map_nil, Nat.zero_add, Nat.reduceBEq]
                  refine calledW_of (rfails_ok d σ8) ?_
                  rintro r σ9 ⟨rfl, g9⟩
                  obtain ⟨σ10, p1, p2, p3, p4⟩ := bad (by rw [hL, a7 rfl]) ((g4.trans a1.old).trans g9)
                  simp -dsimp only [↓WPd, ↓wpC_block, ↓wpC_cond, WPu, Bool.false_eq_true, Bool.true_eq_false, Bool.not_true, Bool.not_false, if_true, if_false, ite_true, ite_false, Nat.reduceEqDiff, Nat.reduceLT, true_and, List.map_cons, List.map_nil, Nat.zero_add, Nat.reduceBEq, p1, p2]
                  exact .inr ⟨p3, p4⟩
              · have : k = azs.length := by omega
                subst this
                have hres := T.res
                have hls := T.ls
                simp only [List.length_replicate] at hls
                rw [foldO_end] at hres
                simp -dsimp only [↓WPd, ↓wpC_block, ↓wpC_cond, WPu, Bool.false_eq_true, Bool.true_eq_false, Bool.not_true, Bool.not_false, if_true, if_false, ite_true, ite_false, Nat.reduceEqDiff, Nat.reduceLT, true_and, List.map_cons, List.map_nil, Nat.zero_add, Nat.reduceBEq]
                exact .inl ⟨nk, sk, T.att, hres, hls⟩
            · rintro e' σ' env (⟨rfl, hv', nk, sk, a1, hres, hls⟩ | ⟨rfl, hv', p2, p3, p4⟩)
              · simp only [List.map_cons, List.map_nil, List.cons.injEq, and_true] at hv'
                obtain ⟨v8, v10⟩ := hv'
                have f2 : (fmR rv n σ4.length nk)[2]? = some nk := rfl
                have f1 : (fmR rv n σ4.length nk)[1]? = some (.slice 1 σ4.length 0 0 n (some n)) := rfl
                have ln := names_len a1.names.sl
                rw [hres] at hL
                have hL' : x = if sk.ws = [] then ⟨1, sk.ls, []⟩ else ⟨3, [], sk.ws⟩ := hL
                have ho6 := a1.old.get ho4
                have g06 := g04.trans a1.old
                simp -dsimp only [↓WPd, ↓wpC_block, ↓wpC_cond, WPu, Bool.false_eq_true, Bool.true_eq_false, Bool.not_true, Bool.not_false, if_true, if_false, ite_true, ite_false, Nat.reduceEqDiff, Nat.reduceLT, true_and, List.map_cons, List.map_nil, Nat.zero_add, Nat.reduceBEq, v8, v10, isnil_ptr, faddr_ptr, Nat.zero_add, load_cells a1.obj, f2, ln]
                by_cases hws : sk.ws = []
                · have e0 : decide ((sk.ws.length : Int) > 0) = false := by rw [hws]; rfl
                  rw [if_pos hws] at hL'
                  subst hL'
                  obtain ⟨es', t1, t2⟩ := a1.terms
                  rw [hls] at t1
                  obtain ⟨σ8, p1, p2, p3, p4⟩ := try_told (σ0 := σ) (k := 1) (lv := .slice 1 σ4.length 0 0 n (some n)) (wv := .nilslice) (x := ⟨1, sk.ls, []⟩) ho6 rfl ⟨es', t1.sl, t2.mono fun e t h => h.sl⟩ (SlOf.nil _ _) hi g06 (fun j hj => by injection hj with hj; omega) (fun j hj => by cases hj) (fun fs e j hf he hj => by
                    have : fs = es' := Option.some.inj (hf.1.symm.trans t1.sl.1)
                    subst this
                    obtain ⟨b, _, hb⟩ := t2.mem_left he
                    exact fun e' => hb.noCell ho6 (by rw [← e']; exact hj))
                  simp -dsimp only [↓WPd, ↓wpC_block, ↓wpC_cond, WPu, Bool.false_eq_true, Bool.true_eq_false, Bool.not_true, Bool.not_false, if_true, if_false, ite_true, ite_false, Nat.reduceEqDiff, Nat.reduceLT, true_and, List.map_cons, List.map_nil, Nat.zero_add, Nat.reduceBEq, e0, v8, v10, isnil_ptr, faddr_ptr, Nat.zero_add, load_cells a1.obj, f1, try_commits (l := .slice 1 σ4.length 0 0 n (some n)) rfl, p1, p2]
                  exact ⟨p3, p4⟩
                · have e0 : decide ((sk.ws.length : Int) > 0) = true := by
                    have := List.length_pos_iff.2 hws
                    rw [decide_eq_true_eq]; omega
                  rw [if_neg hws] at hL'
                  subst hL'
                  simp -dsimp only [↓WPd, ↓wpC_block, ↓wpC_cond, WPu, Bool.false_eq_true, Bool.true_eq_false, Bool.not_true, Bool.not_false, if_true, if_false, ite_true, ite_false, Nat.reduceEqDiff, Nat.reduceLT, true_and, List.map_cons, List.map_nil, Nat.zero_add, Nat.reduceBEq, e0, v8, v10, isnil_ptr, faddr_ptr, Nat.zero_add, load_cells a1.obj, f2]
                  refine calledW_of (rwaits_ok d σ' nk a1.names.one) ?_
                  rintro r σ8 ⟨rfl, g8⟩
                  obtain ⟨σ9, p1, p2, p3, p4⟩ := try_none (σ0 := σ) (k := 3) (wv := nk) (x := ⟨3, [], sk.ws⟩) (g8.get ho6) rfl (a1.names.grow g8).sl hi (g06.trans g8)
                  simp -dsimp only [↓WPd, ↓wpC_block, ↓wpC_cond, WPu, Bool.false_eq_true, Bool.true_eq_false, Bool.not_true, Bool.not_false, if_true, if_false, ite_true, ite_false, Nat.reduceEqDiff, Nat.reduceLT, true_and, List.map_cons, List.map_nil, Nat.zero_add, Nat.reduceBEq, p1, p2, v8]
                  exact ⟨p3, p4⟩
              · simp only [List.map_cons, List.map_nil, List.cons.injEq, and_true] at hv'
                obtain ⟨v8, v10⟩ := hv'
                simp -dsimp only [↓WPd, ↓wpC_block, ↓wpC_cond, WPu, Bool.false_eq_true, Bool.true_eq_false, Bool.not_true, Bool.not_false, if_true, if_false, ite_true, ite_false, Nat.reduceEqDiff, Nat.reduceLT, true_and, List.map_cons, List.map_nil, Nat.zero_add, Nat.reduceBEq, v8, p2]
                exact ⟨p3, p4⟩
          · rw [if_pos hne] at hL
            simp -dsimp only [↓WPd, ↓wpC_block, ↓wpC_cond, WPu, Bool.false_eq_true, Bool.true_eq_false, Bool.not_true, Bool.not_false, if_true, if_false, ite_true, ite_false, Nat.reduceEqDiff, Nat.reduceLT, true_and, List.map_cons, List.map_nil, Nat.zero_add, Nat.reduceBEq, decide_eq_false hne]
            refine calledW_of (rfails_ok d σ4) ?_
            rintro r σ5 ⟨rfl, g5⟩
            obtain ⟨σ6, p1, p2, p3, p4⟩ := bad hL (g4.trans g5)
            simp -dsimp only [↓WPd, ↓wpC_block, ↓wpC_cond, WPu, Bool.false_eq_true, Bool.true_eq_false, Bool.not_true, Bool.not_false, if_true, if_false, ite_true, ite_false, Nat.reduceEqDiff, Nat.reduceLT, true_and, List.map_cons, List.map_nil, Nat.zero_add, Nat.reduceBEq, p1, p2]
            exact ⟨p3, p4⟩
end
end Go.Proofs.YtkjnanfkclijcaaDoor.Am

namespace Go.Proofs.YtkjnanfkclijcaaDoor.Am
open Go
set_option linter.unusedVariables false
set_option linter.unusedSimpArgs false
set_option linter.unusedSectionVars false
set_option maxRecDepth 100000
theorem TryOk.put {σ σ0 : Store} {i : Nat} {r : AVal} {x : TryR} (h : TryOk σ r x) (ho : σ[i]? = some (.cells tryZ)) (hi : σ0.length ≤ i) (g : Grows σ0 σ) :
    ∃ σ', storeV σ 4 (.ptr i 0) r = some σ' ∧ loadV σ' 4 true (.ptr i 0) = some r ∧ Grows σ0 σ' ∧ TryOk σ' r x := by
  obtain ⟨lv, wv, rfl, h2, h3⟩ := h
  have h2' := h2
  obtain ⟨es, a1, a2⟩ := h2'
  refine try_told ho rfl h2 h3 hi g (fun j h e => a1.noCell ho (by rw [← e]; exact h)) (fun j h e => h3.noCell ho (by rw [← e]; exact h)) (fun fs e j hf he hj e' => ?_)
  have : fs = es := Option.some.inj (hf.1.symm.trans a1.1)
  subst this
  obtain ⟨b, _, hb⟩ := a2.mem_left he
  exact hb.noCell ho (by rw [← e']; exact hj)
theorem name_fields {σ : Store} {l : AVal} {ws : List Nm} (hl : SlOf σ 2 l (NN ws)) {i : Nat} (hi : i < ws.length) : ∃ q0 q1, iaddrV 2 l (.int .i64 i) = some (addrOf 2 l i) ∧ faddrV 0 (addrOf 2 l i) = some q0 ∧ loadV σ 1 false q0 = some (.int .i64 (ws[i]).1) ∧ faddrV 1 (addrOf 2 l i) = some q1 ∧ loadV σ 1 false q1 = some (.int .i64 (ws[i]).2) := by
  have hi' : i < (NN ws).length := by rw [List.length_map]; exact hi
  have hb := (hl.addr hi' .i64).2
  rw [List.getElem_map] at hb
  have hb' : behind σ (addrOf 2 l i) = some (nmC ws[i], 0) := hb
  obtain ⟨q0, p0, b0⟩ := faddr_at hb' 0
  obtain ⟨q1, p1, b1⟩ := faddr_at hb' 1
  exact ⟨q0, q1, hl.iaddr hi' .i64, p0, load_at b0, p1, load_at b1⟩
theorem Terms.lit {σ : Store} {v : AVal} {p : List Cel} (tg : Nat) (h : SlOf σ 5 v (CC p)) : Terms σ (.fslice tg true 1 [v]) [p] := ⟨[v], SlOf.fs _ _ _ _ _, Two.one h⟩
theorem I64.of {i : Int} (h : I64 i) : -9223372036854775808 ≤ i ∧ i < 9223372036854775808 := h
theorem count_max (n : Nat) (v : Nm) (h : v.1 = -1 ∧ v.2 < 1048576) : foldV maxV (.int .i64 n) [.int .i64 (v.2 + 1)] = some (.int .i64 (countS n v : Nat)) := by
  have e : (if v.2 + 1 > (n : Int) then v.2 + 1 else (n : Int)) = ((countS n v : Nat) : Int) := by
    unfold countS; rw [if_pos h]
    split <;> omega
  simp only [foldV, maxV, if_true, e]
section
variable (d : Nat) (σ : Store)
theorem mHead_ok (hv pv gv : AVal) (H : Hp) (p g : List Cel) (h : HeapV σ hv H) (sp : Small p) (hin : ∀ c ∈ p, c.In) (sg : Small g) (hp : SlOf σ 5 pv (CC p)) (hg : SlOf σ 5 gv (CC g)) :
    Called CU.cfg d 28 [hv, pv, gv] σ fun r σ' => Grows σ σ' ∧ TryOk σ' r (headL (deref H) (countL (varsL [] p)) p g) := by
  refine called_of (fn := CU.a28) rfl (Nat.le_of_ble_eq_true rfl) ?_
  simp only [CU.a28]
  simp -dsimp only [↓WPd, ↓wpC_block, ↓wpC_cond, WPu, Bool.false_eq_true, Bool.true_eq_false, Bool.not_true, Bool.not_false, if_true, if_false, ite_true, ite_false, Nat.reduceEqDiff, Nat.reduceLT, true_and, List.map_cons, List.map_nil, Nat.zero_add, Nat.reduceBEq, lit1_ok hp.one]
  have ho : (σ ++ [AObj.cells tryZ])[σ.length]? = some (.cells tryZ) := by simp
  have g0 : Grows σ (σ ++ [AObj.cells tryZ]) := Grows.app _ _
  generalize σ ++ [AObj.cells tryZ] = σ1 at ho g0
  generalize hi6 : σ.length = i6 at ho
  have hi : σ.length ≤ i6 := by omega
  refine calledW_of (vars_ok d σ1 _ [p] (by simpa using sp.1) (by simp) (Terms.lit _ (hp.grow g0))) ?_
  rintro l σ2 ⟨g2, ol, -⟩
  have hfl : [p].flatten = p := by simp
  rw [hfl] at ol
  have hvl := varsL_len [] p
  have hvm : ∀ v ∈ varsL [] p, I64 v.2 := fun v hv => by
    rcases varsL_mem hv with h | ⟨c, hc, rfl⟩
    · cases h
    · exact (hin c hc).2.2.2
  simp only [List.length_nil, Nat.zero_add] at hvl
  have hsp := sp.1
  generalize varsL [] p = ws at *
  have ll := names_len ol.sl
  have g02 := g0.trans g2
  simp -dsimp only [↓WPd, ↓wpC_block, ↓wpC_cond, WPu, Bool.false_eq_true, Bool.true_eq_false, Bool.not_true, Bool.not_false, if_true, if_false, ite_true, ite_false, Nat.reduceEqDiff, Nat.reduceLT, true_and, List.map_cons, List.map_nil, Nat.zero_add, Nat.reduceBEq, ll]
  refine loop_rule2 (fun m vs σ' => ∃ k, k ≤ ws.length ∧ m = ws.length - k ∧ vs = [hv, pv, gv, .ptr i6 0, .int .i64 (countL (ws.take k) : Nat), l, .int .i64 ws.length, .int .i64 k] ∧ Grows σ2 σ')
    [0, 1, 2, 6, 7] (fun e vs σ' => e = .exit 0 ∧ vs = [hv, pv, gv, .ptr i6 0, .int .i64 (countL ws : Nat)] ∧ Grows σ2 σ') ws.length ⟨0, Nat.zero_le _, rfl, ?_, Keeps.refl _ _⟩ ?_ ?_
  · simp -dsimp only [↓WPd, ↓wpC_block, ↓wpC_cond, WPu, Bool.false_eq_true, Bool.true_eq_false, Bool.not_true, Bool.not_false, if_true, if_false, ite_true, ite_false, Nat.reduceEqDiff, Nat.reduceLT, true_and, List.map_cons, List.map_nil, Nat.zero_add, Nat.reduceBEq]; rfl
  · rintro m vs σ' ⟨k, hk, rfl, rfl, gl⟩
    simp -dsimp only [↓WPd, ↓wpC_block, ↓wpC_cond, WPu, Bool.false_eq_true, Bool.true_eq_false, Bool.not_true, Bool.not_false, if_true, if_false, ite_true, ite_false, Nat.reduceEqDiff, Nat.reduceLT, true_and, List.map_cons, List.map_nil, Nat.zero_add, Nat.reduceBEq]
    refine condP_dec (fun h => ?_) (fun h => ?_)
    · have hk' : k < ws.length := by omega
      obtain ⟨a1, a2⟩ := names_at (ol.grow gl).sl hk'
      have hct : countL (ws.take (k + 1)) = countS (countL (ws.take k)) ws[k] := by rw [List.take_succ_eq_append_getElem hk', countL_snoc]
      have hi64 := (hvm _ (List.getElem_mem hk')).of
      have hle := count_le (ws.take k)
      simp -dsimp only [↓WPd, ↓wpC_block, ↓wpC_cond, WPu, Bool.false_eq_true, Bool.true_eq_false, Bool.not_true, Bool.not_false, if_true, if_false, ite_true, ite_false, Nat.reduceEqDiff, Nat.reduceLT, true_and, List.map_cons, List.map_nil, Nat.zero_add, Nat.reduceBEq, a1, a2, nm_put]
      generalize ws[k] = v at *
      have ov : (σ' ++ [AObj.cells (nmC v)])[σ'.length]? = some (.cells (nmC v)) := by simp
      have g3 : Grows σ' (σ' ++ [AObj.cells (nmC v)]) := Grows.app _ _
      generalize σ' ++ [AObj.cells (nmC v)] = σ3 at ov g3
      generalize σ'.length = iv at ov
      have wk : IntKind.i64.wrap ((k : Int) + 1) = (k : Int) + 1 := wrap_i64 (by omega) (by omega)
      have fin : ∀ n : Nat, n = countL (ws.take (k + 1)) → ∃ m', m' < ws.length - k ∧ ∃ k', k' ≤ ws.length ∧ m' = ws.length - k' ∧ [hv, pv, gv, AVal.ptr i6 0, .int .i64 n, l, .int .i64 ws.length, .int .i64 ((k : Int) + 1)] = [hv, pv, gv, .ptr i6 0, .int .i64 (countL (ws.take k') : Nat), l, .int .i64 ws.length, .int .i64 k'] ∧ Grows σ2 σ3 := fun n hn =>
        ⟨ws.length - (k + 1), by omega, k + 1, by omega, rfl, by rw [hn, Int.natCast_add, Int.natCast_one], gl.trans g3⟩
      simp -dsimp only [↓WPd, ↓wpC_block, ↓wpC_cond, WPu, Bool.false_eq_true, Bool.true_eq_false, Bool.not_true, Bool.not_false, if_true, if_false, ite_true, ite_false, Nat.reduceEqDiff, Nat.reduceLT, true_and, List.map_cons, List.map_nil, Nat.zero_add, Nat.reduceBEq, faddr_ptr, Nat.add_zero, load_cells ov, nm_g0, nm_g1, int_beq]
      by_cases h1 : v.1 = -1
      · by_cases h2 : v.2 < 1048576
        · have w2 : IntKind.i64.wrap (v.2 + 1) = v.2 + 1 := wrap_i64 (by omega) (by omega)
          simp -dsimp only [↓WPd, ↓wpC_block, ↓wpC_cond, WPu, Bool.false_eq_true, Bool.true_eq_false, Bool.not_true, Bool.not_false, if_true, if_false, ite_true, ite_false, Nat.reduceEqDiff, Nat.reduceLT, true_and, List.map_cons, List.map_nil, Nat.zero_add, Nat.reduceBEq, decide_eq_true h1, decide_eq_true h2, faddr_ptr, Nat.zero_add, load_cells ov, nm_g1, w2, count_max (countL (ws.take k)) v ⟨h1, h2⟩, wk]
          exact fin _ hct.symm
        · simp -dsimp only [↓WPd, ↓wpC_block, ↓wpC_cond, WPu, Bool.false_eq_true, Bool.true_eq_false, Bool.not_true, Bool.not_false, if_true, if_false, ite_true, ite_false, Nat.reduceEqDiff, Nat.reduceLT, true_and, List.map_cons, List.map_nil, Nat.zero_add, Nat.reduceBEq, decide_eq_true h1, decide_eq_false h2, faddr_ptr, Nat.zero_add, load_cells ov, nm_g1, wk]
          exact fin _ (by rw [hct, countS, if_neg (fun h => h2 h.2)])
      · simp -dsimp only [↓WPd, ↓wpC_block, ↓wpC_cond, WPu, Bool.false_eq_true, Bool.true_eq_false, Bool.not_true, Bool.not_false, if_true, if_false, ite_true, ite_false, Nat.reduceEqDiff, Nat.reduceLT, true_and, List.map_cons, List.map_nil, Nat.zero_add, Nat.reduceBEq, decide_eq_false h1, wk]
        exact fin _ (by rw [hct, countS, if_neg (fun h => h1 h.1)])
    · have : k = ws.length := by omega
      subst this
      rw [List.take_length]
      simp -dsimp only [↓WPd, ↓wpC_block, ↓wpC_cond, WPu, Bool.false_eq_true, Bool.true_eq_false, Bool.not_true, Bool.not_false, if_true, if_false, ite_true, ite_false, Nat.reduceEqDiff, Nat.reduceLT, true_and, List.map_cons, List.map_nil, Nat.zero_add, Nat.reduceBEq]
      exact gl
  · rintro e σ' env ⟨rfl, hv', gl⟩
    simp only [List.map_cons, List.map_nil, List.cons.injEq, and_true] at hv'
    obtain ⟨v0, v1, v2, v6, v7⟩ := hv'
    have g03 := g02.trans gl
    simp -dsimp only [↓WPd, ↓wpC_block, ↓wpC_cond, WPu, Bool.false_eq_true, Bool.true_eq_false, Bool.not_true, Bool.not_false, if_true, if_false, ite_true, ite_false, Nat.reduceEqDiff, Nat.reduceLT, true_and, List.map_cons, List.map_nil, Nat.zero_add, Nat.reduceBEq, v0, v1, v2, v6, v7]
    refine calledW_of (mhead_ok d σ' hv pv gv H p g _ (count_le ws) (h.grow g03) sp sg (hp.grow g03) (hg.grow g03)) ?_
    rintro r σ4 ⟨g4, T⟩
    obtain ⟨σ5, p1, p2, p3, p4⟩ := T.put (g4.get (gl.get (g2.get ho))) hi (g03.trans g4)
    simp -dsimp only [↓WPd, ↓wpC_block, ↓wpC_cond, WPu, Bool.false_eq_true, Bool.true_eq_false, Bool.not_true, Bool.not_false, if_true, if_false, ite_true, ite_false, Nat.reduceEqDiff, Nat.reduceLT, true_and, List.map_cons, List.map_nil, Nat.zero_add, Nat.reduceBEq, v6, p1, p2]
    exact ⟨p3, p4⟩
theorem rvarsof_ok (pv : AVal) (p : List Cel) (sp : Small p) (hp : SlOf σ 5 pv (CC p)) : Called CU.cfg d 44 [pv] σ fun r σ' => Grows σ σ' ∧ Own σ' 2 r (NN (varsL [] p)) := by
  refine called_of (fn := CU.a44) rfl (Nat.le_of_ble_eq_true rfl) ?_
  simp only [CU.a44]
  simp -dsimp only [↓WPd, ↓wpC_block, ↓wpC_cond, WPu, Bool.false_eq_true, Bool.true_eq_false, Bool.not_true, Bool.not_false, if_true, if_false, ite_true, ite_false, Nat.reduceEqDiff, Nat.reduceLT, true_and, List.map_cons, List.map_nil, Nat.zero_add, Nat.reduceBEq, lit1_ok hp.one]
  refine calledW_of (rvars_ok d σ _ [p] (by simpa using sp.1) (by simp) (Terms.lit _ hp)) ?_
  rintro l σ2 ⟨g2, ol, -⟩
  have hfl : [p].flatten = p := by simp
  rw [hfl] at ol
  simp -dsimp only [↓WPd, ↓wpC_block, ↓wpC_cond, WPu, Bool.false_eq_true, Bool.true_eq_false, Bool.not_true, Bool.not_false, if_true, if_false, ite_true, ite_false, Nat.reduceEqDiff, Nat.reduceLT, true_and, List.map_cons, List.map_nil, Nat.zero_add, Nat.reduceBEq]
  exact ⟨g2, ol⟩
theorem rHead_ok (rv pv gv : AVal) (R : Hp) (p g : List Cel) (h : RefV σ rv R) (hw : WF R) (hR : R.length < 2 ^ 30) (sp : Small p) (hin : ∀ c ∈ p, c.In) (sg : Small g) (hp : SlOf σ 5 pv (CC p)) (hg : SlOf σ 5 gv (CC g)) :
    Called CU.cfg d 29 [rv, pv, gv] σ fun r σ' => Grows σ σ' ∧ TryOk σ' r (headL (deref R) (countL (varsL [] p)) p g) := by
  refine called_of (fn := CU.a29) rfl (Nat.le_of_ble_eq_true rfl) ?_
  simp only [CU.a29]
  simp -dsimp only [↓WPd, ↓wpC_block, ↓wpC_cond, WPu, Bool.false_eq_true, Bool.true_eq_false, Bool.not_true, Bool.not_false, if_true, if_false, ite_true, ite_false, Nat.reduceEqDiff, Nat.reduceLT, true_and, List.map_cons, List.map_nil, Nat.zero_add, Nat.reduceBEq]
  have ho : (σ ++ [AObj.cells tryZ])[σ.length]? = some (.cells tryZ) := by simp
  have g0 : Grows σ (σ ++ [AObj.cells tryZ]) := Grows.app _ _
  generalize σ ++ [AObj.cells tryZ] = σ1 at ho g0
  generalize hi6 : σ.length = i6 at ho
  have hi : σ.length ≤ i6 := by omega
  refine calledW_of (rvarsof_ok d σ1 pv p sp (hp.grow g0)) ?_
  rintro l σ2 ⟨g2, ol⟩
  have hvl := varsL_len [] p
  have hvm : ∀ v ∈ varsL [] p, I64 v.2 := fun v hv => by
    rcases varsL_mem hv with h | ⟨c, hc, rfl⟩
    · cases h
    · exact (hin c hc).2.2.2
  simp only [List.length_nil, Nat.zero_add] at hvl
  have hsp := sp.1
  generalize varsL [] p = ws at *
  have ll := names_len ol.sl
  have g02 := g0.trans g2
  simp -dsimp only [↓WPd, ↓wpC_block, ↓wpC_cond, WPu, Bool.false_eq_true, Bool.true_eq_false, Bool.not_true, Bool.not_false, if_true, if_false, ite_true, ite_false, Nat.reduceEqDiff, Nat.reduceLT, true_and, List.map_cons, List.map_nil, Nat.zero_add, Nat.reduceBEq]
  refine loop_rule2 (fun m vs σ' => ∃ k, k ≤ ws.length ∧ m = ws.length - k ∧ vs = [rv, pv, gv, .ptr i6 0, .int .i64 (countL (ws.take k) : Nat), l, .int .i64 k] ∧ σ' = σ2)
    [0, 1, 2, 6, 7] (fun e vs σ' => e = .exit 0 ∧ vs = [rv, pv, gv, .ptr i6 0, .int .i64 (countL ws : Nat)] ∧ σ' = σ2) ws.length ⟨0, Nat.zero_le _, rfl, ?_, rfl⟩ ?_ ?_
  · simp -dsimp only [↓WPd, ↓wpC_block, ↓wpC_cond, WPu, Bool.false_eq_true, Bool.true_eq_false, Bool.not_true, Bool.not_false, if_true, if_false, ite_true, ite_false, Nat.reduceEqDiff, Nat.reduceLT, true_and, List.map_cons, List.map_nil, Nat.zero_add, Nat.reduceBEq]; rfl
  · rintro m vs σ' ⟨k, hk, rfl, rfl, rfl⟩
    simp -dsimp only [↓WPd, ↓wpC_block, ↓wpC_cond, WPu, Bool.false_eq_true, Bool.true_eq_false, Bool.not_true, Bool.not_false, if_true, if_false, ite_true, ite_false, Nat.reduceEqDiff, Nat.reduceLT, true_and, List.map_cons, List.map_nil, Nat.zero_add, Nat.reduceBEq, ll]
    refine condP_dec (fun h => ?_) (fun h => ?_)
    · have hk' : k < ws.length := by omega
      obtain ⟨q0, q1, a1, a2, a3, a4, a5⟩ := name_fields ol.sl hk'
      have hct : countL (ws.take (k + 1)) = countS (countL (ws.take k)) ws[k] := by rw [List.take_succ_eq_append_getElem hk', countL_snoc]
      have hi64 := (hvm _ (List.getElem_mem hk')).of
      have hle := count_le (ws.take k)
      simp -dsimp only [↓WPd, ↓wpC_block, ↓wpC_cond, WPu, Bool.false_eq_true, Bool.true_eq_false, Bool.not_true, Bool.not_false, if_true, if_false, ite_true, ite_false, Nat.reduceEqDiff, Nat.reduceLT, true_and, List.map_cons, List.map_nil, Nat.zero_add, Nat.reduceBEq, a1, a2, a3, int_beq]
      generalize ws[k] = v at *
      have wk : IntKind.i64.wrap ((k : Int) + 1) = (k : Int) + 1 := wrap_i64 (by omega) (by omega)
      have fin : ∀ n : Int, n = (countL (ws.take (k + 1)) : Nat) → ∃ m', m' < ws.length - k ∧ ∃ k', k' ≤ ws.length ∧ m' = ws.length - k' ∧ [rv, pv, gv, AVal.ptr i6 0, .int .i64 n, l, .int .i64 ((k : Int) + 1)] = [rv, pv, gv, .ptr i6 0, .int .i64 (countL (ws.take k') : Nat), l, .int .i64 k'] ∧ True := fun n hn =>
        ⟨ws.length - (k + 1), by omega, k + 1, by omega, rfl, by rw [hn, Int.natCast_add, Int.natCast_one], trivial⟩
      by_cases h1 : v.1 = -1
      · by_cases h3 : v.2 ≥ (countL (ws.take k) : Nat)
        · by_cases h2 : v.2 < 1048576
          · have w2 : IntKind.i64.wrap (v.2 + 1) = v.2 + 1 := wrap_i64 (by omega) (by omega)
            simp -dsimp only [↓WPd, ↓wpC_block, ↓wpC_cond, WPu, Bool.false_eq_true, Bool.true_eq_false, Bool.not_true, Bool.not_false, if_true, if_false, ite_true, ite_false, Nat.reduceEqDiff, Nat.reduceLT, true_and, List.map_cons, List.map_nil, Nat.zero_add, Nat.reduceBEq, decide_eq_true h1, decide_eq_true h2, decide_eq_true h3, a1, a4, a5, w2, wk]
            exact fin (v.2 + 1) (by rw [hct, countS, if_pos ⟨h1, h2⟩]; omega)
          · simp -dsimp only [↓WPd, ↓wpC_block, ↓wpC_cond, WPu, Bool.false_eq_true, Bool.true_eq_false, Bool.not_true, Bool.not_false, if_true, if_false, ite_true, ite_false, Nat.reduceEqDiff, Nat.reduceLT, true_and, List.map_cons, List.map_nil, Nat.zero_add, Nat.reduceBEq, decide_eq_true h1, decide_eq_false h2, decide_eq_true h3, a1, a4, a5, wk]
            exact fin _ (by rw [hct, countS, if_neg (fun h => h2 h.2)])
        · simp -dsimp only [↓WPd, ↓wpC_block, ↓wpC_cond, WPu, Bool.false_eq_true, Bool.true_eq_false, Bool.not_true, Bool.not_false, if_true, if_false, ite_true, ite_false, Nat.reduceEqDiff, Nat.reduceLT, true_and, List.map_cons, List.map_nil, Nat.zero_add, Nat.reduceBEq, decide_eq_true h1, decide_eq_false h3, a1, a4, a5, wk]
          refine fin _ ?_
          rw [hct, countS]
          split <;> omega
      · simp -dsimp only [↓WPd, ↓wpC_block, ↓wpC_cond, WPu, Bool.false_eq_true, Bool.true_eq_false, Bool.not_true, Bool.not_false, if_true, if_false, ite_true, ite_false, Nat.reduceEqDiff, Nat.reduceLT, true_and, List.map_cons, List.map_nil, Nat.zero_add, Nat.reduceBEq, decide_eq_false h1, wk]
        exact fin _ (by rw [hct, countS, if_neg (fun h => h1 h.1)])
    · have : k = ws.length := by omega
      subst this
      rw [List.take_length]
      simp -dsimp only [↓WPd, ↓wpC_block, ↓wpC_cond, WPu, Bool.false_eq_true, Bool.true_eq_false, Bool.not_true, Bool.not_false, if_true, if_false, ite_true, ite_false, Nat.reduceEqDiff, Nat.reduceLT, true_and, List.map_cons, List.map_nil, Nat.zero_add, Nat.reduceBEq]
  · rintro e σ' env ⟨rfl, hv', rfl⟩
    simp only [List.map_cons, List.map_nil, List.cons.injEq, and_true] at hv'
    obtain ⟨v0, v1, v2, v6, v7⟩ := hv'
    simp -dsimp only [↓WPd, ↓wpC_block, ↓wpC_cond, WPu, Bool.false_eq_true, Bool.true_eq_false, Bool.not_true, Bool.not_false, if_true, if_false, ite_true, ite_false, Nat.reduceEqDiff, Nat.reduceLT, true_and, List.map_cons, List.map_nil, Nat.zero_add, Nat.reduceBEq, v0, v1, v2, v6, v7]
    refine calledW_of (rhead_ok d σ' rv pv gv R p g _ (count_le ws) (h.grow g02) hw hR sp sg (hp.grow g02) (hg.grow g02)) ?_
    rintro r σ4 ⟨g4, T⟩
    obtain ⟨σ5, p1, p2, p3, p4⟩ := T.put (g4.get (g2.get ho)) hi (g02.trans g4)
    simp -dsimp only [↓WPd, ↓wpC_block, ↓wpC_cond, WPu, Bool.false_eq_true, Bool.true_eq_false, Bool.not_true, Bool.not_false, if_true, if_false, ite_true, ite_false, Nat.reduceEqDiff, Nat.reduceLT, true_and, List.map_cons, List.map_nil, Nat.zero_add, Nat.reduceBEq, v6, p1, p2]
    exact ⟨p3, p4⟩
end
end Go.Proofs.YtkjnanfkclijcaaDoor.Am

namespace Go.Proofs.YtkjnanfkclijcaaDoor.Am
open Go
set_option linter.unusedVariables false
set_option maxRecDepth 100000
def l7c : AVal := .agg [.fslice 0 true 5 [.agg [.int .u8 3, .str [112], .int .i64 1, .int .i64 0, .int .i64 0], .agg [.int .u8 4, .str [], .int .i64 0, .int .i64 (-1), .int .i64 0]], .fslice 0 true 1 [.fslice 0 true 5 [.agg [.int .u8 3, .str [62], .int .i64 2, .int .i64 0, .int .i64 0], .agg [.int .u8 4, .str [], .int .i64 0, .int .i64 (-1), .int .i64 0], .agg [.int .u8 1, .str [], .int .i64 0, .int .i64 0, .int .i64 0]]], .fslice 0 true 1 [.fslice 0 true 5 [.agg [.int .u8 2, .str [113], .int .i64 0, .int .i64 0, .int .i64 0]]], .int .i64 1]
def l7h : AVal := .fptr 2 [.fmap 2 [] []] 0
def l7p (k : Int) (n : Int) : AVal := .fslice 0 true 5 [.agg [.int .u8 3, .str [112], .int .i64 1, .int .i64 0, .int .i64 0], .agg [.int .u8 k, .str [], .int .i64 n, .int .i64 0, .int .i64 0]]
def l7a : AVal := .agg [.int .u8 1, .int .i64 (-1), .fslice 0 true 1 [.fslice 0 false 5 [.agg [.int .u8 1, .str [], .int .i64 2, .int .i64 0, .int .i64 0]]], .nilslice]
def l7b : AVal := .agg [.int .u8 2, .int .i64 (-1), .nilslice, .nilslice]
def l7s : AVal := .agg [.int .u8 3, .int .i64 (-1), .nilslice, .fslice 0 false 2 [.agg [.int .i64 0, .int .i64 0]]]
theorem l7_c : (run CU.cfg 300 2 83 [] []).bind (fun p => frz p.2 0 frzFuel p.1) = some l7c := by kernel_rfl
theorem l7_a : (run CU.cfg 300 2 82 [l7h, l7c, l7p 1 2] []).bind (fun p => frz p.2 0 frzFuel p.1) = some l7a := by kernel_rfl
theorem l7_b : (run CU.cfg 300 2 82 [l7h, l7c, l7p 1 0] []).bind (fun p => frz p.2 0 frzFuel p.1) = some l7b := by kernel_rfl
theorem l7_s : (run CU.cfg 300 2 82 [l7h, l7c, l7p 4 0] []).bind (fun p => frz p.2 0 frzFuel p.1) = some l7s := by kernel_rfl
end Go.Proofs.YtkjnanfkclijcaaDoor.Am

namespace Go.Proofs.YtkjnanfkclijcaaDoor.Am
open Go
set_option linter.unusedVariables false
set_option linter.unusedSimpArgs false
set_option linter.unusedSectionVars false
set_option maxRecDepth 100000
section
variable (d : Nat) (σ : Store)
theorem sameterms_ok (a b : AVal) (ts : List (List Cel)) (hx : ts.length < 2 ^ 40) (hs : ∀ t ∈ ts, t.length < 2 ^ 40) (ha : Terms σ a ts) (hb : Terms σ b ts) : Called CU.cfg d 34 [a, b] σ fun v σ' => v = .bool true ∧ σ' = σ := by
  refine called_of (fn := CU.a34) rfl (Nat.le_of_ble_eq_true rfl) ?_
  simp only [CU.a34]
  have la := ha.len
  have lb := hb.len
  have e0 : ((ts.length : Int) != (ts.length : Int)) = false := by simp
  simp -dsimp only [↓WPd, ↓wpC_block, ↓wpC_cond, WPu, Bool.false_eq_true, Bool.true_eq_false, Bool.not_true, Bool.not_false, if_true, if_false, ite_true, ite_false, Nat.reduceEqDiff, Nat.reduceLT, true_and, List.map_cons, List.map_nil, Nat.zero_add, Nat.reduceBEq, la, lb, e0]
  refine loop_rule2 (fun m vs σ' => ∃ k, k ≤ ts.length ∧ m = ts.length - k ∧ vs = [a, b, .int .i64 k] ∧ σ' = σ) [] (fun e vs σ' => e = .exit 0 ∧ σ' = σ) ts.length ⟨0, Nat.zero_le _, rfl, ?_, rfl⟩ ?_ ?_
  · simp -dsimp only [↓WPd, ↓wpC_block, ↓wpC_cond, WPu, Bool.false_eq_true, Bool.true_eq_false, Bool.not_true, Bool.not_false, if_true, if_false, ite_true, ite_false, Nat.reduceEqDiff, Nat.reduceLT, true_and, List.map_cons, List.map_nil, Nat.zero_add, Nat.reduceBEq]; rfl
  · rintro m vs σ' ⟨k, hk, rfl, rfl, rfl⟩
    simp -dsimp only [↓WPd, ↓wpC_block, ↓wpC_cond, WPu, Bool.false_eq_true, Bool.true_eq_false, Bool.not_true, Bool.not_false, if_true, if_false, ite_true, ite_false, Nat.reduceEqDiff, Nat.reduceLT, true_and, List.map_cons, List.map_nil, Nat.zero_add, Nat.reduceBEq, la]
    refine condP_dec (fun h => ?_) (fun h => ?_)
    · have hk' : k < ts.length := by omega
      obtain ⟨x, a1, a2, a3⟩ := ha.at hk'
      obtain ⟨y, b1, b2, b3⟩ := hb.at hk'
      simp -dsimp only [↓WPd, ↓wpC_block, ↓wpC_cond, WPu, Bool.false_eq_true, Bool.true_eq_false, Bool.not_true, Bool.not_false, if_true, if_false, ite_true, ite_false, Nat.reduceEqDiff, Nat.reduceLT, true_and, List.map_cons, List.map_nil, Nat.zero_add, Nat.reduceBEq, a1, a2, b1, b2]
      refine calledW_of (cequal_ok d σ' x y ts[k] ts[k] (hs _ (List.getElem_mem hk')) a3 b3) ?_
      rintro v σ2 ⟨rfl, rfl⟩
      simp -dsimp only [↓WPd, ↓wpC_block, ↓wpC_cond, WPu, Bool.false_eq_true, Bool.true_eq_false, Bool.not_true, Bool.not_false, if_true, if_false, ite_true, ite_false, Nat.reduceEqDiff, Nat.reduceLT, true_and, List.map_cons, List.map_nil, Nat.zero_add, Nat.reduceBEq, decide_true]
      exact ⟨ts.length - (k + 1), by omega, k + 1, by omega, rfl, by rw [wrap_i64 (by omega) (by omega), Int.natCast_add, Int.natCast_one], trivial⟩
    · simp -dsimp only [↓WPd, ↓wpC_block, ↓wpC_cond, WPu, Bool.false_eq_true, Bool.true_eq_false, Bool.not_true, Bool.not_false, if_true, if_false, ite_true, ite_false, Nat.reduceEqDiff, Nat.reduceLT, true_and, List.map_cons, List.map_nil, Nat.zero_add, Nat.reduceBEq]
  · rintro e σ' env ⟨rfl, rfl⟩
    simp -dsimp only [↓WPd, ↓wpC_block, ↓wpC_cond, WPu, Bool.false_eq_true, Bool.true_eq_false, Bool.not_true, Bool.not_false, if_true, if_false, ite_true, ite_false, Nat.reduceEqDiff, Nat.reduceLT, true_and, List.map_cons, List.map_nil, Nat.zero_add, Nat.reduceBEq]
theorem samenames_ok (a b : AVal) (ws : List Nm) (hx : ws.length < 2 ^ 40) (ha : SlOf σ 2 a (NN ws)) (hb : SlOf σ 2 b (NN ws)) : Called CU.cfg d 84 [a, b] σ fun v σ' => v = .bool true ∧ σ' = σ := by
  refine called_of (fn := CU.a84) rfl (Nat.le_of_ble_eq_true rfl) ?_
  simp only [CU.a84]
  have la := names_len ha
  have lb := names_len hb
  have e0 : ((ws.length : Int) != (ws.length : Int)) = false := by simp
  simp -dsimp only [↓WPd, ↓wpC_block, ↓wpC_cond, WPu, Bool.false_eq_true, Bool.true_eq_false, Bool.not_true, Bool.not_false, if_true, if_false, ite_true, ite_false, Nat.reduceEqDiff, Nat.reduceLT, true_and, List.map_cons, List.map_nil, Nat.zero_add, Nat.reduceBEq, la, lb, e0]
  refine loop_rule2 (fun m vs σ' => ∃ k, k ≤ ws.length ∧ m = ws.length - k ∧ vs = [a, b, .int .i64 k] ∧ σ' = σ) [] (fun e vs σ' => e = .exit 0 ∧ σ' = σ) ws.length ⟨0, Nat.zero_le _, rfl, ?_, rfl⟩ ?_ ?_
  · simp -dsimp only [↓WPd, ↓wpC_block, ↓wpC_cond, WPu, Bool.false_eq_true, Bool.true_eq_false, Bool.not_true, Bool.not_false, if_true, if_false, ite_true, ite_false, Nat.reduceEqDiff, Nat.reduceLT, true_and, List.map_cons, List.map_nil, Nat.zero_add, Nat.reduceBEq]; rfl
  · rintro m vs σ' ⟨k, hk, rfl, rfl, rfl⟩
    simp -dsimp only [↓WPd, ↓wpC_block, ↓wpC_cond, WPu, Bool.false_eq_true, Bool.true_eq_false, Bool.not_true, Bool.not_false, if_true, if_false, ite_true, ite_false, Nat.reduceEqDiff, Nat.reduceLT, true_and, List.map_cons, List.map_nil, Nat.zero_add, Nat.reduceBEq, la]
    refine condP_dec (fun h => ?_) (fun h => ?_)
    · have hk' : k < ws.length := by omega
      obtain ⟨a1, a2⟩ := names_at ha hk'
      obtain ⟨b1, b2⟩ := names_at hb hk'
      simp -dsimp only [↓WPd, ↓wpC_block, ↓wpC_cond, WPu, Bool.false_eq_true, Bool.true_eq_false, Bool.not_true, Bool.not_false, if_true, if_false, ite_true, ite_false, Nat.reduceEqDiff, Nat.reduceLT, true_and, List.map_cons, List.map_nil, Nat.zero_add, Nat.reduceBEq, a1, a2, b1, b2, nm_eqs, decide_true]
      exact ⟨ws.length - (k + 1), by omega, k + 1, by omega, rfl, by rw [wrap_i64 (by omega) (by omega), Int.natCast_add, Int.natCast_one], trivial⟩
    · simp -dsimp only [↓WPd, ↓wpC_block, ↓wpC_cond, WPu, Bool.false_eq_true, Bool.true_eq_false, Bool.not_true, Bool.not_false, if_true, if_false, ite_true, ite_false, Nat.reduceEqDiff, Nat.reduceLT, true_and, List.map_cons, List.map_nil, Nat.zero_add, Nat.reduceBEq]
  · rintro e σ' env ⟨rfl, rfl⟩
    simp -dsimp only [↓WPd, ↓wpC_block, ↓wpC_cond, WPu, Bool.false_eq_true, Bool.true_eq_false, Bool.not_true, Bool.not_false, if_true, if_false, ite_true, ite_false, Nat.reduceEqDiff, Nat.reduceLT, true_and, List.map_cons, List.map_nil, Nat.zero_add, Nat.reduceBEq]
theorem tryC_one {k : Nat} {lv wv : AVal} (h1 : lv.one = true) (h2 : wv.one = true) : (tryC k lv wv).all AVal.one = true := by
  simp only [tryC, List.all_cons, List.all_nil, h1, h2]; rfl
theorem of_build {k : Nat} {lv wv : AVal} (h1 : lv.one = true) (h2 : wv.one = true) : fillA tryZ [(0, 1, AVal.int .u8 k), (1, 1, AVal.int .i64 (-1)), (2, 1, lv), (3, 1, wv)] = some (tryC k lv wv) := by
  have c1 : lv.cells = [lv] := by cases lv <;> simp_all [AVal.one]
  have c2 : wv.cells = [wv] := by cases wv <;> simp_all [AVal.one]
  have a1 : [lv].all AVal.one = true := by simp only [List.all_cons, List.all_nil, h1]; rfl
  have a2 : [wv].all AVal.one = true := by simp only [List.all_cons, List.all_nil, h2]; rfl
  simp only [fillA, c1, c2, a1, a2]
  rfl
theorem of_ok (r : AVal) (x : TryR) (h : TryOk σ r x) : Called CU.cfg d 27 [r] σ fun r' σ' => Grows σ σ' ∧ TryOk σ' r' x := by
  refine called_of (fn := CU.a27) rfl (Nat.le_of_ble_eq_true rfl) ?_
  simp only [CU.a27]
  have h' := h
  obtain ⟨lv, wv, rfl, h2, h3⟩ := h'
  simp -dsimp only [↓WPd, ↓wpC_block, ↓wpC_cond, WPu, Bool.false_eq_true, Bool.true_eq_false, Bool.not_true, Bool.not_false, if_true, if_false, ite_true, ite_false, Nat.reduceEqDiff, Nat.reduceLT, true_and, List.map_cons, List.map_nil, Nat.zero_add, Nat.reduceBEq, cells_agg, tryC_one h2.one h3.one]
  have o1 : ((σ ++ [AObj.cells (tryC x.k lv wv)]) ++ [AObj.cells tryZ])[σ.length]? = some (.cells (tryC x.k lv wv)) := by simp
  have o2 : ((σ ++ [AObj.cells (tryC x.k lv wv)]) ++ [AObj.cells tryZ])[(σ ++ [AObj.cells (tryC x.k lv wv)]).length]? = some (.cells tryZ) := by simp
  have g : Grows σ ((σ ++ [AObj.cells (tryC x.k lv wv)]) ++ [AObj.cells tryZ]) := Grows.trans (Grows.app _ _) (Grows.app _ _)
  have hi : σ.length ≤ (σ ++ [AObj.cells (tryC x.k lv wv)]).length := by simp
  generalize (σ ++ [AObj.cells (tryC x.k lv wv)]) ++ [AObj.cells tryZ] = σ1 at o1 o2 g
  generalize (σ ++ [AObj.cells (tryC x.k lv wv)]).length = i2 at o2 hi
  generalize hq : σ.length = i1 at o1 hi
  have t0 : (tryC x.k lv wv)[0]? = some (.int .u8 x.k) := rfl
  have t1 : (tryC x.k lv wv)[1]? = some (.int .i64 (-1)) := rfl
  have t2 : (tryC x.k lv wv)[2]? = some lv := rfl
  have t3 : (tryC x.k lv wv)[3]? = some wv := rfl
  have T : TryOk σ1 (.agg (tryC x.k lv wv)) x := h.grow g
  obtain ⟨σ2, p1, p2, p3, p4⟩ := T.put (σ0 := σ) o2 (by rw [hq]; exact hi) g
  simp -dsimp only [↓WPd, ↓wpC_block, ↓wpC_cond, WPu, Bool.false_eq_true, Bool.true_eq_false, Bool.not_true, Bool.not_false, if_true, if_false, ite_true, ite_false, Nat.reduceEqDiff, Nat.reduceLT, true_and, List.map_cons, List.map_nil, Nat.zero_add, Nat.reduceBEq, faddr_ptr, Nat.add_zero, load_cells o1, t0, t1, t2, t3, of_build h2.one h3.one, p1, p2]
  exact ⟨p3, p4⟩
theorem same_ok (r1 r2 : AVal) (x : TryR) (h1 : TryOk σ r1 x) (h2 : TryOk σ r2 x) (hl : x.ls.length < 2 ^ 40) (hs : ∀ t ∈ x.ls, t.length < 2 ^ 40) (hw : x.ws.length < 2 ^ 40) : Called CU.cfg d 26 [r1, r2] σ fun v σ' => v = .bool true ∧ Grows σ σ' := by
  refine called_of (fn := CU.a26) rfl (Nat.le_of_ble_eq_true rfl) ?_
  simp only [CU.a26]
  obtain ⟨la, wa, rfl, a2, a3⟩ := h1
  obtain ⟨lb, wb, rfl, b2, b3⟩ := h2
  simp -dsimp only [↓WPd, ↓wpC_block, ↓wpC_cond, WPu, Bool.false_eq_true, Bool.true_eq_false, Bool.not_true, Bool.not_false, if_true, if_false, ite_true, ite_false, Nat.reduceEqDiff, Nat.reduceLT, true_and, List.map_cons, List.map_nil, Nat.zero_add, Nat.reduceBEq, cells_agg, tryC_one a2.one a3.one, tryC_one b2.one b3.one]
  have o1 : ((σ ++ [AObj.cells (tryC x.k la wa)]) ++ [AObj.cells (tryC x.k lb wb)])[σ.length]? = some (.cells (tryC x.k la wa)) := by simp
  have o2 : ((σ ++ [AObj.cells (tryC x.k la wa)]) ++ [AObj.cells (tryC x.k lb wb)])[(σ ++ [AObj.cells (tryC x.k la wa)]).length]? = some (.cells (tryC x.k lb wb)) := by simp
  have g : Grows σ ((σ ++ [AObj.cells (tryC x.k la wa)]) ++ [AObj.cells (tryC x.k lb wb)]) := Grows.trans (Grows.app _ _) (Grows.app _ _)
  generalize (σ ++ [AObj.cells (tryC x.k la wa)]) ++ [AObj.cells (tryC x.k lb wb)] = σ1 at o1 o2 g
  generalize (σ ++ [AObj.cells (tryC x.k la wa)]).length = i2 at o2
  generalize σ.length = i1 at o1
  have t0 : ∀ lv wv, (tryC x.k lv wv)[0]? = some (.int .u8 x.k) := fun _ _ => rfl
  have t1 : ∀ lv wv, (tryC x.k lv wv)[1]? = some (.int .i64 (-1)) := fun _ _ => rfl
  have t2 : ∀ lv wv, (tryC x.k lv wv)[2]? = some lv := fun _ _ => rfl
  have t3 : ∀ lv wv, (tryC x.k lv wv)[3]? = some wv := fun _ _ => rfl
  have k0 : ((x.k : Int) == (x.k : Int)) = true := by simp
  have k1 : ((-1 : Int) == (-1 : Int)) = true := rfl
  simp -dsimp only [↓WPd, ↓wpC_block, ↓wpC_cond, WPu, Bool.false_eq_true, Bool.true_eq_false, Bool.not_true, Bool.not_false, if_true, if_false, ite_true, ite_false, Nat.reduceEqDiff, Nat.reduceLT, true_and, List.map_cons, List.map_nil, Nat.zero_add, Nat.reduceBEq, faddr_ptr, Nat.add_zero, Nat.zero_add, load_cells o1, load_cells o2, t0, t1, t2, t3, k0, k1]
  refine calledW_of (sameterms_ok d σ1 la lb x.ls hl hs (a2.grow g) (b2.grow g)) ?_
  rintro v σ2 ⟨rfl, rfl⟩
  simp -dsimp only [↓WPd, ↓wpC_block, ↓wpC_cond, WPu, Bool.false_eq_true, Bool.true_eq_false, Bool.not_true, Bool.not_false, if_true, if_false, ite_true, ite_false, Nat.reduceEqDiff, Nat.reduceLT, true_and, List.map_cons, List.map_nil, Nat.zero_add, Nat.reduceBEq, faddr_ptr, Nat.add_zero, Nat.zero_add, load_cells o1, load_cells o2, t0, t1, t2, t3]
  refine calledW_of (samenames_ok d σ2 wa wb x.ws hw (a3.grow g) (b3.grow g)) ?_
  rintro v σ3 ⟨rfl, rfl⟩
  simp -dsimp only [↓WPd, ↓wpC_block, ↓wpC_cond, WPu, Bool.false_eq_true, Bool.true_eq_false, Bool.not_true, Bool.not_false, if_true, if_false, ite_true, ite_false, Nat.reduceEqDiff, Nat.reduceLT, true_and, List.map_cons, List.map_nil, Nat.zero_add, Nat.reduceBEq]
  exact g
end
theorem fold_small {D : List Cel → List Cel} {n : Nat} (ih : ∀ (s : TSt) (p t : List Cel) (s' : TSt), right p = true → glob t = true → (∀ x ∈ s.ls, x.length ≤ 256) → partF D n s p t = some s' → (∀ x ∈ s'.ls, x.length ≤ 256) ∧ s'.ws.length ≤ s.ws.length + p.length ∧ s'.ls.length = s.ls.length) :
    ∀ (azs bs : List (List Cel)) (s s' : TSt), (∀ a ∈ azs, right a = true) → (∀ b ∈ bs, glob b = true) → (∀ x ∈ s.ls, x.length ≤ 256) → foldO (partF D n) s azs bs = some s' → (∀ x ∈ s'.ls, x.length ≤ 256) ∧ s'.ws.length ≤ s.ws.length + azs.flatten.length ∧ s'.ls.length = s.ls.length
  | [], bs, s, s', _, _, hs, h => by simp only [foldO, Option.some.injEq] at h; subst h; exact ⟨hs, Nat.le_add_right _ _, rfl⟩
  | a :: azs, [], s, s', _, _, hs, h => by simp only [foldO, Option.some.injEq] at h; subst h; exact ⟨hs, Nat.le_add_right _ _, rfl⟩
  | a :: azs, b :: bs, s, s', ha, hb, hs, h => by
    simp only [foldO, Option.bind_eq_some_iff] at h
    obtain ⟨s1, e1, e2⟩ := h
    obtain ⟨i1, i2, i3⟩ := ih s a b s1 (ha a List.mem_cons_self) (hb b List.mem_cons_self) hs e1
    obtain ⟨j1, j2, j3⟩ := fold_small ih azs bs s1 s' (fun x hx => ha x (List.mem_cons_of_mem _ hx)) (fun x hx => hb x (List.mem_cons_of_mem _ hx)) i1 e2
    simp only [List.flatten_cons, List.length_append]
    exact ⟨j1, by omega, by omega⟩
theorem partF_small {D : List Cel → List Cel} (hD : ∀ t, glob t = true → glob (D t) = true) : ∀ (n : Nat) (s : TSt) (p t : List Cel) (s' : TSt), right p = true → glob t = true → (∀ x ∈ s.ls, x.length ≤ 256) → partF D n s p t = some s' → (∀ x ∈ s'.ls, x.length ≤ 256) ∧ s'.ws.length ≤ s.ws.length + p.length ∧ s'.ls.length = s.ls.length
  | 0, s, p, t, s', _, _, _, h => by cases h
  | n + 1, s, p, t, s', hp, ht, hs, h => by
    have h1 := (right_len hp).1
    have h2 := (right_len (glob_right ht)).2
    rw [partF_succ] at h
    split at h
    · split at h
      · cases h
      · injection h with h; subst h
        refine ⟨fun x hx => ?_, Nat.le_add_right _ _, by simp⟩
        rcases List.mem_or_eq_of_mem_set hx with h | h
        · exact hs x h
        · rw [h]; exact h2
    · split at h
      · injection h with h; subst h
        have := addN_len s.ws ((D t).headD default).v
        exact ⟨hs, by simp only; omega, rfl⟩
      · split at h
        · cases h
        · obtain ⟨a, b, c⟩ := fold_small (partF_small hD n) (args p) (args (D t)) s s' (fun x hx => args_rights hx) (fun x hx => args_glob (hD t ht) hx) hs h
          have := args_flat p
          exact ⟨a, by omega, c⟩
theorem headL_small {D : List Cel → List Cel} (hD : ∀ t, glob t = true → glob (D t) = true) (n : Nat) (p g : List Cel) : (∀ t ∈ (headL D n p g).ls, t.length ≤ 256) ∧ (headL D n p g).ls.length ≤ n ∧ (headL D n p g).ws.length ≤ 257 := by
  have z : ∀ k : Nat, (∀ t ∈ (TryR.mk k [] []).ls, t.length ≤ 256) ∧ (TryR.mk k [] []).ls.length ≤ n ∧ (TryR.mk k [] []).ws.length ≤ 257 := fun k => ⟨fun t h => (by cases h), Nat.zero_le _, Nat.zero_le _⟩
  unfold headL
  split
  · exact z 2
  · rename_i hc
    simp only [Bool.or_eq_true, Bool.not_eq_true', not_or, decide_eq_true_eq, Bool.not_eq_false] at hc
    split
    · exact ⟨fun t h => by (cases h), Nat.zero_le _, by simp⟩
    · split
      · exact z 2
      · cases hf : foldO (partF D 256) ⟨List.replicate n [], []⟩ (args p) (args (D g)) with
        | none => exact z 2
        | some s =>
          obtain ⟨a, b, c⟩ := fold_small (partF_small hD 256) (args p) (args (D g)) ⟨List.replicate n [], []⟩ s (fun x hx => args_rights hx) (fun x hx => args_glob hc.1.1 hx) (fun x hx => by
            rw [List.eq_of_mem_replicate hx]; exact Nat.zero_le _) hf
          have h1 := args_flat p
          have h2 := (right_len hc.2).2
          simp only [List.length_nil, List.length_replicate] at b c
          simp only
          split
          · exact ⟨a, by simp only; omega, Nat.zero_le _⟩
          · exact ⟨fun t h => by (cases h), Nat.zero_le _, by simp only; omega⟩
theorem isoW_closed {cfg : Cfg} {d : Nat} {f : FuncId} {args args' : List AVal} {fr : List AVal} {σ : Store} {K : List AVal → Store → AVal → Prop} {w : Wit K} {n : Nat} {v : AVal} (ha : mapO (frz σ (d + 1) frzFuel) args = some args') (h : (run cfg n (d + 1) f args' []).bind (fun p => frz p.2 0 frzFuel p.1) = some v) (ht : v.tag ≤ d) (hk : K fr σ v) : isoW cfg d f args fr σ K w := by
  rw [Option.bind_eq_some_iff] at h
  obtain ⟨⟨u, σ1⟩, h1, h2⟩ := h
  unfold isoW callP
  exact ⟨args', ha, n, u, σ1, h1, v, h2, ht, hk⟩
theorem frz_heap0 {σ : Store} {id mid : Nat} (h1 : σ[id]? = some (.cells [.map mid])) (h2 : σ[mid]? = some (.map [] [])) : frz σ 2 frzFuel (.ptr id 0) = some l7h := by
  simp only [frzFuel, frz, h1, mapO, h2]
  rfl
theorem frz_l7c (σ : Store) : frz σ 2 frzFuel l7c = some l7c := rfl
theorem frz_l7p (σ : Store) (k n : Int) : frz σ 2 frzFuel (l7p k n) = some (l7p k n) := rfl
theorem l7_args {σ : Store} {id mid : Nat} (h1 : σ[id]? = some (.cells [.map mid])) (h2 : σ[mid]? = some (.map [] [])) (k n : Int) : mapO (frz σ 2 frzFuel) [.ptr id 0, l7c, l7p k n] = some [l7h, l7c, l7p k n] := by
  simp only [mapO, frz_heap0 h1 h2, frz_l7c, frz_l7p]
theorem l7_put (σ : Store) {k : Nat} {lv wv : AVal} (hl : lv.one = true) (hw : wv.one = true) : storeV (σ ++ [AObj.cells tryZ]) 4 (.ptr σ.length 0) (.agg (tryC k lv wv)) = some (σ ++ [AObj.cells (tryC k lv wv)]) := by
  have ho : (σ ++ [AObj.cells tryZ])[σ.length]? = some (.cells tryZ) := by simp
  obtain ⟨p1, -⟩ := try_put (σ' := σ) (k := k) ho hl hw
  rw [p1, set_last]
def l7la : AVal := .fslice 0 true 1 [.fslice 0 false 5 [.agg [.int .u8 1, .str [], .int .i64 2, .int .i64 0, .int .i64 0]]]
def l7ws : AVal := .fslice 0 false 2 [.agg [.int .i64 0, .int .i64 0]]
theorem live07_ran : ∃ n, (run CU.cfg n 1 25 [] []).map (fun p => p.1) = some (.bool true) := by
  have key : Called CU.cfg 1 25 [] [] fun v _ => v = .bool true := by
    refine called_of (fn := CU.a25) rfl (Nat.le_of_ble_eq_true rfl) ?_
    simp only [CU.a25]
    have ea : l7a = .agg (tryC 1 l7la .nilslice) := rfl
    have eb : l7b = .agg (tryC 2 .nilslice .nilslice) := rfl
    have es : l7s = .agg (tryC 3 .nilslice l7ws) := rfl
    have bP : fillA [AVal.int IntKind.u8 0, AVal.str [], AVal.int IntKind.i64 0, AVal.int IntKind.i64 0, AVal.int IntKind.i64 0] [(0, 1, AVal.int .u8 3), (1, 1, .str [112]), (2, 1, .int .i64 1)] = some (Cel.cs ⟨3, [112], 1, (0, 0)⟩) := rfl
    have bA : fillA [AVal.int IntKind.u8 0, AVal.str [], AVal.int IntKind.i64 0, AVal.int IntKind.i64 0, AVal.int IntKind.i64 0] [(0, 1, AVal.int .u8 1), (2, 1, .int .i64 2)] = some (Cel.cs ⟨1, [], 2, (0, 0)⟩) := rfl
    have bB : fillA [AVal.int IntKind.u8 0, AVal.str [], AVal.int IntKind.i64 0, AVal.int IntKind.i64 0, AVal.int IntKind.i64 0] [(0, 1, AVal.int .u8 1)] = some (Cel.cs ⟨1, [], 0, (0, 0)⟩) := rfl
    have bS : fillA [AVal.int IntKind.u8 0, AVal.str [], AVal.int IntKind.i64 0, AVal.int IntKind.i64 0, AVal.int IntKind.i64 0] [(0, 1, AVal.int .u8 4)] = some (Cel.cs ⟨4, [], 0, (0, 0)⟩) := rfl
    have bL : ∀ a b : Cel, fillL 5 true (List.replicate 2 (zel [AVal.int IntKind.u8 0, AVal.str [], AVal.int IntKind.i64 0, AVal.int IntKind.i64 0, AVal.int IntKind.i64 0] true)) [(0, .agg a.cs), (1, .agg b.cs)] = some [a.val, b.val] := fun a b => rfl
    simp -dsimp only [↓WPd, ↓wpC_block, ↓wpC_cond, WPu, Bool.false_eq_true, Bool.true_eq_false, Bool.not_true, Bool.not_false, if_true, if_false, ite_true, ite_false, Nat.reduceEqDiff, Nat.reduceLT, true_and, List.map_cons, List.map_nil, Nat.zero_add, Nat.reduceBEq]
    refine calledW_of (hnew_ok 1 []) ?_
    rintro r σ1 ⟨id, mid, rfl, hp, g1, -, -, -, -⟩
    have o1 := hp.obj
    have o2 : σ1[mid]? = some (.map [] []) := hp.map
    simp -dsimp only [↓WPd, ↓wpC_block, ↓wpC_cond, WPu, Bool.false_eq_true, Bool.true_eq_false, Bool.not_true, Bool.not_false, if_true, if_false, ite_true, ite_false, Nat.reduceEqDiff, Nat.reduceLT, true_and, List.map_cons, List.map_nil, Nat.zero_add, Nat.reduceBEq]
    refine isoW_closed (args' := []) rfl l7_c (by decide) ?_
    simp -dsimp only [↓WPd, ↓wpC_block, ↓wpC_cond, WPu, Bool.false_eq_true, Bool.true_eq_false, Bool.not_true, Bool.not_false, if_true, if_false, ite_true, ite_false, Nat.reduceEqDiff, Nat.reduceLT, true_and, List.map_cons, List.map_nil, Nat.zero_add, Nat.reduceBEq, bP, bA, bL]
    refine isoW_closed (args' := [l7h, l7c, l7p 1 2]) (l7_args o1 o2 1 2) l7_a (by decide) ?_
    rw [ea]
    have q1 := l7_put σ1 (k := 1) (lv := l7la) (wv := .nilslice) rfl rfl
    simp -dsimp only [↓WPd, ↓wpC_block, ↓wpC_cond, WPu, Bool.false_eq_true, Bool.true_eq_false, Bool.not_true, Bool.not_false, if_true, if_false, ite_true, ite_false, Nat.reduceEqDiff, Nat.reduceLT, true_and, List.map_cons, List.map_nil, Nat.zero_add, Nat.reduceBEq, q1]
    have oa : (σ1 ++ [AObj.cells (tryC 1 l7la .nilslice)])[σ1.length]? = some (.cells (tryC 1 l7la .nilslice)) := by simp
    have g2 : Grows σ1 (σ1 ++ [AObj.cells (tryC 1 l7la .nilslice)]) := Grows.app _ _
    generalize σ1 ++ [AObj.cells (tryC 1 l7la .nilslice)] = σ2 at oa g2
    generalize σ1.length = ia at oa
    refine isoW_closed (args' := []) rfl l7_c (by decide) ?_
    simp -dsimp only [↓WPd, ↓wpC_block, ↓wpC_cond, WPu, Bool.false_eq_true, Bool.true_eq_false, Bool.not_true, Bool.not_false, if_true, if_false, ite_true, ite_false, Nat.reduceEqDiff, Nat.reduceLT, true_and, List.map_cons, List.map_nil, Nat.zero_add, Nat.reduceBEq, bP, bB, bL]
    refine isoW_closed (args' := [l7h, l7c, l7p 1 0]) (l7_args (g2.get o1) (g2.get o2) 1 0) l7_b (by decide) ?_
    rw [eb]
    have q2 := l7_put σ2 (k := 2) (lv := .nilslice) (wv := .nilslice) rfl rfl
    simp -dsimp only [↓WPd, ↓wpC_block, ↓wpC_cond, WPu, Bool.false_eq_true, Bool.true_eq_false, Bool.not_true, Bool.not_false, if_true, if_false, ite_true, ite_false, Nat.reduceEqDiff, Nat.reduceLT, true_and, List.map_cons, List.map_nil, Nat.zero_add, Nat.reduceBEq, q2]
    have ob : (σ2 ++ [AObj.cells (tryC 2 .nilslice .nilslice)])[σ2.length]? = some (.cells (tryC 2 .nilslice .nilslice)) := by simp
    have g3 : Grows σ2 (σ2 ++ [AObj.cells (tryC 2 .nilslice .nilslice)]) := Grows.app _ _
    generalize σ2 ++ [AObj.cells (tryC 2 .nilslice .nilslice)] = σ3 at ob g3
    generalize σ2.length = ib at ob
    refine isoW_closed (args' := []) rfl l7_c (by decide) ?_
    simp -dsimp only [↓WPd, ↓wpC_block, ↓wpC_cond, WPu, Bool.false_eq_true, Bool.true_eq_false, Bool.not_true, Bool.not_false, if_true, if_false, ite_true, ite_false, Nat.reduceEqDiff, Nat.reduceLT, true_and, List.map_cons, List.map_nil, Nat.zero_add, Nat.reduceBEq, bP, bS, bL]
    refine isoW_closed (args' := [l7h, l7c, l7p 4 0]) (l7_args (g3.get (g2.get o1)) (g3.get (g2.get o2)) 4 0) l7_s (by decide) ?_
    rw [es]
    have q3 := l7_put σ3 (k := 3) (lv := .nilslice) (wv := l7ws) rfl rfl
    simp -dsimp only [↓WPd, ↓wpC_block, ↓wpC_cond, WPu, Bool.false_eq_true, Bool.true_eq_false, Bool.not_true, Bool.not_false, if_true, if_false, ite_true, ite_false, Nat.reduceEqDiff, Nat.reduceLT, true_and, List.map_cons, List.map_nil, Nat.zero_add, Nat.reduceBEq, q3]
    have oc : (σ3 ++ [AObj.cells (tryC 3 .nilslice l7ws)])[σ3.length]? = some (.cells (tryC 3 .nilslice l7ws)) := by simp
    have g4 : Grows σ3 (σ3 ++ [AObj.cells (tryC 3 .nilslice l7ws)]) := Grows.app _ _
    generalize σ3 ++ [AObj.cells (tryC 3 .nilslice l7ws)] = σ4 at oc g4
    generalize σ3.length = ic at oc
    have oa4 := g4.get (g3.get oa)
    have ob4 := g4.get ob
    have t0 : ∀ k lv wv, (tryC k lv wv)[0]? = some (.int .u8 k) := fun _ _ _ => rfl
    have t3 : ∀ k lv wv, (tryC k lv wv)[3]? = some wv := fun _ _ _ => rfl
    have k1 : (((1 : Nat) : Int) == 1) = true := rfl
    have k2 : (((2 : Nat) : Int) == 2) = true := rfl
    have k3 : (((3 : Nat) : Int) == 3) = true := rfl
    have lw : lenSV l7ws = some 1 := rfl
    simp -dsimp only [↓WPd, ↓wpC_block, ↓wpC_cond, WPu, Bool.false_eq_true, Bool.true_eq_false, Bool.not_true, Bool.not_false, if_true, if_false, ite_true, ite_false, Nat.reduceEqDiff, Nat.reduceLT, true_and, List.map_cons, List.map_nil, Nat.zero_add, Nat.reduceBEq, faddr_ptr, Nat.add_zero, Nat.zero_add, load_cells oa4, load_cells ob4, load_cells oc, t0, t3, k1, k2, k3, lw]
  obtain ⟨n, v, σ', h1, h2⟩ := key
  exact ⟨n, by rw [h1, h2]; rfl⟩
end Go.Proofs.YtkjnanfkclijcaaDoor.Am

namespace Go.Proofs.YtkjnanfkclijcaaDoor.Am
open Go
set_option linter.unusedVariables false
set_option linter.unusedSimpArgs false
set_option linter.unusedSectionVars false
set_option maxRecDepth 100000
theorem heads_run (bv pv gv : AVal) (bs : Hp) (p g : List Cel) (hb : BdArg bv bs) (hx : Told pv p) (hy : Told gv g) (sp : Small p) (sg : Small g) (hin : ∀ c ∈ p, c.In) :
    Called CU.cfg 0 5 [bv, pv, gv] [] fun v _ => v = .bool true := by
  refine called_of (fn := CU.a5) rfl (Nat.le_of_ble_eq_true rfl) ?_
  simp only [CU.a5]
  simp -dsimp only [↓WPd, ↓wpC_block, ↓wpC_cond, WPu, Bool.false_eq_true, Bool.true_eq_false, Bool.not_true, Bool.not_false, if_true, if_false, ite_true, ite_false, Nat.reduceEqDiff, Nat.reduceLT, true_and, List.map_cons, List.map_nil, Nat.zero_add, Nat.reduceBEq]
  refine calledW_of (both7_ok 0 [] bv bs hb) ?_
  rintro r σ1 ⟨id, mid, vs, rid, A, rfl, h1, r1, -, -, -, -, -⟩
  obtain ⟨n, hlive⟩ := live07_ran
  have hw := h1.wf
  have S := Same.binds bs Same.nil
  have hwr := S.wfr
  have hRl := bindsR_len bs []
  have hbl := hb.len
  simp only [List.length_nil] at hRl
  have hD : deref (bindsR [] bs) = deref (bindsH [] bs) := funext S.deref
  have hG : ∀ t, glob t = true → glob (deref (bindsH [] bs) t) = true := fun t ht => deref_glob hw ht
  generalize bindsH [] bs = H at *
  generalize bindsR [] bs = R at *
  simp -dsimp only [↓WPd, ↓wpC_block, ↓wpC_cond, WPu, Bool.false_eq_true, Bool.true_eq_false, Bool.not_true, Bool.not_false, if_true, if_false, ite_true, ite_false, Nat.reduceEqDiff, Nat.reduceLT, true_and, List.map_cons, List.map_nil, Nat.zero_add, Nat.reduceBEq, List.getElem?_cons_zero, List.getElem?_cons_succ]
  refine isoW_bool hlive ?_
  simp -dsimp only [↓WPd, ↓wpC_block, ↓wpC_cond, WPu, Bool.false_eq_true, Bool.true_eq_false, Bool.not_true, Bool.not_false, if_true, if_false, ite_true, ite_false, Nat.reduceEqDiff, Nat.reduceLT, true_and, List.map_cons, List.map_nil, Nat.zero_add, Nat.reduceBEq]
  refine calledW_of (mHead_ok 0 σ1 (.ptr id 0) pv gv H p g h1.v sp hin sg (hx σ1) (hy σ1)) ?_
  rintro r1v σ2 ⟨g2, T2⟩
  simp -dsimp only [↓WPd, ↓wpC_block, ↓wpC_cond, WPu, Bool.false_eq_true, Bool.true_eq_false, Bool.not_true, Bool.not_false, if_true, if_false, ite_true, ite_false, Nat.reduceEqDiff, Nat.reduceLT, true_and, List.map_cons, List.map_nil, Nat.zero_add, Nat.reduceBEq]
  refine calledW_of (of_ok 0 σ2 r1v _ T2) ?_
  rintro r2v σ3 ⟨g3, T3⟩
  simp -dsimp only [↓WPd, ↓wpC_block, ↓wpC_cond, WPu, Bool.false_eq_true, Bool.true_eq_false, Bool.not_true, Bool.not_false, if_true, if_false, ite_true, ite_false, Nat.reduceEqDiff, Nat.reduceLT, true_and, List.map_cons, List.map_nil, Nat.zero_add, Nat.reduceBEq]
  refine calledW_of (rHead_ok 0 σ3 (.ptr rid 0) pv gv R p g ((r1.grow g2).grow g3).v hwr (by omega) sp hin sg (hx σ3) (hy σ3)) ?_
  rintro r3v σ4 ⟨g4, T4⟩
  rw [hD] at T4
  obtain ⟨z1, z2, z3⟩ := headL_small hG (countL (varsL [] p)) p g
  have z4 := count_le (varsL [] p)
  simp -dsimp only [↓WPd, ↓wpC_block, ↓wpC_cond, WPu, Bool.false_eq_true, Bool.true_eq_false, Bool.not_true, Bool.not_false, if_true, if_false, ite_true, ite_false, Nat.reduceEqDiff, Nat.reduceLT, true_and, List.map_cons, List.map_nil, Nat.zero_add, Nat.reduceBEq]
  refine calledW_of (same_ok 0 σ4 r2v r3v _ (T3.grow g4) T4 (by omega) (fun t ht => by have := z1 t ht; omega) (by omega)) ?_
  rintro v σ5 ⟨rfl, -⟩
  simp -dsimp only [↓WPd, ↓wpC_block, ↓wpC_cond, WPu, Bool.false_eq_true, Bool.true_eq_false, Bool.not_true, Bool.not_false, if_true, if_false, ite_true, ite_false, Nat.reduceEqDiff, Nat.reduceLT, true_and, List.map_cons, List.map_nil, Nat.zero_add, Nat.reduceBEq]
end Go.Proofs.YtkjnanfkclijcaaDoor.Am

