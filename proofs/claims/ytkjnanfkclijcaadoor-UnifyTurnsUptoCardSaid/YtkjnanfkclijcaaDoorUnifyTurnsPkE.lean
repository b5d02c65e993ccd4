/-
  The abstract machine and the functions of the law, 5: texts put together.
-/
import Derived.Test.YtkjnanfkclijcaaDoorUnifyTurnsPkC
import Derived.Test.YtkjnanfkclijcaaDoorProg
namespace Go.Proofs.YtkjnanfkclijcaaDoor.Am.CU
open Go Go.Proofs.YtkjnanfkclijcaaDoor.Am
set_option linter.unusedVariables false
set_option maxRecDepth 100000
set_option maxHeartbeats 4000000
theorem ok4 : FnOk cfg Tryd.prog 4 a4 := ⟨⟨Tryd.f4, _, Tryd.func4, by decide, rfl, rfl, by kernel_rfl, by kernel_rfl⟩⟩
theorem ok15 : FnOk cfg Tryd.prog 15 a15 := ⟨⟨Tryd.f15, _, Tryd.func15, by decide, rfl, rfl, by kernel_rfl, by kernel_rfl⟩⟩
theorem ok17 : FnOk cfg Tryd.prog 17 a17 := ⟨⟨Tryd.f17, _, Tryd.func17, by decide, rfl, rfl, by kernel_rfl, by kernel_rfl⟩⟩
theorem ok18 : FnOk cfg Tryd.prog 18 a18 := ⟨⟨Tryd.f18, _, Tryd.func18, by decide, rfl, rfl, by kernel_rfl, by kernel_rfl⟩⟩
theorem ok22 : FnOk cfg Tryd.prog 22 a22 := ⟨⟨Tryd.f22, _, Tryd.func22, by decide, rfl, rfl, by kernel_rfl, by kernel_rfl⟩⟩
theorem ok23 : FnOk cfg Tryd.prog 23 a23 := ⟨⟨Tryd.f23, _, Tryd.func23, by decide, rfl, rfl, by kernel_rfl, by kernel_rfl⟩⟩
theorem ok37 : FnOk cfg Tryd.prog 37 a37 := ⟨⟨Tryd.f37, _, Tryd.func37, by decide, rfl, rfl, by kernel_rfl, by kernel_rfl⟩⟩
theorem ok41 : FnOk cfg Tryd.prog 41 a41 := ⟨⟨Tryd.f41, _, Tryd.func41, by decide, rfl, rfl, by kernel_rfl, by kernel_rfl⟩⟩
theorem ok48 : FnOk cfg Tryd.prog 48 a48 := ⟨⟨Tryd.f48, _, Tryd.func48, by decide, rfl, rfl, by kernel_rfl, by kernel_rfl⟩⟩
theorem ok50 : FnOk cfg Tryd.prog 50 a50 := ⟨⟨Tryd.f50, _, Tryd.func50, by decide, rfl, rfl, by kernel_rfl, by kernel_rfl⟩⟩
theorem ok60 : FnOk cfg Tryd.prog 60 a60 := ⟨⟨Tryd.f60, _, Tryd.func60, by decide, rfl, rfl, by kernel_rfl, by kernel_rfl⟩⟩
theorem ok61 : FnOk cfg Tryd.prog 61 a61 := ⟨⟨Tryd.f61, _, Tryd.func61, by decide, rfl, rfl, by kernel_rfl, by kernel_rfl⟩⟩
theorem ok62 : FnOk cfg Tryd.prog 62 a62 := ⟨⟨Tryd.f62, _, Tryd.func62, by decide, rfl, rfl, by kernel_rfl, by kernel_rfl⟩⟩
theorem ok63 : FnOk cfg Tryd.prog 63 a63 := ⟨⟨Tryd.f63, _, Tryd.func63, by decide, rfl, rfl, by kernel_rfl, by kernel_rfl⟩⟩
theorem ok66 : FnOk cfg Tryd.prog 66 a66 := ⟨⟨Tryd.f66, _, Tryd.func66, by decide, rfl, rfl, by kernel_rfl, by kernel_rfl⟩⟩
theorem ok67 : FnOk cfg Tryd.prog 67 a67 := ⟨⟨Tryd.f67, _, Tryd.func67, by decide, rfl, rfl, by kernel_rfl, by kernel_rfl⟩⟩
theorem ok68 : FnOk cfg Tryd.prog 68 a68 := ⟨⟨Tryd.f68, _, Tryd.func68, by decide, rfl, rfl, by kernel_rfl, by kernel_rfl⟩⟩
theorem ok76 : FnOk cfg Tryd.prog 76 a76 := ⟨⟨Tryd.f76, _, Tryd.func76, by decide, rfl, rfl, by kernel_rfl, by kernel_rfl⟩⟩
theorem ok77 : FnOk cfg Tryd.prog 77 a77 := ⟨⟨Tryd.f77, _, Tryd.func77, by decide, rfl, rfl, by kernel_rfl, by kernel_rfl⟩⟩
theorem ok78 : FnOk cfg Tryd.prog 78 a78 := ⟨⟨Tryd.f78, _, Tryd.func78, by decide, rfl, rfl, by kernel_rfl, by kernel_rfl⟩⟩
theorem ok79 : FnOk cfg Tryd.prog 79 a79 := ⟨⟨Tryd.f79, _, Tryd.func79, by decide, rfl, rfl, by kernel_rfl, by kernel_rfl⟩⟩
theorem ok80 : FnOk cfg Tryd.prog 80 a80 := ⟨⟨Tryd.f80, _, Tryd.func80, by decide, rfl, rfl, by kernel_rfl, by kernel_rfl⟩⟩
theorem ok81 : FnOk cfg Tryd.prog 81 a81 := ⟨⟨Tryd.f81, _, Tryd.func81, by decide, rfl, rfl, by kernel_rfl, by kernel_rfl⟩⟩
theorem ok88 : FnOk cfg Tryd.prog 88 a88 := ⟨⟨Tryd.f88, _, Tryd.func88, by decide, rfl, rfl, by kernel_rfl, by kernel_rfl⟩⟩
theorem ok90 : FnOk cfg Tryd.prog 90 a90 := ⟨⟨Tryd.f90, _, Tryd.func90, by decide, rfl, rfl, by kernel_rfl, by kernel_rfl⟩⟩
theorem ok93 : FnOk cfg Tryd.prog 93 a93 := ⟨⟨Tryd.f93, _, Tryd.func93, by decide, rfl, rfl, by kernel_rfl, by kernel_rfl⟩⟩
theorem ok100 : FnOk cfg Tryd.prog 100 a100 := ⟨⟨Tryd.f100, _, Tryd.func100, by decide, rfl, rfl, by kernel_rfl, by kernel_rfl⟩⟩
theorem ok101 : FnOk cfg Tryd.prog 101 a101 := ⟨⟨Tryd.f101, _, Tryd.func101, by decide, rfl, rfl, by kernel_rfl, by kernel_rfl⟩⟩
theorem ok104 : FnOk cfg Tryd.prog 104 a104 := ⟨⟨Tryd.f104, _, Tryd.func104, by decide, rfl, rfl, by kernel_rfl, by kernel_rfl⟩⟩
theorem ok106 : FnOk cfg Tryd.prog 106 a106 := ⟨⟨Tryd.f106, _, Tryd.func106, by decide, rfl, rfl, by kernel_rfl, by kernel_rfl⟩⟩
theorem ok107 : FnOk cfg Tryd.prog 107 a107 := ⟨⟨Tryd.f107, _, Tryd.func107, by decide, rfl, rfl, by kernel_rfl, by kernel_rfl⟩⟩
theorem ok113 : FnOk cfg Tryd.prog 113 a113 := ⟨⟨Tryd.f113, _, Tryd.func113, by decide, rfl, rfl, by kernel_rfl, by kernel_rfl⟩⟩
theorem ok114 : FnOk cfg Tryd.prog 114 a114 := ⟨⟨Tryd.f114, _, Tryd.func114, by decide, rfl, rfl, by kernel_rfl, by kernel_rfl⟩⟩
theorem ok115 : FnOk cfg Tryd.prog 115 a115 := ⟨⟨Tryd.f115, _, Tryd.func115, by decide, rfl, rfl, by kernel_rfl, by kernel_rfl⟩⟩
theorem ok116 : FnOk cfg Tryd.prog 116 a116 := ⟨⟨Tryd.f116, _, Tryd.func116, by decide, rfl, rfl, by kernel_rfl, by kernel_rfl⟩⟩
theorem ok117 : FnOk cfg Tryd.prog 117 a117 := ⟨⟨Tryd.f117, _, Tryd.func117, by decide, rfl, rfl, by kernel_rfl, by kernel_rfl⟩⟩
theorem ok118 : FnOk cfg Tryd.prog 118 a118 := ⟨⟨Tryd.f118, _, Tryd.func118, by decide, rfl, rfl, by kernel_rfl, by kernel_rfl⟩⟩
theorem ok120 : FnOk cfg Tryd.prog 120 a120 := ⟨⟨Tryd.f120, _, Tryd.func120, by decide, rfl, rfl, by kernel_rfl, by kernel_rfl⟩⟩
theorem ok123 : FnOk cfg Tryd.prog 123 a123 := ⟨⟨Tryd.f123, _, Tryd.func123, by decide, rfl, rfl, by kernel_rfl, by kernel_rfl⟩⟩
theorem ok124 : FnOk cfg Tryd.prog 124 a124 := ⟨⟨Tryd.f124, _, Tryd.func124, by decide, rfl, rfl, by kernel_rfl, by kernel_rfl⟩⟩
theorem ok125 : FnOk cfg Tryd.prog 125 a125 := ⟨⟨Tryd.f125, _, Tryd.func125, by decide, rfl, rfl, by kernel_rfl, by kernel_rfl⟩⟩
theorem ok126 : FnOk cfg Tryd.prog 126 a126 := ⟨⟨Tryd.f126, _, Tryd.func126, by decide, rfl, rfl, by kernel_rfl, by kernel_rfl⟩⟩
theorem ok127 : FnOk cfg Tryd.prog 127 a127 := ⟨⟨Tryd.f127, _, Tryd.func127, by decide, rfl, rfl, by kernel_rfl, by kernel_rfl⟩⟩
theorem ok137 : FnOk cfg Tryd.prog 137 a137 := ⟨⟨Tryd.f137, _, Tryd.func137, by decide, rfl, rfl, by kernel_rfl, by kernel_rfl⟩⟩
theorem ok139 : FnOk cfg Tryd.prog 139 a139 := ⟨⟨Tryd.f139, _, Tryd.func139, by decide, rfl, rfl, by kernel_rfl, by kernel_rfl⟩⟩
theorem ok151 : FnOk cfg Tryd.prog 151 a151 := ⟨⟨Tryd.f151, _, Tryd.func151, by decide, rfl, rfl, by kernel_rfl, by kernel_rfl⟩⟩
theorem ok152 : FnOk cfg Tryd.prog 152 a152 := ⟨⟨Tryd.f152, _, Tryd.func152, by decide, rfl, rfl, by kernel_rfl, by kernel_rfl⟩⟩
theorem ok153 : FnOk cfg Tryd.prog 153 a153 := ⟨⟨Tryd.f153, _, Tryd.func153, by decide, rfl, rfl, by kernel_rfl, by kernel_rfl⟩⟩
theorem ok154 : FnOk cfg Tryd.prog 154 a154 := ⟨⟨Tryd.f154, _, Tryd.func154, by decide, rfl, rfl, by kernel_rfl, by kernel_rfl⟩⟩
theorem ok155 : FnOk cfg Tryd.prog 155 a155 := ⟨⟨Tryd.f155, _, Tryd.func155, by decide, rfl, rfl, by kernel_rfl, by kernel_rfl⟩⟩
theorem ok156 : FnOk cfg Tryd.prog 156 a156 := ⟨⟨Tryd.f156, _, Tryd.func156, by decide, rfl, rfl, by kernel_rfl, by kernel_rfl⟩⟩
theorem ok157 : FnOk cfg Tryd.prog 157 a157 := ⟨⟨Tryd.f157, _, Tryd.func157, by decide, rfl, rfl, by kernel_rfl, by kernel_rfl⟩⟩
theorem ok158 : FnOk cfg Tryd.prog 158 a158 := ⟨⟨Tryd.f158, _, Tryd.func158, by decide, rfl, rfl, by kernel_rfl, by kernel_rfl⟩⟩
theorem ok159 : FnOk cfg Tryd.prog 159 a159 := ⟨⟨Tryd.f159, _, Tryd.func159, by decide, rfl, rfl, by kernel_rfl, by kernel_rfl⟩⟩
theorem ok160 : FnOk cfg Tryd.prog 160 a160 := ⟨⟨Tryd.f160, _, Tryd.func160, by decide, rfl, rfl, by kernel_rfl, by kernel_rfl⟩⟩
theorem ok161 : FnOk cfg Tryd.prog 161 a161 := ⟨⟨Tryd.f161, _, Tryd.func161, by decide, rfl, rfl, by kernel_rfl, by kernel_rfl⟩⟩
theorem ok162 : FnOk cfg Tryd.prog 162 a162 := ⟨⟨Tryd.f162, _, Tryd.func162, by decide, rfl, rfl, by kernel_rfl, by kernel_rfl⟩⟩
theorem ok163 : FnOk cfg Tryd.prog 163 a163 := ⟨⟨Tryd.f163, _, Tryd.func163, by decide, rfl, rfl, by kernel_rfl, by kernel_rfl⟩⟩
theorem ok164 : FnOk cfg Tryd.prog 164 a164 := ⟨⟨Tryd.f164, _, Tryd.func164, by decide, rfl, rfl, by kernel_rfl, by kernel_rfl⟩⟩
theorem ok165 : FnOk cfg Tryd.prog 165 a165 := ⟨⟨Tryd.f165, _, Tryd.func165, by decide, rfl, rfl, by kernel_rfl, by kernel_rfl⟩⟩
theorem ok173 : FnOk cfg Tryd.prog 173 a173 := ⟨⟨Tryd.f173, _, Tryd.func173, by decide, rfl, rfl, by kernel_rfl, by kernel_rfl⟩⟩
theorem orF_cases {a b : Option AFunc} {x : AFunc} (h : orF a b = some x) : a = some x ∨ b = some x := by
  unfold orF at h
  split at h
  · exact .inl h
  · exact .inr h
theorem fns0 (f : FuncId) (fn : AFunc) (h : ir0 f = some fn) : FnOk cfg Tryd.prog f fn := by
  unfold ir0 at h
  split at h
  · injection h with h; subst h; exact ok4
  · injection h with h; subst h; exact ok15
  · injection h with h; subst h; exact ok17
  · injection h with h; subst h; exact ok18
  · injection h with h; subst h; exact ok22
  · injection h with h; subst h; exact ok23
  · injection h with h; subst h; exact ok37
  · injection h with h; subst h; exact ok41
  · injection h with h; subst h; exact ok48
  · injection h with h; subst h; exact ok50
  · injection h with h; subst h; exact ok60
  · injection h with h; subst h; exact ok61
  · injection h with h; subst h; exact ok62
  · injection h with h; subst h; exact ok63
  · injection h with h; subst h; exact ok66
  · injection h with h; subst h; exact ok67
  · injection h with h; subst h; exact ok68
  · injection h with h; subst h; exact ok76
  · injection h with h; subst h; exact ok77
  · injection h with h; subst h; exact ok78
  · injection h with h; subst h; exact ok79
  · injection h with h; subst h; exact ok80
  · injection h with h; subst h; exact ok81
  · injection h with h; subst h; exact ok88
  · injection h with h; subst h; exact ok90
  · injection h with h; subst h; exact ok93
  · injection h with h; subst h; exact ok100
  · injection h with h; subst h; exact ok101
  · injection h with h; subst h; exact ok104
  · injection h with h; subst h; exact ok106
  · injection h with h; subst h; exact ok107
  · injection h with h; subst h; exact ok113
  · injection h with h; subst h; exact ok114
  · injection h with h; subst h; exact ok115
  · injection h with h; subst h; exact ok116
  · injection h with h; subst h; exact ok117
  · injection h with h; subst h; exact ok118
  · injection h with h; subst h; exact ok120
  · injection h with h; subst h; exact ok123
  · injection h with h; subst h; exact ok124
  · cases h
theorem fns1 (f : FuncId) (fn : AFunc) (h : ir1 f = some fn) : FnOk cfg Tryd.prog f fn := by
  unfold ir1 at h
  split at h
  · injection h with h; subst h; exact ok125
  · injection h with h; subst h; exact ok126
  · injection h with h; subst h; exact ok127
  · injection h with h; subst h; exact ok137
  · injection h with h; subst h; exact ok139
  · injection h with h; subst h; exact ok151
  · injection h with h; subst h; exact ok152
  · injection h with h; subst h; exact ok153
  · injection h with h; subst h; exact ok154
  · injection h with h; subst h; exact ok155
  · injection h with h; subst h; exact ok156
  · injection h with h; subst h; exact ok157
  · injection h with h; subst h; exact ok158
  · injection h with h; subst h; exact ok159
  · injection h with h; subst h; exact ok160
  · injection h with h; subst h; exact ok161
  · injection h with h; subst h; exact ok162
  · injection h with h; subst h; exact ok163
  · injection h with h; subst h; exact ok164
  · injection h with h; subst h; exact ok165
  · injection h with h; subst h; exact ok173
  · cases h
theorem fns : ∀ f fn, cfg.ir f = some fn → FnOk cfg Tryd.prog f fn := by
  intro f fn h
  rcases orF_cases h with h | h
  · exact fns0 f fn h
  exact fns1 f fn h
theorem all : CfgOk Tryd.prog cfg := ⟨fns, fun _ _ h => by cases h⟩
end Go.Proofs.YtkjnanfkclijcaaDoor.Am.CU

