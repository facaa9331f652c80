/- The functions that ullagelaw03.FlightNames reaches, evaluated in place (printed by genclosR.py). -/
import Derived.Test.YtmgdofgmidbddaaFrZc
import Derived.Test.YtmgdofgmidbddaaAliveF
namespace Go.Proofs.Ytmgdofgmidbddaa.names
open Go Go.Ull

noncomputable def ext : List (Nat × Entry) := [(168, add64E), (169, sub64E), (171, lz64E), (159, mul64E), (25, e_25 @s_25), (74, e_74 @s_74), (42, e_42 @s_42), (160, e_160 @s_160), (133, e_133 @s_133), (132, e_132 @s_132), (163, e_163 @s_163), (170, e_170 @s_170), (157, e_157 @s_157), (142, e_142 @s_142), (158, e_158 @s_158), (129, e_129 @s_129), (156, e_156 @s_156), (128, e_128 @s_128), (162, e_162 @s_162), (165, e_165 @s_165), (161, e_161 @s_161), (134, e_134 @s_134), (127, e_127 @s_127), (103, e_103 @s_103), (141, e_141 @s_141), (104, e_104 @s_104), (62, e_62 @s_62), (131, e_131 @s_131), (97, e_97 @s_97), (151, e_151 @s_151), (124, e_124 @s_124), (137, e_137 @s_137), (166, e_166 @s_166), (167, e_167 @s_167), (47, e_47 @s_47), (125, e_125 @s_125), (123, e_123 @s_123), (92, e_92 @s_92)]
noncomputable def its : List FnR := [{ g := 130, fn := Try.f130 }, { g := 140, fn := Try.f140 }, { g := 164, fn := Try.f164 }]
noncomputable def fs : List FnR := [
  { g := 5, fn := Try.f5, frz := [74] },
  { g := 17, fn := Try.f17 },
  { g := 18, fn := Try.f18 },
  { g := 19, fn := Try.f19 },
  { g := 20, fn := Try.f20 },
  { g := 21, fn := Try.f21 },
  { g := 22, fn := Try.f22, ro := [2, 3] },
  { g := 23, fn := Try.f23 },
  { g := 24, fn := Try.f24, vecs := [(6, .state)] },
  { g := 48, fn := Try.f48 },
  { g := 49, fn := Try.f49 },
  { g := 50, fn := Try.f50 },
  { g := 51, fn := Try.f51 },
  { g := 52, fn := Try.f52 },
  { g := 53, fn := Try.f53 },
  { g := 54, fn := Try.f54 },
  { g := 55, fn := Try.f55 },
  { g := 56, fn := Try.f56, frz := [44] },
  { g := 57, fn := Try.f57, ro := [3] },
  { g := 58, fn := Try.f58 },
  { g := 59, fn := Try.f59 },
  { g := 60, fn := Try.f60 },
  { g := 61, fn := Try.f61, rf := [1] },
  { g := 63, fn := Try.f63 },
  { g := 76, fn := Try.f76 },
  { g := 77, fn := Try.f77 },
  { g := 78, fn := Try.f78 },
  { g := 79, fn := Try.f79, ro := [1] },
  { g := 80, fn := Try.f80, ro := [1] },
  { g := 81, fn := Try.f81 },
  { g := 82, fn := Try.f82 },
  { g := 83, fn := Try.f83 },
  { g := 84, fn := Try.f84 },
  { g := 85, fn := Try.f85 },
  { g := 86, fn := Try.f86 },
  { g := 87, fn := Try.f87 },
  { g := 88, fn := Try.f88 },
  { g := 89, fn := Try.f89 },
  { g := 90, fn := Try.f90 },
  { g := 91, fn := Try.f91 },
  { g := 93, fn := Try.f93 },
  { g := 94, fn := Try.f94, rf := [1] },
  { g := 95, fn := Try.f95, ro := [1] },
  { g := 96, fn := Try.f96 },
  { g := 98, fn := Try.f98 },
  { g := 99, fn := Try.f99 },
  { g := 100, fn := Try.f100 },
  { g := 101, fn := Try.f101 },
  { g := 102, fn := Try.f102, ro := [2, 3] },
  { g := 126, fn := Try.f126, ro := [2] },
  { g := 135, fn := Try.f135, rf := [1] },
  { g := 136, fn := Try.f136, ro := [1] },
  { g := 138, fn := Try.f138 },
  { g := 139, fn := Try.f139 },
  { g := 152, fn := Try.f152 },
  { g := 153, fn := Try.f153 },
  { g := 154, fn := Try.f154 },
  { g := 155, fn := Try.f155 }]

theorem ext_ok : ∀ p ∈ ext, EntryOK Try.prog p.1 p.2 := by
  intro p hp
  simp only [ext, List.mem_cons, List.not_mem_nil, or_false] at hp
  rcases hp with rfl | rfl | rfl | rfl | rfl | rfl | rfl | rfl | rfl | rfl | rfl | rfl | rfl | rfl | rfl | rfl | rfl | rfl | rfl | rfl | rfl | rfl | rfl | rfl | rfl | rfl | rfl | rfl | rfl | rfl | rfl | rfl | rfl | rfl | rfl | rfl | rfl | rfl
  · exact add64_ok Try.func168 (by kernel_rfl) (by kernel_rfl) (by kernel_rfl) (by kernel_rfl)
  · exact sub64_ok Try.func169 (by kernel_rfl) (by kernel_rfl) (by kernel_rfl) (by kernel_rfl)
  · exact lz_ok
  · exact mul_ok
  · exact ok_25
  · exact ok_74
  · exact ok_42
  · exact ok_160
  · exact ok_133
  · exact ok_132
  · exact ok_163
  · exact ok_170
  · exact ok_157
  · exact ok_142
  · exact ok_158
  · exact ok_129
  · exact ok_156
  · exact ok_128
  · exact ok_162
  · exact ok_165
  · exact ok_161
  · exact ok_134
  · exact ok_127
  · exact ok_103
  · exact ok_141
  · exact ok_104
  · exact ok_62
  · exact ok_131
  · exact ok_97
  · exact ok_151
  · exact ok_124
  · exact ok_137
  · exact ok_166
  · exact ok_167
  · exact ok_47
  · exact ok_125
  · exact ok_123
  · exact ok_92

theorem its_ok : ∀ x ∈ its, ItROK Try.prog x :=
  iCons ⟨Try.func130, by kernel_rfl, by kernel_rfl, by kernel_rfl⟩ <|
  iCons ⟨Try.func140, by kernel_rfl, by kernel_rfl, by kernel_rfl⟩ <|
  iCons ⟨Try.func164, by kernel_rfl, by kernel_rfl, by kernel_rfl⟩ <|
  iNil

theorem fs_ok : ∀ x ∈ fs, FnROK Try.prog x :=
  rCons ⟨Try.func5, by kernel_rfl, by kernel_rfl, by kernel_rfl⟩ <|
  rCons ⟨Try.func17, by kernel_rfl, by kernel_rfl, by kernel_rfl⟩ <|
  rCons ⟨Try.func18, by kernel_rfl, by kernel_rfl, by kernel_rfl⟩ <|
  rCons ⟨Try.func19, by kernel_rfl, by kernel_rfl, by kernel_rfl⟩ <|
  rCons ⟨Try.func20, by kernel_rfl, by kernel_rfl, by kernel_rfl⟩ <|
  rCons ⟨Try.func21, by kernel_rfl, by kernel_rfl, by kernel_rfl⟩ <|
  rCons ⟨Try.func22, by kernel_rfl, by kernel_rfl, by kernel_rfl⟩ <|
  rCons ⟨Try.func23, by kernel_rfl, by kernel_rfl, by kernel_rfl⟩ <|
  rCons ⟨Try.func24, by kernel_rfl, by kernel_rfl, by kernel_rfl⟩ <|
  rCons ⟨Try.func48, by kernel_rfl, by kernel_rfl, by kernel_rfl⟩ <|
  rCons ⟨Try.func49, by kernel_rfl, by kernel_rfl, by kernel_rfl⟩ <|
  rCons ⟨Try.func50, by kernel_rfl, by kernel_rfl, by kernel_rfl⟩ <|
  rCons ⟨Try.func51, by kernel_rfl, by kernel_rfl, by kernel_rfl⟩ <|
  rCons ⟨Try.func52, by kernel_rfl, by kernel_rfl, by kernel_rfl⟩ <|
  rCons ⟨Try.func53, by kernel_rfl, by kernel_rfl, by kernel_rfl⟩ <|
  rCons ⟨Try.func54, by kernel_rfl, by kernel_rfl, by kernel_rfl⟩ <|
  rCons ⟨Try.func55, by kernel_rfl, by kernel_rfl, by kernel_rfl⟩ <|
  rCons ⟨Try.func56, by kernel_rfl, by kernel_rfl, by kernel_rfl⟩ <|
  rCons ⟨Try.func57, by kernel_rfl, by kernel_rfl, by kernel_rfl⟩ <|
  rCons ⟨Try.func58, by kernel_rfl, by kernel_rfl, by kernel_rfl⟩ <|
  rCons ⟨Try.func59, by kernel_rfl, by kernel_rfl, by kernel_rfl⟩ <|
  rCons ⟨Try.func60, by kernel_rfl, by kernel_rfl, by kernel_rfl⟩ <|
  rCons ⟨Try.func61, by kernel_rfl, by kernel_rfl, by kernel_rfl⟩ <|
  rCons ⟨Try.func63, by kernel_rfl, by kernel_rfl, by kernel_rfl⟩ <|
  rCons ⟨Try.func76, by kernel_rfl, by kernel_rfl, by kernel_rfl⟩ <|
  rCons ⟨Try.func77, by kernel_rfl, by kernel_rfl, by kernel_rfl⟩ <|
  rCons ⟨Try.func78, by kernel_rfl, by kernel_rfl, by kernel_rfl⟩ <|
  rCons ⟨Try.func79, by kernel_rfl, by kernel_rfl, by kernel_rfl⟩ <|
  rCons ⟨Try.func80, by kernel_rfl, by kernel_rfl, by kernel_rfl⟩ <|
  rCons ⟨Try.func81, by kernel_rfl, by kernel_rfl, by kernel_rfl⟩ <|
  rCons ⟨Try.func82, by kernel_rfl, by kernel_rfl, by kernel_rfl⟩ <|
  rCons ⟨Try.func83, by kernel_rfl, by kernel_rfl, by kernel_rfl⟩ <|
  rCons ⟨Try.func84, by kernel_rfl, by kernel_rfl, by kernel_rfl⟩ <|
  rCons ⟨Try.func85, by kernel_rfl, by kernel_rfl, by kernel_rfl⟩ <|
  rCons ⟨Try.func86, by kernel_rfl, by kernel_rfl, by kernel_rfl⟩ <|
  rCons ⟨Try.func87, by kernel_rfl, by kernel_rfl, by kernel_rfl⟩ <|
  rCons ⟨Try.func88, by kernel_rfl, by kernel_rfl, by kernel_rfl⟩ <|
  rCons ⟨Try.func89, by kernel_rfl, by kernel_rfl, by kernel_rfl⟩ <|
  rCons ⟨Try.func90, by kernel_rfl, by kernel_rfl, by kernel_rfl⟩ <|
  rCons ⟨Try.func91, by kernel_rfl, by kernel_rfl, by kernel_rfl⟩ <|
  rCons ⟨Try.func93, by kernel_rfl, by kernel_rfl, by kernel_rfl⟩ <|
  rCons ⟨Try.func94, by kernel_rfl, by kernel_rfl, by kernel_rfl⟩ <|
  rCons ⟨Try.func95, by kernel_rfl, by kernel_rfl, by kernel_rfl⟩ <|
  rCons ⟨Try.func96, by kernel_rfl, by kernel_rfl, by kernel_rfl⟩ <|
  rCons ⟨Try.func98, by kernel_rfl, by kernel_rfl, by kernel_rfl⟩ <|
  rCons ⟨Try.func99, by kernel_rfl, by kernel_rfl, by kernel_rfl⟩ <|
  rCons ⟨Try.func100, by kernel_rfl, by kernel_rfl, by kernel_rfl⟩ <|
  rCons ⟨Try.func101, by kernel_rfl, by kernel_rfl, by kernel_rfl⟩ <|
  rCons ⟨Try.func102, by kernel_rfl, by kernel_rfl, by kernel_rfl⟩ <|
  rCons ⟨Try.func126, by kernel_rfl, by kernel_rfl, by kernel_rfl⟩ <|
  rCons ⟨Try.func135, by kernel_rfl, by kernel_rfl, by kernel_rfl⟩ <|
  rCons ⟨Try.func136, by kernel_rfl, by kernel_rfl, by kernel_rfl⟩ <|
  rCons ⟨Try.func138, by kernel_rfl, by kernel_rfl, by kernel_rfl⟩ <|
  rCons ⟨Try.func139, by kernel_rfl, by kernel_rfl, by kernel_rfl⟩ <|
  rCons ⟨Try.func152, by kernel_rfl, by kernel_rfl, by kernel_rfl⟩ <|
  rCons ⟨Try.func153, by kernel_rfl, by kernel_rfl, by kernel_rfl⟩ <|
  rCons ⟨Try.func154, by kernel_rfl, by kernel_rfl, by kernel_rfl⟩ <|
  rCons ⟨Try.func155, by kernel_rfl, by kernel_rfl, by kernel_rfl⟩ <|
  rNil

def grows : List (Nat × ElT) := []
theorem grows_ok : ∀ g t, Ull.look grows g = some t → GrowOK Try.prog g t := fun g t h => by cases h

noncomputable def at_ (n g : Nat) : Option Entry := Ull.look (Ull.closR tys eqs ext grows its fs n) g
theorem at_ok {n g : Nat} {E : Entry} (h : at_ n g = some E) : EntryOK Try.prog g E := closR_ok tys_ok eqs_ok mixed ext_ok grows_ok its_ok fs_ok n g E h

end Go.Proofs.Ytmgdofgmidbddaa.names
