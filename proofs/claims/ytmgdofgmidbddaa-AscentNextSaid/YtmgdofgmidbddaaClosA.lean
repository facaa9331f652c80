/- The functions that ullagelaw04.alive reaches, evaluated in place (printed by genclos.py). -/
import Derived.Test.YtmgdofgmidbddaaFrV
import Derived.Test.YtmgdofgmidbddaaBits
namespace Go.Proofs.Ytmgdofgmidbddaa
open Go Go.Ull

noncomputable def ext : List (Nat × Entry) := [(168, add64E), (169, sub64E), (171, lz64E), (159, mul64E)]
noncomputable def fs : List FnT := [
  { g := 6, fn := Try.f6, vecs := [], ro := [] },
  { g := 8, fn := Try.f8, vecs := [], ro := [] },
  { g := 26, fn := Try.f26, vecs := [], ro := [] },
  { g := 27, fn := Try.f27, vecs := [], ro := [] },
  { g := 28, fn := Try.f28, vecs := [], ro := [] },
  { g := 29, fn := Try.f29, vecs := [], ro := [] },
  { g := 33, fn := Try.f33, vecs := [], ro := [] },
  { g := 35, fn := Try.f35, vecs := [], ro := [] },
  { g := 36, fn := Try.f36, vecs := [], ro := [] },
  { g := 42, fn := Try.f42, vecs := [], ro := [] },
  { g := 47, fn := Try.f47, vecs := [], ro := [] },
  { g := 48, fn := Try.f48, vecs := [], ro := [] },
  { g := 49, fn := Try.f49, vecs := [], ro := [] },
  { g := 50, fn := Try.f50, vecs := [], ro := [] },
  { g := 53, fn := Try.f53, vecs := [], ro := [] },
  { g := 58, fn := Try.f58, vecs := [], ro := [] },
  { g := 64, fn := Try.f64, vecs := [], ro := [] },
  { g := 65, fn := Try.f65, vecs := [], ro := [1] },
  { g := 66, fn := Try.f66, vecs := [(3, .knob)], ro := [] },
  { g := 67, fn := Try.f67, vecs := [], ro := [] },
  { g := 68, fn := Try.f68, vecs := [], ro := [] },
  { g := 74, fn := Try.f74, vecs := [], ro := [] },
  { g := 76, fn := Try.f76, vecs := [], ro := [] },
  { g := 77, fn := Try.f77, vecs := [], ro := [] },
  { g := 78, fn := Try.f78, vecs := [], ro := [] },
  { g := 97, fn := Try.f97, vecs := [], ro := [] },
  { g := 104, fn := Try.f104, vecs := [], ro := [] },
  { g := 105, fn := Try.f105, vecs := [], ro := [] },
  { g := 106, fn := Try.f106, vecs := [], ro := [] },
  { g := 107, fn := Try.f107, vecs := [], ro := [] },
  { g := 108, fn := Try.f108, vecs := [], ro := [] },
  { g := 109, fn := Try.f109, vecs := [], ro := [] },
  { g := 123, fn := Try.f123, vecs := [], ro := [] },
  { g := 128, fn := Try.f128, vecs := [], ro := [] },
  { g := 129, fn := Try.f129, vecs := [], ro := [] },
  { g := 131, fn := Try.f131, vecs := [], ro := [] },
  { g := 132, fn := Try.f132, vecs := [], ro := [] },
  { g := 133, fn := Try.f133, vecs := [], ro := [] },
  { g := 134, fn := Try.f134, vecs := [], ro := [] },
  { g := 141, fn := Try.f141, vecs := [], ro := [] },
  { g := 142, fn := Try.f142, vecs := [], ro := [] },
  { g := 144, fn := Try.f144, vecs := [], ro := [] },
  { g := 156, fn := Try.f156, vecs := [], ro := [] },
  { g := 157, fn := Try.f157, vecs := [], ro := [] },
  { g := 158, fn := Try.f158, vecs := [], ro := [] },
  { g := 160, fn := Try.f160, vecs := [], ro := [] },
  { g := 161, fn := Try.f161, vecs := [], ro := [] },
  { g := 162, fn := Try.f162, vecs := [], ro := [] },
  { g := 163, fn := Try.f163, vecs := [], ro := [] },
  { g := 170, fn := Try.f170, vecs := [], ro := [] }]

theorem ext_ok : ∀ p ∈ ext, EntryOK Try.prog p.1 p.2 := by
  intro p hp
  simp only [ext, List.mem_cons, List.not_mem_nil, or_false] at hp
  rcases hp with rfl | rfl | rfl | rfl
  · exact add64_ok Try.func168 (by kernel_rfl) (by kernel_rfl) (by kernel_rfl) (by kernel_rfl)
  · exact sub64_ok Try.func169 (by kernel_rfl) (by kernel_rfl) (by kernel_rfl) (by kernel_rfl)
  · exact lz_ok
  · exact mul_ok

theorem fs_ok : ∀ x ∈ fs, FnOK Try.prog x :=
  fnCons ⟨Try.func6, by kernel_rfl, by kernel_rfl⟩ <|
  fnCons ⟨Try.func8, by kernel_rfl, by kernel_rfl⟩ <|
  fnCons ⟨Try.func26, by kernel_rfl, by kernel_rfl⟩ <|
  fnCons ⟨Try.func27, by kernel_rfl, by kernel_rfl⟩ <|
  fnCons ⟨Try.func28, by kernel_rfl, by kernel_rfl⟩ <|
  fnCons ⟨Try.func29, by kernel_rfl, by kernel_rfl⟩ <|
  fnCons ⟨Try.func33, by kernel_rfl, by kernel_rfl⟩ <|
  fnCons ⟨Try.func35, by kernel_rfl, by kernel_rfl⟩ <|
  fnCons ⟨Try.func36, by kernel_rfl, by kernel_rfl⟩ <|
  fnCons ⟨Try.func42, by kernel_rfl, by kernel_rfl⟩ <|
  fnCons ⟨Try.func47, by kernel_rfl, by kernel_rfl⟩ <|
  fnCons ⟨Try.func48, by kernel_rfl, by kernel_rfl⟩ <|
  fnCons ⟨Try.func49, by kernel_rfl, by kernel_rfl⟩ <|
  fnCons ⟨Try.func50, by kernel_rfl, by kernel_rfl⟩ <|
  fnCons ⟨Try.func53, by kernel_rfl, by kernel_rfl⟩ <|
  fnCons ⟨Try.func58, by kernel_rfl, by kernel_rfl⟩ <|
  fnCons ⟨Try.func64, by kernel_rfl, by kernel_rfl⟩ <|
  fnCons ⟨Try.func65, by kernel_rfl, by kernel_rfl⟩ <|
  fnCons ⟨Try.func66, by kernel_rfl, by kernel_rfl⟩ <|
  fnCons ⟨Try.func67, by kernel_rfl, by kernel_rfl⟩ <|
  fnCons ⟨Try.func68, by kernel_rfl, by kernel_rfl⟩ <|
  fnCons ⟨Try.func74, by kernel_rfl, by kernel_rfl⟩ <|
  fnCons ⟨Try.func76, by kernel_rfl, by kernel_rfl⟩ <|
  fnCons ⟨Try.func77, by kernel_rfl, by kernel_rfl⟩ <|
  fnCons ⟨Try.func78, by kernel_rfl, by kernel_rfl⟩ <|
  fnCons ⟨Try.func97, by kernel_rfl, by kernel_rfl⟩ <|
  fnCons ⟨Try.func104, by kernel_rfl, by kernel_rfl⟩ <|
  fnCons ⟨Try.func105, by kernel_rfl, by kernel_rfl⟩ <|
  fnCons ⟨Try.func106, by kernel_rfl, by kernel_rfl⟩ <|
  fnCons ⟨Try.func107, by kernel_rfl, by kernel_rfl⟩ <|
  fnCons ⟨Try.func108, by kernel_rfl, by kernel_rfl⟩ <|
  fnCons ⟨Try.func109, by kernel_rfl, by kernel_rfl⟩ <|
  fnCons ⟨Try.func123, by kernel_rfl, by kernel_rfl⟩ <|
  fnCons ⟨Try.func128, by kernel_rfl, by kernel_rfl⟩ <|
  fnCons ⟨Try.func129, by kernel_rfl, by kernel_rfl⟩ <|
  fnCons ⟨Try.func131, by kernel_rfl, by kernel_rfl⟩ <|
  fnCons ⟨Try.func132, by kernel_rfl, by kernel_rfl⟩ <|
  fnCons ⟨Try.func133, by kernel_rfl, by kernel_rfl⟩ <|
  fnCons ⟨Try.func134, by kernel_rfl, by kernel_rfl⟩ <|
  fnCons ⟨Try.func141, by kernel_rfl, by kernel_rfl⟩ <|
  fnCons ⟨Try.func142, by kernel_rfl, by kernel_rfl⟩ <|
  fnCons ⟨Try.func144, by kernel_rfl, by kernel_rfl⟩ <|
  fnCons ⟨Try.func156, by kernel_rfl, by kernel_rfl⟩ <|
  fnCons ⟨Try.func157, by kernel_rfl, by kernel_rfl⟩ <|
  fnCons ⟨Try.func158, by kernel_rfl, by kernel_rfl⟩ <|
  fnCons ⟨Try.func160, by kernel_rfl, by kernel_rfl⟩ <|
  fnCons ⟨Try.func161, by kernel_rfl, by kernel_rfl⟩ <|
  fnCons ⟨Try.func162, by kernel_rfl, by kernel_rfl⟩ <|
  fnCons ⟨Try.func163, by kernel_rfl, by kernel_rfl⟩ <|
  fnCons ⟨Try.func170, by kernel_rfl, by kernel_rfl⟩ <| fnNil

def grows : List (Nat × ElT) := [(143, .span)]
theorem grows_ok : ∀ g t, Ull.look grows g = some t → GrowOK Try.prog g t := fun g t h => by
  have := look_mem h
  simp only [grows, List.mem_cons, List.not_mem_nil, or_false, Prod.mk.injEq] at this
  obtain ⟨rfl, rfl⟩ := this
  exact grow_ok

noncomputable def at_ (n g : Nat) : Option Entry := Ull.look (Ull.clos tys eqs ext grows fs n) g
theorem at_ok {n g : Nat} {E : Entry} (h : at_ n g = some E) : EntryOK Try.prog g E := clos_ok tys_ok eqs_ok mixed ext_ok grows_ok fs_ok n g E h

end Go.Proofs.Ytmgdofgmidbddaa
