/- FlightNames: the statement's function, which has no arguments, answers true. -/
import Derived.Test.YtmgdofgmidbddaaRows
import Derived.Test.YtmgdofgmidbddaaFrame
import Derived.Test.YtmgdofgmidbddaaNamesA
import Derived.WalkKit
import Derived.ProofKit
import Derived.OpenShut
namespace Go.Proofs.Ytmgdofgmidbddaa.flightNames
open Go.ChangeShapes Go.WideShapes Go.ChangeAt Go.RowKit Go.Ull

theorem own : ownKnob Try.prog.godebug = none := by kernel_rfl

abbrev S_5 : Type 1 := ∀ {ρ : Type}, (Bool → Option ρ) → Option ρ
def s_5 : S_5 := @fun _ k => k true
def e_5 (s : S_5) : Entry := fun _ args bs k =>
  match args, bs with
  | [], [] => s fun v0 => k (.bool v0) []
  | _, _ => none
theorem at5 : ∃ E, names.at_ 20 5 = some E := ⟨_, rfl⟩
theorem ok_5 : EntryOK Try.prog 5 (e_5 @s_5) := fun ρ args bs k r h => by
  unfold e_5 at h
  split at h
  · obtain ⟨E, hE⟩ := at5
    have := names_run k
    rw [hE] at this
    exact names.at_ok hE ρ [] [] k r (this.trans h)
  · cases h

theorem walk (w : World) : Calls Try.prog 5 #[] w fun e w' => e = .returned (.bool true) ∧ Below w.heap.size w w' :=
  calls_true (args := []) (c := Try.f5.body.getD .skip) Try.func5 (by kernel_rfl) (by kernel_rfl) ok_5 rfl rfl fun i c hi => by simp at hi

set_option maxRecDepth 100000 in
theorem lifted (os : Os) (started : os.Started) (H : Type) (enc : TypeId × Value → H) :
    ReturnsInHanded {} Try.checked os 5 .any (Rows.flightNamesSpec.pre6 enc Try.prog Try.f5 Rows.flightNamesRow.domain false) (Rows.flightNamesSpec.post enc Try.prog Try.f5 false true false false) := by
  refine returnsInHanded_of_change (C := Try.checked) own started (by kernel_rfl) Try.func5
    (ChangeSpec.witness6 (enc := enc) (C := Try.checked) false ⟨#[], #[], []⟩ 8 (by kernel_rfl) (by kernel_rfl) (by kernel_rfl) (by kernel_rfl)) ?_
  intro W base args ds gs before hval0 hW hcnd _
  have hval : ∀ (j : Nat) t v, Try.f5.params[j]? = some t → args[j]? = some v → Value.okWide Try.prog W .any base t v := hval0
  have hW' := hW
  obtain ⟨p, q, hA0, hV, rfl, hfz, hnd⟩ := hW
  have hA : DataW.TrodAll enc Try.prog W 0 (fun _ => true) true Try.f5.params.toList args.toList ds p := hA0
  rw [Try.params5] at hA hval
  obtain ⟨hargs, rfl, rfl⟩ := trodAll_nil hA
  obtain rfl : args = #[] := by cases args; simp_all
  obtain ⟨rfl, rfl⟩ := trodVars_none hV
  clear hA0 hval0
  simp only [List.append_nil] at hW'
  refine (walk W).mono fun e W' ⟨he, hg⟩ => ?_
  subst he
  exact ⟨_, rfl, _, _, _, [], [], [], hW', trodAll_cons_mk (shut_bool Try.underlying4 _) trodAll_mk0, rfl, rfl, hg.frame _, fun h => by cases h⟩

theorem over : Rows.flightNamesRow.holds Try.pinned (OpenSpec.ofChange Rows.flightNamesSpec) :=
  OpenClaim.holds_of_wide 5 Try.f5 rfl rfl rfl rfl rfl rfl rfl ⟨rfl, rfl, rfl, rfl, rfl⟩ rfl rfl rfl rfl rfl (by kernel_rfl) Try.func5 (by kernel_rfl)
    (of_decide_eq_true (by kernel_rfl)) (by unfold Func.isWrapper; first | (rw [if_pos (by decide +kernel)]; kernel_rfl) | (rw [if_neg (by decide +kernel)]; exact ⟨rfl, rfl⟩))
    (fun os started H enc _ => lifted os started H enc)

/-- The statement. -/
theorem proved : Rows.FlightNamesSaid := over
#print axioms proved
end Go.Proofs.Ytmgdofgmidbddaa.flightNames
