/- The chapter's first examples hold: evaluated. -/
import Derived.Test.YtmgdofgmidbddaaClosF
namespace Go.Proofs.Ytmgdofgmidbddaa
open Go Go.Ull
theorem falive_run {ρ : Type} (k : AV → List Blk → Option ρ) : (falive.at_ 20 25).bind (fun E => E ρ [] [] k) = k (.bool true) [] := by kernel_rfl
abbrev S_25 : Type 1 := ∀ {ρ : Type}, (Bool → Option ρ) → Option ρ
def s_25 : S_25 := @fun _ k => k true
def e_25 (s : S_25) : Entry := fun _ args bs k =>
  match args, bs with
  | [], [] => s fun v0 => k (.bool v0) []
  | _, _ => none
theorem fat25 : ∃ E, falive.at_ 20 25 = some E := ⟨_, rfl⟩
theorem ok_25 : EntryOK Try.prog 25 (e_25 @s_25) := fun ρ args bs k r h => by
  unfold e_25 at h
  split at h
  · obtain ⟨E, hE⟩ := fat25
    have := falive_run k
    rw [hE] at this
    exact falive.at_ok hE ρ [] [] k r (this.trans h)
  · cases h
end Go.Proofs.Ytmgdofgmidbddaa
