/- The chapter's first examples hold: evaluated. -/
import Derived.Test.YtmgdofgmidbddaaClosA
import Derived.Test.YtmgdofgmidbddaaSpD
namespace Go.Proofs.Ytmgdofgmidbddaa
open Go Go.Ull
theorem alive_run {ρ : Type} (k : AV → List Blk → Option ρ) : (at_ 20 6).bind (fun E => E ρ [] [] k) = k (.bool true) [] := by kernel_rfl
end Go.Proofs.Ytmgdofgmidbddaa
