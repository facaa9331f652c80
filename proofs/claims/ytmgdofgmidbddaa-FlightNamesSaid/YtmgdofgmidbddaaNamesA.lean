/- FlightNames: evaluated. -/
import Derived.Test.YtmgdofgmidbddaaClosG
namespace Go.Proofs.Ytmgdofgmidbddaa
open Go Go.Ull
theorem names_run {ρ : Type} (k : AV → List Blk → Option ρ) : (names.at_ 20 5).bind (fun E => E ρ [] [] k) = k (.bool true) [] := by kernel_rfl
end Go.Proofs.Ytmgdofgmidbddaa
