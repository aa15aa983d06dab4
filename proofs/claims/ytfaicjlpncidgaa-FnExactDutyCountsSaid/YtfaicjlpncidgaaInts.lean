/- Slices of numbers: their type's facts. No condition. -/
import Derived.Test.YtfaicjlpncidgaaMark
namespace Go.Proofs.Ytfaicjlpncidgaa
open Go Go.RowKit
theorem infoI : (Try.prog.info? 3).map (fun i => (i.zero, i.size, i.bytes)) = some (some (.int .i64 0), 1, 8) := by kernel_rfl
theorem encI_one (n : Int) : ∀ u ∈ encI n, u.oneCell' = true := by intro u hu; simp [encI] at hu; subst hu; rfl
end Go.Proofs.Ytfaicjlpncidgaa
