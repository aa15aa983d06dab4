/- The library's generic functions at slices of Support: each walked once. Slices have at most 10^8 elements. -/
import Derived.Test.YtgfamaopplgfgaaStSupport
import Derived.Lib.Overlaps
import Derived.Laws.IdiomCopy
import Derived.Lib.AppendZeros
import Derived.Laws.Externs
import Derived.Deep.RegionLaw
import Derived.Lib.LazyBuf
namespace Go.Proofs.Ytgfamaopplgfgaa
open Go Go.RowKit
namespace Support
def valC (c : Support) : Value := .agg #[.int .i64 c.at_, .int .i64 c.height, .bool c.station]
/- what a predicate's function value is to do: in every later world it answers p, and makes memory alone -/
def Pred (g : Nat) (caps : Array Value) (p : Support → Bool) (L : List Support) (w : World) : Prop := EntersF Try.prog g ∧ ∀ (W : World) (c : Support), c ∈ L → Below w.heap.size w W → Calls Try.prog g (#[.agg #[.int .i64 c.at_, .int .i64 c.height, .bool c.station]] ++ caps) W fun e w' => e = .returned (.bool (p c)) ∧ Below W.heap.size W w'
theorem Pred.is {g : Nat} {caps : Array Value} {p : Support → Bool} {L : List Support} {w W : World} {c : Support} {b : Bool} (h : Pred g caps p L w) (hm : c ∈ L) (hb : Below w.heap.size w W) (hp : p c = b) : Calls Try.prog g (#[.agg #[.int .i64 c.at_, .int .i64 c.height, .bool c.station]] ++ caps) W fun e w' => e = .returned (.bool b) ∧ Below W.heap.size W w' := hp ▸ h.2 W c hm hb
theorem Pred.later {g : Nat} {caps : Array Value} {p : Support → Bool} {L : List Support} {w w1 : World} (h : Pred g caps p L w) (hb : Below w.heap.size w w1) : Pred g caps p L w1 := ⟨h.1, fun W c hm hW => h.2 W c hm (below_step hb hW (Nat.le_refl _))⟩
theorem infoE : (Try.prog.info? 100).map (fun i => (i.zero, i.size, i.bytes)) = some (some (.agg #[.int .i64 0, .int .i64 0, .bool false]), 3, 24) := by kernel_rfl
theorem enc_one (c : Support) : ∀ u ∈ c.enc, u.oneCell' = true := by intro u hu; simp only [enc, List.mem_cons, List.not_mem_nil, or_false] at hu; rcases hu with rfl | rfl | rfl <;> rfl
theorem flat_one (L : List Support) : ∀ u ∈ L.flatMap enc, u.oneCell' = true := by intro u hu; obtain ⟨c, _, hc⟩ := List.mem_flatMap.1 hu; exact enc_one c u hc
end Support
end Go.Proofs.Ytgfamaopplgfgaa
