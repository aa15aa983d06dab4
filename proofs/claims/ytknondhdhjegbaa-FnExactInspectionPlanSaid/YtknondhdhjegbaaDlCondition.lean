/- slices.DeleteFunc at slices of Condition: walked once. Slices have at most 10^8 elements. -/
import Derived.Test.YtknondhdhjegbaaLibCondition
import Derived.Test.YtknondhdhjegbaaDel
namespace Go.Proofs.Ytknondhdhjegbaa
open Go Go.RowKit
namespace Condition
theorem own_cells {TT lo n cap : Nat} {w : World} {g : Nat} {M : List Condition} {k : Nat} {c : Condition} (h : Own enc 5 TT lo w (.slice (some ⟨g, 0, none⟩) n cap) M) (hn : M.length = n) (hk : M[k]? = some c) : w.cell? ⟨g, k * 5, none⟩ = some (.int .i64 c.number) ∧ w.cell? ⟨g, k * 5 + 1, none⟩ = some (.string c.what) ∧ w.cell? ⟨g, k * 5 + 2, none⟩ = some (.int .i64 c.every) ∧ w.cell? ⟨g, k * 5 + 3, none⟩ = some (.int .i64 c.last) ∧ w.cell? ⟨g, k * 5 + 4, none⟩ = some (.int .i64 c.grade) := by
  subst hn; exact ⟨own_cell h (flat_get enc_len M k c hk 0 _ rfl), own_cell h (flat_get enc_len M k c hk 1 _ rfl), own_cell h (flat_get enc_len M k c hk 2 _ rfl), own_cell h (flat_get enc_len M k c hk 3 _ rfl), own_cell h (flat_get enc_len M k c hk 4 _ rfl)⟩
/- what a predicate's function value is to do while memory from lo on turns -/
def PredB (g : Nat) (caps : Array Value) (p : Condition → Bool) (L : List Condition) (lo : Nat) (w : World) : Prop := EntersF Try.prog g ∧ ∀ (W : World) (c : Condition), c ∈ L → Below lo w W → Calls Try.prog g (#[.agg #[.int .i64 c.number, .string c.what, .int .i64 c.every, .int .i64 c.last, .int .i64 c.grade]] ++ caps) W fun e w' => e = .returned (.bool (p c)) ∧ Below W.heap.size W w'
theorem PredB.pred {g : Nat} {caps : Array Value} {p : Condition → Bool} {L : List Condition} {lo : Nat} {w : World} (h : PredB g caps p L lo w) (hlo : lo ≤ w.heap.size) : Pred g caps p L w := ⟨h.1, fun W c hm hW => h.2 W c hm (hW.mono hlo)⟩
theorem PredB.is {g : Nat} {caps : Array Value} {p : Condition → Bool} {L : List Condition} {lo : Nat} {w W : World} {c : Condition} {b : Bool} (h : PredB g caps p L lo w) (hm : c ∈ L) (hb : Below lo w W) (hp : p c = b) : Calls Try.prog g (#[.agg #[.int .i64 c.number, .string c.what, .int .i64 c.every, .int .i64 c.last, .int .i64 c.grade]] ++ caps) W fun e w' => e = .returned (.bool b) ∧ Below W.heap.size W w' := hp ▸ h.2 W c hm hb
end Condition
end Go.Proofs.Ytknondhdhjegbaa
