/- The small functions of the laws: a code that is too long, equal lists, a number in a list. -/
import Derived.Test.YtafefnpmgpmjpaaDraw
namespace Go.Proofs.Ytafefnpmgpmjpaa
open Go Go.RowKit
set_option linter.unusedVariables false
def hasB (l : List Int) (x : Int) : Bool := l.any fun d => d == x
theorem hasB_yes {l : List Int} {x : Int} (h : x ∈ l) : hasB l x = true := by simp only [hasB, List.any_eq_true]; exact ⟨x, h, by simp⟩
theorem hasB_no {l : List Int} {x : Int} (h : x ∉ l) : hasB l x = false := by
  simp only [hasB, List.any_eq_false]
  intro y hy he
  have : y = x := by simpa using he
  exact h (this ▸ hy)
theorem rBig_any (n : Nat) (A : Option Addr) (cap : Nat) (w : World) (hn : n ≤ maxLen) : Calls Try.prog 14 #[.slice A n cap] w fun e w' => e = .returned (.bool (decide ((65536 : Int) < n))) ∧ w = w' := by
  unfold maxLen at hn
  go_enter Try.func14, Try.ntmps14
  go_wp2_with fail
  go_ret
  exact ⟨rfl, rfl⟩
end Go.Proofs.Ytafefnpmgpmjpaa
