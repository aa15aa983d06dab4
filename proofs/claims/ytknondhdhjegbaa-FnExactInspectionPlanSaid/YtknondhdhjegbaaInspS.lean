/- The order of rows of numbers is a strict weak order, total; a sorted permutation of a strictly sorted list is that list. No program. -/
import Derived.Test.YtknondhdhjegbaaInspC
import Derived.Sort.Statements
namespace Go.Proofs.Ytknondhdhjegbaa
open Go Go.RowKit
set_option linter.unusedVariables false
theorem cmpL_trans : ∀ (L M N : List Int), cmpL L M < 0 → cmpL M N < 0 → cmpL L N < 0
  | [], [], _, h, _ => by simp [cmpL] at h
  | [], _ :: _, [], _, h => by simp [cmpL] at h
  | [], _ :: _, _ :: _, _, _ => by simp [cmpL]
  | _ :: _, [], _, h, _ => by simp [cmpL] at h
  | _ :: _, _ :: _, [], _, h => by simp [cmpL] at h
  | a :: r, b :: t, c :: u, h1, h2 => by
    have ih := cmpL_trans r t u
    rw [cmpL] at h1 h2 ⊢
    have z1 := cmpI_zero (a := a) (b := b); have z2 := cmpI_zero (a := b) (b := c); have z3 := cmpI_zero (a := a) (b := c)
    have n1 := cmpI_neg (a := a) (b := b); have n2 := cmpI_neg (a := b) (b := c); have n3 := cmpI_neg (a := a) (b := c)
    split at h1
    · split at h2
      · rw [if_pos (z3.2 (by omega))]; exact ih h1 h2
      · rw [if_neg (by omega)]; omega
    · split at h2
      · rw [if_neg (by omega)]; omega
      · rw [if_neg (by omega)]; omega
theorem cmpL_tri : ∀ (L M : List Int), cmpL L M < 0 ∨ L = M ∨ cmpL M L < 0
  | [], [] => .inr (.inl rfl)
  | [], _ :: _ => .inl (by simp [cmpL])
  | _ :: _, [] => .inr (.inr (by simp [cmpL]))
  | a :: r, b :: t => by
    have z1 := cmpI_zero (a := a) (b := b); have z2 := cmpI_zero (a := b) (b := a)
    have n1 := cmpI_neg (a := a) (b := b); have n2 := cmpI_neg (a := b) (b := a)
    rw [cmpL, cmpL]
    rcases Int.lt_trichotomy a b with h | h | h
    · left; rw [if_neg (by omega)]; omega
    · subst h
      rw [if_pos (z1.2 rfl)]
      rcases cmpL_tri r t with h2 | h2 | h2
      · exact .inl h2
      · exact .inr (.inl (by rw [h2]))
      · exact .inr (.inr (by rw [if_pos (cmpI_zero.2 rfl)]; exact h2))
    · right; right; rw [if_neg (by omega)]; omega
theorem cmpL_asym {L M : List Int} (h : cmpL L M < 0) : ¬ cmpL M L < 0 := fun h2 => by
  have := cmpL_trans L M L h h2
  rw [cmpL_self] at this
  omega
theorem cmpL_swo {α : Type} (f : α → List Int) : Go.Sort.SWO (fun x y : α => decide (cmpL (f x) (f y) < 0)) where
  irrefl x := by simp [cmpL_self]
  trans x y z h1 h2 := by
    simp only [decide_eq_true_eq] at *
    exact cmpL_trans _ _ _ h1 h2
  ntrans x y z h1 h2 := by
    simp only [decide_eq_false_iff_not] at *
    intro h3
    rcases cmpL_tri (f y) (f x) with h | h | h
    · exact h2 (cmpL_trans _ _ _ h h3)
    · rw [h] at h2; exact h2 h3
    · exact h1 h
/- a list that is strictly sorted is the only weakly sorted one among its permutations -/
theorem sorted_is {P Q : List (List Int)} (hp : P.Pairwise fun x y => cmpL x y < 0) (hq : Q.Pairwise fun x y => ¬ cmpL y x < 0) (h : Q.Perm P) : Q = P := by
  refine List.Perm.eq_of_pairwise (le := fun x y => ¬ cmpL y x < 0) (fun a b _ _ h1 h2 => ?_) hq (hp.imp fun h => cmpL_asym h) h
  rcases cmpL_tri a b with h3 | h3 | h3
  · exact absurd h3 h2
  · exact h3
  · exact absurd h3 h1
end Go.Proofs.Ytknondhdhjegbaa
