/- The place of a thing in a sorted row: how many things at the head meet p. No program. -/
import Derived.Test.YtafefnpmgpmjpaaIns
namespace Go.Proofs.Ytafefnpmgpmjpaa
open Go Go.RowKit
set_option linter.unusedVariables false
def posOf {α : Type} (p : α → Bool) (L : List α) : Nat := (L.takeWhile p).length
section
variable {α : Type} {p q : α → Bool}
theorem pos_le (p : α → Bool) : ∀ L : List α, posOf p L ≤ L.length
  | [] => Nat.le_refl _
  | x :: r => by
    have := pos_le p r
    unfold posOf at *
    rw [List.takeWhile_cons]
    split <;> simp <;> omega
theorem pos_low : ∀ (L : List α) (j : Nat) (c : α), j < posOf p L → L[j]? = some c → p c = true
  | [], j, c, _, h => by simp at h
  | x :: r, j, c, hj, h => by
    unfold posOf at hj
    rw [List.takeWhile_cons] at hj
    split at hj
    · rename_i hx
      cases j with
      | zero => simp at h; subst h; exact hx
      | succ j => exact pos_low r j c (by unfold posOf; simpa using hj) (by simpa using h)
    · simp at hj
theorem pos_stop : ∀ (L : List α) (c : α), L[posOf p L]? = some c → p c = false
  | [], c, h => by simp at h
  | x :: r, c, h => by
    unfold posOf at h
    rw [List.takeWhile_cons] at h
    split at h
    · rename_i hx
      exact pos_stop r c (by unfold posOf; simpa using h)
    · rename_i hx
      simp at h; subst h; simpa using hx
theorem pos_is : ∀ (L : List α) (k : Nat), k ≤ L.length → (∀ (j : Nat) (c : α), j < k → L[j]? = some c → p c = true) → (∀ c, L[k]? = some c → p c = false) → posOf p L = k
  | [], k, hk, _, _ => by simp at hk; subst hk; rfl
  | x :: r, 0, _, _, h2 => by
    have := h2 x rfl
    simp [posOf, this]
  | x :: r, k + 1, hk, h1, h2 => by
    have hx := h1 0 x (by omega) rfl
    have := pos_is r k (by simpa using hk) (fun j c hj hc => h1 (j + 1) c (by omega) (by simpa using hc)) (fun c hc => h2 c (by simpa using hc))
    unfold posOf at *
    rw [List.takeWhile_cons, if_pos hx]
    simp [this]
theorem pos_congr {L : List α} (h : ∀ x ∈ L, p x = q x) : posOf p L = posOf q L := by
  refine pos_is L _ (pos_le q L) (fun j c hj hc => ?_) (fun c hc => ?_)
  · rw [h c (List.mem_of_getElem? hc)]; exact pos_low L j c hj hc
  · rw [h c (List.mem_of_getElem? hc)]; exact pos_stop L c hc
theorem pos_high {L : List α} (mono : ∀ (i j : Nat) (c d : α), i < j → L[i]? = some c → L[j]? = some d → p d = true → p c = true) {j : Nat} {c : α} (hj : posOf p L ≤ j) (hc : L[j]? = some c) : p c = false := by
  cases hp : p c
  · rfl
  · have hlt := (List.getElem?_eq_some_iff.1 hc).1
    have hg := List.getElem?_eq_getElem (show posOf p L < L.length by omega)
    have hs := pos_stop L _ hg
    rcases Nat.lt_or_eq_of_le hj with h | h
    · have := mono _ _ _ _ h hg hc hp
      rw [hs] at this; cases this
    · rw [← h, hg] at hc
      injection hc with hc
      rw [← hc, hs] at hp; cases hp
end
end Go.Proofs.Ytafefnpmgpmjpaa
