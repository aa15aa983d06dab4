/- One cell of one thing of a row that a call owns is written. No condition. -/
import Derived.Test.YtkdnkhbcbcffeaaDoorDel
namespace Go.Proofs.YtkdnkhbcbcffeaaDoor
open Go Go.RowKit
theorem flat_set {α : Type} {enc : α → List Value} {sz : Nat} (he : ∀ c, (enc c).length = sz) {L : List α} {k j : Nat} {c c' : α} {u : Value} (hk : L[k]? = some c) (hj : j < sz) (hc : enc c' = (enc c).set j u) : (L.flatMap enc).set (k * sz + j) u = (L.set k c').flatMap enc := by
  obtain ⟨hlt, rfl⟩ := List.getElem?_eq_some_iff.1 hk
  have h1 : L = L.take k ++ L[k] :: L.drop (k + 1) := by rw [← List.drop_eq_getElem_cons hlt, List.take_append_drop]
  have h2 : (L.set k c') = L.take k ++ c' :: L.drop (k + 1) := by rw [List.set_eq_take_append_cons_drop, if_pos hlt]
  have h3 : ((L.take k).flatMap enc).length = k * sz := by rw [flat_length he, List.length_take, Nat.min_eq_left (by omega)]
  rw [h2]
  conv => lhs; rw [h1]
  rw [List.flatMap_append, List.flatMap_append, List.flatMap_cons, List.flatMap_cons, List.set_append_right _ _ (by omega), h3, show k * sz + j - k * sz = j by omega, List.set_append_left _ _ (by rw [he]; exact hj), hc]
theorem Own.set_cell {α : Type} {enc : α → List Value} {sz T lo g n cap : Nat} {w : World} {L : List α} (he : ∀ c, (enc c).length = sz) (h : Own enc sz T lo w (.slice (some ⟨g, 0, none⟩) n cap) L) (hn : L.length = n) {k j : Nat} {c c' : α} {u : Value} (hk : L[k]? = some c) (hj : j < sz) (hc : enc c' = (enc c).set j u) :
    Own enc sz T lo (w.setCell ⟨g, k * sz + j, none⟩ u) (.slice (some ⟨g, 0, none⟩) n cap) (L.set k c') := by
  subst hn
  have := own_set h (k * sz + j) u
  rw [flat_set he hk hj hc] at this
  unfold Own
  rw [List.length_set]
  exact this
theorem Own.frozen_ {α : Type} {enc : α → List Value} {sz T lo g n cap : Nat} {w : World} {L : List α} (h : Own enc sz T lo w (.slice (some ⟨g, 0, none⟩) n cap) L) (hn : L.length = n) (o : Nat) : w.frozen? ⟨g, o, none⟩ = false := by
  subst hn; exact World.ownsRow.frozenAt h o
theorem own_nilcap {α : Type} {enc : α → List Value} {sz T lo n cap : Nat} {w : World} {A : Option Addr} {L : List α} (h : Own enc sz T lo w (.slice A n cap) L) : A = none → cap = 0 := by
  intro hA
  rcases h.2 with ⟨hv, _⟩ | ⟨g, c, cur, hv, _⟩
  · injection hv
  · injection hv with h1; rw [hA] at h1; cases h1
end Go.Proofs.YtkdnkhbcbcffeaaDoor
