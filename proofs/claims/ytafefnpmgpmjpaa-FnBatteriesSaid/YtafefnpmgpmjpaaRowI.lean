/- Rows of numbers side by side: what one keeps while another is written. No condition. -/
import Derived.Test.YtafefnpmgpmjpaaDraw
import Derived.Test.YtafefnpmgpmjpaaApp
import Derived.Test.YtafefnpmgpmjpaaSetC
import Derived.Test.YtafefnpmgpmjpaaInts
import Derived.Test.YtafefnpmgpmjpaaPos
namespace Go.Proofs.Ytafefnpmgpmjpaa
open Go Go.RowKit
set_option linter.unusedVariables false
theorem own_none {α : Type} {enc : α → List Value} {sz : Nat} {T : TypeId} {lo nb : Nat} {w : World} (hnb : w.heap.size = nb) (hlo : lo ≤ nb) : Own enc sz T lo (w.alloc (.cells #[] T)) (.slice (some ⟨nb, 0, none⟩) 0 0) ([] : List α) := by
  subst hnb; exact own_empty hlo
theorem box_of {α : Type} (enc : α → List Value) (W : World) (c : α) (cs : Array Value) (hcs : cs.toList = enc c) (T : TypeId) (nb : Nat) (hnb : W.heap.size = nb) : ∀ j u, ([c].flatMap enc)[j]? = some u → (W.alloc (.cells cs T)).cell? ((⟨nb, 0, none⟩ : Addr).add j) = some u := by
  intro j u hu
  subst hnb
  rw [Addr.add_mid, Nat.zero_add, cell_of_row _ _ j _ T (0, 0) (heap_alloc_new W _), ← Array.getElem?_toList, hcs]
  have e : [c].flatMap enc = enc c := by simp
  rw [e] at hu
  exact hu
theorem rd_none {α : Type} {enc : α → List Value} {sz B : Nat} {w : World} {A : Option Addr} {L : List α} (hr : Rd enc sz B w A L) (h : A = none) : L.length = 0 := by
  rcases hr with h1 | ⟨b, o, hA, _⟩
  · rw [h1]; rfl
  · rw [h] at hA; cases hA
section
variable {α : Type} {enc : α → List Value} {sz T lo : Nat} {w w' : World} {g n c : Nat} {L : List α}
theorem own_geq (h : Own enc sz T lo w (.slice (some ⟨g, 0, none⟩) n c) L) : lo ≤ g := by
  rcases h.2 with ⟨hv, _⟩ | ⟨g2, c2, cur, hv, hb, _⟩
  · cases hv
  · injection hv with h1 _ _
    injection h1 with h1; injection h1 with h1
    omega
theorem own_ltw (h : Own enc sz T lo w (.slice (some ⟨g, 0, none⟩) n c) L) : g < w.heap.size := by
  rcases h.2 with ⟨hv, _⟩ | ⟨g2, c2, cur, hv, hb, hh, _⟩
  · cases hv
  · injection hv with h1 _ _
    injection h1 with h1; injection h1 with h1
    subst h1
    exact (Array.getElem?_eq_some_iff.1 hh).1
theorem own_some {A : Option Addr} (h : Own enc sz T lo w (.slice A n c) L) (hn : 0 < L.length) : ∃ q, A = some ⟨q, 0, none⟩ := by
  obtain ⟨q, hq, _⟩ := Own.lo_le h hn
  exact ⟨q, hq⟩
theorem set_keep {g2 k : Nat} {u : Value} (h : Own enc sz T lo w (.slice (some ⟨g, 0, none⟩) n c) L) (hne : g ≠ g2) : Own enc sz T lo (w.setCell ⟨g2, k, none⟩ u) (.slice (some ⟨g, 0, none⟩) n c) L :=
  own_grown h (grown_set (moved_refl w g2)) (.inl (by simpa [Value.ownBlock] using hne))
theorem row_keep {g2 n2 c2 : Nat} (h : Own enc sz T lo w (.slice (some ⟨g, 0, none⟩) n c) L) (hg : w.grownBy w' (Value.slice (some ⟨g2, 0, none⟩) n2 c2).ownBlock) (hne : g ≠ g2) : Own enc sz T lo w' (.slice (some ⟨g, 0, none⟩) n c) L :=
  own_grown h hg (.inl (by simpa [Value.ownBlock] using hne))
theorem push_keep {g2 n2 c2 : Nat} {o : Obj} (h : Own enc sz T lo w (.slice (some ⟨g, 0, none⟩) n c) L) (hg : (w.alloc o).grownBy w' (Value.slice (some ⟨g2, 0, none⟩) n2 c2).ownBlock) (hne : g ≠ g2) : Own enc sz T lo w' (.slice (some ⟨g, 0, none⟩) n c) L :=
  row_keep (World.ownsRow.alloc h o) hg hne
theorem push_ne {g2 n2 c2 q : Nat} (h : Own enc sz T lo w (.slice (some ⟨g, 0, none⟩) n c) L) (hq : (Value.slice (some ⟨g2, 0, none⟩) n2 c2).ownBlock = some q ∨ q = w.heap.size + 1) (hne : g ≠ g2) : g ≠ q := by
  have := own_ltw h
  rcases hq with hq | hq
  · have : g2 = q := by simpa [Value.ownBlock] using hq
    omega
  · omega
end
def toI (l : List Nat) : List Int := l.map fun i : Nat => (i : Int)
theorem toI_len (l : List Nat) : (toI l).length = l.length := by simp [toI]
theorem toI_at {l : List Nat} {k c : Nat} (h : l[k]? = some c) : (toI l)[k]? = some (c : Int) := by simp [toI, h]
theorem toI_ins (l : List Nat) (k x : Nat) : toI (insL l k x) = insL (toI l) k (x : Int) := by simp [toI, insL, List.map_take, List.map_drop]
theorem toI_snoc (l : List Nat) (x : Nat) : toI (l ++ [x]) = toI l ++ [(x : Int)] := by simp [toI]
end Go.Proofs.Ytafefnpmgpmjpaa
