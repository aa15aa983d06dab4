/- Rows of structs that the library sorts: what a row that a call owns holds behind a sort. No condition. -/
import Derived.Test.YtafefnpmgpmjpaaSrt
import Derived.Test.YtafefnpmgpmjpaaRowI
import Derived.Shelf.SlSortCmp.InsertionK
namespace Go.Proofs.Ytafefnpmgpmjpaa
open Go Go.RowKit
set_option linter.unusedVariables false
set_option linter.unusedSimpArgs false
set_option linter.unusedSectionVars false
section
variable {α : Type} [Inhabited α] {enc : α → List Value} {k : Nat} (hk : ∀ x, (enc x).length = k)
include hk
theorem flatK_list (d : Array α) : (Sort.flatK enc k d).toList = d.toList.flatMap enc := by
  apply List.ext_getElem?
  intro t
  by_cases ht : t < d.size * k
  · have k0 : 0 < k := by
      rcases Nat.eq_zero_or_pos k with h | h
      · subst h; simp at ht
      · exact h
    have hq : t / k < d.size := by rw [Nat.div_lt_iff_lt_mul k0]; exact ht
    have hr : t % k < (enc d[t / k]).length := by rw [hk]; exact Nat.mod_lt _ k0
    have h1 := flat_get hk d.toList (t / k) d[t / k] (by rw [Array.getElem?_toList, Array.getElem?_eq_getElem hq]) (t % k) _ (List.getElem?_eq_getElem hr)
    rw [Nat.div_add_mod'] at h1
    have h2 := Sort.get_flatK enc k d t ht
    rw [getElem!_pos d (t / k) hq, getElem!_pos (enc d[t / k]) (t % k) hr, getElem!_pos (Sort.flatK enc k d) t (by simpa using ht)] at h2
    rw [h1, Array.getElem?_toList, Array.getElem?_eq_getElem (by simpa using ht), h2]
  · rw [List.getElem?_eq_none (by rw [Array.length_toList, Sort.size_flatK]; omega), List.getElem?_eq_none (by rw [flat_length hk, Array.length_toList]; omega)]
variable {T lo g n cap : Nat} {w : World} {L : List α}
theorem ownK_holds {d : Array α} (h : Own enc k T lo w (.slice (some ⟨g, 0, none⟩) n cap) L) (hn : L.length = n) (hd : d.toList = L) : Sort.HoldsK enc k w g 0 d ∧ g < w.heap.size := by
  subst hn
  refine ⟨fun j hj => ⟨?_, World.ownsRow.frozenAt h _⟩, own_lt h⟩
  rw [Nat.zero_add]
  refine own_cell h ?_
  rw [← hd, ← flatK_list hk, Array.getElem?_toList, Array.getElem?_eq_getElem hj, getElem!_pos _ j hj]; rfl
theorem ownK_sorted {d : Array α} {m : Nat} {os : Array Obj} (h : Own enc k T lo w (.slice (some ⟨g, 0, none⟩) n cap) L) (hn : L.length = n) (hd : d.size = n) :
    Own enc k T lo (sortWorldK enc k w g 0 m d os) (.slice (some ⟨g, 0, none⟩) n cap) d.toList := by
  subst hn
  rcases h.2 with ⟨h3, _⟩ | ⟨g2, c2, cur, h3, hlo, hh, hc, hcm, hsz, ht⟩
  · cases h3
  · injection h3 with h4 _ h5
    injection h4 with h4; injection h4 with h4
    subst h4; subst h5
    have hl : d.toList.length = L.length := by rw [Array.length_toList, hd]
    have hf : (Sort.flatK enc k d).size = L.length * k := by rw [Sort.size_flatK, hd]
    have hle : L.length * k ≤ cur.size := by rw [hsz]; exact Nat.mul_le_mul_right k (by simpa using hc)
    refine ⟨by rw [flat_length hk], .inr ⟨g, cap, Sort.putCells id 0 (Sort.flatK enc k d) cur, by rw [hl], hlo, sortWorld_row hh, by rw [hl]; exact hc, hcm, by simpa [Sort.putCells] using hsz, ?_⟩⟩
    have h3 := putCells_list id (Sort.flatK enc k d) cur (by omega)
    rw [hf, List.map_id, flatK_list hk] at h3
    rw [hl]; exact h3
end
end Go.Proofs.Ytafefnpmgpmjpaa
