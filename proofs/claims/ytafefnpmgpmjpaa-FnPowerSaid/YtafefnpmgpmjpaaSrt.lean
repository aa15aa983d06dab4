/- Rows of numbers that the library sorts: what a row that a call owns holds behind a sort; slices.SortStableFunc at up to 20 elements of one cell; slices.Sort at int. -/
import Derived.Test.YtafefnpmgpmjpaaInts
import Derived.Test.YtafefnpmgpmjpaaOrd
import Derived.Test.YtafefnpmgpmjpaaShelf
import Derived.Shelf.SlSortCmp.Insertion1
namespace Go.Proofs.Ytafefnpmgpmjpaa
open Go Go.RowKit
set_option linter.unusedVariables false
set_option linter.unusedSimpArgs false
set_option linter.unusedSectionVars false
section
variable {α : Type} [Inhabited α] {enc : α → Value} {w : World} {b off m : Nat} {dk : Array α} {os : Array Obj}
theorem sortWorld_other {k : Nat} (hk : k < w.heap.size) (hne : k ≠ b) : (sortWorld enc w b off m dk os).heap[k]? = w.heap[k]? := by
  unfold sortWorld
  rw [Sort.heap_grow_old _ _ (by rw [Sort.size_putRow]; exact hk)]
  simp only [Sort.putRow, Sort.mapBlock, Array.getElem?_modify]
  rw [if_neg (Ne.symm hne)]; rfl
theorem sortWorld_size : w.heap.size ≤ (sortWorld enc w b off m dk os).heap.size := by
  unfold sortWorld
  rw [Sort.size_grow, Sort.size_putRow]
  show w.heap.size ≤ w.heap.size + _
  omega
theorem sortWorld_grown : w.grownBy (sortWorld enc w b off m dk os) (some b) :=
  ⟨rfl, rfl, rfl, sortWorld_size, fun k hk hne => sortWorld_other hk (fun e => hne (by rw [e]))⟩
theorem sortWorld_row {cur : Array Value} {T : TypeId} {f : Nat × Nat} (h : w.heap[b]? = some (.cells cur T f)) : (sortWorld enc w b off m dk os).heap[b]? = some (.cells (Sort.putCells enc off dk cur) T f) := by
  have hb : b < w.heap.size := (Array.getElem?_eq_some_iff.1 h).1
  unfold sortWorld
  rw [Sort.heap_grow_old _ _ (by rw [Sort.size_putRow]; exact hb)]
  simp only [Sort.putRow, Sort.mapBlock, Array.getElem?_modify]
  rw [if_pos trivial]
  show Option.map _ w.heap[b]? = _
  rw [h]; rfl
theorem sortWorld_cell {p : Addr} {v : Value} (hp : p.block ≠ b) (h : w.cell? p = some v) : (sortWorld enc w b off m dk os).cell? p = some v :=
  (World.cell?_of_block (sortWorld_other (World.block_lt_of_cell? w p h) hp)).trans h
end
theorem putCells_list {α : Type} [Inhabited α] (enc : α → Value) (dk : Array α) (cur : Array Value) (h : dk.size ≤ cur.size) : (Sort.putCells enc 0 dk cur).toList.take dk.size = dk.toList.map enc := by
  apply List.ext_getElem?
  intro k
  rw [List.getElem?_take, List.getElem?_map, Array.getElem?_toList, Array.getElem?_toList]
  by_cases hk : k < dk.size
  · rw [if_pos hk]
    simp only [Sort.putCells, Array.getElem?_mapIdx]
    rw [Array.getElem?_eq_getElem (show k < cur.size by omega), Array.getElem?_eq_getElem hk]
    simp [hk]
  · rw [if_neg hk, Array.getElem?_eq_none (by omega)]; rfl
/- a row of numbers, its places named by things x whose numbers are f x -/
section
variable {α : Type} [Inhabited α] {e : α → Value} {f : α → Int} (he : ∀ x, e x = .int .i64 (f x)) {T lo g n cap : Nat} {w : World} {L : List Int}
include he
theorem flat_map_e (l : List α) : (l.map f).flatMap encI = l.map e := by
  induction l with
  | nil => rfl
  | cons x r ih => simp only [List.map_cons, List.flatMap_cons, ih, he]; rfl
theorem own_holds {d : Array α} (h : Own encI 1 T lo w (.slice (some ⟨g, 0, none⟩) n cap) L) (hn : L.length = n) (hd : d.toList.map f = L) : Sort.Holds e w g 0 d ∧ g < w.heap.size := by
  subst hn
  have hds : d.size = L.length := by rw [← hd, List.length_map, Array.length_toList]
  refine ⟨fun j hj => ⟨?_, World.ownsRow.frozenAt h _⟩, own_lt h⟩
  have hk : L[j]? = some (f d[j]!) := by rw [← hd, List.getElem?_map, Array.getElem?_toList, Array.getElem?_eq_getElem hj, getElem!_pos d j hj]; rfl
  rw [own_int h rfl (k := 0 + j) (by rw [Nat.zero_add]; exact hk), he]
theorem own_sorted {d : Array α} {m : Nat} {os : Array Obj} (h : Own encI 1 T lo w (.slice (some ⟨g, 0, none⟩) n cap) L) (hn : L.length = n) (hd : d.size = n) :
    Own encI 1 T lo (sortWorld e w g 0 m d os) (.slice (some ⟨g, 0, none⟩) n cap) (d.toList.map f) := by
  subst hn
  rcases h.2 with ⟨h3, _⟩ | ⟨g2, c2, cur, h3, hlo, hh, hc, hcm, hsz, ht⟩
  · cases h3
  · injection h3 with h4 _ h5
    injection h4 with h4; injection h4 with h4
    subst h4; subst h5
    have hl : (d.toList.map f).length = L.length := by rw [List.length_map, Array.length_toList, hd]
    refine ⟨by rw [flat_length encI_len], .inr ⟨g, cap, Sort.putCells e 0 d cur, by rw [hl], hlo, sortWorld_row hh, by rw [hl]; exact hc, hcm, by simpa [Sort.putCells] using hsz, ?_⟩⟩
    rw [flat_map_e he, hl, Nat.mul_one, ← hd]
    exact putCells_list e d cur (by omega)
end
end Go.Proofs.Ytafefnpmgpmjpaa
