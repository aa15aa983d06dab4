/- Rows of numbers that the library sorts: what a row that a call owns holds behind a sort; slices.SortStableFunc at up to 20 elements of one cell; slices.Sort at int. -/
import Derived.Test.YtlphegjhkchglaaInts
import Derived.Test.YtlphegjhkchglaaOrd
import Derived.Test.YtlphegjhkchglaaShelf
import Derived.Shelf.SlSortCmp.Insertion1
namespace Go.Proofs.Ytlphegjhkchglaa
open Go Go.RowKit
set_option linter.unusedVariables false
set_option linter.unusedSimpArgs false
set_option linter.unusedSectionVars false
section
variable {α : Type} [Inhabited α] {enc : α → Value} {w : World} {b off m : Nat} {dk : Array α} {os : Array Obj}
theorem sortWorld_other {k : Nat} (hk : k < w.heap.size) (hne : k ≠ b) : (sortWorld enc w b off m dk os).heap[k]? = w.heap[k]? := by
  unfold sortWorld
  rw [Sort.heap_grow_old _ _ (by rw [Sort.size_putRow]; exact hk)]
  simp only [Sort.putRow, Sort.mapBlock, Array.getElem?_modify]
  rw [if_neg (Ne.symm hne)]; rfl
theorem sortWorld_size : w.heap.size ≤ (sortWorld enc w b off m dk os).heap.size := by
  unfold sortWorld
  rw [Sort.size_grow, Sort.size_putRow]
  show w.heap.size ≤ w.heap.size + _
  omega
theorem sortWorld_grown : w.grownBy (sortWorld enc w b off m dk os) (some b) :=
  ⟨rfl, rfl, rfl, sortWorld_size, fun k hk hne => sortWorld_other hk (fun e => hne (by rw [e]))⟩
theorem sortWorld_row {cur : Array Value} {T : TypeId} {f : Nat × Nat} (h : w.heap[b]? = some (.cells cur T f)) : (sortWorld enc w b off m dk os).heap[b]? = some (.cells (Sort.putCells enc off dk cur) T f) := by
  have hb : b < w.heap.size := (Array.getElem?_eq_some_iff.1 h).1
  unfold sortWorld
  rw [Sort.heap_grow_old _ _ (by rw [Sort.size_putRow]; exact hb)]
  simp only [Sort.putRow, Sort.mapBlock, Array.getElem?_modify]
  rw [if_pos trivial]
  show Option.map _ w.heap[b]? = _
  rw [h]; rfl
theorem sortWorld_cell {p : Addr} {v : Value} (hp : p.block ≠ b) (h : w.cell? p = some v) : (sortWorld enc w b off m dk os).cell? p = some v :=
  (World.cell?_of_block (sortWorld_other (World.block_lt_of_cell? w p h) hp)).trans h
end
theorem putCells_list {α : Type} [Inhabited α] (enc : α → Value) (dk : Array α) (cur : Array Value) (h : dk.size ≤ cur.size) : (Sort.putCells enc 0 dk cur).toList.take dk.size = dk.toList.map enc := by
  apply List.ext_getElem?
  intro k
  rw [List.getElem?_take, List.getElem?_map, Array.getElem?_toList, Array.getElem?_toList]
  by_cases hk : k < dk.size
  · rw [if_pos hk]
    simp only [Sort.putCells, Array.getElem?_mapIdx]
    rw [Array.getElem?_eq_getElem (show k < cur.size by omega), Array.getElem?_eq_getElem hk]
    simp [hk]
  · rw [if_neg hk, Array.getElem?_eq_none (by omega)]; rfl
/- a row of numbers, its places named by things x whose numbers are f x -/
section
variable {α : Type} [Inhabited α] {e : α → Value} {f : α → Int} (he : ∀ x, e x = .int .i64 (f x)) {T lo g n cap : Nat} {w : World} {L : List Int}
include he
theorem flat_map_e (l : List α) : (l.map f).flatMap encI = l.map e := by
  induction l with
  | nil => rfl
  | cons x r ih => simp only [List.map_cons, List.flatMap_cons, ih, he]; rfl
theorem own_holds {d : Array α} (h : Own encI 1 T lo w (.slice (some ⟨g, 0, none⟩) n cap) L) (hn : L.length = n) (hd : d.toList.map f = L) : Sort.Holds e w g 0 d ∧ g < w.heap.size := by
  subst hn
  have hds : d.size = L.length := by rw [← hd, List.length_map, Array.length_toList]
  refine ⟨fun j hj => ⟨?_, World.ownsRow.frozenAt h _⟩, own_lt h⟩
  have hk : L[j]? = some (f d[j]!) := by rw [← hd, List.getElem?_map, Array.getElem?_toList, Array.getElem?_eq_getElem hj, getElem!_pos d j hj]; rfl
  rw [own_int h rfl (k := 0 + j) (by rw [Nat.zero_add]; exact hk), he]
theorem own_sorted {d : Array α} {m : Nat} {os : Array Obj} (h : Own encI 1 T lo w (.slice (some ⟨g, 0, none⟩) n cap) L) (hn : L.length = n) (hd : d.size = n) :
    Own encI 1 T lo (sortWorld e w g 0 m d os) (.slice (some ⟨g, 0, none⟩) n cap) (d.toList.map f) := by
  subst hn
  rcases h.2 with ⟨h3, _⟩ | ⟨g2, c2, cur, h3, hlo, hh, hc, hcm, hsz, ht⟩
  · cases h3
  · injection h3 with h4 _ h5
    injection h4 with h4; injection h4 with h4
    subst h4; subst h5
    have hl : (d.toList.map f).length = L.length := by rw [List.length_map, Array.length_toList, hd]
    refine ⟨by rw [flat_length encI_len], .inr ⟨g, cap, Sort.putCells e 0 d cur, by rw [hl], hlo, sortWorld_row hh, by rw [hl]; exact hc, hcm, by simpa [Sort.putCells] using hsz, ?_⟩⟩
    rw [flat_map_e he, hl, Nat.mul_one, ← hd]
    exact putCells_list e d cur (by omega)
end
set_option maxRecDepth 100000 in
set_option maxHeartbeats 4000000 in
theorem stableC_any {α : Type} [Inhabited α] (e : α → Value) (hO : OneCell e) (cf : α → α → Int) (f : Nat) (cb : Array Value) (g cap : Nat) (d : Array α) (w : World)
    (hf : ∀ args w, (callFunc f args).run Try.prog w = .ok (.enter f args) w) (hcmp : CmpLays1 Try.prog f cb e cf g 0 d.size w) (hH : Sort.Holds e w g 0 d) (hg : g < w.heap.size) (h20 : d.size ≤ 20) :
    Calls Try.prog 92 #[.slice (some ⟨g, 0, none⟩) d.size cap, .int .i64 d.size, .func (.func f) #[] cb] w fun r w' => r = .returned (.tuple #[]) ∧ SW e w g 0 (Sort.insertionSort (ltOf cf) d 0 d.size) w' := by
  have R : Row1 e w g 0 d := ⟨hO, hH, hg⟩
  have HS := hide (SW.start hH)
  have hins : ∀ (k : Nat) (dk : Array α) (W : World), dk.size = d.size → SW e w g 0 dk W → k ≤ d.size → Calls Try.prog 96 #[.slice (some ⟨g, 0, none⟩) d.size cap, .int .i64 k, .int .i64 d.size, .func (.func f) #[] cb] W fun r w' => r = .returned (.tuple #[]) ∧ SW e w g 0 (Sort.insertionSort (ltOf cf) dk k d.size) w' := fun k dk W hs S hk => by
    have := Try.insertionSortCmpFunc_s e cf f cb g 0 cap k d.size d dk w W hf hcmp R hs.symm S hk (by omega) (by omega)
    rwa [hs] at this
  have HI := hide hins; clear hins
  have hlast : ∀ (dk : Array α), Sort.insertionSort (ltOf cf) dk d.size d.size = dk := fun dk => by unfold Sort.insertionSort; rw [Sort.insOuter, if_neg (by omega)]
  have HL := hide hlast; clear hlast
  have hsz : (Sort.insertionSort (ltOf cf) d 0 d.size).size = d.size := by rw [← Array.length_toList, insertionSort_list, ordL_len, Array.length_toList]
  have HZ := hide hsz; clear hsz
  by_cases h : d.size = 20
  · have A0 : Calls Try.prog 96 #[.slice (some ⟨g, 0, none⟩) 20 cap, .int .i64 0, .int .i64 20, .func (.func f) #[] cb] w fun r w' => r = .returned (.tuple #[]) ∧ SW e w g 0 (Sort.insertionSort (ltOf cf) d 0 d.size) w' := by
      have := HI.out 0 d _ rfl HS.out (Nat.zero_le _)
      rw [h] at this ⊢; exact this
    have A1 : ∀ W, SW e w g 0 (Sort.insertionSort (ltOf cf) d 0 d.size) W → Calls Try.prog 96 #[.slice (some ⟨g, 0, none⟩) 20 cap, .int .i64 20, .int .i64 20, .func (.func f) #[] cb] W fun r w' => r = .returned (.tuple #[]) ∧ SW e w g 0 (Sort.insertionSort (ltOf cf) d 0 d.size) w' := fun W hW => by
      have := HI.out d.size _ _ HZ.out hW (Nat.le_refl _)
      rw [HL.out] at this
      rw [h] at this ⊢; exact this
    have HA0 := hide A0; have HA1 := hide A1; clear A0 A1
    rw [show (#[.slice (some ⟨g, 0, none⟩) d.size cap, .int .i64 (d.size : Int), .func (.func f) #[] cb] : Array Value) = #[.slice (some ⟨g, 0, none⟩) 20 cap, .int .i64 20, .func (.func f) #[] cb] by rw [h]; rfl]
    clear HI HL HZ hcmp R hH
    go_enter Try.func92, Try.ntmps92
    go_wp2_with fail
    refine wp_loop_rounds 2 ?_
    rw [rounds_succ]
    go_wp2_with (go_at_call 96; refine HA0.out.mono ?_; rintro e w1 ⟨rfl, hS1⟩)
    rw [rounds_succ]
    go_wp2_with (go_at_call 96; refine (HA1.out _ (by assumption)).mono ?_; rintro e w2 ⟨rfl, hS2⟩)
    refine wp_loop_rounds 1 ?_
    rw [rounds_succ]
    go_wp2_with fail
    go_end0
    exact ⟨rfl, hS2⟩
  · have h19 : (d.size : Int) < 20 := by omega
    have A0 : Calls Try.prog 96 #[.slice (some ⟨g, 0, none⟩) d.size cap, .int .i64 0, .int .i64 d.size, .func (.func f) #[] cb] w fun r w' => r = .returned (.tuple #[]) ∧ SW e w g 0 (Sort.insertionSort (ltOf cf) d 0 d.size) w' := HI.out 0 d _ rfl HS.out (Nat.zero_le _)
    have HA0 := hide A0; clear A0
    clear HI HL HZ hcmp R hH
    go_enter Try.func92, Try.ntmps92
    go_wp2_with fail
    refine wp_loop_rounds 1 ?_
    rw [rounds_succ]
    go_wp2_with (go_at_call 96; refine HA0.out.mono ?_; rintro e w1 ⟨rfl, hS1⟩)
    refine wp_loop_rounds 1 ?_
    rw [rounds_succ]
    go_wp2_with fail
    go_end0
    exact ⟨rfl, hS1⟩
theorem stable_any {α : Type} [Inhabited α] (e : α → Value) (hO : OneCell e) (cf : α → α → Int) (f : Nat) (cb : Array Value) (g cap : Nat) (d : Array α) (w : World)
    (hf : ∀ args w, (callFunc f args).run Try.prog w = .ok (.enter f args) w) (hcmp : CmpLays1 Try.prog f cb e cf g 0 d.size w) (hH : Sort.Holds e w g 0 d) (hg : g < w.heap.size) (h20 : d.size ≤ 20) :
    Calls Try.prog 83 #[.slice (some ⟨g, 0, none⟩) d.size cap, .func (.func f) #[] cb] w fun r w' => r = .returned (.tuple #[]) ∧ SW e w g 0 (Sort.insertionSort (ltOf cf) d 0 d.size) w' := by
  have HC := hide (stableC_any e hO cf f cb g cap d w hf hcmp hH hg h20)
  clear hcmp hH
  go_enter Try.func83, Try.ntmps83
  go_wp2_with (go_at_call 92; refine HC.out.mono ?_; rintro e w1 ⟨rfl, hS1⟩)
  go_end0
  exact ⟨rfl, hS1⟩
end Go.Proofs.Ytlphegjhkchglaa
