/- A table of rows of numbers is sorted: slices.SortFunc at [][]int, by a closure that compares as cmpL does. -/
import Derived.Test.YtknondhdhjegbaaTabP
import Derived.Test.YtknondhdhjegbaaInspS
import Derived.Test.YtknondhdhjegbaaShelf
namespace Go.Proofs.Ytknondhdhjegbaa
open Go Go.RowKit
set_option linter.unusedVariables false
section
variable {α : Type} [Inhabited α] {enc : α → Value} {w : World} {b off m : Nat} {dk : Array α} {os : Array Obj}
theorem sortWorld_other {k : Nat} (hk : k < w.heap.size) (hne : k ≠ b) : (sortWorld enc w b off m dk os).heap[k]? = w.heap[k]? := by
  unfold sortWorld
  rw [Sort.heap_grow_old _ _ (by rw [Sort.size_putRow]; exact hk)]
  simp only [Sort.putRow, Sort.mapBlock, Array.getElem?_modify]
  rw [if_neg (Ne.symm hne)]; rfl
theorem sortWorld_size : w.heap.size ≤ (sortWorld enc w b off m dk os).heap.size := by
  unfold sortWorld
  rw [Sort.size_grow, Sort.size_putRow]
  show w.heap.size ≤ w.heap.size + _
  omega
theorem sortWorld_grown : w.grownBy (sortWorld enc w b off m dk os) (some b) :=
  ⟨rfl, rfl, rfl, sortWorld_size, fun k hk hne => sortWorld_other hk (fun e => hne (by rw [e]))⟩
theorem sortWorld_row {cur : Array Value} {T : TypeId} {f : Nat × Nat} (h : w.heap[b]? = some (.cells cur T f)) : (sortWorld enc w b off m dk os).heap[b]? = some (.cells (Sort.putCells enc off dk cur) T f) := by
  have hb : b < w.heap.size := (Array.getElem?_eq_some_iff.1 h).1
  unfold sortWorld
  rw [Sort.heap_grow_old _ _ (by rw [Sort.size_putRow]; exact hb)]
  simp only [Sort.putRow, Sort.mapBlock, Array.getElem?_modify]
  rw [if_pos trivial]
  show Option.map _ w.heap[b]? = _
  rw [h]; rfl
end
theorem putCells_list {α : Type} [Inhabited α] (enc : α → Value) (dk : Array α) (cur : Array Value) (h : dk.size ≤ cur.size) : (Sort.putCells enc 0 dk cur).toList.take dk.size = dk.toList.map enc := by
  apply List.ext_getElem?
  intro k
  rw [List.getElem?_take, List.getElem?_map, Array.getElem?_toList, Array.getElem?_toList]
  by_cases hk : k < dk.size
  · rw [if_pos hk]
    simp only [Sort.putCells, Array.getElem?_mapIdx]
    rw [Array.getElem?_eq_getElem (show k < cur.size by omega), Array.getElem?_eq_getElem hk]
    simp [hk]
  · rw [if_neg hk, Array.getElem?_eq_none (by omega)]; rfl
/- rows of numbers that read in w and lie outside of block g -/
def SRow (w : World) (g : Nat) : Type := { r : Row // Rd encI 1 w.heap.size w r.a r.xs ∧ r.xs.length ≤ 1000000 ∧ ∀ a, r.a = some a → a.block ≠ g }
instance (w : World) (g : Nat) : Inhabited (SRow w g) := ⟨⟨⟨[], none, 0⟩, .inl rfl, by simp, fun a ha => by cases ha⟩⟩
def SRow.enc {w : World} {g : Nat} (r : SRow w g) : Value := .slice r.1.a r.1.xs.length r.1.c
def SRow.cmp {w : World} {g : Nat} (r s : SRow w g) : Int := cmpL r.1.xs s.1.xs
theorem SRow.one {w : World} {g : Nat} : OneCell (SRow.enc (w := w) (g := g)) := fun r => by simp [SRow.enc, Value.oneCell']
theorem SRow.rd {w : World} {g off m : Nat} {dk : Array (SRow w g)} {os : Array Obj} (r : SRow w g) (hg : g < w.heap.size) : Rd encI 1 (sortWorld SRow.enc w g off m dk os).heap.size (sortWorld SRow.enc w g off m dk os) r.1.a r.1.xs := by
  obtain ⟨h1, _, h3⟩ := r.2
  rcases h1 with h1 | ⟨b, o, hA, hb, hc⟩
  · exact .inl h1
  · refine .inr ⟨b, o, hA, Nat.lt_of_lt_of_le hb sortWorld_size, fun k c hk j v hv => ?_⟩
    have h5 : (sortWorld SRow.enc w g off m dk os).heap[b]? = w.heap[b]? := sortWorld_other hb (h3 _ hA)
    exact (World.cell?_of_block (a := ⟨b, o + k * 1 + j, none⟩) h5).trans (hc k c hk j v hv)
theorem srows_of {w : World} {g : Nat} : ∀ (R : List Row), (∀ r ∈ R, Rd encI 1 w.heap.size w r.a r.xs ∧ r.xs.length ≤ 1000000 ∧ ∀ a, r.a = some a → a.block ≠ g) → ∃ d : Array (SRow w g), d.toList.map (fun r => r.1) = R
  | [], _ => ⟨#[], rfl⟩
  | r :: t, h => by
    obtain ⟨d, hd⟩ := srows_of t fun s hs => h s (List.mem_cons_of_mem _ hs)
    exact ⟨((⟨r, h r (List.mem_cons_self ..)⟩ : SRow w g) :: d.toList).toArray, congrArg (fun z => r :: z) hd⟩
theorem perm_all {α : Type} [Inhabited α] {d d' : Array α} (h : Sort.PermIn 0 d.size d d') : d'.toList.Perm d.toList ∧ d'.size = d.size := by
  refine ⟨?_, h.1⟩
  have := h.2.2
  rwa [show d'.extract 0 d.size = d' by rw [← h.1]; simp, show d.extract 0 d.size = d by simp] at this
theorem tab_sort {lo hi cap g f : Nat} {w : World} {V : List (List Int)} (h : Tab lo hi w (some ⟨g, 0, none⟩) cap V) (hn : V.length ≤ 1000000) (hm : ∀ x ∈ V, x.length ≤ 1000000)
    (hf : ∀ args w, (callFunc f args).run Try.prog w = .ok (.enter f args) w)
    (hcmp : ∀ (L M : List Int) (A B : Option Addr) (ca cb : Nat) (w : World), L.length ≤ 1000000 → M.length ≤ 1000000 → Rd encI 1 w.heap.size w A L → Rd encI 1 w.heap.size w B M → Calls Try.prog f #[.slice A L.length ca, .slice B M.length cb] w fun e w' => e = .returned (.int .i64 (cmpL L M)) ∧ w = w') :
    Calls Try.prog 74 #[.slice (some ⟨g, 0, none⟩) V.length cap, .func (.func f) #[] #[]] w fun e w' =>
      e = .returned (.tuple #[]) ∧ ∃ Q, Q.Perm V ∧ (Q.Pairwise fun x y => ¬ cmpL y x < 0) ∧ Tab lo hi w' (some ⟨g, 0, none⟩) cap Q ∧ w.grownBy w' (some g) := by
  obtain ⟨R, eR, ho, hr, ha, hb⟩ := h
  have lR : R.length = V.length := by rw [← eR, List.length_map]
  obtain ⟨ho1, ho2⟩ := ho
  rcases ho2 with ⟨h3, _⟩ | ⟨g2, c2, cur, h3, hlo, hh, hc, hcm, hsz, ht⟩
  · cases h3
  obtain ⟨rfl, rfl⟩ : g = g2 ∧ cap = c2 := by injection h3 with h4 _ h5; injection h4 with h4; injection h4 with h4; exact ⟨h4, h5⟩
  have hgl : g < w.heap.size := (Array.getElem?_eq_some_iff.1 hh).1
  have hgood : ∀ r ∈ R, Rd encI 1 w.heap.size w r.a r.xs ∧ r.xs.length ≤ 1000000 ∧ ∀ a, r.a = some a → a.block ≠ g := fun r hm2 => by
    refine ⟨hr.deep r hm2, hm _ (by rw [← eR]; exact List.mem_map_of_mem hm2), fun a hA e => ?_⟩
    obtain ⟨q, hq, _⟩ := hr.1 r hm2
    rw [hq] at hA; injection hA with hA
    subst hA
    exact (ha g rfl).2 r hm2 (by rw [hq]; exact congrArg (fun x => some (⟨x, 0, none⟩ : Addr)) e)
  obtain ⟨d, hd⟩ := srows_of R hgood
  have hds : d.size = R.length := by rw [← hd, List.length_map, Array.length_toList]
  have henc : R.flatMap Row.enc = d.toList.map SRow.enc := by
    rw [← hd]
    induction d.toList with
    | nil => rfl
    | cons r t ih => simp [Row.enc, SRow.enc] at ih ⊢; exact ih
  rw [Nat.mul_one] at hsz
  rw [Nat.mul_one, henc] at ht
  have hH : Sort.Holds SRow.enc w g 0 d := fun j hj => by
    refine ⟨?_, frozen_of_row w g _ cur _ hh⟩
    rw [Nat.zero_add, cell_of_row w g _ cur _ (0, 0) hh, ← Array.getElem?_toList]
    have h4 : (cur.toList.take R.length)[j]? = (d.toList.map SRow.enc)[j]? := by rw [ht]
    rw [List.getElem?_take, if_pos (by omega), List.getElem?_map, Array.getElem?_toList, Array.getElem?_toList, Array.getElem?_eq_getElem hj] at h4
    rw [Array.getElem?_toList, h4, getElem!_pos d j hj]; rfl
  have hlay : CmpLays1 Try.prog f #[] (SRow.enc (w := w) (g := g)) SRow.cmp g 0 d.size w := fun m os dk hs x y =>
    (hcmp x.1.xs y.1.xs x.1.a y.1.a x.1.c y.1.c (sortWorld SRow.enc w g 0 m dk os) x.2.2.1 y.2.2.1 (x.rd hgl) (y.rd hgl)).mono fun e w' ⟨he, hw⟩ => ⟨he, 0, #[], by rw [Sort.grow_empty, ← hw]; rfl⟩
  have hsw : Sort.SWO (ltOf (SRow.cmp (w := w) (g := g))) := cmpL_swo (fun r : SRow w g => r.1.xs)
  have key := Try.slices_SortFunc SRow.enc SRow.one SRow.cmp hsw f #[] g 0 cap d w hf hlay hH hgl (by rw [hds, lR]; omega)
  rw [hds, lR] at key
  refine key.mono ?_
  rintro e w' ⟨rfl, d', n, os, hp, hq, rfl⟩
  rw [← lR, ← hds] at hp hq
  obtain ⟨hp1, hp2⟩ := perm_all hp
  have hpR : (d'.toList.map fun r => r.1).Perm R := by rw [← hd]; exact hp1.map _
  have hlen : (d'.toList.map fun r => r.1).length = R.length := hpR.length_eq
  have henc2 : (d'.toList.map fun r => r.1).flatMap Row.enc = d'.toList.map SRow.enc := by
    induction d'.toList with
    | nil => rfl
    | cons r t ih => simp [Row.enc, SRow.enc] at ih ⊢; exact ih
  have hgr : w.grownBy (sortWorld SRow.enc w g 0 n d' os) (some g) := sortWorld_grown
  refine ⟨rfl, (d'.toList.map fun r => r.1).map Row.xs, by rw [← eR]; exact hpR.map _, ?_, ⟨_, rfl, ⟨?_, .inr ⟨g, cap, Sort.putCells SRow.enc 0 d' cur, rfl, hlo, sortWorld_row hh, by rw [hlen]; exact hc, hcm, by simp [Sort.putCells, hsz], ?_⟩⟩, ⟨fun r hm2 => ?_, ?_⟩, fun q hq2 => ⟨(ha q hq2).1, fun r hm2 => (ha q hq2).2 r (hpR.mem_iff.1 hm2)⟩, fun r hm2 => hb r (hpR.mem_iff.1 hm2)⟩, hgr⟩
  · rw [List.map_map, List.pairwise_iff_getElem]
    intro i j hi hj hij
    simp only [List.length_map, Array.length_toList] at hi hj
    have h5 := hq i j (Nat.zero_le _) hij (by omega)
    rw [getElem!_pos d' i hi, getElem!_pos d' j hj] at h5
    have h6 := of_decide_eq_false h5
    simpa [SRow.cmp] using h6
  · rw [henc2]; simp
  · rw [henc2, Nat.mul_one, List.length_map, Array.length_toList]
    exact putCells_list _ _ _ (by omega)
  · obtain ⟨q, hq1, hq2⟩ := hr.1 r (hpR.mem_iff.1 hm2)
    refine ⟨q, hq1, World.ownsRow.kept hq2 hgr (.inr ?_)⟩
    simp only [Row.val, hq1, Value.ownBlock]
    intro e
    injection e with e
    exact (ha g rfl).2 r (hpR.mem_iff.1 hm2) (by rw [hq1, e])
  · exact hpR.symm.pairwise hr.2 (fun {a b} h => Ne.symm h)
end Go.Proofs.Ytknondhdhjegbaa
