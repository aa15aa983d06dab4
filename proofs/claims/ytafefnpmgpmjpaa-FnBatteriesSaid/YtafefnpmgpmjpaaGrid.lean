/- Slices that lie inside other things: rows of numbers that are read, rows that a call made, and what becomes of the world when many rows are written. No condition. -/
import Derived.Test.YtafefnpmgpmjpaaMark
import Derived.Test.YtafefnpmgpmjpaaDel
namespace Go.Proofs.Ytafefnpmgpmjpaa
open Go Go.RowKit
set_option linter.unusedVariables false
/- a cell and that it may be written -/
def CF (w : World) (g j : Nat) (v : Value) : Prop := w.cell? ⟨g, j, none⟩ = some v ∧ w.frozen? ⟨g, j, none⟩ = false
theorem CF.new (W : World) (cs : Array Value) (t : TypeId) (g j : Nat) (v : Value) (hg : W.heap.size = g) (hv : cs[j]? = some v) : CF (W.alloc (.cells cs t)) g j v :=
  ⟨cell_new W cs t g j v hg hv, by subst hg; exact frozen_of_row _ _ j cs t (heap_alloc_new W _)⟩
theorem CF.below {w w' : World} {g j : Nat} {v : Value} (h : CF w g j v) (hb : Below w.heap.size w w') : CF w' g j v := ⟨below_cell hb h.1, below_frozen hb h.1 h.2⟩
theorem CF.alloc {w : World} {g j : Nat} {v : Value} (h : CF w g j v) (o : Obj) : CF (w.alloc o) g j v := h.below ((Below.refl _ _).alloc (Nat.le_refl _) _)
theorem Own.mono {α : Type} {enc : α → List Value} {sz : Nat} {T : TypeId} {lo lo' : Nat} {w : World} {v : Value} {L : List α} (h : Own enc sz T lo w v L) (hl : lo' ≤ lo) : Own enc sz T lo' w v L := by
  refine ⟨h.1, ?_⟩
  rcases h.2 with h2 | ⟨g, cap, cur, h2, h3, h4⟩
  · exact .inl h2
  · exact .inr ⟨g, cap, cur, h2, Nat.le_trans hl h3, h4⟩
/- a slice of numbers as a value: what it reads as, where it lies, its capacity -/
structure Row where
  xs : List Int
  a : Option Addr
  c : Nat
namespace Row
def val (r : Row) : Value := .slice r.a r.xs.length r.c
def enc (r : Row) : List Value := [.slice r.a r.xs.length r.c]
theorem enc_len (r : Row) : r.enc.length = 1 := rfl
end Row
/- all rows read as numbers -/
def Deep (B : Nat) (w : World) (R : List Row) : Prop := ∀ r ∈ R, Rd encI 1 B w r.a r.xs
theorem Deep.later {w w' : World} {R : List Row} (h : Deep w.heap.size w R) (hb : Below w.heap.size w w') : Deep w'.heap.size w' R := fun r hr => (h r hr).later hb
/- rows that a call made, each in a block of its own -/
def OwnRows (T : TypeId) (lo : Nat) (w : World) (R : List Row) : Prop :=
  (∀ r ∈ R, ∃ g, r.a = some ⟨g, 0, none⟩ ∧ Own encI 1 T lo w r.val r.xs) ∧ R.Pairwise fun r s => r.a ≠ s.a
section
variable {T : TypeId} {lo : Nat} {w w' : World} {R : List Row}
theorem OwnRows.nil : OwnRows T lo w [] := ⟨fun r hr => absurd hr List.not_mem_nil, .nil⟩
theorem OwnRows.below (h : OwnRows T lo w R) (hb : Below w.heap.size w w') : OwnRows T lo w' R :=
  ⟨fun r hr => by obtain ⟨g, h1, h2⟩ := h.1 r hr; exact ⟨g, h1, h2.below hb⟩, h.2⟩
theorem OwnRows.deep (h : OwnRows T lo w R) : Deep w.heap.size w R := fun r hr => by
  obtain ⟨g, _, h2⟩ := h.1 r hr
  exact Own.rd_of encI_len h2
theorem OwnRows.lt (h : OwnRows T lo w R) {r : Row} (hr : r ∈ R) {g : Nat} (hg : r.a = some ⟨g, 0, none⟩) : lo ≤ g ∧ g < w.heap.size := by
  obtain ⟨g', h1, h2⟩ := h.1 r hr
  rw [hg] at h1
  injection h1 with h1
  injection h1 with h1
  subst h1
  have := World.ownsRow.lt h2 g (by simp [Row.val, hg, Value.ownBlock])
  exact this
theorem OwnRows.snoc {lo' : Nat} {r : Row} {g : Nat} (h : OwnRows T lo w R) (hb : Below w.heap.size w w') (hg : r.a = some ⟨g, 0, none⟩) (hr : Own encI 1 T lo' w' r.val r.xs) (hlo : lo ≤ lo') (hl : w.heap.size ≤ lo') : OwnRows T lo w' (R ++ [r]) := by
  refine ⟨fun s hs => ?_, ?_⟩
  · rcases List.mem_append.1 hs with hs | hs
    · obtain ⟨g', h1, h2⟩ := h.1 s hs
      exact ⟨g', h1, h2.below hb⟩
    · obtain rfl : s = r := by simpa using hs
      refine ⟨g, hg, ?_⟩
      rcases hr with ⟨h1, h2⟩
      refine ⟨h1, ?_⟩
      rcases h2 with h2 | ⟨g', cap, cur, h2, h3, h4⟩
      · exact .inl h2
      · exact .inr ⟨g', cap, cur, h2, Nat.le_trans hlo h3, h4⟩
  · refine List.pairwise_append.2 ⟨h.2, List.pairwise_singleton _ _, fun s hs t ht => ?_⟩
    obtain rfl : t = r := by simpa using ht
    intro he
    have h1 := h.lt hs (he.trans hg)
    have h2 := World.ownsRow.lt hr g (by simp [Row.val, hg, Value.ownBlock])
    omega
end
/- only blocks from lo on and before hi were written; whatever is new lies behind -/
def Among (lo hi : Nat) (w w' : World) : Prop :=
  w'.os = w.os ∧ w'.tape = w.tape ∧ w'.output = w.output ∧ w.heap.size ≤ w'.heap.size ∧ ∀ k, k < w.heap.size → (k < lo ∨ hi ≤ k) → w'.heap[k]? = w.heap[k]?
section
variable {lo hi : Nat} {w w' w'' : World}
theorem Among.refl : Among lo hi w w := ⟨rfl, rfl, rfl, Nat.le_refl _, fun _ _ _ => rfl⟩
theorem Among.trans (h : Among lo hi w w') (k : Among lo hi w' w'') : Among lo hi w w'' :=
  ⟨k.1.trans h.1, k.2.1.trans h.2.1, k.2.2.1.trans h.2.2.1, Nat.le_trans h.2.2.2.1 k.2.2.2.1, fun i hi ho => (k.2.2.2.2 i (Nat.lt_of_lt_of_le hi h.2.2.2.1) ho).trans (h.2.2.2.2 i hi ho)⟩
theorem Among.grown {g : Nat} (h : w.grownBy w' (some g)) (h1 : lo ≤ g) (h2 : g < hi) : Among lo hi w w' :=
  ⟨h.os, h.tape, h.output, h.size, fun k hk ho => h.block k hk (by simp; omega)⟩
theorem Among.below (h : Among lo hi w w') (hlo : lo ≤ w.heap.size) : Below lo w w' := ⟨h.1, h.2.1, h.2.2.1, h.2.2.2.1, fun k hk => h.2.2.2.2 k (Nat.lt_of_lt_of_le hk hlo) (.inl hk)⟩
theorem Among.set_ (h : Among lo hi w w') {g : Nat} (j : Nat) (u : Value) (h1 : lo ≤ g) (h2 : g < hi) : Among lo hi w (w'.setCell ⟨g, j, none⟩ u) :=
  h.trans (Among.grown (grown_set (World.grownBy.refl w' (some g))) h1 h2)
theorem Among.own {α : Type} {enc : α → List Value} {sz : Nat} {T : TypeId} {lo' : Nat} {v : Value} {L : List α} (h : Among lo hi w w') (ho : Own enc sz T lo' w v L) (hk : ∀ k, v.ownBlock = some k → k < lo ∨ hi ≤ k) : Own enc sz T lo' w' v L := by
  refine ⟨ho.1, ?_⟩
  rcases ho.2 with h2 | ⟨g, cap, cur, h2, h3, h4, h5⟩
  · exact .inl h2
  · refine .inr ⟨g, cap, cur, h2, h3, ?_, h5⟩
    rw [h.2.2.2.2 g (Array.getElem?_eq_some_iff.1 h4).1 (hk g (by rw [h2]; simp [Value.ownBlock]))]
    exact h4
end
theorem Among.setCells {lo hi : Nat} {w w' : World} (h : Among lo hi w w') (g : Nat) (h1 : lo ≤ g) (h2 : g < hi) : ∀ (vs : List Value) (o : Nat), Among lo hi w (w'.setCells g o vs)
  | [], _ => h
  | v :: r, o => by
    rw [World.setCells]
    exact Among.setCells (h.set_ o v h1 h2) g h1 h2 r (o + 1)
theorem OwnRows.among {T : TypeId} {lo lo' hi' : Nat} {w w' : World} {R : List Row} (h : OwnRows T lo w R) (ha : Among lo' hi' w w') (hk : ∀ r ∈ R, ∀ g, r.a = some ⟨g, 0, none⟩ → g < lo' ∨ hi' ≤ g) : OwnRows T lo w' R :=
  ⟨fun r hr => by
    obtain ⟨g, h1, h2⟩ := h.1 r hr
    refine ⟨g, h1, ha.own h2 fun k hkk => ?_⟩
    simp only [Row.val, h1, Value.ownBlock, Option.some.injEq] at hkk
    subst hkk
    exact hk r hr g h1, h.2⟩
/- rows beside one that is written -/
theorem OwnRows.kept {T : TypeId} {lo : Nat} {w w' : World} {R : List Row} {g : Nat} (h : OwnRows T lo w R) (hg : w.grownBy w' (some g)) (hne : ∀ r ∈ R, r.a ≠ some ⟨g, 0, none⟩) : OwnRows T lo w' R :=
  ⟨fun r hr => by
    obtain ⟨g', h1, h2⟩ := h.1 r hr
    refine ⟨g', h1, World.ownsRow.kept h2 hg (.inr ?_)⟩
    simp only [Row.val, h1, Value.ownBlock]
    intro e
    injection e with e
    exact hne r hr (by rw [h1, e]), h.2⟩
end Go.Proofs.Ytafefnpmgpmjpaa
