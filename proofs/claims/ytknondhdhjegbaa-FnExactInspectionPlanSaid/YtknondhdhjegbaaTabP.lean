/- A table of rows of two numbers grows by one row. -/
import Derived.Test.YtknondhdhjegbaaTab
import Derived.Test.YtknondhdhjegbaaDraw
namespace Go.Proofs.Ytknondhdhjegbaa
open Go Go.RowKit
set_option linter.unusedVariables false
theorem rowInfo : (Try.prog.info? 39).map (fun i => (i.zero, i.size, i.bytes)) = some (some (.slice none 0 0), 1, 24) := by kernel_rfl
theorem tab_empty {lo : Nat} {w : World} (hlo : lo ≤ w.heap.size) : Tab lo (w.alloc (.cells #[] 39)).heap.size (w.alloc (.cells #[] 39)) (some ⟨w.heap.size, 0, none⟩) 0 [] :=
  ⟨[], rfl, own_empty hlo, .nil, fun g hg => ⟨by injection hg with hg; injection hg with hg; subst hg; simp, fun r hr => by cases hr⟩, fun r hr => by cases hr⟩
theorem tab_none {lo : Nat} {w : World} : Tab lo w.heap.size w none 0 [] :=
  ⟨[], rfl, own_nil _ _ _, .nil, fun g hg => (by cases hg), fun r hr => by cases hr⟩
theorem tab_push {lo q cap cap' : Nat} {w w5 : World} {A : Option Addr} {R : List Row} {x y : Int} {B : Obj} (hlo : lo ≤ w.heap.size)
    (ho : Own Row.enc 1 39 lo w (.slice A R.length cap) R) (hr : OwnRows 3 lo w R) (ha : ∀ g, A = some ⟨g, 0, none⟩ → ∀ r ∈ R, r.a ≠ some ⟨g, 0, none⟩)
    (ho5 : Own Row.enc 1 39 lo w5 (.slice (some ⟨q, 0, none⟩) (R.length + 1) cap') (R ++ [⟨[x, y], some ⟨w.heap.size, 0, none⟩, 2⟩]))
    (hg5 : ((w.alloc (.cells #[.int .i64 x, .int .i64 y] 3)).alloc B).grownBy w5 (Value.slice A R.length cap).ownBlock)
    (hq5 : (Value.slice A R.length cap).ownBlock = some q ∨ q = (w.alloc (.cells #[.int .i64 x, .int .i64 y] 3)).heap.size + 1) :
    Tab lo w5.heap.size w5 (some ⟨q, 0, none⟩) cap' (R.map Row.xs ++ [[x, y]]) := by
  have hb1 : Below w.heap.size w (w.alloc (.cells #[.int .i64 x, .int .i64 y] 3)) := (Below.refl _ _).alloc (Nat.le_refl _) _
  have hb2 : Below w.heap.size w ((w.alloc (.cells #[.int .i64 x, .int .i64 y] 3)).alloc B) := hb1.alloc hb1.size _
  have hn : Own encI 1 3 lo (w.alloc (.cells #[.int .i64 x, .int .i64 y] 3)) (.slice (some ⟨w.heap.size, 0, none⟩) 2 2) [x, y] := World.ownsRow_lit (e := 3) (size := 1) w #[.int .i64 x, .int .i64 y] 2 hlo (by decide) rfl
  have hn2 : Own encI 1 3 lo ((w.alloc (.cells #[.int .i64 x, .int .i64 y] 3)).alloc B) (.slice (some ⟨w.heap.size, 0, none⟩) 2 2) [x, y] := World.ownsRow.alloc hn _
  have hr2 := hr.below hb2
  have hsz : w.heap.size + 2 ≤ w5.heap.size := by have := hg5.size; simp at this; omega
  have hq : q < w5.heap.size := (World.ownsRow.lt ho5 q rfl).2
  -- the block that the append may write
  have hA : ∀ k, (Value.slice A R.length cap).ownBlock = some k → A = some ⟨k, 0, none⟩ ∧ k < w.heap.size := by
    intro k hk
    have hlt := (World.ownsRow.lt ho k hk).2
    rcases ho.2 with ⟨h3, _⟩ | ⟨g, c2, cur, h3, _⟩
    · injection h3 with h3; subst h3; cases hk
    · injection h3 with h3
      subst h3
      have h4 : some g = some k := hk
      injection h4 with h4
      subst h4
      exact ⟨rfl, hlt⟩
  have keep : OwnRows 3 lo w5 R ∧ Own encI 1 3 lo w5 (.slice (some ⟨w.heap.size, 0, none⟩) 2 2) [x, y] := by
    cases hk : (Value.slice A R.length cap).ownBlock with
    | none =>
      rw [hk] at hg5
      have hb : Below ((w.alloc (.cells #[.int .i64 x, .int .i64 y] 3)).alloc B).heap.size ((w.alloc (.cells #[.int .i64 x, .int .i64 y] 3)).alloc B) w5 := ⟨hg5.os, hg5.tape, hg5.output, hg5.size, fun i hi => hg5.block i hi (by simp)⟩
      exact ⟨hr2.below hb, Own.below hn2 hb⟩
    | some k =>
      obtain ⟨e1, e2⟩ := hA k hk
      rw [hk] at hg5
      refine ⟨hr2.kept hg5 (ha k e1), World.ownsRow.kept hn2 hg5 (.inr ?_)⟩
      show some w.heap.size ≠ some k
      intro e; injection e with e; omega
  obtain ⟨k1, k2⟩ := keep
  have hq2 : ∀ r ∈ R, r.a ≠ some ⟨q, 0, none⟩ := by
    intro r hm e
    rcases hq5 with h1 | h1
    · exact ha q (hA q h1).1 r hm e
    · have := hr.lt hm e
      simp at h1
      omega
  refine ⟨R ++ [⟨[x, y], some ⟨w.heap.size, 0, none⟩, 2⟩], by simp, by rw [List.length_append]; exact ho5, ⟨fun r hm => ?_, ?_⟩, fun g hg => ⟨?_, fun r hm e => ?_⟩, fun r hm g hg => ?_⟩
  · rcases List.mem_append.1 hm with h1 | h1
    · exact k1.1 r h1
    · simp at h1; subst h1; exact ⟨_, rfl, k2⟩
  · refine List.pairwise_append.2 ⟨k1.2, List.pairwise_singleton _ _, fun s hs t ht => ?_⟩
    simp at ht; subst ht
    intro e
    have := hr.lt hs e
    omega
  · injection hg with hg; injection hg with hg; subst hg; exact hq
  · injection hg with hg; injection hg with hg; subst hg
    rcases List.mem_append.1 hm with h1 | h1
    · exact hq2 r h1 e
    · simp at h1; subst h1
      injection e with e
      injection e with e
      rcases hq5 with h2 | h2
      · have := (hA q h2).2; omega
      · simp at h2; omega
  · rcases List.mem_append.1 hm with h1 | h1
    · have := hr.lt h1 hg; omega
    · simp at h1; subst h1
      injection hg with hg; injection hg with hg; omega
end Go.Proofs.Ytknondhdhjegbaa
