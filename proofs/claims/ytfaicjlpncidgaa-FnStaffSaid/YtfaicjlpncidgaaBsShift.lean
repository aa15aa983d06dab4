/- slices.BinarySearchFunc at slices of Shift, by an order in which the things stand: walked once. Slices have at most 10^6 elements. -/
import Derived.Test.YtfaicjlpncidgaaLibShift
namespace Go.Proofs.Ytfaicjlpncidgaa
open Go Go.RowKit
namespace Shift
set_option maxRecDepth 100000 in
set_option maxHeartbeats 1000000 in
theorem BinarySearchFunc_any (g : Nat) (cmp : Shift → Shift → Int) (L : List Shift) (s : Shift) (k0 : Nat) (A : Option Addr) (cap : Nat) (w : World) (hr : Rd enc 4 w.heap.size w A L) (hl : L.length ≤ 1000000) (hk0 : k0 ≤ L.length)
    (hlow : ∀ (j : Nat) (c : Shift), j < k0 → L[j]? = some c → cmp c s < 0) (hhigh : ∀ (j : Nat) (c : Shift), k0 ≤ j → L[j]? = some c → 0 ≤ cmp c s) (he : EntersF Try.prog g)
    (hcall : ∀ (W : World) (c : Shift), c ∈ L → Calls Try.prog g #[.agg #[.int .i64 c.day, .int .i64 c.part, .int .i64 c.who, .int .i64 c.duty], .agg #[.int .i64 s.day, .int .i64 s.part, .int .i64 s.who, .int .i64 s.duty]] W fun e w' => e = .returned (.int .i64 (cmp c s)) ∧ Below W.heap.size W w') :
    Calls Try.prog 110 #[.slice A L.length cap, .agg #[.int .i64 s.day, .int .i64 s.part, .int .i64 s.who, .int .i64 s.duty], .func (.func g) #[] #[]] w fun e w' => ∃ b, e = .returned (.tuple #[.int .i64 k0, .bool b]) ∧ Below w.heap.size w w' := by
  have eg : ∀ (args : Array Value) (w : World), (callFunc g args).run Try.prog w = .ok (.enter g args) w := he
  have hba : Below w.heap.size w (w.alloc (.cells #[.int .i64 s.day, .int .i64 s.part, .int .i64 s.who, .int .i64 s.duty] 66)) := (Below.refl _ _).alloc (Nat.le_refl _) _
  have HL := hide hlow; clear hlow
  have HH := hide hhigh; clear hhigh
  have HC := hide hcall; clear hcall
  go_enter Try.func110, Try.ntmps110
  go_wp2_with fail
  go_loopw [9, 10] (fun x y wr => ∃ (i j : Nat), x = .int .i64 i ∧ y = .int .i64 j ∧ i ≤ k0 ∧ k0 ≤ j ∧ j ≤ L.length ∧ Below (w.alloc (.cells #[.int .i64 s.day, .int .i64 s.part, .int .i64 s.who, .int .i64 s.duty] 66)).heap.size (w.alloc (.cells #[.int .i64 s.day, .int .i64 s.part, .int .i64 s.who, .int .i64 s.duty] 66)) wr) (fun x y _ => (intOf y).toNat - (intOf x).toNat)
  case atStart => exact ⟨0, L.length, rfl, rfl, Nat.zero_le _, hk0, Nat.le_refl _, Below.refl _ _⟩
  case round =>
    obtain ⟨i, j, rfl, rfl, h1, h2, h3, hbel⟩ := hrel
    have hbw : Below w.heap.size w wr := below_new' hbel
    have hbox : ∀ d : After wr, d.1.cell? ⟨w.heap.size, 0, none⟩ = some (.int .i64 s.day) ∧ d.1.cell? ⟨w.heap.size, 1, none⟩ = some (.int .i64 s.part) ∧ d.1.cell? ⟨w.heap.size, 2, none⟩ = some (.int .i64 s.who) ∧ d.1.cell? ⟨w.heap.size, 3, none⟩ = some (.int .i64 s.duty) := fun d => Shift.box_after w s 66 ⟨d.1, below_step hbel d.2 (Nat.le_refl _)⟩
    by_cases hij : i < j
    · have hhl : (i + j) / 2 < L.length := by omega
      obtain ⟨b, o, rfl, hb, hc⟩ := rd_at hr (by intro e; subst e; simp at hhl)
      have hget := List.getElem?_eq_getElem hhl
      obtain ⟨x0, x1, x2, x3⟩ := hc ((i + j) / 2) _ hget
      have hmem := hide (List.getElem_mem hhl)
      generalize L[(i + j) / 2] = c at *
      have HG := hide hget; clear hget hc hr
      replace x0 := after_cell (below_cell hbw x0)
      replace x1 := after_cell (below_cell hbw x1)
      replace x2 := after_cell (below_cell hbw x2)
      replace x3 := after_cell (below_cell hbw x3)
      by_cases hlt : cmp c s < 0
      · have hk : (i + j) / 2 < k0 := by
          rcases Nat.lt_or_ge ((i + j) / 2) k0 with h | h
          · exact h
          · have := HH.out _ _ h HG.out; omega
        go_wp2_with fail
        refine wp_region_after (by kernel_rfl) (by kernel_rfl) ?_
        repeat (go_big_quiet_step ((with_reducible show Calls _ _ _ _ _; exact Calls.after (HC.out _ c hmem.out))))
        refine wpQuiet_nil ?_
        rintro w2 ⟨⟨_, hb2⟩, rfl⟩
        go_wp2_with fail
        go_roundw
        case rel => exact ⟨(i + j) / 2 + 1, j, by rw [show ((i : Int) + (j : Int)) / 2 + 1 = (((i + j) / 2 + 1 : Nat) : Int) by omega], rfl, by omega, h2, h3, below_step hbel hb2 (Nat.le_refl _)⟩
        case measure => simp [intOf]; omega
      · have hk : k0 ≤ (i + j) / 2 := by
          rcases Nat.lt_or_ge ((i + j) / 2) k0 with h | h
          · exact absurd (HL.out _ _ h HG.out) hlt
          · exact h
        go_wp2_with fail
        refine wp_region_after (by kernel_rfl) (by kernel_rfl) ?_
        repeat (go_big_quiet_step ((with_reducible show Calls _ _ _ _ _; exact Calls.after (HC.out _ c hmem.out))))
        refine wpQuiet_nil ?_
        rintro w2 ⟨⟨_, hb2⟩, rfl⟩
        go_wp2_with fail
        go_roundw
        case rel => exact ⟨i, (i + j) / 2, rfl, by rw [show ((i : Int) + (j : Int)) / 2 = (((i + j) / 2 : Nat) : Int) by omega], h1, hk, by omega, below_step hbel hb2 (Nat.le_refl _)⟩
        case measure => simp [intOf]; omega
    · obtain rfl : i = k0 := by omega
      by_cases hin : i < L.length
      · obtain ⟨b, o, rfl, hb, hc⟩ := rd_at hr (by intro e; subst e; simp at hin)
        have hget := List.getElem?_eq_getElem hin
        obtain ⟨x0, x1, x2, x3⟩ := hc i _ hget
        have hmem := hide (List.getElem_mem hin)
        generalize L[i] = c at *
        clear hget hc hr
        replace x0 := after_cell (below_cell hbw x0)
        replace x1 := after_cell (below_cell hbw x1)
        replace x2 := after_cell (below_cell hbw x2)
        replace x3 := after_cell (below_cell hbw x3)
        have hii : (i : Int) < (L.length : Int) := by omega
        by_cases hz : cmp c s = 0
        all_goals
          go_wp2_with fail
          refine wp_region_after (by kernel_rfl) (by kernel_rfl) ?_
          repeat (go_big_quiet_step ((with_reducible show Calls _ _ _ _ _; exact Calls.after (HC.out _ c hmem.out))))
          refine wpQuiet_nil ?_
          rintro w2 ⟨⟨_, hb2⟩, rfl⟩
          go_wp2_with fail
          go_ret2
          exact ⟨_, rfl, below_new' (below_step hbel hb2 (Nat.le_refl _))⟩
      · have hii : ¬ (i : Int) < (L.length : Int) := by omega
        go_wp2_with fail
        refine wp_region_after (by kernel_rfl) (by kernel_rfl) ?_
        repeat (go_big_quiet_step ((with_reducible show Calls _ _ _ _ _; exact Calls.after (HC.out _ c hmem.out))))
        refine wpQuiet_nil ?_
        rintro w2 ⟨⟨_, hb2⟩, rfl⟩
        go_wp2_with fail
        go_ret2
        exact ⟨_, rfl, below_new' (below_step hbel hb2 (Nat.le_refl _))⟩
end Shift
end Go.Proofs.Ytfaicjlpncidgaa
