/- Numbers as text: strconv.Itoa (by the shelf, with the table of powers) and the reference's l1Num give the same bytes. No condition but the table's cells. -/
import Derived.Test.YtkdnkhbcbcffeaaDoorBase
import Derived.Test.YtkdnkhbcbcffeaaDoorShelf
import Derived.Lib.ItoaLen
namespace Go.Proofs.YtkdnkhbcbcffeaaDoor
open Go Go.RowKit
set_option linter.unusedVariables false
/- the text of a number, 0 or more -/
def numB (n : Int) : ByteArray := ⟨(Lib.itoa n).toArray⟩
def Tab10 (w : World) : Prop := Lib.TabIs Tryd.prog w "internal/strconv.uint64pow10" .u64 Lib.pow10Tab
theorem Tab10.keep {w w' : World} (h : Tab10 w) (hk : ∀ k, k < w.heap.size → w'.heap[k]? = w.heap[k]?) : Tab10 w' := by
  unfold Tab10 Lib.TabIs World.var? at h ⊢
  cases hg : Tryd.prog.globalNamed "internal/strconv.uint64pow10" with
  | none => rw [hg] at h; cases h
  | some g =>
    rw [hg] at h
    simp only [Option.bind_some] at h ⊢
    have hlt : g < w.heap.size := by
      cases hh : w.heap[g]? with
      | none => rw [hh] at h; cases h
      | some o => exact (Array.getElem?_eq_some_iff.1 hh).1
    rw [hk _ hlt]
    exact h
theorem Tab10.below {w w' : World} (h : Tab10 w) (hb : Below w.heap.size w w') : Tab10 w' := h.keep fun k hk => hb.block k hk
theorem grow_below (w : World) (k : Nat) (os : Array Obj) : Below w.heap.size w (Sort.grow (w.drewN k) os) :=
  ⟨rfl, rfl, rfl, by show w.heap.size ≤ (w.heap ++ os).size; simp, fun i hi => by show (w.heap ++ os)[i]? = _; rw [Array.getElem?_append_left hi]⟩
theorem numB_size {n : Int} (h0 : 0 ≤ n) (h1 : n ≤ 1000000000) : (numB n).size ≤ 21 := Lib.itoa_length_le n (by omega) (by omega)
theorem Itoa_any (n : Int) (w : World) (h0 : 0 ≤ n) (h1 : n ≤ 1000000000) (ht : Tab10 w) : Calls Tryd.prog 25 #[.int .i64 n] w fun e w' => e = .returned (.string (numB n)) ∧ Below w.heap.size w w' :=
  (Tryd.strconv_Itoa n (by omega) (by omega) w ht).mono fun e w' ⟨he, k, os, hw⟩ => ⟨he, hw ▸ grow_below w k os⟩
def tenB : ByteArray := ⟨#[48, 49, 50, 51, 52, 53, 54, 55, 56, 57]⟩
theorem tenB_size : (tenB.size : Int) = 10 := by decide
theorem tenB_at (k : Nat) (h : k < 10) : (⟨#[48, 49, 50, 51, 52, 53, 54, 55, 56, 57]⟩ : ByteArray).extract k (k + 1) = numB (k : Int) := by
  have : k = 0 ∨ k = 1 ∨ k = 2 ∨ k = 3 ∨ k = 4 ∨ k = 5 ∨ k = 6 ∨ k = 7 ∨ k = 8 ∨ k = 9 := by omega
  have e : numB (k : Int) = ⟨#[UInt8.ofNat (48 + k)]⟩ := by
    unfold numB; rw [Lib.itoa_nonneg, Lib.decDigits_one h]
  rw [e]
  rcases this with rfl | rfl | rfl | rfl | rfl | rfl | rfl | rfl | rfl | rfl <;> rfl
theorem numB_ten (n : Nat) (h : ¬ n < 10) : numB (n : Int) = numB ((n / 10 : Nat) : Int) ++ numB ((n % 10 : Nat) : Int) := by
  unfold numB
  rw [Lib.itoa_nonneg, Lib.itoa_nonneg, Lib.itoa_nonneg, Lib.decDigits, dif_neg h, Lib.decDigits_one (Nat.mod_lt _ (by decide))]
  apply ByteArray.ext
  rw [ByteArray.data_append]
  simp
set_option maxHeartbeats 1000000 in
theorem l1Num_nat : ∀ (m n : Nat), n ≤ m → n ≤ 1000000000 → ∀ w : World, Calls Tryd.prog 23 #[.int .i64 n] w fun e w' => e = .returned (.string (numB n)) ∧ Below w.heap.size w w'
  | m, n, hm, hn, w => by
    by_cases h10 : n < 10
    · have hE := hide (tenB_at n h10)
      have hi0 : ¬ (n : Int) < 0 := by omega
      have hi1 : (n : Int) < 10 := by omega
      go_enter Tryd.func23, Tryd.ntmps23
      go_wp2_with fail
      go_ret
      exact ⟨by rw [← hE.out]; rfl, Below.refl _ _⟩
    · match m, hm with
      | 0, hm => exact absurd hm (by omega)
      | m + 1, hm =>
        have ih := hide (l1Num_nat m (n / 10) (by omega) (by omega))
        have hE := hide (tenB_at (n % 10) (Nat.mod_lt _ (by decide)))
        have hT := hide (numB_ten n h10)
        have hs1 := numB_size (n := (n : Int) / 10) (by omega) (by omega)
        have hs2 := numB_size (n := (n : Int) % 10) (by omega) (by omega)
        have hEo := hE.out
        have hi0 : ¬ (n : Int) < 0 := by omega
        have hi1 : ¬ (n : Int) < 10 := by omega
        have hq : (n : Int).tdiv 10 = ((n / 10 : Nat) : Int) := by rw [Int.tdiv_eq_ediv_of_nonneg (by omega)]; omega
        have hr : (n : Int).tmod 10 = ((n % 10 : Nat) : Int) := by rw [Int.tmod_eq_emod_of_nonneg (by omega)]; omega
        have hr9 : n % 10 < 10 := Nat.mod_lt _ (by decide)
        go_enter Tryd.func23, Tryd.ntmps23
        go_wp2_with fail
        refine wp_region_after (by kernel_rfl) (by kernel_rfl) ?_
        repeat (go_big_quiet_step ((go_at_call 23; exact Calls.after (ih.out _))))
        refine wpQuiet_nil ?_
        rintro _ ⟨⟨w1, hb1⟩, rfl⟩
        go_wp2_with fail
        go_ret
        exact ⟨ret_str (by rw [hT.out]; rfl), hb1⟩
theorem l1Num_any (n : Int) (w : World) (h0 : 0 ≤ n) (h1 : n ≤ 1000000000) : Calls Tryd.prog 23 #[.int .i64 n] w fun e w' => e = .returned (.string (numB n)) ∧ Below w.heap.size w w' := by
  obtain ⟨k, rfl⟩ := Int.eq_ofNat_of_zero_le h0
  exact l1Num_nat k k (Nat.le_refl _) (by omega) w
end Go.Proofs.YtkdnkhbcbcffeaaDoor
