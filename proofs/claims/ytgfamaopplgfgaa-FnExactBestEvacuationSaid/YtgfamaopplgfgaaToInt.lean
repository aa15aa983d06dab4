/- A slice of numbers is copied. It has at most 2^20 elements. -/
import Derived.Test.YtgfamaopplgfgaaInts
namespace Go.Proofs.Ytgfamaopplgfgaa
open Go Go.RowKit
set_option linter.unusedVariables false
theorem hmk_int (n : Nat) (hn : n ≤ 1048576) (W : World) : (Instr.makeSlice 26 (.int .i64 (n : Int)) (.int .i64 (n : Int))).run Try.prog W = .ok (.slice (some ⟨W.heap.size, 0, none⟩) n n) (W.alloc (.cells (madeCells #[.int .i64 0] n) 3)) := by
  obtain ⟨i0, hi, hz0, hz1, hz2⟩ := info_parts infoI
  have := run_make_rowN (P := Try.prog) 26 3 i0 _ Try.underlying26 hi hz0 .i64 .i64 n n (Nat.le_refl _) (by rw [hz2]; omega) (by omega) W
  rw [hz1, Nat.mul_one] at this
  exact this
set_option maxRecDepth 100000 in
set_option maxHeartbeats 800000 in
theorem toIntS_any (L : List Int) (A : Option Addr) (cap : Nat) (w : World) (hn : L.length ≤ 1048576) (hr : Rd encI 1 w.heap.size w A L) :
    Calls Try.prog 32 #[.slice A L.length cap] w fun e w' => e = .returned (.slice (some ⟨w.heap.size, 0, none⟩) L.length L.length) ∧ Own encI 1 3 w.heap.size w' (.slice (some ⟨w.heap.size, 0, none⟩) L.length L.length) L ∧ Below w.heap.size w w' := by
  have hmk := hmk_int L.length hn
  have fill0 : Fill (w.alloc (.cells (madeCells #[.int .i64 0] L.length) 3)) w.heap.size 3 L.length [] := Fill.new _ _ _ (by simp [size_madeCells])
  by_cases hL : L = []
  · subst hL
    simp only [List.length_nil, Int.natCast_zero] at hmk fill0
    go_enter Try.func32, Try.ntmps32
    go_wp2_with fail
    go_loopw [4] (fun i wr => i = .int .i64 0 ∧ Fill wr w.heap.size 3 0 [] ∧ Below w.heap.size w wr) (fun _ _ => 0)
    case atStart => exact ⟨rfl, by simpa using fill0, (Below.refl _ _).alloc (Nat.le_refl _) _⟩
    case round =>
      obtain ⟨rfl, hf, hb⟩ := hrel
      go_wp2_with fail
      go_ret
      exact ⟨rfl, Fill.own (sz := 1) (n := 0) (by simpa using hf) rfl (Nat.le_refl _) (Nat.zero_le _), hb⟩
  · obtain ⟨b, o, rfl, hb, hc⟩ := rd_int hr hL
    clear hr
    go_enter Try.func32, Try.ntmps32
    go_wp2_with fail
    go_loopw [4] (fun i wr => ∃ k : Nat, k ≤ L.length ∧ i = .int .i64 k ∧ Fill wr w.heap.size 3 L.length ((L.take k).flatMap encI) ∧ Below w.heap.size w wr) (fun i _ => L.length - (intOf i).toNat)
    case atStart => exact ⟨0, Nat.zero_le _, rfl, fill0, (Below.refl _ _).alloc (Nat.le_refl _) _⟩
    case round =>
      obtain ⟨k, hk, rfl, hf, hbel⟩ := hrel
      by_cases hlt : k < L.length
      · have c0 := below_cell hbel (hc k _ (List.getElem?_eq_getElem hlt))
        have HT := hide (take_snocL L k hlt)
        have HF := hide (show ((L.take k).flatMap encI).length = k by rw [flat_length encI_len, List.length_take, Nat.min_eq_left hk, Nat.mul_one])
        generalize L[k] = c at *
        have th := hf.there_ (o := k) (n := 1) (by omega)
        obtain ⟨u, hu⟩ := Option.isSome_iff_exists.1 (th 0 (by omega)).1
        have hfr := (th 0 (by omega)).2
        simp only [Nat.add_zero] at hu hfr
        have hki : (k : Int) < (L.length : Int) := by omega
        clear th
        go_wp2_with fail
        go_roundw
        case rel =>
          refine ⟨k + 1, by omega, by go_num, ?_, hbel.setCell (Nat.le_refl _) _⟩
          have := hf.set_ (by rw [HF.out]; omega) (.int .i64 c)
          rw [HF.out] at this
          rw [HT.out, List.flatMap_append]
          exact this
        case measure => simp [intOf]; omega
      · obtain rfl : k = L.length := by omega
        go_wp2_with fail
        go_ret
        rw [List.take_length] at hf
        exact ⟨rfl, Fill.own (sz := 1) (by rw [Nat.mul_one]; exact hf) (flat_length encI_len L) (Nat.le_refl _) (by unfold maxLen; omega), hbel⟩
end Go.Proofs.Ytgfamaopplgfgaa
