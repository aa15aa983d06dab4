/- Contracts of the small functions that all chapters share: ranges, words, least and greatest, texts of marks, slices of numbers. Lengths are at most what a string may have. -/
import Derived.Test.YtafefnpmgpmjpaaRows
import Derived.Test.YtafefnpmgpmjpaaBase
namespace Go.Proofs.Ytafefnpmgpmjpaa
open Go Go.RowKit

def inB (n lo hi : Int) : Bool := decide (lo ≤ n) && decide (n ≤ hi)
theorem inB_iff {n lo hi : Int} : inB n lo hi = true ↔ lo ≤ n ∧ n ≤ hi := by simp [inB]

theorem within_any (n lo hi : Int) (w : World) : Calls Try.prog 60 #[.int .i64 n, .int .i64 lo, .int .i64 hi] w fun e w' => e = .returned (.bool (inB n lo hi)) ∧ w = w' := by
  by_cases h : lo ≤ n
  · go_enter Try.func60, Try.ntmps60
    go_wp2
    go_ret
    exact ⟨ret_bool (by simp [inB, h]), rfl⟩
  · go_enter Try.func60, Try.ntmps60
    go_wp2
    go_ret
    exact ⟨ret_bool (by simp [inB]; omega), rfl⟩
theorem l1In_any (n lo hi : Int) (w : World) : Calls Try.prog 58 #[.int .i64 n, .int .i64 lo, .int .i64 hi] w fun e w' => e = .returned (.bool (inB n lo hi)) ∧ w = w' := by
  by_cases h : lo ≤ n
  · go_enter Try.func58, Try.ntmps58
    go_wp2
    go_ret
    exact ⟨ret_bool (by simp [inB, h]), rfl⟩
  · go_enter Try.func58, Try.ntmps58
    go_wp2
    go_ret
    exact ⟨ret_bool (by simp [inB]; omega), rfl⟩

def isLow (c : UInt8) : Bool := 97 ≤ c && c ≤ 122
def wordB (s : ByteArray) : Bool := s.data.toList.all isLow && inB s.size 1 10
theorem isLow_iff (c : UInt8) : isLow c = true ↔ 97 ≤ (c.toNat : Int) ∧ (c.toNat : Int) ≤ 122 := by
  simp [isLow, UInt8.le_iff_toNat_le]; omega
theorem take_snoc (s : ByteArray) (k : Nat) (h : k < s.size) : s.data.toList.take (k + 1) = s.data.toList.take k ++ [s[k]] := by
  rw [List.take_succ_eq_append_getElem (by simpa using h)]; rfl
theorem low_step {s : ByteArray} {k : Nat} (h : k < s.size) (hl : (s.data.toList.take k).all isLow = true) (h1 : 97 ≤ (s[k].toNat : Int)) (h2 : (s[k].toNat : Int) ≤ 122) : (s.data.toList.take (k + 1)).all isLow = true := by
  rw [take_snoc s k h, List.all_append, hl]
  simpa using (isLow_iff _).2 ⟨h1, h2⟩
theorem low_no {s : ByteArray} {k : Nat} (h : k < s.size) (h1 : ¬ (97 ≤ (s[k].toNat : Int) ∧ (s[k].toNat : Int) ≤ 122)) : wordB s = false := by
  have hn : isLow s[k] = false := by
    cases e : isLow s[k]
    · rfl
    · exact absurd ((isLow_iff _).1 e) h1
  have : s.data.toList.all isLow = false := by
    rw [List.all_eq_false]
    exact ⟨s[k], by simp [ByteArray.getElem_eq_getElem_data], by simp [hn]⟩
  simp [wordB, this]
theorem low_all {s : ByteArray} {k : Nat} (h : s.size ≤ k) (hl : (s.data.toList.take k).all isLow = true) : wordB s = inB s.size 1 10 := by
  rw [List.take_of_length_le (by simpa using h)] at hl
  simp [wordB, hl]

set_option maxHeartbeats 400000 in
theorem isWord_any (s : ByteArray) (w : World) (hs : s.size ≤ maxLen) :
    Calls Try.prog 77 #[.string s] w fun e w' => e = .returned (.bool (wordB s)) ∧ w = w' := by
  unfold maxLen at hs
  go_enter Try.func77, Try.ntmps77
  go_wp2
  go_loop [6] (fun i => ∃ k : Nat, k ≤ s.size ∧ i = .int .i64 k ∧ Hid ((s.data.toList.take k).all isLow = true)) (fun i => s.size - (intOf i).toNat)
  case atStart => exact ⟨0, Nat.zero_le _, rfl, hide rfl⟩
  case round =>
    obtain ⟨k, hk, rfl, hl⟩ := hrel
    by_cases hlt : k < s.size
    · by_cases g1 : (97 : Int) ≤ (s[k].toNat : Int)
      · by_cases g2 : (s[k].toNat : Int) ≤ 122
        · go_wp2
          go_round
          case rel => exact ⟨k + 1, by omega, by go_num, hide (low_step hlt hl.out g1 g2)⟩
          case measure => simp [intOf]; omega
        · go_wp2
          go_ret
          exact ⟨ret_bool (low_no hlt (by omega)).symm, rfl⟩
      · go_wp2
        go_ret
        exact ⟨ret_bool (low_no hlt (by omega)).symm, rfl⟩
    · by_cases g1 : (1 : Int) ≤ s.size
      · go_wp2
        go_ret
        exact ⟨ret_bool (by rw [low_all (by omega) hl.out]; simp [inB, g1]), rfl⟩
      · go_wp2
        go_ret
        exact ⟨ret_bool (by rw [low_all (by omega) hl.out]; simp [inB]; omega), rfl⟩
set_option maxHeartbeats 400000 in
theorem l2Word_any (s : ByteArray) (w : World) (hs : s.size ≤ maxLen) :
    Calls Try.prog 80 #[.string s] w fun e w' => e = .returned (.bool (wordB s)) ∧ w = w' := by
  unfold maxLen at hs
  go_enter Try.func80, Try.ntmps80
  go_wp2_with fail
  go_loop [3] (fun i => ∃ k : Nat, k ≤ s.size ∧ i = .int .i64 k ∧ Hid ((s.data.toList.take k).all isLow = true)) (fun i => s.size - (intOf i).toNat)
  case atStart => exact ⟨0, Nat.zero_le _, rfl, hide rfl⟩
  case round =>
    obtain ⟨k, hk, rfl, hl⟩ := hrel
    by_cases hlt : k < s.size
    · by_cases g1 : (97 : Int) ≤ (s[k].toNat : Int)
      · by_cases g2 : (s[k].toNat : Int) ≤ 122
        · go_wp2_with fail
          go_round
          case rel => exact ⟨k + 1, by omega, by go_num, hide (low_step hlt hl.out g1 g2)⟩
          case measure => simp [intOf]; omega
        · go_wp2_with fail
          go_ret
          exact ⟨ret_bool (low_no hlt (by omega)).symm, rfl⟩
      · go_wp2_with fail
        go_ret
        exact ⟨ret_bool (low_no hlt (by omega)).symm, rfl⟩
    · go_wp2_with (go_at_call 58; refine (l1In_any _ _ _ _).mono ?_; rintro e w' ⟨rfl, rfl⟩)
      go_ret
      exact ⟨ret_bool (low_all (by omega) hl.out).symm, rfl⟩
theorem l1Least_any (a b : Int) (w : World) : Calls Try.prog 55 #[.int .i64 a, .int .i64 b] w fun e w' => e = .returned (.int .i64 (min a b)) ∧ w = w' := by
  by_cases h : a < b
  · go_enter Try.func55, Try.ntmps55
    go_wp2
    go_ret
    exact ⟨ret_int (by omega), rfl⟩
  · go_enter Try.func55, Try.ntmps55
    go_wp2
    go_ret
    exact ⟨ret_int (by omega), rfl⟩
theorem l1Most_any (a b : Int) (w : World) : Calls Try.prog 65 #[.int .i64 a, .int .i64 b] w fun e w' => e = .returned (.int .i64 (max a b)) ∧ w = w' := by
  by_cases h : b < a
  · go_enter Try.func65, Try.ntmps65
    go_wp2
    go_ret
    exact ⟨ret_int (by omega), rfl⟩
  · go_enter Try.func65, Try.ntmps65
    go_wp2
    go_ret
    exact ⟨ret_int (by omega), rfl⟩
theorem within_is {n lo hi : Int} {b : Bool} (h : inB n lo hi = b) (w : World) : Calls Try.prog 60 #[.int .i64 n, .int .i64 lo, .int .i64 hi] w fun e w' => e = .returned (.bool b) ∧ w = w' := h ▸ within_any n lo hi w
theorem l1In_is {n lo hi : Int} {b : Bool} (h : inB n lo hi = b) (w : World) : Calls Try.prog 58 #[.int .i64 n, .int .i64 lo, .int .i64 hi] w fun e w' => e = .returned (.bool b) ∧ w = w' := h ▸ l1In_any n lo hi w
theorem isWord_is {s : ByteArray} {b : Bool} (h : wordB s = b) (w : World) (hs : s.size ≤ maxLen) : Calls Try.prog 77 #[.string s] w fun e w' => e = .returned (.bool b) ∧ w = w' := h ▸ isWord_any s w hs
theorem l2Word_is {s : ByteArray} {b : Bool} (h : wordB s = b) (w : World) (hs : s.size ≤ maxLen) : Calls Try.prog 80 #[.string s] w fun e w' => e = .returned (.bool b) ∧ w = w' := h ▸ l2Word_any s w hs
end Go.Proofs.Ytafefnpmgpmjpaa
