/- Contracts of the small functions that all chapters share: ranges, words, least and greatest, texts of marks, slices of numbers. Lengths are at most what a string may have. -/
import Derived.Test.YtkdnkhbcbcffeaaDoorRows
import Derived.Test.YtkdnkhbcbcffeaaDoorBase
namespace Go.Proofs.YtkdnkhbcbcffeaaDoor
open Go Go.RowKit

def inB (n lo hi : Int) : Bool := decide (lo ≤ n) && decide (n ≤ hi)
theorem inB_iff {n lo hi : Int} : inB n lo hi = true ↔ lo ≤ n ∧ n ≤ hi := by simp [inB]

theorem within_any (n lo hi : Int) (w : World) : Calls Tryd.prog 24 #[.int .i64 n, .int .i64 lo, .int .i64 hi] w fun e w' => e = .returned (.bool (inB n lo hi)) ∧ w = w' := by
  by_cases h : lo ≤ n
  · go_enter Tryd.func24, Tryd.ntmps24
    go_wp2
    go_ret
    exact ⟨ret_bool (by simp [inB, h]), rfl⟩
  · go_enter Tryd.func24, Tryd.ntmps24
    go_wp2
    go_ret
    exact ⟨ret_bool (by simp [inB]; omega), rfl⟩
theorem l1In_any (n lo hi : Int) (w : World) : Calls Tryd.prog 20 #[.int .i64 n, .int .i64 lo, .int .i64 hi] w fun e w' => e = .returned (.bool (inB n lo hi)) ∧ w = w' := by
  by_cases h : lo ≤ n
  · go_enter Tryd.func20, Tryd.ntmps20
    go_wp2
    go_ret
    exact ⟨ret_bool (by simp [inB, h]), rfl⟩
  · go_enter Tryd.func20, Tryd.ntmps20
    go_wp2
    go_ret
    exact ⟨ret_bool (by simp [inB]; omega), rfl⟩

def isLow (c : UInt8) : Bool := 97 ≤ c && c ≤ 122
def wordB (s : ByteArray) : Bool := s.data.toList.all isLow && inB s.size 1 10
theorem isLow_iff (c : UInt8) : isLow c = true ↔ 97 ≤ (c.toNat : Int) ∧ (c.toNat : Int) ≤ 122 := by
  simp [isLow, UInt8.le_iff_toNat_le]; omega
theorem take_snoc (s : ByteArray) (k : Nat) (h : k < s.size) : s.data.toList.take (k + 1) = s.data.toList.take k ++ [s[k]] := by
  rw [List.take_succ_eq_append_getElem (by simpa using h)]; rfl
theorem low_step {s : ByteArray} {k : Nat} (h : k < s.size) (hl : (s.data.toList.take k).all isLow = true) (h1 : 97 ≤ (s[k].toNat : Int)) (h2 : (s[k].toNat : Int) ≤ 122) : (s.data.toList.take (k + 1)).all isLow = true := by
  rw [take_snoc s k h, List.all_append, hl]
  simpa using (isLow_iff _).2 ⟨h1, h2⟩
theorem low_no {s : ByteArray} {k : Nat} (h : k < s.size) (h1 : ¬ (97 ≤ (s[k].toNat : Int) ∧ (s[k].toNat : Int) ≤ 122)) : wordB s = false := by
  have hn : isLow s[k] = false := by
    cases e : isLow s[k]
    · rfl
    · exact absurd ((isLow_iff _).1 e) h1
  have : s.data.toList.all isLow = false := by
    rw [List.all_eq_false]
    exact ⟨s[k], by simp [ByteArray.getElem_eq_getElem_data], by simp [hn]⟩
  simp [wordB, this]
theorem low_all {s : ByteArray} {k : Nat} (h : s.size ≤ k) (hl : (s.data.toList.take k).all isLow = true) : wordB s = inB s.size 1 10 := by
  rw [List.take_of_length_le (by simpa using h)] at hl
  simp [wordB, hl]

theorem within_is {n lo hi : Int} {b : Bool} (h : inB n lo hi = b) (w : World) : Calls Tryd.prog 24 #[.int .i64 n, .int .i64 lo, .int .i64 hi] w fun e w' => e = .returned (.bool b) ∧ w = w' := h ▸ within_any n lo hi w
theorem l1In_is {n lo hi : Int} {b : Bool} (h : inB n lo hi = b) (w : World) : Calls Tryd.prog 20 #[.int .i64 n, .int .i64 lo, .int .i64 hi] w fun e w' => e = .returned (.bool b) ∧ w = w' := h ▸ l1In_any n lo hi w
end Go.Proofs.YtkdnkhbcbcffeaaDoor
