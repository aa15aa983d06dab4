/- Whether all numbers of a slice are in a range: the program's function. -/
import Derived.Test.YtafefnpmgpmjpaaMark
import Derived.Test.YtafefnpmgpmjpaaWords
namespace Go.Proofs.Ytafefnpmgpmjpaa
open Go Go.RowKit
set_option linter.unusedVariables false
theorem all_no {l : List Int} {q : Nat} {n lo hi : Int} (hg : l[q]? = some n) (hn : inB n lo hi = false) : (l.all fun n => inB n lo hi) = false := by
  rw [List.all_eq_false]; exact ⟨n, List.mem_of_getElem? hg, by simp [hn]⟩
theorem all_yes {l : List Int} {q : Nat} {lo hi : Int} (hq : l.length ≤ q) (h : ∀ (i : Nat) (n : Int), i < q → l[i]? = some n → inB n lo hi = true) : (l.all fun n => inB n lo hi) = true := by
  rw [List.all_eq_true]
  intro x hx
  obtain ⟨i, hi, rfl⟩ := List.mem_iff_getElem.1 hx
  exact h i _ (by omega) (List.getElem?_eq_getElem hi)
theorem all_step {l : List Int} {q : Nat} {n lo hi : Int} (h : ∀ (i : Nat) (n : Int), i < q → l[i]? = some n → inB n lo hi = true) (hg : l[q]? = some n) (hn : inB n lo hi = true) : ∀ (i : Nat) (n : Int), i < q + 1 → l[i]? = some n → inB n lo hi = true := fun i m hi hm => by
  rcases Nat.lt_or_eq_of_le (Nat.lt_succ_iff.1 hi) with h1 | h1
  · exact h i m h1 hm
  · subst h1
    rw [hg] at hm
    injection hm with hm
    rw [← hm]; exact hn
set_option maxHeartbeats 400000 in
theorem allIn_any (l : List Int) (lo hi : Int) (A : Option Addr) (cap : Nat) (w : World) (hr : Rd encI 1 w.heap.size w A l) (hl : l.length ≤ maxLen) :
    Calls Try.prog 63 #[.slice A l.length cap, .int .i64 lo, .int .i64 hi] w fun e w' => e = .returned (.bool (l.all fun n => inB n lo hi)) ∧ w = w' := by
  unfold maxLen at hl
  go_enter Try.func63, Try.ntmps63
  go_wp2_with fail
  go_loop [11] (fun i => ∃ k : Nat, k ≤ l.length ∧ i = .int .i64 k ∧ Hid (∀ (i : Nat) (n : Int), i < k → l[i]? = some n → inB n lo hi = true)) (fun i => l.length - (intOf i).toNat)
  case atStart => exact ⟨0, Nat.zero_le _, rfl, hide (fun i n hi => absurd hi (Nat.not_lt_zero i))⟩
  case round =>
    obtain ⟨k, hk, rfl, hp⟩ := hrel
    by_cases hlt : k < l.length
    · obtain ⟨b, o, rfl, _, hc⟩ := rd_int hr (by intro h; rw [h] at hlt; simp at hlt)
      have hg := List.getElem?_eq_getElem hlt
      have c0 := hc k _ hg
      generalize l[k] = n at *
      have HG := hide hg; clear hg hc hr
      cases hn : inB n lo hi
      · go_wp2_with (go_at_call 60; refine (within_is hn _).mono ?_; rintro e w1 ⟨rfl, rfl⟩)
        go_ret
        exact ⟨ret_bool (all_no HG.out hn).symm, rfl⟩
      · go_wp2_with (go_at_call 60; refine (within_is hn _).mono ?_; rintro e w1 ⟨rfl, rfl⟩)
        go_round
        case rel => exact ⟨k + 1, by omega, by go_num, hide (all_step hp.out HG.out hn)⟩
        case measure => simp [intOf]; omega
    · go_wp2_with fail
      go_ret
      exact ⟨ret_bool (all_yes (by omega) hp.out).symm, rfl⟩
theorem allIn_is {l : List Int} {lo hi : Int} {b : Bool} (h : (l.all fun n => inB n lo hi) = b) (A : Option Addr) (cap : Nat) (w : World) (hr : Rd encI 1 w.heap.size w A l) (hl : l.length ≤ maxLen) :
    Calls Try.prog 63 #[.slice A l.length cap, .int .i64 lo, .int .i64 hi] w fun e w' => e = .returned (.bool b) ∧ w = w' := h ▸ allIn_any l lo hi A cap w hr hl
end Go.Proofs.Ytafefnpmgpmjpaa
