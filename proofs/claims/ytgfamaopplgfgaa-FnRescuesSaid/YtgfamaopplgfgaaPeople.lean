/- The number of all people, and the fullest span: both packages. Slices are as the reader gives them. -/
import Derived.Test.YtgfamaopplgfgaaCrews
import Derived.Test.YtgfamaopplgfgaaLibInt
namespace Go.Proofs.Ytgfamaopplgfgaa
open Go Go.RowKit
set_option linter.unusedVariables false
def goodP (L : List Support) (P : List Int) : Bool := shortB L && peopleB L P
def upV (L : List Support) (P : List Int) : Int := if goodP L P then P.sum else 0
def fullV (L : List Support) (P : List Int) : Int := if goodP L P then (fullUp P P.length : Nat) else 0
theorem goodP_len {L : List Support} {P : List Int} (h : goodP L P = true) : 1 ≤ P.length ∧ P.length ≤ 6 ∧ P.length + 1 = L.length := by
  simp only [goodP, peopleB, Bool.and_eq_true, decide_eq_true_eq] at h
  have := shortB_len h.1
  omega
theorem goodP_bd {L : List Support} {P : List Int} (h : goodP L P = true) {k : Nat} {n : Int} (hk : P[k]? = some n) : 0 ≤ n ∧ n ≤ 60 := by
  simp only [goodP, peopleB, Bool.and_eq_true] at h
  exact inB_iff.1 ((List.all_eq_true.1 h.2.2) n (List.mem_of_getElem? hk))
theorem sum_step {P : List Int} {k : Nat} {n : Int} (hk : P[k]? = some n) : (P.take (k + 1)).sum = (P.take k).sum + n := by
  obtain ⟨hlt, rfl⟩ := List.getElem?_eq_some_iff.1 hk
  rw [take_snocL P k hlt, List.sum_append]; simp only [List.sum_cons, List.sum_nil]; omega
theorem sum_bd {L : List Support} {P : List Int} (h : goodP L P = true) : ∀ k, 0 ≤ (P.take k).sum ∧ (P.take k).sum ≤ 60 * k
  | 0 => by simp
  | k + 1 => by
    have ih := sum_bd h k
    by_cases hlt : k < P.length
    · have hg := List.getElem?_eq_getElem hlt
      rw [sum_step hg]
      have := goodP_bd h hg
      omega
    · have : P.take (k + 1) = P.take k := by rw [List.take_of_length_le (by omega), List.take_of_length_le (by omega)]
      rw [this]; omega

set_option maxHeartbeats 1000000 in
theorem PeopleUp_any (L : List Support) (P : List Int) (A0 A1 : Option Addr) (c0 c1 : Nat) (w : World) (r0 : Rd Support.enc 3 w.heap.size w A0 L) (ok0 : ∀ c ∈ L, c.Ok) (l0 : L.length ≤ maxLen) (r1 : Rd encI 1 w.heap.size w A1 P) (l1 : P.length ≤ maxLen) :
    Calls Try.prog 33 #[.slice A0 L.length c0, .slice A1 P.length c1] w fun e w' => e = .returned (.tuple #[.int .i64 (upV L P), .bool (goodP L P)]) ∧ Below w.heap.size w w' := by
  cases hs : shortB L
  · have HG := hide (show goodP L P = false by simp [goodP, hs])
    go_enter Try.func33, Try.ntmps33
    go_wp2_with (first | (go_at_call 60; refine (isShortLine_is hs _ _ _ r0 ok0 l0).mono ?_; rintro e w1 ⟨rfl, hb1⟩) | (go_at_call 77; refine (arePeople_is hs _ _ _ _ _ l0 (r1.later hb1) l1).mono ?_; rintro e w2 ⟨rfl, rfl⟩))
    go_ret2
    exact ⟨by simp [upV, HG.out], hb1⟩
  cases hq : peopleB L P
  · have HG := hide (show goodP L P = false by simp [goodP, hq])
    have HS := hide hs; clear hs
    go_enter Try.func33, Try.ntmps33
    go_wp2_with (first | (go_at_call 60; refine (isShortLine_is HS.out _ _ _ r0 ok0 l0).mono ?_; rintro e w1 ⟨rfl, hb1⟩) | (go_at_call 77; refine (arePeople_is hq _ _ _ _ _ l0 (r1.later hb1) l1).mono ?_; rintro e w2 ⟨rfl, rfl⟩))
    go_ret2
    exact ⟨by simp [upV, HG.out], hb1⟩
  have hg : goodP L P = true := by simp [goodP, hs, hq]
  have HS := hide hs; have HQ := hide hq; clear hs hq
  obtain ⟨hp1, hp6, hpl⟩ := goodP_len hg
  have HG := hide hg; clear hg
  go_enter Try.func33, Try.ntmps33
  go_wp2_with (first | (go_at_call 60; refine (isShortLine_is HS.out _ _ _ r0 ok0 l0).mono ?_; rintro e w1 ⟨rfl, hb1⟩) | (go_at_call 77; refine (arePeople_is HQ.out _ _ _ _ _ l0 (r1.later hb1) l1).mono ?_; rintro e w2 ⟨rfl, rfl⟩))
  go_loop [20, 6] (fun i m => ∃ k : Nat, k ≤ P.length ∧ i = .int .i64 k ∧ m = .int .i64 (P.take k).sum) (fun i _ => P.length - (intOf i).toNat)
  case atStart => exact ⟨0, Nat.zero_le _, rfl, by simp⟩
  case round =>
    obtain ⟨k, hk, rfl, rfl⟩ := hrel
    obtain ⟨sb0, sb1⟩ := sum_bd HG.out k
    by_cases hlt : k < P.length
    · obtain ⟨b, o, rfl, _, hc⟩ := rd_int r1 (by intro h; rw [h] at hlt; simp at hlt)
      have hget := List.getElem?_eq_getElem hlt
      have x0 := below_cell hb1 (hc k _ hget)
      obtain ⟨nb0, nb1⟩ := goodP_bd HG.out hget
      have HS2 := hide (sum_step hget)
      generalize P[k] = n at *
      generalize (P.take k).sum = m at *
      have hki : (k : Int) < (P.length : Int) := by omega
      clear hc hget
      go_wp2_with fail
      go_round
      case rel => exact ⟨k + 1, by omega, by go_num, by rw [HS2.out]⟩
      case measure => simp [intOf]; omega
    · obtain rfl : k = P.length := by omega
      go_wp2_with fail
      go_ret2
      exact ⟨by simp [upV, HG.out], hb1⟩
set_option maxHeartbeats 1000000 in
theorem PeopleUp_spec (L : List Support) (P : List Int) (A0 A1 : Option Addr) (c0 c1 : Nat) (w : World) (r0 : Rd Support.enc 3 w.heap.size w A0 L) (ok0 : ∀ c ∈ L, c.Ok) (l0 : L.length ≤ maxLen) (r1 : Rd encI 1 w.heap.size w A1 P) (l1 : P.length ≤ maxLen) :
    Calls Try.prog 30 #[.slice A0 L.length c0, .slice A1 P.length c1] w fun e w' => e = .returned (.tuple #[.int .i64 (upV L P), .bool (goodP L P)]) ∧ Below w.heap.size w w' := by
  cases hg : goodP L P
  · have HG := hide hg; clear hg
    go_enter Try.func30, Try.ntmps30
    go_wp2_with (go_at_call 75; refine (l19People_is HG.out _ _ _ _ _ r0 ok0 l0 r1 l1).mono ?_; rintro e w1 ⟨rfl, hb1⟩)
    go_ret2
    exact ⟨by simp [upV, HG.out], hb1⟩
  obtain ⟨hp1, hp6, hpl⟩ := goodP_len hg
  have HG := hide hg; clear hg
  go_enter Try.func30, Try.ntmps30
  go_wp2_with (go_at_call 75; refine (l19People_is HG.out _ _ _ _ _ r0 ok0 l0 r1 l1).mono ?_; rintro e w1 ⟨rfl, hb1⟩)
  go_loop [7, 6] (fun i m => ∃ k : Nat, k ≤ P.length ∧ i = .int .i64 k ∧ m = .int .i64 (P.take k).sum) (fun i _ => P.length - (intOf i).toNat)
  case atStart => exact ⟨0, Nat.zero_le _, rfl, by simp⟩
  case round =>
    obtain ⟨k, hk, rfl, rfl⟩ := hrel
    obtain ⟨sb0, sb1⟩ := sum_bd HG.out k
    by_cases hlt : k < P.length
    · obtain ⟨b, o, rfl, _, hc⟩ := rd_int r1 (by intro h; rw [h] at hlt; simp at hlt)
      have hget := List.getElem?_eq_getElem hlt
      have x0 := below_cell hb1 (hc k _ hget)
      obtain ⟨nb0, nb1⟩ := goodP_bd HG.out hget
      have HS2 := hide (sum_step hget)
      generalize P[k] = n at *
      generalize (P.take k).sum = m at *
      have hki : (k : Int) < (P.length : Int) := by omega
      clear hc hget
      go_wp2_with fail
      go_round
      case rel => exact ⟨k + 1, by omega, by go_num, by rw [HS2.out]⟩
      case measure => simp [intOf]; omega
    · obtain rfl : k = P.length := by omega
      go_wp2_with fail
      go_ret2
      exact ⟨by simp [upV, HG.out], hb1⟩
set_option maxHeartbeats 1000000 in
theorem FullestSpan_any (L : List Support) (P : List Int) (A0 A1 : Option Addr) (c0 c1 : Nat) (w : World) (r0 : Rd Support.enc 3 w.heap.size w A0 L) (ok0 : ∀ c ∈ L, c.Ok) (l0 : L.length ≤ maxLen) (r1 : Rd encI 1 w.heap.size w A1 P) (l1 : P.length ≤ maxLen) :
    Calls Try.prog 40 #[.slice A0 L.length c0, .slice A1 P.length c1] w fun e w' => e = .returned (.tuple #[.int .i64 (fullV L P), .bool (goodP L P)]) ∧ Below w.heap.size w w' := by
  cases hs : shortB L
  · have HG := hide (show goodP L P = false by simp [goodP, hs])
    go_enter Try.func40, Try.ntmps40
    go_wp2_with (first | (go_at_call 60; refine (isShortLine_is hs _ _ _ r0 ok0 l0).mono ?_; rintro e w1 ⟨rfl, hb1⟩) | (go_at_call 77; refine (arePeople_is hs _ _ _ _ _ l0 (r1.later hb1) l1).mono ?_; rintro e w2 ⟨rfl, rfl⟩))
    go_ret2
    exact ⟨by simp [fullV, HG.out], hb1⟩
  cases hq : peopleB L P
  · have HG := hide (show goodP L P = false by simp [goodP, hq])
    have HS := hide hs; clear hs
    go_enter Try.func40, Try.ntmps40
    go_wp2_with (first | (go_at_call 60; refine (isShortLine_is HS.out _ _ _ r0 ok0 l0).mono ?_; rintro e w1 ⟨rfl, hb1⟩) | (go_at_call 77; refine (arePeople_is hq _ _ _ _ _ l0 (r1.later hb1) l1).mono ?_; rintro e w2 ⟨rfl, rfl⟩))
    go_ret2
    exact ⟨by simp [fullV, HG.out], hb1⟩
  have hg : goodP L P = true := by simp [goodP, hs, hq]
  have HS := hide hs; have HQ := hide hq; clear hs hq
  obtain ⟨hp1, hp6, hpl⟩ := goodP_len hg
  have HI := hide (full_idx hp1)
  have HG := hide hg; clear hg
  go_enter Try.func40, Try.ntmps40
  go_wp2_with (first | (first | (go_at_call 60; refine (isShortLine_is HS.out _ _ _ r0 ok0 l0).mono ?_; rintro e w1 ⟨rfl, hb1⟩) | (go_at_call 77; refine (arePeople_is HQ.out _ _ _ _ _ l0 (r1.later hb1) l1).mono ?_; rintro e w2 ⟨rfl, rfl⟩)) | (go_at_call 82; refine (MaxI_any P _ _ _ (r1.later hb1) hp1 (by omega)).mono ?_; rintro e w3 ⟨rfl, rfl⟩) | (go_at_call 81; refine (IndexI_is HI.out _ _ _ (r1.later hb1) (by omega)).mono ?_; rintro e w4 ⟨rfl, rfl⟩))
  go_ret2
  exact ⟨by simp [fullV, HG.out], hb1⟩
set_option maxHeartbeats 1000000 in
theorem FullestSpan_spec (L : List Support) (P : List Int) (A0 A1 : Option Addr) (c0 c1 : Nat) (w : World) (r0 : Rd Support.enc 3 w.heap.size w A0 L) (ok0 : ∀ c ∈ L, c.Ok) (l0 : L.length ≤ maxLen) (r1 : Rd encI 1 w.heap.size w A1 P) (l1 : P.length ≤ maxLen) :
    Calls Try.prog 39 #[.slice A0 L.length c0, .slice A1 P.length c1] w fun e w' => e = .returned (.tuple #[.int .i64 (fullV L P), .bool (goodP L P)]) ∧ Below w.heap.size w w' := by
  cases hg : goodP L P
  · have HG := hide hg; clear hg
    go_enter Try.func39, Try.ntmps39
    go_wp2_with (go_at_call 75; refine (l19People_is HG.out _ _ _ _ _ r0 ok0 l0 r1 l1).mono ?_; rintro e w1 ⟨rfl, hb1⟩)
    go_ret2
    exact ⟨by simp [fullV, HG.out], hb1⟩
  obtain ⟨hp1, hp6, hpl⟩ := goodP_len hg
  have HG := hide hg; clear hg
  go_enter Try.func39, Try.ntmps39
  go_wp2_with (go_at_call 75; refine (l19People_is HG.out _ _ _ _ _ r0 ok0 l0 r1 l1).mono ?_; rintro e w1 ⟨rfl, hb1⟩)
  go_loopw [7, 6] (fun i m wr => ∃ k : Nat, 1 ≤ k ∧ k ≤ P.length ∧ i = .int .i64 k ∧ m = .int .i64 (fullUp P k : Nat) ∧ Below w.heap.size w wr) (fun i _ _ => P.length - (intOf i).toNat)
  case atStart => exact ⟨1, Nat.le_refl _, hp1, rfl, by rw [fullUp_one]; rfl, hb1⟩
  case round =>
    obtain ⟨k, hk1, hk, rfl, rfl, hbel⟩ := hrel
    by_cases hlt : k < P.length
    · obtain ⟨b, o, rfl, _, hc⟩ := rd_int r1 (by intro h; rw [h] at hlt; simp at hlt)
      have hget := List.getElem?_eq_getElem hlt
      have hfl := fullUp_lt P k hk1
      have hgf := List.getElem?_eq_getElem (show fullUp P k < P.length by omega)
      have x0 := after_cell (below_cell hbel (hc k _ hget))
      have x1 := after_cell (below_cell hbel (hc (fullUp P k) _ hgf))
      have HS := hide (show fullUp P (k + 1) = if P[fullUp P k] < P[k] then k else fullUp P k by simp [fullUp, List.getD, hget, hgf])
      have hfk : (fullUp P k : Int) < (P.length : Int) := by omega
      have hki : (k : Int) < (P.length : Int) := by omega
      clear hgf hget hc
      generalize P[fullUp P k] = m at *
      generalize P[k] = n at *
      generalize fullUp P k = f at *
      by_cases hmn : m < n
      · have h2 : decide (m < n) = true := by simp; omega
        have HF := hide (show fullUp P (k + 1) = k by rw [HS.out, if_pos hmn])
        clear HS hmn
        go_wp2_with fail
        refine wp_region_after (by kernel_rfl) (by kernel_rfl) ?_
        repeat (go_big_quiet_step (fail))
        refine wpQuiet_nil ?_
        rintro w2 ⟨⟨_, hb2⟩, rfl⟩
        go_wp2_with fail
        go_roundw
        case rel => exact ⟨k + 1, by omega, by omega, by go_num, by rw [HF.out], below_step hbel hb2 (Nat.le_refl _)⟩
        case measure => simp [intOf]; omega
      · have h2 : decide (m < n) = false := by simp; omega
        have HF := hide (show fullUp P (k + 1) = f by rw [HS.out, if_neg hmn])
        clear HS hmn
        go_wp2_with fail
        refine wp_region_after (by kernel_rfl) (by kernel_rfl) ?_
        repeat (go_big_quiet_step (fail))
        refine wpQuiet_nil ?_
        rintro w2 ⟨⟨_, hb2⟩, rfl⟩
        go_wp2_with fail
        go_roundw
        case rel => exact ⟨k + 1, by omega, by omega, by go_num, by rw [HF.out], below_step hbel hb2 (Nat.le_refl _)⟩
        case measure => simp [intOf]; omega
    · obtain rfl : k = P.length := by omega
      go_wp2_with fail
      go_ret2
      exact ⟨by simp [fullV, HG.out], hbel⟩
end Go.Proofs.Ytgfamaopplgfgaa
