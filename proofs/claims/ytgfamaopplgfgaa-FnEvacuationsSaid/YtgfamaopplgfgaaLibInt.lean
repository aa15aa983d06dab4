/- The library's Index, Contains and Max at slices of numbers, and the reference's l1Has: each walked once. -/
import Derived.Test.YtgfamaopplgfgaaMark
namespace Go.Proofs.Ytgfamaopplgfgaa
open Go Go.RowKit
set_option linter.unusedVariables false
theorem any_no {l : List Int} {v : Int} {k : Nat} (h : l.length ≤ k) (hn : ∀ (j : Nat) (d : Int), j < k → l[j]? = some d → (d == v) = false) : l.any (fun d => d == v) = false := by
  rw [List.any_eq_false]
  intro x hx
  obtain ⟨j, hj, rfl⟩ := List.mem_iff_getElem.1 hx
  simpa using hn j _ (by omega) (List.getElem?_eq_getElem hj)
theorem any_hit {l : List Int} {v d : Int} {k : Nat} (h : l[k]? = some d) (hd : (d == v) = true) : l.any (fun d => d == v) = true := List.any_eq_true.2 ⟨d, List.mem_of_getElem? h, hd⟩
set_option maxHeartbeats 400000 in
theorem IndexI_any (l : List Int) (v : Int) (A : Option Addr) (cap : Nat) (w : World) (hr : Rd encI 1 w.heap.size w A l) (hl : l.length ≤ 1000000) :
    Calls Try.prog 81 #[.slice A l.length cap, .int .i64 v] w fun e w' => e = .returned (.int .i64 (idxF (fun d => d == v) l)) ∧ w = w' := by
  go_enter Try.func81, Try.ntmps81
  go_wp2_with fail
  go_loop [8] (fun i => ∃ k : Nat, k ≤ l.length ∧ i = .int .i64 k ∧ Hid (∀ (j : Nat) (d : Int), j < k → l[j]? = some d → (d == v) = false)) (fun i => l.length - (intOf i).toNat)
  case atStart => exact ⟨0, Nat.zero_le _, rfl, hide (fun j d hj => absurd hj (Nat.not_lt_zero j))⟩
  case round =>
    obtain ⟨k, hk, rfl, hn⟩ := hrel
    by_cases hlt : k < l.length
    · obtain ⟨b, o, rfl, _, hc⟩ := rd_int hr (by intro h; rw [h] at hlt; simp at hlt)
      have hg := List.getElem?_eq_getElem hlt
      have c0 := hc k _ hg
      generalize l[k] = n at *
      have HG := hide hg; clear hg hc hr
      have hki : (k : Int) < (l.length : Int) := by omega
      cases hv : (n == v)
      · have hv2 : (v == n) = false := by have h3 := hv; simp only [beq_eq_false_iff_ne, ne_eq] at h3 ⊢; exact fun e => h3 e.symm
        have HV := hide hv; clear hv
        go_wp2_with fail
        go_round
        case rel => exact ⟨k + 1, by omega, by go_num, hide (no_step (p := fun d => d == v) hn.out HG.out HV.out)⟩
        case measure => simp [intOf]; omega
      · have hv2 : (v == n) = true := by rw [show n = v by simpa using hv]; simp
        have HV := hide hv; clear hv
        go_wp2_with fail
        go_ret
        exact ⟨ret_int (idxF_hit (p := fun d => d == v) HG.out HV.out hn.out).symm, rfl⟩
    · obtain rfl : k = l.length := by omega
      go_wp2_with fail
      go_ret
      exact ⟨ret_int (idxF_none (p := fun d => d == v) hn.out).symm, rfl⟩
theorem IndexI_is {l : List Int} {v z : Int} (h : idxF (fun d => d == v) l = z) (A : Option Addr) (cap : Nat) (w : World) (hr : Rd encI 1 w.heap.size w A l) (hl : l.length ≤ 1000000) :
    Calls Try.prog 81 #[.slice A l.length cap, .int .i64 v] w fun e w' => e = .returned (.int .i64 z) ∧ w = w' := h ▸ IndexI_any l v A cap w hr hl
theorem ContainsI_any (l : List Int) (v : Int) (A : Option Addr) (cap : Nat) (w : World) (hr : Rd encI 1 w.heap.size w A l) (hl : l.length ≤ 1000000) :
    Calls Try.prog 70 #[.slice A l.length cap, .int .i64 v] w fun e w' => e = .returned (.bool (l.any fun d => d == v)) ∧ w = w' := by
  rcases idxF_cases (fun d => d == v) l with ⟨h1, h2⟩ | ⟨k, c, h1, hk, _, _, h2, _⟩
  · have H1 := hide h1; clear h1
    go_enter Try.func70, Try.ntmps70
    go_wp2_with (go_at_call 81; refine (IndexI_is H1.out _ _ _ hr hl).mono ?_; rintro e w1 ⟨rfl, rfl⟩)
    go_ret
    exact ⟨ret_bool h2.symm, rfl⟩
  · have H1 := hide h1; clear h1
    have hk0 : (0 : Int) ≤ (k : Int) := by omega
    go_enter Try.func70, Try.ntmps70
    go_wp2_with (go_at_call 81; refine (IndexI_is H1.out _ _ _ hr hl).mono ?_; rintro e w1 ⟨rfl, rfl⟩)
    go_ret
    exact ⟨ret_bool h2.symm, rfl⟩
theorem ContainsI_is {l : List Int} {v : Int} {b : Bool} (h : (l.any fun d => d == v) = b) (A : Option Addr) (cap : Nat) (w : World) (hr : Rd encI 1 w.heap.size w A l) (hl : l.length ≤ 1000000) :
    Calls Try.prog 70 #[.slice A l.length cap, .int .i64 v] w fun e w' => e = .returned (.bool b) ∧ w = w' := h ▸ ContainsI_any l v A cap w hr hl
set_option maxHeartbeats 400000 in
theorem l1Has_any (l : List Int) (v : Int) (A : Option Addr) (cap : Nat) (w : World) (hr : Rd encI 1 w.heap.size w A l) (hl : l.length ≤ 1000000) :
    Calls Try.prog 71 #[.slice A l.length cap, .int .i64 v] w fun e w' => e = .returned (.bool (l.any fun d => d == v)) ∧ w = w' := by
  go_enter Try.func71, Try.ntmps71
  go_wp2_with fail
  go_loop [5] (fun i => ∃ k : Nat, k ≤ l.length ∧ i = .int .i64 k ∧ Hid (∀ (j : Nat) (d : Int), j < k → l[j]? = some d → (d == v) = false)) (fun i => l.length - (intOf i).toNat)
  case atStart => exact ⟨0, Nat.zero_le _, rfl, hide (fun j d hj => absurd hj (Nat.not_lt_zero j))⟩
  case round =>
    obtain ⟨k, hk, rfl, hn⟩ := hrel
    by_cases hlt : k < l.length
    · obtain ⟨b, o, rfl, _, hc⟩ := rd_int hr (by intro h; rw [h] at hlt; simp at hlt)
      have hg := List.getElem?_eq_getElem hlt
      have c0 := hc k _ hg
      generalize l[k] = n at *
      have HG := hide hg; clear hg hc hr
      have hki : (k : Int) < (l.length : Int) := by omega
      cases hv : (n == v)
      · have HV := hide hv
        go_wp2_with fail
        go_round
        case rel => exact ⟨k + 1, by omega, by go_num, hide (no_step (p := fun d => d == v) hn.out HG.out HV.out)⟩
        case measure => simp [intOf]; omega
      · have HV := hide hv
        go_wp2_with fail
        go_ret
        exact ⟨ret_bool (any_hit HG.out HV.out).symm, rfl⟩
    · go_wp2_with fail
      go_ret
      exact ⟨ret_bool (any_no (by omega) hn.out).symm, rfl⟩
theorem l1Has_is {l : List Int} {v : Int} {b : Bool} (h : (l.any fun d => d == v) = b) (A : Option Addr) (cap : Nat) (w : World) (hr : Rd encI 1 w.heap.size w A l) (hl : l.length ≤ 1000000) :
    Calls Try.prog 71 #[.slice A l.length cap, .int .i64 v] w fun e w' => e = .returned (.bool b) ∧ w = w' := h ▸ l1Has_any l v A cap w hr hl
/- the place of the greatest number, the first of them -/
def fullUp (P : List Int) : Nat → Nat
  | 0 => 0
  | k + 1 => if P.getD (fullUp P k) 0 < P.getD k 0 then k else fullUp P k
theorem fullUp_one (P : List Int) : fullUp P 1 = 0 := by simp [fullUp]
theorem fullUp_lt (P : List Int) : ∀ k, 1 ≤ k → fullUp P k < k
  | 0, h => by omega
  | k + 1, _ => by
    unfold fullUp
    split
    · omega
    · rcases Nat.eq_zero_or_pos k with rfl | h
      · simp [fullUp]
      · have := fullUp_lt P k h; omega
theorem fullUp_best (P : List Int) : ∀ k, ∀ j, j < k → P.getD j 0 ≤ P.getD (fullUp P k) 0 ∧ (j < fullUp P k → P.getD j 0 < P.getD (fullUp P k) 0)
  | 0, j, h => by omega
  | k + 1, j, h => by
    unfold fullUp
    rcases Nat.lt_or_eq_of_le (Nat.lt_succ_iff.1 h) with h1 | rfl
    · have ih := fullUp_best P k j h1
      split
      · omega
      · exact ih
    · split
      · omega
      · rename_i hn
        refine ⟨by omega, fun h2 => ?_⟩
        rcases Nat.eq_zero_or_pos j with rfl | hj
        · simp [fullUp] at h2
        · have := fullUp_lt P j hj; omega
theorem full_idx {P : List Int} (h : 1 ≤ P.length) : idxF (fun d => d == P.getD (fullUp P P.length) 0) P = (fullUp P P.length : Nat) := by
  have hlt := fullUp_lt P P.length h
  refine idxF_hit (c := P[fullUp P P.length]) (List.getElem?_eq_getElem hlt) (by simp [List.getD, List.getElem?_eq_getElem hlt]) (fun j d hj hd => ?_)
  have := (fullUp_best P P.length j (by omega)).2 hj
  simp only [List.getD, hd, Option.getD_some] at this
  simp
  rw [List.getElem?_eq_getElem hlt] at *
  simp at this ⊢
  omega
set_option maxHeartbeats 400000 in
theorem MaxI_any (P : List Int) (A : Option Addr) (cap : Nat) (w : World) (hr : Rd encI 1 w.heap.size w A P) (h1 : 1 ≤ P.length) (hl : P.length ≤ 1000000) :
    Calls Try.prog 82 #[.slice A P.length cap] w fun e w' => e = .returned (.int .i64 (P.getD (fullUp P P.length) 0)) ∧ w = w' := by
  obtain ⟨b, o, rfl, _, hc⟩ := rd_int hr (by intro h; rw [h] at h1; simp at h1)
  have g0 := hc 0 _ (List.getElem?_eq_getElem (show 0 < P.length by omega))
  have H0 := hide (show P.getD (fullUp P 1) 0 = P[0] by rw [fullUp_one]; simp [List.getD, List.getElem?_eq_getElem (show 0 < P.length by omega)])
  rw [Nat.add_zero] at g0
  have h1' : (1 : Int) ≤ (P.length : Int) := by omega
  generalize P[0] = p0 at *
  go_enter Try.func82, Try.ntmps82
  go_wp2_with fail
  go_loop [4, 3] (fun i m => ∃ k : Nat, 1 ≤ k ∧ k ≤ P.length ∧ i = .int .i64 k ∧ m = .int .i64 (P.getD (fullUp P k) 0)) (fun i _ => P.length - (intOf i).toNat)
  case atStart => exact ⟨1, Nat.le_refl _, h1, rfl, by rw [H0.out]⟩
  case round =>
    clear g0 H0
    obtain ⟨k, hk1, hk, rfl, rfl⟩ := hrel
    by_cases hlt : k < P.length
    · have hg := List.getElem?_eq_getElem hlt
      have c0 := hc k _ hg
      have HS := hide (show P.getD (fullUp P (k + 1)) 0 = max (P.getD (fullUp P k) 0) P[k] by
        have : P.getD k 0 = P[k] := by simp [List.getD, hg]
        rw [← this]
        simp only [fullUp]
        split <;> omega)
      generalize P.getD (fullUp P k) 0 = m at *
      generalize P[k] = n at *
      clear hc hg hr
      have hki : (k : Int) < (P.length : Int) := by omega
      by_cases hmn : m < n
      · go_wp2_with fail
        go_round
        case rel => exact ⟨k + 1, by omega, by omega, by go_num, by rw [HS.out] <;> first | rfl | (congr 1; omega)⟩
        case measure => simp [intOf]; omega
      · go_wp2_with fail
        go_round
        case rel => exact ⟨k + 1, by omega, by omega, by go_num, by rw [HS.out] <;> first | rfl | (congr 1; omega)⟩
        case measure => simp [intOf]; omega
    · obtain rfl : k = P.length := by omega
      go_wp2_with fail
      go_ret
      exact ⟨rfl, rfl⟩
end Go.Proofs.Ytgfamaopplgfgaa
