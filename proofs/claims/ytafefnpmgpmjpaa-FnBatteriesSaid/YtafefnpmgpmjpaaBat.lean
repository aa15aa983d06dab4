/- Batteries and loads: both packages. -/
import Derived.Test.YtafefnpmgpmjpaaStBattery
import Derived.Test.YtafefnpmgpmjpaaCons
namespace Go.Proofs.Ytafefnpmgpmjpaa
open Go Go.RowKit
set_option linter.unusedVariables false
def batB (b : Battery) : Bool := inB b.capacity 1 1000000 && (inB b.charge 0 b.capacity && inB b.most 1 1000000)
def movedB (b : Battery) (watts minutes : Int) : Bool := batB b && (inB watts 0 1000000 && inB minutes 0 10000)
def energyI (watts minutes : Int) : Int := (watts * minutes + 59) / 60
def takenB (b : Battery) (watts minutes : Int) : Bool := !(decide (b.most < watts) || decide (b.charge < energyI watts minutes))
theorem batB_bd {b : Battery} (h : batB b = true) : (1 ≤ b.capacity ∧ b.capacity ≤ 1000000) ∧ (0 ≤ b.charge ∧ b.charge ≤ b.capacity) ∧ (1 ≤ b.most ∧ b.most ≤ 1000000) := by
  simp only [batB, Bool.and_eq_true, inB_iff] at h; exact h
theorem prod_bd {a b m n : Int} (h0 : 0 ≤ a) (h1 : a ≤ m) (h2 : 0 ≤ b) (h3 : b ≤ n) : 0 ≤ a * b ∧ a * b ≤ m * n :=
  ⟨Int.mul_nonneg h0 h2, Int.mul_le_mul h1 h3 h2 (Int.le_trans h0 h1)⟩
theorem energy_bd {watts minutes : Int} (h0 : 0 ≤ watts) (h1 : watts ≤ 8000000) (h2 : 0 ≤ minutes) (h3 : minutes ≤ 10000) : 0 ≤ energyI watts minutes ∧ energyI watts minutes ≤ 2000000000 := by
  have := prod_bd h0 h1 h2 h3
  unfold energyI
  omega

theorem IsBattery_any (b : Battery) (w : World) :
    Calls Try.prog 23 #[.agg #[.int .i64 b.capacity, .int .i64 b.charge, .int .i64 b.most]] w fun e w' => e = .returned (.bool (batB b)) ∧ Below w.heap.size w w' := by
  cases h0 : inB b.capacity 1 1000000
  · have HB := hide (show batB b = false by simp [batB, h0])
    go_enter Try.func23, Try.ntmps23
    go_wp2_with (first | (go_at_call 60; refine (within_is (by assumption) _).mono ?_; rintro e w' ⟨rfl, rfl⟩))
    go_ret
    exact ⟨ret_bool HB.out.symm, (Below.refl _ _).alloc (Nat.le_refl _) _⟩
  cases h1 : inB b.charge 0 b.capacity
  · have HB := hide (show batB b = false by simp [batB, h1])
    go_enter Try.func23, Try.ntmps23
    go_wp2_with (first | (go_at_call 60; refine (within_is (by assumption) _).mono ?_; rintro e w' ⟨rfl, rfl⟩))
    go_ret
    exact ⟨ret_bool HB.out.symm, (Below.refl _ _).alloc (Nat.le_refl _) _⟩
  cases h2 : inB b.most 1 1000000
  · have HB := hide (show batB b = false by simp [batB, h2])
    go_enter Try.func23, Try.ntmps23
    go_wp2_with (first | (go_at_call 60; refine (within_is (by assumption) _).mono ?_; rintro e w' ⟨rfl, rfl⟩))
    go_ret
    exact ⟨ret_bool HB.out.symm, (Below.refl _ _).alloc (Nat.le_refl _) _⟩
  have HB := hide (show batB b = true by simp [batB, h0, h1, h2])
  go_enter Try.func23, Try.ntmps23
  go_wp2_with (first | (go_at_call 60; refine (within_is (by assumption) _).mono ?_; rintro e w' ⟨rfl, rfl⟩))
  go_ret
  exact ⟨ret_bool HB.out.symm, (Below.refl _ _).alloc (Nat.le_refl _) _⟩
theorem IsBattery_is {b : Battery} {r : Bool} (h : batB b = r) (w : World) : Calls Try.prog 23 #[.agg #[.int .i64 b.capacity, .int .i64 b.charge, .int .i64 b.most]] w fun e w' => e = .returned (.bool r) ∧ Below w.heap.size w w' := h ▸ IsBattery_any b w
theorem l18Battery_any (b : Battery) (w : World) :
    Calls Try.prog 45 #[.agg #[.int .i64 b.capacity, .int .i64 b.charge, .int .i64 b.most]] w fun e w' => e = .returned (.bool (batB b)) ∧ Below w.heap.size w w' := by
  cases h0 : inB b.capacity 1 1000000
  · have HB := hide (show batB b = false by simp [batB, h0])
    go_enter Try.func45, Try.ntmps45
    go_wp2_with (first | (go_at_call 58; refine (l1In_is (by assumption) _).mono ?_; rintro e w' ⟨rfl, rfl⟩) | (go_at_call 81; refine (l18Watts_is (by assumption) _).mono ?_; rintro e w' ⟨rfl, rfl⟩))
    go_ret
    exact ⟨ret_bool HB.out.symm, (Below.refl _ _).alloc (Nat.le_refl _) _⟩
  cases h1 : inB b.charge 0 b.capacity
  · have HB := hide (show batB b = false by simp [batB, h1])
    go_enter Try.func45, Try.ntmps45
    go_wp2_with (first | (go_at_call 58; refine (l1In_is (by assumption) _).mono ?_; rintro e w' ⟨rfl, rfl⟩) | (go_at_call 81; refine (l18Watts_is (by assumption) _).mono ?_; rintro e w' ⟨rfl, rfl⟩))
    go_ret
    exact ⟨ret_bool HB.out.symm, (Below.refl _ _).alloc (Nat.le_refl _) _⟩
  cases h2 : inB b.most 1 1000000
  · have HB := hide (show batB b = false by simp [batB, h2])
    go_enter Try.func45, Try.ntmps45
    go_wp2_with (first | (go_at_call 58; refine (l1In_is (by assumption) _).mono ?_; rintro e w' ⟨rfl, rfl⟩) | (go_at_call 81; refine (l18Watts_is (by assumption) _).mono ?_; rintro e w' ⟨rfl, rfl⟩))
    go_ret
    exact ⟨ret_bool HB.out.symm, (Below.refl _ _).alloc (Nat.le_refl _) _⟩
  have HB := hide (show batB b = true by simp [batB, h0, h1, h2])
  go_enter Try.func45, Try.ntmps45
  go_wp2_with (first | (go_at_call 58; refine (l1In_is (by assumption) _).mono ?_; rintro e w' ⟨rfl, rfl⟩) | (go_at_call 81; refine (l18Watts_is (by assumption) _).mono ?_; rintro e w' ⟨rfl, rfl⟩))
  go_ret
  exact ⟨ret_bool HB.out.symm, (Below.refl _ _).alloc (Nat.le_refl _) _⟩
theorem l18Battery_is {b : Battery} {r : Bool} (h : batB b = r) (w : World) : Calls Try.prog 45 #[.agg #[.int .i64 b.capacity, .int .i64 b.charge, .int .i64 b.most]] w fun e w' => e = .returned (.bool r) ∧ Below w.heap.size w w' := h ▸ l18Battery_any b w
theorem l18Minutes_any (n : Int) (w : World) : Calls Try.prog 46 #[.int .i64 n] w fun e w' => e = .returned (.bool (inB n 0 10000)) ∧ w = w' := by
  go_enter Try.func46, Try.ntmps46
  go_wp2_with (go_at_call 58; refine (l1In_any _ _ _ _).mono ?_; rintro e w' ⟨rfl, rfl⟩)
  go_ret
  exact ⟨rfl, rfl⟩
theorem l18Minutes_is {n : Int} {b : Bool} (h : inB n 0 10000 = b) (w : World) : Calls Try.prog 46 #[.int .i64 n] w fun e w' => e = .returned (.bool b) ∧ w = w' := h ▸ l18Minutes_any n w
theorem l18Energy_any (a m : Int) (w : World) (h0 : 0 ≤ a) (h1 : a ≤ 8000000) (h2 : 0 ≤ m) (h3 : m ≤ 10000) : Calls Try.prog 48 #[.int .i64 a, .int .i64 m] w fun e w' => e = .returned (.int .i64 (energyI a m)) ∧ w = w' := by
  obtain ⟨p0, p1⟩ := prod_bd h0 h1 h2 h3
  have HE := hide (show energyI a m = (a * m + 59) / 60 from rfl)
  go_enter Try.func48, Try.ntmps48
  go_wp2
  go_ret
  exact ⟨ret_int HE.out.symm, rfl⟩
theorem l18Energy_is {a m e0 : Int} (h : energyI a m = e0) (w : World) (h0 : 0 ≤ a) (h1 : a ≤ 8000000) (h2 : 0 ≤ m) (h3 : m ≤ 10000) : Calls Try.prog 48 #[.int .i64 a, .int .i64 m] w fun e w' => e = .returned (.int .i64 e0) ∧ w = w' := h ▸ l18Energy_any a m w h0 h1 h2 h3
theorem isMoved_any (b : Battery) (watts minutes : Int) (w : World) :
    Calls Try.prog 50 #[.agg #[.int .i64 b.capacity, .int .i64 b.charge, .int .i64 b.most], .int .i64 watts, .int .i64 minutes] w fun e w' => e = .returned (.bool (movedB b watts minutes)) ∧ Below w.heap.size w w' := by
  cases h : batB b
  · go_enter Try.func50, Try.ntmps50
    go_wp2_with (go_at_call 23; refine (IsBattery_is h _).mono ?_; rintro e w1 ⟨rfl, hb1⟩)
    go_ret
    exact ⟨ret_bool (by simp [movedB, h]), below_new' hb1⟩
  · have H := hide h; clear h
    cases h1 : inB watts 0 1000000
    · go_enter Try.func50, Try.ntmps50
      go_wp2_with (first | (go_at_call 23; refine (IsBattery_is H.out _).mono ?_; rintro e w1 ⟨rfl, hb1⟩) | (go_at_call 60; refine (within_is (by assumption) _).mono ?_; rintro e w2 ⟨rfl, rfl⟩))
      go_ret
      exact ⟨ret_bool (by simp [movedB, h1]), below_new' hb1⟩
    · cases h2 : inB minutes 0 10000
      all_goals
        go_enter Try.func50, Try.ntmps50
        go_wp2_with (first | (go_at_call 23; refine (IsBattery_is H.out _).mono ?_; rintro e w1 ⟨rfl, hb1⟩) | (go_at_call 60; refine (within_is (by assumption) _).mono ?_; rintro e w2 ⟨rfl, rfl⟩))
        go_ret
        exact ⟨ret_bool (by simp [movedB, H.out, h1, h2]), below_new' hb1⟩
theorem isMoved_is {b : Battery} {watts minutes : Int} {r : Bool} (h : movedB b watts minutes = r) (w : World) : Calls Try.prog 50 #[.agg #[.int .i64 b.capacity, .int .i64 b.charge, .int .i64 b.most], .int .i64 watts, .int .i64 minutes] w fun e w' => e = .returned (.bool r) ∧ Below w.heap.size w w' := h ▸ isMoved_any b watts minutes w
set_option maxHeartbeats 1000000 in
theorem takenOut_no (b : Battery) (watts minutes : Int) (w : World) (hb : batB b = true) (h0 : 0 ≤ watts) (h1 : watts ≤ 8000000) (h2 : 0 ≤ minutes) (h3 : minutes ≤ 10000) (h : takenB b watts minutes = false) :
    Calls Try.prog 51 #[.agg #[.int .i64 b.capacity, .int .i64 b.charge, .int .i64 b.most], .int .i64 watts, .int .i64 minutes] w fun e w' => e = .returned (.tuple #[.agg #[.int .i64 0, .int .i64 0, .int .i64 0], .bool false]) ∧ Below w.heap.size w w' := by
  obtain ⟨⟨a0, a1⟩, ⟨b0, b1⟩, c0, c1⟩ := batB_bd hb
  obtain ⟨p0, p1⟩ := prod_bd h0 h1 h2 h3
  have hor : b.most < watts ∨ b.charge < energyI watts minutes := by simp only [takenB, Bool.not_eq_false', Bool.or_eq_true, decide_eq_true_eq] at h; exact h
  unfold energyI at hor
  by_cases hm : b.most < watts
  all_goals
    go_enter Try.func51, Try.ntmps51
    go_wp2_with fail
    refine bodyPost_ret (v := .tuple #[.agg #[.int .i64 0, .int .i64 0, .int .i64 0], .bool false]) (by simp [results, Try.results51, go_sem]) rfl ⟨rfl, ?_⟩
    exact ((Below.refl _ _).alloc (Nat.le_refl _) _).alloc (by simp) _
set_option maxHeartbeats 1000000 in
theorem takenOut_yes (b : Battery) (watts minutes : Int) (w : World) (hb : batB b = true) (h0 : 0 ≤ watts) (h1 : watts ≤ 8000000) (h2 : 0 ≤ minutes) (h3 : minutes ≤ 10000) (h : takenB b watts minutes = true) :
    Calls Try.prog 51 #[.agg #[.int .i64 b.capacity, .int .i64 b.charge, .int .i64 b.most], .int .i64 watts, .int .i64 minutes] w fun e w' => e = .returned (.tuple #[.agg #[.int .i64 b.capacity, .int .i64 (b.charge - energyI watts minutes), .int .i64 b.most], .bool true]) ∧ Below w.heap.size w w' := by
  obtain ⟨⟨a0, a1⟩, ⟨b0, b1⟩, c0, c1⟩ := batB_bd hb
  obtain ⟨p0, p1⟩ := prod_bd h0 h1 h2 h3
  have hor : watts ≤ b.most ∧ energyI watts minutes ≤ b.charge := by simp only [takenB, Bool.not_eq_true', Bool.or_eq_false_iff, decide_eq_false_iff_not] at h; omega
  unfold energyI at hor
  obtain ⟨hm, hc⟩ := hor
  have HE := hide (show energyI watts minutes = (watts * minutes + 59) / 60 from rfl)
  go_enter Try.func51, Try.ntmps51
  go_wp2_with fail
  refine bodyPost_ret (v := .tuple #[.agg #[.int .i64 b.capacity, .int .i64 (b.charge - (watts * minutes + 59) / 60), .int .i64 b.most], .bool true]) (by simp [results, Try.results51, go_sem]) rfl ⟨by rw [HE.out], ?_⟩
  exact ((Below.refl _ _).alloc (Nat.le_refl _) _).alloc (by simp) _
/- loads -/
def loadUp (L : List Consumer) (rank : Int) : Nat → Int
  | 0 => 0
  | k + 1 => loadUp L rank k + (match L[k]? with
    | some c => if c.rank ≤ rank then c.watts else 0
    | none => 0)
def loadI (L : List Consumer) (rank : Int) : Int := loadUp L rank L.length
theorem loadUp_bd {L : List Consumer} (rank : Int) (h : consB L = true) : ∀ k, 0 ≤ loadUp L rank k ∧ loadUp L rank k ≤ 1000000 * k
  | 0 => by simp [loadUp]
  | k + 1 => by
    have ih := loadUp_bd rank h k
    unfold loadUp
    cases hk : L[k]? with
    | none => simp only; omega
    | some c =>
      have := consB_one h hk
      simp only
      split <;> omega
theorem loadI_bd {L : List Consumer} (rank : Int) (h : consB L = true) : 0 ≤ loadI L rank ∧ loadI L rank ≤ 8000000 := by
  have := loadUp_bd rank h L.length
  have := consB_len h
  unfold loadI
  omega
theorem loadUp_yes {L : List Consumer} {rank : Int} {k : Nat} {c : Consumer} (hk : L[k]? = some c) (h : c.rank ≤ rank) : loadUp L rank (k + 1) = loadUp L rank k + c.watts := by simp [loadUp, hk, h]
theorem loadUp_no {L : List Consumer} {rank : Int} {k : Nat} {c : Consumer} (hk : L[k]? = some c) (h : ¬ c.rank ≤ rank) : loadUp L rank (k + 1) = loadUp L rank k := by simp [loadUp, hk, h]
set_option maxHeartbeats 1000000 in
theorem emergencyLoad_any (L : List Consumer) (rank : Int) (A : Option Addr) (cap : Nat) (w : World) (hg : consB L = true) (hr : Rd Consumer.enc 3 w.heap.size w A L) :
    Calls Try.prog 52 #[.slice A L.length cap, .int .i64 rank] w fun e w' => e = .returned (.int .i64 (loadI L rank)) ∧ Below w.heap.size w w' := by
  have hlen := consB_len hg
  have HG := hide hg; clear hg
  go_enter Try.func52, Try.ntmps52
  go_wp2_with fail
  go_loopw [10, 5] (fun i m wr => ∃ k : Nat, k ≤ L.length ∧ i = .int .i64 k ∧ m = .int .i64 (loadUp L rank k) ∧ Below w.heap.size w wr) (fun i _ _ => L.length - (intOf i).toNat)
  case atStart => exact ⟨0, Nat.zero_le _, rfl, rfl, Below.refl _ _⟩
  case round =>
    obtain ⟨k, hk, rfl, rfl, hbel⟩ := hrel
    obtain ⟨b0, b1⟩ := loadUp_bd rank HG.out k
    by_cases hlt : k < L.length
    · obtain ⟨b, o, rfl, hb, hc⟩ := Consumer.rd_at hr (by intro h; subst h; simp at hlt)
      have hget := List.getElem?_eq_getElem hlt
      obtain ⟨x0, x1, x2⟩ := hc k _ hget
      obtain ⟨⟨cw0, cw1⟩, _⟩ := consB_one HG.out hget
      have HY := hide (@loadUp_yes L rank k _ hget); have HN := hide (@loadUp_no L rank k _ hget)
      generalize L[k] = c at *
      generalize loadUp L rank k = m at *
      replace x0 := below_cell hbel x0
      replace x1 := below_cell hbel x1
      replace x2 := below_cell hbel x2
      have hki : (k : Int) < (L.length : Int) := by omega
      clear hget hc
      by_cases hcr : c.rank ≤ rank
      · have HC := hide hcr
        go_wp2_with fail
        go_roundw
        case rel => exact ⟨k + 1, by omega, by go_num, by rw [HY.out HC.out], hbel.alloc hbel.size _⟩
        case measure => simp [intOf]; omega
      · have HC := hide (show ¬ c.rank ≤ rank from hcr)
        go_wp2_with fail
        go_roundw
        case rel => exact ⟨k + 1, by omega, by go_num, by rw [HN.out (by have := HC.out; omega)], hbel.alloc hbel.size _⟩
        case measure => simp [intOf]; omega
    · obtain rfl : k = L.length := by omega
      go_wp2_with fail
      go_ret
      exact ⟨rfl, hbel⟩
theorem emergencyLoad_is {L : List Consumer} {rank v : Int} (h : loadI L rank = v) (A : Option Addr) (cap : Nat) (w : World) (hg : consB L = true) (hr : Rd Consumer.enc 3 w.heap.size w A L) :
    Calls Try.prog 52 #[.slice A L.length cap, .int .i64 rank] w fun e w' => e = .returned (.int .i64 v) ∧ Below w.heap.size w w' := h ▸ emergencyLoad_any L rank A cap w hg hr
set_option maxHeartbeats 1000000 in
theorem l18Load_any (L : List Consumer) (rank : Int) (A : Option Addr) (cap : Nat) (w : World) (hg : consB L = true) (hr : Rd Consumer.enc 3 w.heap.size w A L) :
    Calls Try.prog 47 #[.slice A L.length cap, .int .i64 rank] w fun e w' => e = .returned (.int .i64 (loadI L rank)) ∧ Below w.heap.size w w' := by
  have hlen := consB_len hg
  have HG := hide hg; clear hg
  go_enter Try.func47, Try.ntmps47
  go_wp2_with fail
  go_loopw [6, 5] (fun i m wr => ∃ k : Nat, k ≤ L.length ∧ i = .int .i64 k ∧ m = .int .i64 (loadUp L rank k) ∧ Below w.heap.size w wr) (fun i _ _ => L.length - (intOf i).toNat)
  case atStart => exact ⟨0, Nat.zero_le _, rfl, rfl, Below.refl _ _⟩
  case round =>
    obtain ⟨k, hk, rfl, rfl, hbel⟩ := hrel
    obtain ⟨b0, b1⟩ := loadUp_bd rank HG.out k
    by_cases hlt : k < L.length
    · obtain ⟨b, o, rfl, hb, hc⟩ := Consumer.rd_at hr (by intro h; subst h; simp at hlt)
      have hget := List.getElem?_eq_getElem hlt
      obtain ⟨x0, x1, x2⟩ := hc k _ hget
      obtain ⟨⟨cw0, cw1⟩, _⟩ := consB_one HG.out hget
      have HY := hide (@loadUp_yes L rank k _ hget); have HN := hide (@loadUp_no L rank k _ hget)
      generalize L[k] = c at *
      generalize loadUp L rank k = m at *
      replace x0 := below_cell hbel x0
      replace x1 := below_cell hbel x1
      replace x2 := below_cell hbel x2
      have hki : (k : Int) < (L.length : Int) := by omega
      clear hget hc
      by_cases hcr : c.rank ≤ rank
      · have HC := hide hcr
        go_wp2_with fail
        go_roundw
        case rel => exact ⟨k + 1, by omega, by go_num, by rw [HY.out HC.out], hbel⟩
        case measure => simp [intOf]; omega
      · have HC := hide (show ¬ c.rank ≤ rank from hcr)
        go_wp2_with fail
        go_roundw
        case rel => exact ⟨k + 1, by omega, by go_num, by rw [HN.out (by have := HC.out; omega)], hbel⟩
        case measure => simp [intOf]; omega
    · obtain rfl : k = L.length := by omega
      go_wp2_with fail
      go_ret
      exact ⟨rfl, hbel⟩
theorem l18Load_is {L : List Consumer} {rank v : Int} (h : loadI L rank = v) (A : Option Addr) (cap : Nat) (w : World) (hg : consB L = true) (hr : Rd Consumer.enc 3 w.heap.size w A L) :
    Calls Try.prog 47 #[.slice A L.length cap, .int .i64 rank] w fun e w' => e = .returned (.int .i64 v) ∧ Below w.heap.size w w' := h ▸ l18Load_any L rank A cap w hg hr
end Go.Proofs.Ytafefnpmgpmjpaa
