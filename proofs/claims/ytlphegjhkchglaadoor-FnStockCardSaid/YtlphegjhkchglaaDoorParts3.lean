/- Parts: what all that is to be ordered costs, and the dearest part; the program's functions and the reference's. -/
import Derived.Test.YtlphegjhkchglaaDoorParts2
namespace Go.Proofs.YtlphegjhkchglaaDoor
open Go Go.RowKit
def costL (L : List Part) : Int := L.foldl (fun s c => s + missOf c * c.price) 0
def costV (L : List Part) : Int := if partsB L then costL L else 0
theorem cost_step {L : List Part} {k : Nat} {c : Part} (hk : L[k]? = some c) : costL (L.take (k + 1)) = costL (L.take k) + missOf c * c.price := by
  obtain ⟨hlt, rfl⟩ := List.getElem?_eq_some_iff.1 hk
  unfold costL; rw [take_snocL L k hlt, List.foldl_append]; rfl
theorem prod_bd {a b m n : Int} (h0 : 0 ≤ a) (h1 : a ≤ m) (h2 : 0 ≤ b) (h3 : b ≤ n) : 0 ≤ a * b ∧ a * b ≤ m * n :=
  ⟨Int.mul_nonneg h0 h2, Int.mul_le_mul h1 h3 h2 (Int.le_trans h0 h1)⟩
theorem miss_bd {L : List Part} (h : partsB L = true) {k : Nat} {c : Part} (hk : L[k]? = some c) : (0 ≤ missOf c ∧ missOf c ≤ 500) ∧ (0 ≤ missOf c * c.price ∧ missOf c * c.price ≤ 50000000) := by
  obtain ⟨h1, h2, _, h4⟩ := parts_bd h hk
  have h5 : 0 ≤ missOf c ∧ missOf c ≤ 500 := by unfold missOf; omega
  exact ⟨h5, prod_bd h5.1 h5.2 h4.1 h4.2⟩
theorem cost_bd {L : List Part} (h : partsB L = true) : ∀ k, k ≤ L.length → 0 ≤ costL (L.take k) ∧ costL (L.take k) ≤ 50000000 * k := by
  intro k
  induction k with
  | zero => intro _; simp [costL]
  | succ k ih =>
    intro hk
    have hg := List.getElem?_eq_getElem (show k < L.length by omega)
    have h1 := (miss_bd h hg).2
    have h2 := ih (by omega)
    rw [cost_step hg]
    omega

set_option maxHeartbeats 1000000 in
theorem CostOfAll_any (L : List Part) (A : Option Addr) (cap : Nat) (w : World) (hr : Rd Part.enc 5 w.heap.size w A L) (hok : ∀ c ∈ L, c.Ok) (hl : L.length ≤ maxLen) :
    Calls Tryd.prog 15 #[.slice A L.length cap] w fun e w' => e = .returned (.tuple #[.int .i64 (costV L), .bool (partsB L)]) ∧ Below w.heap.size w w' := by
  cases hg : partsB L
  · have HV := hide (show orderV L = [] by simp [orderV, hg])
    have HC := hide (show costV L = 0 by simp [costV, hg])
    have HG := hide hg; clear hg
    go_enter Tryd.func15, Tryd.ntmps15
    go_wp2_with (go_at_call 17; refine (ToOrder_any L _ _ _ hr hok hl).mono ?_; rw [HV.out, HG.out]; rintro e w1 ⟨A1', c1', rfl, ho, hb1⟩)
    go_loop [16, 6] (fun i x => i = .int .i64 0 ∧ x = .int .i64 0) (fun _ _ => 0)
    case atStart => exact ⟨rfl, rfl⟩
    case round =>
      obtain ⟨rfl, rfl⟩ := hrel
      go_wp2_with fail
      go_ret2
      exact ⟨by rw [HC.out]; rfl, hb1⟩
  · have hlen := riseB_len hg
    have HV := hide (show orderV L = orderL L by simp [orderV, hg])
    have HC := hide (show costV L = costL L by simp [costV, hg])
    have hol : (orderL L).length = L.length := by simp [orderL]
    have HG := hide hg; clear hg
    go_enter Tryd.func15, Tryd.ntmps15
    go_wp2_with (go_at_call 17; refine (ToOrder_any L _ _ _ hr hok hl).mono ?_; rw [HV.out, HG.out]; rintro e w1 ⟨A1', c1', rfl, ho, hb1⟩)
    go_loop [16, 6] (fun i x => ∃ k : Nat, k ≤ L.length ∧ i = .int .i64 k ∧ x = .int .i64 (costL (L.take k))) (fun i _ => L.length - (intOf i).toNat)
    case atStart => exact ⟨0, Nat.zero_le _, rfl, rfl⟩
    case round =>
      obtain ⟨k, hk, rfl, rfl⟩ := hrel
      by_cases hlt : k < L.length
      · obtain ⟨b, o, rfl, hb, hc⟩ := Part.rd_at hr (by intro h; subst h; simp at hlt)
        have hget := List.getElem?_eq_getElem hlt
        obtain ⟨c0, c1, c2, c3, c4⟩ := hc k _ hget
        have HS := hide (cost_step hget)
        obtain ⟨mb, pb⟩ := miss_bd HG.out hget
        have hcb := cost_bd HG.out k hk
        have hmg : (orderL L)[k]? = some (missOf L[k]) := by unfold orderL; rw [List.getElem?_map, hget]; rfl
        generalize L[k] = c at *
        obtain ⟨g, rfl, _, _⟩ := Own.lo_le ho (by omega)
        have m0 := own_int ho rfl hmg
        clear hc hr hget c0 c1 c2 c3 ho hmg
        replace c4 := below_cell hb1 c4
        have hki : (k : Int) < (L.length : Int) := by omega
        generalize costL (L.take k) = s at *
        generalize missOf c = m at *
        generalize hp : m * c.price = p at *
        have hw := hide (show IntKind.i64.wrap (m * c.price) = p by rw [hp, IntKind.wrap_i64]; omega)
        go_wp2_with fail
        go_round
        case rel => exact ⟨k + 1, by omega, by go_num, by rw [HS.out]⟩
        case measure => simp [intOf]; omega
      · obtain rfl : k = L.length := by omega
        rw [List.take_length]
        go_wp2_with fail
        go_ret2
        exact ⟨by rw [HC.out]; rfl, hb1⟩
set_option maxHeartbeats 1000000 in
theorem CostOfAll_spec (L : List Part) (A : Option Addr) (cap : Nat) (w : World) (hr : Rd Part.enc 5 w.heap.size w A L) (hok : ∀ c ∈ L, c.Ok) (hl : L.length ≤ maxLen) :
    Calls Tryd.prog 16 #[.slice A L.length cap] w fun e w' => e = .returned (.tuple #[.int .i64 (costV L), .bool (partsB L)]) ∧ Below w.heap.size w w' := by
  cases hg : partsB L
  · have HC := hide (show costV L = 0 by simp [costV, hg])
    have HG := hide hg; clear hg
    go_enter Tryd.func16, Tryd.ntmps16
    go_wp2_with (go_at_call 35; refine (l23Good_is HG.out _ _ _ hr hok hl).mono ?_; rintro e w1 ⟨rfl, hb1⟩)
    go_ret2
    exact ⟨by rw [HC.out]; rfl, hb1⟩
  · have hlen := riseB_len hg
    have HC := hide (show costV L = costL L by simp [costV, hg])
    have HG := hide hg; clear hg
    go_enter Tryd.func16, Tryd.ntmps16
    go_wp2_with (go_at_call 35; refine (l23Good_is HG.out _ _ _ hr hok hl).mono ?_; rintro e w1 ⟨rfl, hb1⟩)
    go_loopw [5, 4] (fun i x wr => ∃ k : Nat, k ≤ L.length ∧ i = .int .i64 k ∧ x = .int .i64 (costL (L.take k)) ∧ Below w.heap.size w wr) (fun i _ _ => L.length - (intOf i).toNat)
    case atStart => exact ⟨0, Nat.zero_le _, rfl, rfl, hb1⟩
    case round =>
      obtain ⟨k, hk, rfl, rfl, hbel⟩ := hrel
      by_cases hlt : k < L.length
      · obtain ⟨b, o, rfl, hb, hc⟩ := Part.rd_at hr (by intro h; subst h; simp at hlt)
        have hget := List.getElem?_eq_getElem hlt
        obtain ⟨c0, c1, c2, c3, c4⟩ := hc k _ hget
        have HS := hide (cost_step hget)
        obtain ⟨mb, pb⟩ := miss_bd HG.out hget
        obtain ⟨bd1, bd2, _, _⟩ := parts_bd HG.out hget
        have hcb := cost_bd HG.out k hk
        generalize L[k] = c at *
        have hm : missOf c = max 0 (c.least - c.have_) := by unfold missOf; omega
        clear hc hr hget c0 c3
        replace c1 := after_cell (below_cell hbel c1)
        replace c2 := after_cell (below_cell hbel c2)
        replace c4 := after_cell (below_cell hbel c4)
        have hki : (k : Int) < (L.length : Int) := by omega
        generalize costL (L.take k) = s at *
        go_wp2_with fail
        refine wp_region_after (by kernel_rfl) (by kernel_rfl) ?_
        repeat (go_big_quiet_step ((go_at_call 38; exact Calls.after_same (l1Most_any _ _ _))))
        refine wpQuiet_nil ?_
        rintro w2 ⟨⟨_, hb2⟩, rfl⟩
        go_wp2_with fail
        go_roundw
        case rel => exact ⟨k + 1, by omega, by go_num, by rw [HS.out, hm, Int.mul_comm]; rw [hm] at pb; congr 1; unfold wrap64; omega, below_step hbel hb2 (Nat.le_refl _)⟩
        case measure => simp [intOf]; omega
      · obtain rfl : k = L.length := by omega
        rw [List.take_length]
        go_wp2_with fail
        go_ret2
        exact ⟨by rw [HC.out]; rfl, hbel⟩
/- the dearest part -/
def dearStep (b p : Part) : Part := if b.price * b.have_ < p.price * p.have_ then p else b
def dearAt (L : List Part) (k : Nat) : Part := match L with
  | [] => ⟨⟨#[]⟩, 0, 0, 0, 0⟩
  | c :: _ => (L.take k).foldl dearStep c
def dearB (L : List Part) : Bool := partsB L && decide (L.length ≠ 0)
def dearN (L : List Part) : ByteArray := if dearB L then (dearAt L L.length).name else ⟨#[]⟩
def dearV (L : List Part) : Int := if dearB L then (dearAt L L.length).price * (dearAt L L.length).have_ else 0
theorem dear_zero {L : List Part} {c : Part} (h : L[0]? = some c) : dearAt L 0 = c := by
  cases L with
  | nil => simp at h
  | cons x r => simp at h; subst h; rfl
theorem dear_step {L : List Part} {k : Nat} {c : Part} (hk : L[k]? = some c) : dearAt L (k + 1) = dearStep (dearAt L k) c := by
  obtain ⟨hlt, rfl⟩ := List.getElem?_eq_some_iff.1 hk
  cases L with
  | nil => simp at hlt
  | cons x r => simp only [dearAt]; rw [take_snocL (x :: r) k hlt, List.foldl_append]; rfl
theorem dear_in {L : List Part} (hL : L.length ≠ 0) : ∀ k, k ≤ L.length → ∃ j : Nat, L[j]? = some (dearAt L k) := by
  intro k
  induction k with
  | zero =>
    intro _
    exact ⟨0, by rw [dear_zero (List.getElem?_eq_getElem (show 0 < L.length by omega))]; exact List.getElem?_eq_getElem _⟩
  | succ k ih =>
    intro hk
    have hg := List.getElem?_eq_getElem (show k < L.length by omega)
    obtain ⟨j, hj⟩ := ih (by omega)
    rw [dear_step hg]
    unfold dearStep
    split
    · exact ⟨k, hg⟩
    · exact ⟨j, hj⟩
theorem dear_bd {L : List Part} (h : partsB L = true) {j : Nat} {c : Part} (hj : L[j]? = some c) : 0 ≤ c.price * c.have_ ∧ c.price * c.have_ ≤ 50000000 := by
  obtain ⟨h1, _, _, h4⟩ := parts_bd h hj
  exact prod_bd h4.1 h4.2 h1.1 h1.2
end Go.Proofs.YtlphegjhkchglaaDoor
