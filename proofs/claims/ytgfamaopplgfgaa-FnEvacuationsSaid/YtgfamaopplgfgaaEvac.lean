/- CrewTime, EvacuationTime, IdleCrews: both packages. Slices are as the reader gives them. -/
import Derived.Test.YtgfamaopplgfgaaCrewT
import Derived.Test.YtgfamaopplgfgaaInts
namespace Go.Proofs.Ytgfamaopplgfgaa
open Go Go.RowKit
set_option linter.unusedVariables false
theorem crewTime_v {L : List Support} {C : List Crew} {P S : List Int} {crew : Nat} {v : Int} (h : crewT L C P S crew = v) (A0 A1 A2 A3 : Option Addr) (c0 c1 c2 c3 : Nat) (w : World) (ha : asB L C P S = true) (hcr : crew < C.length) (r0 : Rd Support.enc 3 w.heap.size w A0 L) (r1 : Rd Crew.enc 3 w.heap.size w A1 C) (r2 : Rd encI 1 w.heap.size w A2 P) (r3 : Rd encI 1 w.heap.size w A3 S) :
    Calls Try.prog 66 #[.agg #[.slice A0 L.length c0, .slice A1 C.length c1, .slice A2 P.length c2], .slice A3 S.length c3, .int .i64 crew] w fun e w' => e = .returned (.int .i64 v) ∧ Below w.heap.size w w' := h ▸ crewTime_any L C P S A0 A1 A2 A3 c0 c1 c2 c3 crew w ha hcr r0 r1 r2 r3
theorem l19Crew_v {L : List Support} {C : List Crew} {P S : List Int} {crew : Nat} {v : Int} (h : crewT L C P S crew = v) (A0 A1 A2 A3 : Option Addr) (c0 c1 c2 c3 : Nat) (w : World) (ha : asB L C P S = true) (hcr : crew < C.length) (r0 : Rd Support.enc 3 w.heap.size w A0 L) (r1 : Rd Crew.enc 3 w.heap.size w A1 C) (r2 : Rd encI 1 w.heap.size w A2 P) (r3 : Rd encI 1 w.heap.size w A3 S) :
    Calls Try.prog 74 #[.slice A0 L.length c0, .slice A1 C.length c1, .slice A2 P.length c2, .slice A3 S.length c3, .int .i64 crew] w fun e w' => e = .returned (.int .i64 v) ∧ Below w.heap.size w w' := h ▸ l19Crew_any L C P S A0 A1 A2 A3 c0 c1 c2 c3 crew w ha hcr r0 r1 r2 r3
def cttB (L : List Support) (C : List Crew) (P S : List Int) (crew : Int) : Bool := asB L C P S && inB crew 0 (C.length - 1)
def cttV (L : List Support) (C : List Crew) (P S : List Int) (crew : Int) : Int := if cttB L C P S crew then crewT L C P S crew.toNat else 0
def timeUp (L : List Support) (C : List Crew) (P S : List Int) : Nat → Int
  | 0 => 0
  | k + 1 => max (timeUp L C P S k) (crewT L C P S k)
def timeI (L : List Support) (C : List Crew) (P S : List Int) : Int := timeUp L C P S C.length
theorem timeUp_bd {L : List Support} {C : List Crew} {P S : List Int} (h : asB L C P S = true) : ∀ k, 0 ≤ timeUp L C P S k ∧ timeUp L C P S k ≤ 600000
  | 0 => by simp [timeUp]
  | k + 1 => by
    have := timeUp_bd h k
    have := crewT_bd h k
    unfold timeUp
    omega
def timeV (L : List Support) (C : List Crew) (P S : List Int) : Int := if asB L C P S then timeI L C P S else 0
def idleUp (S : List Int) (n : Nat) : List Int := ((List.range n).map fun i : Nat => (i : Int)).filter fun k => !(S.any fun d => d == k)
def idleV (L : List Support) (C : List Crew) (P S : List Int) : List Int := if asB L C P S then idleUp S C.length else []
theorem idleUp_yes {S : List Int} {n : Nat} (h : (S.any fun d => d == (n : Int)) = false) : idleUp S (n + 1) = idleUp S n ++ [(n : Int)] := by simp only [idleUp, List.range_succ, List.map_append, List.map_cons, List.map_nil, List.filter_append, List.filter_cons, List.filter_nil, h, Bool.not_false, if_true]
theorem idleUp_no {S : List Int} {n : Nat} (h : (S.any fun d => d == (n : Int)) = true) : idleUp S (n + 1) = idleUp S n := by simp only [idleUp, List.range_succ, List.map_append, List.map_cons, List.map_nil, List.filter_append, List.filter_cons, List.filter_nil, h, Bool.not_true, Bool.false_eq_true, if_false, List.append_nil]
theorem idleUp_len (S : List Int) (n : Nat) : (idleUp S n).length ≤ n := by
  have := List.length_filter_le (fun k => !(S.any fun d => d == k)) ((List.range n).map fun i : Nat => (i : Int))
  simp only [List.length_map, List.length_range] at this
  exact this
theorem idleV_len (L : List Support) (C : List Crew) (P S : List Int) : (idleV L C P S).length ≤ 3 := by
  unfold idleV
  split
  · rename_i h
    have := idleUp_len S C.length
    have := goodR_len (asB_good h)
    omega
  · exact Nat.zero_le _

set_option maxRecDepth 100000 in
set_option maxHeartbeats 2000000 in
theorem time_any (L : List Support) (C : List Crew) (P S : List Int) (A0 A1 A2 A3 : Option Addr) (c0 c1 c2 c3 : Nat) (w : World) (ha : asB L C P S = true) (r0 : Rd Support.enc 3 w.heap.size w A0 L) (r1 : Rd Crew.enc 3 w.heap.size w A1 C) (r2 : Rd encI 1 w.heap.size w A2 P) (r3 : Rd encI 1 w.heap.size w A3 S) :
    Calls Try.prog 57 #[.agg #[.slice A0 L.length c0, .slice A1 C.length c1, .slice A2 P.length c2], .slice A3 S.length c3] w fun e w' => e = .returned (.int .i64 (timeI L C P S)) ∧ Below w.heap.size w w' := by
  obtain ⟨hl, hcl, hpl⟩ := goodR_len (asB_good ha)
  have hba : Below w.heap.size w (w.alloc (.cells #[.slice A0 L.length c0, .slice A1 C.length c1, .slice A2 P.length c2] 82)) := (Below.refl _ _).alloc (Nat.le_refl _) _
  have z0 : (w.alloc (.cells #[.slice A0 L.length c0, .slice A1 C.length c1, .slice A2 P.length c2] 82)).cell? ⟨w.heap.size, 0, none⟩ = some (.slice A0 L.length c0) := (CF.new w #[.slice A0 L.length c0, .slice A1 C.length c1, .slice A2 P.length c2] 82 w.heap.size 0 _ rfl rfl).1
  have z1 : (w.alloc (.cells #[.slice A0 L.length c0, .slice A1 C.length c1, .slice A2 P.length c2] 82)).cell? ⟨w.heap.size, 1, none⟩ = some (.slice A1 C.length c1) := (CF.new w #[.slice A0 L.length c0, .slice A1 C.length c1, .slice A2 P.length c2] 82 w.heap.size 1 _ rfl rfl).1
  have z2 : (w.alloc (.cells #[.slice A0 L.length c0, .slice A1 C.length c1, .slice A2 P.length c2] 82)).cell? ⟨w.heap.size, 2, none⟩ = some (.slice A2 P.length c2) := (CF.new w #[.slice A0 L.length c0, .slice A1 C.length c1, .slice A2 P.length c2] 82 w.heap.size 2 _ rfl rfl).1
  have HA := hide ha; clear ha
  go_enter Try.func57, Try.ntmps57
  go_wp2_with fail
  go_loopw [10, 5] (fun i m wr => ∃ k : Nat, k ≤ C.length ∧ i = .int .i64 k ∧ m = .int .i64 (timeUp L C P S k) ∧ Below (w.alloc (.cells #[.slice A0 L.length c0, .slice A1 C.length c1, .slice A2 P.length c2] 82)).heap.size (w.alloc (.cells #[.slice A0 L.length c0, .slice A1 C.length c1, .slice A2 P.length c2] 82)) wr) (fun i _ _ => C.length - (intOf i).toNat)
  case atStart => exact ⟨0, Nat.zero_le _, rfl, rfl, Below.refl _ _⟩
  case round =>
    obtain ⟨k, hk, rfl, rfl, hbel⟩ := hrel
    have BW := below_step hba hbel (Nat.le_refl _)
    have y0 := below_cell hbel z0
    have y1 := below_cell hbel z1
    have y2 := below_cell hbel z2
    obtain ⟨t0, t1⟩ := timeUp_bd HA.out k
    obtain ⟨v0, v1⟩ := crewT_bd HA.out k
    by_cases hlt : k < C.length
    · have HS := hide (show timeUp L C P S (k + 1) = max (timeUp L C P S k) (crewT L C P S k) from rfl)
      have hki : (k : Int) < (C.length : Int) := by omega
      obtain ⟨v, hv⟩ : ∃ v, crewT L C P S k = v := ⟨_, rfl⟩
      rw [hv] at v0 v1
      have HV := hide hv; clear hv
      generalize timeUp L C P S k = m at *
      by_cases hmv : m < v
      all_goals
        go_wp2_with (go_at_call 66; refine (crewTime_v HV.out _ _ _ _ _ _ _ _ _ HA.out hlt (r0.later BW) (r1.later BW) (r2.later BW) (r3.later BW)).mono ?_; rintro e w3 ⟨rfl, hb3⟩)
        go_roundw
        case rel => exact ⟨k + 1, by omega, by go_num, by rw [HS.out, HV.out] <;> first | rfl | (congr 1; omega), below_step hbel hb3 (Nat.le_refl _)⟩
        case measure => simp [intOf] <;> omega
    · obtain rfl : k = C.length := by omega
      go_wp2_with fail
      go_ret
      exact ⟨rfl, BW⟩
set_option maxRecDepth 100000 in
set_option maxHeartbeats 2000000 in
theorem l19Time_any (L : List Support) (C : List Crew) (P S : List Int) (A0 A1 A2 A3 : Option Addr) (c0 c1 c2 c3 : Nat) (w : World) (ha : asB L C P S = true) (r0 : Rd Support.enc 3 w.heap.size w A0 L) (r1 : Rd Crew.enc 3 w.heap.size w A1 C) (r2 : Rd encI 1 w.heap.size w A2 P) (r3 : Rd encI 1 w.heap.size w A3 S) :
    Calls Try.prog 69 #[.slice A0 L.length c0, .slice A1 C.length c1, .slice A2 P.length c2, .slice A3 S.length c3] w fun e w' => e = .returned (.int .i64 (timeI L C P S)) ∧ Below w.heap.size w w' := by
  obtain ⟨hl, hcl, hpl⟩ := goodR_len (asB_good ha)
  have hba : Below w.heap.size w w := Below.refl _ _
  have HA := hide ha; clear ha
  go_enter Try.func69, Try.ntmps69
  go_wp2_with fail
  go_loopw [10, 9] (fun i m wr => ∃ k : Nat, k ≤ C.length ∧ i = .int .i64 k ∧ m = .int .i64 (timeUp L C P S k) ∧ Below w.heap.size w wr) (fun i _ _ => C.length - (intOf i).toNat)
  case atStart => exact ⟨0, Nat.zero_le _, rfl, rfl, Below.refl _ _⟩
  case round =>
    obtain ⟨k, hk, rfl, rfl, hbel⟩ := hrel
    have BW := below_step hba hbel (Nat.le_refl _)
    obtain ⟨t0, t1⟩ := timeUp_bd HA.out k
    obtain ⟨v0, v1⟩ := crewT_bd HA.out k
    by_cases hlt : k < C.length
    · have HS := hide (show timeUp L C P S (k + 1) = max (timeUp L C P S k) (crewT L C P S k) from rfl)
      have hki : (k : Int) < (C.length : Int) := by omega
      obtain ⟨v, hv⟩ : ∃ v, crewT L C P S k = v := ⟨_, rfl⟩
      rw [hv] at v0 v1
      have HV := hide hv; clear hv
      generalize timeUp L C P S k = m at *
      go_wp2_with (first | (go_at_call 74; refine (l19Crew_v HV.out _ _ _ _ _ _ _ _ _ HA.out hlt (r0.later BW) (r1.later BW) (r2.later BW) (r3.later BW)).mono ?_; rintro e w3 ⟨rfl, hb3⟩) | (go_at_call 87; refine (l1Most_any _ _ _).mono ?_; rintro e w4 ⟨rfl, rfl⟩))
      go_roundw
      case rel => exact ⟨k + 1, by omega, by go_num, by rw [HS.out, HV.out], below_step hbel hb3 (Nat.le_refl _)⟩
      case measure => simp [intOf] <;> omega
    · obtain rfl : k = C.length := by omega
      go_wp2_with fail
      go_ret
      exact ⟨rfl, BW⟩
set_option maxHeartbeats 2000000 in
theorem CrewTime_any (L : List Support) (C : List Crew) (P S : List Int) (A0 A1 A2 A3 : Option Addr) (c0 c1 c2 c3 : Nat) (crew : Int) (w : World) (r0 : Rd Support.enc 3 w.heap.size w A0 L) (ok0 : ∀ c ∈ L, c.Ok) (l0 : L.length ≤ maxLen) (r1 : Rd Crew.enc 3 w.heap.size w A1 C) (l1 : C.length ≤ maxLen) (r2 : Rd encI 1 w.heap.size w A2 P) (l2 : P.length ≤ maxLen) (r3 : Rd encI 1 w.heap.size w A3 S) (l3 : S.length ≤ maxLen) :
    Calls Try.prog 22 #[.slice A0 L.length c0, .slice A1 C.length c1, .slice A2 P.length c2, .slice A3 S.length c3, .int .i64 crew] w fun e w' => e = .returned (.tuple #[.int .i64 (cttV L C P S crew), .bool (cttB L C P S crew)]) ∧ Below w.heap.size w w' := by
  have hba : Below w.heap.size w (w.alloc (.cells #[.slice A0 L.length c0, .slice A1 C.length c1, .slice A2 P.length c2] 82)) := (Below.refl _ _).alloc (Nat.le_refl _) _
  have z0 : (w.alloc (.cells #[.slice A0 L.length c0, .slice A1 C.length c1, .slice A2 P.length c2] 82)).cell? ⟨w.heap.size, 0, none⟩ = some (.slice A0 L.length c0) := (CF.new w #[.slice A0 L.length c0, .slice A1 C.length c1, .slice A2 P.length c2] 82 w.heap.size 0 _ rfl rfl).1
  have z1 : (w.alloc (.cells #[.slice A0 L.length c0, .slice A1 C.length c1, .slice A2 P.length c2] 82)).cell? ⟨w.heap.size, 1, none⟩ = some (.slice A1 C.length c1) := (CF.new w #[.slice A0 L.length c0, .slice A1 C.length c1, .slice A2 P.length c2] 82 w.heap.size 1 _ rfl rfl).1
  have z2 : (w.alloc (.cells #[.slice A0 L.length c0, .slice A1 C.length c1, .slice A2 P.length c2] 82)).cell? ⟨w.heap.size, 2, none⟩ = some (.slice A2 P.length c2) := (CF.new w #[.slice A0 L.length c0, .slice A1 C.length c1, .slice A2 P.length c2] 82 w.heap.size 2 _ rfl rfl).1
  have l1' := l1; unfold maxLen at l1'
  cases h : asB L C P S
  · have HB := hide (show cttB L C P S crew = false by simp [cttB, h])
    go_enter Try.func22, Try.ntmps22
    go_wp2_with (go_at_call 65; refine (isAs_is h _ _ _ _ _ _ _ _ _ (r0.later hba) ok0 l0 (r1.later hba) l1 (r2.later hba) l2 (r3.later hba) l3).mono ?_; rintro e w1 ⟨rfl, hb1⟩; have y0 := below_cell hb1 z0; have y1 := below_cell hb1 z1; have y2 := below_cell hb1 z2; have B1 := below_step hba hb1 (Nat.le_refl _))
    go_ret2
    exact ⟨by simp [cttV, HB.out], B1⟩
  obtain ⟨hl, hcl, hpl⟩ := goodR_len (asB_good h)
  have H := hide h; clear h
  cases h1 : inB crew 0 ((C.length : Int) - 1)
  · have HB := hide (show cttB L C P S crew = false by simp [cttB, h1])
    go_enter Try.func22, Try.ntmps22
    go_wp2_with (first | (go_at_call 65; refine (isAs_is H.out _ _ _ _ _ _ _ _ _ (r0.later hba) ok0 l0 (r1.later hba) l1 (r2.later hba) l2 (r3.later hba) l3).mono ?_; rintro e w1 ⟨rfl, hb1⟩; have y0 := below_cell hb1 z0; have y1 := below_cell hb1 z1; have y2 := below_cell hb1 z2; have B1 := below_step hba hb1 (Nat.le_refl _)) | (go_at_call 61; refine (within_is (by assumption) _).mono ?_; rintro e w2 ⟨rfl, rfl⟩))
    go_ret2
    exact ⟨by simp [cttV, HB.out], B1⟩
  have HB := hide (show cttB L C P S crew = true by simp [cttB, H.out, h1])
  obtain ⟨a1, b1⟩ := inB_iff.1 h1
  obtain ⟨k1, rfl⟩ := Int.eq_ofNat_of_zero_le a1
  have hk1 : k1 < C.length := by omega
  have HV := hide (show cttV L C P S k1 = crewT L C P S k1 by rw [cttV, HB.out]; simp)
  clear a1 b1
  go_enter Try.func22, Try.ntmps22
  go_wp2_with (first | (go_at_call 65; refine (isAs_is H.out _ _ _ _ _ _ _ _ _ (r0.later hba) ok0 l0 (r1.later hba) l1 (r2.later hba) l2 (r3.later hba) l3).mono ?_; rintro e w1 ⟨rfl, hb1⟩; have y0 := below_cell hb1 z0; have y1 := below_cell hb1 z1; have y2 := below_cell hb1 z2; have B1 := below_step hba hb1 (Nat.le_refl _)) | (go_at_call 61; refine (within_is (by assumption) _).mono ?_; rintro e w2 ⟨rfl, rfl⟩) | (go_at_call 66; refine (crewTime_any L C P S _ _ _ _ _ _ _ _ k1 _ H.out hk1 (r0.later B1) (r1.later B1) (r2.later B1) (r3.later B1)).mono ?_; rintro e w3 ⟨rfl, hb3⟩))
  go_ret2
  rw [HV.out, HB.out]
  exact ⟨rfl, below_step B1 hb3 (Nat.le_refl _)⟩
set_option maxHeartbeats 2000000 in
theorem CrewTime_spec (L : List Support) (C : List Crew) (P S : List Int) (A0 A1 A2 A3 : Option Addr) (c0 c1 c2 c3 : Nat) (crew : Int) (w : World) (r0 : Rd Support.enc 3 w.heap.size w A0 L) (ok0 : ∀ c ∈ L, c.Ok) (l0 : L.length ≤ maxLen) (r1 : Rd Crew.enc 3 w.heap.size w A1 C) (l1 : C.length ≤ maxLen) (r2 : Rd encI 1 w.heap.size w A2 P) (l2 : P.length ≤ maxLen) (r3 : Rd encI 1 w.heap.size w A3 S) (l3 : S.length ≤ maxLen) :
    Calls Try.prog 28 #[.slice A0 L.length c0, .slice A1 C.length c1, .slice A2 P.length c2, .slice A3 S.length c3, .int .i64 crew] w fun e w' => e = .returned (.tuple #[.int .i64 (cttV L C P S crew), .bool (cttB L C P S crew)]) ∧ Below w.heap.size w w' := by
  have hba : Below w.heap.size w w := Below.refl _ _
  have l1' := l1; unfold maxLen at l1'
  cases h : asB L C P S
  · have HB := hide (show cttB L C P S crew = false by simp [cttB, h])
    go_enter Try.func28, Try.ntmps28
    go_wp2_with (go_at_call 68; refine (l19Assigned_is h _ _ _ _ _ _ _ _ _ (r0.later hba) ok0 l0 (r1.later hba) l1 (r2.later hba) l2 (r3.later hba) l3).mono ?_; rintro e w1 ⟨rfl, hb1⟩; have B1 := below_step hba hb1 (Nat.le_refl _))
    go_ret2
    exact ⟨by simp [cttV, HB.out], B1⟩
  obtain ⟨hl, hcl, hpl⟩ := goodR_len (asB_good h)
  have H := hide h; clear h
  cases h1 : inB crew 0 ((C.length : Int) - 1)
  · have HB := hide (show cttB L C P S crew = false by simp [cttB, h1])
    go_enter Try.func28, Try.ntmps28
    go_wp2_with (first | (go_at_call 68; refine (l19Assigned_is H.out _ _ _ _ _ _ _ _ _ (r0.later hba) ok0 l0 (r1.later hba) l1 (r2.later hba) l2 (r3.later hba) l3).mono ?_; rintro e w1 ⟨rfl, hb1⟩; have B1 := below_step hba hb1 (Nat.le_refl _)) | (go_at_call 73; refine (l1In_is (by assumption) _).mono ?_; rintro e w2 ⟨rfl, rfl⟩))
    go_ret2
    exact ⟨by simp [cttV, HB.out], B1⟩
  have HB := hide (show cttB L C P S crew = true by simp [cttB, H.out, h1])
  obtain ⟨a1, b1⟩ := inB_iff.1 h1
  obtain ⟨k1, rfl⟩ := Int.eq_ofNat_of_zero_le a1
  have hk1 : k1 < C.length := by omega
  have HV := hide (show cttV L C P S k1 = crewT L C P S k1 by rw [cttV, HB.out]; simp)
  clear a1 b1
  go_enter Try.func28, Try.ntmps28
  go_wp2_with (first | (go_at_call 68; refine (l19Assigned_is H.out _ _ _ _ _ _ _ _ _ (r0.later hba) ok0 l0 (r1.later hba) l1 (r2.later hba) l2 (r3.later hba) l3).mono ?_; rintro e w1 ⟨rfl, hb1⟩; have B1 := below_step hba hb1 (Nat.le_refl _)) | (go_at_call 73; refine (l1In_is (by assumption) _).mono ?_; rintro e w2 ⟨rfl, rfl⟩) | (go_at_call 74; refine (l19Crew_any L C P S _ _ _ _ _ _ _ _ k1 _ H.out hk1 (r0.later B1) (r1.later B1) (r2.later B1) (r3.later B1)).mono ?_; rintro e w3 ⟨rfl, hb3⟩))
  go_ret2
  rw [HV.out, HB.out]
  exact ⟨rfl, below_step B1 hb3 (Nat.le_refl _)⟩
set_option maxHeartbeats 2000000 in
theorem EvacuationTime_any (L : List Support) (C : List Crew) (P S : List Int) (A0 A1 A2 A3 : Option Addr) (c0 c1 c2 c3 : Nat) (w : World) (r0 : Rd Support.enc 3 w.heap.size w A0 L) (ok0 : ∀ c ∈ L, c.Ok) (l0 : L.length ≤ maxLen) (r1 : Rd Crew.enc 3 w.heap.size w A1 C) (l1 : C.length ≤ maxLen) (r2 : Rd encI 1 w.heap.size w A2 P) (l2 : P.length ≤ maxLen) (r3 : Rd encI 1 w.heap.size w A3 S) (l3 : S.length ≤ maxLen) :
    Calls Try.prog 21 #[.slice A0 L.length c0, .slice A1 C.length c1, .slice A2 P.length c2, .slice A3 S.length c3] w fun e w' => e = .returned (.tuple #[.int .i64 (timeV L C P S), .bool (asB L C P S)]) ∧ Below w.heap.size w w' := by
  have hba : Below w.heap.size w (w.alloc (.cells #[.slice A0 L.length c0, .slice A1 C.length c1, .slice A2 P.length c2] 82)) := (Below.refl _ _).alloc (Nat.le_refl _) _
  have z0 : (w.alloc (.cells #[.slice A0 L.length c0, .slice A1 C.length c1, .slice A2 P.length c2] 82)).cell? ⟨w.heap.size, 0, none⟩ = some (.slice A0 L.length c0) := (CF.new w #[.slice A0 L.length c0, .slice A1 C.length c1, .slice A2 P.length c2] 82 w.heap.size 0 _ rfl rfl).1
  have z1 : (w.alloc (.cells #[.slice A0 L.length c0, .slice A1 C.length c1, .slice A2 P.length c2] 82)).cell? ⟨w.heap.size, 1, none⟩ = some (.slice A1 C.length c1) := (CF.new w #[.slice A0 L.length c0, .slice A1 C.length c1, .slice A2 P.length c2] 82 w.heap.size 1 _ rfl rfl).1
  have z2 : (w.alloc (.cells #[.slice A0 L.length c0, .slice A1 C.length c1, .slice A2 P.length c2] 82)).cell? ⟨w.heap.size, 2, none⟩ = some (.slice A2 P.length c2) := (CF.new w #[.slice A0 L.length c0, .slice A1 C.length c1, .slice A2 P.length c2] 82 w.heap.size 2 _ rfl rfl).1
  have l1' := l1; unfold maxLen at l1'
  cases h : asB L C P S
  · have HV := hide (show timeV L C P S = 0 by simp [timeV, h])
    go_enter Try.func21, Try.ntmps21
    go_wp2_with (go_at_call 65; refine (isAs_is h _ _ _ _ _ _ _ _ _ (r0.later hba) ok0 l0 (r1.later hba) l1 (r2.later hba) l2 (r3.later hba) l3).mono ?_; rintro e w1 ⟨rfl, hb1⟩; have y0 := below_cell hb1 z0; have y1 := below_cell hb1 z1; have y2 := below_cell hb1 z2; have B1 := below_step hba hb1 (Nat.le_refl _))
    go_ret2
    exact ⟨by rw [HV.out] <;> rfl, B1⟩
  have HV := hide (show timeV L C P S = timeI L C P S by simp [timeV, h])
  have H := hide h; clear h
  go_enter Try.func21, Try.ntmps21
  go_wp2_with (first | (go_at_call 65; refine (isAs_is H.out _ _ _ _ _ _ _ _ _ (r0.later hba) ok0 l0 (r1.later hba) l1 (r2.later hba) l2 (r3.later hba) l3).mono ?_; rintro e w1 ⟨rfl, hb1⟩; have y0 := below_cell hb1 z0; have y1 := below_cell hb1 z1; have y2 := below_cell hb1 z2; have B1 := below_step hba hb1 (Nat.le_refl _)) | (go_at_call 57; refine (time_any L C P S _ _ _ _ _ _ _ _ _ H.out (r0.later B1) (r1.later B1) (r2.later B1) (r3.later B1)).mono ?_; rintro e w3 ⟨rfl, hb3⟩))
  go_ret2
  rw [HV.out]
  exact ⟨rfl, below_step B1 hb3 (Nat.le_refl _)⟩
set_option maxHeartbeats 2000000 in
theorem EvacuationTime_spec (L : List Support) (C : List Crew) (P S : List Int) (A0 A1 A2 A3 : Option Addr) (c0 c1 c2 c3 : Nat) (w : World) (r0 : Rd Support.enc 3 w.heap.size w A0 L) (ok0 : ∀ c ∈ L, c.Ok) (l0 : L.length ≤ maxLen) (r1 : Rd Crew.enc 3 w.heap.size w A1 C) (l1 : C.length ≤ maxLen) (r2 : Rd encI 1 w.heap.size w A2 P) (l2 : P.length ≤ maxLen) (r3 : Rd encI 1 w.heap.size w A3 S) (l3 : S.length ≤ maxLen) :
    Calls Try.prog 24 #[.slice A0 L.length c0, .slice A1 C.length c1, .slice A2 P.length c2, .slice A3 S.length c3] w fun e w' => e = .returned (.tuple #[.int .i64 (timeV L C P S), .bool (asB L C P S)]) ∧ Below w.heap.size w w' := by
  have hba : Below w.heap.size w w := Below.refl _ _
  have l1' := l1; unfold maxLen at l1'
  cases h : asB L C P S
  · have HV := hide (show timeV L C P S = 0 by simp [timeV, h])
    go_enter Try.func24, Try.ntmps24
    go_wp2_with (go_at_call 68; refine (l19Assigned_is h _ _ _ _ _ _ _ _ _ (r0.later hba) ok0 l0 (r1.later hba) l1 (r2.later hba) l2 (r3.later hba) l3).mono ?_; rintro e w1 ⟨rfl, hb1⟩; have B1 := below_step hba hb1 (Nat.le_refl _))
    go_ret2
    exact ⟨by rw [HV.out] <;> rfl, B1⟩
  have HV := hide (show timeV L C P S = timeI L C P S by simp [timeV, h])
  have H := hide h; clear h
  go_enter Try.func24, Try.ntmps24
  go_wp2_with (first | (go_at_call 68; refine (l19Assigned_is H.out _ _ _ _ _ _ _ _ _ (r0.later hba) ok0 l0 (r1.later hba) l1 (r2.later hba) l2 (r3.later hba) l3).mono ?_; rintro e w1 ⟨rfl, hb1⟩; have B1 := below_step hba hb1 (Nat.le_refl _)) | (go_at_call 69; refine (l19Time_any L C P S _ _ _ _ _ _ _ _ _ H.out (r0.later B1) (r1.later B1) (r2.later B1) (r3.later B1)).mono ?_; rintro e w3 ⟨rfl, hb3⟩))
  go_ret2
  rw [HV.out]
  exact ⟨rfl, below_step B1 hb3 (Nat.le_refl _)⟩
set_option maxRecDepth 100000 in
set_option maxHeartbeats 2000000 in
theorem IdleCrews_any (L : List Support) (C : List Crew) (P S : List Int) (A0 A1 A2 A3 : Option Addr) (c0 c1 c2 c3 : Nat) (w : World) (r0 : Rd Support.enc 3 w.heap.size w A0 L) (ok0 : ∀ c ∈ L, c.Ok) (l0 : L.length ≤ maxLen) (r1 : Rd Crew.enc 3 w.heap.size w A1 C) (l1 : C.length ≤ maxLen) (r2 : Rd encI 1 w.heap.size w A2 P) (l2 : P.length ≤ maxLen) (r3 : Rd encI 1 w.heap.size w A3 S) (l3 : S.length ≤ maxLen) :
    Calls Try.prog 25 #[.slice A0 L.length c0, .slice A1 C.length c1, .slice A2 P.length c2, .slice A3 S.length c3] w (Gives (idleV L C P S).length (fun v => .tuple #[v, .bool (asB L C P S)]) (fun w' v => Own encI 1 3 w.heap.size w' v (idleV L C P S)) w) := by
  have hba : Below w.heap.size w (w.alloc (.cells #[.slice A0 L.length c0, .slice A1 C.length c1, .slice A2 P.length c2] 82)) := (Below.refl _ _).alloc (Nat.le_refl _) _
  have z0 : (w.alloc (.cells #[.slice A0 L.length c0, .slice A1 C.length c1, .slice A2 P.length c2] 82)).cell? ⟨w.heap.size, 0, none⟩ = some (.slice A0 L.length c0) := (CF.new w #[.slice A0 L.length c0, .slice A1 C.length c1, .slice A2 P.length c2] 82 w.heap.size 0 _ rfl rfl).1
  have z1 : (w.alloc (.cells #[.slice A0 L.length c0, .slice A1 C.length c1, .slice A2 P.length c2] 82)).cell? ⟨w.heap.size, 1, none⟩ = some (.slice A1 C.length c1) := (CF.new w #[.slice A0 L.length c0, .slice A1 C.length c1, .slice A2 P.length c2] 82 w.heap.size 1 _ rfl rfl).1
  have z2 : (w.alloc (.cells #[.slice A0 L.length c0, .slice A1 C.length c1, .slice A2 P.length c2] 82)).cell? ⟨w.heap.size, 2, none⟩ = some (.slice A2 P.length c2) := (CF.new w #[.slice A0 L.length c0, .slice A1 C.length c1, .slice A2 P.length c2] 82 w.heap.size 2 _ rfl rfl).1
  have l1' := l1; unfold maxLen at l1'
  cases h : asB L C P S
  · have HV := hide (show idleV L C P S = [] by simp [idleV, h])
    go_enter Try.func25, Try.ntmps25
    go_wp2_with (go_at_call 65; refine (isAs_is h _ _ _ _ _ _ _ _ _ (r0.later hba) ok0 l0 (r1.later hba) l1 (r2.later hba) l2 (r3.later hba) l3).mono ?_; rintro e w1 ⟨rfl, hb1⟩; have y0 := below_cell hb1 z0; have y1 := below_cell hb1 z1; have y2 := below_cell hb1 z2; have B1 := below_step hba hb1 (Nat.le_refl _))
    go_ret2
    rw [HV.out]
    exact ⟨none, 0, rfl, own_nil _ _ _, B1⟩
  obtain ⟨hl, hcl, hpl⟩ := goodR_len (asB_good h)
  have hsl := asB_len h
  have HV := hide (show idleV L C P S = idleUp S C.length by simp [idleV, h])
  have H := hide h; clear h
  have hsl6 : S.length ≤ 6 := by omega
  clear hsl
  go_enter Try.func25, Try.ntmps25
  go_wp2_with (go_at_call 65; refine (isAs_is H.out _ _ _ _ _ _ _ _ _ (r0.later hba) ok0 l0 (r1.later hba) l1 (r2.later hba) l2 (r3.later hba) l3).mono ?_; rintro e w1 ⟨rfl, hb1⟩; have y0 := below_cell hb1 z0; have y1 := below_cell hb1 z1; have y2 := below_cell hb1 z2; have B1 := below_step hba hb1 (Nat.le_refl _))
  have hown0 : Own encI 1 3 w.heap.size (w1.alloc (.cells #[] 3)) (.slice (some ⟨w1.heap.size, 0, none⟩) 0 0) [] := own_empty B1.size
  go_loopw [24, 11] (fun i m wr => ∃ (k : Nat) (A' : Option Addr) (cap' : Nat), k ≤ C.length ∧ i = .int .i64 k ∧ m = .slice A' (idleUp S k).length cap' ∧ Own encI 1 3 w.heap.size wr (.slice A' (idleUp S k).length cap') (idleUp S k) ∧ Below w.heap.size w wr) (fun i _ _ => C.length - (intOf i).toNat)
  case atStart => exact ⟨0, _, _, Nat.zero_le _, rfl, rfl, hown0, B1.alloc B1.size _⟩
  case round =>
    clear hown0
    obtain ⟨k, A', cap', hk, rfl, rfl, hown, hbel⟩ := hrel
    by_cases hlt : k < C.length
    · have HY := hide (@idleUp_yes S k); have HN := hide (@idleUp_no S k)
      have hul := idleUp_len S k
      generalize idleUp S k = U at *
      have hki : (k : Int) < (C.length : Int) := by omega
      have hwb := hbel.size
      cases hs : (S.any fun d => d == (k : Int))
      · have HS := hide hs
        go_wp2_with (first | (go_at_call 70; refine (ContainsI_is hs _ _ _ (r3.later hbel) (by omega)).mono ?_; rintro e w3 ⟨rfl, rfl⟩) | (at_builtin; refine wpList_push _ rfl (.tmp 31) (.tmp 33) 26 3 rfl Try.underlying26 infoI rfl (by omega) (by omega) encI_len encI_one w.heap.size A' cap' U (k : Int) _ rfl rfl _ rfl rfl hown hwb (by omega) ?_; intro A5 cap5 w5 ho5 hb5))
        go_roundw
        case rel => exact ⟨k + 1, A5, cap5, by omega, by go_num, sl_eq (by rw [HY.out HS.out]; simp), by rw [HY.out HS.out, List.length_append]; exact ho5, hbel.trans hb5⟩
        case measure => simp [intOf] <;> omega
      · have HS := hide hs
        go_wp2_with (go_at_call 70; refine (ContainsI_is hs _ _ _ (r3.later hbel) (by omega)).mono ?_; rintro e w3 ⟨rfl, rfl⟩)
        go_roundw
        case rel => exact ⟨k + 1, A', cap', by omega, by go_num, by rw [HN.out HS.out], by rw [HN.out HS.out]; exact hown, hbel⟩
        case measure => simp [intOf] <;> omega
    · obtain rfl : k = C.length := by omega
      go_wp2_with fail
      go_ret2
      rw [HV.out]
      exact ⟨A', cap', rfl, hown, hbel⟩
set_option maxRecDepth 100000 in
set_option maxHeartbeats 2000000 in
theorem IdleCrews_spec (L : List Support) (C : List Crew) (P S : List Int) (A0 A1 A2 A3 : Option Addr) (c0 c1 c2 c3 : Nat) (w : World) (r0 : Rd Support.enc 3 w.heap.size w A0 L) (ok0 : ∀ c ∈ L, c.Ok) (l0 : L.length ≤ maxLen) (r1 : Rd Crew.enc 3 w.heap.size w A1 C) (l1 : C.length ≤ maxLen) (r2 : Rd encI 1 w.heap.size w A2 P) (l2 : P.length ≤ maxLen) (r3 : Rd encI 1 w.heap.size w A3 S) (l3 : S.length ≤ maxLen) :
    Calls Try.prog 26 #[.slice A0 L.length c0, .slice A1 C.length c1, .slice A2 P.length c2, .slice A3 S.length c3] w (Gives (idleV L C P S).length (fun v => .tuple #[v, .bool (asB L C P S)]) (fun w' v => Own encI 1 3 w.heap.size w' v (idleV L C P S)) w) := by
  have hba : Below w.heap.size w (w.alloc (.cells #[] 3)) := (Below.refl _ _).alloc (Nat.le_refl _) _
  have hown0 : Own encI 1 3 w.heap.size (w.alloc (.cells #[] 3)) (.slice (some ⟨w.heap.size, 0, none⟩) 0 0) [] := own_empty (Nat.le_refl _)
  have l1' := l1; unfold maxLen at l1'
  cases h : asB L C P S
  · have HV := hide (show idleV L C P S = [] by simp [idleV, h])
    go_enter Try.func26, Try.ntmps26
    go_wp2_with (go_at_call 68; refine (l19Assigned_is h _ _ _ _ _ _ _ _ _ (r0.later hba) ok0 l0 (r1.later hba) l1 (r2.later hba) l2 (r3.later hba) l3).mono ?_; rintro e w1 ⟨rfl, hb1⟩; have B1 := below_step hba hb1 (Nat.le_refl _))
    go_ret2
    rw [HV.out]
    exact ⟨some ⟨w.heap.size, 0, none⟩, 0, rfl, Own.below hown0 hb1, B1⟩
  obtain ⟨hl, hcl, hpl⟩ := goodR_len (asB_good h)
  have hsl := asB_len h
  have HV := hide (show idleV L C P S = idleUp S C.length by simp [idleV, h])
  have H := hide h; clear h
  have hsl6 : S.length ≤ 6 := by omega
  clear hsl
  go_enter Try.func26, Try.ntmps26
  go_wp2_with (go_at_call 68; refine (l19Assigned_is H.out _ _ _ _ _ _ _ _ _ (r0.later hba) ok0 l0 (r1.later hba) l1 (r2.later hba) l2 (r3.later hba) l3).mono ?_; rintro e w1 ⟨rfl, hb1⟩; have B1 := below_step hba hb1 (Nat.le_refl _))
  go_loopw [11, 10] (fun i m wr => ∃ (k : Nat) (A' : Option Addr) (cap' : Nat), k ≤ C.length ∧ i = .int .i64 k ∧ m = .slice A' (idleUp S k).length cap' ∧ Own encI 1 3 w.heap.size wr (.slice A' (idleUp S k).length cap') (idleUp S k) ∧ Below w.heap.size w wr) (fun i _ _ => C.length - (intOf i).toNat)
  case atStart => exact ⟨0, _, _, Nat.zero_le _, rfl, rfl, Own.below hown0 hb1, B1⟩
  case round =>
    clear hown0
    obtain ⟨k, A', cap', hk, rfl, rfl, hown, hbel⟩ := hrel
    by_cases hlt : k < C.length
    · have HY := hide (@idleUp_yes S k); have HN := hide (@idleUp_no S k)
      have hul := idleUp_len S k
      generalize idleUp S k = U at *
      have hki : (k : Int) < (C.length : Int) := by omega
      have hwb := hbel.size
      cases hs : (S.any fun d => d == (k : Int))
      · have HS := hide hs
        go_wp2_with (first | (go_at_call 71; refine (l1Has_is hs _ _ _ (r3.later hbel) (by omega)).mono ?_; rintro e w3 ⟨rfl, rfl⟩) | (at_builtin; refine wpList_push _ rfl (.tmp 30) (.tmp 32) 26 3 rfl Try.underlying26 infoI rfl (by omega) (by omega) encI_len encI_one w.heap.size A' cap' U (k : Int) _ rfl rfl _ rfl rfl hown hwb (by omega) ?_; intro A5 cap5 w5 ho5 hb5))
        go_roundw
        case rel => exact ⟨k + 1, A5, cap5, by omega, by go_num, sl_eq (by rw [HY.out HS.out]; simp), by rw [HY.out HS.out, List.length_append]; exact ho5, hbel.trans hb5⟩
        case measure => simp [intOf] <;> omega
      · have HS := hide hs
        go_wp2_with (go_at_call 71; refine (l1Has_is hs _ _ _ (r3.later hbel) (by omega)).mono ?_; rintro e w3 ⟨rfl, rfl⟩)
        go_roundw
        case rel => exact ⟨k + 1, A', cap', by omega, by go_num, by rw [HN.out HS.out], by rw [HN.out HS.out]; exact hown, hbel⟩
        case measure => simp [intOf] <;> omega
    · obtain rfl : k = C.length := by omega
      go_wp2_with fail
      go_ret2
      rw [HV.out]
      exact ⟨A', cap', rfl, hown, hbel⟩
end Go.Proofs.Ytgfamaopplgfgaa
