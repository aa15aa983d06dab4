/- Minutes that are left, taking out of a battery and putting into it: both packages. -/
import Derived.Test.YtafefnpmgpmjpaaBatP
import Derived.Test.YtafefnpmgpmjpaaDrawBat
import Derived.Deep.RegionHeldLaw
import Derived.Deep.RegionHeld3
namespace Go.Proofs.Ytafefnpmgpmjpaa
open Go Go.RowKit
set_option linter.unusedVariables false
set_option linter.unusedSimpArgs false
theorem moved_bd {b : Battery} {x m : Int} (h : movedB b x m = true) : batB b = true ∧ (0 ≤ x ∧ x ≤ 1000000) ∧ (0 ≤ m ∧ m ≤ 10000) := by
  simpa only [movedB, Bool.and_eq_true, inB_iff] using h
theorem moved_no {b : Battery} {x m : Int} (h : movedB b x m = false) (hb : batB b = true) (h0 : 0 ≤ x) (h1 : x ≤ b.most) (h2 : 0 ≤ m) (h3 : m ≤ 10000) : False := by
  obtain ⟨_, _, d0, d1⟩ := batB_bd hb
  have : movedB b x m = true := by simp only [movedB, Bool.and_eq_true, inB_iff]; exact ⟨hb, ⟨h0, by omega⟩, h2, h3⟩
  rw [this] at h; cases h
theorem min_no {b : Battery} {x : Int} (h : movedB b x 0 = false) : minB b x = false := by
  cases h2 : minB b x
  · rfl
  · obtain ⟨hb, x1, x2, _⟩ := minB_bd h2
    exact (moved_no h hb (by omega) x2 (by omega) (by omega)).elim
theorem tk_no {b : Battery} {x m : Int} (h : movedB b x m = false) : tkB b x m = false := by
  cases h2 : tkB b x m
  · rfl
  · obtain ⟨hb, ⟨x1, x2⟩, ⟨m0, m1⟩, _⟩ := tkB_bd h2
    exact (moved_no h hb x1 x2 m0 m1).elim
theorem pt_no {b : Battery} {x m : Int} (h : movedB b x m = false) : ptB b x m = false := by
  cases h2 : ptB b x m
  · rfl
  · obtain ⟨hb, ⟨x1, x2⟩, m0, m1⟩ := ptB_bd h2
    exact (moved_no h hb x1 x2 m0 m1).elim
theorem tk_is {b : Battery} {x m : Int} (h : movedB b x m = true) : tkB b x m = takenB b x m := by
  obtain ⟨hb, ⟨x0, x1⟩, m0, m1⟩ := moved_bd h
  have hm : inB m 0 10000 = true := inB_iff.2 ⟨m0, m1⟩
  rw [Bool.eq_iff_iff]
  simp only [tkB, takenB, hb, hm, Bool.true_and, Bool.and_eq_true, inB_iff, decide_eq_true_eq, Bool.not_eq_true', Bool.or_eq_false_iff, decide_eq_false_iff_not]
  omega
set_option maxHeartbeats 1000000 in
theorem MinutesLeft_any (b : Battery) (watts : Int) (w : World) :
    Calls Try.prog 16 #[.agg #[.int .i64 b.capacity, .int .i64 b.charge, .int .i64 b.most], .int .i64 watts] w fun e w' => e = .returned (.tuple #[.int .i64 (minV b watts), .bool (minB b watts)]) ∧ Below w.heap.size w w' := by
  have hX : Own Battery.enc 3 30 w.heap.size (w.alloc (.cells #[.int .i64 b.capacity, .int .i64 b.charge, .int .i64 b.most] 30)) (.slice (some ⟨w.heap.size, 0, none⟩) 1 1) [b] := World.ownsRow_lit (e := 30) (size := 3) w #[.int .i64 b.capacity, .int .i64 b.charge, .int .i64 b.most] 1 (Nat.le_refl _) (by decide) rfl
  have HB : Below w.heap.size w (w.alloc (.cells #[.int .i64 b.capacity, .int .i64 b.charge, .int .i64 b.most] 30)) := (Below.refl _ _).alloc (Nat.le_refl _) _
  obtain ⟨u0, u1, u2⟩ := Battery.one_cells hX
  cases hm0 : movedB b watts 0
  · have hm := hide hm0
    have HMB := hide (min_no hm0); have HMV := hide (show minV b watts = 0 by rw [minV, HMB.out]; rfl)
    clear hm0
    go_enter Try.func16, Try.ntmps16
    go_wp2_with (go_at_call 50; refine (isMoved_is hm.out _).mono ?_; rintro e w1 ⟨rfl, hb1⟩; have hX := Own.below hX hb1; have HB := below_step HB hb1 (by first | exact Nat.le_refl _ | omega); obtain ⟨u0, u1, u2⟩ := Battery.one_cells hX)
    go_ret2
    exact ⟨by rw [HMV.out, HMB.out] <;> rfl, HB⟩
  have hm := hide hm0
  obtain ⟨hb, ⟨x0, x1⟩, _⟩ := moved_bd hm0
  obtain ⟨⟨a0, a1⟩, ⟨c0, c1⟩, d0, d1⟩ := batB_bd hb
  by_cases h1 : watts < 1
  · have HMB := hide (show minB b watts = false by simp [minB, inB]; omega); have HMV := hide (show minV b watts = 0 by rw [minV, HMB.out]; rfl)
    clear hm0
    go_enter Try.func16, Try.ntmps16
    go_wp2_with (go_at_call 50; refine (isMoved_is hm.out _).mono ?_; rintro e w1 ⟨rfl, hb1⟩; have hX := Own.below hX hb1; have HB := below_step HB hb1 (by first | exact Nat.le_refl _ | omega); obtain ⟨u0, u1, u2⟩ := Battery.one_cells hX)
    go_ret2
    exact ⟨by rw [HMV.out, HMB.out] <;> rfl, HB⟩
  by_cases h2 : b.most < watts
  · have HMB := hide (show minB b watts = false by simp [minB, inB]; omega); have HMV := hide (show minV b watts = 0 by rw [minV, HMB.out]; rfl)
    clear hm0
    go_enter Try.func16, Try.ntmps16
    go_wp2_with (go_at_call 50; refine (isMoved_is hm.out _).mono ?_; rintro e w1 ⟨rfl, hb1⟩; have hX := Own.below hX hb1; have HB := below_step HB hb1 (by first | exact Nat.le_refl _ | omega); obtain ⟨u0, u1, u2⟩ := Battery.one_cells hX)
    go_ret2
    exact ⟨by rw [HMV.out, HMB.out] <;> rfl, HB⟩
  have HMB := hide (show minB b watts = true by simp [minB, hb, inB]; omega)
  have HMV := hide (show minV b watts = min (60 * b.charge / watts) 10000 by rw [minV, HMB.out]; rfl)
  obtain ⟨q0, q1, q2⟩ := quot_bd c0 (show 1 ≤ watts by omega)
  have q3 : 60 * b.charge / watts ≤ 60 * b.charge := Int.ediv_le_self _ (by omega)
  have hwq : IntKind.i64.wrap (60 * b.charge / watts) = 60 * b.charge / watts := by rw [IntKind.wrap_i64]; omega
  clear hm0 q1 q2
  by_cases h3 : 60 * b.charge / watts ≤ 10000
  · replace HMV := hide (show minV b watts = 60 * b.charge / watts by rw [HMV.out]; omega)
    go_enter Try.func16, Try.ntmps16
    go_wp2_with (go_at_call 50; refine (isMoved_is hm.out _).mono ?_; rintro e w1 ⟨rfl, hb1⟩; have hX := Own.below hX hb1; have HB := below_step HB hb1 (by first | exact Nat.le_refl _ | omega); obtain ⟨u0, u1, u2⟩ := Battery.one_cells hX)
    go_ret2
    exact ⟨by rw [HMV.out, HMB.out] <;> rfl, HB⟩
  · replace HMV := hide (show minV b watts = 10000 by rw [HMV.out]; omega)
    go_enter Try.func16, Try.ntmps16
    go_wp2_with (go_at_call 50; refine (isMoved_is hm.out _).mono ?_; rintro e w1 ⟨rfl, hb1⟩; have hX := Own.below hX hb1; have HB := below_step HB hb1 (by first | exact Nat.le_refl _ | omega); obtain ⟨u0, u1, u2⟩ := Battery.one_cells hX)
    go_ret2
    exact ⟨by rw [HMV.out, HMB.out] <;> rfl, HB⟩
set_option maxHeartbeats 1000000 in
theorem MinutesLeft_spec (b : Battery) (watts : Int) (w : World) :
    Calls Try.prog 17 #[.agg #[.int .i64 b.capacity, .int .i64 b.charge, .int .i64 b.most], .int .i64 watts] w fun e w' => e = .returned (.tuple #[.int .i64 (minV b watts), .bool (minB b watts)]) ∧ Below w.heap.size w w' := by
  have hX : Own Battery.enc 3 30 w.heap.size (w.alloc (.cells #[.int .i64 b.capacity, .int .i64 b.charge, .int .i64 b.most] 30)) (.slice (some ⟨w.heap.size, 0, none⟩) 1 1) [b] := World.ownsRow_lit (e := 30) (size := 3) w #[.int .i64 b.capacity, .int .i64 b.charge, .int .i64 b.most] 1 (Nat.le_refl _) (by decide) rfl
  have HB : Below w.heap.size w (w.alloc (.cells #[.int .i64 b.capacity, .int .i64 b.charge, .int .i64 b.most] 30)) := (Below.refl _ _).alloc (Nat.le_refl _) _
  obtain ⟨u0, u1, u2⟩ := Battery.one_cells hX
  cases hb0 : batB b
  · have hb := hide hb0
    have HMB := hide (show minB b watts = false by simp [minB, hb0]); have HMV := hide (show minV b watts = 0 by rw [minV, HMB.out]; rfl)
    clear hb0
    go_enter Try.func17, Try.ntmps17
    go_wp2_with (first | (go_at_call 45; refine (l18Battery_is hb.out _).mono ?_; rintro e w1 ⟨rfl, hb1⟩; have hX := Own.below hX hb1; have HB := below_step HB hb1 (by first | exact Nat.le_refl _ | omega); obtain ⟨u0, u1, u2⟩ := Battery.one_cells hX) | (go_at_call 58; refine (l1In_is hi.out _).mono ?_; rintro e w' ⟨rfl, rfl⟩) | (go_at_call 55; refine (l1Least_any _ _ _).mono ?_; rintro e w' ⟨rfl, rfl⟩))
    go_ret2
    exact ⟨by rw [HMV.out, HMB.out] <;> rfl, HB⟩
  cases hi0 : inB watts 1 b.most
  · have hb := hide hb0; have hi := hide hi0
    have HMB := hide (show minB b watts = false by simp [minB, hi0]); have HMV := hide (show minV b watts = 0 by rw [minV, HMB.out]; rfl)
    clear hb0 hi0
    go_enter Try.func17, Try.ntmps17
    go_wp2_with (first | (go_at_call 45; refine (l18Battery_is hb.out _).mono ?_; rintro e w1 ⟨rfl, hb1⟩; have hX := Own.below hX hb1; have HB := below_step HB hb1 (by first | exact Nat.le_refl _ | omega); obtain ⟨u0, u1, u2⟩ := Battery.one_cells hX) | (go_at_call 58; refine (l1In_is hi.out _).mono ?_; rintro e w' ⟨rfl, rfl⟩) | (go_at_call 55; refine (l1Least_any _ _ _).mono ?_; rintro e w' ⟨rfl, rfl⟩))
    go_ret2
    exact ⟨by rw [HMV.out, HMB.out] <;> rfl, HB⟩
  obtain ⟨⟨a0, a1⟩, ⟨c0, c1⟩, d0, d1⟩ := batB_bd hb0
  have hi1 := inB_iff.1 hi0
  have hb := hide hb0; have hi := hide hi0
  have HMB := hide (show minB b watts = true by simp [minB, hb0, hi0])
  have HMV := hide (show minV b watts = min 10000 (60 * b.charge / watts) by rw [minV, HMB.out, Int.min_comm]; rfl)
  obtain ⟨q0, q1, q2⟩ := quot_bd c0 (show 1 ≤ watts by omega)
  have q3 : 60 * b.charge / watts ≤ 60 * b.charge := Int.ediv_le_self _ (by omega)
  have hwq : IntKind.i64.wrap (60 * b.charge / watts) = 60 * b.charge / watts := by rw [IntKind.wrap_i64]; omega
  clear hb0 hi0 q1 q2
  go_enter Try.func17, Try.ntmps17
  go_wp2_with (first | (go_at_call 45; refine (l18Battery_is hb.out _).mono ?_; rintro e w1 ⟨rfl, hb1⟩; have hX := Own.below hX hb1; have HB := below_step HB hb1 (by first | exact Nat.le_refl _ | omega); obtain ⟨u0, u1, u2⟩ := Battery.one_cells hX) | (go_at_call 58; refine (l1In_is hi.out _).mono ?_; rintro e w' ⟨rfl, rfl⟩) | (go_at_call 55; refine (l1Least_any _ _ _).mono ?_; rintro e w' ⟨rfl, rfl⟩))
  go_ret2
  exact ⟨by rw [HMV.out, HMB.out] <;> rfl, HB⟩
set_option maxHeartbeats 2000000 in
theorem TakeOut_any (b : Battery) (watts minutes : Int) (w : World) :
    Calls Try.prog 18 #[.agg #[.int .i64 b.capacity, .int .i64 b.charge, .int .i64 b.most], .int .i64 watts, .int .i64 minutes] w fun e w' => e = .returned (.tuple #[.agg #[.int .i64 (tkV b watts minutes).capacity, .int .i64 (tkV b watts minutes).charge, .int .i64 (tkV b watts minutes).most], .bool (tkB b watts minutes)]) ∧ Below w.heap.size w w' := by
  have hX : Own Battery.enc 3 30 w.heap.size ((w.alloc (.cells #[.int .i64 b.capacity, .int .i64 b.charge, .int .i64 b.most] 30)).alloc (.cells #[.int .i64 0, .int .i64 0, .int .i64 0] 30)) (.slice (some ⟨w.heap.size, 0, none⟩) 1 1) [b] := Own.below (World.ownsRow_lit (e := 30) (size := 3) w #[.int .i64 b.capacity, .int .i64 b.charge, .int .i64 b.most] 1 (Nat.le_refl _) (by decide) rfl) ((Below.refl _ _).alloc (Nat.le_refl _) _)
  have hR : Own Battery.enc 3 30 w.heap.size ((w.alloc (.cells #[.int .i64 b.capacity, .int .i64 b.charge, .int .i64 b.most] 30)).alloc (.cells #[.int .i64 0, .int .i64 0, .int .i64 0] 30)) (.slice (some ⟨w.heap.size + 1, 0, none⟩) 1 1) [(⟨0, 0, 0⟩ : Battery)] := by
    have := World.ownsRow_lit (base := w.heap.size) (e := 30) (size := 3) (w.alloc (.cells #[.int .i64 b.capacity, .int .i64 b.charge, .int .i64 b.most] 30)) #[.int .i64 0, .int .i64 0, .int .i64 0] 1 (by simp) (by decide) rfl
    rw [show (w.alloc (.cells #[.int .i64 b.capacity, .int .i64 b.charge, .int .i64 b.most] 30)).heap.size = w.heap.size + 1 by simp] at this
    exact this
  have HB : Below w.heap.size w ((w.alloc (.cells #[.int .i64 b.capacity, .int .i64 b.charge, .int .i64 b.most] 30)).alloc (.cells #[.int .i64 0, .int .i64 0, .int .i64 0] 30)) := ((Below.refl _ _).alloc (Nat.le_refl _) _).alloc (by simp) _
  have hsz : ((w.alloc (.cells #[.int .i64 b.capacity, .int .i64 b.charge, .int .i64 b.most] 30)).alloc (.cells #[.int .i64 0, .int .i64 0, .int .i64 0] 30)).heap.size = w.heap.size + 2 := by simp
  have hne : w.heap.size ≠ w.heap.size + 1 := by omega
  have hle : w.heap.size ≤ w.heap.size := Nat.le_refl _
  obtain ⟨u0, u1, u2⟩ := Battery.one_cells hX
  cases hm0 : movedB b watts minutes
  · have hm := hide hm0; have HTB := hide (tk_no hm0); have HTV := hide (show tkV b watts minutes = ⟨0, 0, 0⟩ by rw [tkV, HTB.out]; rfl)
    clear hm0
    go_enter Try.func18, Try.ntmps18
    go_wp2_with (first | (go_at_call 50; refine (isMoved_is hm.out _).mono ?_; rintro e w1 ⟨rfl, hb1⟩; have hX := Own.below hX hb1; have HB := below_step HB hb1 (by first | exact Nat.le_refl _ | omega); obtain ⟨u0, u1, u2⟩ := Battery.one_cells hX; have hR := Own.below hR hb1) | (with_reducible show wpList _ _ _ (⟨none, _, _, _, _, _⟩ :: _) _ _; refine wpList_store_mid rfl 30 (.tmp 6) (.tmp 13) rfl (w.heap.size + 1) 0 _ rfl rfl (Own.there_ hR rfl (by simp)) (by kernel_rfl) (by simp [Value.oneCell']) ?_))
    have hRf := Own.set_ Battery.enc_len hR rfl (k := 0) (by simp) (⟨0, 0, 0⟩ : Battery)
    have hh := Battery.one_heap hRf
    refine bodyPost_ret (results_rt rfl _ _ (w.heap.size + 1) 30 _ (0, 0) _ rfl hh Try.underlying30 rfl (by kernel_rfl)) rfl ?_
    exact ⟨by rw [HTV.out, HTB.out] <;> rfl, below_setCells (w.heap.size + 1) (Nat.le_succ _) (Battery.enc ⟨0, 0, 0⟩) (0 * 3) _ HB⟩
  have hm := hide hm0
  obtain ⟨hb, ⟨x0, x1⟩, m0, m1⟩ := moved_bd hm0
  have HBT := hide hb; clear hb
  have HTK := hide (tk_is hm0); clear hm0
  cases ht0 : takenB b watts minutes
  · have ht := hide ht0; have HTB := hide (HTK.out.trans ht0); have HTV := hide (show tkV b watts minutes = ⟨0, 0, 0⟩ by rw [tkV, HTB.out]; rfl)
    clear ht0
    go_enter Try.func18, Try.ntmps18
    go_wp2_with (first | (go_at_call 50; refine (isMoved_is hm.out _).mono ?_; rintro e w1 ⟨rfl, hb1⟩; have hX := Own.below hX hb1; have HB := below_step HB hb1 (by first | exact Nat.le_refl _ | omega); obtain ⟨u0, u1, u2⟩ := Battery.one_cells hX; have hR := Own.below hR hb1) | (go_at_call 51; refine (takenOut_no b _ _ _ HBT.out x0 (by omega) m0 m1 ht.out).mono ?_; rintro e w3 ⟨rfl, hb3⟩; have hR := Own.below hR hb3; have HB := below_step HB hb3 (Nat.le_refl _)) | (with_reducible show wpList _ _ _ (⟨none, _, _, _, _, _⟩ :: _) _ _; refine wpList_store_mid rfl 30 (.tmp 6) (.tmp 18) rfl (w.heap.size + 1) 0 _ rfl rfl (Own.there_ hR rfl (by simp)) (by kernel_rfl) (by simp [Value.oneCell']) ?_))
    have hRf := Own.set_ Battery.enc_len hR rfl (k := 0) (by simp) (⟨0, 0, 0⟩ : Battery)
    have hh := Battery.one_heap hRf
    refine bodyPost_ret (results_rt rfl _ _ (w.heap.size + 1) 30 _ (0, 0) _ rfl hh Try.underlying30 rfl (by kernel_rfl)) rfl ?_
    exact ⟨by rw [HTV.out, HTB.out] <;> rfl, below_setCells (w.heap.size + 1) (Nat.le_succ _) (Battery.enc ⟨0, 0, 0⟩) (0 * 3) _ HB⟩
  · have ht := hide ht0; have HTB := hide (HTK.out.trans ht0); have HTV := hide (show tkV b watts minutes = ⟨b.capacity, b.charge - energyI watts minutes, b.most⟩ by rw [tkV, HTB.out]; rfl)
    clear ht0
    go_enter Try.func18, Try.ntmps18
    go_wp2_with (first | (go_at_call 50; refine (isMoved_is hm.out _).mono ?_; rintro e w1 ⟨rfl, hb1⟩; have hX := Own.below hX hb1; have HB := below_step HB hb1 (by first | exact Nat.le_refl _ | omega); obtain ⟨u0, u1, u2⟩ := Battery.one_cells hX; have hR := Own.below hR hb1) | (go_at_call 51; refine (takenOut_yes b _ _ _ HBT.out x0 (by omega) m0 m1 ht.out).mono ?_; rintro e w3 ⟨rfl, hb3⟩; have hR := Own.below hR hb3; have HB := below_step HB hb3 (Nat.le_refl _)) | (with_reducible show wpList _ _ _ (⟨none, _, _, _, _, _⟩ :: _) _ _; refine wpList_store_mid rfl 30 (.tmp 6) (.tmp 18) rfl (w.heap.size + 1) 0 _ rfl rfl (Own.there_ hR rfl (by simp)) (by kernel_rfl) (by simp [Value.oneCell']) ?_))
    have hRf := Own.set_ Battery.enc_len hR rfl (k := 0) (by simp) (⟨b.capacity, b.charge - energyI watts minutes, b.most⟩ : Battery)
    have hh := Battery.one_heap hRf
    refine bodyPost_ret (results_rt rfl _ _ (w.heap.size + 1) 30 _ (0, 0) _ rfl hh Try.underlying30 rfl (by kernel_rfl)) rfl ?_
    exact ⟨by rw [HTV.out, HTB.out] <;> rfl, below_setCells (w.heap.size + 1) (Nat.le_succ _) (Battery.enc ⟨b.capacity, b.charge - energyI watts minutes, b.most⟩) (0 * 3) _ HB⟩
set_option maxRecDepth 100000 in
set_option maxHeartbeats 4000000 in
theorem TakeOut_spec (b : Battery) (watts minutes : Int) (w : World) :
    Calls Try.prog 20 #[.agg #[.int .i64 b.capacity, .int .i64 b.charge, .int .i64 b.most], .int .i64 watts, .int .i64 minutes] w fun e w' => e = .returned (.tuple #[.agg #[.int .i64 (tkV b watts minutes).capacity, .int .i64 (tkV b watts minutes).charge, .int .i64 (tkV b watts minutes).most], .bool (tkB b watts minutes)]) ∧ Below w.heap.size w w' := by
  have hX : Own Battery.enc 3 30 w.heap.size ((w.alloc (.cells #[.int .i64 b.capacity, .int .i64 b.charge, .int .i64 b.most] 30)).alloc (.cells #[.int .i64 0, .int .i64 0, .int .i64 0] 30)) (.slice (some ⟨w.heap.size, 0, none⟩) 1 1) [b] := Own.below (World.ownsRow_lit (e := 30) (size := 3) w #[.int .i64 b.capacity, .int .i64 b.charge, .int .i64 b.most] 1 (Nat.le_refl _) (by decide) rfl) ((Below.refl _ _).alloc (Nat.le_refl _) _)
  have hR : Own Battery.enc 3 30 w.heap.size ((w.alloc (.cells #[.int .i64 b.capacity, .int .i64 b.charge, .int .i64 b.most] 30)).alloc (.cells #[.int .i64 0, .int .i64 0, .int .i64 0] 30)) (.slice (some ⟨w.heap.size + 1, 0, none⟩) 1 1) [(⟨0, 0, 0⟩ : Battery)] := by
    have := World.ownsRow_lit (base := w.heap.size) (e := 30) (size := 3) (w.alloc (.cells #[.int .i64 b.capacity, .int .i64 b.charge, .int .i64 b.most] 30)) #[.int .i64 0, .int .i64 0, .int .i64 0] 1 (by simp) (by decide) rfl
    rw [show (w.alloc (.cells #[.int .i64 b.capacity, .int .i64 b.charge, .int .i64 b.most] 30)).heap.size = w.heap.size + 1 by simp] at this
    exact this
  have HB : Below w.heap.size w ((w.alloc (.cells #[.int .i64 b.capacity, .int .i64 b.charge, .int .i64 b.most] 30)).alloc (.cells #[.int .i64 0, .int .i64 0, .int .i64 0] 30)) := ((Below.refl _ _).alloc (Nat.le_refl _) _).alloc (by simp) _
  have hsz : ((w.alloc (.cells #[.int .i64 b.capacity, .int .i64 b.charge, .int .i64 b.most] 30)).alloc (.cells #[.int .i64 0, .int .i64 0, .int .i64 0] 30)).heap.size = w.heap.size + 2 := by simp
  have hne : w.heap.size ≠ w.heap.size + 1 := by omega
  have hle : w.heap.size ≤ w.heap.size := Nat.le_refl _
  obtain ⟨u0, u1, u2⟩ := Battery.one_cells hX
  cases h0 : batB b
  · have hb := hide h0
    have HTB := hide (show tkB b watts minutes = false by simp [tkB, h0]); have HTV := hide (show tkV b watts minutes = ⟨0, 0, 0⟩ by rw [tkV, HTB.out]; rfl)
    clear h0
    go_enter Try.func20, Try.ntmps20
    go_wp2_with fail
    generalize ((w.alloc (.cells #[.int .i64 b.capacity, .int .i64 b.charge, .int .i64 b.most] 30)).alloc (.cells #[.int .i64 0, .int .i64 0, .int .i64 0] 30)) = w0 at *
    have y0 := after_cell u0; have y1 := after_cell u1; have y2 := after_cell u2
    refine wp_region_after (by kernel_rfl) (by kernel_rfl) ?_
    repeat (go_big_quiet_step ((first | (go_at_call 45; exact Calls.after (l18Battery_is hb.out _)) | (go_at_call 58; exact Calls.after_same (l1In_is hi.out _)) | (go_at_call 46; exact Calls.after_same (l18Minutes_is hmn.out _)) | (go_at_call 48; exact Calls.after_same (l18Energy_is hen.out _ x0 (by omega) m0 m1)))))
    refine wpQuiet_nil ?_
    rintro w1 ⟨⟨_, hb1⟩, rfl⟩
    clear y0 y1 y2 u0 u1 u2
    have hX := Own.below hX hb1; have hR := Own.below hR hb1; have HB := below_step HB hb1 (by first | exact Nat.le_refl _ | omega); obtain ⟨u0, u1, u2⟩ := Battery.one_cells hX
    go_wp2_with (first | (with_reducible show wpList _ _ _ (⟨none, _, _, _, _, _⟩ :: _) _ _; refine wpList_store_mid rfl 30 (.tmp 6) (.tmp 31) rfl (w.heap.size + 1) 0 _ rfl rfl (Own.there_ hR rfl (by simp)) (by kernel_rfl) (by simp [Value.oneCell']) ?_))
    have hRf := Own.set_ Battery.enc_len hR rfl (k := 0) (by simp) (⟨0, 0, 0⟩ : Battery)
    have hh := Battery.one_heap hRf
    refine bodyPost_ret (results_rt rfl _ _ (w.heap.size + 1) 30 _ (0, 0) _ rfl hh Try.underlying30 rfl (by kernel_rfl)) rfl ?_
    exact ⟨by rw [HTV.out, HTB.out] <;> rfl, below_setCells (w.heap.size + 1) (Nat.le_succ _) (Battery.enc ⟨0, 0, 0⟩) (0 * 3) _ HB⟩
  have hb := hide h0
  cases h1 : inB watts 0 b.most
  · have hi := hide h1
    have HTB := hide (show tkB b watts minutes = false by simp [tkB, h1]); have HTV := hide (show tkV b watts minutes = ⟨0, 0, 0⟩ by rw [tkV, HTB.out]; rfl)
    clear h0 h1
    go_enter Try.func20, Try.ntmps20
    go_wp2_with fail
    generalize ((w.alloc (.cells #[.int .i64 b.capacity, .int .i64 b.charge, .int .i64 b.most] 30)).alloc (.cells #[.int .i64 0, .int .i64 0, .int .i64 0] 30)) = w0 at *
    have y0 := after_cell u0; have y1 := after_cell u1; have y2 := after_cell u2
    refine wp_region_after (by kernel_rfl) (by kernel_rfl) ?_
    repeat (go_big_quiet_step ((first | (go_at_call 45; exact Calls.after (l18Battery_is hb.out _)) | (go_at_call 58; exact Calls.after_same (l1In_is hi.out _)) | (go_at_call 46; exact Calls.after_same (l18Minutes_is hmn.out _)) | (go_at_call 48; exact Calls.after_same (l18Energy_is hen.out _ x0 (by omega) m0 m1)))))
    refine wpQuiet_nil ?_
    rintro w1 ⟨⟨_, hb1⟩, rfl⟩
    clear y0 y1 y2 u0 u1 u2
    have hX := Own.below hX hb1; have hR := Own.below hR hb1; have HB := below_step HB hb1 (by first | exact Nat.le_refl _ | omega); obtain ⟨u0, u1, u2⟩ := Battery.one_cells hX
    go_wp2_with (first | (with_reducible show wpList _ _ _ (⟨none, _, _, _, _, _⟩ :: _) _ _; refine wpList_store_mid rfl 30 (.tmp 6) (.tmp 31) rfl (w.heap.size + 1) 0 _ rfl rfl (Own.there_ hR rfl (by simp)) (by kernel_rfl) (by simp [Value.oneCell']) ?_))
    have hRf := Own.set_ Battery.enc_len hR rfl (k := 0) (by simp) (⟨0, 0, 0⟩ : Battery)
    have hh := Battery.one_heap hRf
    refine bodyPost_ret (results_rt rfl _ _ (w.heap.size + 1) 30 _ (0, 0) _ rfl hh Try.underlying30 rfl (by kernel_rfl)) rfl ?_
    exact ⟨by rw [HTV.out, HTB.out] <;> rfl, below_setCells (w.heap.size + 1) (Nat.le_succ _) (Battery.enc ⟨0, 0, 0⟩) (0 * 3) _ HB⟩
  have hi := hide h1
  cases h2 : inB minutes 0 10000
  · have hmn := hide h2
    have HTB := hide (show tkB b watts minutes = false by simp [tkB, h2]); have HTV := hide (show tkV b watts minutes = ⟨0, 0, 0⟩ by rw [tkV, HTB.out]; rfl)
    clear h0 h1 h2
    go_enter Try.func20, Try.ntmps20
    go_wp2_with fail
    generalize ((w.alloc (.cells #[.int .i64 b.capacity, .int .i64 b.charge, .int .i64 b.most] 30)).alloc (.cells #[.int .i64 0, .int .i64 0, .int .i64 0] 30)) = w0 at *
    have y0 := after_cell u0; have y1 := after_cell u1; have y2 := after_cell u2
    refine wp_region_after (by kernel_rfl) (by kernel_rfl) ?_
    repeat (go_big_quiet_step ((first | (go_at_call 45; exact Calls.after (l18Battery_is hb.out _)) | (go_at_call 58; exact Calls.after_same (l1In_is hi.out _)) | (go_at_call 46; exact Calls.after_same (l18Minutes_is hmn.out _)) | (go_at_call 48; exact Calls.after_same (l18Energy_is hen.out _ x0 (by omega) m0 m1)))))
    refine wpQuiet_nil ?_
    rintro w1 ⟨⟨_, hb1⟩, rfl⟩
    clear y0 y1 y2 u0 u1 u2
    have hX := Own.below hX hb1; have hR := Own.below hR hb1; have HB := below_step HB hb1 (by first | exact Nat.le_refl _ | omega); obtain ⟨u0, u1, u2⟩ := Battery.one_cells hX
    go_wp2_with (first | (with_reducible show wpList _ _ _ (⟨none, _, _, _, _, _⟩ :: _) _ _; refine wpList_store_mid rfl 30 (.tmp 6) (.tmp 31) rfl (w.heap.size + 1) 0 _ rfl rfl (Own.there_ hR rfl (by simp)) (by kernel_rfl) (by simp [Value.oneCell']) ?_))
    have hRf := Own.set_ Battery.enc_len hR rfl (k := 0) (by simp) (⟨0, 0, 0⟩ : Battery)
    have hh := Battery.one_heap hRf
    refine bodyPost_ret (results_rt rfl _ _ (w.heap.size + 1) 30 _ (0, 0) _ rfl hh Try.underlying30 rfl (by kernel_rfl)) rfl ?_
    exact ⟨by rw [HTV.out, HTB.out] <;> rfl, below_setCells (w.heap.size + 1) (Nat.le_succ _) (Battery.enc ⟨0, 0, 0⟩) (0 * 3) _ HB⟩
  have hmn := hide h2
  obtain ⟨⟨a0, a1⟩, ⟨c0, c1⟩, d0, d1⟩ := batB_bd h0
  obtain ⟨x0, x1⟩ := inB_iff.1 h1
  obtain ⟨m0, m1⟩ := inB_iff.1 h2
  obtain ⟨e0, e1⟩ := energy_bd x0 (show watts ≤ 8000000 by omega) m0 m1
  obtain ⟨E, hE⟩ : ∃ E, energyI watts minutes = E := ⟨_, rfl⟩
  rw [hE] at e0 e1
  by_cases h3 : b.charge < E
  · have hd3 : decide (b.charge < E) = true := decide_eq_true h3
    have hen := hide hE
    have HTB := hide (show tkB b watts minutes = false by simp [tkB, hE]; omega); have HTV := hide (show tkV b watts minutes = ⟨0, 0, 0⟩ by rw [tkV, HTB.out]; rfl)
    clear h0 h1 h2 hE
    go_enter Try.func20, Try.ntmps20
    go_wp2_with fail
    generalize ((w.alloc (.cells #[.int .i64 b.capacity, .int .i64 b.charge, .int .i64 b.most] 30)).alloc (.cells #[.int .i64 0, .int .i64 0, .int .i64 0] 30)) = w0 at *
    have y0 := after_cell u0; have y1 := after_cell u1; have y2 := after_cell u2
    refine wp_region_after (by kernel_rfl) (by kernel_rfl) ?_
    repeat (go_big_quiet_step ((first | (go_at_call 45; exact Calls.after (l18Battery_is hb.out _)) | (go_at_call 58; exact Calls.after_same (l1In_is hi.out _)) | (go_at_call 46; exact Calls.after_same (l18Minutes_is hmn.out _)) | (go_at_call 48; exact Calls.after_same (l18Energy_is hen.out _ x0 (by omega) m0 m1)))))
    refine wpQuiet_nil ?_
    rintro w1 ⟨⟨_, hb1⟩, rfl⟩
    clear y0 y1 y2 u0 u1 u2
    have hX := Own.below hX hb1; have hR := Own.below hR hb1; have HB := below_step HB hb1 (by first | exact Nat.le_refl _ | omega); obtain ⟨u0, u1, u2⟩ := Battery.one_cells hX
    go_wp2_with (first | (with_reducible show wpList _ _ _ (⟨none, _, _, _, _, _⟩ :: _) _ _; refine wpList_store_mid rfl 30 (.tmp 6) (.tmp 31) rfl (w.heap.size + 1) 0 _ rfl rfl (Own.there_ hR rfl (by simp)) (by kernel_rfl) (by simp [Value.oneCell']) ?_))
    have hRf := Own.set_ Battery.enc_len hR rfl (k := 0) (by simp) (⟨0, 0, 0⟩ : Battery)
    have hh := Battery.one_heap hRf
    refine bodyPost_ret (results_rt rfl _ _ (w.heap.size + 1) 30 _ (0, 0) _ rfl hh Try.underlying30 rfl (by kernel_rfl)) rfl ?_
    exact ⟨by rw [HTV.out, HTB.out] <;> rfl, below_setCells (w.heap.size + 1) (Nat.le_succ _) (Battery.enc ⟨0, 0, 0⟩) (0 * 3) _ HB⟩
  have hd3 : decide (b.charge < E) = false := decide_eq_false h3
  have hen := hide hE
  have HTB := hide (show tkB b watts minutes = true by simp [tkB, h0, h1, h2, hE]; omega); have HTV := hide (show tkV b watts minutes = ⟨b.capacity, b.charge - E, b.most⟩ by rw [tkV, HTB.out, hen.out]; rfl)
  clear h0 h1 h2 hE
  go_enter Try.func20, Try.ntmps20
  go_wp2_with fail
  generalize ((w.alloc (.cells #[.int .i64 b.capacity, .int .i64 b.charge, .int .i64 b.most] 30)).alloc (.cells #[.int .i64 0, .int .i64 0, .int .i64 0] 30)) = w0 at *
  have y0 := after_cell u0; have y1 := after_cell u1; have y2 := after_cell u2
  refine wp_region_after (by kernel_rfl) (by kernel_rfl) ?_
  repeat (go_big_quiet_step ((first | (go_at_call 45; exact Calls.after (l18Battery_is hb.out _)) | (go_at_call 58; exact Calls.after_same (l1In_is hi.out _)) | (go_at_call 46; exact Calls.after_same (l18Minutes_is hmn.out _)) | (go_at_call 48; exact Calls.after_same (l18Energy_is hen.out _ x0 (by omega) m0 m1)))))
  refine wpQuiet_nil ?_
  rintro w1 ⟨⟨_, hb1⟩, rfl⟩
  clear y0 y1 y2 u0 u1 u2
  have hX := Own.below hX hb1; have hR := Own.below hR hb1; have HB := below_step HB hb1 (by first | exact Nat.le_refl _ | omega); obtain ⟨u0, u1, u2⟩ := Battery.one_cells hX
  go_wp2_with fail
  have hX := Own.below hX (Below.refl _ _).drew; have hR := Own.below hR (Below.refl _ _).drew; have HB := below_step HB (Below.refl _ _).drew (Nat.le_refl _)
  refine wp_region_tail 7 (by kernel_rfl) (by kernel_rfl) ?_
  simp only [List.take_succ_cons, List.take_zero, List.drop_succ_cons, List.drop_zero]
  obtain ⟨W, hW⟩ : ∃ W, w1.drew = W := ⟨_, rfl⟩
  rw [hW] at hX hR HB ⊢
  clear u0 u1 u2 hW
  obtain ⟨u0, u1, u2⟩ := Battery.one_cells hX
  have hw4 : IntKind.i64.wrap (b.charge - E) = b.charge - E := by rw [IntKind.wrap_i64]; omega
  repeat (first | still_call (Calls.still (l18Energy_is hen.out _ x0 (by omega) m0 m1)) | still_step)
  refine wpStill_nil ?_
  have hfz := Own.frozen_ hX rfl 1
  have hXS := Own.set_cell Battery.enc_len hX rfl (k := 0) (j := 1) (c := b) (c' := ⟨b.capacity, b.charge - E, b.most⟩) rfl (by omega) (u := .int .i64 (b.charge - E)) rfl
  have hbs := (Below.refl w.heap.size W).setCell (p := ⟨w.heap.size, 1, none⟩) hle (.int .i64 (b.charge - E))
  have hR := own_grown hR (moved_set (g := w.heap.size) (j := 1) (u := .int .i64 (b.charge - E)) (moved_refl W w.heap.size)) (.inl (by intro e; injection e with e; exact hne e.symm))
  have HB := HB.trans hbs; clear hbs
  go_wp2_with (first | (with_reducible show wpList _ _ _ (⟨none, _, _, _, _, _⟩ :: _) _ _; refine wpList_store_mid rfl 30 (.tmp 6) (.tmp 39) rfl (w.heap.size + 1) 0 _ rfl rfl (Own.there_ hR rfl (by simp)) (by kernel_rfl) (by simp [Value.oneCell']) ?_))
  have hRf := Own.set_ Battery.enc_len hR rfl (k := 0) (by simp) (⟨b.capacity, b.charge - E, b.most⟩ : Battery)
  have hh := Battery.one_heap hRf
  refine bodyPost_ret (results_rt rfl _ _ (w.heap.size + 1) 30 _ (0, 0) _ rfl hh Try.underlying30 rfl (by kernel_rfl)) rfl ?_
  exact ⟨by rw [HTV.out, HTB.out] <;> rfl, below_setCells (w.heap.size + 1) (Nat.le_succ _) (Battery.enc ⟨b.capacity, b.charge - E, b.most⟩) (0 * 3) _ HB⟩
set_option maxRecDepth 100000 in
set_option maxHeartbeats 4000000 in
theorem PutIn_any (b : Battery) (watts minutes : Int) (w : World) :
    Calls Try.prog 21 #[.agg #[.int .i64 b.capacity, .int .i64 b.charge, .int .i64 b.most], .int .i64 watts, .int .i64 minutes] w fun e w' => e = .returned (.tuple #[.agg #[.int .i64 (ptV b watts minutes).capacity, .int .i64 (ptV b watts minutes).charge, .int .i64 (ptV b watts minutes).most], .bool (ptB b watts minutes)]) ∧ Below w.heap.size w w' := by
  have hX : Own Battery.enc 3 30 w.heap.size ((w.alloc (.cells #[.int .i64 b.capacity, .int .i64 b.charge, .int .i64 b.most] 30)).alloc (.cells #[.int .i64 0, .int .i64 0, .int .i64 0] 30)) (.slice (some ⟨w.heap.size, 0, none⟩) 1 1) [b] := Own.below (World.ownsRow_lit (e := 30) (size := 3) w #[.int .i64 b.capacity, .int .i64 b.charge, .int .i64 b.most] 1 (Nat.le_refl _) (by decide) rfl) ((Below.refl _ _).alloc (Nat.le_refl _) _)
  have hR : Own Battery.enc 3 30 w.heap.size ((w.alloc (.cells #[.int .i64 b.capacity, .int .i64 b.charge, .int .i64 b.most] 30)).alloc (.cells #[.int .i64 0, .int .i64 0, .int .i64 0] 30)) (.slice (some ⟨w.heap.size + 1, 0, none⟩) 1 1) [(⟨0, 0, 0⟩ : Battery)] := by
    have := World.ownsRow_lit (base := w.heap.size) (e := 30) (size := 3) (w.alloc (.cells #[.int .i64 b.capacity, .int .i64 b.charge, .int .i64 b.most] 30)) #[.int .i64 0, .int .i64 0, .int .i64 0] 1 (by simp) (by decide) rfl
    rw [show (w.alloc (.cells #[.int .i64 b.capacity, .int .i64 b.charge, .int .i64 b.most] 30)).heap.size = w.heap.size + 1 by simp] at this
    exact this
  have HB : Below w.heap.size w ((w.alloc (.cells #[.int .i64 b.capacity, .int .i64 b.charge, .int .i64 b.most] 30)).alloc (.cells #[.int .i64 0, .int .i64 0, .int .i64 0] 30)) := ((Below.refl _ _).alloc (Nat.le_refl _) _).alloc (by simp) _
  have hsz : ((w.alloc (.cells #[.int .i64 b.capacity, .int .i64 b.charge, .int .i64 b.most] 30)).alloc (.cells #[.int .i64 0, .int .i64 0, .int .i64 0] 30)).heap.size = w.heap.size + 2 := by simp
  have hne : w.heap.size ≠ w.heap.size + 1 := by omega
  have hle : w.heap.size ≤ w.heap.size := Nat.le_refl _
  obtain ⟨u0, u1, u2⟩ := Battery.one_cells hX
  cases hm0 : movedB b watts minutes
  · have hm := hide hm0; have HTB := hide (pt_no hm0)
    have HTV := hide (show ptV b watts minutes = ⟨0, 0, 0⟩ by rw [ptV, HTB.out]; rfl)
    clear hm0
    go_enter Try.func21, Try.ntmps21
    go_wp2_with (first | (go_at_call 50; refine (isMoved_is hm.out _).mono ?_; rintro e w1 ⟨rfl, hb1⟩; have hX := Own.below hX hb1; have HB := below_step HB hb1 (by first | exact Nat.le_refl _ | omega); obtain ⟨u0, u1, u2⟩ := Battery.one_cells hX; have hR := Own.below hR hb1) | (with_reducible show wpList _ _ _ (⟨none, _, _, _, _, _⟩ :: _) _ _; refine wpList_store_mid rfl 30 (.tmp 6) (.tmp 19) rfl (w.heap.size + 1) 0 _ rfl rfl (Own.there_ hR rfl (by simp)) (by kernel_rfl) (by simp [Value.oneCell']) ?_))
    have hRf := Own.set_ Battery.enc_len hR rfl (k := 0) (by simp) (⟨0, 0, 0⟩ : Battery)
    have hh := Battery.one_heap hRf
    refine bodyPost_ret (results_rt rfl _ _ (w.heap.size + 1) 30 _ (0, 0) _ rfl hh Try.underlying30 rfl (by kernel_rfl)) rfl ?_
    exact ⟨by rw [HTV.out, HTB.out] <;> rfl, below_setCells (w.heap.size + 1) (Nat.le_succ _) (Battery.enc ⟨0, 0, 0⟩) (0 * 3) _ HB⟩
  have hm := hide hm0
  obtain ⟨hb, ⟨x0, x1⟩, m0, m1⟩ := moved_bd hm0
  obtain ⟨⟨a0, a1⟩, ⟨c0, c1⟩, d0, d1⟩ := batB_bd hb
  by_cases h1 : b.most < watts
  · have HTB := hide (show ptB b watts minutes = false by simp [ptB, inB]; omega)
    have HTV := hide (show ptV b watts minutes = ⟨0, 0, 0⟩ by rw [ptV, HTB.out]; rfl)
    clear hm0
    go_enter Try.func21, Try.ntmps21
    go_wp2_with (first | (go_at_call 50; refine (isMoved_is hm.out _).mono ?_; rintro e w1 ⟨rfl, hb1⟩; have hX := Own.below hX hb1; have HB := below_step HB hb1 (by first | exact Nat.le_refl _ | omega); obtain ⟨u0, u1, u2⟩ := Battery.one_cells hX; have hR := Own.below hR hb1) | (with_reducible show wpList _ _ _ (⟨none, _, _, _, _, _⟩ :: _) _ _; refine wpList_store_mid rfl 30 (.tmp 6) (.tmp 19) rfl (w.heap.size + 1) 0 _ rfl rfl (Own.there_ hR rfl (by simp)) (by kernel_rfl) (by simp [Value.oneCell']) ?_))
    have hRf := Own.set_ Battery.enc_len hR rfl (k := 0) (by simp) (⟨0, 0, 0⟩ : Battery)
    have hh := Battery.one_heap hRf
    refine bodyPost_ret (results_rt rfl _ _ (w.heap.size + 1) 30 _ (0, 0) _ rfl hh Try.underlying30 rfl (by kernel_rfl)) rfl ?_
    exact ⟨by rw [HTV.out, HTB.out] <;> rfl, below_setCells (w.heap.size + 1) (Nat.le_succ _) (Battery.enc ⟨0, 0, 0⟩) (0 * 3) _ HB⟩
  have HTB := hide (show ptB b watts minutes = true by simp only [ptB, hb, Bool.true_and, Bool.and_eq_true, inB_iff]; exact ⟨⟨x0, by omega⟩, m0, m1⟩)
  obtain ⟨q0, q1, _, q3, q4⟩ := quo_bd x0 (show watts ≤ 1000000 by omega) m0 m1
  obtain ⟨S, hS⟩ : ∃ S, min (b.charge + watts * minutes / 60) b.capacity = S := ⟨_, rfl⟩
  have HTV := hide (show ptV b watts minutes = ⟨b.capacity, S, b.most⟩ by rw [ptV, HTB.out, ← hS]; rfl)
  clear hm0 hb
  by_cases h3 : b.charge + watts * minutes / 60 ≤ b.capacity
  · obtain rfl : S = (b.charge + watts * minutes / 60) := by omega
    clear hS
    go_enter Try.func21, Try.ntmps21
    go_upto_region 3 with (first | (go_at_call 50; refine (isMoved_is hm.out _).mono ?_; rintro e w1 ⟨rfl, hb1⟩; have hX := Own.below hX hb1; have HB := below_step HB hb1 (by first | exact Nat.le_refl _ | omega); obtain ⟨u0, u1, u2⟩ := Battery.one_cells hX; have hR := Own.below hR hb1))
    have hfz := Own.frozen_ hX rfl 1
    have hXS := Own.set_cell Battery.enc_len hX rfl (k := 0) (j := 1) (c := b) (c' := ⟨b.capacity, (b.charge + watts * minutes / 60), b.most⟩) rfl (by omega) (u := .int .i64 (b.charge + watts * minutes / 60)) rfl
    have hbs := (Below.refl w.heap.size w1).setCell (p := ⟨w.heap.size, 1, none⟩) hle (.int .i64 (b.charge + watts * minutes / 60))
    have hR := own_grown hR (moved_set (g := w.heap.size) (j := 1) (u := .int .i64 (b.charge + watts * minutes / 60)) (moved_refl w1 w.heap.size)) (.inl (by intro e; injection e with e; exact hne e.symm))
    have HB := HB.trans hbs; clear hbs
    go_wp2_with (first | (with_reducible show wpList _ _ _ (⟨none, _, _, _, _, _⟩ :: _) _ _; refine wpList_store_mid rfl 30 (.tmp 6) (.tmp 31) rfl (w.heap.size + 1) 0 _ rfl rfl (Own.there_ hR rfl (by simp)) (by kernel_rfl) (by simp [Value.oneCell']) ?_))
    have hRf := Own.set_ Battery.enc_len hR rfl (k := 0) (by simp) (⟨b.capacity, (b.charge + watts * minutes / 60), b.most⟩ : Battery)
    have hh := Battery.one_heap hRf
    refine bodyPost_ret (results_rt rfl _ _ (w.heap.size + 1) 30 _ (0, 0) _ rfl hh Try.underlying30 rfl (by kernel_rfl)) rfl ?_
    exact ⟨by rw [HTV.out, HTB.out] <;> rfl, below_setCells (w.heap.size + 1) (Nat.le_succ _) (Battery.enc ⟨b.capacity, (b.charge + watts * minutes / 60), b.most⟩) (0 * 3) _ HB⟩
  · obtain rfl : S = b.capacity := by omega
    clear hS
    go_enter Try.func21, Try.ntmps21
    go_upto_region 3 with (first | (go_at_call 50; refine (isMoved_is hm.out _).mono ?_; rintro e w1 ⟨rfl, hb1⟩; have hX := Own.below hX hb1; have HB := below_step HB hb1 (by first | exact Nat.le_refl _ | omega); obtain ⟨u0, u1, u2⟩ := Battery.one_cells hX; have hR := Own.below hR hb1))
    have hfz := Own.frozen_ hX rfl 1
    have hXS := Own.set_cell Battery.enc_len hX rfl (k := 0) (j := 1) (c := b) (c' := ⟨b.capacity, b.capacity, b.most⟩) rfl (by omega) (u := .int .i64 b.capacity) rfl
    have hbs := (Below.refl w.heap.size w1).setCell (p := ⟨w.heap.size, 1, none⟩) hle (.int .i64 b.capacity)
    have hR := own_grown hR (moved_set (g := w.heap.size) (j := 1) (u := .int .i64 b.capacity) (moved_refl w1 w.heap.size)) (.inl (by intro e; injection e with e; exact hne e.symm))
    have HB := HB.trans hbs; clear hbs
    go_wp2_with (first | (with_reducible show wpList _ _ _ (⟨none, _, _, _, _, _⟩ :: _) _ _; refine wpList_store_mid rfl 30 (.tmp 6) (.tmp 31) rfl (w.heap.size + 1) 0 _ rfl rfl (Own.there_ hR rfl (by simp)) (by kernel_rfl) (by simp [Value.oneCell']) ?_))
    have hRf := Own.set_ Battery.enc_len hR rfl (k := 0) (by simp) (⟨b.capacity, b.capacity, b.most⟩ : Battery)
    have hh := Battery.one_heap hRf
    refine bodyPost_ret (results_rt rfl _ _ (w.heap.size + 1) 30 _ (0, 0) _ rfl hh Try.underlying30 rfl (by kernel_rfl)) rfl ?_
    exact ⟨by rw [HTV.out, HTB.out] <;> rfl, below_setCells (w.heap.size + 1) (Nat.le_succ _) (Battery.enc ⟨b.capacity, b.capacity, b.most⟩) (0 * 3) _ HB⟩
set_option maxRecDepth 100000 in
set_option maxHeartbeats 4000000 in
theorem PutIn_spec (b : Battery) (watts minutes : Int) (w : World) :
    Calls Try.prog 22 #[.agg #[.int .i64 b.capacity, .int .i64 b.charge, .int .i64 b.most], .int .i64 watts, .int .i64 minutes] w fun e w' => e = .returned (.tuple #[.agg #[.int .i64 (ptV b watts minutes).capacity, .int .i64 (ptV b watts minutes).charge, .int .i64 (ptV b watts minutes).most], .bool (ptB b watts minutes)]) ∧ Below w.heap.size w w' := by
  have hX : Own Battery.enc 3 30 w.heap.size ((w.alloc (.cells #[.int .i64 b.capacity, .int .i64 b.charge, .int .i64 b.most] 30)).alloc (.cells #[.int .i64 0, .int .i64 0, .int .i64 0] 30)) (.slice (some ⟨w.heap.size, 0, none⟩) 1 1) [b] := Own.below (World.ownsRow_lit (e := 30) (size := 3) w #[.int .i64 b.capacity, .int .i64 b.charge, .int .i64 b.most] 1 (Nat.le_refl _) (by decide) rfl) ((Below.refl _ _).alloc (Nat.le_refl _) _)
  have hR : Own Battery.enc 3 30 w.heap.size ((w.alloc (.cells #[.int .i64 b.capacity, .int .i64 b.charge, .int .i64 b.most] 30)).alloc (.cells #[.int .i64 0, .int .i64 0, .int .i64 0] 30)) (.slice (some ⟨w.heap.size + 1, 0, none⟩) 1 1) [(⟨0, 0, 0⟩ : Battery)] := by
    have := World.ownsRow_lit (base := w.heap.size) (e := 30) (size := 3) (w.alloc (.cells #[.int .i64 b.capacity, .int .i64 b.charge, .int .i64 b.most] 30)) #[.int .i64 0, .int .i64 0, .int .i64 0] 1 (by simp) (by decide) rfl
    rw [show (w.alloc (.cells #[.int .i64 b.capacity, .int .i64 b.charge, .int .i64 b.most] 30)).heap.size = w.heap.size + 1 by simp] at this
    exact this
  have HB : Below w.heap.size w ((w.alloc (.cells #[.int .i64 b.capacity, .int .i64 b.charge, .int .i64 b.most] 30)).alloc (.cells #[.int .i64 0, .int .i64 0, .int .i64 0] 30)) := ((Below.refl _ _).alloc (Nat.le_refl _) _).alloc (by simp) _
  have hsz : ((w.alloc (.cells #[.int .i64 b.capacity, .int .i64 b.charge, .int .i64 b.most] 30)).alloc (.cells #[.int .i64 0, .int .i64 0, .int .i64 0] 30)).heap.size = w.heap.size + 2 := by simp
  have hne : w.heap.size ≠ w.heap.size + 1 := by omega
  have hle : w.heap.size ≤ w.heap.size := Nat.le_refl _
  obtain ⟨u0, u1, u2⟩ := Battery.one_cells hX
  cases h0 : batB b
  · have hb := hide h0
    have HTB := hide (show ptB b watts minutes = false by simp [ptB, h0]); have HTV := hide (show ptV b watts minutes = ⟨0, 0, 0⟩ by rw [ptV, HTB.out]; rfl)
    clear h0
    go_enter Try.func22, Try.ntmps22
    go_wp2_with (first | (go_at_call 45; refine (l18Battery_is hb.out _).mono ?_; rintro e w1 ⟨rfl, hb1⟩; have hX := Own.below hX hb1; have hR := Own.below hR hb1; have HB := below_step HB hb1 (by first | exact Nat.le_refl _ | omega); obtain ⟨u0, u1, u2⟩ := Battery.one_cells hX) | (go_at_call 58; refine (l1In_is hi.out _).mono ?_; rintro e w' ⟨rfl, rfl⟩) | (go_at_call 46; refine (l18Minutes_is hmn.out _).mono ?_; rintro e w' ⟨rfl, rfl⟩) | (go_at_call 55; refine (l1Least_any _ _ _).mono ?_; rintro e w' ⟨rfl, rfl⟩) | (with_reducible show wpList _ _ _ (⟨none, _, _, _, _, _⟩ :: _) _ _; refine wpList_store_mid rfl 30 (.tmp 6) (.tmp 23) rfl (w.heap.size + 1) 0 _ rfl rfl (Own.there_ hR rfl (by simp)) (by kernel_rfl) (by simp [Value.oneCell']) ?_))
    have hRf := Own.set_ Battery.enc_len hR rfl (k := 0) (by simp) (⟨0, 0, 0⟩ : Battery)
    have hh := Battery.one_heap hRf
    refine bodyPost_ret (results_rt rfl _ _ (w.heap.size + 1) 30 _ (0, 0) _ rfl hh Try.underlying30 rfl (by kernel_rfl)) rfl ?_
    exact ⟨by rw [HTV.out, HTB.out] <;> rfl, below_setCells (w.heap.size + 1) (Nat.le_succ _) (Battery.enc ⟨0, 0, 0⟩) (0 * 3) _ HB⟩
  have hb := hide h0
  cases h1 : inB watts 0 b.most
  · have hi := hide h1
    have HTB := hide (show ptB b watts minutes = false by simp [ptB, h1]); have HTV := hide (show ptV b watts minutes = ⟨0, 0, 0⟩ by rw [ptV, HTB.out]; rfl)
    clear h0 h1
    go_enter Try.func22, Try.ntmps22
    go_wp2_with (first | (go_at_call 45; refine (l18Battery_is hb.out _).mono ?_; rintro e w1 ⟨rfl, hb1⟩; have hX := Own.below hX hb1; have hR := Own.below hR hb1; have HB := below_step HB hb1 (by first | exact Nat.le_refl _ | omega); obtain ⟨u0, u1, u2⟩ := Battery.one_cells hX) | (go_at_call 58; refine (l1In_is hi.out _).mono ?_; rintro e w' ⟨rfl, rfl⟩) | (go_at_call 46; refine (l18Minutes_is hmn.out _).mono ?_; rintro e w' ⟨rfl, rfl⟩) | (go_at_call 55; refine (l1Least_any _ _ _).mono ?_; rintro e w' ⟨rfl, rfl⟩) | (with_reducible show wpList _ _ _ (⟨none, _, _, _, _, _⟩ :: _) _ _; refine wpList_store_mid rfl 30 (.tmp 6) (.tmp 23) rfl (w.heap.size + 1) 0 _ rfl rfl (Own.there_ hR rfl (by simp)) (by kernel_rfl) (by simp [Value.oneCell']) ?_))
    have hRf := Own.set_ Battery.enc_len hR rfl (k := 0) (by simp) (⟨0, 0, 0⟩ : Battery)
    have hh := Battery.one_heap hRf
    refine bodyPost_ret (results_rt rfl _ _ (w.heap.size + 1) 30 _ (0, 0) _ rfl hh Try.underlying30 rfl (by kernel_rfl)) rfl ?_
    exact ⟨by rw [HTV.out, HTB.out] <;> rfl, below_setCells (w.heap.size + 1) (Nat.le_succ _) (Battery.enc ⟨0, 0, 0⟩) (0 * 3) _ HB⟩
  have hi := hide h1
  cases h2 : inB minutes 0 10000
  · have hmn := hide h2
    have HTB := hide (show ptB b watts minutes = false by simp [ptB, h2]); have HTV := hide (show ptV b watts minutes = ⟨0, 0, 0⟩ by rw [ptV, HTB.out]; rfl)
    clear h0 h1 h2
    go_enter Try.func22, Try.ntmps22
    go_wp2_with (first | (go_at_call 45; refine (l18Battery_is hb.out _).mono ?_; rintro e w1 ⟨rfl, hb1⟩; have hX := Own.below hX hb1; have hR := Own.below hR hb1; have HB := below_step HB hb1 (by first | exact Nat.le_refl _ | omega); obtain ⟨u0, u1, u2⟩ := Battery.one_cells hX) | (go_at_call 58; refine (l1In_is hi.out _).mono ?_; rintro e w' ⟨rfl, rfl⟩) | (go_at_call 46; refine (l18Minutes_is hmn.out _).mono ?_; rintro e w' ⟨rfl, rfl⟩) | (go_at_call 55; refine (l1Least_any _ _ _).mono ?_; rintro e w' ⟨rfl, rfl⟩) | (with_reducible show wpList _ _ _ (⟨none, _, _, _, _, _⟩ :: _) _ _; refine wpList_store_mid rfl 30 (.tmp 6) (.tmp 23) rfl (w.heap.size + 1) 0 _ rfl rfl (Own.there_ hR rfl (by simp)) (by kernel_rfl) (by simp [Value.oneCell']) ?_))
    have hRf := Own.set_ Battery.enc_len hR rfl (k := 0) (by simp) (⟨0, 0, 0⟩ : Battery)
    have hh := Battery.one_heap hRf
    refine bodyPost_ret (results_rt rfl _ _ (w.heap.size + 1) 30 _ (0, 0) _ rfl hh Try.underlying30 rfl (by kernel_rfl)) rfl ?_
    exact ⟨by rw [HTV.out, HTB.out] <;> rfl, below_setCells (w.heap.size + 1) (Nat.le_succ _) (Battery.enc ⟨0, 0, 0⟩) (0 * 3) _ HB⟩
  have hmn := hide h2
  obtain ⟨⟨a0, a1⟩, ⟨c0, c1⟩, d0, d1⟩ := batB_bd h0
  obtain ⟨x0, x1⟩ := inB_iff.1 h1
  obtain ⟨m0, m1⟩ := inB_iff.1 h2
  have HTB := hide (show ptB b watts minutes = true by simp [ptB, h0, h1, h2])
  obtain ⟨q0, q1, _, q3, q4⟩ := quo_bd x0 (show watts ≤ 1000000 by omega) m0 m1
  have HTV := hide (show ptV b watts minutes = ⟨b.capacity, min b.capacity (b.charge + watts * minutes / 60), b.most⟩ by rw [ptV, HTB.out, Int.min_comm]; rfl)
  clear h0 h1 h2
  go_enter Try.func22, Try.ntmps22
  go_upto_region 3 with (first | (go_at_call 45; refine (l18Battery_is hb.out _).mono ?_; rintro e w1 ⟨rfl, hb1⟩; have hX := Own.below hX hb1; have hR := Own.below hR hb1; have HB := below_step HB hb1 (by first | exact Nat.le_refl _ | omega); obtain ⟨u0, u1, u2⟩ := Battery.one_cells hX) | (go_at_call 58; refine (l1In_is hi.out _).mono ?_; rintro e w' ⟨rfl, rfl⟩) | (go_at_call 46; refine (l18Minutes_is hmn.out _).mono ?_; rintro e w' ⟨rfl, rfl⟩) | (go_at_call 55; refine (l1Least_any _ _ _).mono ?_; rintro e w' ⟨rfl, rfl⟩))
  have hfz := Own.frozen_ hX rfl 1
  have hXS := Own.set_cell Battery.enc_len hX rfl (k := 0) (j := 1) (c := b) (c' := ⟨b.capacity, min b.capacity (b.charge + watts * minutes / 60), b.most⟩) rfl (by omega) (u := .int .i64 (min b.capacity (b.charge + watts * minutes / 60))) rfl
  have hbs := (Below.refl w.heap.size w1).setCell (p := ⟨w.heap.size, 1, none⟩) hle (.int .i64 (min b.capacity (b.charge + watts * minutes / 60)))
  have hR := own_grown hR (moved_set (g := w.heap.size) (j := 1) (u := .int .i64 (min b.capacity (b.charge + watts * minutes / 60))) (moved_refl w1 w.heap.size)) (.inl (by intro e; injection e with e; exact hne e.symm))
  have HB := HB.trans hbs; clear hbs
  go_wp2_with (first | (go_at_call 45; refine (l18Battery_is hb.out _).mono ?_; rintro e w1 ⟨rfl, hb1⟩; have hX := Own.below hX hb1; have hR := Own.below hR hb1; have HB := below_step HB hb1 (by first | exact Nat.le_refl _ | omega); obtain ⟨u0, u1, u2⟩ := Battery.one_cells hX) | (go_at_call 58; refine (l1In_is hi.out _).mono ?_; rintro e w' ⟨rfl, rfl⟩) | (go_at_call 46; refine (l18Minutes_is hmn.out _).mono ?_; rintro e w' ⟨rfl, rfl⟩) | (go_at_call 55; refine (l1Least_any _ _ _).mono ?_; rintro e w' ⟨rfl, rfl⟩) | (with_reducible show wpList _ _ _ (⟨none, _, _, _, _, _⟩ :: _) _ _; refine wpList_store_mid rfl 30 (.tmp 6) (.tmp 35) rfl (w.heap.size + 1) 0 _ rfl rfl (Own.there_ hR rfl (by simp)) (by kernel_rfl) (by simp [Value.oneCell']) ?_))
  have hRf := Own.set_ Battery.enc_len hR rfl (k := 0) (by simp) (⟨b.capacity, min b.capacity (b.charge + watts * minutes / 60), b.most⟩ : Battery)
  have hh := Battery.one_heap hRf
  refine bodyPost_ret (results_rt rfl _ _ (w.heap.size + 1) 30 _ (0, 0) _ rfl hh Try.underlying30 rfl (by kernel_rfl)) rfl ?_
  exact ⟨by rw [HTV.out, HTB.out] <;> rfl, below_setCells (w.heap.size + 1) (Nat.le_succ _) (Battery.enc ⟨b.capacity, min b.capacity (b.charge + watts * minutes / 60), b.most⟩) (0 * 3) _ HB⟩
end Go.Proofs.Ytafefnpmgpmjpaa
