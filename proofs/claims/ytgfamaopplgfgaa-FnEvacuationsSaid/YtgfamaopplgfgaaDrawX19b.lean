/- What the law of the evacuations draws. -/
import Derived.Test.YtgfamaopplgfgaaDrawX19
namespace Go.Proofs.Ytgfamaopplgfgaa
open Go Go.RowKit
set_option linter.unusedVariables false
set_option maxRecDepth 100000 in
set_option maxHeartbeats 2000000 in
theorem DrawBestEvacuation_any (A : Option Addr) (Lc : List Int) (cap : Nat) (w : World) (hc : CodeIs w A Lc) :
    Calls Try.prog 15 #[.slice A Lc.length cap] w (LCPDraw w) := by
  have hcur := cur_new hc cap
  have hb0 : Below w.heap.size w (w.alloc (.cells #[.slice A Lc.length cap, .int .i64 0, .int .u64 0] 77)) := (Below.refl _ _).alloc (Nat.le_refl _) _
  have hg0 := hcur.lt
  have HZ0 := hide (show (w.alloc (.cells #[.slice A Lc.length cap, .int .i64 0, .int .u64 0] 77)).heap.size = w.heap.size + 1 by simp)
  go_enter Try.func15, Try.ntmps15
  go_wp2_with fail
  generalize (w.alloc (.cells #[.slice A Lc.length cap, .int .i64 0, .int .u64 0] 77)) = w0 at *
  have HB := hb0; clear hb0
  refine (shortLine_any _ _ _ _ (by assumption) (by omega)).mono ?_
  rintro e w1 ⟨AL, cL, nL, L, rfl, hLL, hownL, hzL, hcur, hm⟩
  have HB := HB.trans (below_moved hm (Nat.le_refl _) (by omega)); have hs1 := hm.size; clear hm
  go_wp2_with fail
  refine (crews_any _ _ _ _ _ _ _ (by omega) (by assumption) (by omega)).mono ?_
  rintro e w2 ⟨AC, cC, nC, C, rfl, hLC, hownC, hzC, hcur, hm⟩
  have hownL := own_moved hm (by omega) hownL
  have HB := HB.trans (below_moved hm (Nat.le_refl _) (by omega)); have hs2 := hm.size; clear hm
  go_wp2_with fail
  refine (people_any _ _ _ _ _ _ _ (by omega) (by assumption) (by omega)).mono ?_
  rintro e w3 ⟨AP, cP, nP, P, rfl, hLP, hownP, hzP, hcur, hm⟩
  have hownL := own_moved hm (by omega) hownL
  have hownC := own_moved hm (by omega) hownC
  have HB := HB.trans (below_moved hm (Nat.le_refl _) (by omega)); have hs3 := hm.size; clear hm
  go_wp2_with fail
  go_ret3
  exact ⟨_, _, _, _, _, _, _, _, _, _, _, _, rfl, hLL, by omega, by subst hLL; exact own_rdm (fun _ => rfl) hownL, hLC, by omega, by subst hLC; exact own_rdm (fun _ => rfl) hownC, hLP, by omega, by subst hLP; exact own_rdm (fun _ => rfl) hownP, HB⟩
set_option maxRecDepth 100000 in
set_option maxHeartbeats 2000000 in
theorem DrawEvacuationTime_any (A : Option Addr) (Lc : List Int) (cap : Nat) (w : World) (hc : CodeIs w A Lc) :
    Calls Try.prog 23 #[.slice A Lc.length cap] w (LCPSDraw w) := by
  have hcur := cur_new hc cap
  have hb0 : Below w.heap.size w (w.alloc (.cells #[.slice A Lc.length cap, .int .i64 0, .int .u64 0] 77)) := (Below.refl _ _).alloc (Nat.le_refl _) _
  have hg0 := hcur.lt
  have HZ0 := hide (show (w.alloc (.cells #[.slice A Lc.length cap, .int .i64 0, .int .u64 0] 77)).heap.size = w.heap.size + 1 by simp)
  go_enter Try.func23, Try.ntmps23
  go_wp2_with fail
  generalize (w.alloc (.cells #[.slice A Lc.length cap, .int .i64 0, .int .u64 0] 77)) = w0 at *
  have HB := hb0; clear hb0
  refine (shortLine_any _ _ _ _ (by assumption) (by omega)).mono ?_
  rintro e w1 ⟨AL, cL, nL, L, rfl, hLL, hownL, hzL, hcur, hm⟩
  have HB := HB.trans (below_moved hm (Nat.le_refl _) (by omega)); have hs1 := hm.size; clear hm
  go_wp2_with fail
  refine (crews_any _ _ _ _ _ _ _ (by omega) (by assumption) (by omega)).mono ?_
  rintro e w2 ⟨AC, cC, nC, C, rfl, hLC, hownC, hzC, hcur, hm⟩
  have hownL := own_moved hm (by omega) hownL
  have HB := HB.trans (below_moved hm (Nat.le_refl _) (by omega)); have hs2 := hm.size; clear hm
  go_wp2_with fail
  refine (people_any _ _ _ _ _ _ _ (by omega) (by assumption) (by omega)).mono ?_
  rintro e w3 ⟨AP, cP, nP, P, rfl, hLP, hownP, hzP, hcur, hm⟩
  have hownL := own_moved hm (by omega) hownL
  have hownC := own_moved hm (by omega) hownC
  have HB := HB.trans (below_moved hm (Nat.le_refl _) (by omega)); have hs3 := hm.size; clear hm
  go_wp2_with fail
  refine (assignment_any _ _ _ _ _ _ _ _ _ _ (by omega) (by omega) (by assumption) (by omega)).mono ?_
  rintro e w4 ⟨AS, cS, nS, S, rfl, hLS, hownS, hzS, hcur, hm⟩
  have hownL := own_moved hm (by omega) hownL
  have hownC := own_moved hm (by omega) hownC
  have hownP := own_moved hm (by omega) hownP
  have HB := HB.trans (below_moved hm (Nat.le_refl _) (by omega)); have hs4 := hm.size; clear hm
  go_wp2_with fail
  (try simp only [Exit.inBlock, Exit.then]); refine bodyPost_ret (results_tmp4 rfl _ _ _) rfl ?_
  exact ⟨_, _, _, _, _, _, _, _, _, _, _, _, _, _, _, _, rfl, hLL, by omega, by subst hLL; exact own_rdm (fun _ => rfl) hownL, hLC, by omega, by subst hLC; exact own_rdm (fun _ => rfl) hownC, hLP, by omega, by subst hLP; exact own_rdm (fun _ => rfl) hownP, hLS, by omega, by subst hLS; exact own_rdm (fun _ => rfl) hownS, HB⟩
set_option maxRecDepth 100000 in
set_option maxHeartbeats 2000000 in
theorem DrawCrewTime_any (A : Option Addr) (Lc : List Int) (cap : Nat) (w : World) (hc : CodeIs w A Lc) :
    Calls Try.prog 27 #[.slice A Lc.length cap] w (LCPSxDraw w) := by
  have hcur := cur_new hc cap
  have hb0 : Below w.heap.size w (w.alloc (.cells #[.slice A Lc.length cap, .int .i64 0, .int .u64 0] 77)) := (Below.refl _ _).alloc (Nat.le_refl _) _
  have hg0 := hcur.lt
  have HZ0 := hide (show (w.alloc (.cells #[.slice A Lc.length cap, .int .i64 0, .int .u64 0] 77)).heap.size = w.heap.size + 1 by simp)
  go_enter Try.func27, Try.ntmps27
  go_wp2_with fail
  generalize (w.alloc (.cells #[.slice A Lc.length cap, .int .i64 0, .int .u64 0] 77)) = w0 at *
  have HB := hb0; clear hb0
  refine (shortLine_any _ _ _ _ (by assumption) (by omega)).mono ?_
  rintro e w1 ⟨AL, cL, nL, L, rfl, hLL, hownL, hzL, hcur, hm⟩
  have HB := HB.trans (below_moved hm (Nat.le_refl _) (by omega)); have hs1 := hm.size; clear hm
  go_wp2_with fail
  refine (crews_any _ _ _ _ _ _ _ (by omega) (by assumption) (by omega)).mono ?_
  rintro e w2 ⟨AC, cC, nC, C, rfl, hLC, hownC, hzC, hcur, hm⟩
  have hownL := own_moved hm (by omega) hownL
  have HB := HB.trans (below_moved hm (Nat.le_refl _) (by omega)); have hs2 := hm.size; clear hm
  go_wp2_with fail
  refine (people_any _ _ _ _ _ _ _ (by omega) (by assumption) (by omega)).mono ?_
  rintro e w3 ⟨AP, cP, nP, P, rfl, hLP, hownP, hzP, hcur, hm⟩
  have hownL := own_moved hm (by omega) hownL
  have hownC := own_moved hm (by omega) hownC
  have HB := HB.trans (below_moved hm (Nat.le_refl _) (by omega)); have hs3 := hm.size; clear hm
  go_wp2_with fail
  refine (assignment_any _ _ _ _ _ _ _ _ _ _ (by omega) (by omega) (by assumption) (by omega)).mono ?_
  rintro e w4 ⟨AS, cS, nS, S, rfl, hLS, hownS, hzS, hcur, hm⟩
  have hownL := own_moved hm (by omega) hownL
  have hownC := own_moved hm (by omega) hownC
  have hownP := own_moved hm (by omega) hownP
  have HB := HB.trans (below_moved hm (Nat.le_refl _) (by omega)); have hs4 := hm.size; clear hm
  go_wp2_with fail
  refine (pick_any _ _ _ _ _ (by assumption) (by omega) (by omega) (by omega)).mono ?_
  rintro e w5 ⟨j, rfl, hj, hcur, hm⟩
  have hownL := own_moved hm (by omega) hownL
  have hownC := own_moved hm (by omega) hownC
  have hownP := own_moved hm (by omega) hownP
  have hownS := own_moved hm (by omega) hownS
  have HB := HB.trans (below_moved hm (Nat.le_refl _) (by omega)); have hs5 := hm.size; clear hm
  go_wp2_with fail
  refine (pick_any _ _ _ _ _ (by assumption) (by omega) (by omega) (by omega)).mono ?_
  rintro e w6 ⟨k, rfl, hk, hcur, hm⟩
  have hownL := own_moved hm (by omega) hownL
  have hownC := own_moved hm (by omega) hownC
  have hownP := own_moved hm (by omega) hownP
  have hownS := own_moved hm (by omega) hownS
  have HB := HB.trans (below_moved hm (Nat.le_refl _) (by omega)); have hs6 := hm.size; clear hm
  go_wp2_with fail
  (try simp only [Exit.inBlock, Exit.then]); refine bodyPost_ret (results_tmp5 rfl _ _ _) rfl ?_
  exact ⟨_, _, _, _, _, _, _, _, _, _, _, _, _, _, _, _, _, rfl, hLL, by omega, by subst hLL; exact own_rdm (fun _ => rfl) hownL, hLC, by omega, by subst hLC; exact own_rdm (fun _ => rfl) hownC, hLP, by omega, by subst hLP; exact own_rdm (fun _ => rfl) hownP, hLS, by omega, by subst hLS; exact own_rdm (fun _ => rfl) hownS, HB⟩
end Go.Proofs.Ytgfamaopplgfgaa
