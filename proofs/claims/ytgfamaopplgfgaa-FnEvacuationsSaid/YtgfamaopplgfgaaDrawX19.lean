/- What the laws of chapter 19 draw. -/
import Derived.Test.YtgfamaopplgfgaaDrawLine3
namespace Go.Proofs.Ytgfamaopplgfgaa
open Go Go.RowKit
set_option linter.unusedVariables false
def LPDraw (w : World) (e : Ending) (w' : World) : Prop := ∃ (AL : Option Addr) (nL cL : Nat) (L : List Support) (AP : Option Addr) (nP cP : Nat) (P : List Int), e = .returned (.tuple #[.slice AL nL cL, .slice AP nP cP]) ∧ L.length = nL ∧ nL ≤ 100 ∧ Rd Support.enc 3 w'.heap.size w' AL L ∧ P.length = nP ∧ nP ≤ 100 ∧ Rd encI 1 w'.heap.size w' AP P ∧ Below w.heap.size w w'
def LCPxDraw (w : World) (e : Ending) (w' : World) : Prop := ∃ (AL : Option Addr) (nL cL : Nat) (L : List Support) (AC : Option Addr) (nC cC : Nat) (C : List Crew) (AP : Option Addr) (nP cP : Nat) (P : List Int) (x : Int), e = .returned (.tuple #[.slice AL nL cL, .slice AC nC cC, .slice AP nP cP, .int .i64 x]) ∧ L.length = nL ∧ nL ≤ 100 ∧ Rd Support.enc 3 w'.heap.size w' AL L ∧ C.length = nC ∧ nC ≤ 100 ∧ Rd Crew.enc 3 w'.heap.size w' AC C ∧ P.length = nP ∧ nP ≤ 100 ∧ Rd encI 1 w'.heap.size w' AP P ∧ Below w.heap.size w w'
def LCPxyzDraw (w : World) (e : Ending) (w' : World) : Prop := ∃ (AL : Option Addr) (nL cL : Nat) (L : List Support) (AC : Option Addr) (nC cC : Nat) (C : List Crew) (AP : Option Addr) (nP cP : Nat) (P : List Int) (x : Int) (y : Int) (z : Int), e = .returned (.tuple #[.slice AL nL cL, .slice AC nC cC, .slice AP nP cP, .int .i64 x, .int .i64 y, .int .i64 z]) ∧ L.length = nL ∧ nL ≤ 100 ∧ Rd Support.enc 3 w'.heap.size w' AL L ∧ C.length = nC ∧ nC ≤ 100 ∧ Rd Crew.enc 3 w'.heap.size w' AC C ∧ P.length = nP ∧ nP ≤ 100 ∧ Rd encI 1 w'.heap.size w' AP P ∧ Below w.heap.size w w'
def LCPDraw (w : World) (e : Ending) (w' : World) : Prop := ∃ (AL : Option Addr) (nL cL : Nat) (L : List Support) (AC : Option Addr) (nC cC : Nat) (C : List Crew) (AP : Option Addr) (nP cP : Nat) (P : List Int), e = .returned (.tuple #[.slice AL nL cL, .slice AC nC cC, .slice AP nP cP]) ∧ L.length = nL ∧ nL ≤ 100 ∧ Rd Support.enc 3 w'.heap.size w' AL L ∧ C.length = nC ∧ nC ≤ 100 ∧ Rd Crew.enc 3 w'.heap.size w' AC C ∧ P.length = nP ∧ nP ≤ 100 ∧ Rd encI 1 w'.heap.size w' AP P ∧ Below w.heap.size w w'
def LCPSDraw (w : World) (e : Ending) (w' : World) : Prop := ∃ (AL : Option Addr) (nL cL : Nat) (L : List Support) (AC : Option Addr) (nC cC : Nat) (C : List Crew) (AP : Option Addr) (nP cP : Nat) (P : List Int) (AS : Option Addr) (nS cS : Nat) (S : List Int), e = .returned (.tuple #[.slice AL nL cL, .slice AC nC cC, .slice AP nP cP, .slice AS nS cS]) ∧ L.length = nL ∧ nL ≤ 100 ∧ Rd Support.enc 3 w'.heap.size w' AL L ∧ C.length = nC ∧ nC ≤ 100 ∧ Rd Crew.enc 3 w'.heap.size w' AC C ∧ P.length = nP ∧ nP ≤ 100 ∧ Rd encI 1 w'.heap.size w' AP P ∧ S.length = nS ∧ nS ≤ 100 ∧ Rd encI 1 w'.heap.size w' AS S ∧ Below w.heap.size w w'
def LCPSxDraw (w : World) (e : Ending) (w' : World) : Prop := ∃ (AL : Option Addr) (nL cL : Nat) (L : List Support) (AC : Option Addr) (nC cC : Nat) (C : List Crew) (AP : Option Addr) (nP cP : Nat) (P : List Int) (AS : Option Addr) (nS cS : Nat) (S : List Int) (x : Int), e = .returned (.tuple #[.slice AL nL cL, .slice AC nC cC, .slice AP nP cP, .slice AS nS cS, .int .i64 x]) ∧ L.length = nL ∧ nL ≤ 100 ∧ Rd Support.enc 3 w'.heap.size w' AL L ∧ C.length = nC ∧ nC ≤ 100 ∧ Rd Crew.enc 3 w'.heap.size w' AC C ∧ P.length = nP ∧ nP ≤ 100 ∧ Rd encI 1 w'.heap.size w' AP P ∧ S.length = nS ∧ nS ≤ 100 ∧ Rd encI 1 w'.heap.size w' AS S ∧ Below w.heap.size w w'
set_option maxRecDepth 100000 in
set_option maxHeartbeats 2000000 in
theorem DrawPeopleUp_any (A : Option Addr) (Lc : List Int) (cap : Nat) (w : World) (hc : CodeIs w A Lc) :
    Calls Try.prog 51 #[.slice A Lc.length cap] w (LPDraw w) := by
  have hcur := cur_new hc cap
  have hb0 : Below w.heap.size w (w.alloc (.cells #[.slice A Lc.length cap, .int .i64 0, .int .u64 0] 77)) := (Below.refl _ _).alloc (Nat.le_refl _) _
  have hg0 := hcur.lt
  have HZ0 := hide (show (w.alloc (.cells #[.slice A Lc.length cap, .int .i64 0, .int .u64 0] 77)).heap.size = w.heap.size + 1 by simp)
  go_enter Try.func51, Try.ntmps51
  go_wp2_with fail
  generalize (w.alloc (.cells #[.slice A Lc.length cap, .int .i64 0, .int .u64 0] 77)) = w0 at *
  have HB := hb0; clear hb0
  refine (shortLine_any _ _ _ _ (by assumption) (by omega)).mono ?_
  rintro e w1 ⟨AL, cL, nL, L, rfl, hLL, hownL, hzL, hcur, hm⟩
  have HB := HB.trans (below_moved hm (Nat.le_refl _) (by omega)); have hs1 := hm.size; clear hm
  go_wp2_with fail
  refine (people_any _ _ _ _ _ _ _ (by omega) (by assumption) (by omega)).mono ?_
  rintro e w2 ⟨AP, cP, nP, P, rfl, hLP, hownP, hzP, hcur, hm⟩
  have hownL := own_moved hm (by omega) hownL
  have HB := HB.trans (below_moved hm (Nat.le_refl _) (by omega)); have hs2 := hm.size; clear hm
  go_wp2_with fail
  go_ret2
  exact ⟨_, _, _, _, _, _, _, _, rfl, hLL, by omega, by subst hLL; exact own_rdm (fun _ => rfl) hownL, hLP, by omega, by subst hLP; exact own_rdm (fun _ => rfl) hownP, HB⟩
set_option maxRecDepth 100000 in
set_option maxHeartbeats 2000000 in
theorem DrawNearestCrew_any (A : Option Addr) (Lc : List Int) (cap : Nat) (w : World) (hc : CodeIs w A Lc) :
    Calls Try.prog 49 #[.slice A Lc.length cap] w (LCPxDraw w) := by
  have hcur := cur_new hc cap
  have hb0 : Below w.heap.size w (w.alloc (.cells #[.slice A Lc.length cap, .int .i64 0, .int .u64 0] 77)) := (Below.refl _ _).alloc (Nat.le_refl _) _
  have hg0 := hcur.lt
  have HZ0 := hide (show (w.alloc (.cells #[.slice A Lc.length cap, .int .i64 0, .int .u64 0] 77)).heap.size = w.heap.size + 1 by simp)
  go_enter Try.func49, Try.ntmps49
  go_wp2_with fail
  generalize (w.alloc (.cells #[.slice A Lc.length cap, .int .i64 0, .int .u64 0] 77)) = w0 at *
  have HB := hb0; clear hb0
  refine (shortLine_any _ _ _ _ (by assumption) (by omega)).mono ?_
  rintro e w1 ⟨AL, cL, nL, L, rfl, hLL, hownL, hzL, hcur, hm⟩
  have HB := HB.trans (below_moved hm (Nat.le_refl _) (by omega)); have hs1 := hm.size; clear hm
  go_wp2_with fail
  refine (crews_any _ _ _ _ _ _ _ (by omega) (by assumption) (by omega)).mono ?_
  rintro e w2 ⟨AC, cC, nC, C, rfl, hLC, hownC, hzC, hcur, hm⟩
  have hownL := own_moved hm (by omega) hownL
  have HB := HB.trans (below_moved hm (Nat.le_refl _) (by omega)); have hs2 := hm.size; clear hm
  go_wp2_with fail
  refine (people_any _ _ _ _ _ _ _ (by omega) (by assumption) (by omega)).mono ?_
  rintro e w3 ⟨AP, cP, nP, P, rfl, hLP, hownP, hzP, hcur, hm⟩
  have hownL := own_moved hm (by omega) hownL
  have hownC := own_moved hm (by omega) hownC
  have HB := HB.trans (below_moved hm (Nat.le_refl _) (by omega)); have hs3 := hm.size; clear hm
  go_wp2_with fail
  refine (pick_any _ _ _ _ _ (by assumption) (by omega) (by omega) (by omega)).mono ?_
  rintro e w4 ⟨j, rfl, hj, hcur, hm⟩
  have hownL := own_moved hm (by omega) hownL
  have hownC := own_moved hm (by omega) hownC
  have hownP := own_moved hm (by omega) hownP
  have HB := HB.trans (below_moved hm (Nat.le_refl _) (by omega)); have hs4 := hm.size; clear hm
  go_wp2_with fail
  refine (pick_any _ _ _ _ _ (by assumption) (by omega) (by omega) (by omega)).mono ?_
  rintro e w5 ⟨k, rfl, hk, hcur, hm⟩
  have hownL := own_moved hm (by omega) hownL
  have hownC := own_moved hm (by omega) hownC
  have hownP := own_moved hm (by omega) hownP
  have HB := HB.trans (below_moved hm (Nat.le_refl _) (by omega)); have hs5 := hm.size; clear hm
  go_wp2_with fail
  (try simp only [Exit.inBlock, Exit.then]); refine bodyPost_ret (results_tmp4 rfl _ _ _) rfl ?_
  exact ⟨_, _, _, _, _, _, _, _, _, _, _, _, _, rfl, hLL, by omega, by subst hLL; exact own_rdm (fun _ => rfl) hownL, hLC, by omega, by subst hLC; exact own_rdm (fun _ => rfl) hownC, hLP, by omega, by subst hLP; exact own_rdm (fun _ => rfl) hownP, HB⟩
set_option maxRecDepth 100000 in
set_option maxHeartbeats 2000000 in
theorem DrawSpanTime_any (A : Option Addr) (Lc : List Int) (cap : Nat) (w : World) (hc : CodeIs w A Lc) :
    Calls Try.prog 50 #[.slice A Lc.length cap] w (LCPxyzDraw w) := by
  have hcur := cur_new hc cap
  have hb0 : Below w.heap.size w (w.alloc (.cells #[.slice A Lc.length cap, .int .i64 0, .int .u64 0] 77)) := (Below.refl _ _).alloc (Nat.le_refl _) _
  have hg0 := hcur.lt
  have HZ0 := hide (show (w.alloc (.cells #[.slice A Lc.length cap, .int .i64 0, .int .u64 0] 77)).heap.size = w.heap.size + 1 by simp)
  go_enter Try.func50, Try.ntmps50
  go_wp2_with fail
  generalize (w.alloc (.cells #[.slice A Lc.length cap, .int .i64 0, .int .u64 0] 77)) = w0 at *
  have HB := hb0; clear hb0
  refine (shortLine_any _ _ _ _ (by assumption) (by omega)).mono ?_
  rintro e w1 ⟨AL, cL, nL, L, rfl, hLL, hownL, hzL, hcur, hm⟩
  have HB := HB.trans (below_moved hm (Nat.le_refl _) (by omega)); have hs1 := hm.size; clear hm
  go_wp2_with fail
  refine (crews_any _ _ _ _ _ _ _ (by omega) (by assumption) (by omega)).mono ?_
  rintro e w2 ⟨AC, cC, nC, C, rfl, hLC, hownC, hzC, hcur, hm⟩
  have hownL := own_moved hm (by omega) hownL
  have HB := HB.trans (below_moved hm (Nat.le_refl _) (by omega)); have hs2 := hm.size; clear hm
  go_wp2_with fail
  refine (people_any _ _ _ _ _ _ _ (by omega) (by assumption) (by omega)).mono ?_
  rintro e w3 ⟨AP, cP, nP, P, rfl, hLP, hownP, hzP, hcur, hm⟩
  have hownL := own_moved hm (by omega) hownL
  have hownC := own_moved hm (by omega) hownC
  have HB := HB.trans (below_moved hm (Nat.le_refl _) (by omega)); have hs3 := hm.size; clear hm
  go_wp2_with fail
  refine (pick_any _ _ _ _ _ (by assumption) (by omega) (by omega) (by omega)).mono ?_
  rintro e w4 ⟨j0, rfl, hj0, hcur, hm⟩
  have hownL := own_moved hm (by omega) hownL
  have hownC := own_moved hm (by omega) hownC
  have hownP := own_moved hm (by omega) hownP
  have HB := HB.trans (below_moved hm (Nat.le_refl _) (by omega)); have hs4 := hm.size; clear hm
  go_wp2_with fail
  refine (pick_any _ _ _ _ _ (by assumption) (by omega) (by omega) (by omega)).mono ?_
  rintro e w5 ⟨j1, rfl, hj1, hcur, hm⟩
  have hownL := own_moved hm (by omega) hownL
  have hownC := own_moved hm (by omega) hownC
  have hownP := own_moved hm (by omega) hownP
  have HB := HB.trans (below_moved hm (Nat.le_refl _) (by omega)); have hs5 := hm.size; clear hm
  go_wp2_with fail
  refine (pick_any _ _ _ _ _ (by assumption) (by omega) (by omega) (by omega)).mono ?_
  rintro e w6 ⟨j2, rfl, hj2, hcur, hm⟩
  have hownL := own_moved hm (by omega) hownL
  have hownC := own_moved hm (by omega) hownC
  have hownP := own_moved hm (by omega) hownP
  have HB := HB.trans (below_moved hm (Nat.le_refl _) (by omega)); have hs6 := hm.size; clear hm
  go_wp2_with fail
  refine (pick_any _ _ _ _ _ (by assumption) (by omega) (by omega) (by omega)).mono ?_
  rintro e w7 ⟨j3, rfl, hj3, hcur, hm⟩
  have hownL := own_moved hm (by omega) hownL
  have hownC := own_moved hm (by omega) hownC
  have hownP := own_moved hm (by omega) hownP
  have HB := HB.trans (below_moved hm (Nat.le_refl _) (by omega)); have hs7 := hm.size; clear hm
  go_wp2_with fail
  refine (pick_any _ _ _ _ _ (by assumption) (by omega) (by omega) (by omega)).mono ?_
  rintro e w8 ⟨j4, rfl, hj4, hcur, hm⟩
  have hownL := own_moved hm (by omega) hownL
  have hownC := own_moved hm (by omega) hownC
  have hownP := own_moved hm (by omega) hownP
  have HB := HB.trans (below_moved hm (Nat.le_refl _) (by omega)); have hs8 := hm.size; clear hm
  go_wp2_with fail
  refine (pick_any _ _ _ _ _ (by assumption) (by omega) (by omega) (by omega)).mono ?_
  rintro e w9 ⟨j5, rfl, hj5, hcur, hm⟩
  have hownL := own_moved hm (by omega) hownL
  have hownC := own_moved hm (by omega) hownC
  have hownP := own_moved hm (by omega) hownP
  have HB := HB.trans (below_moved hm (Nat.le_refl _) (by omega)); have hs9 := hm.size; clear hm
  go_wp2_with fail
  (try simp only [Exit.inBlock, Exit.then]); refine bodyPost_ret (results_tmp6 rfl _ _ _) rfl ?_
  exact ⟨_, _, _, _, _, _, _, _, _, _, _, _, _, _, _, rfl, hLL, by omega, by subst hLL; exact own_rdm (fun _ => rfl) hownL, hLC, by omega, by subst hLC; exact own_rdm (fun _ => rfl) hownC, hLP, by omega, by subst hLP; exact own_rdm (fun _ => rfl) hownP, HB⟩
end Go.Proofs.Ytgfamaopplgfgaa
