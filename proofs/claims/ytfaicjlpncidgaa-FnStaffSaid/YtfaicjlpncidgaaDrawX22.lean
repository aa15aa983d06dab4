/- What the laws of chapter 22 draw. -/
import Derived.Test.YtfaicjlpncidgaaDrawSh
import Derived.BigQuiet
namespace Go.Proofs.Ytfaicjlpncidgaa
open Go Go.RowKit
set_option linter.unusedVariables false
def StPl (A0 : Option Addr) (n0 : Nat) (S : List Worker) (A1 : Option Addr) (n1 c1 : Nat) (P : List Shift) (w w' : World) : Prop :=
  S.length = n0 ∧ n0 ≤ 20 ∧ (∀ c ∈ S, c.Ok) ∧ Rd Worker.enc 4 w'.heap.size w' A0 S ∧ P.length = n1 ∧ n1 ≤ 50 ∧ n1 ≤ c1 ∧ (A1 = none → c1 = 0) ∧ Rd Shift.enc 4 w'.heap.size w' A1 P ∧ Below w.heap.size w w'
theorem stpl_of {lo c0 c1 : Nat} {A0 A1 : Option Addr} {S : List Worker} {P : List Shift} {w w1 w' : World} (hS : Own Worker.enc 4 75 lo w1 (.slice A0 S.length c0) S) (hP : Own Shift.enc 4 66 lo w1 (.slice A1 P.length c1) P) (zS : GoodStaff S) (zP : P.length ≤ 50) (hb : Below w.heap.size w w1) (hb2 : Below w1.heap.size w1 w') : StPl A0 S.length S A1 P.length c1 P w w' :=
  ⟨rfl, zS.2, zS.1, (own_rdm Worker.enc_len hS).later hb2, rfl, zP, own_cple hP rfl, own_nilcap hP, (own_rdm Shift.enc_len hP).later hb2, below_step hb hb2 (Nat.le_refl _)⟩
theorem setCells_grown (g : Nat) : ∀ (vs : List Value) (o : Nat) (w : World), w.grownBy (w.setCells g o vs) (some g)
  | [], o, w => World.grownBy.refl w _
  | v :: r, o, w => by
    rw [World.setCells]
    exact moved_trans (moved_set (moved_refl w g)) (setCells_grown g r (o + 1) _)
theorem own_far {α : Type} {enc : α → List Value} {sz T lo g : Nat} {w : World} {v : Value} {L : List α} (h : Own enc sz T lo w v L) (hg : g < lo) (o : Nat) (vs : List Value) : Own enc sz T lo (w.setCells g o vs) v L := own_moved (setCells_grown g vs o w) hg h
theorem results_ttrow {P : Program} {fn : Func} {x y p : Tmp} {ty : TypeId} (h : fn.results = #[.tmp x, .tmp y, .cell p ty]) (tmps : Array Value) (w : World) (g : Nat) (t : TypeId) (cs : Array Value) (fr : Nat × Nat) (d : TypeDesc)
    (hp : tmps.getD p undef = .pointer (some ⟨g, 0, none⟩)) (hg : w.heap[g]? = some (.cells cs t fr))
    (hu : P.underlying ty = some d) (hd : (match d with | .struct _ | .array _ _ => true | _ => false) = true) (hi : (P.info? ty).map (·.size) = some cs.size) :
    (results fn tmps).run P w = .ok (.tuple #[tmps.getD x undef, tmps.getD y undef, .agg cs]) w := by
  have hp' : tmps[p]?.getD undef = .pointer (some ⟨g, 0, none⟩) := by simpa using hp
  simp [results, h, hp', asAddr, run_loadVar_row w g t ty cs fr d hg hu hd hi]
def SDraw (w : World) (e : Ending) (w' : World) : Prop := ∃ (A : Option Addr) (n c : Nat) (S : List Worker), e = .returned (.slice A n c) ∧ S.length = n ∧ n ≤ 20 ∧ (∀ c ∈ S, c.Ok) ∧ Rd Worker.enc 4 w'.heap.size w' A S ∧ Below w.heap.size w w'
def SPDraw (w : World) (e : Ending) (w' : World) : Prop := ∃ (A0 : Option Addr) (n0 c0 : Nat) (S : List Worker) (A1 : Option Addr) (n1 c1 : Nat) (P : List Shift), e = .returned (.tuple #[.slice A0 n0 c0, .slice A1 n1 c1]) ∧ StPl A0 n0 S A1 n1 c1 P w w'
def SPxDraw (w : World) (e : Ending) (w' : World) : Prop := ∃ (A0 : Option Addr) (n0 c0 : Nat) (S : List Worker) (A1 : Option Addr) (n1 c1 : Nat) (P : List Shift) (x : Int), e = .returned (.tuple #[.slice A0 n0 c0, .slice A1 n1 c1, .int .i64 x]) ∧ StPl A0 n0 S A1 n1 c1 P w w'
def SPxyDraw (w : World) (e : Ending) (w' : World) : Prop := ∃ (A0 : Option Addr) (n0 c0 : Nat) (S : List Worker) (A1 : Option Addr) (n1 c1 : Nat) (P : List Shift) (x : Int) (y : Int), e = .returned (.tuple #[.slice A0 n0 c0, .slice A1 n1 c1, .int .i64 x, .int .i64 y]) ∧ StPl A0 n0 S A1 n1 c1 P w w'
def SPxyzDraw (w : World) (e : Ending) (w' : World) : Prop := ∃ (A0 : Option Addr) (n0 c0 : Nat) (S : List Worker) (A1 : Option Addr) (n1 c1 : Nat) (P : List Shift) (x : Int) (y : Int) (z : Int), e = .returned (.tuple #[.slice A0 n0 c0, .slice A1 n1 c1, .int .i64 x, .int .i64 y, .int .i64 z]) ∧ StPl A0 n0 S A1 n1 c1 P w w'
def SPsDraw (w : World) (e : Ending) (w' : World) : Prop := ∃ (A0 : Option Addr) (n0 c0 : Nat) (S : List Worker) (A1 : Option Addr) (n1 c1 : Nat) (P : List Shift) (s : Shift), e = .returned (.tuple #[.slice A0 n0 c0, .slice A1 n1 c1, .agg #[.int .i64 s.day, .int .i64 s.part, .int .i64 s.who, .int .i64 s.duty]]) ∧ StPl A0 n0 S A1 n1 c1 P w w'
set_option maxRecDepth 100000 in
set_option maxHeartbeats 2000000 in
theorem DrawAreStaff_any (A : Option Addr) (Lc : List Int) (cap : Nat) (w : World) (hc : CodeIs w A Lc) :
    Calls Try.prog 88 #[.slice A Lc.length cap] w (SDraw w) := by
  have hcur := cur_new hc cap
  have hb0 : Below w.heap.size w (w.alloc (.cells #[.slice A Lc.length cap, .int .i64 0, .int .u64 0] 102)) := (Below.refl _ _).alloc (Nat.le_refl _) _
  have hg0 := hcur.lt
  have HZ0 := hide (show (w.alloc (.cells #[.slice A Lc.length cap, .int .i64 0, .int .u64 0] 102)).heap.size = w.heap.size + 1 by simp)
  go_enter Try.func88, Try.ntmps88
  go_wp2_with fail
  generalize (w.alloc (.cells #[.slice A Lc.length cap, .int .i64 0, .int .u64 0] 102)) = w0 at *
  have HB := hb0; clear hb0
  refine (staff_any _ _ _ _ (by assumption) (by omega)).mono ?_
  rintro e w1 ⟨AS, cS, nS, S, rfl, hLS, hownS, hzS, hcur, hm⟩
  have HB := HB.trans (below_moved hm (Nat.le_refl _) (by omega)); have hs1 := hm.size; clear hm
  go_wp2_with fail
  go_ret
  subst hLS
  exact ⟨_, _, _, _, rfl, rfl, hzS.2, hzS.1, own_rdm (fun _ => rfl) hownS, HB⟩
theorem DrawDutyCounts_any (A : Option Addr) (Lc : List Int) (cap : Nat) (w : World) (hc : CodeIs w A Lc) : Calls Try.prog 39 #[.slice A Lc.length cap] w (SDraw w) := by
  go_enter Try.func39, Try.ntmps39
  go_wp2_with fail
  refine (DrawAreStaff_any A Lc cap _ hc).mono ?_
  rintro e w1 ⟨A1, n, c, L, rfl, h⟩
  go_wp2_with fail
  go_ret
  exact ⟨_, _, _, _, rfl, h⟩
set_option maxRecDepth 100000 in
set_option maxHeartbeats 2000000 in
theorem DrawSickWorker_any (A : Option Addr) (Lc : List Int) (cap : Nat) (w : World) (hc : CodeIs w A Lc) :
    Calls Try.prog 37 #[.slice A Lc.length cap] w (SPxyDraw w) := by
  have hcur := cur_new hc cap
  have hb0 : Below w.heap.size w (w.alloc (.cells #[.slice A Lc.length cap, .int .i64 0, .int .u64 0] 102)) := (Below.refl _ _).alloc (Nat.le_refl _) _
  have hg0 := hcur.lt
  have HZ0 := hide (show (w.alloc (.cells #[.slice A Lc.length cap, .int .i64 0, .int .u64 0] 102)).heap.size = w.heap.size + 1 by simp)
  go_enter Try.func37, Try.ntmps37
  go_wp2_with fail
  generalize (w.alloc (.cells #[.slice A Lc.length cap, .int .i64 0, .int .u64 0] 102)) = w0 at *
  have HB := hb0; clear hb0
  refine (staff_any _ _ _ _ (by assumption) (by omega)).mono ?_
  rintro e w1 ⟨AS, cS, nS, S, rfl, hLS, hownS, hzS, hcur, hm⟩
  have HB := HB.trans (below_moved hm (Nat.le_refl _) (by omega)); have hs1 := hm.size; clear hm
  go_wp2_with fail
  subst hLS
  have hS20 := hzS.2
  refine (plan22_any _ _ _ _ AS cS S _ (by assumption) (by omega) (by omega) hzS.1 hg0 hownS).mono ?_
  rintro e w2 ⟨AP, cP, nP, P, rfl, hLP, hownP, hzP, hcur, hm⟩
  have hownP := Own.mono_ hownP hs1
  have hownS := own_moved hm (by omega) hownS
  have HB := HB.trans (below_moved hm (Nat.le_refl _) (by omega)); have hs2 := hm.size; clear hm
  subst hLP
  go_wp2_with fail
  refine (shift_any _ _ _ _ AS cS S _ (by assumption) (by omega) (by omega) hg0 hownS).mono ?_
  rintro e w3 ⟨s, rfl, hcur, hm⟩
  have hownP := own_moved hm (by omega) hownP; have hownS := own_moved hm (by omega) hownS
  have HB := HB.trans (below_moved hm (Nat.le_refl _) (by omega)); have hs3 := hm.size; clear hm
  obtain ⟨z0, z1, z2, z3⟩ := Shift.box_after w3 s 66 ⟨_, Below.refl _ _⟩
  have hbz : Below w3.heap.size w3 (w3.alloc (.cells #[.int .i64 s.day, .int .i64 s.part, .int .i64 s.who, .int .i64 s.duty] 66)) := (Below.refl _ _).alloc (Nat.le_refl _) _
  go_upto_region 5 with fail
  generalize (w3.alloc (.cells #[.int .i64 s.day, .int .i64 s.part, .int .i64 s.who, .int .i64 s.duty] 66)) = w4 at *
  generalize w3.heap.size = px at z0 z1 z2 z3 ⊢
  go_quiet (fail)
  go_wp2_with fail
  (try simp only [Exit.inBlock, Exit.then]); refine bodyPost_ret (results_tmp4 rfl _ _ _) rfl ?_
  exact ⟨_, _, _, _, _, _, _, _, _, _, rfl, stpl_of hownS hownP hzS hzP HB (below_drewN hbz _)⟩
set_option maxRecDepth 100000 in
set_option maxHeartbeats 2000000 in
theorem DrawWhoCan_any (A : Option Addr) (Lc : List Int) (cap : Nat) (w : World) (hc : CodeIs w A Lc) :
    Calls Try.prog 55 #[.slice A Lc.length cap] w (SPxyzDraw w) := by
  have hcur := cur_new hc cap
  have hb0 : Below w.heap.size w (w.alloc (.cells #[.slice A Lc.length cap, .int .i64 0, .int .u64 0] 102)) := (Below.refl _ _).alloc (Nat.le_refl _) _
  have hg0 := hcur.lt
  have HZ0 := hide (show (w.alloc (.cells #[.slice A Lc.length cap, .int .i64 0, .int .u64 0] 102)).heap.size = w.heap.size + 1 by simp)
  go_enter Try.func55, Try.ntmps55
  go_wp2_with fail
  generalize (w.alloc (.cells #[.slice A Lc.length cap, .int .i64 0, .int .u64 0] 102)) = w0 at *
  have HB := hb0; clear hb0
  refine (staff_any _ _ _ _ (by assumption) (by omega)).mono ?_
  rintro e w1 ⟨AS, cS, nS, S, rfl, hLS, hownS, hzS, hcur, hm⟩
  have HB := HB.trans (below_moved hm (Nat.le_refl _) (by omega)); have hs1 := hm.size; clear hm
  go_wp2_with fail
  subst hLS
  have hS20 := hzS.2
  refine (plan22_any _ _ _ _ AS cS S _ (by assumption) (by omega) (by omega) hzS.1 hg0 hownS).mono ?_
  rintro e w2 ⟨AP, cP, nP, P, rfl, hLP, hownP, hzP, hcur, hm⟩
  have hownP := Own.mono_ hownP hs1
  have hownS := own_moved hm (by omega) hownS
  have HB := HB.trans (below_moved hm (Nat.le_refl _) (by omega)); have hs2 := hm.size; clear hm
  subst hLP
  go_wp2_with fail
  refine (shift_any _ _ _ _ AS cS S _ (by assumption) (by omega) (by omega) hg0 hownS).mono ?_
  rintro e w3 ⟨s, rfl, hcur, hm⟩
  have hownP := own_moved hm (by omega) hownP; have hownS := own_moved hm (by omega) hownS
  have HB := HB.trans (below_moved hm (Nat.le_refl _) (by omega)); have hs3 := hm.size; clear hm
  obtain ⟨z0, z1, z2, z3⟩ := Shift.box_after w3 s 66 ⟨_, Below.refl _ _⟩
  have hbz : Below w3.heap.size w3 (w3.alloc (.cells #[.int .i64 s.day, .int .i64 s.part, .int .i64 s.who, .int .i64 s.duty] 66)) := (Below.refl _ _).alloc (Nat.le_refl _) _
  go_upto_region 5 with fail
  generalize (w3.alloc (.cells #[.int .i64 s.day, .int .i64 s.part, .int .i64 s.who, .int .i64 s.duty] 66)) = w4 at *
  generalize w3.heap.size = px at z0 z1 z2 z3 ⊢
  go_quiet (fail)
  go_wp2_with fail
  (try simp only [Exit.inBlock, Exit.then]); refine bodyPost_ret (results_tmp5 rfl _ _ _) rfl ?_
  exact ⟨_, _, _, _, _, _, _, _, _, _, _, rfl, stpl_of hownS hownP hzS hzP HB (below_drewN hbz _)⟩
set_option maxRecDepth 100000 in
set_option maxHeartbeats 2000000 in
theorem DrawFillPart_any (A : Option Addr) (Lc : List Int) (cap : Nat) (w : World) (hc : CodeIs w A Lc) :
    Calls Try.prog 57 #[.slice A Lc.length cap] w (SPxyDraw w) := by
  have hcur := cur_new hc cap
  have hb0 : Below w.heap.size w (w.alloc (.cells #[.slice A Lc.length cap, .int .i64 0, .int .u64 0] 102)) := (Below.refl _ _).alloc (Nat.le_refl _) _
  have hg0 := hcur.lt
  have HZ0 := hide (show (w.alloc (.cells #[.slice A Lc.length cap, .int .i64 0, .int .u64 0] 102)).heap.size = w.heap.size + 1 by simp)
  go_enter Try.func57, Try.ntmps57
  go_wp2_with fail
  generalize (w.alloc (.cells #[.slice A Lc.length cap, .int .i64 0, .int .u64 0] 102)) = w0 at *
  have HB := hb0; clear hb0
  refine (staff_any _ _ _ _ (by assumption) (by omega)).mono ?_
  rintro e w1 ⟨AS, cS, nS, S, rfl, hLS, hownS, hzS, hcur, hm⟩
  have HB := HB.trans (below_moved hm (Nat.le_refl _) (by omega)); have hs1 := hm.size; clear hm
  go_wp2_with fail
  subst hLS
  have hS20 := hzS.2
  refine (plan22_any _ _ _ _ AS cS S _ (by assumption) (by omega) (by omega) hzS.1 hg0 hownS).mono ?_
  rintro e w2 ⟨AP, cP, nP, P, rfl, hLP, hownP, hzP, hcur, hm⟩
  have hownP := Own.mono_ hownP hs1
  have hownS := own_moved hm (by omega) hownS
  have HB := HB.trans (below_moved hm (Nat.le_refl _) (by omega)); have hs2 := hm.size; clear hm
  subst hLP
  go_wp2_with fail
  refine (shift_any _ _ _ _ AS cS S _ (by assumption) (by omega) (by omega) hg0 hownS).mono ?_
  rintro e w3 ⟨s, rfl, hcur, hm⟩
  have hownP := own_moved hm (by omega) hownP; have hownS := own_moved hm (by omega) hownS
  have HB := HB.trans (below_moved hm (Nat.le_refl _) (by omega)); have hs3 := hm.size; clear hm
  obtain ⟨z0, z1, z2, z3⟩ := Shift.box_after w3 s 66 ⟨_, Below.refl _ _⟩
  have hbz : Below w3.heap.size w3 (w3.alloc (.cells #[.int .i64 s.day, .int .i64 s.part, .int .i64 s.who, .int .i64 s.duty] 66)) := (Below.refl _ _).alloc (Nat.le_refl _) _
  go_upto_region 5 with fail
  generalize (w3.alloc (.cells #[.int .i64 s.day, .int .i64 s.part, .int .i64 s.who, .int .i64 s.duty] 66)) = w4 at *
  generalize w3.heap.size = px at z0 z1 z2 z3 ⊢
  go_quiet (fail)
  go_wp2_with fail
  (try simp only [Exit.inBlock, Exit.then]); refine bodyPost_ret (results_tmp4 rfl _ _ _) rfl ?_
  exact ⟨_, _, _, _, _, _, _, _, _, _, rfl, stpl_of hownS hownP hzS hzP HB (below_drewN hbz _)⟩
set_option maxRecDepth 100000 in
set_option maxHeartbeats 2000000 in
theorem DrawHoursOf_any (A : Option Addr) (Lc : List Int) (cap : Nat) (w : World) (hc : CodeIs w A Lc) :
    Calls Try.prog 42 #[.slice A Lc.length cap] w (SPxDraw w) := by
  have hcur := cur_new hc cap
  have hb0 : Below w.heap.size w (w.alloc (.cells #[.slice A Lc.length cap, .int .i64 0, .int .u64 0] 102)) := (Below.refl _ _).alloc (Nat.le_refl _) _
  have hg0 := hcur.lt
  have HZ0 := hide (show (w.alloc (.cells #[.slice A Lc.length cap, .int .i64 0, .int .u64 0] 102)).heap.size = w.heap.size + 1 by simp)
  go_enter Try.func42, Try.ntmps42
  go_wp2_with fail
  generalize (w.alloc (.cells #[.slice A Lc.length cap, .int .i64 0, .int .u64 0] 102)) = w0 at *
  have HB := hb0; clear hb0
  refine (staff_any _ _ _ _ (by assumption) (by omega)).mono ?_
  rintro e w1 ⟨AS, cS, nS, S, rfl, hLS, hownS, hzS, hcur, hm⟩
  have HB := HB.trans (below_moved hm (Nat.le_refl _) (by omega)); have hs1 := hm.size; clear hm
  go_wp2_with fail
  subst hLS
  have hS20 := hzS.2
  refine (plan22_any _ _ _ _ AS cS S _ (by assumption) (by omega) (by omega) hzS.1 hg0 hownS).mono ?_
  rintro e w2 ⟨AP, cP, nP, P, rfl, hLP, hownP, hzP, hcur, hm⟩
  have hownP := Own.mono_ hownP hs1
  have hownS := own_moved hm (by omega) hownS
  have HB := HB.trans (below_moved hm (Nat.le_refl _) (by omega)); have hs2 := hm.size; clear hm
  subst hLP
  go_wp2_with fail
  refine (shift_any _ _ _ _ AS cS S _ (by assumption) (by omega) (by omega) hg0 hownS).mono ?_
  rintro e w3 ⟨s, rfl, hcur, hm⟩
  have hownP := own_moved hm (by omega) hownP; have hownS := own_moved hm (by omega) hownS
  have HB := HB.trans (below_moved hm (Nat.le_refl _) (by omega)); have hs3 := hm.size; clear hm
  have hfd : ∀ W : World, (Instr.field 66 (.agg #[.int .i64 s.day, .int .i64 s.part, .int .i64 s.who, .int .i64 s.duty]) 2).run Try.prog W = .ok (.int .i64 s.who) W := fun _ => by kernel_rfl
  go_wp2_with fail
  go_ret3
  exact ⟨_, _, _, _, _, _, _, _, _, rfl, stpl_of hownS hownP hzS hzP HB (Below.refl _ _)⟩
set_option maxRecDepth 100000 in
set_option maxHeartbeats 2000000 in
theorem DrawPutShift_any (A : Option Addr) (Lc : List Int) (cap : Nat) (w : World) (hc : CodeIs w A Lc) :
    Calls Try.prog 58 #[.slice A Lc.length cap] w (SPsDraw w) := by
  have hbz : Below w.heap.size w (w.alloc (.cells #[.int .i64 0, .int .i64 0, .int .i64 0, .int .i64 0] 66)) := (Below.refl _ _).alloc (Nat.le_refl _) _
  have hR : Own Shift.enc 4 66 w.heap.size (w.alloc (.cells #[.int .i64 0, .int .i64 0, .int .i64 0, .int .i64 0] 66)) (.slice (some ⟨w.heap.size, 0, none⟩) 1 1) [(⟨0, 0, 0, 0⟩ : Shift)] := World.ownsRow_lit (e := 66) (size := 4) w #[.int .i64 0, .int .i64 0, .int .i64 0, .int .i64 0] 1 (Nat.le_refl _) (by decide) rfl
  have hzs : (w.alloc (.cells #[.int .i64 0, .int .i64 0, .int .i64 0, .int .i64 0] 66)).heap.size = w.heap.size + 1 := by simp
  have hcur := cur_new (hc.later hbz) cap
  rw [hzs] at hcur
  have hb1 : Below (w.alloc (.cells #[.int .i64 0, .int .i64 0, .int .i64 0, .int .i64 0] 66)).heap.size (w.alloc (.cells #[.int .i64 0, .int .i64 0, .int .i64 0, .int .i64 0] 66)) ((w.alloc (.cells #[.int .i64 0, .int .i64 0, .int .i64 0, .int .i64 0] 66)).alloc (.cells #[.slice A Lc.length cap, .int .i64 0, .int .u64 0] 102)) := (Below.refl _ _).alloc (Nat.le_refl _) _
  have hR := Own.below hR hb1
  have HB := below_step hbz hb1 (Nat.le_refl _)
  have hg0 := hcur.lt
  have HZ0 := hide (show ((w.alloc (.cells #[.int .i64 0, .int .i64 0, .int .i64 0, .int .i64 0] 66)).alloc (.cells #[.slice A Lc.length cap, .int .i64 0, .int .u64 0] 102)).heap.size = w.heap.size + 2 by simp)
  clear hb1 hbz
  go_enter Try.func58, Try.ntmps58
  go_wp2_with fail
  generalize ((w.alloc (.cells #[.int .i64 0, .int .i64 0, .int .i64 0, .int .i64 0] 66)).alloc (.cells #[.slice A Lc.length cap, .int .i64 0, .int .u64 0] 102)) = w0 at *
  refine (staff_any _ _ _ _ (by assumption) (by omega)).mono ?_
  rintro e w1 ⟨AS, cS, nS, S, rfl, hLS, hownS, hzS, hcur, hm⟩
  have hR := own_grown hR hm (.inl (by intro e; have e2 : some w.heap.size = some (w.heap.size + 1) := e; injection e2 with e2; omega)); have HB := HB.trans (below_moved hm (by omega) (by omega)); have hs1 := hm.size; clear hm
  go_wp2_with fail
  subst hLS
  have hS20 := hzS.2
  refine (plan22_any _ _ _ _ AS cS S _ (by assumption) (by omega) (by omega) hzS.1 hg0 hownS).mono ?_
  rintro e w2 ⟨AP, cP, nP, P, rfl, hLP, hownP, hzP, hcur, hm⟩
  have hownP := Own.mono_ hownP hs1
  have hR := own_grown hR hm (.inl (by intro e; have e2 : some w.heap.size = some (w.heap.size + 1) := e; injection e2 with e2; omega))
  have hownS := own_moved hm (by omega) hownS
  have HB := HB.trans (below_moved hm (by omega) (by omega)); have hs2 := hm.size; clear hm
  subst hLP
  go_wp2_with fail
  refine (shift_any _ _ _ _ AS cS S _ (by assumption) (by omega) (by omega) hg0 hownS).mono ?_
  rintro e w3 ⟨s, rfl, hcur, hm⟩
  have hR := own_grown hR hm (.inl (by intro e; have e2 : some w.heap.size = some (w.heap.size + 1) := e; injection e2 with e2; omega))
  have hownP := own_moved hm (by omega) hownP; have hownS := own_moved hm (by omega) hownS
  have HB := HB.trans (below_moved hm (by omega) (by omega)); have hs3 := hm.size; clear hm
  go_wp2_with (first | (with_reducible show wpList _ _ _ (⟨none, _, _, _, _, _⟩ :: _) _ _; refine wpList_store_mid rfl 66 (.tmp 4) (.tmp 20) rfl w.heap.size 0 _ rfl rfl (Own.there_ hR rfl (by simp)) (by kernel_rfl) (by simp [Value.oneCell']) ?_))
  have hRf := Own.set_ Shift.enc_len hR rfl (k := 0) (by simp) s
  have hbs := below_setCells w.heap.size (Nat.le_refl _) (Shift.enc s) (0 * 4) _ (Below.refl w.heap.size w3)
  have hh := Shift.one_heap hRf
  refine bodyPost_ret (results_ttrow rfl _ _ w.heap.size 66 _ (0, 0) _ rfl hh Try.underlying66 rfl (by kernel_rfl)) rfl ?_
  have hle : w.heap.size ≤ w3.heap.size := HB.size
  have hbz : Below w.heap.size w (w3.setCells w.heap.size (0 * 4) (Shift.enc s)) := HB.trans hbs
  exact ⟨_, _, _, _, _, _, _, _, s, rfl, rfl, hS20, hzS.1, (own_rdm Worker.enc_len (own_far hownS (by omega) _ _)), rfl, hzP, own_cple hownP rfl, own_nilcap hownP, (own_rdm Shift.enc_len (own_far hownP (by omega) _ _)), hbz⟩
set_option maxRecDepth 100000 in
set_option maxHeartbeats 2000000 in
theorem DrawIsPlan_any (A : Option Addr) (Lc : List Int) (cap : Nat) (w : World) (hc : CodeIs w A Lc) :
    Calls Try.prog 97 #[.slice A Lc.length cap] w (SPDraw w) := by
  have hcur := cur_new hc cap
  have hb0 : Below w.heap.size w (w.alloc (.cells #[.slice A Lc.length cap, .int .i64 0, .int .u64 0] 102)) := (Below.refl _ _).alloc (Nat.le_refl _) _
  have hg0 := hcur.lt
  have HZ0 := hide (show (w.alloc (.cells #[.slice A Lc.length cap, .int .i64 0, .int .u64 0] 102)).heap.size = w.heap.size + 1 by simp)
  go_enter Try.func97, Try.ntmps97
  go_wp2_with fail
  generalize (w.alloc (.cells #[.slice A Lc.length cap, .int .i64 0, .int .u64 0] 102)) = w0 at *
  have HB := hb0; clear hb0
  refine (staff_any _ _ _ _ (by assumption) (by omega)).mono ?_
  rintro e w1 ⟨AS, cS, nS, S, rfl, hLS, hownS, hzS, hcur, hm⟩
  have HB := HB.trans (below_moved hm (Nat.le_refl _) (by omega)); have hs1 := hm.size; clear hm
  go_wp2_with fail
  subst hLS
  have hS20 := hzS.2
  refine (plan22_any _ _ _ _ AS cS S _ (by assumption) (by omega) (by omega) hzS.1 hg0 hownS).mono ?_
  rintro e w2 ⟨AP, cP, nP, P, rfl, hLP, hownP, hzP, hcur, hm⟩
  have hownP := Own.mono_ hownP hs1
  have hownS := own_moved hm (by omega) hownS
  have HB := HB.trans (below_moved hm (Nat.le_refl _) (by omega)); have hs2 := hm.size; clear hm
  subst hLP
  go_wp2_with fail
  go_ret2
  exact ⟨_, _, _, _, _, _, _, _, rfl, stpl_of hownS hownP hzS hzP HB (Below.refl _ _)⟩
theorem DrawUncoveredParts_any (A : Option Addr) (Lc : List Int) (cap : Nat) (w : World) (hc : CodeIs w A Lc) : Calls Try.prog 59 #[.slice A Lc.length cap] w (SPDraw w) := by
  go_enter Try.func59, Try.ntmps59
  go_wp2_with fail
  refine (DrawIsPlan_any A Lc cap _ hc).mono ?_
  rintro e w1 ⟨A0, n0, c0, S, A1, n1, c1, P, rfl, h⟩
  go_wp2_with fail
  go_ret2
  exact ⟨_, _, _, _, _, _, _, _, rfl, h⟩
end Go.Proofs.Ytfaicjlpncidgaa
