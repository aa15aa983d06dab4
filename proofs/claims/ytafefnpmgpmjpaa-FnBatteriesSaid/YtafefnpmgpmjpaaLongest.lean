/- The greatest rank that a battery serves: both packages. Slices are as the reader gives them. -/
import Derived.Test.YtafefnpmgpmjpaaBat
import Derived.Deep.RegionHeldLaw
namespace Go.Proofs.Ytafefnpmgpmjpaa
open Go Go.RowKit
set_option linter.unusedVariables false
def lrGo (L : List Consumer) (b : Battery) (minutes : Int) : Nat → Nat
  | 0 => 0
  | n + 1 => if takenB b (loadI L ((n + 1 : Nat) : Int)) minutes then n + 1 else lrGo L b minutes n
theorem lrGo_yes {L : List Consumer} {b : Battery} {minutes : Int} {n : Nat} (h : takenB b (loadI L ((n + 1 : Nat) : Int)) minutes = true) : lrGo L b minutes (n + 1) = n + 1 := by simp only [lrGo]; rw [if_pos h]
theorem lrGo_no {L : List Consumer} {b : Battery} {minutes : Int} {n : Nat} (h : takenB b (loadI L ((n + 1 : Nat) : Int)) minutes = false) : lrGo L b minutes (n + 1) = lrGo L b minutes n := by simp only [lrGo]; rw [h]; rfl
def longB (L : List Consumer) (b : Battery) (minutes : Int) : Bool := consB L && (batB b && inB minutes 0 10000)
def longV (L : List Consumer) (b : Battery) (minutes : Int) : Int := if longB L b minutes then (lrGo L b minutes 9 : Nat) else 0
theorem moved_zero (b : Battery) (minutes : Int) : movedB b 0 minutes = (batB b && inB minutes 0 10000) := by
  have : inB 0 0 1000000 = true := by decide
  simp [movedB, this]
theorem below_alloc {B : Nat} {a b : World} (h : Below B a b) (hB : B ≤ a.heap.size) (o : Obj) : Below B a (b.alloc o) := h.alloc (Nat.le_trans hB h.size) o
def Z3 (w : World) (g : Nat) : Prop := CF w g 0 (.int .i64 0) ∧ CF w g 1 (.int .i64 0) ∧ CF w g 2 (.int .i64 0)
theorem z3_alloc (W : World) (T : TypeId) : Z3 (W.alloc (.cells #[.int .i64 0, .int .i64 0, .int .i64 0] T)) W.heap.size := ⟨CF.new W _ T _ 0 _ rfl rfl, CF.new W _ T _ 1 _ rfl rfl, CF.new W _ T _ 2 _ rfl rfl⟩
theorem z3_keep {w w' : World} {g : Nat} (h : Z3 w g) (hb : Below w.heap.size w w') : Z3 w' g := ⟨h.1.below hb, h.2.1.below hb, h.2.2.below hb⟩
theorem z3_new {W w' : World} {T : TypeId} (hb : Below (W.alloc (.cells #[.int .i64 0, .int .i64 0, .int .i64 0] T)).heap.size (W.alloc (.cells #[.int .i64 0, .int .i64 0, .int .i64 0] T)) w') : Z3 w' W.heap.size := z3_keep (z3_alloc W T) hb
theorem z3_new_d {W w' : World} {T : TypeId} (hb : Below (W.alloc (.cells #[.int .i64 0, .int .i64 0, .int .i64 0] T)).drew.heap.size (W.alloc (.cells #[.int .i64 0, .int .i64 0, .int .i64 0] T)).drew w') : Z3 w' W.heap.size := z3_new (T := T) (W := W) (show Below _ _ w' from ⟨hb.os, hb.tape, hb.output, hb.size, hb.block⟩)

set_option maxRecDepth 100000 in
set_option maxHeartbeats 4000000 in
theorem LongestRank_any (L : List Consumer) (b : Battery) (minutes : Int) (A : Option Addr) (cap : Nat) (w : World) (hr : Rd Consumer.enc 3 w.heap.size w A L) (hok : ∀ c ∈ L, c.Ok) (hl : L.length ≤ maxLen) (hcap : L.length ≤ cap) :
    Calls Try.prog 12 #[.slice A L.length cap, .agg #[.int .i64 b.capacity, .int .i64 b.charge, .int .i64 b.most], .int .i64 minutes] w fun e w' => e = .returned (.tuple #[.int .i64 (longV L b minutes), .bool (longB L b minutes)]) ∧ Below w.heap.size w w' := by
  have hba : Below w.heap.size w (w.alloc (.cells #[.int .i64 b.capacity, .int .i64 b.charge, .int .i64 b.most] 30)) := (Below.refl _ _).alloc (Nat.le_refl _) _
  have z0 : (w.alloc (.cells #[.int .i64 b.capacity, .int .i64 b.charge, .int .i64 b.most] 30)).cell? ⟨w.heap.size, 0, none⟩ = some (.int .i64 b.capacity) := (CF.new w #[.int .i64 b.capacity, .int .i64 b.charge, .int .i64 b.most] 30 w.heap.size 0 _ rfl rfl).1
  have z1 : (w.alloc (.cells #[.int .i64 b.capacity, .int .i64 b.charge, .int .i64 b.most] 30)).cell? ⟨w.heap.size, 1, none⟩ = some (.int .i64 b.charge) := (CF.new w #[.int .i64 b.capacity, .int .i64 b.charge, .int .i64 b.most] 30 w.heap.size 1 _ rfl rfl).1
  have z2 : (w.alloc (.cells #[.int .i64 b.capacity, .int .i64 b.charge, .int .i64 b.most] 30)).cell? ⟨w.heap.size, 2, none⟩ = some (.int .i64 b.most) := (CF.new w #[.int .i64 b.capacity, .int .i64 b.charge, .int .i64 b.most] 30 w.heap.size 2 _ rfl rfl).1
  cases hg : consB L
  · have HX := hide (show longB L b minutes = false by simp [longB, hg])
    go_enter Try.func12, Try.ntmps12
    go_wp2_with (go_at_call 42; refine (AreConsumers_is hg _ _ _ (hr.later hba) hok hl hcap).mono ?_; rintro e w1 ⟨rfl, hb1⟩; have B1 := below_step hba hb1 (Nat.le_refl _); have y0 := below_cell hb1 z0; have y1 := below_cell hb1 z1; have y2 := below_cell hb1 z2)
    go_ret2
    exact ⟨by simp [longV, HX.out], B1⟩
  have HG := hide hg; clear hg
  cases hm : movedB b 0 minutes
  · have HX := hide (show longB L b minutes = false by rw [longB, ← moved_zero, hm]; simp)
    go_enter Try.func12, Try.ntmps12
    go_wp2_with (first | (go_at_call 42; refine (AreConsumers_is HG.out _ _ _ (hr.later hba) hok hl hcap).mono ?_; rintro e w1 ⟨rfl, hb1⟩; have B1 := below_step hba hb1 (Nat.le_refl _); have y0 := below_cell hb1 z0; have y1 := below_cell hb1 z1; have y2 := below_cell hb1 z2) | (go_at_call 50; refine (isMoved_is hm _).mono ?_; rintro e w2 ⟨rfl, hb2⟩; have B2 := below_step B1 hb2 (Nat.le_refl _)))
    go_ret2
    exact ⟨by simp [longV, HX.out], B2⟩
  have hX : longB L b minutes = true := by rw [longB, ← moved_zero, hm, HG.out]; rfl
  have HM := hide hm; clear hm
  have hX2 := hX
  simp only [longB, Bool.and_eq_true, inB_iff] at hX2
  obtain ⟨_, hbat, hm0, hm1⟩ := hX2
  obtain ⟨⟨a0, a1⟩, ⟨c0, c1⟩, d0, d1⟩ := batB_bd hbat
  have HX := hide hX; have HBT := hide hbat; clear hX hbat
  have HV := hide (show longV L b minutes = (lrGo L b minutes 9 : Nat) by rw [longV, HX.out]; rfl)
  go_enter Try.func12, Try.ntmps12
  go_wp2_with (first | (go_at_call 42; refine (AreConsumers_is HG.out _ _ _ (hr.later hba) hok hl hcap).mono ?_; rintro e w1 ⟨rfl, hb1⟩; have B1 := below_step hba hb1 (Nat.le_refl _); have y0 := below_cell hb1 z0; have y1 := below_cell hb1 z1; have y2 := below_cell hb1 z2) | (go_at_call 50; refine (isMoved_is HM.out _).mono ?_; rintro e w2 ⟨rfl, hb2⟩; have B2 := below_step B1 hb2 (Nat.le_refl _)))
  have q0 := below_cell hb2 y0; have q1 := below_cell hb2 y1; have q2 := below_cell hb2 y2
  have hw2 : w.heap.size + 1 ≤ w2.heap.size := by have := hb1.size; have := hb2.size; simp at *; omega
  clear y0 y1 y2 z0 z1 z2
  go_loopw [8] (fun x wr => ∃ n : Nat, n ≤ 9 ∧ x = .int .i64 n ∧ Hid (lrGo L b minutes n = lrGo L b minutes 9) ∧ Below w2.heap.size w2 wr) (fun x _ => (intOf x).toNat)
  case atStart => exact ⟨9, Nat.le_refl _, rfl, hide rfl, Below.refl _ _⟩
  case round =>
    obtain ⟨n, hn, rfl, hq, hbel⟩ := hrel
    have RW := hide ((hr.later B2).later hbel)
    have BW := below_step B2 hbel (Nat.le_refl _)
    replace q0 := below_cell hbel q0
    replace q1 := below_cell hbel q1
    replace q2 := below_cell hbel q2
    rcases n with _ | n
    · go_wp2_with fail
      go_ret2
      exact ⟨by rw [HV.out, HX.out, ← hq.out]; rfl, BW⟩
    · obtain ⟨ld0, ld1⟩ := loadI_bd ((n + 1 : Nat) : Int) HG.out
      have HLY := hide (@lrGo_yes L b minutes n); have HLN := hide (@lrGo_no L b minutes n)
      have hn0 : (0 : Int) < ((n + 1 : Nat) : Int) := by omega
      obtain ⟨v, hv⟩ : ∃ v, loadI L ((n + 1 : Nat) : Int) = v := ⟨_, rfl⟩
      rw [hv] at ld0 ld1
      have HLD := hide hv; have HLD2 := hide (show loadI L ((n : Int) + 1) = v from hv); clear hv
      cases ht : takenB b v minutes
      · have HT := hide ht; clear ht
        have n0 := World.new_ne wr _ q0; have n1 := World.new_ne wr _ q1; have n2 := World.new_ne wr _ q2; have n3 := Ne.symm n0
        go_wp2_with fail
        go_region_held_law (fun w' => w'.cell? ⟨w.heap.size, 0, none⟩ = some (.int .i64 b.capacity) ∧ w'.cell? ⟨w.heap.size, 1, none⟩ = some (.int .i64 b.charge) ∧ w'.cell? ⟨w.heap.size, 2, none⟩ = some (.int .i64 b.most)) (first | (refine ⟨?_, ?_, ?_⟩ <;> assumption) | go_keep) (first | (go_at_call 52; (first | (with_reducible refine (emergencyLoad_is HLD.out _ _ _ HG.out (RW.out.later (by first | exact Below.refl _ _ | exact (Below.refl _ _).drew | exact (Below.refl _ _).alloc (Nat.le_refl _) _ | exact ((Below.refl _ _).alloc (Nat.le_refl _) _).drew | exact ((Below.refl _ _).drew).alloc (Nat.le_refl _) _))).mono ?_) | (with_reducible refine (emergencyLoad_is HLD2.out _ _ _ HG.out (RW.out.later (by first | exact Below.refl _ _ | exact (Below.refl _ _).drew | exact (Below.refl _ _).alloc (Nat.le_refl _) _ | exact ((Below.refl _ _).alloc (Nat.le_refl _) _).drew | exact ((Below.refl _ _).drew).alloc (Nat.le_refl _) _))).mono ?_)); rintro e w5 ⟨rfl, hb5⟩; (first | (have s0 : w5.cell? ⟨w.heap.size, 0, none⟩ = some (.int .i64 b.capacity) := below_cell hb5 q0; have s1 : w5.cell? ⟨w.heap.size, 1, none⟩ = some (.int .i64 b.charge) := below_cell hb5 q1; have s2 : w5.cell? ⟨w.heap.size, 2, none⟩ = some (.int .i64 b.most) := below_cell hb5 q2) | (have s0 : w5.cell? ⟨w.heap.size, 0, none⟩ = some (.int .i64 b.capacity) := below_cell hb5 (below_cell ((Below.refl _ _).alloc (Nat.le_refl _) _) q0); have s1 : w5.cell? ⟨w.heap.size, 1, none⟩ = some (.int .i64 b.charge) := below_cell hb5 (below_cell ((Below.refl _ _).alloc (Nat.le_refl _) _) q1); have s2 : w5.cell? ⟨w.heap.size, 2, none⟩ = some (.int .i64 b.most) := below_cell hb5 (below_cell ((Below.refl _ _).alloc (Nat.le_refl _) _) q2)) | (have s0 : w5.cell? ⟨w.heap.size, 0, none⟩ = some (.int .i64 b.capacity) := below_cell hb5 (below_cell ((Below.refl _ _).alloc (Nat.le_refl _) _).drew q0); have s1 : w5.cell? ⟨w.heap.size, 1, none⟩ = some (.int .i64 b.charge) := below_cell hb5 (below_cell ((Below.refl _ _).alloc (Nat.le_refl _) _).drew q1); have s2 : w5.cell? ⟨w.heap.size, 2, none⟩ = some (.int .i64 b.most) := below_cell hb5 (below_cell ((Below.refl _ _).alloc (Nat.le_refl _) _).drew q2)) | (have s0 : w5.cell? ⟨w.heap.size, 0, none⟩ = some (.int .i64 b.capacity) := below_cell hb5 (below_cell (Below.refl _ _).drew q0); have s1 : w5.cell? ⟨w.heap.size, 1, none⟩ = some (.int .i64 b.charge) := below_cell hb5 (below_cell (Below.refl _ _).drew q1); have s2 : w5.cell? ⟨w.heap.size, 2, none⟩ = some (.int .i64 b.most) := below_cell hb5 (below_cell (Below.refl _ _).drew q2))); have ne5 := World.new_ne w5 _ s0; have ne5b := Ne.symm ne5; (first | (have T5 := z3_new hb5; have g50 := T5.1.1; have g51 := T5.1.2; have g52 := T5.2.1.1; have g53 := T5.2.1.2; have g54 := T5.2.2.1; have g55 := T5.2.2.2) | (have T5 := z3_new_d hb5; have g50 := T5.1.1; have g51 := T5.1.2; have g52 := T5.2.1.1; have g53 := T5.2.1.2; have g54 := T5.2.2.1; have g55 := T5.2.2.2) | skip)) | (go_at_call 51; refine (takenOut_no b v minutes _ HBT.out ld0 ld1 hm0 hm1 HT.out).mono ?_; rintro e w6 ⟨rfl, hb6⟩; (first | (have t0 : w6.cell? ⟨w.heap.size, 0, none⟩ = some (.int .i64 b.capacity) := below_cell hb6 s0; have t1 : w6.cell? ⟨w.heap.size, 1, none⟩ = some (.int .i64 b.charge) := below_cell hb6 s1; have t2 : w6.cell? ⟨w.heap.size, 2, none⟩ = some (.int .i64 b.most) := below_cell hb6 s2) | (have t0 : w6.cell? ⟨w.heap.size, 0, none⟩ = some (.int .i64 b.capacity) := below_cell hb6 (below_cell ((Below.refl _ _).alloc (Nat.le_refl _) _) s0); have t1 : w6.cell? ⟨w.heap.size, 1, none⟩ = some (.int .i64 b.charge) := below_cell hb6 (below_cell ((Below.refl _ _).alloc (Nat.le_refl _) _) s1); have t2 : w6.cell? ⟨w.heap.size, 2, none⟩ = some (.int .i64 b.most) := below_cell hb6 (below_cell ((Below.refl _ _).alloc (Nat.le_refl _) _) s2)) | (have t0 : w6.cell? ⟨w.heap.size, 0, none⟩ = some (.int .i64 b.capacity) := below_cell hb6 (below_cell ((Below.refl _ _).alloc (Nat.le_refl _) _).drew s0); have t1 : w6.cell? ⟨w.heap.size, 1, none⟩ = some (.int .i64 b.charge) := below_cell hb6 (below_cell ((Below.refl _ _).alloc (Nat.le_refl _) _).drew s1); have t2 : w6.cell? ⟨w.heap.size, 2, none⟩ = some (.int .i64 b.most) := below_cell hb6 (below_cell ((Below.refl _ _).alloc (Nat.le_refl _) _).drew s2)) | (have t0 : w6.cell? ⟨w.heap.size, 0, none⟩ = some (.int .i64 b.capacity) := below_cell hb6 (below_cell (Below.refl _ _).drew s0); have t1 : w6.cell? ⟨w.heap.size, 1, none⟩ = some (.int .i64 b.charge) := below_cell hb6 (below_cell (Below.refl _ _).drew s1); have t2 : w6.cell? ⟨w.heap.size, 2, none⟩ = some (.int .i64 b.most) := below_cell hb6 (below_cell (Below.refl _ _).drew s2))); have ne6 := World.new_ne w6 _ t0; have ne6b := Ne.symm ne6; (first | (have T6 := z3_new hb6; have g60 := T6.1.1; have g61 := T6.1.2; have g62 := T6.2.1.1; have g63 := T6.2.1.2; have g64 := T6.2.2.1; have g65 := T6.2.2.2) | (have T6 := z3_new_d hb6; have g60 := T6.1.1; have g61 := T6.1.2; have g62 := T6.2.1.1; have g63 := T6.2.1.2; have g64 := T6.2.2.1; have g65 := T6.2.2.2) | (have T6 := z3_keep T5 hb6; have g60 := T6.1.1; have g61 := T6.1.2; have g62 := T6.2.1.1; have g63 := T6.2.1.2; have g64 := T6.2.2.1; have g65 := T6.2.2.2) | skip)))
        all_goals
          go_wp2_with fail
          go_roundw
          case rel =>
            refine ⟨n, by omega, by go_num, hide (by rw [← HLN.out (by rw [HLD.out]; exact HT.out)]; exact hq.out), ?_⟩
            first | exact below_alloc (below_step (below_step hbel.drew hb5 (Nat.le_refl _)) hb6 (Nat.le_refl _)) (Nat.le_refl _) _ | exact (((below_step (below_alloc (below_step hbel.drew hb5 (Nat.le_refl _)) (Nat.le_refl _) _) hb6 (Nat.le_refl _)).setCell (below_step hbel.drew hb5 (Nat.le_refl _)).size _).setCell (below_step hbel.drew hb5 (Nat.le_refl _)).size _).setCell (below_step hbel.drew hb5 (Nat.le_refl _)).size _ | exact (((below_step (below_step (below_alloc hbel (Nat.le_refl _) _).drew hb5 (Nat.le_refl _)) hb6 (Nat.le_refl _)).setCell hbel.size _).setCell hbel.size _).setCell hbel.size _
          case measure => simp [intOf] <;> omega
      · have HT := hide ht; clear ht
        have n0 := World.new_ne wr _ q0; have n1 := World.new_ne wr _ q1; have n2 := World.new_ne wr _ q2; have n3 := Ne.symm n0
        go_wp2_with fail
        go_region_held_law (fun w' => w'.cell? ⟨w.heap.size, 0, none⟩ = some (.int .i64 b.capacity) ∧ w'.cell? ⟨w.heap.size, 1, none⟩ = some (.int .i64 b.charge) ∧ w'.cell? ⟨w.heap.size, 2, none⟩ = some (.int .i64 b.most)) (first | (refine ⟨?_, ?_, ?_⟩ <;> assumption) | go_keep) (first | (go_at_call 52; (first | (with_reducible refine (emergencyLoad_is HLD.out _ _ _ HG.out (RW.out.later (by first | exact Below.refl _ _ | exact (Below.refl _ _).drew | exact (Below.refl _ _).alloc (Nat.le_refl _) _ | exact ((Below.refl _ _).alloc (Nat.le_refl _) _).drew | exact ((Below.refl _ _).drew).alloc (Nat.le_refl _) _))).mono ?_) | (with_reducible refine (emergencyLoad_is HLD2.out _ _ _ HG.out (RW.out.later (by first | exact Below.refl _ _ | exact (Below.refl _ _).drew | exact (Below.refl _ _).alloc (Nat.le_refl _) _ | exact ((Below.refl _ _).alloc (Nat.le_refl _) _).drew | exact ((Below.refl _ _).drew).alloc (Nat.le_refl _) _))).mono ?_)); rintro e w5 ⟨rfl, hb5⟩; (first | (have s0 : w5.cell? ⟨w.heap.size, 0, none⟩ = some (.int .i64 b.capacity) := below_cell hb5 q0; have s1 : w5.cell? ⟨w.heap.size, 1, none⟩ = some (.int .i64 b.charge) := below_cell hb5 q1; have s2 : w5.cell? ⟨w.heap.size, 2, none⟩ = some (.int .i64 b.most) := below_cell hb5 q2) | (have s0 : w5.cell? ⟨w.heap.size, 0, none⟩ = some (.int .i64 b.capacity) := below_cell hb5 (below_cell ((Below.refl _ _).alloc (Nat.le_refl _) _) q0); have s1 : w5.cell? ⟨w.heap.size, 1, none⟩ = some (.int .i64 b.charge) := below_cell hb5 (below_cell ((Below.refl _ _).alloc (Nat.le_refl _) _) q1); have s2 : w5.cell? ⟨w.heap.size, 2, none⟩ = some (.int .i64 b.most) := below_cell hb5 (below_cell ((Below.refl _ _).alloc (Nat.le_refl _) _) q2)) | (have s0 : w5.cell? ⟨w.heap.size, 0, none⟩ = some (.int .i64 b.capacity) := below_cell hb5 (below_cell ((Below.refl _ _).alloc (Nat.le_refl _) _).drew q0); have s1 : w5.cell? ⟨w.heap.size, 1, none⟩ = some (.int .i64 b.charge) := below_cell hb5 (below_cell ((Below.refl _ _).alloc (Nat.le_refl _) _).drew q1); have s2 : w5.cell? ⟨w.heap.size, 2, none⟩ = some (.int .i64 b.most) := below_cell hb5 (below_cell ((Below.refl _ _).alloc (Nat.le_refl _) _).drew q2)) | (have s0 : w5.cell? ⟨w.heap.size, 0, none⟩ = some (.int .i64 b.capacity) := below_cell hb5 (below_cell (Below.refl _ _).drew q0); have s1 : w5.cell? ⟨w.heap.size, 1, none⟩ = some (.int .i64 b.charge) := below_cell hb5 (below_cell (Below.refl _ _).drew q1); have s2 : w5.cell? ⟨w.heap.size, 2, none⟩ = some (.int .i64 b.most) := below_cell hb5 (below_cell (Below.refl _ _).drew q2))); have ne5 := World.new_ne w5 _ s0; have ne5b := Ne.symm ne5; (first | (have T5 := z3_new hb5; have g50 := T5.1.1; have g51 := T5.1.2; have g52 := T5.2.1.1; have g53 := T5.2.1.2; have g54 := T5.2.2.1; have g55 := T5.2.2.2) | (have T5 := z3_new_d hb5; have g50 := T5.1.1; have g51 := T5.1.2; have g52 := T5.2.1.1; have g53 := T5.2.1.2; have g54 := T5.2.2.1; have g55 := T5.2.2.2) | skip)) | (go_at_call 51; refine (takenOut_yes b v minutes _ HBT.out ld0 ld1 hm0 hm1 HT.out).mono ?_; rintro e w6 ⟨rfl, hb6⟩; (first | (have t0 : w6.cell? ⟨w.heap.size, 0, none⟩ = some (.int .i64 b.capacity) := below_cell hb6 s0; have t1 : w6.cell? ⟨w.heap.size, 1, none⟩ = some (.int .i64 b.charge) := below_cell hb6 s1; have t2 : w6.cell? ⟨w.heap.size, 2, none⟩ = some (.int .i64 b.most) := below_cell hb6 s2) | (have t0 : w6.cell? ⟨w.heap.size, 0, none⟩ = some (.int .i64 b.capacity) := below_cell hb6 (below_cell ((Below.refl _ _).alloc (Nat.le_refl _) _) s0); have t1 : w6.cell? ⟨w.heap.size, 1, none⟩ = some (.int .i64 b.charge) := below_cell hb6 (below_cell ((Below.refl _ _).alloc (Nat.le_refl _) _) s1); have t2 : w6.cell? ⟨w.heap.size, 2, none⟩ = some (.int .i64 b.most) := below_cell hb6 (below_cell ((Below.refl _ _).alloc (Nat.le_refl _) _) s2)) | (have t0 : w6.cell? ⟨w.heap.size, 0, none⟩ = some (.int .i64 b.capacity) := below_cell hb6 (below_cell ((Below.refl _ _).alloc (Nat.le_refl _) _).drew s0); have t1 : w6.cell? ⟨w.heap.size, 1, none⟩ = some (.int .i64 b.charge) := below_cell hb6 (below_cell ((Below.refl _ _).alloc (Nat.le_refl _) _).drew s1); have t2 : w6.cell? ⟨w.heap.size, 2, none⟩ = some (.int .i64 b.most) := below_cell hb6 (below_cell ((Below.refl _ _).alloc (Nat.le_refl _) _).drew s2)) | (have t0 : w6.cell? ⟨w.heap.size, 0, none⟩ = some (.int .i64 b.capacity) := below_cell hb6 (below_cell (Below.refl _ _).drew s0); have t1 : w6.cell? ⟨w.heap.size, 1, none⟩ = some (.int .i64 b.charge) := below_cell hb6 (below_cell (Below.refl _ _).drew s1); have t2 : w6.cell? ⟨w.heap.size, 2, none⟩ = some (.int .i64 b.most) := below_cell hb6 (below_cell (Below.refl _ _).drew s2))); have ne6 := World.new_ne w6 _ t0; have ne6b := Ne.symm ne6; (first | (have T6 := z3_new hb6; have g60 := T6.1.1; have g61 := T6.1.2; have g62 := T6.2.1.1; have g63 := T6.2.1.2; have g64 := T6.2.2.1; have g65 := T6.2.2.2) | (have T6 := z3_new_d hb6; have g60 := T6.1.1; have g61 := T6.1.2; have g62 := T6.2.1.1; have g63 := T6.2.1.2; have g64 := T6.2.2.1; have g65 := T6.2.2.2) | (have T6 := z3_keep T5 hb6; have g60 := T6.1.1; have g61 := T6.1.2; have g62 := T6.2.1.1; have g63 := T6.2.1.2; have g64 := T6.2.2.1; have g65 := T6.2.2.2) | skip)))
        all_goals
          go_wp2_with fail
          go_ret2
          refine ⟨by rw [HV.out, HX.out, ← hq.out, HLY.out (by rw [HLD.out]; exact HT.out)]; rfl, below_step B2 (?_ : Below w2.heap.size w2 _) (Nat.le_refl _)⟩
          first | exact below_alloc (below_step (below_step hbel.drew hb5 (Nat.le_refl _)) hb6 (Nat.le_refl _)) (Nat.le_refl _) _ | exact (((below_step (below_alloc (below_step hbel.drew hb5 (Nat.le_refl _)) (Nat.le_refl _) _) hb6 (Nat.le_refl _)).setCell (below_step hbel.drew hb5 (Nat.le_refl _)).size _).setCell (below_step hbel.drew hb5 (Nat.le_refl _)).size _).setCell (below_step hbel.drew hb5 (Nat.le_refl _)).size _ | exact (((below_step (below_step (below_alloc hbel (Nat.le_refl _) _).drew hb5 (Nat.le_refl _)) hb6 (Nat.le_refl _)).setCell hbel.size _).setCell hbel.size _).setCell hbel.size _

set_option maxRecDepth 100000 in
set_option maxHeartbeats 4000000 in
theorem LongestRank_spec (L : List Consumer) (b : Battery) (minutes : Int) (A : Option Addr) (cap : Nat) (w : World) (hr : Rd Consumer.enc 3 w.heap.size w A L) (hok : ∀ c ∈ L, c.Ok) (hl : L.length ≤ maxLen) :
    Calls Try.prog 9 #[.slice A L.length cap, .agg #[.int .i64 b.capacity, .int .i64 b.charge, .int .i64 b.most], .int .i64 minutes] w fun e w' => e = .returned (.tuple #[.int .i64 (longV L b minutes), .bool (longB L b minutes)]) ∧ Below w.heap.size w w' := by
  have hba : Below w.heap.size w (w.alloc (.cells #[.int .i64 b.capacity, .int .i64 b.charge, .int .i64 b.most] 30)) := (Below.refl _ _).alloc (Nat.le_refl _) _
  have z0 : (w.alloc (.cells #[.int .i64 b.capacity, .int .i64 b.charge, .int .i64 b.most] 30)).cell? ⟨w.heap.size, 0, none⟩ = some (.int .i64 b.capacity) := (CF.new w #[.int .i64 b.capacity, .int .i64 b.charge, .int .i64 b.most] 30 w.heap.size 0 _ rfl rfl).1
  have z1 : (w.alloc (.cells #[.int .i64 b.capacity, .int .i64 b.charge, .int .i64 b.most] 30)).cell? ⟨w.heap.size, 1, none⟩ = some (.int .i64 b.charge) := (CF.new w #[.int .i64 b.capacity, .int .i64 b.charge, .int .i64 b.most] 30 w.heap.size 1 _ rfl rfl).1
  have z2 : (w.alloc (.cells #[.int .i64 b.capacity, .int .i64 b.charge, .int .i64 b.most] 30)).cell? ⟨w.heap.size, 2, none⟩ = some (.int .i64 b.most) := (CF.new w #[.int .i64 b.capacity, .int .i64 b.charge, .int .i64 b.most] 30 w.heap.size 2 _ rfl rfl).1
  cases hg : consB L
  · have HX := hide (show longB L b minutes = false by simp [longB, hg])
    go_enter Try.func9, Try.ntmps9
    go_wp2_with (go_at_call 44; refine (l18Good_is hg _ _ _ (hr.later hba) hok hl).mono ?_; rintro e w1 ⟨rfl, hb1⟩; have B1 := below_step hba hb1 (Nat.le_refl _); have y0 := below_cell hb1 z0; have y1 := below_cell hb1 z1; have y2 := below_cell hb1 z2)
    go_ret2
    exact ⟨by simp [longV, HX.out], B1⟩
  have HG := hide hg; clear hg
  cases hb : batB b
  · have HX := hide (show longB L b minutes = false by simp [longB, hb])
    go_enter Try.func9, Try.ntmps9
    go_wp2_with (first | (go_at_call 44; refine (l18Good_is HG.out _ _ _ (hr.later hba) hok hl).mono ?_; rintro e w1 ⟨rfl, hb1⟩; have B1 := below_step hba hb1 (Nat.le_refl _); have y0 := below_cell hb1 z0; have y1 := below_cell hb1 z1; have y2 := below_cell hb1 z2) | (go_at_call 45; refine (l18Battery_is hb _).mono ?_; rintro e w2 ⟨rfl, hb2⟩; have B2 := below_step B1 hb2 (Nat.le_refl _)) | (go_at_call 46; refine (l18Minutes_is (by assumption) _).mono ?_; rintro e w3 ⟨rfl, rfl⟩))
    go_ret2
    exact ⟨by simp [longV, HX.out], B2⟩
  cases hm : inB minutes 0 10000
  · have HX := hide (show longB L b minutes = false by simp [longB, hm])
    have HB := hide hb; clear hb
    go_enter Try.func9, Try.ntmps9
    go_wp2_with (first | (go_at_call 44; refine (l18Good_is HG.out _ _ _ (hr.later hba) hok hl).mono ?_; rintro e w1 ⟨rfl, hb1⟩; have B1 := below_step hba hb1 (Nat.le_refl _); have y0 := below_cell hb1 z0; have y1 := below_cell hb1 z1; have y2 := below_cell hb1 z2) | (go_at_call 45; refine (l18Battery_is HB.out _).mono ?_; rintro e w2 ⟨rfl, hb2⟩; have B2 := below_step B1 hb2 (Nat.le_refl _)) | (go_at_call 46; refine (l18Minutes_is (by assumption) _).mono ?_; rintro e w3 ⟨rfl, rfl⟩))
    go_ret2
    exact ⟨by simp [longV, HX.out], B2⟩
  have hX : longB L b minutes = true := by simp [longB, HG.out, hb, hm]
  have HM := hide hb; clear hb
  have hX2 := hX
  simp only [longB, Bool.and_eq_true, inB_iff] at hX2
  obtain ⟨_, hbat, hm0, hm1⟩ := hX2
  obtain ⟨⟨a0, a1⟩, ⟨c0, c1⟩, d0, d1⟩ := batB_bd hbat
  have HX := hide hX; have HBT := hide hbat; clear hX hbat
  have HV := hide (show longV L b minutes = (lrGo L b minutes 9 : Nat) by rw [longV, HX.out]; rfl)
  go_enter Try.func9, Try.ntmps9
  go_wp2_with (first | (go_at_call 44; refine (l18Good_is HG.out _ _ _ (hr.later hba) hok hl).mono ?_; rintro e w1 ⟨rfl, hb1⟩; have B1 := below_step hba hb1 (Nat.le_refl _); have y0 := below_cell hb1 z0; have y1 := below_cell hb1 z1; have y2 := below_cell hb1 z2) | (go_at_call 45; refine (l18Battery_is HM.out _).mono ?_; rintro e w2 ⟨rfl, hb2⟩; have B2 := below_step B1 hb2 (Nat.le_refl _)) | (go_at_call 46; refine (l18Minutes_is (by assumption) _).mono ?_; rintro e w3 ⟨rfl, rfl⟩))
  have q0 := below_cell hb2 y0; have q1 := below_cell hb2 y1; have q2 := below_cell hb2 y2
  have hw2 : w.heap.size + 1 ≤ w2.heap.size := by have := hb1.size; have := hb2.size; simp at *; omega
  clear y0 y1 y2 z0 z1 z2
  go_loopw [8] (fun x wr => ∃ n : Nat, n ≤ 9 ∧ x = .int .i64 n ∧ Hid (lrGo L b minutes n = lrGo L b minutes 9) ∧ Below w2.heap.size w2 wr) (fun x _ => (intOf x).toNat)
  case atStart => exact ⟨9, Nat.le_refl _, rfl, hide rfl, Below.refl _ _⟩
  case round =>
    obtain ⟨n, hn, rfl, hq, hbel⟩ := hrel
    have RW := hide ((hr.later B2).later hbel)
    have BW := below_step B2 hbel (Nat.le_refl _)
    replace q0 := below_cell hbel q0
    replace q1 := below_cell hbel q1
    replace q2 := below_cell hbel q2
    rcases n with _ | n
    · go_wp2_with fail
      refine wp_region_after (by kernel_rfl) (by kernel_rfl) ?_
      repeat (go_big_quiet_step (fail))
      refine wpQuiet_nil ?_
      rintro w5 ⟨⟨_, hb5⟩, rfl⟩
      go_wp2_with fail
      go_ret2
      exact ⟨by rw [HV.out, HX.out, ← hq.out]; rfl, below_step BW hb5 (Nat.le_refl _)⟩
    · obtain ⟨ld0, ld1⟩ := loadI_bd ((n + 1 : Nat) : Int) HG.out
      have HLY := hide (@lrGo_yes L b minutes n); have HLN := hide (@lrGo_no L b minutes n)
      have hn0 : (0 : Int) < ((n + 1 : Nat) : Int) := by omega
      obtain ⟨v, hv⟩ : ∃ v, loadI L ((n + 1 : Nat) : Int) = v := ⟨_, rfl⟩
      rw [hv] at ld0 ld1
      have HLD := hide hv; have HLD2 := hide (show loadI L ((n : Int) + 1) = v from hv); clear hv
      obtain ⟨e0, e1⟩ := energy_bd ld0 ld1 hm0 hm1
      obtain ⟨en, hen⟩ : ∃ v2, energyI v minutes = v2 := ⟨_, rfl⟩
      rw [hen] at e0 e1
      have HEN := hide hen; clear hen
      have u0 := after_cell q0; have u1 := after_cell q1; have u2 := after_cell q2
      by_cases h1 : b.most < v
      · have h1' : decide (b.most < v) = true := by simp; omega
        have HT := hide (show takenB b (loadI L ((n + 1 : Nat) : Int)) minutes = false by rw [HLD.out]; simp [takenB, h1])
        go_wp2_with fail
        refine wp_region_after (by kernel_rfl) (by kernel_rfl) ?_
        repeat (go_big_quiet_step ((first | (go_at_call 47; exact Calls.after (l18Load_is HLD.out _ _ _ HG.out (RW.out.later (Subtype.property _)))) | (go_at_call 48; exact Calls.after_same (l18Energy_is HEN.out _ ld0 ld1 hm0 hm1)))))
        refine wpQuiet_nil ?_
        rintro w5 ⟨⟨_, hb5⟩, rfl⟩
        go_wp2_with fail
        go_roundw
        case rel => exact ⟨n, by omega, by go_num, hide (by rw [← HLN.out HT.out]; exact hq.out), hbel.trans (hb5.mono hbel.size)⟩
        case measure => simp [intOf] <;> omega
      · have h1' : decide (b.most < v) = false := by simp; omega
        by_cases h2 : b.charge < en
        · have h2' : decide (b.charge < en) = true := by simp; omega
          have HT := hide (show takenB b (loadI L ((n + 1 : Nat) : Int)) minutes = false by rw [HLD.out, takenB, HEN.out, h2']; simp)
          go_wp2_with fail
          refine wp_region_after (by kernel_rfl) (by kernel_rfl) ?_
          repeat (go_big_quiet_step ((first | (go_at_call 47; exact Calls.after (l18Load_is HLD.out _ _ _ HG.out (RW.out.later (Subtype.property _)))) | (go_at_call 48; exact Calls.after_same (l18Energy_is HEN.out _ ld0 ld1 hm0 hm1)))))
          refine wpQuiet_nil ?_
          rintro w5 ⟨⟨_, hb5⟩, rfl⟩
          go_wp2_with fail
          go_roundw
          case rel => exact ⟨n, by omega, by go_num, hide (by rw [← HLN.out HT.out]; exact hq.out), hbel.trans (hb5.mono hbel.size)⟩
          case measure => simp [intOf] <;> omega
        · have h2' : decide (b.charge < en) = false := by simp; omega
          have HT := hide (show takenB b (loadI L ((n + 1 : Nat) : Int)) minutes = true by rw [HLD.out, takenB, HEN.out, h1', h2']; rfl)
          go_wp2_with fail
          refine wp_region_after (by kernel_rfl) (by kernel_rfl) ?_
          repeat (go_big_quiet_step ((first | (go_at_call 47; exact Calls.after (l18Load_is HLD.out _ _ _ HG.out (RW.out.later (Subtype.property _)))) | (go_at_call 48; exact Calls.after_same (l18Energy_is HEN.out _ ld0 ld1 hm0 hm1)))))
          refine wpQuiet_nil ?_
          rintro w5 ⟨⟨_, hb5⟩, rfl⟩
          go_wp2_with fail
          go_ret2
          exact ⟨by rw [HV.out, HX.out, ← hq.out, HLY.out HT.out]; rfl, below_step BW hb5 (Nat.le_refl _)⟩

end Go.Proofs.Ytafefnpmgpmjpaa
