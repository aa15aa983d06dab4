/- Putting a shift into a plan: the program's functions and the reference's. -/
import Derived.Test.YtfaicjlpncidgaaPut
namespace Go.Proofs.Ytfaicjlpncidgaa
open Go Go.RowKit
theorem IsPlan_n {staff : List Worker} {plan : List Shift} {b : Bool} {n : Nat} (h : planB staff plan = b) (hn : plan.length = n) (A0 A1 : Option Addr) (c0 c1 : Nat) (w : World) (r0 : Rd Worker.enc 4 w.heap.size w A0 staff) (r1 : Rd Shift.enc 4 w.heap.size w A1 plan) (ok0 : ∀ c ∈ staff, c.Ok) (l0 : staff.length ≤ maxLen) (l1 : plan.length ≤ maxLen) (hcap : n ≤ c1) :
    Calls Try.prog 28 #[.slice A0 staff.length c0, .slice A1 n c1] w fun e w' => e = .returned (.bool b) ∧ Below w.heap.size w w' := by
  subst hn; exact IsPlan_is h A0 A1 c0 c1 w r0 r1 ok0 l0 l1 hcap
set_option maxRecDepth 100000 in
set_option maxHeartbeats 4000000 in
theorem putShift_any (staff : List Worker) (plan : List Shift) (s : Shift) (hp : planB staff plan = true) (A0 A1 : Option Addr) (c0 c1 : Nat) (w : World) (r0 : Rd Worker.enc 4 w.heap.size w A0 staff) (r1 : Rd Shift.enc 4 w.heap.size w A1 plan) (ok0 : ∀ c ∈ staff, c.Ok) (l0 : staff.length ≤ maxLen) :
    Calls Try.prog 92 #[.slice A0 staff.length c0, .slice A1 plan.length c1, .agg #[.int .i64 s.day, .int .i64 s.part, .int .i64 s.who, .int .i64 s.duty]] w (Gives (putL staff plan s).length (fun v => .tuple #[v, .bool (putB staff plan s)]) (fun w' v => Own Shift.enc 4 66 w.heap.size w' v (putL staff plan s)) w) := by
  have hlen := planB_len hp
  have hpl := pos_le (lowS s) plan
  have hba : Below w.heap.size w (w.alloc (.cells #[.int .i64 s.day, .int .i64 s.part, .int .i64 s.who, .int .i64 s.duty] 66)) := (Below.refl _ _).alloc (Nat.le_refl _) _
  have x0 : (w.alloc (.cells #[.int .i64 s.day, .int .i64 s.part, .int .i64 s.who, .int .i64 s.duty] 66)).cell? ⟨w.heap.size, 0, none⟩ = some (.int .i64 s.day) := by simp
  have x1 : (w.alloc (.cells #[.int .i64 s.day, .int .i64 s.part, .int .i64 s.who, .int .i64 s.duty] 66)).cell? ⟨w.heap.size, 1, none⟩ = some (.int .i64 s.part) := by simp
  have x2 : (w.alloc (.cells #[.int .i64 s.day, .int .i64 s.part, .int .i64 s.who, .int .i64 s.duty] 66)).cell? ⟨w.heap.size, 2, none⟩ = some (.int .i64 s.who) := by simp
  have x3 : (w.alloc (.cells #[.int .i64 s.day, .int .i64 s.part, .int .i64 s.who, .int .i64 s.duty] 66)).cell? ⟨w.heap.size, 3, none⟩ = some (.int .i64 s.duty) := by simp
  have HB := hide (fun W => Shift.BinarySearchFunc_any 72 cmpS plan s (posOf (lowS s) plan) A1 c1 W)
  have HLO := hide (fun (j : Nat) (c : Shift) (hj : j < posOf (lowS s) plan) (hc : plan[j]? = some c) => show cmpS c s < 0 by simpa [lowS] using pos_low plan j c hj hc)
  have HHI := hide (fun (j : Nat) (c : Shift) (hj : posOf (lowS s) plan ≤ j) (hc : plan[j]? = some c) => show 0 ≤ cmpS c s by simpa [lowS] using pos_high (low_mono hp) hj hc)
  have HC := hide (fun (W : World) (c : Shift) (_ : c ∈ plan) => compareShifts_any c s W)
  have HPL := hide (show posOf (lowS s) plan ≤ plan.length from hpl)
  have hil := insL_len plan (posOf (lowS s) plan) s hpl
  have HL := hide (show putL staff plan s = if planB staff (insL plan (posOf (lowS s) plan) s) then insL plan (posOf (lowS s) plan) s else [] from rfl)
  have HPB := hide (show putB staff plan s = planB staff (insL plan (posOf (lowS s) plan) s) from rfl)
  generalize posOf (lowS s) plan = k at *
  obtain ⟨Z, hZ⟩ : ∃ Z, Z = insL plan k s := ⟨_, rfl⟩
  rw [← hZ] at hil
  cases hq : planB staff Z
  all_goals
    have HQ := hide hq
    rw [← hZ] at HL HPB
    rw [hq] at HL HPB
    clear hq
    go_enter Try.func92, Try.ntmps92
    go_wp2_with (go_at_call 110; refine (HB.out _ (r1.later hba) (by omega) HPL.out HLO.out HHI.out (entersF Try.func72 (by kernel_rfl) rfl) HC.out).mono ?_; rintro e w1 ⟨b, rfl, hb1⟩; have y0 := below_cell hb1 x0; have y1 := below_cell hb1 x1; have y2 := below_cell hb1 x2; have y3 := below_cell hb1 x3)
    have B1 := below_step hba hb1 (Nat.le_refl _)
    have R1 := hide (r1.later B1)
    have n0 := World.new_ne w1 _ y0
    have n1 := World.new_ne w1 _ y1
    have n2 := World.new_ne w1 _ y2
    have n3 := World.new_ne w1 _ y3
    have R2 := hide (R1.out.later ((Below.refl w1.heap.size w1).alloc (Nat.le_refl _) (.cells #[.int .i64 s.day, .int .i64 s.part, .int .i64 s.who, .int .i64 s.duty] 66)))
    have hw1 := B1.size
    have v0 := below_cell ((Below.refl w1.heap.size w1).alloc (Nat.le_refl _) (.cells #[.int .i64 s.day, .int .i64 s.part, .int .i64 s.who, .int .i64 s.duty] 66)) y0
    have v1 := below_cell ((Below.refl w1.heap.size w1).alloc (Nat.le_refl _) (.cells #[.int .i64 s.day, .int .i64 s.part, .int .i64 s.who, .int .i64 s.duty] 66)) y1
    have v2 := below_cell ((Below.refl w1.heap.size w1).alloc (Nat.le_refl _) (.cells #[.int .i64 s.day, .int .i64 s.part, .int .i64 s.who, .int .i64 s.duty] 66)) y2
    have v3 := below_cell ((Below.refl w1.heap.size w1).alloc (Nat.le_refl _) (.cells #[.int .i64 s.day, .int .i64 s.part, .int .i64 s.who, .int .i64 s.duty] 66)) y3
    go_region_held_law (fun w' => w'.cell? ⟨w.heap.size, 0, none⟩ = some (.int .i64 s.day) ∧ w'.cell? ⟨w.heap.size, 1, none⟩ = some (.int .i64 s.part) ∧ w'.cell? ⟨w.heap.size, 2, none⟩ = some (.int .i64 s.who) ∧ w'.cell? ⟨w.heap.size, 3, none⟩ = some (.int .i64 s.duty)) (first | exact ⟨y0, y1, y2, y3⟩ | exact ⟨below_cell hbc y0, below_cell hbc y1, below_cell hbc y2, below_cell hbc y3⟩ | go_keep | exact ⟨below_cell hbc v0, below_cell hbc v1, below_cell hbc v2, below_cell hbc v3⟩ | exact ⟨below_cell BI y0, below_cell BI y1, below_cell BI y2, below_cell BI y3⟩) (first
      | (go_simp; go_at_call 83; refine (Shift.Clone_any plan A1 c1 _ (by first | exact R1.out | exact R2.out) (by omega)).mono ?_; rintro e wc ⟨Ac, cc, rfl, hoc, hbc⟩; dsimp only)
      | (go_simp; go_at_call 111; refine (Shift.Insert_any plan s k HPL.out Ac cc w1.heap.size wc.heap.size _ (World.ownsRow.alloc hoc _) (by have := hbc.size; simp at this ⊢; omega) (by omega) (heap_alloc_new wc _) (fun g hg => by subst hg; have := (World.ownsRow.lt hoc g rfl).2; omega)).mono ?_; rintro e wi ⟨Ai, ci, rfl, hoi, hbi⟩; have BI : Below w1.heap.size w1 wi := ((((Below.refl w1.heap.size w1).drew.trans hbc).alloc hbc.size _).trans hbi); dsimp only)
      | (go_simp; go_at_call 111; refine (Shift.Insert_any plan s k HPL.out Ac cc w1.heap.size w1.heap.size _ (Own.mono_ hoc (by simp)) (by have := hbc.size; simp at this ⊢; omega) (by omega) ((hbc.block w1.heap.size (by simp)).trans (heap_alloc_new w1 _)) (fun g hg => by subst hg; have := (World.ownsRow.lt hoc g rfl).1; simp at this; omega)).mono ?_; rintro e wi ⟨Ai, ci, rfl, hoi, hbi⟩; have BI : Below w1.heap.size w1 wi := ((((Below.refl w1.heap.size w1).alloc (Nat.le_refl _) (.cells #[.int .i64 s.day, .int .i64 s.part, .int .i64 s.who, .int .i64 s.duty] 66)).drew.trans (Below.mono hbc (by simp))).trans hbi); dsimp only))
    all_goals
      rw [← hZ] at hoi
      have hcl := Own.room hoi hil
      have RI := hide (Own.rd_of Shift.enc_len hoi)
      have R0 := hide (r0.later (below_step B1 BI (Nat.le_refl _)))
      go_wp2_with (go_at_call 28; refine (IsPlan_n HQ.out hil _ _ _ _ _ R0.out RI.out ok0 l0 (by unfold maxLen; omega) hcl).mono ?_; rintro e w5 ⟨rfl, hb5⟩)
      go_ret2
      rw [HL, HPB]
      have BE := below_step (below_step B1 BI (Nat.le_refl _)) hb5 (Nat.le_refl _)
      first
        | ((try rw [if_false]); exact ⟨none, 0, rfl, own_nil _ _ _, BE⟩)
        | (rw [if_true]; exact ⟨Ai, ci, by rw [hil]; rfl, by rw [hil]; exact Own.mono_ (Own.below hoi hb5) hw1, BE⟩)
theorem putShift_is {staff : List Worker} {plan : List Shift} {s : Shift} {b : Bool} {Z : List Shift} (hp : planB staff plan = true) (hb : putB staff plan s = b) (hz : putL staff plan s = Z) (A0 A1 : Option Addr) (c0 c1 : Nat) (w : World) (r0 : Rd Worker.enc 4 w.heap.size w A0 staff) (r1 : Rd Shift.enc 4 w.heap.size w A1 plan) (ok0 : ∀ c ∈ staff, c.Ok) (l0 : staff.length ≤ maxLen) :
    Calls Try.prog 92 #[.slice A0 staff.length c0, .slice A1 plan.length c1, .agg #[.int .i64 s.day, .int .i64 s.part, .int .i64 s.who, .int .i64 s.duty]] w (Gives Z.length (fun v => .tuple #[v, .bool b]) (fun w' v => Own Shift.enc 4 66 w.heap.size w' v Z) w) := by
  subst hb; subst hz; exact putShift_any staff plan s hp A0 A1 c0 c1 w r0 r1 ok0 l0
set_option maxHeartbeats 1000000 in
theorem PutShift_any (staff : List Worker) (plan : List Shift) (s : Shift) (A0 A1 : Option Addr) (c0 c1 : Nat) (w : World) (r0 : Rd Worker.enc 4 w.heap.size w A0 staff) (r1 : Rd Shift.enc 4 w.heap.size w A1 plan) (ok0 : ∀ c ∈ staff, c.Ok) (l0 : staff.length ≤ maxLen) (l1 : plan.length ≤ maxLen) (hcap : plan.length ≤ c1) :
    Calls Try.prog 50 #[.slice A0 staff.length c0, .slice A1 plan.length c1, .agg #[.int .i64 s.day, .int .i64 s.part, .int .i64 s.who, .int .i64 s.duty]] w (Gives (putRL staff plan s).length (fun v => .tuple #[v, .bool (putRB staff plan s)]) (fun w' v => Own Shift.enc 4 66 w.heap.size w' v (putRL staff plan s)) w) := by
  have hba : Below w.heap.size w (w.alloc (.cells #[.int .i64 s.day, .int .i64 s.part, .int .i64 s.who, .int .i64 s.duty] 66)) := (Below.refl _ _).alloc (Nat.le_refl _) _
  have x0 : (w.alloc (.cells #[.int .i64 s.day, .int .i64 s.part, .int .i64 s.who, .int .i64 s.duty] 66)).cell? ⟨w.heap.size, 0, none⟩ = some (.int .i64 s.day) := by simp
  have x1 : (w.alloc (.cells #[.int .i64 s.day, .int .i64 s.part, .int .i64 s.who, .int .i64 s.duty] 66)).cell? ⟨w.heap.size, 1, none⟩ = some (.int .i64 s.part) := by simp
  have x2 : (w.alloc (.cells #[.int .i64 s.day, .int .i64 s.part, .int .i64 s.who, .int .i64 s.duty] 66)).cell? ⟨w.heap.size, 2, none⟩ = some (.int .i64 s.who) := by simp
  have x3 : (w.alloc (.cells #[.int .i64 s.day, .int .i64 s.part, .int .i64 s.who, .int .i64 s.duty] 66)).cell? ⟨w.heap.size, 3, none⟩ = some (.int .i64 s.duty) := by simp
  cases hp : planB staff plan
  · have HP := hide hp
    have HL := hide (show putRL staff plan s = [] by simp [putRL, hp])
    have HB := hide (show putRB staff plan s = false by simp [putRB, hp])
    clear hp
    go_enter Try.func50, Try.ntmps50
    go_wp2_with (go_at_call 28; refine (IsPlan_is HP.out _ _ _ _ _ (r0.later hba) (r1.later hba) ok0 l0 l1 hcap).mono ?_; rintro e w1 ⟨rfl, hb1⟩; have y0 := below_cell hb1 x0; have y1 := below_cell hb1 x1; have y2 := below_cell hb1 x2; have y3 := below_cell hb1 x3)
    go_ret2
    rw [HL.out, HB.out]
    exact ⟨none, 0, rfl, own_nil _ _ _, below_step hba hb1 (Nat.le_refl _)⟩
  · have HP := hide hp
    have HL := hide (show putRL staff plan s = putL staff plan s by simp [putRL, hp])
    have HB := hide (show putRB staff plan s = putB staff plan s by simp [putRB, hp])
    clear hp
    rw [HL.out, HB.out]
    go_enter Try.func50, Try.ntmps50
    go_wp2_with (first | (go_at_call 28; refine (IsPlan_is HP.out _ _ _ _ _ (r0.later hba) (r1.later hba) ok0 l0 l1 hcap).mono ?_; rintro e w1 ⟨rfl, hb1⟩; have y0 := below_cell hb1 x0; have y1 := below_cell hb1 x1; have y2 := below_cell hb1 x2; have y3 := below_cell hb1 x3) | (go_at_call 92; refine (putShift_any staff plan s HP.out A0 A1 c0 c1 _ ((r0.later hba).later hb1) ((r1.later hba).later hb1) ok0 l0).mono ?_; rintro e w2 ⟨A', c', rfl, ho, hb2⟩))
    go_ret2
    exact ⟨A', c', rfl, Own.mono_ ho (below_step hba hb1 (Nat.le_refl _)).size, below_step (below_step hba hb1 (Nat.le_refl _)) hb2 (Nat.le_refl _)⟩
end Go.Proofs.Ytfaicjlpncidgaa
