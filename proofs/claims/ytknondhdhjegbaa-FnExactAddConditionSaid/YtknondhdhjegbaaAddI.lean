/- AddCondition: the program's function. -/
import Derived.Test.YtknondhdhjegbaaAddC
import Derived.Test.YtknondhdhjegbaaCmp
import Derived.Test.YtknondhdhjegbaaInCondition
import Derived.Test.YtknondhdhjegbaaBsCondition
namespace Go.Proofs.Ytknondhdhjegbaa
open Go Go.RowKit
set_option linter.unusedVariables false
theorem compareNumbers_any (c s : Condition) (w : World) : Calls Try.prog 71 #[.agg #[.int .i64 c.number, .string c.what, .int .i64 c.every, .int .i64 c.last, .int .i64 c.grade], .agg #[.int .i64 s.number, .string s.what, .int .i64 s.every, .int .i64 s.last, .int .i64 s.grade]] w fun e w' => e = .returned (.int .i64 (cmpI c.number s.number)) ∧ Below w.heap.size w w' := by
  have hb : Below w.heap.size w ((w.alloc (.cells #[.int .i64 c.number, .string c.what, .int .i64 c.every, .int .i64 c.last, .int .i64 c.grade] 26)).alloc (.cells #[.int .i64 s.number, .string s.what, .int .i64 s.every, .int .i64 s.last, .int .i64 s.grade] 26)) := ((Below.refl _ _).alloc (Nat.le_refl _) _).alloc (by simp) _
  go_enter Try.func71, Try.ntmps71
  go_wp2_with (go_at_call 80; refine (Compare_any _ _ _).mono ?_; rintro e w1 ⟨rfl, rfl⟩)
  go_ret
  exact ⟨rfl, hb⟩
theorem lowC_mono {L : List Condition} (h : goodC L = true) (s : Condition) : ∀ (i j : Nat) (c d : Condition), i < j → L[i]? = some c → L[j]? = some d → lowC s d = true → lowC s c = true := fun i j c d hij hc hd h2 => by
  have := good_ne h hij hc hd
  simp only [lowC, decide_eq_true_eq] at h2 ⊢
  omega
set_option maxRecDepth 100000 in
set_option maxHeartbeats 4000000 in
theorem AddCondition_any (L : List Condition) (s : Condition) (A : Option Addr) (cap : Nat) (w : World) (hr : Rd Condition.enc 5 w.heap.size w A L) (hok : ∀ c ∈ L, c.Ok) (hs : s.Ok) (hl : L.length ≤ maxLen) :
    Calls Try.prog 42 #[.slice A L.length cap, .agg #[.int .i64 s.number, .string s.what, .int .i64 s.every, .int .i64 s.last, .int .i64 s.grade]] w (Gives (addCV L s).length (fun v => .tuple #[v, .bool (addCB L s)]) (fun w' v => Own Condition.enc 5 26 w.heap.size w' v (addCV L s)) w) := by
  have hba : Below w.heap.size w (w.alloc (.cells #[.int .i64 s.number, .string s.what, .int .i64 s.every, .int .i64 s.last, .int .i64 s.grade] 26)) := (Below.refl _ _).alloc (Nat.le_refl _) _
  have x0 : (w.alloc (.cells #[.int .i64 s.number, .string s.what, .int .i64 s.every, .int .i64 s.last, .int .i64 s.grade] 26)).cell? ⟨w.heap.size, 0, none⟩ = some (.int .i64 s.number) := by simp
  have x1 : (w.alloc (.cells #[.int .i64 s.number, .string s.what, .int .i64 s.every, .int .i64 s.last, .int .i64 s.grade] 26)).cell? ⟨w.heap.size, 1, none⟩ = some (.string s.what) := by simp
  have x2 : (w.alloc (.cells #[.int .i64 s.number, .string s.what, .int .i64 s.every, .int .i64 s.last, .int .i64 s.grade] 26)).cell? ⟨w.heap.size, 2, none⟩ = some (.int .i64 s.every) := by simp
  have x3 : (w.alloc (.cells #[.int .i64 s.number, .string s.what, .int .i64 s.every, .int .i64 s.last, .int .i64 s.grade] 26)).cell? ⟨w.heap.size, 3, none⟩ = some (.int .i64 s.last) := by simp
  have x4 : (w.alloc (.cells #[.int .i64 s.number, .string s.what, .int .i64 s.every, .int .i64 s.last, .int .i64 s.grade] 26)).cell? ⟨w.heap.size, 4, none⟩ = some (.int .i64 s.grade) := by simp
  have hno : addCB L s = false → addCV L s = [] := fun h => by simp [addCV, h]
  cases hp : goodC L
  · have HB := hide (show addCB L s = false by simp [addCB, hp])
    have HL := hide (hno HB.out)
    have HP := hide hp; clear hp hno
    go_enter Try.func42, Try.ntmps42
    go_wp2_with (go_at_call 19; refine (AreConditions_n HP.out rfl _ _ _ (hr.later hba) hok hl).mono ?_; rintro e w1 ⟨rfl, hb1⟩)
    go_ret2
    rw [HL.out, HB.out]
    exact ⟨none, 0, rfl, own_nil _ _ _, below_step hba hb1 (Nat.le_refl _)⟩
  · have HP := hide hp
    have hlen := goodC_len hp
    have hpl := pos_le (lowC s) L
    have HBF := hide (fun W => Condition.BinarySearchFunc_any 71 (fun c s => cmpI c.number s.number) L s (posOf (lowC s) L) A cap W)
    have HLO := hide (fun (j : Nat) (c : Condition) (hj : j < posOf (lowC s) L) (hc : L[j]? = some c) => show cmpI c.number s.number < 0 by have := pos_low L j c hj hc; rw [cmpI_neg]; simpa [lowC] using this)
    have hhi : ∀ (j : Nat) (c : Condition), posOf (lowC s) L ≤ j → L[j]? = some c → 0 ≤ cmpI c.number s.number := fun j c hj hc => by
      have h1 := pos_high (lowC_mono hp s) hj hc
      have h2 : ¬ c.number < s.number := by simpa [lowC] using h1
      have h3 := (not_congr (cmpI_neg (a := c.number) (b := s.number))).2 h2
      omega
    have HHI := hide hhi; clear hhi
    have HC := hide (fun (W : World) (c : Condition) (_ : c ∈ L) => compareNumbers_any c s W)
    have HPL := hide hpl
    have hil := insL_len L (posOf (lowC s) L) s hpl
    have HAD := hide (show addCL L s = insL L (posOf (lowC s) L) s from rfl)
    have HOI := hide (ins_ok hok hs (posOf (lowC s) L))
    clear hp
    generalize posOf (lowC s) L = k at *
    obtain ⟨Z, hZ⟩ : ∃ Z, Z = insL L k s := ⟨_, rfl⟩
    rw [← hZ] at hil HAD HOI
    have HZ := hide hZ; clear hZ
    cases hq : goodC Z
    all_goals
      have HQ := hide hq
      have HBV := hide ((show addCB L s = goodC Z by rw [addCB, HP.out, HAD.out]; rfl).trans hq)
      clear hq
      go_enter Try.func42, Try.ntmps42
      go_wp2_with (first
        | (go_at_call 19; refine (AreConditions_n HP.out rfl _ _ _ (hr.later hba) hok hl).mono ?_; rintro e w1 ⟨rfl, hb1⟩; have p0 := below_cell hb1 x0; have p1 := below_cell hb1 x1; have p2 := below_cell hb1 x2; have p3 := below_cell hb1 x3; have p4 := below_cell hb1 x4)
        | (go_at_call 70; refine (HBF.out _ ((hr.later hba).later hb1) (by omega) HPL.out HLO.out HHI.out (entersF Try.func71 (by kernel_rfl) rfl) HC.out).mono ?_; rintro e w2 ⟨b, rfl, hb2⟩; have y0 := below_cell hb2 p0; have y1 := below_cell hb2 p1; have y2 := below_cell hb2 p2; have y3 := below_cell hb2 p3; have y4 := below_cell hb2 p4))
      have B2 := below_step (below_step hba hb1 (Nat.le_refl _)) hb2 (Nat.le_refl _)
      have R1 := hide (hr.later B2)
      have n0 := World.new_ne w2 _ y0; have n1 := World.new_ne w2 _ y1; have n2 := World.new_ne w2 _ y2; have n3 := World.new_ne w2 _ y3; have n4 := World.new_ne w2 _ y4
      have R2 := hide (R1.out.later ((Below.refl w2.heap.size w2).alloc (Nat.le_refl _) (.cells #[.int .i64 s.number, .string s.what, .int .i64 s.every, .int .i64 s.last, .int .i64 s.grade] 26)))
      have hw2 := B2.size
      have v0 := below_cell ((Below.refl w2.heap.size w2).alloc (Nat.le_refl _) (.cells #[.int .i64 s.number, .string s.what, .int .i64 s.every, .int .i64 s.last, .int .i64 s.grade] 26)) y0; have v1 := below_cell ((Below.refl w2.heap.size w2).alloc (Nat.le_refl _) (.cells #[.int .i64 s.number, .string s.what, .int .i64 s.every, .int .i64 s.last, .int .i64 s.grade] 26)) y1; have v2 := below_cell ((Below.refl w2.heap.size w2).alloc (Nat.le_refl _) (.cells #[.int .i64 s.number, .string s.what, .int .i64 s.every, .int .i64 s.last, .int .i64 s.grade] 26)) y2; have v3 := below_cell ((Below.refl w2.heap.size w2).alloc (Nat.le_refl _) (.cells #[.int .i64 s.number, .string s.what, .int .i64 s.every, .int .i64 s.last, .int .i64 s.grade] 26)) y3; have v4 := below_cell ((Below.refl w2.heap.size w2).alloc (Nat.le_refl _) (.cells #[.int .i64 s.number, .string s.what, .int .i64 s.every, .int .i64 s.last, .int .i64 s.grade] 26)) y4
      go_region_held_law (fun w' => w'.cell? ⟨w.heap.size, 0, none⟩ = some (.int .i64 s.number) ∧ w'.cell? ⟨w.heap.size, 1, none⟩ = some (.string s.what) ∧ w'.cell? ⟨w.heap.size, 2, none⟩ = some (.int .i64 s.every) ∧ w'.cell? ⟨w.heap.size, 3, none⟩ = some (.int .i64 s.last) ∧ w'.cell? ⟨w.heap.size, 4, none⟩ = some (.int .i64 s.grade)) (first | exact ⟨y0, y1, y2, y3, y4⟩ | exact ⟨below_cell hbc y0, below_cell hbc y1, below_cell hbc y2, below_cell hbc y3, below_cell hbc y4⟩ | go_keep | exact ⟨below_cell hbc v0, below_cell hbc v1, below_cell hbc v2, below_cell hbc v3, below_cell hbc v4⟩ | exact ⟨below_cell BI y0, below_cell BI y1, below_cell BI y2, below_cell BI y3, below_cell BI y4⟩) (first
        | (go_simp; go_at_call 62; refine (Condition.Clone_any L A cap _ (by first | exact R1.out | exact R2.out) (by omega)).mono ?_; rintro e wc ⟨Ac, cc, rfl, hoc, hbc⟩; dsimp only)
        | (go_simp; go_at_call 72; refine (Condition.Insert_any L s k HPL.out Ac cc w2.heap.size wc.heap.size _ (World.ownsRow.alloc hoc _) (by have := hbc.size; simp at this ⊢; omega) (by omega) (heap_alloc_new wc _) (fun g hg => by subst hg; have := (World.ownsRow.lt hoc g rfl).2; omega)).mono ?_; rintro e wi ⟨Ai, ci, rfl, hoi, hbi⟩; have BI : Below w2.heap.size w2 wi := ((((Below.refl w2.heap.size w2).drew.trans hbc).alloc hbc.size _).trans hbi); dsimp only)
        | (go_simp; go_at_call 72; refine (Condition.Insert_any L s k HPL.out Ac cc w2.heap.size w2.heap.size _ (Own.mono_ hoc (by simp)) (by have := hbc.size; simp at this ⊢; omega) (by omega) ((hbc.block w2.heap.size (by simp)).trans (heap_alloc_new w2 _)) (fun g hg => by subst hg; have := (World.ownsRow.lt hoc g rfl).1; simp at this; omega)).mono ?_; rintro e wi ⟨Ai, ci, rfl, hoi, hbi⟩; have BI : Below w2.heap.size w2 wi := ((((Below.refl w2.heap.size w2).alloc (Nat.le_refl _) (.cells #[.int .i64 s.number, .string s.what, .int .i64 s.every, .int .i64 s.last, .int .i64 s.grade] 26)).drew.trans (Below.mono hbc (by simp))).trans hbi); dsimp only))
      all_goals
        rw [← HZ.out] at hoi
        have RI := hide (Own.rd_of Condition.enc_len hoi)
        go_wp2_with (go_at_call 19; refine (AreConditions_n HQ.out hil _ _ _ RI.out HOI.out (by unfold maxLen; omega)).mono ?_; rintro e w5 ⟨rfl, hb5⟩)
        go_ret2
        have BE := below_step (below_step B2 BI (Nat.le_refl _)) hb5 (Nat.le_refl _)
        first
          | (rw [hno HBV.out, HBV.out]; exact ⟨none, 0, rfl, own_nil _ _ _, BE⟩)
          | (have HL : addCV L s = Z := by rw [addCV, if_pos HBV.out, HAD.out]
             rw [HL, HBV.out]; exact ⟨Ai, ci, by rw [hil]; rfl, by rw [hil]; exact Own.mono_ (Own.below hoi hb5) hw2, BE⟩)
theorem addCV_len (L : List Condition) (s : Condition) : (addCV L s).length ≤ 12 := by
  unfold addCV
  split
  · rename_i h
    have h2 : goodC (addCL L s) = true := by
      unfold addCB at h
      cases hh : goodC (addCL L s)
      · rw [hh] at h; simp at h
      · rfl
    exact goodC_len h2
  · exact Nat.zero_le _
end Go.Proofs.Ytknondhdhjegbaa
