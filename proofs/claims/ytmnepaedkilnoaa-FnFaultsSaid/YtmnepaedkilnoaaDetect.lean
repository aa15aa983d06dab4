/- When the pattern with a fault is complete, and its first match: both packages. Slices are as the reader gives them. -/
import Derived.Test.YtmnepaedkilnoaaAsked
namespace Go.Proofs.Ytmnepaedkilnoaa
open Go Go.RowKit
set_option linter.unusedVariables false
def detV (R : List Event) (P : List Pat) (fault : Int) : Int := match pickP R P fault with
  | none => -1
  | some p => detT R p
def matchL (R : List Event) (P : List Pat) (fault : Int) : List Int := match pickP R P fault with
  | none => []
  | some p => mFirst R p
theorem matchL_len (R : List Event) (P : List Pat) (fault : Int) : (matchL R P fault).length ≤ 5 := by
  unfold matchL
  split
  · exact Nat.zero_le _
  · rename_i p h
    unfold pickP at h
    split at h
    · rename_i hg
      simp only [Bool.and_eq_true] at hg
      obtain ⟨k, hk, he⟩ := List.mem_iff_getElem.1 (List.mem_of_find?_eq_some h)
      have := riseB_one hg.2 k p (by rw [← he]; exact List.getElem?_eq_getElem hk)
      have := patB_bd this
      have := mFirst_len R p
      omega
    · cases h

set_option maxRecDepth 100000 in
set_option maxHeartbeats 2000000 in
theorem DetectedAt_any {L : List Pattern} {P : List Pat} (hPP : Pattern.pats L = P) (A0 A1 : Option Addr) (c0 c1 : Nat) (R : List Event) (fault : Int) (w : World) (r0 : Rd Event.enc 2 w.heap.size w A0 R) (ok0 : ∀ c ∈ R, c.Ok) (l0 : R.length ≤ maxLen) (r1 : Rd Pattern.enc 3 w.heap.size w A1 L) (ok1 : ∀ c ∈ L, c.Ok) (l1 : L.length ≤ maxLen) (d1 : Pattern.DeepP w.heap.size w L) :
    Calls Try.prog 33 #[.slice A0 R.length c0, .slice A1 L.length c1, .int .i64 fault] w fun e w' => e = .returned (.tuple #[.int .i64 (max (detV R P fault) 0), .bool (decide (0 ≤ detV R P fault))]) ∧ Below w.heap.size w w' := by
  subst hPP
  rcases pick_cases R L fault with ⟨hpk, hno⟩ | ⟨k, c, hpk, hR, hP, hi, hk, hg, hpb⟩
  · have HV := hide (show detV R (Pattern.pats L) fault = -1 by simp [detV, hpk])
    have HN := hide hno; clear hno hpk
    go_enter Try.func33, Try.ntmps33
    go_wp2_with (go_at_call 69; refine (patternOf_no L _ _ _ _ R fault _ r0 ok0 l0 r1 ok1 l1 d1 HN.out).mono ?_; rintro e w1 ⟨rfl, hb1⟩)
    go_ret2
    exact ⟨by first | (rw [HV.out]; done) | (rw [HV.out]; rfl), hb1.alloc hb1.size _⟩
  · have HV := hide (show detV R (Pattern.pats L) fault = detT R c.toPat by simp [detV, hpk])
    obtain ⟨hb0, hb9⟩ : -1 ≤ detT R c.toPat ∧ detT R c.toPat ≤ 100000 := detUp_bd c.toPat hR R.length
    have HR := hide hR; have HP := hide hP; have HI := hide hi; have HG := hide hg; have HPB := hide hpb; have HME := hide (List.mem_of_getElem? hg)
    clear hR hP hi hpb hpk
    clear hg
    obtain ⟨t, ht⟩ : ∃ t, detT R c.toPat = t := ⟨_, rfl⟩
    rw [ht] at hb0 hb9
    have HT := hide ht; clear ht
    by_cases h0 : t < 0
    · have HU := True.intro
      go_enter Try.func33, Try.ntmps33
      go_wp2_with (first | (go_at_call 69; refine (patternOf_yes L _ _ _ _ R fault _ r0 ok0 l0 r1 ok1 l1 d1 HR.out HP.out k c HI.out hk HG.out).mono ?_; rintro e w1 ⟨rfl, hb1⟩; have B2 : Below w.heap.size w (w1.alloc (.cells #[.int .i64 c.fault, .slice c.ca c.codes.length c.cc, .int .i64 c.within] 62)) := hb1.alloc hb1.size _) | (go_at_call 71; refine (detected_p c.toPat c.ca c.cc R _ _ _ HR.out HPB.out (r0.later B2) ((d1 c HME.out).later B2)).mono ?_; rw [HT.out]; rintro e w2 ⟨rfl, hb2⟩))
      go_ret2
      exact ⟨ret_2 (in_eq (by rw [HV.out, HT.out]; omega)) (bo_eq (by rw [HV.out, HT.out] <;> first | (simp; omega) | simp)), below_step B2 hb2 (Nat.le_refl _)⟩
    · have HU := True.intro
      go_enter Try.func33, Try.ntmps33
      go_wp2_with (first | (go_at_call 69; refine (patternOf_yes L _ _ _ _ R fault _ r0 ok0 l0 r1 ok1 l1 d1 HR.out HP.out k c HI.out hk HG.out).mono ?_; rintro e w1 ⟨rfl, hb1⟩; have B2 : Below w.heap.size w (w1.alloc (.cells #[.int .i64 c.fault, .slice c.ca c.codes.length c.cc, .int .i64 c.within] 62)) := hb1.alloc hb1.size _) | (go_at_call 71; refine (detected_p c.toPat c.ca c.cc R _ _ _ HR.out HPB.out (r0.later B2) ((d1 c HME.out).later B2)).mono ?_; rw [HT.out]; rintro e w2 ⟨rfl, hb2⟩))
      go_ret2
      exact ⟨ret_2 (in_eq (by rw [HV.out, HT.out]; omega)) (bo_eq (by rw [HV.out, HT.out] <;> first | (simp; omega) | simp)), below_step B2 hb2 (Nat.le_refl _)⟩
set_option maxRecDepth 100000 in
set_option maxHeartbeats 2000000 in
theorem DetectedAt_spec {L : List Pattern} {P : List Pat} (hPP : Pattern.pats L = P) (A0 A1 : Option Addr) (c0 c1 : Nat) (R : List Event) (fault : Int) (w : World) (r0 : Rd Event.enc 2 w.heap.size w A0 R) (ok0 : ∀ c ∈ R, c.Ok) (l0 : R.length ≤ maxLen) (r1 : Rd Pattern.enc 3 w.heap.size w A1 L) (ok1 : ∀ c ∈ L, c.Ok) (l1 : L.length ≤ maxLen) (d1 : Pattern.DeepP w.heap.size w L) :
    Calls Try.prog 32 #[.slice A0 R.length c0, .slice A1 L.length c1, .int .i64 fault] w fun e w' => e = .returned (.tuple #[.int .i64 (max (detV R P fault) 0), .bool (decide (0 ≤ detV R P fault))]) ∧ Below w.heap.size w w' := by
  subst hPP
  rcases pick_cases R L fault with ⟨hpk, hno⟩ | ⟨k, c, hpk, hR, hP, hi, hk, hg, hpb⟩
  · have HV := hide (show detV R (Pattern.pats L) fault = -1 by simp [detV, hpk])
    have HN := hide hno; clear hno hpk
    go_enter Try.func32, Try.ntmps32
    go_wp2_with (go_at_call 67; refine (l20Asked_no L _ _ _ _ R fault _ r0 ok0 l0 r1 ok1 l1 d1 HN.out).mono ?_; rintro e w1 ⟨rfl, hb1⟩)
    go_ret2
    exact ⟨by first | (rw [HV.out]; done) | (rw [HV.out]; rfl), hb1⟩
  · have HV := hide (show detV R (Pattern.pats L) fault = detT R c.toPat by simp [detV, hpk])
    obtain ⟨hb0, hb9⟩ : -1 ≤ detT R c.toPat ∧ detT R c.toPat ≤ 100000 := detUp_bd c.toPat hR R.length
    have HR := hide hR; have HP := hide hP; have HI := hide hi; have HG := hide hg; have HPB := hide hpb; have HME := hide (List.mem_of_getElem? hg)
    clear hR hP hi hpb hpk
    obtain ⟨b, o, rfl, hb, hc⟩ := Pattern.rd_at r1 (by intro h; subst h; simp at hk)
    obtain ⟨x0, x1, x2⟩ := hc k c hg
    have hki : (k : Int) < (L.length : Int) := by omega
    clear hc
    clear hg
    obtain ⟨t, ht⟩ : ∃ t, detT R c.toPat = t := ⟨_, rfl⟩
    rw [ht] at hb0 hb9
    have HT := hide ht; clear ht
    by_cases h0 : t < 0
    · have HU := True.intro
      go_enter Try.func32, Try.ntmps32
      go_wp2_with (first | (go_at_call 67; refine (l20Asked_yes L _ _ _ _ R fault _ r0 ok0 l0 r1 ok1 l1 d1 HR.out HP.out k HI.out).mono ?_; rintro e w1 ⟨rfl, hb1⟩; have B2 := hb1; have y0 := below_cell hb1 x0; have y1 := below_cell hb1 x1; have y2 := below_cell hb1 x2) | (go_at_call 68; refine (l20Find_is HI.out _ _ _ (r1.later hb1) l1).mono ?_; rintro e w3 ⟨rfl, rfl⟩) | (go_at_call 70; refine (l20Detected_p c.toPat c.ca c.cc R _ _ _ HR.out HPB.out (r0.later B2) ((d1 c HME.out).later B2)).mono ?_; rw [HT.out]; rintro e w2 ⟨rfl, hb2⟩))
      go_ret2
      exact ⟨ret_2 (in_eq (by rw [HV.out, HT.out]; omega)) (bo_eq (by rw [HV.out, HT.out] <;> first | (simp; omega) | simp)), below_step B2 hb2 (Nat.le_refl _)⟩
    · have HU := True.intro
      go_enter Try.func32, Try.ntmps32
      go_wp2_with (first | (go_at_call 67; refine (l20Asked_yes L _ _ _ _ R fault _ r0 ok0 l0 r1 ok1 l1 d1 HR.out HP.out k HI.out).mono ?_; rintro e w1 ⟨rfl, hb1⟩; have B2 := hb1; have y0 := below_cell hb1 x0; have y1 := below_cell hb1 x1; have y2 := below_cell hb1 x2) | (go_at_call 68; refine (l20Find_is HI.out _ _ _ (r1.later hb1) l1).mono ?_; rintro e w3 ⟨rfl, rfl⟩) | (go_at_call 70; refine (l20Detected_p c.toPat c.ca c.cc R _ _ _ HR.out HPB.out (r0.later B2) ((d1 c HME.out).later B2)).mono ?_; rw [HT.out]; rintro e w2 ⟨rfl, hb2⟩))
      go_ret2
      exact ⟨ret_2 (in_eq (by rw [HV.out, HT.out]; omega)) (bo_eq (by rw [HV.out, HT.out] <;> first | (simp; omega) | simp)), below_step B2 hb2 (Nat.le_refl _)⟩
set_option maxRecDepth 100000 in
set_option maxHeartbeats 2000000 in
theorem FirstMatch_any {L : List Pattern} {P : List Pat} (hPP : Pattern.pats L = P) (A0 A1 : Option Addr) (c0 c1 : Nat) (R : List Event) (fault : Int) (w : World) (r0 : Rd Event.enc 2 w.heap.size w A0 R) (ok0 : ∀ c ∈ R, c.Ok) (l0 : R.length ≤ maxLen) (r1 : Rd Pattern.enc 3 w.heap.size w A1 L) (ok1 : ∀ c ∈ L, c.Ok) (l1 : L.length ≤ maxLen) (d1 : Pattern.DeepP w.heap.size w L) :
    Calls Try.prog 43 #[.slice A0 R.length c0, .slice A1 L.length c1, .int .i64 fault] w (Gives (matchL R P fault).length (fun v => .tuple #[v, .bool (!(matchL R P fault).isEmpty)]) (fun w' v => Own encI 1 3 w.heap.size w' v (matchL R P fault)) w) := by
  subst hPP
  rcases pick_cases R L fault with ⟨hpk, hno⟩ | ⟨k, c, hpk, hR, hP, hi, hk, hg, hpb⟩
  · have HV := hide (show matchL R (Pattern.pats L) fault = [] by simp [matchL, hpk])
    have HN := hide hno; clear hno hpk
    go_enter Try.func43, Try.ntmps43
    go_wp2_with (go_at_call 69; refine (patternOf_no L _ _ _ _ R fault _ r0 ok0 l0 r1 ok1 l1 d1 HN.out).mono ?_; rintro e w1 ⟨rfl, hb1⟩)
    go_ret2
    rw [HV.out]
    exact ⟨none, 0, rfl, own_nil _ _ _, hb1.alloc hb1.size _⟩
  · have HV := hide (show matchL R (Pattern.pats L) fault = mFirst R c.toPat by simp [matchL, hpk])
    have hml : (mFirst R c.toPat).length ≤ 5 := by have := mFirst_len R c.toPat; have := (patB_bd hpb).2.1; omega
    have HR := hide hR; have HP := hide hP; have HI := hide hi; have HG := hide hg; have HPB := hide hpb; have HME := hide (List.mem_of_getElem? hg)
    clear hR hP hi hpb hpk
    clear hg
    by_cases h0 : mFirst R c.toPat = []
    · have HM := hide h0; clear h0
      have hq0 := neq_nil
      go_enter Try.func43, Try.ntmps43
      go_wp2_with (first | (go_at_call 69; refine (patternOf_yes L _ _ _ _ R fault _ r0 ok0 l0 r1 ok1 l1 d1 HR.out HP.out k c HI.out hk HG.out).mono ?_; rintro e w1 ⟨rfl, hb1⟩; have B2 : Below w.heap.size w (w1.alloc (.cells #[.int .i64 c.fault, .slice c.ca c.codes.length c.cc, .int .i64 c.within] 62)) := hb1.alloc hb1.size _) | (go_at_call 73; refine (firstMatch_p c.toPat c.ca c.cc R _ _ _ HR.out HPB.out (r0.later B2) ((d1 c HME.out).later B2)).mono ?_; intro e w2 hq; obtain ⟨rfl, hb2⟩ := givesM_none hq HM.out))
      go_ret2
      rw [HV.out]
      rw [HM.out]
      exact ⟨none, 0, rfl, own_nil _ _ _, below_step B2 hb2 (Nat.le_refl _)⟩
    · have HM := hide h0; clear h0
      have hq0 := neq_some
      have hpos := len_pos HM.out
      have hpos' : (0 : Int) < ((mFirst R c.toPat).length : Int) := by omega
      go_enter Try.func43, Try.ntmps43
      go_wp2_with (first | (go_at_call 69; refine (patternOf_yes L _ _ _ _ R fault _ r0 ok0 l0 r1 ok1 l1 d1 HR.out HP.out k c HI.out hk HG.out).mono ?_; rintro e w1 ⟨rfl, hb1⟩; have B2 : Below w.heap.size w (w1.alloc (.cells #[.int .i64 c.fault, .slice c.ca c.codes.length c.cc, .int .i64 c.within] 62)) := hb1.alloc hb1.size _) | (go_at_call 73; refine (firstMatch_p c.toPat c.ca c.cc R _ _ _ HR.out HPB.out (r0.later B2) ((d1 c HME.out).later B2)).mono ?_; intro e w2 hq; obtain ⟨g, cap1, rfl, ho, hb2⟩ := givesM_some hq HM.out))
      go_ret2
      rw [HV.out]
      refine ⟨_, cap1, ret_2 rfl (bo_eq ?_), ho.mono B2.size, below_step B2 hb2 (Nat.le_refl _)⟩
      have := HM.out
      cases hh : mFirst R c.toPat with
      | nil => exact absurd hh this
      | cons a l => simp
set_option maxRecDepth 100000 in
set_option maxHeartbeats 2000000 in
theorem FirstMatch_spec {L : List Pattern} {P : List Pat} (hPP : Pattern.pats L = P) (A0 A1 : Option Addr) (c0 c1 : Nat) (R : List Event) (fault : Int) (w : World) (r0 : Rd Event.enc 2 w.heap.size w A0 R) (ok0 : ∀ c ∈ R, c.Ok) (l0 : R.length ≤ maxLen) (r1 : Rd Pattern.enc 3 w.heap.size w A1 L) (ok1 : ∀ c ∈ L, c.Ok) (l1 : L.length ≤ maxLen) (d1 : Pattern.DeepP w.heap.size w L) :
    Calls Try.prog 42 #[.slice A0 R.length c0, .slice A1 L.length c1, .int .i64 fault] w (Gives (matchL R P fault).length (fun v => .tuple #[v, .bool (!(matchL R P fault).isEmpty)]) (fun w' v => Own encI 1 3 w.heap.size w' v (matchL R P fault)) w) := by
  subst hPP
  rcases pick_cases R L fault with ⟨hpk, hno⟩ | ⟨k, c, hpk, hR, hP, hi, hk, hg, hpb⟩
  · have HV := hide (show matchL R (Pattern.pats L) fault = [] by simp [matchL, hpk])
    have HN := hide hno; clear hno hpk
    go_enter Try.func42, Try.ntmps42
    go_wp2_with (go_at_call 67; refine (l20Asked_no L _ _ _ _ R fault _ r0 ok0 l0 r1 ok1 l1 d1 HN.out).mono ?_; rintro e w1 ⟨rfl, hb1⟩)
    go_ret2
    rw [HV.out]
    exact ⟨_, 0, rfl, own_empty hb1.size, hb1.alloc hb1.size _⟩
  · have HV := hide (show matchL R (Pattern.pats L) fault = mFirst R c.toPat by simp [matchL, hpk])
    have hml : (mFirst R c.toPat).length ≤ 5 := by have := mFirst_len R c.toPat; have := (patB_bd hpb).2.1; omega
    have HR := hide hR; have HP := hide hP; have HI := hide hi; have HG := hide hg; have HPB := hide hpb; have HME := hide (List.mem_of_getElem? hg)
    clear hR hP hi hpb hpk
    obtain ⟨b, o, rfl, hb, hc⟩ := Pattern.rd_at r1 (by intro h; subst h; simp at hk)
    obtain ⟨x0, x1, x2⟩ := hc k c hg
    have hki : (k : Int) < (L.length : Int) := by omega
    clear hc
    clear hg
    by_cases h0 : mFirst R c.toPat = []
    · have HM := hide h0; clear h0
      go_enter Try.func42, Try.ntmps42
      go_wp2_with (first | (go_at_call 67; refine (l20Asked_yes L _ _ _ _ R fault _ r0 ok0 l0 r1 ok1 l1 d1 HR.out HP.out k HI.out).mono ?_; rintro e w1 ⟨rfl, hb1⟩; have B2 := hb1; have y0 := below_cell hb1 x0; have y1 := below_cell hb1 x1; have y2 := below_cell hb1 x2) | (go_at_call 68; refine (l20Find_is HI.out _ _ _ (r1.later hb1) l1).mono ?_; rintro e w3 ⟨rfl, rfl⟩) | (go_at_call 72; refine (l20First_p c.toPat c.ca c.cc R _ _ _ HR.out HPB.out (r0.later B2) ((d1 c HME.out).later B2)).mono ?_; intro e w2 hq; obtain ⟨A2, cap2, rfl, ho, hb2⟩ := givesE_nil hq HM.out))
      go_ret2
      rw [HV.out]
      rw [HM.out]
      exact ⟨A2, cap2, rfl, ho.mono B2.size, below_step B2 hb2 (Nat.le_refl _)⟩
    · have HM := hide h0; clear h0
      have hpos := len_pos HM.out
      have hpos' : (0 : Int) < ((mFirst R c.toPat).length : Int) := by omega
      go_enter Try.func42, Try.ntmps42
      go_wp2_with (first | (go_at_call 67; refine (l20Asked_yes L _ _ _ _ R fault _ r0 ok0 l0 r1 ok1 l1 d1 HR.out HP.out k HI.out).mono ?_; rintro e w1 ⟨rfl, hb1⟩; have B2 := hb1; have y0 := below_cell hb1 x0; have y1 := below_cell hb1 x1; have y2 := below_cell hb1 x2) | (go_at_call 68; refine (l20Find_is HI.out _ _ _ (r1.later hb1) l1).mono ?_; rintro e w3 ⟨rfl, rfl⟩) | (go_at_call 72; refine (l20First_p c.toPat c.ca c.cc R _ _ _ HR.out HPB.out (r0.later B2) ((d1 c HME.out).later B2)).mono ?_; intro e w2 hq; obtain ⟨g, cap1, rfl, ho, hb2⟩ := givesE_some hq HM.out))
      go_ret2
      rw [HV.out]
      refine ⟨_, cap1, ret_2 rfl (bo_eq ?_), ho.mono B2.size, below_step B2 hb2 (Nat.le_refl _)⟩
      have := HM.out
      cases hh : mFirst R c.toPat with
      | nil => exact absurd hh this
      | cons a l => simp
end Go.Proofs.Ytmnepaedkilnoaa
