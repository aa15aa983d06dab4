/- The crew that does a span first: both packages. Slices are as the reader gives them. -/
import Derived.Test.YtgfamaopplgfgaaSpan2
namespace Go.Proofs.Ytgfamaopplgfgaa
open Go Go.RowKit
set_option linter.unusedVariables false
theorem lowT_bd {L : List Support} {C : List Crew} {P : List Int} (h : goodR L C P = true) (i j : Nat) : 0 ≤ lowT L i j ∧ lowT L i j ≤ 3000 := by
  have p : ∀ k, 0 ≤ posAt L k ∧ posAt L k ≤ 3000 := fun k => by
    unfold posAt
    cases hk : L[k]? with
    | none => simp
    | some c => exact goodR_at h hk
  exact distI_bd (p i).1 (p i).2 (p j).1 (p j).2
theorem spanS_bd {L : List Support} {C : List Crew} {P : List Int} (h : goodR L C P = true) {k : Nat} {c : Crew} (hc : C[k]? = some c) (i j : Nat) : 0 ≤ spanS L c P i j ∧ spanS L c P i j ≤ 100000 := by
  obtain ⟨_, ⟨pc0, pc1⟩, pe0, pe1⟩ := goodR_crew h hc
  obtain ⟨a0, a1⟩ := lowT_bd h i j
  obtain ⟨b0, b1⟩ := lowT_bd h i (j + 1)
  have hp : 0 ≤ P.getD j 0 ∧ P.getD j 0 ≤ 60 := by
    unfold List.getD
    cases hk : P[j]? with
    | none => simp
    | some n => exact goodR_ppl h hk
  obtain ⟨m1, m2⟩ := mul_bd2 (by omega : 0 ≤ c.pace) pc1 a0 a1
  obtain ⟨m3, m4⟩ := mul_bd2 (by omega : 0 ≤ c.pace) pc1 b0 b1
  obtain ⟨m5, m6⟩ := mul_bd2 (by omega : 0 ≤ c.each) pe1 hp.1 hp.2
  unfold spanS
  split <;> omega
theorem spanTime_v {L : List Support} {C : List Crew} {P : List Int} {at_ span : Nat} {c : Crew} {v : Int} (h : spanS L c P at_ span = v) (A0 A1 A2 : Option Addr) (c0 c1 c2 : Nat) (crew : Nat) (w : World) (hg : goodR L C P = true) (hc : C[crew]? = some c) (ha : at_ < L.length) (hs : span < P.length) (r0 : Rd Support.enc 3 w.heap.size w A0 L) (r1 : Rd Crew.enc 3 w.heap.size w A1 C) (r2 : Rd encI 1 w.heap.size w A2 P) :
    Calls Try.prog 84 #[.agg #[.slice A0 L.length c0, .slice A1 C.length c1, .slice A2 P.length c2], .int .i64 crew, .int .i64 at_, .int .i64 span] w fun e w' => e = .returned (.tuple #[.int .i64 v, .int .i64 (spanN L at_ span : Nat)]) ∧ Below w.heap.size w w' := h ▸ spanTime_any L C P A0 A1 A2 c0 c1 c2 crew at_ span c w hg hc ha hs r0 r1 r2
theorem l19Span_v {L : List Support} {C : List Crew} {P : List Int} {at_ span : Nat} {c : Crew} {v : Int} (h : spanS L c P at_ span = v) (A0 A2 : Option Addr) (c0 c2 : Nat) (crew : Nat) (w : World) (hg : goodR L C P = true) (hc : C[crew]? = some c) (ha : at_ < L.length) (hs : span < P.length) (r0 : Rd Support.enc 3 w.heap.size w A0 L) (r2 : Rd encI 1 w.heap.size w A2 P) :
    Calls Try.prog 83 #[.slice A0 L.length c0, .agg #[.int .i64 c.support, .int .i64 c.pace, .int .i64 c.each], .slice A2 P.length c2, .int .i64 at_, .int .i64 span] w fun e w' => e = .returned (.tuple #[.int .i64 v, .int .i64 (spanN L at_ span : Nat)]) ∧ Below w.heap.size w w' := h ▸ l19Span_any L C P A0 A2 c0 c2 crew at_ span c w hg hc ha hs r0 r2
def nearStep (L : List Support) (P : List Int) (span : Nat) (s : Nat × Int) (k : Nat) (c : Crew) : Nat × Int := if s.2 < 0 ∨ spanS L c P c.support.toNat span < s.2 then (k, spanS L c P c.support.toNat span) else s
def nearUp (L : List Support) (C : List Crew) (P : List Int) (span : Nat) : Nat → Nat × Int
  | 0 => (0, -1)
  | k + 1 => match C[k]? with
    | some c => nearStep L P span (nearUp L C P span k) k c
    | none => nearUp L C P span k
theorem near_step {L : List Support} {C : List Crew} {P : List Int} {span k : Nat} {c : Crew} (hk : C[k]? = some c) : nearUp L C P span (k + 1) = nearStep L P span (nearUp L C P span k) k c := by simp only [nearUp, hk]
theorem near_yes {L : List Support} {P : List Int} {span k b : Nat} {l s : Int} {c : Crew} {z : Nat × Int} (hz : z = (b, l)) (hs : spanS L c P c.support.toNat span = s) (h : l < 0 ∨ s < l) : nearStep L P span z k c = (k, s) := by
  subst hz; subst hs; simp only [nearStep]; rw [if_pos h]
theorem near_no {L : List Support} {P : List Int} {span k b : Nat} {l s : Int} {c : Crew} {z : Nat × Int} (hz : z = (b, l)) (hs : spanS L c P c.support.toNat span = s) (h : ¬ (l < 0 ∨ s < l)) : nearStep L P span z k c = (b, l) := by
  subst hz; subst hs; simp only [nearStep]; rw [if_neg h]
def nearB (L : List Support) (C : List Crew) (P : List Int) (span : Int) : Bool := goodR L C P && inB span 0 (P.length - 1)
def nearV (L : List Support) (C : List Crew) (P : List Int) (span : Int) : Int := if nearB L C P span then ((nearUp L C P span.toNat C.length).1 : Nat) else 0

set_option maxRecDepth 100000 in
set_option maxHeartbeats 4000000 in
theorem NearestCrew_any (L : List Support) (C : List Crew) (P : List Int) (A0 A1 A2 : Option Addr) (c0 c1 c2 : Nat) (span : Int) (w : World) (r0 : Rd Support.enc 3 w.heap.size w A0 L) (ok0 : ∀ c ∈ L, c.Ok) (l0 : L.length ≤ maxLen) (r1 : Rd Crew.enc 3 w.heap.size w A1 C) (l1 : C.length ≤ maxLen) (r2 : Rd encI 1 w.heap.size w A2 P) (l2 : P.length ≤ maxLen) :
    Calls Try.prog 44 #[.slice A0 L.length c0, .slice A1 C.length c1, .slice A2 P.length c2, .int .i64 span] w fun e w' => e = .returned (.tuple #[.int .i64 (nearV L C P span), .bool (nearB L C P span)]) ∧ Below w.heap.size w w' := by
  have hba : Below w.heap.size w (w.alloc (.cells #[.slice A0 L.length c0, .slice A1 C.length c1, .slice A2 P.length c2] 82)) := (Below.refl _ _).alloc (Nat.le_refl _) _
  have z0 := CF.new w #[.slice A0 L.length c0, .slice A1 C.length c1, .slice A2 P.length c2] 82 w.heap.size 0 _ rfl rfl
  have z1 := CF.new w #[.slice A0 L.length c0, .slice A1 C.length c1, .slice A2 P.length c2] 82 w.heap.size 1 _ rfl rfl
  have z2 := CF.new w #[.slice A0 L.length c0, .slice A1 C.length c1, .slice A2 P.length c2] 82 w.heap.size 2 _ rfl rfl
  have l0' := l0; have l1' := l1; have l2' := l2; unfold maxLen at l0' l1' l2'
  cases hg : goodR L C P
  · have HA := hide (show nearB L C P span = false by simp [nearB, hg])
    go_enter Try.func44, Try.ntmps44
    go_wp2_with (first | (go_at_call 56; refine (okR_is hg _ _ _ _ _ _ _ (r0.later hba) ok0 l0 (r1.later hba) l1 (r2.later hba) l2).mono ?_; rintro e w1 ⟨rfl, hb1⟩; have y0 := below_cell hb1 z0.1; have y1 := below_cell hb1 z1.1; have y2 := below_cell hb1 z2.1) | (go_at_call 61; refine (within_is (by assumption) _).mono ?_; rintro e w2 ⟨rfl, rfl⟩))
    go_ret2
    exact ⟨by simp [nearV, HA.out], below_new' hb1⟩
  obtain ⟨hl, hcl, hpl⟩ := goodR_len hg
  have HG := hide hg; clear hg
  cases h3 : inB span 0 ((P.length : Int) - 1)
  · have HA := hide (show nearB L C P span = false by simp [nearB, h3])
    go_enter Try.func44, Try.ntmps44
    go_wp2_with (first | (go_at_call 56; refine (okR_is HG.out _ _ _ _ _ _ _ (r0.later hba) ok0 l0 (r1.later hba) l1 (r2.later hba) l2).mono ?_; rintro e w1 ⟨rfl, hb1⟩; have y0 := below_cell hb1 z0.1; have y1 := below_cell hb1 z1.1; have y2 := below_cell hb1 z2.1) | (go_at_call 61; refine (within_is (by assumption) _).mono ?_; rintro e w2 ⟨rfl, rfl⟩))
    go_ret2
    exact ⟨by simp [nearV, HA.out], below_new' hb1⟩
  have HA := hide (show nearB L C P span = true by simp [nearB, HG.out, h3])
  obtain ⟨a3, b3⟩ := inB_iff.1 h3
  obtain ⟨k3, rfl⟩ := Int.eq_ofNat_of_zero_le a3
  have hk3 : k3 < P.length := by omega
  have HV := hide (show nearV L C P k3 = ((nearUp L C P k3 C.length).1 : Nat) by rw [nearV, HA.out]; simp)
  clear a3 b3
  go_enter Try.func44, Try.ntmps44
  go_wp2_with (first | (go_at_call 56; refine (okR_is HG.out _ _ _ _ _ _ _ (r0.later hba) ok0 l0 (r1.later hba) l1 (r2.later hba) l2).mono ?_; rintro e w1 ⟨rfl, hb1⟩; have y0 := below_cell hb1 z0.1; have y1 := below_cell hb1 z1.1; have y2 := below_cell hb1 z2.1) | (go_at_call 61; refine (within_is (by assumption) _).mono ?_; rintro e w2 ⟨rfl, rfl⟩))
  have B1 : Below w.heap.size w w1 := below_new' hb1
  go_loopw [34, 11, 12] (fun i x y wr => ∃ (k b : Nat) (l : Int), k ≤ C.length ∧ i = .int .i64 k ∧ x = .int .i64 b ∧ y = .int .i64 l ∧ Hid (nearUp L C P k3 k = (b, l)) ∧ -1 ≤ l ∧ l ≤ 100000 ∧ Below w1.heap.size w1 wr) (fun i _ _ _ => C.length - (intOf i).toNat)
  case atStart => exact ⟨0, 0, -1, Nat.zero_le _, rfl, rfl, rfl, hide rfl, by omega, by omega, Below.refl _ _⟩
  case round =>
    obtain ⟨k, b, l, hk, rfl, rfl, rfl, hq, hl0, hl9, hbel⟩ := hrel
    have BW := below_step B1 hbel (Nat.le_refl _)
    replace y0 := below_cell hbel y0
    replace y1 := below_cell hbel y1
    replace y2 := below_cell hbel y2
    by_cases hlt : k < C.length
    · obtain ⟨bb, oo, rfl, _, hcc⟩ := Crew.rd_at r1 (by intro h; subst h; simp at hlt)
      have gc := List.getElem?_eq_getElem hlt
      obtain ⟨x0, x1, x2⟩ := hcc k _ gc
      have hki : (k : Int) < (C.length : Int) := by omega
      have HST := hide (@near_step L C P k3 k _ gc)
      obtain ⟨⟨cs0, cs1⟩, _⟩ := goodR_crew HG.out gc
      have hsb := spanS_bd HG.out gc C[k].support.toNat k3
      generalize C[k] = c at *
      obtain ⟨sp, pa, ea⟩ := c
      simp only at x0 x1 x2 cs0 cs1 hsb
      obtain ⟨s, rfl⟩ := Int.eq_ofNat_of_zero_le cs0
      have hsL : s < L.length := by omega
      simp only [Int.toNat_natCast] at hsb
      obtain ⟨v, hv⟩ : ∃ v, spanS L ⟨(s : Nat), pa, ea⟩ P s k3 = v := ⟨_, rfl⟩
      rw [hv] at hsb
      obtain ⟨hv0, hv9⟩ := hsb
      have HVV := hide hv; have HGC := hide gc; clear hv gc hcc cs0 cs1
      replace x0 := below_cell BW x0
      replace x1 := below_cell BW x1
      replace x2 := below_cell BW x2
      have B3 : Below w.heap.size w (wr.alloc (.cells #[.int .i64 (s : Nat), .int .i64 pa, .int .i64 ea] 67)) := BW.alloc BW.size _
      have q0 := CF.new wr #[.int .i64 (s : Nat), .int .i64 pa, .int .i64 ea] 67 wr.heap.size 0 _ rfl rfl
      have u0 := q0.1
      have v0 : (wr.alloc (.cells #[.int .i64 (s : Nat), .int .i64 pa, .int .i64 ea] 67)).cell? ⟨w.heap.size, 0, none⟩ = some (.slice A0 L.length c0) := below_cell ((Below.refl _ _).alloc (Nat.le_refl _) _) y0
      have v1 : (wr.alloc (.cells #[.int .i64 (s : Nat), .int .i64 pa, .int .i64 ea] 67)).cell? ⟨w.heap.size, 1, none⟩ = some (.slice (some ⟨bb, oo, none⟩) C.length c1) := below_cell ((Below.refl _ _).alloc (Nat.le_refl _) _) y1
      have v2 : (wr.alloc (.cells #[.int .i64 (s : Nat), .int .i64 pa, .int .i64 ea] 67)).cell? ⟨w.heap.size, 2, none⟩ = some (.slice A2 P.length c2) := below_cell ((Below.refl _ _).alloc (Nat.le_refl _) _) y2
      by_cases h1 : l < 0
      · have HN := hide (show nearUp L C P k3 (k + 1) = (k, v) by rw [HST.out]; exact near_yes hq.out (by simpa using HVV.out) (by omega))
        go_wp2_with (go_at_call 84; refine (spanTime_v HVV.out _ _ _ _ _ _ k _ HG.out HGC.out hsL hk3 (r0.later B3) (r1.later B3) (r2.later B3)).mono ?_; rintro e w3 ⟨rfl, hb3⟩)
        go_roundw
        case rel => exact ⟨k + 1, k, v, by omega, by go_num, rfl, rfl, HN, by omega, by omega, hbel.trans ((below_new' hb3).mono hbel.size)⟩
        case measure => simp [intOf] <;> omega
      · by_cases h2 : v < l
        · have HN := hide (show nearUp L C P k3 (k + 1) = (k, v) by rw [HST.out]; exact near_yes hq.out (by simpa using HVV.out) (by omega))
          go_wp2_with (go_at_call 84; refine (spanTime_v HVV.out _ _ _ _ _ _ k _ HG.out HGC.out hsL hk3 (r0.later B3) (r1.later B3) (r2.later B3)).mono ?_; rintro e w3 ⟨rfl, hb3⟩)
          go_roundw
          case rel => exact ⟨k + 1, k, v, by omega, by go_num, rfl, rfl, HN, by omega, by omega, hbel.trans ((below_new' hb3).mono hbel.size)⟩
          case measure => simp [intOf] <;> omega
        · have HN := hide (show nearUp L C P k3 (k + 1) = (b, l) by rw [HST.out]; exact near_no hq.out (by simpa using HVV.out) (by omega))
          go_wp2_with (go_at_call 84; refine (spanTime_v HVV.out _ _ _ _ _ _ k _ HG.out HGC.out hsL hk3 (r0.later B3) (r1.later B3) (r2.later B3)).mono ?_; rintro e w3 ⟨rfl, hb3⟩)
          go_roundw
          case rel => exact ⟨k + 1, b, l, by omega, by go_num, rfl, rfl, HN, by omega, by omega, hbel.trans ((below_new' hb3).mono hbel.size)⟩
          case measure => simp [intOf] <;> omega
    · obtain rfl : k = C.length := by omega
      go_wp2_with fail
      go_ret2
      exact ⟨by rw [HV.out, HA.out, hq.out] <;> rfl, BW⟩
set_option maxRecDepth 100000 in
set_option maxHeartbeats 4000000 in
theorem NearestCrew_spec (L : List Support) (C : List Crew) (P : List Int) (A0 A1 A2 : Option Addr) (c0 c1 c2 : Nat) (span : Int) (w : World) (r0 : Rd Support.enc 3 w.heap.size w A0 L) (ok0 : ∀ c ∈ L, c.Ok) (l0 : L.length ≤ maxLen) (r1 : Rd Crew.enc 3 w.heap.size w A1 C) (l1 : C.length ≤ maxLen) (r2 : Rd encI 1 w.heap.size w A2 P) (l2 : P.length ≤ maxLen) :
    Calls Try.prog 43 #[.slice A0 L.length c0, .slice A1 C.length c1, .slice A2 P.length c2, .int .i64 span] w fun e w' => e = .returned (.tuple #[.int .i64 (nearV L C P span), .bool (nearB L C P span)]) ∧ Below w.heap.size w w' := by
  have l0' := l0; have l1' := l1; have l2' := l2; unfold maxLen at l0' l1' l2'
  cases hg : goodR L C P
  · have HA := hide (show nearB L C P span = false by simp [nearB, hg])
    go_enter Try.func43, Try.ntmps43
    go_wp2_with (first | (go_at_call 58; refine (l19Good_is hg _ _ _ _ _ _ _ r0 ok0 l0 r1 l1 r2 l2).mono ?_; rintro e w1 ⟨rfl, hb1⟩) | (go_at_call 73; refine (l1In_is (by assumption) _).mono ?_; rintro e w2 ⟨rfl, rfl⟩))
    go_ret2
    exact ⟨by simp [nearV, HA.out], hb1⟩
  obtain ⟨hl, hcl, hpl⟩ := goodR_len hg
  have HG := hide hg; clear hg
  cases h3 : inB span 0 ((P.length : Int) - 1)
  · have HA := hide (show nearB L C P span = false by simp [nearB, h3])
    go_enter Try.func43, Try.ntmps43
    go_wp2_with (first | (go_at_call 58; refine (l19Good_is HG.out _ _ _ _ _ _ _ r0 ok0 l0 r1 l1 r2 l2).mono ?_; rintro e w1 ⟨rfl, hb1⟩) | (go_at_call 73; refine (l1In_is (by assumption) _).mono ?_; rintro e w2 ⟨rfl, rfl⟩))
    go_ret2
    exact ⟨by simp [nearV, HA.out], hb1⟩
  have HA := hide (show nearB L C P span = true by simp [nearB, HG.out, h3])
  obtain ⟨a3, b3⟩ := inB_iff.1 h3
  obtain ⟨k3, rfl⟩ := Int.eq_ofNat_of_zero_le a3
  have hk3 : k3 < P.length := by omega
  have HV := hide (show nearV L C P k3 = ((nearUp L C P k3 C.length).1 : Nat) by rw [nearV, HA.out]; simp)
  clear a3 b3
  go_enter Try.func43, Try.ntmps43
  go_wp2_with (first | (go_at_call 58; refine (l19Good_is HG.out _ _ _ _ _ _ _ r0 ok0 l0 r1 l1 r2 l2).mono ?_; rintro e w1 ⟨rfl, hb1⟩) | (go_at_call 73; refine (l1In_is (by assumption) _).mono ?_; rintro e w2 ⟨rfl, rfl⟩))
  have B1 : Below w.heap.size w w1 := hb1
  go_loopw [12, 10, 11] (fun i x y wr => ∃ (k b : Nat) (l : Int), k ≤ C.length ∧ i = .int .i64 k ∧ x = .int .i64 b ∧ y = .int .i64 l ∧ Hid (nearUp L C P k3 k = (b, l)) ∧ -1 ≤ l ∧ l ≤ 100000 ∧ Below w1.heap.size w1 wr) (fun i _ _ _ => C.length - (intOf i).toNat)
  case atStart => exact ⟨0, 0, -1, Nat.zero_le _, rfl, rfl, rfl, hide rfl, by omega, by omega, Below.refl _ _⟩
  case round =>
    obtain ⟨k, b, l, hk, rfl, rfl, rfl, hq, hl0, hl9, hbel⟩ := hrel
    have BW := below_step B1 hbel (Nat.le_refl _)
    by_cases hlt : k < C.length
    · obtain ⟨bb, oo, rfl, _, hcc⟩ := Crew.rd_at r1 (by intro h; subst h; simp at hlt)
      have gc := List.getElem?_eq_getElem hlt
      obtain ⟨x0, x1, x2⟩ := hcc k _ gc
      have hki : (k : Int) < (C.length : Int) := by omega
      have HST := hide (@near_step L C P k3 k _ gc)
      obtain ⟨⟨cs0, cs1⟩, _⟩ := goodR_crew HG.out gc
      have hsb := spanS_bd HG.out gc C[k].support.toNat k3
      generalize C[k] = c at *
      obtain ⟨sp, pa, ea⟩ := c
      simp only at x0 x1 x2 cs0 cs1 hsb
      obtain ⟨s, rfl⟩ := Int.eq_ofNat_of_zero_le cs0
      have hsL : s < L.length := by omega
      simp only [Int.toNat_natCast] at hsb
      obtain ⟨v, hv⟩ : ∃ v, spanS L ⟨(s : Nat), pa, ea⟩ P s k3 = v := ⟨_, rfl⟩
      rw [hv] at hsb
      obtain ⟨hv0, hv9⟩ := hsb
      have HVV := hide hv; have HGC := hide gc; clear hv gc hcc cs0 cs1
      replace x0 := below_cell BW x0
      replace x1 := below_cell BW x1
      replace x2 := below_cell BW x2
      have u0 := after_cell x0; have u1 := after_cell x1; have u2 := after_cell x2
      by_cases h1 : l < 0
      · have HN := hide (show nearUp L C P k3 (k + 1) = (k, v) by rw [HST.out]; exact near_yes hq.out (by simpa using HVV.out) (by omega))
        go_wp2_with fail
        refine wp_region_after (by kernel_rfl) (by kernel_rfl) ?_
        repeat (go_big_quiet_step (((go_at_call 83; exact Calls.after (l19Span_v HVV.out _ _ _ _ k _ HG.out HGC.out hsL hk3 ((r0.later BW).later (Subtype.property _)) ((r2.later BW).later (Subtype.property _)))))))
        refine wpQuiet_nil ?_
        rintro w3 ⟨⟨_, hb3⟩, rfl⟩
        go_wp2_with fail
        go_roundw
        case rel => exact ⟨k + 1, k, v, by omega, by go_num, rfl, rfl, HN, by omega, by omega, hbel.trans (hb3.mono hbel.size)⟩
        case measure => simp [intOf] <;> omega
      · by_cases h2 : v < l
        · have HN := hide (show nearUp L C P k3 (k + 1) = (k, v) by rw [HST.out]; exact near_yes hq.out (by simpa using HVV.out) (by omega))
          go_wp2_with fail
          refine wp_region_after (by kernel_rfl) (by kernel_rfl) ?_
          repeat (go_big_quiet_step (((go_at_call 83; exact Calls.after (l19Span_v HVV.out _ _ _ _ k _ HG.out HGC.out hsL hk3 ((r0.later BW).later (Subtype.property _)) ((r2.later BW).later (Subtype.property _)))))))
          refine wpQuiet_nil ?_
          rintro w3 ⟨⟨_, hb3⟩, rfl⟩
          go_wp2_with fail
          go_roundw
          case rel => exact ⟨k + 1, k, v, by omega, by go_num, rfl, rfl, HN, by omega, by omega, hbel.trans (hb3.mono hbel.size)⟩
          case measure => simp [intOf] <;> omega
        · have HN := hide (show nearUp L C P k3 (k + 1) = (b, l) by rw [HST.out]; exact near_no hq.out (by simpa using HVV.out) (by omega))
          go_wp2_with fail
          refine wp_region_after (by kernel_rfl) (by kernel_rfl) ?_
          repeat (go_big_quiet_step (((go_at_call 83; exact Calls.after (l19Span_v HVV.out _ _ _ _ k _ HG.out HGC.out hsL hk3 ((r0.later BW).later (Subtype.property _)) ((r2.later BW).later (Subtype.property _)))))))
          refine wpQuiet_nil ?_
          rintro w3 ⟨⟨_, hb3⟩, rfl⟩
          go_wp2_with fail
          go_roundw
          case rel => exact ⟨k + 1, b, l, by omega, by go_num, rfl, rfl, HN, by omega, by omega, hbel.trans (hb3.mono hbel.size)⟩
          case measure => simp [intOf] <;> omega
    · obtain rfl : k = C.length := by omega
      go_wp2_with fail
      go_ret2
      exact ⟨by rw [HV.out, HA.out, hq.out] <;> rfl, BW⟩
end Go.Proofs.Ytgfamaopplgfgaa
