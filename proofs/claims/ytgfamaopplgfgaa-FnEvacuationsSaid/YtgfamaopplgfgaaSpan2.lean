/- Whether a rescue is valid, the reference's time of one span, SpanTime: both packages. Slices are as the reader gives them. -/
import Derived.Test.YtgfamaopplgfgaaSpan
namespace Go.Proofs.Ytgfamaopplgfgaa
open Go Go.RowKit
set_option linter.unusedVariables false

set_option maxHeartbeats 1000000 in
theorem okR_any (L : List Support) (C : List Crew) (P : List Int) (A0 A1 A2 : Option Addr) (c0 c1 c2 : Nat) (w : World) (r0 : Rd Support.enc 3 w.heap.size w A0 L) (ok0 : ∀ c ∈ L, c.Ok) (l0 : L.length ≤ maxLen) (r1 : Rd Crew.enc 3 w.heap.size w A1 C) (l1 : C.length ≤ maxLen) (r2 : Rd encI 1 w.heap.size w A2 P) (l2 : P.length ≤ maxLen) :
    Calls Try.prog 56 #[.agg #[.slice A0 L.length c0, .slice A1 C.length c1, .slice A2 P.length c2]] w fun e w' => e = .returned (.bool (goodR L C P)) ∧ Below w.heap.size w w' := by
  have hba : Below w.heap.size w (w.alloc (.cells #[.slice A0 L.length c0, .slice A1 C.length c1, .slice A2 P.length c2] 82)) := (Below.refl _ _).alloc (Nat.le_refl _) _
  have z0 := CF.new w #[.slice A0 L.length c0, .slice A1 C.length c1, .slice A2 P.length c2] 82 w.heap.size 0 _ rfl rfl
  have z1 := CF.new w #[.slice A0 L.length c0, .slice A1 C.length c1, .slice A2 P.length c2] 82 w.heap.size 1 _ rfl rfl
  have z2 := CF.new w #[.slice A0 L.length c0, .slice A1 C.length c1, .slice A2 P.length c2] 82 w.heap.size 2 _ rfl rfl
  cases h : crewsB L C
  · go_enter Try.func56, Try.ntmps56
    go_wp2_with (first | (go_at_call 19; refine (AreCrews_is h _ _ _ _ _ (r0.later hba) ok0 l0 (r1.later hba) l1).mono ?_; rintro e w1 ⟨rfl, hb1⟩; have y0 := below_cell hb1 z0.1; have y2 := below_cell hb1 z2.1) | (go_at_call 77; refine (arePeople_is h _ _ _ _ _ l0 ((r2.later hba).later hb1) l2).mono ?_; rintro e w2 ⟨rfl, rfl⟩))
    go_ret
    exact ⟨ret_bool (by simp [goodR, h]), below_new' hb1⟩
  · have H := hide h; clear h
    cases h2 : peopleB L P
    all_goals
      go_enter Try.func56, Try.ntmps56
      go_wp2_with (first | (go_at_call 19; refine (AreCrews_is H.out _ _ _ _ _ (r0.later hba) ok0 l0 (r1.later hba) l1).mono ?_; rintro e w1 ⟨rfl, hb1⟩; have y0 := below_cell hb1 z0.1; have y2 := below_cell hb1 z2.1) | (go_at_call 77; refine (arePeople_is h2 _ _ _ _ _ l0 ((r2.later hba).later hb1) l2).mono ?_; rintro e w2 ⟨rfl, rfl⟩))
      go_ret
      exact ⟨ret_bool (by simp [goodR, H.out, h2]), below_new' hb1⟩
theorem okR_is {L : List Support} {C : List Crew} {P : List Int} {b : Bool} (h : goodR L C P = b) (A0 A1 A2 : Option Addr) (c0 c1 c2 : Nat) (w : World) (r0 : Rd Support.enc 3 w.heap.size w A0 L) (ok0 : ∀ c ∈ L, c.Ok) (l0 : L.length ≤ maxLen) (r1 : Rd Crew.enc 3 w.heap.size w A1 C) (l1 : C.length ≤ maxLen) (r2 : Rd encI 1 w.heap.size w A2 P) (l2 : P.length ≤ maxLen) :
    Calls Try.prog 56 #[.agg #[.slice A0 L.length c0, .slice A1 C.length c1, .slice A2 P.length c2]] w fun e w' => e = .returned (.bool b) ∧ Below w.heap.size w w' := h ▸ okR_any L C P A0 A1 A2 c0 c1 c2 w r0 ok0 l0 r1 l1 r2 l2
theorem l19Good_any (L : List Support) (C : List Crew) (P : List Int) (A0 A1 A2 : Option Addr) (c0 c1 c2 : Nat) (w : World) (r0 : Rd Support.enc 3 w.heap.size w A0 L) (ok0 : ∀ c ∈ L, c.Ok) (l0 : L.length ≤ maxLen) (r1 : Rd Crew.enc 3 w.heap.size w A1 C) (l1 : C.length ≤ maxLen) (r2 : Rd encI 1 w.heap.size w A2 P) (l2 : P.length ≤ maxLen) :
    Calls Try.prog 58 #[.slice A0 L.length c0, .slice A1 C.length c1, .slice A2 P.length c2] w fun e w' => e = .returned (.bool (goodR L C P)) ∧ Below w.heap.size w w' := by
  cases h : crewsB L C
  · go_enter Try.func58, Try.ntmps58
    go_wp2_with (first | (go_at_call 64; refine (l19Crews_is h _ _ _ _ _ r0 ok0 l0 r1 l1).mono ?_; rintro e w1 ⟨rfl, hb1⟩) | (go_at_call 75; refine (l19People_is h _ _ _ _ _ (r0.later hb1) ok0 l0 (r2.later hb1) l2).mono ?_; rintro e w2 ⟨rfl, hb2⟩))
    go_ret
    exact ⟨ret_bool (by simp [goodR, h]), hb1⟩
  · have hs : shortB L = true := by simp only [crewsB, Bool.and_eq_true] at h; exact h.1
    have H := hide h; have HS := hide hs; clear h hs
    cases h2 : peopleB L P
    all_goals
      have H3 := hide (show (shortB L && peopleB L P) = _ by rw [HS.out, h2])
      go_enter Try.func58, Try.ntmps58
      go_wp2_with (first | (go_at_call 64; refine (l19Crews_is H.out _ _ _ _ _ r0 ok0 l0 r1 l1).mono ?_; rintro e w1 ⟨rfl, hb1⟩) | (go_at_call 75; refine (l19People_is H3.out _ _ _ _ _ (r0.later hb1) ok0 l0 (r2.later hb1) l2).mono ?_; rintro e w2 ⟨rfl, hb2⟩))
      go_ret
      exact ⟨ret_bool (by simp [goodR, H.out, h2]), below_step hb1 hb2 (Nat.le_refl _)⟩
theorem l19Good_is {L : List Support} {C : List Crew} {P : List Int} {b : Bool} (h : goodR L C P = b) (A0 A1 A2 : Option Addr) (c0 c1 c2 : Nat) (w : World) (r0 : Rd Support.enc 3 w.heap.size w A0 L) (ok0 : ∀ c ∈ L, c.Ok) (l0 : L.length ≤ maxLen) (r1 : Rd Crew.enc 3 w.heap.size w A1 C) (l1 : C.length ≤ maxLen) (r2 : Rd encI 1 w.heap.size w A2 P) (l2 : P.length ≤ maxLen) :
    Calls Try.prog 58 #[.slice A0 L.length c0, .slice A1 C.length c1, .slice A2 P.length c2] w fun e w' => e = .returned (.bool b) ∧ Below w.heap.size w w' := h ▸ l19Good_any L C P A0 A1 A2 c0 c1 c2 w r0 ok0 l0 r1 l1 r2 l2
set_option maxRecDepth 100000 in
set_option maxHeartbeats 2000000 in
theorem l19Span_any (L : List Support) (C : List Crew) (P : List Int) (A0 A2 : Option Addr) (c0 c2 : Nat) (crew at_ span : Nat) (c : Crew) (w : World) (hg : goodR L C P = true) (hc : C[crew]? = some c) (ha : at_ < L.length) (hs : span < P.length) (r0 : Rd Support.enc 3 w.heap.size w A0 L) (r2 : Rd encI 1 w.heap.size w A2 P) :
    Calls Try.prog 83 #[.slice A0 L.length c0, .agg #[.int .i64 c.support, .int .i64 c.pace, .int .i64 c.each], .slice A2 P.length c2, .int .i64 at_, .int .i64 span] w fun e w' => e = .returned (.tuple #[.int .i64 (spanS L c P at_ span), .int .i64 (spanN L at_ span : Nat)]) ∧ Below w.heap.size w w' := by
  obtain ⟨hl, hcl, hpl⟩ := goodR_len hg
  obtain ⟨b0, o0, rfl, _, h0⟩ := Support.rd_at r0 (by intro h; subst h; simp at ha)
  obtain ⟨b2, o2, rfl, _, h2⟩ := rd_int r2 (by intro h; subst h; simp at hs)
  have ga := List.getElem?_eq_getElem ha
  have gs := List.getElem?_eq_getElem (show span < L.length by omega)
  have gn := List.getElem?_eq_getElem (show span + 1 < L.length by omega)
  have gp := List.getElem?_eq_getElem hs
  obtain ⟨xa, _, _⟩ := h0 at_ _ ga
  obtain ⟨xs, _, _⟩ := h0 span _ gs
  obtain ⟨xn, _, _⟩ := h0 (span + 1) _ gn
  have xp := h2 span _ gp
  obtain ⟨pa0, pa1⟩ := goodR_at hg ga
  obtain ⟨ps0, ps1⟩ := goodR_at hg gs
  obtain ⟨pn0, pn1⟩ := goodR_at hg gn
  obtain ⟨pp0, pp1⟩ := goodR_ppl hg gp
  obtain ⟨_, ⟨pc0, pc1⟩, pe0, pe1⟩ := goodR_crew hg hc
  have HLo := hide (show lowT L at_ span = distI L[at_].at_ L[span].at_ by simp [lowT, posAt, ga, gs])
  have HHi := hide (show lowT L at_ (span + 1) = distI L[at_].at_ L[span + 1].at_ by simp [lowT, posAt, ga, gn])
  have HPP := hide (show P.getD span 0 = P[span] by simp [List.getD, gp])
  generalize L[at_].at_ = ta at *
  generalize L[span].at_ = ts at *
  generalize L[span + 1].at_ = tn at *
  generalize P[span] = pp at *
  clear ga gs gn gp h0 h2 r0 r2 hc hg
  obtain ⟨d1l, d1h⟩ := distI_bd pa0 pa1 ps0 ps1
  obtain ⟨d2l, d2h⟩ := distI_bd pa0 pa1 pn0 pn1
  have HLO := hide (show distI ta ts = max (ts - ta) (-(ts - ta)) by unfold distI; omega)
  have HHI := hide (show distI ta tn = max (tn - ta) (-(tn - ta)) by unfold distI; omega)
  obtain ⟨m1l, m1h⟩ := mul_bd2 (by omega) pc1 d1l d1h
  obtain ⟨m2l, m2h⟩ := mul_bd2 (by omega) pc1 d2l d2h
  obtain ⟨m3l, m3h⟩ := mul_bd2 (by omega) pe1 pp0 pp1
  have hia : (at_ : Int) < (L.length : Int) := by omega
  have his : (span : Int) < (L.length : Int) := by omega
  have hin : (span : Int) + 1 < (L.length : Int) := by omega
  have hip : (span : Int) < (P.length : Int) := by omega
  have hsp1 : IntKind.i64.wrap ((span : Int) + 1) = (span : Int) + 1 := by rw [IntKind.wrap_i64]; omega
  have hsp2 : (0 : Int) ≤ (span : Int) + 1 := by omega
  have hsp3 : ((span : Int) + 1).toNat = span + 1 := by omega
  have f1 : IntKind.i64.wrap (ts - ta) = ts - ta := by rw [IntKind.wrap_i64]; omega
  have f2 : IntKind.i64.wrap (tn - ta) = tn - ta := by rw [IntKind.wrap_i64]; omega
  obtain ⟨lo, hlo⟩ : ∃ d, distI ta ts = d := ⟨_, rfl⟩
  obtain ⟨hi, hhi⟩ : ∃ d, distI ta tn = d := ⟨_, rfl⟩
  rw [hlo] at d1l d1h m1l m1h
  rw [hhi] at d2l d2h m2l m2h
  have ML := hide (show max (ts - ta) (-(ts - ta)) = lo by rw [← hlo]; exact HLO.out.symm)
  have MH := hide (show max (tn - ta) (-(tn - ta)) = hi by rw [← hhi]; exact HHI.out.symm)
  have HLO2 := hide hlo; have HHI2 := hide hhi
  clear hlo hhi HLO HHI
  have HSL := hide (show ∀ b, decide (lo ≤ hi) = b → spanB L at_ span = b from fun b hb => by rw [spanB, HLo.out, HHi.out, HLO2.out, HHI2.out]; exact hb)
  have hb2 : Below w.heap.size w (w.alloc (.cells #[.int .i64 c.support, .int .i64 c.pace, .int .i64 c.each] 67)) := (Below.refl _ _).alloc (Nat.le_refl _) _
  have qa := after_cell (below_cell hb2 xa); have qs := after_cell (below_cell hb2 xs); have qn := after_cell (below_cell hb2 xn)
  have zp := below_cell hb2 xp
  have k1 := (CF.new w #[.int .i64 c.support, .int .i64 c.pace, .int .i64 c.each] 67 w.heap.size 1 _ rfl rfl).1
  have k2 := (CF.new w #[.int .i64 c.support, .int .i64 c.pace, .int .i64 c.each] 67 w.heap.size 2 _ rfl rfl).1
  clear xa xs xn xp
  by_cases hlh : lo ≤ hi
  · have hdd : decide (lo ≤ hi) = true := by simp; omega
    have HB := hide (HSL.out _ hdd)
    have HS := hide (show spanS L c P at_ span = c.pace * lo + c.each * pp by rw [spanS, HB.out, HPP.out, HLo.out, HLO2.out]; rfl)
    have HN := hide (show spanN L at_ span = span + 1 by rw [spanN, HB.out]; rfl)
    clear hdd
    go_enter Try.func83, Try.ntmps83
    go_wp2_with fail
    refine wp_region_after (by kernel_rfl) (by kernel_rfl) ?_
    repeat (go_big_quiet_step (fail))
    refine wpQuiet_nil ?_
    rintro w3 ⟨⟨_, hb3⟩, rfl⟩
    have rp := after_cell (below_cell hb3 zp); have r3 := after_cell (below_cell hb3 k1); have r4 := after_cell (below_cell hb3 k2)
    have e1 : IntKind.i64.wrap (c.pace * lo) = c.pace * lo := by rw [IntKind.wrap_i64]; omega
    have e2 : IntKind.i64.wrap (c.each * pp) = c.each * pp := by rw [IntKind.wrap_i64]; omega
    have e3 : IntKind.i64.wrap (c.pace * lo + c.each * pp) = c.pace * lo + c.each * pp := by rw [IntKind.wrap_i64]; omega
    go_wp2_with (first | (go_at_call 87; (with_reducible refine (l1Most_m ML.out _).mono ?_); rintro e w4 ⟨rfl, rfl⟩) | (go_at_call 87; (with_reducible refine (l1Most_m MH.out _).mono ?_); rintro e w5 ⟨rfl, rfl⟩))
    refine wp_region_after (by kernel_rfl) (by kernel_rfl) ?_
    repeat (go_big_quiet_step (fail))
    refine wpQuiet_nil ?_
    rintro w4 ⟨⟨_, hb4⟩, rfl⟩
    go_wp2_with fail
    go_ret2
    rw [HS.out, HN.out]
    exact ⟨ret_2 rfl (in_eq (by simp)), below_step (below_step hb2 hb3 (by simp)) hb4 (by have := hb3.size; simp at this; omega)⟩
  · have hdd : decide (lo ≤ hi) = false := by simp; omega
    have HB := hide (HSL.out _ hdd)
    have HS := hide (show spanS L c P at_ span = c.pace * hi + c.each * pp by rw [spanS, HB.out, HPP.out, HHi.out, HHI2.out]; rfl)
    have HN := hide (show spanN L at_ span = span by rw [spanN, HB.out]; rfl)
    clear hdd
    go_enter Try.func83, Try.ntmps83
    go_wp2_with fail
    refine wp_region_after (by kernel_rfl) (by kernel_rfl) ?_
    repeat (go_big_quiet_step (fail))
    refine wpQuiet_nil ?_
    rintro w3 ⟨⟨_, hb3⟩, rfl⟩
    have rp := after_cell (below_cell hb3 zp); have r3 := after_cell (below_cell hb3 k1); have r4 := after_cell (below_cell hb3 k2)
    have e1 : IntKind.i64.wrap (c.pace * hi) = c.pace * hi := by rw [IntKind.wrap_i64]; omega
    have e2 : IntKind.i64.wrap (c.each * pp) = c.each * pp := by rw [IntKind.wrap_i64]; omega
    have e3 : IntKind.i64.wrap (c.pace * hi + c.each * pp) = c.pace * hi + c.each * pp := by rw [IntKind.wrap_i64]; omega
    go_wp2_with (first | (go_at_call 87; (with_reducible refine (l1Most_m ML.out _).mono ?_); rintro e w4 ⟨rfl, rfl⟩) | (go_at_call 87; (with_reducible refine (l1Most_m MH.out _).mono ?_); rintro e w5 ⟨rfl, rfl⟩))
    refine wp_region_after (by kernel_rfl) (by kernel_rfl) ?_
    repeat (go_big_quiet_step (fail))
    refine wpQuiet_nil ?_
    rintro w4 ⟨⟨_, hb4⟩, rfl⟩
    go_wp2_with fail
    go_ret2
    rw [HS.out, HN.out]
    exact ⟨ret_2 rfl (in_eq (by simp)), below_step (below_step hb2 hb3 (by simp)) hb4 (by have := hb3.size; simp at this; omega)⟩
def askS (L : List Support) (C : List Crew) (P : List Int) (crew at_ span : Int) : Bool := goodR L C P && (inB crew 0 (C.length - 1) && (inB at_ 0 (L.length - 1) && inB span 0 (P.length - 1)))
def spanV (L : List Support) (C : List Crew) (P : List Int) (crew at_ span : Int) : Int := if askS L C P crew at_ span then (match C[crew.toNat]? with
  | some c => spanS L c P at_.toNat span.toNat
  | none => 0) else 0
def spanW (L : List Support) (C : List Crew) (P : List Int) (crew at_ span : Int) : Int := if askS L C P crew at_ span then (spanN L at_.toNat span.toNat : Nat) else 0
set_option maxHeartbeats 2000000 in
theorem SpanTime_any (L : List Support) (C : List Crew) (P : List Int) (A0 A1 A2 : Option Addr) (c0 c1 c2 : Nat) (crew at_ span : Int) (w : World) (r0 : Rd Support.enc 3 w.heap.size w A0 L) (ok0 : ∀ c ∈ L, c.Ok) (l0 : L.length ≤ maxLen) (r1 : Rd Crew.enc 3 w.heap.size w A1 C) (l1 : C.length ≤ maxLen) (r2 : Rd encI 1 w.heap.size w A2 P) (l2 : P.length ≤ maxLen) :
    Calls Try.prog 42 #[.slice A0 L.length c0, .slice A1 C.length c1, .slice A2 P.length c2, .int .i64 crew, .int .i64 at_, .int .i64 span] w fun e w' => e = .returned (.tuple #[.int .i64 (spanV L C P crew at_ span), .int .i64 (spanW L C P crew at_ span), .bool (askS L C P crew at_ span)]) ∧ Below w.heap.size w w' := by
  have hba : Below w.heap.size w (w.alloc (.cells #[.slice A0 L.length c0, .slice A1 C.length c1, .slice A2 P.length c2] 82)) := (Below.refl _ _).alloc (Nat.le_refl _) _
  have z0 := CF.new w #[.slice A0 L.length c0, .slice A1 C.length c1, .slice A2 P.length c2] 82 w.heap.size 0 _ rfl rfl
  have z1 := CF.new w #[.slice A0 L.length c0, .slice A1 C.length c1, .slice A2 P.length c2] 82 w.heap.size 1 _ rfl rfl
  have z2 := CF.new w #[.slice A0 L.length c0, .slice A1 C.length c1, .slice A2 P.length c2] 82 w.heap.size 2 _ rfl rfl
  have l0' := l0; have l1' := l1; have l2' := l2; unfold maxLen at l0' l1' l2'
  cases hg : goodR L C P
  · have H := hide True.intro
    have HA := hide (show askS L C P crew at_ span = false by simp [askS, hg])
    go_enter Try.func42, Try.ntmps42
    go_wp2_with (first | (go_at_call 56; refine (okR_is hg _ _ _ _ _ _ _ (r0.later hba) ok0 l0 (r1.later hba) l1 (r2.later hba) l2).mono ?_; rintro e w1 ⟨rfl, hb1⟩; have y0 := below_cell hb1 z0.1; have y1 := below_cell hb1 z1.1; have y2 := below_cell hb1 z2.1) | (go_at_call 61; refine (within_is (by assumption) _).mono ?_; rintro e w2 ⟨rfl, rfl⟩))
    go_ret3
    exact ⟨by simp [spanV, spanW, HA.out], below_new' hb1⟩
  obtain ⟨hl, hcl, hpl⟩ := goodR_len hg
  have HG := hide hg; clear hg
  cases h1 : inB crew 0 ((C.length : Int) - 1)
  · have H := hide True.intro
    have HA := hide (show askS L C P crew at_ span = false by simp [askS, h1])
    go_enter Try.func42, Try.ntmps42
    go_wp2_with (first | (go_at_call 56; refine (okR_is HG.out _ _ _ _ _ _ _ (r0.later hba) ok0 l0 (r1.later hba) l1 (r2.later hba) l2).mono ?_; rintro e w1 ⟨rfl, hb1⟩; have y0 := below_cell hb1 z0.1; have y1 := below_cell hb1 z1.1; have y2 := below_cell hb1 z2.1) | (go_at_call 61; refine (within_is (by assumption) _).mono ?_; rintro e w2 ⟨rfl, rfl⟩))
    go_ret3
    exact ⟨by simp [spanV, spanW, HA.out], below_new' hb1⟩
  cases h2 : inB at_ 0 ((L.length : Int) - 1)
  · have H := hide True.intro
    have HA := hide (show askS L C P crew at_ span = false by simp [askS, h2])
    go_enter Try.func42, Try.ntmps42
    go_wp2_with (first | (go_at_call 56; refine (okR_is HG.out _ _ _ _ _ _ _ (r0.later hba) ok0 l0 (r1.later hba) l1 (r2.later hba) l2).mono ?_; rintro e w1 ⟨rfl, hb1⟩; have y0 := below_cell hb1 z0.1; have y1 := below_cell hb1 z1.1; have y2 := below_cell hb1 z2.1) | (go_at_call 61; refine (within_is (by assumption) _).mono ?_; rintro e w2 ⟨rfl, rfl⟩))
    go_ret3
    exact ⟨by simp [spanV, spanW, HA.out], below_new' hb1⟩
  cases h3 : inB span 0 ((P.length : Int) - 1)
  · have H := hide True.intro
    have HA := hide (show askS L C P crew at_ span = false by simp [askS, h3])
    go_enter Try.func42, Try.ntmps42
    go_wp2_with (first | (go_at_call 56; refine (okR_is HG.out _ _ _ _ _ _ _ (r0.later hba) ok0 l0 (r1.later hba) l1 (r2.later hba) l2).mono ?_; rintro e w1 ⟨rfl, hb1⟩; have y0 := below_cell hb1 z0.1; have y1 := below_cell hb1 z1.1; have y2 := below_cell hb1 z2.1) | (go_at_call 61; refine (within_is (by assumption) _).mono ?_; rintro e w2 ⟨rfl, rfl⟩))
    go_ret3
    exact ⟨by simp [spanV, spanW, HA.out], below_new' hb1⟩
  have HA := hide (show askS L C P crew at_ span = true by simp [askS, HG.out, h1, h2, h3])
  obtain ⟨a1, b1⟩ := inB_iff.1 h1; obtain ⟨a2, b2⟩ := inB_iff.1 h2; obtain ⟨a3, b3⟩ := inB_iff.1 h3
  obtain ⟨k1, rfl⟩ := Int.eq_ofNat_of_zero_le a1
  obtain ⟨k2, rfl⟩ := Int.eq_ofNat_of_zero_le a2
  obtain ⟨k3, rfl⟩ := Int.eq_ofNat_of_zero_le a3
  have hk1 : k1 < C.length := by omega
  have hk2 : k2 < L.length := by omega
  have hk3 : k3 < P.length := by omega
  have gc := List.getElem?_eq_getElem hk1
  have HV := hide (show spanV L C P k1 k2 k3 = spanS L C[k1] P k2 k3 by rw [spanV, HA.out]; simp [gc])
  have HW := hide (show spanW L C P k1 k2 k3 = (spanN L k2 k3 : Nat) by rw [spanW, HA.out]; simp)
  generalize C[k1] = c at *
  have HGC := hide gc; clear gc a1 b1 a2 b2 a3 b3
  go_enter Try.func42, Try.ntmps42
  go_wp2_with (first | (go_at_call 56; refine (okR_is HG.out _ _ _ _ _ _ _ (r0.later hba) ok0 l0 (r1.later hba) l1 (r2.later hba) l2).mono ?_; rintro e w1 ⟨rfl, hb1⟩; have y0 := below_cell hb1 z0.1; have y1 := below_cell hb1 z1.1; have y2 := below_cell hb1 z2.1) | (go_at_call 61; refine (within_is (by assumption) _).mono ?_; rintro e w2 ⟨rfl, rfl⟩) | (go_at_call 84; refine (spanTime_any L C P _ _ _ _ _ _ k1 k2 k3 c _ HG.out HGC.out hk2 hk3 ((r0.later hba).later hb1) ((r1.later hba).later hb1) ((r2.later hba).later hb1)).mono ?_; rintro e w3 ⟨rfl, hb3⟩))
  go_ret3
  rw [HV.out, HW.out, HA.out]
  exact ⟨rfl, below_step (below_new' hb1) hb3 (by have := hb1.size; simp at this; omega)⟩
set_option maxHeartbeats 2000000 in
theorem SpanTime_spec (L : List Support) (C : List Crew) (P : List Int) (A0 A1 A2 : Option Addr) (c0 c1 c2 : Nat) (crew at_ span : Int) (w : World) (r0 : Rd Support.enc 3 w.heap.size w A0 L) (ok0 : ∀ c ∈ L, c.Ok) (l0 : L.length ≤ maxLen) (r1 : Rd Crew.enc 3 w.heap.size w A1 C) (l1 : C.length ≤ maxLen) (r2 : Rd encI 1 w.heap.size w A2 P) (l2 : P.length ≤ maxLen) :
    Calls Try.prog 41 #[.slice A0 L.length c0, .slice A1 C.length c1, .slice A2 P.length c2, .int .i64 crew, .int .i64 at_, .int .i64 span] w fun e w' => e = .returned (.tuple #[.int .i64 (spanV L C P crew at_ span), .int .i64 (spanW L C P crew at_ span), .bool (askS L C P crew at_ span)]) ∧ Below w.heap.size w w' := by
  have l0' := l0; have l1' := l1; have l2' := l2; unfold maxLen at l0' l1' l2'
  cases hg : goodR L C P
  · have H := hide True.intro
    have HA := hide (show askS L C P crew at_ span = false by simp [askS, hg])
    go_enter Try.func41, Try.ntmps41
    go_wp2_with (first | (go_at_call 58; refine (l19Good_is hg _ _ _ _ _ _ _ r0 ok0 l0 r1 l1 r2 l2).mono ?_; rintro e w1 ⟨rfl, hb1⟩) | (go_at_call 73; refine (l1In_is (by assumption) _).mono ?_; rintro e w2 ⟨rfl, rfl⟩))
    go_ret3
    exact ⟨by simp [spanV, spanW, HA.out], hb1⟩
  obtain ⟨hl, hcl, hpl⟩ := goodR_len hg
  have HG := hide hg; clear hg
  cases h1 : inB crew 0 ((C.length : Int) - 1)
  · have H := hide True.intro
    have HA := hide (show askS L C P crew at_ span = false by simp [askS, h1])
    go_enter Try.func41, Try.ntmps41
    go_wp2_with (first | (go_at_call 58; refine (l19Good_is HG.out _ _ _ _ _ _ _ r0 ok0 l0 r1 l1 r2 l2).mono ?_; rintro e w1 ⟨rfl, hb1⟩) | (go_at_call 73; refine (l1In_is (by assumption) _).mono ?_; rintro e w2 ⟨rfl, rfl⟩))
    go_ret3
    exact ⟨by simp [spanV, spanW, HA.out], hb1⟩
  cases h2 : inB at_ 0 ((L.length : Int) - 1)
  · have H := hide True.intro
    have HA := hide (show askS L C P crew at_ span = false by simp [askS, h2])
    go_enter Try.func41, Try.ntmps41
    go_wp2_with (first | (go_at_call 58; refine (l19Good_is HG.out _ _ _ _ _ _ _ r0 ok0 l0 r1 l1 r2 l2).mono ?_; rintro e w1 ⟨rfl, hb1⟩) | (go_at_call 73; refine (l1In_is (by assumption) _).mono ?_; rintro e w2 ⟨rfl, rfl⟩))
    go_ret3
    exact ⟨by simp [spanV, spanW, HA.out], hb1⟩
  cases h3 : inB span 0 ((P.length : Int) - 1)
  · have h3' : inB span 0 ((L.length : Int) - 2) = false := by rw [← h3]; congr 1; omega
    have HA := hide (show askS L C P crew at_ span = false by simp [askS, h3])
    go_enter Try.func41, Try.ntmps41
    go_wp2_with (first | (go_at_call 58; refine (l19Good_is HG.out _ _ _ _ _ _ _ r0 ok0 l0 r1 l1 r2 l2).mono ?_; rintro e w1 ⟨rfl, hb1⟩) | (go_at_call 73; refine (l1In_is (by assumption) _).mono ?_; rintro e w2 ⟨rfl, rfl⟩))
    go_ret3
    exact ⟨by simp [spanV, spanW, HA.out], hb1⟩
  have HA := hide (show askS L C P crew at_ span = true by simp [askS, HG.out, h1, h2, h3])
  have h3' : inB span 0 ((L.length : Int) - 2) = true := by rw [← h3]; congr 1; omega
  obtain ⟨a1, b1⟩ := inB_iff.1 h1; obtain ⟨a2, b2⟩ := inB_iff.1 h2; obtain ⟨a3, b3⟩ := inB_iff.1 h3
  obtain ⟨k1, rfl⟩ := Int.eq_ofNat_of_zero_le a1
  obtain ⟨k2, rfl⟩ := Int.eq_ofNat_of_zero_le a2
  obtain ⟨k3, rfl⟩ := Int.eq_ofNat_of_zero_le a3
  have hk1 : k1 < C.length := by omega
  have hk2 : k2 < L.length := by omega
  have hk3 : k3 < P.length := by omega
  have gc := List.getElem?_eq_getElem hk1
  have HV := hide (show spanV L C P k1 k2 k3 = spanS L C[k1] P k2 k3 by rw [spanV, HA.out]; simp [gc])
  have HW := hide (show spanW L C P k1 k2 k3 = (spanN L k2 k3 : Nat) by rw [spanW, HA.out]; simp)
  obtain ⟨bb, oo, rfl, _, hcc⟩ := Crew.rd_at r1 (by intro h; subst h; simp at hk1)
  obtain ⟨x0, x1, x2⟩ := hcc k1 _ gc
  have hki : (k1 : Int) < (C.length : Int) := by omega
  clear hcc
  generalize C[k1] = c at *
  have HGC := hide gc; clear gc a1 b1 a2 b2 a3 b3
  go_enter Try.func41, Try.ntmps41
  go_wp2_with (first | (go_at_call 58; refine (l19Good_is HG.out _ _ _ _ _ _ _ r0 ok0 l0 r1 l1 r2 l2).mono ?_; rintro e w1 ⟨rfl, hb1⟩; have y0 := below_cell hb1 x0; have y1 := below_cell hb1 x1; have y2 := below_cell hb1 x2) | (go_at_call 73; refine (l1In_is (by assumption) _).mono ?_; rintro e w2 ⟨rfl, rfl⟩) | (go_at_call 83; refine (l19Span_any L C P _ _ _ _ k1 k2 k3 c _ HG.out HGC.out hk2 hk3 (r0.later hb1) (r2.later hb1)).mono ?_; rintro e w3 ⟨rfl, hb3⟩))
  go_ret3
  rw [HV.out, HW.out, HA.out]
  exact ⟨rfl, below_step hb1 hb3 (Nat.le_refl _)⟩
end Go.Proofs.Ytgfamaopplgfgaa
