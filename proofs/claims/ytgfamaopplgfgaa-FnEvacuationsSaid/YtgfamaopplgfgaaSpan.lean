/- The time of one span: both packages. The line, the crews and the people are valid. -/
import Derived.Test.YtgfamaopplgfgaaCrews
import Derived.Test.YtgfamaopplgfgaaGrid
namespace Go.Proofs.Ytgfamaopplgfgaa
open Go Go.RowKit
set_option linter.unusedVariables false
theorem l1Most_m {a b m : Int} (h : max a b = m) (w : World) : Calls Try.prog 87 #[.int .i64 a, .int .i64 b] w fun e w' => e = .returned (.int .i64 m) ∧ w = w' := h ▸ l1Most_any a b w
def goodR (L : List Support) (C : List Crew) (P : List Int) : Bool := crewsB L C && peopleB L P
theorem goodR_len {L : List Support} {C : List Crew} {P : List Int} (h : goodR L C P = true) : (2 ≤ L.length ∧ L.length ≤ 7) ∧ (1 ≤ C.length ∧ C.length ≤ 3) ∧ P.length + 1 = L.length := by
  simp only [goodR, crewsB, peopleB, Bool.and_eq_true, decide_eq_true_eq, inB_iff] at h
  have := shortB_len h.1.1
  omega
theorem goodR_at {L : List Support} {C : List Crew} {P : List Int} (h : goodR L C P = true) {k : Nat} {c : Support} (hk : L[k]? = some c) : 0 ≤ c.at_ ∧ c.at_ ≤ 3000 := by
  simp only [goodR, crewsB, Bool.and_eq_true] at h
  exact shortB_at h.1.1 hk
theorem goodR_ppl {L : List Support} {C : List Crew} {P : List Int} (h : goodR L C P = true) {k : Nat} {n : Int} (hk : P[k]? = some n) : 0 ≤ n ∧ n ≤ 60 := by
  simp only [goodR, peopleB, Bool.and_eq_true] at h
  exact inB_iff.1 ((List.all_eq_true.1 h.2.2) n (List.mem_of_getElem? hk))
theorem goodR_crew {L : List Support} {C : List Crew} {P : List Int} (h : goodR L C P = true) {k : Nat} {c : Crew} (hk : C[k]? = some c) : (0 ≤ c.support ∧ c.support < L.length) ∧ (1 ≤ c.pace ∧ c.pace ≤ 20) ∧ (1 ≤ c.each ∧ c.each ≤ 600) := by
  simp only [goodR, crewsB, Bool.and_eq_true, Bool.not_eq_true'] at h
  have := (List.any_eq_false.1 h.1.2.2) c (List.mem_of_getElem? hk)
  simp only [badC, crewP, Bool.not_eq_true', Bool.not_eq_false, Bool.and_eq_true, inB_iff] at this
  omega
def distI (a b : Int) : Int := max (a - b) (b - a)
def posAt (L : List Support) (i : Nat) : Int := match L[i]? with
  | some c => c.at_
  | none => 0
def lowT (L : List Support) (at_ span : Nat) : Int := distI (posAt L at_) (posAt L span)
def spanB (L : List Support) (at_ span : Nat) : Bool := decide (lowT L at_ span ≤ lowT L at_ (span + 1))
def spanS (L : List Support) (c : Crew) (P : List Int) (at_ span : Nat) : Int := if spanB L at_ span then c.pace * lowT L at_ span + c.each * P.getD span 0 else c.pace * lowT L at_ (span + 1) + c.each * P.getD span 0
def spanN (L : List Support) (at_ span : Nat) : Nat := if spanB L at_ span then span + 1 else span
theorem mul_bd2 {a b m n : Int} (h0 : 0 ≤ a) (h1 : a ≤ m) (h2 : 0 ≤ b) (h3 : b ≤ n) : 0 ≤ a * b ∧ a * b ≤ m * n :=
  ⟨Int.mul_nonneg h0 h2, Int.mul_le_mul h1 h3 h2 (Int.le_trans h0 h1)⟩
theorem distI_bd {a b : Int} (h0 : 0 ≤ a) (h1 : a ≤ 3000) (h2 : 0 ≤ b) (h3 : b ≤ 3000) : 0 ≤ distI a b ∧ distI a b ≤ 3000 := by unfold distI; omega
theorem distance_any (a b : Int) (w : World) (h0 : 0 ≤ a) (h1 : a ≤ 3000) (h2 : 0 ≤ b) (h3 : b ≤ 3000) : Calls Try.prog 95 #[.int .i64 a, .int .i64 b] w fun e w' => e = .returned (.int .i64 (distI a b)) ∧ w = w' := by
  by_cases h : a - b < b - a
  · go_enter Try.func95, Try.ntmps95
    go_wp2
    go_ret
    exact ⟨ret_int (by unfold distI; omega), rfl⟩
  · go_enter Try.func95, Try.ntmps95
    go_wp2
    go_ret
    exact ⟨ret_int (by unfold distI; omega), rfl⟩
theorem distance_is {a b d : Int} (h : distI a b = d) (w : World) (h0 : 0 ≤ a) (h1 : a ≤ 3000) (h2 : 0 ≤ b) (h3 : b ≤ 3000) : Calls Try.prog 95 #[.int .i64 a, .int .i64 b] w fun e w' => e = .returned (.int .i64 d) ∧ w = w' := h ▸ distance_any a b w h0 h1 h2 h3
set_option maxRecDepth 100000 in
set_option maxHeartbeats 2000000 in
theorem spanTime_any (L : List Support) (C : List Crew) (P : List Int) (A0 A1 A2 : Option Addr) (c0 c1 c2 : Nat) (crew at_ span : Nat) (c : Crew) (w : World) (hg : goodR L C P = true) (hc : C[crew]? = some c) (ha : at_ < L.length) (hs : span < P.length) (r0 : Rd Support.enc 3 w.heap.size w A0 L) (r1 : Rd Crew.enc 3 w.heap.size w A1 C) (r2 : Rd encI 1 w.heap.size w A2 P) :
    Calls Try.prog 84 #[.agg #[.slice A0 L.length c0, .slice A1 C.length c1, .slice A2 P.length c2], .int .i64 crew, .int .i64 at_, .int .i64 span] w fun e w' => e = .returned (.tuple #[.int .i64 (spanS L c P at_ span), .int .i64 (spanN L at_ span : Nat)]) ∧ Below w.heap.size w w' := by
  obtain ⟨hl, hcl, hpl⟩ := goodR_len hg
  have hcr : crew < C.length := (List.getElem?_eq_some_iff.1 hc).1
  obtain ⟨b0, o0, rfl, _, h0⟩ := Support.rd_at r0 (by intro h; subst h; simp at ha)
  obtain ⟨b1, o1, rfl, _, h1⟩ := Crew.rd_at r1 (by intro h; subst h; simp at hcr)
  obtain ⟨b2, o2, rfl, _, h2⟩ := rd_int r2 (by intro h; subst h; simp at hs)
  have ga := List.getElem?_eq_getElem ha
  have gs := List.getElem?_eq_getElem (show span < L.length by omega)
  have gn := List.getElem?_eq_getElem (show span + 1 < L.length by omega)
  have gp := List.getElem?_eq_getElem hs
  obtain ⟨xa, _, _⟩ := h0 at_ _ ga
  obtain ⟨xs, _, _⟩ := h0 span _ gs
  obtain ⟨xn, _, _⟩ := h0 (span + 1) _ gn
  obtain ⟨y0, y1, y2⟩ := h1 crew _ hc
  have xp := h2 span _ gp
  obtain ⟨pa0, pa1⟩ := goodR_at hg ga
  obtain ⟨ps0, ps1⟩ := goodR_at hg gs
  obtain ⟨pn0, pn1⟩ := goodR_at hg gn
  obtain ⟨pp0, pp1⟩ := goodR_ppl hg gp
  obtain ⟨_, ⟨pc0, pc1⟩, pe0, pe1⟩ := goodR_crew hg hc
  have HLo := hide (show lowT L at_ span = distI L[at_].at_ L[span].at_ by simp [lowT, posAt, ga, gs])
  have HHi := hide (show lowT L at_ (span + 1) = distI L[at_].at_ L[span + 1].at_ by simp [lowT, posAt, ga, gn])
  have HPP := hide (show P.getD span 0 = P[span] by simp [List.getD, gp])
  generalize L[at_].at_ = ta at *
  generalize L[span].at_ = ts at *
  generalize L[span + 1].at_ = tn at *
  generalize P[span] = pp at *
  clear ga gs gn gp h0 h1 h2 r0 r1 r2 hc hg
  obtain ⟨d1l, d1h⟩ := distI_bd pa0 pa1 ps0 ps1
  obtain ⟨d2l, d2h⟩ := distI_bd pa0 pa1 pn0 pn1
  obtain ⟨m1l, m1h⟩ := mul_bd2 (by omega) pc1 d1l d1h
  obtain ⟨m2l, m2h⟩ := mul_bd2 (by omega) pc1 d2l d2h
  obtain ⟨m3l, m3h⟩ := mul_bd2 (by omega) pe1 pp0 pp1
  have hia : (at_ : Int) < (L.length : Int) := by omega
  have his : (span : Int) < (L.length : Int) := by omega
  have hin : (span : Int) + 1 < (L.length : Int) := by omega
  have hip : (span : Int) < (P.length : Int) := by omega
  have hic : (crew : Int) < (C.length : Int) := by omega
  have hsp1 : IntKind.i64.wrap ((span : Int) + 1) = (span : Int) + 1 := by rw [IntKind.wrap_i64]; omega
  have hsp2 : (0 : Int) ≤ (span : Int) + 1 := by omega
  have hsp3 : ((span : Int) + 1).toNat = span + 1 := by omega
  have HSL := hide (show ∀ b, decide (distI ta ts ≤ distI ta tn) = b → spanB L at_ span = b from fun b hb => by rw [spanB, HLo.out, HHi.out]; exact hb)
  have hb1 : Below w.heap.size w (w.alloc (.cells #[.slice (some ⟨b0, o0, none⟩) L.length c0, .slice (some ⟨b1, o1, none⟩) C.length c1, .slice (some ⟨b2, o2, none⟩) P.length c2] 82)) := (Below.refl _ _).alloc (Nat.le_refl _) _
  have hb2 : Below w.heap.size w ((w.alloc (.cells #[.slice (some ⟨b0, o0, none⟩) L.length c0, .slice (some ⟨b1, o1, none⟩) C.length c1, .slice (some ⟨b2, o2, none⟩) P.length c2] 82)).alloc (.cells #[.int .i64 c.support, .int .i64 c.pace, .int .i64 c.each] 67)) := hb1.alloc (by simp) _
  have v0 := below_cell hb1 y0; have v1 := below_cell hb1 y1; have v2 := below_cell hb1 y2
  have qa := after_cell (below_cell hb2 xa); have qs := after_cell (below_cell hb2 xs); have qn := after_cell (below_cell hb2 xn)
  have u0 := after_cell (CF.alloc (CF.new w #[.slice (some ⟨b0, o0, none⟩) L.length c0, .slice (some ⟨b1, o1, none⟩) C.length c1, .slice (some ⟨b2, o2, none⟩) P.length c2] 82 w.heap.size 0 _ rfl rfl) (.cells #[.int .i64 c.support, .int .i64 c.pace, .int .i64 c.each] 67)).1
  have zp := below_cell hb2 xp
  have z2 := (CF.alloc (CF.new w #[.slice (some ⟨b0, o0, none⟩) L.length c0, .slice (some ⟨b1, o1, none⟩) C.length c1, .slice (some ⟨b2, o2, none⟩) P.length c2] 82 w.heap.size 2 _ rfl rfl) (.cells #[.int .i64 c.support, .int .i64 c.pace, .int .i64 c.each] 67)).1
  have k1 := (CF.new (w.alloc (.cells #[.slice (some ⟨b0, o0, none⟩) L.length c0, .slice (some ⟨b1, o1, none⟩) C.length c1, .slice (some ⟨b2, o2, none⟩) P.length c2] 82)) #[.int .i64 c.support, .int .i64 c.pace, .int .i64 c.each] 67 (w.heap.size + 1) 1 _ (by simp) rfl).1
  have k2 := (CF.new (w.alloc (.cells #[.slice (some ⟨b0, o0, none⟩) L.length c0, .slice (some ⟨b1, o1, none⟩) C.length c1, .slice (some ⟨b2, o2, none⟩) P.length c2] 82)) #[.int .i64 c.support, .int .i64 c.pace, .int .i64 c.each] 67 (w.heap.size + 1) 2 _ (by simp) rfl).1
  clear xa xs xn xp y0 y1 y2
  by_cases hlh : distI ta ts ≤ distI ta tn
  · have hdd : decide (distI ta ts ≤ distI ta tn) = true := by simp; omega
    have HB := hide (HSL.out _ hdd)
    have HS := hide (show spanS L c P at_ span = c.pace * distI ta ts + c.each * pp by rw [spanS, HB.out, HPP.out, HLo.out]; rfl)
    have HN := hide (show spanN L at_ span = span + 1 by rw [spanN, HB.out]; rfl)
    go_enter Try.func84, Try.ntmps84
    go_wp2_with fail
    refine wp_region_after (by kernel_rfl) (by kernel_rfl) ?_
    repeat (go_big_quiet_step ((go_at_call 95; exact Calls.after_same (distance_any _ _ _ (by omega) (by omega) (by omega) (by omega)))))
    refine wpQuiet_nil ?_
    rintro w3 ⟨⟨_, hb3⟩, rfl⟩
    have rp := after_cell (below_cell hb3 zp); have r2 := after_cell (below_cell hb3 z2); have r3 := after_cell (below_cell hb3 k1); have r4 := after_cell (below_cell hb3 k2)
    have e1 : IntKind.i64.wrap (c.pace * distI ta ts) = c.pace * distI ta ts := by rw [IntKind.wrap_i64]; omega
    have e2 : IntKind.i64.wrap (c.each * pp) = c.each * pp := by rw [IntKind.wrap_i64]; omega
    have e3 : IntKind.i64.wrap (c.pace * distI ta ts + c.each * pp) = c.pace * distI ta ts + c.each * pp := by rw [IntKind.wrap_i64]; omega
    go_wp2_with fail
    refine wp_region_after (by kernel_rfl) (by kernel_rfl) ?_
    repeat (go_big_quiet_step (fail))
    refine wpQuiet_nil ?_
    rintro w4 ⟨⟨_, hb4⟩, rfl⟩
    go_wp2_with fail
    go_ret2
    rw [HS.out, HN.out]
    exact ⟨ret_2 rfl (in_eq (by simp)), below_step (below_step hb2 hb3 (by simp)) hb4 (by have := hb3.size; simp at this; omega)⟩
  · have hdd : decide (distI ta ts ≤ distI ta tn) = false := by simp; omega
    have HB := hide (HSL.out _ hdd)
    have HS := hide (show spanS L c P at_ span = c.pace * distI ta tn + c.each * pp by rw [spanS, HB.out, HPP.out, HHi.out]; rfl)
    have HN := hide (show spanN L at_ span = span by rw [spanN, HB.out]; rfl)
    go_enter Try.func84, Try.ntmps84
    go_wp2_with fail
    refine wp_region_after (by kernel_rfl) (by kernel_rfl) ?_
    repeat (go_big_quiet_step ((go_at_call 95; exact Calls.after_same (distance_any _ _ _ (by omega) (by omega) (by omega) (by omega)))))
    refine wpQuiet_nil ?_
    rintro w3 ⟨⟨_, hb3⟩, rfl⟩
    have rp := after_cell (below_cell hb3 zp); have r2 := after_cell (below_cell hb3 z2); have r3 := after_cell (below_cell hb3 k1); have r4 := after_cell (below_cell hb3 k2)
    have e1 : IntKind.i64.wrap (c.pace * distI ta tn) = c.pace * distI ta tn := by rw [IntKind.wrap_i64]; omega
    have e2 : IntKind.i64.wrap (c.each * pp) = c.each * pp := by rw [IntKind.wrap_i64]; omega
    have e3 : IntKind.i64.wrap (c.pace * distI ta tn + c.each * pp) = c.pace * distI ta tn + c.each * pp := by rw [IntKind.wrap_i64]; omega
    go_wp2_with fail
    refine wp_region_after (by kernel_rfl) (by kernel_rfl) ?_
    repeat (go_big_quiet_step (fail))
    refine wpQuiet_nil ?_
    rintro w4 ⟨⟨_, hb4⟩, rfl⟩
    go_wp2_with fail
    go_ret2
    rw [HS.out, HN.out]
    exact ⟨ret_2 rfl (in_eq (by simp)), below_step (below_step hb2 hb3 (by simp)) hb4 (by have := hb3.size; simp at this; omega)⟩
end Go.Proofs.Ytgfamaopplgfgaa
