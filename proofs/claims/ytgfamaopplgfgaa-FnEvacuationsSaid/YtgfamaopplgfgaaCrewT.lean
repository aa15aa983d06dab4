/- Assignments and their times: both packages. Slices are as the reader gives them. -/
import Derived.Test.YtgfamaopplgfgaaNear
import Derived.Test.YtgfamaopplgfgaaLibInt
import Derived.Test.YtgfamaopplgfgaaPush
namespace Go.Proofs.Ytgfamaopplgfgaa
open Go Go.RowKit
set_option linter.unusedVariables false
def asB (L : List Support) (C : List Crew) (P S : List Int) : Bool := goodR L C P && (decide (S.length = P.length) && S.all fun n => inB n 0 ((C.length : Int) - 1))
theorem asB_good {L : List Support} {C : List Crew} {P S : List Int} (h : asB L C P S = true) : goodR L C P = true := by simp only [asB, Bool.and_eq_true] at h; exact h.1
theorem asB_len {L : List Support} {C : List Crew} {P S : List Int} (h : asB L C P S = true) : S.length = P.length := by simp only [asB, Bool.and_eq_true, decide_eq_true_eq] at h; exact h.2.1
def ctStep (L : List Support) (P : List Int) (c : Crew) (crew : Int) (z : Nat × Int) (k : Nat) (n : Int) : Nat × Int := if n = crew then (spanN L z.1 k, z.2 + spanS L c P z.1 k) else z
def ctUp (L : List Support) (P S : List Int) (c : Crew) (crew : Int) : Nat → Nat × Int
  | 0 => (c.support.toNat, 0)
  | k + 1 => match S[k]? with
    | some n => ctStep L P c crew (ctUp L P S c crew k) k n
    | none => ctUp L P S c crew k
theorem ct_step {L : List Support} {P S : List Int} {c : Crew} {crew : Int} {k : Nat} {n : Int} (hk : S[k]? = some n) : ctUp L P S c crew (k + 1) = ctStep L P c crew (ctUp L P S c crew k) k n := by simp only [ctUp, hk]
theorem ct_yes {L : List Support} {P : List Int} {c : Crew} {crew n : Int} {z : Nat × Int} {a k : Nat} {s : Int} (hz : z = (a, s)) (h : n = crew) : ctStep L P c crew z k n = (spanN L a k, s + spanS L c P a k) := by subst hz; simp only [ctStep]; rw [if_pos h]
theorem ct_no {L : List Support} {P : List Int} {c : Crew} {crew n : Int} {z : Nat × Int} {a k : Nat} {s : Int} (hz : z = (a, s)) (h : n ≠ crew) : ctStep L P c crew z k n = (a, s) := by subst hz; simp only [ctStep]; rw [if_neg h]
theorem spanN_lt {L : List Support} {P : List Int} (a k : Nat) (hk : k < P.length) (hp : P.length + 1 = L.length) : spanN L a k < L.length := by unfold spanN; split <;> omega
def crewT (L : List Support) (C : List Crew) (P S : List Int) (k : Nat) : Int := match C[k]? with
  | some c => (ctUp L P S c k S.length).2
  | none => 0
theorem ct_bd {L : List Support} {C : List Crew} {P S : List Int} (h : asB L C P S = true) {k : Nat} {c : Crew} (hc : C[k]? = some c) : ∀ j, 0 ≤ (ctUp L P S c k j).2 ∧ (ctUp L P S c k j).2 ≤ 100000 * j
  | 0 => by simp [ctUp]
  | j + 1 => by
    have ih := ct_bd h hc j
    simp only [ctUp]
    cases hs : S[j]? with
    | none => simp only; omega
    | some n =>
      have := spanS_bd (asB_good h) hc (ctUp L P S c k j).1 j
      simp only [ctStep]
      split
      · simp only; omega
      · omega
theorem crewT_bd {L : List Support} {C : List Crew} {P S : List Int} (h : asB L C P S = true) (k : Nat) : 0 ≤ crewT L C P S k ∧ crewT L C P S k ≤ 600000 := by
  unfold crewT
  cases hc : C[k]? with
  | none => simp
  | some c =>
    have := ct_bd h hc S.length
    have := asB_len h
    have := goodR_len (asB_good h)
    simp only
    omega

set_option maxHeartbeats 1000000 in
theorem isAs_any (L : List Support) (C : List Crew) (P S : List Int) (A0 A1 A2 A3 : Option Addr) (c0 c1 c2 c3 : Nat) (w : World) (r0 : Rd Support.enc 3 w.heap.size w A0 L) (ok0 : ∀ c ∈ L, c.Ok) (l0 : L.length ≤ maxLen) (r1 : Rd Crew.enc 3 w.heap.size w A1 C) (l1 : C.length ≤ maxLen) (r2 : Rd encI 1 w.heap.size w A2 P) (l2 : P.length ≤ maxLen) (r3 : Rd encI 1 w.heap.size w A3 S) (l3 : S.length ≤ maxLen) :
    Calls Try.prog 65 #[.agg #[.slice A0 L.length c0, .slice A1 C.length c1, .slice A2 P.length c2], .slice A3 S.length c3] w fun e w' => e = .returned (.bool (asB L C P S)) ∧ Below w.heap.size w w' := by
  have hba : Below w.heap.size w (w.alloc (.cells #[.slice A0 L.length c0, .slice A1 C.length c1, .slice A2 P.length c2] 82)) := (Below.refl _ _).alloc (Nat.le_refl _) _
  have z0 : (w.alloc (.cells #[.slice A0 L.length c0, .slice A1 C.length c1, .slice A2 P.length c2] 82)).cell? ⟨w.heap.size, 0, none⟩ = some (.slice A0 L.length c0) := (CF.new w #[.slice A0 L.length c0, .slice A1 C.length c1, .slice A2 P.length c2] 82 w.heap.size 0 _ rfl rfl).1
  have z1 : (w.alloc (.cells #[.slice A0 L.length c0, .slice A1 C.length c1, .slice A2 P.length c2] 82)).cell? ⟨w.heap.size, 1, none⟩ = some (.slice A1 C.length c1) := (CF.new w #[.slice A0 L.length c0, .slice A1 C.length c1, .slice A2 P.length c2] 82 w.heap.size 1 _ rfl rfl).1
  have z2 : (w.alloc (.cells #[.slice A0 L.length c0, .slice A1 C.length c1, .slice A2 P.length c2] 82)).cell? ⟨w.heap.size, 2, none⟩ = some (.slice A2 P.length c2) := (CF.new w #[.slice A0 L.length c0, .slice A1 C.length c1, .slice A2 P.length c2] 82 w.heap.size 2 _ rfl rfl).1
  have l3h := hide l3; have l1h := hide l1
  unfold maxLen at l1 l2 l3
  cases h : goodR L C P
  · go_enter Try.func65, Try.ntmps65
    go_wp2_with (go_at_call 56; refine (okR_is h _ _ _ _ _ _ _ (r0.later hba) ok0 l0 (r1.later hba) l1h.out (r2.later hba) (by unfold maxLen; omega)).mono ?_; rintro e w1 ⟨rfl, hb1⟩; have y0 := below_cell hb1 z0; have y1 := below_cell hb1 z1; have y2 := below_cell hb1 z2)
    go_ret
    exact ⟨ret_bool (by simp [asB, h]), below_new' hb1⟩
  have H := hide h; clear h
  by_cases he : S.length = P.length
  rotate_left
  · have he' : ((S.length : Int) == (P.length : Int)) = false := by simp; omega
    have HE := hide he; clear he
    go_enter Try.func65, Try.ntmps65
    go_wp2_with (go_at_call 56; refine (okR_is H.out _ _ _ _ _ _ _ (r0.later hba) ok0 l0 (r1.later hba) l1h.out (r2.later hba) (by unfold maxLen; omega)).mono ?_; rintro e w1 ⟨rfl, hb1⟩; have y0 := below_cell hb1 z0; have y1 := below_cell hb1 z1; have y2 := below_cell hb1 z2)
    go_ret
    exact ⟨ret_bool (by simp [asB, HE.out]), below_new' hb1⟩
  have he' : ((S.length : Int) == (P.length : Int)) = true := by simp; omega
  have HE := hide he; clear he
  cases hq : (S.all fun n => inB n 0 ((C.length : Int) - 1))
  all_goals
    go_enter Try.func65, Try.ntmps65
    go_wp2_with (first | (go_at_call 56; refine (okR_is H.out _ _ _ _ _ _ _ (r0.later hba) ok0 l0 (r1.later hba) l1h.out (r2.later hba) (by unfold maxLen; omega)).mono ?_; rintro e w1 ⟨rfl, hb1⟩; have y0 := below_cell hb1 z0; have y1 := below_cell hb1 z1; have y2 := below_cell hb1 z2) | (go_at_call 93; refine (allIn_is hq _ _ _ ((r3.later hba).later hb1) l3h.out).mono ?_; rintro e w2 ⟨rfl, rfl⟩))
    go_ret
    exact ⟨ret_bool (by simp only [asB, H.out, decide_eq_true HE.out, hq]; rfl), below_new' hb1⟩
theorem isAs_is {L : List Support} {C : List Crew} {P S : List Int} {b : Bool} (h : asB L C P S = b) (A0 A1 A2 A3 : Option Addr) (c0 c1 c2 c3 : Nat) (w : World) (r0 : Rd Support.enc 3 w.heap.size w A0 L) (ok0 : ∀ c ∈ L, c.Ok) (l0 : L.length ≤ maxLen) (r1 : Rd Crew.enc 3 w.heap.size w A1 C) (l1 : C.length ≤ maxLen) (r2 : Rd encI 1 w.heap.size w A2 P) (l2 : P.length ≤ maxLen) (r3 : Rd encI 1 w.heap.size w A3 S) (l3 : S.length ≤ maxLen) :
    Calls Try.prog 65 #[.agg #[.slice A0 L.length c0, .slice A1 C.length c1, .slice A2 P.length c2], .slice A3 S.length c3] w fun e w' => e = .returned (.bool b) ∧ Below w.heap.size w w' := h ▸ isAs_any L C P S A0 A1 A2 A3 c0 c1 c2 c3 w r0 ok0 l0 r1 l1 r2 l2 r3 l3
set_option maxHeartbeats 1000000 in
theorem l19Assigned_any (L : List Support) (C : List Crew) (P S : List Int) (A0 A1 A2 A3 : Option Addr) (c0 c1 c2 c3 : Nat) (w : World) (r0 : Rd Support.enc 3 w.heap.size w A0 L) (ok0 : ∀ c ∈ L, c.Ok) (l0 : L.length ≤ maxLen) (r1 : Rd Crew.enc 3 w.heap.size w A1 C) (l1 : C.length ≤ maxLen) (r2 : Rd encI 1 w.heap.size w A2 P) (l2 : P.length ≤ maxLen) (r3 : Rd encI 1 w.heap.size w A3 S) (l3 : S.length ≤ maxLen) :
    Calls Try.prog 68 #[.slice A0 L.length c0, .slice A1 C.length c1, .slice A2 P.length c2, .slice A3 S.length c3] w fun e w' => e = .returned (.bool (asB L C P S)) ∧ Below w.heap.size w w' := by
  have l1h := hide l1; have l2h := hide l2
  unfold maxLen at l1 l2 l3
  go_enter Try.func68, Try.ntmps68
  go_wp2_with fail
  go_loop [9] (fun i => ∃ k : Nat, k ≤ S.length ∧ i = .int .i64 k ∧ Hid (∀ (i : Nat) (n : Int), i < k → S[i]? = some n → inB n 0 ((C.length : Int) - 1) = true)) (fun i => S.length - (intOf i).toNat)
  case atStart => exact ⟨0, Nat.zero_le _, rfl, hide (fun i n hi => absurd hi (Nat.not_lt_zero i))⟩
  case round =>
    obtain ⟨k, hk, rfl, hp⟩ := hrel
    by_cases hlt : k < S.length
    · obtain ⟨b, o, rfl, _, hc⟩ := rd_int r3 (by intro h; rw [h] at hlt; simp at hlt)
      have hg := List.getElem?_eq_getElem hlt
      have x0 := hc k _ hg
      generalize S[k] = n at *
      have HG := hide hg; clear hg hc r3
      have hki : (k : Int) < (S.length : Int) := by omega
      cases hn : inB n 0 ((C.length : Int) - 1)
      · go_wp2_with (go_at_call 73; refine (l1In_is hn _).mono ?_; rintro e w1 ⟨rfl, rfl⟩)
        go_ret
        exact ⟨ret_bool (by simp only [asB, all_no HG.out hn, Bool.and_false]), Below.refl _ _⟩
      · go_wp2_with (go_at_call 73; refine (l1In_is hn _).mono ?_; rintro e w1 ⟨rfl, rfl⟩)
        go_round
        case rel => exact ⟨k + 1, by omega, by go_num, hide (all_step hp.out HG.out hn)⟩
        case measure => simp [intOf]; omega
    · have HA := hide (show (S.all fun n => inB n 0 ((C.length : Int) - 1)) = true from all_yes (by omega) hp.out)
      cases h : goodR L C P
      · go_wp2_with (go_at_call 58; refine (l19Good_is h _ _ _ _ _ _ _ r0 ok0 l0 r1 l1h.out r2 l2h.out).mono ?_; rintro e w1 ⟨rfl, hb1⟩)
        go_ret
        exact ⟨ret_bool (by simp [asB, h]), hb1⟩
      · by_cases he : S.length = P.length
        · have he' : ((S.length : Int) == (P.length : Int)) = true := by simp; omega
          have HE := hide he; clear he
          have H := hide h; clear h
          go_wp2_with (go_at_call 58; refine (l19Good_is H.out _ _ _ _ _ _ _ r0 ok0 l0 r1 l1h.out r2 l2h.out).mono ?_; rintro e w1 ⟨rfl, hb1⟩)
          go_ret
          exact ⟨ret_bool (by simp only [asB, HA.out, H.out, decide_eq_true HE.out]; rfl), hb1⟩
        · have he' : ((S.length : Int) == (P.length : Int)) = false := by simp; omega
          have HE := hide he; clear he
          have H := hide h; clear h
          go_wp2_with (go_at_call 58; refine (l19Good_is H.out _ _ _ _ _ _ _ r0 ok0 l0 r1 l1h.out r2 l2h.out).mono ?_; rintro e w1 ⟨rfl, hb1⟩)
          go_ret
          exact ⟨ret_bool (by simp only [asB, decide_eq_false HE.out, Bool.false_and, Bool.and_false]), hb1⟩
theorem l19Assigned_is {L : List Support} {C : List Crew} {P S : List Int} {b : Bool} (h : asB L C P S = b) (A0 A1 A2 A3 : Option Addr) (c0 c1 c2 c3 : Nat) (w : World) (r0 : Rd Support.enc 3 w.heap.size w A0 L) (ok0 : ∀ c ∈ L, c.Ok) (l0 : L.length ≤ maxLen) (r1 : Rd Crew.enc 3 w.heap.size w A1 C) (l1 : C.length ≤ maxLen) (r2 : Rd encI 1 w.heap.size w A2 P) (l2 : P.length ≤ maxLen) (r3 : Rd encI 1 w.heap.size w A3 S) (l3 : S.length ≤ maxLen) :
    Calls Try.prog 68 #[.slice A0 L.length c0, .slice A1 C.length c1, .slice A2 P.length c2, .slice A3 S.length c3] w fun e w' => e = .returned (.bool b) ∧ Below w.heap.size w w' := h ▸ l19Assigned_any L C P S A0 A1 A2 A3 c0 c1 c2 c3 w r0 ok0 l0 r1 l1 r2 l2 r3 l3
set_option maxRecDepth 100000 in
set_option maxHeartbeats 2000000 in
theorem crewTime_any (L : List Support) (C : List Crew) (P S : List Int) (A0 A1 A2 A3 : Option Addr) (c0 c1 c2 c3 crew : Nat) (w : World) (ha : asB L C P S = true) (hcr : crew < C.length) (r0 : Rd Support.enc 3 w.heap.size w A0 L) (r1 : Rd Crew.enc 3 w.heap.size w A1 C) (r2 : Rd encI 1 w.heap.size w A2 P) (r3 : Rd encI 1 w.heap.size w A3 S) :
    Calls Try.prog 66 #[.agg #[.slice A0 L.length c0, .slice A1 C.length c1, .slice A2 P.length c2], .slice A3 S.length c3, .int .i64 crew] w fun e w' => e = .returned (.int .i64 (crewT L C P S crew)) ∧ Below w.heap.size w w' := by
  have hg := asB_good ha
  obtain ⟨hl, hcl, hpl⟩ := goodR_len hg
  have hsl := asB_len ha
  obtain ⟨bb, oo, rfl, _, hcc⟩ := Crew.rd_at r1 (by intro h; subst h; simp at hcr)
  have gc := List.getElem?_eq_getElem hcr
  obtain ⟨x0, x1, x2⟩ := hcc crew _ gc
  obtain ⟨⟨cs0, cs1⟩, _⟩ := goodR_crew hg gc
  have HT := hide (show crewT L C P S crew = (ctUp L P S C[crew] crew S.length).2 by simp [crewT, gc])
  have hbd := hide (fun j => ct_bd ha gc j)
  have HSB := hide (fun i j => spanS_bd hg gc i j)
  generalize C[crew] = c at *
  obtain ⟨sp, pa, ea⟩ := c
  simp only at x0 x1 x2 cs0 cs1
  obtain ⟨s, rfl⟩ := Int.eq_ofNat_of_zero_le cs0
  have hsL : s < L.length := by omega
  have hcri : (crew : Int) < (C.length : Int) := by omega
  have HGC := hide gc; have HG := hide hg; have HSL := hide hsl
  clear gc hg hcc cs0 cs1 ha
  have hba : Below w.heap.size w (w.alloc (.cells #[.slice A0 L.length c0, .slice (some ⟨bb, oo, none⟩) C.length c1, .slice A2 P.length c2] 82)) := (Below.refl _ _).alloc (Nat.le_refl _) _
  have z0 : (w.alloc (.cells #[.slice A0 L.length c0, .slice (some ⟨bb, oo, none⟩) C.length c1, .slice A2 P.length c2] 82)).cell? ⟨w.heap.size, 0, none⟩ = some (.slice A0 L.length c0) := (CF.new w #[.slice A0 L.length c0, .slice (some ⟨bb, oo, none⟩) C.length c1, .slice A2 P.length c2] 82 w.heap.size 0 _ rfl rfl).1
  have z1 : (w.alloc (.cells #[.slice A0 L.length c0, .slice (some ⟨bb, oo, none⟩) C.length c1, .slice A2 P.length c2] 82)).cell? ⟨w.heap.size, 1, none⟩ = some (.slice (some ⟨bb, oo, none⟩) C.length c1) := (CF.new w #[.slice A0 L.length c0, .slice (some ⟨bb, oo, none⟩) C.length c1, .slice A2 P.length c2] 82 w.heap.size 1 _ rfl rfl).1
  have z2 : (w.alloc (.cells #[.slice A0 L.length c0, .slice (some ⟨bb, oo, none⟩) C.length c1, .slice A2 P.length c2] 82)).cell? ⟨w.heap.size, 2, none⟩ = some (.slice A2 P.length c2) := (CF.new w #[.slice A0 L.length c0, .slice (some ⟨bb, oo, none⟩) C.length c1, .slice A2 P.length c2] 82 w.heap.size 2 _ rfl rfl).1
  have v0 := below_cell hba x0
  have hslp : S.length ≤ 6 := by have := HSL.out; omega
  clear hsl
  go_enter Try.func66, Try.ntmps66
  go_wp2_with fail
  go_loopw [21, 7, 8] (fun i x y wr => ∃ (k a : Nat) (m : Int), k ≤ S.length ∧ i = .int .i64 k ∧ x = .int .i64 a ∧ y = .int .i64 m ∧ a < L.length ∧ Hid (ctUp L P S ⟨(s : Nat), pa, ea⟩ crew k = (a, m)) ∧ Below (w.alloc (.cells #[.slice A0 L.length c0, .slice (some ⟨bb, oo, none⟩) C.length c1, .slice A2 P.length c2] 82)).heap.size (w.alloc (.cells #[.slice A0 L.length c0, .slice (some ⟨bb, oo, none⟩) C.length c1, .slice A2 P.length c2] 82)) wr) (fun i _ _ _ => S.length - (intOf i).toNat)
  case atStart => exact ⟨0, s, 0, Nat.zero_le _, rfl, rfl, rfl, hsL, hide (by simp [ctUp]), Below.refl _ _⟩
  case round =>
    obtain ⟨k, a, m, hk, rfl, rfl, rfl, haL, hq, hbel⟩ := hrel
    have BW := below_step hba hbel (Nat.le_refl _)
    have y0 := below_cell hbel z0
    have y1 := below_cell hbel z1
    have y2 := below_cell hbel z2
    have hmb := hbd.out k
    rw [hq.out] at hmb
    obtain ⟨hm0, hm9⟩ := hmb
    simp only at hm0 hm9
    by_cases hlt : k < S.length
    · obtain ⟨b, o, rfl, _, hc⟩ := rd_int r3 (by intro h; rw [h] at hlt; simp at hlt)
      have hget := List.getElem?_eq_getElem hlt
      have n0 := below_cell BW (hc k _ hget)
      have HST := hide (@ct_step L P S ⟨(s : Nat), pa, ea⟩ crew k _ hget)
      generalize S[k] = n at *
      have hki : (k : Int) < (S.length : Int) := by omega
      have hkP : k < P.length := by have := HSL.out; omega
      clear hc hget
      by_cases hn : n = (crew : Int)
      · have hn' : (n == (crew : Int)) = true := by simp [hn]
        have HN := hide (show ctUp L P S ⟨(s : Nat), pa, ea⟩ crew (k + 1) = (spanN L a k, m + spanS L ⟨(s : Nat), pa, ea⟩ P a k) by rw [HST.out]; exact ct_yes hq.out hn)
        have hNL := spanN_lt (L := L) a k hkP hpl
        obtain ⟨hv0, hv9⟩ := HSB.out a k
        obtain ⟨v, hv⟩ : ∃ v, spanS L ⟨(s : Nat), pa, ea⟩ P a k = v := ⟨_, rfl⟩
        rw [hv] at hv0 hv9
        have HVV := hide hv; clear hv hn
        go_wp2_with (go_at_call 84; refine (spanTime_v HVV.out _ _ _ _ _ _ crew _ HG.out HGC.out haL hkP (r0.later BW) (r1.later BW) (r2.later BW)).mono ?_; rintro e w3 ⟨rfl, hb3⟩)
        go_roundw
        case rel => exact ⟨k + 1, spanN L a k, m + v, by omega, by go_num, rfl, rfl, hNL, hide (by rw [HN.out, HVV.out]), below_step hbel hb3 (Nat.le_refl _)⟩
        case measure => simp [intOf] <;> omega
      · have hn' : (n == (crew : Int)) = false := by simp [hn]
        have HN := hide (show ctUp L P S ⟨(s : Nat), pa, ea⟩ crew (k + 1) = (a, m) by rw [HST.out]; exact ct_no hq.out hn)
        clear hn
        go_wp2_with fail
        go_roundw
        case rel => exact ⟨k + 1, a, m, by omega, by go_num, rfl, rfl, haL, HN, hbel⟩
        case measure => simp [intOf] <;> omega
    · obtain rfl : k = S.length := by omega
      go_wp2_with fail
      go_ret
      exact ⟨ret_int (by rw [HT.out, hq.out]), BW⟩
set_option maxRecDepth 100000 in
set_option maxHeartbeats 2000000 in
theorem l19Crew_any (L : List Support) (C : List Crew) (P S : List Int) (A0 A1 A2 A3 : Option Addr) (c0 c1 c2 c3 crew : Nat) (w : World) (ha : asB L C P S = true) (hcr : crew < C.length) (r0 : Rd Support.enc 3 w.heap.size w A0 L) (r1 : Rd Crew.enc 3 w.heap.size w A1 C) (r2 : Rd encI 1 w.heap.size w A2 P) (r3 : Rd encI 1 w.heap.size w A3 S) :
    Calls Try.prog 74 #[.slice A0 L.length c0, .slice A1 C.length c1, .slice A2 P.length c2, .slice A3 S.length c3, .int .i64 crew] w fun e w' => e = .returned (.int .i64 (crewT L C P S crew)) ∧ Below w.heap.size w w' := by
  have hg := asB_good ha
  obtain ⟨hl, hcl, hpl⟩ := goodR_len hg
  have hsl := asB_len ha
  obtain ⟨bb, oo, rfl, _, hcc⟩ := Crew.rd_at r1 (by intro h; subst h; simp at hcr)
  have gc := List.getElem?_eq_getElem hcr
  obtain ⟨x0, x1, x2⟩ := hcc crew _ gc
  obtain ⟨⟨cs0, cs1⟩, _⟩ := goodR_crew hg gc
  have HT := hide (show crewT L C P S crew = (ctUp L P S C[crew] crew S.length).2 by simp [crewT, gc])
  have hbd := hide (fun j => ct_bd ha gc j)
  have HSB := hide (fun i j => spanS_bd hg gc i j)
  generalize C[crew] = c at *
  obtain ⟨sp, pa, ea⟩ := c
  simp only at x0 x1 x2 cs0 cs1
  obtain ⟨s, rfl⟩ := Int.eq_ofNat_of_zero_le cs0
  have hsL : s < L.length := by omega
  have hcri : (crew : Int) < (C.length : Int) := by omega
  have HGC := hide gc; have HG := hide hg; have HSL := hide hsl
  clear gc hg hcc cs0 cs1 ha
  have hba : Below w.heap.size w w := Below.refl _ _
  have u0 := after_cell x0
  have hslp : S.length ≤ 6 := by have := HSL.out; omega
  clear hsl
  go_enter Try.func74, Try.ntmps74
  go_wp2_with fail
  refine wp_region_after (by kernel_rfl) (by kernel_rfl) ?_
  repeat (go_big_quiet_step (fail))
  refine wpQuiet_nil ?_
  rintro w0 ⟨⟨_, hb0⟩, rfl⟩
  replace hba := hb0
  go_wp2_with fail
  go_loopw [13, 12, 11] (fun i x y wr => ∃ (k a : Nat) (m : Int), k ≤ S.length ∧ i = .int .i64 k ∧ x = .int .i64 a ∧ y = .int .i64 m ∧ a < L.length ∧ Hid (ctUp L P S ⟨(s : Nat), pa, ea⟩ crew k = (a, m)) ∧ Below w0.heap.size w0 wr) (fun i _ _ _ => S.length - (intOf i).toNat)
  case atStart => exact ⟨0, s, 0, Nat.zero_le _, rfl, rfl, rfl, hsL, hide (by simp [ctUp]), Below.refl _ _⟩
  case round =>
    obtain ⟨k, a, m, hk, rfl, rfl, rfl, haL, hq, hbel⟩ := hrel
    have BW := below_step hba hbel (Nat.le_refl _)
    have hmb := hbd.out k
    rw [hq.out] at hmb
    obtain ⟨hm0, hm9⟩ := hmb
    simp only at hm0 hm9
    by_cases hlt : k < S.length
    · obtain ⟨b, o, rfl, _, hc⟩ := rd_int r3 (by intro h; rw [h] at hlt; simp at hlt)
      have hget := List.getElem?_eq_getElem hlt
      have n0 := below_cell BW (hc k _ hget)
      have HST := hide (@ct_step L P S ⟨(s : Nat), pa, ea⟩ crew k _ hget)
      generalize S[k] = n at *
      have hki : (k : Int) < (S.length : Int) := by omega
      have hkP : k < P.length := by have := HSL.out; omega
      clear hc hget
      by_cases hn : n = (crew : Int)
      · have hn' : (n == (crew : Int)) = true := by simp [hn]
        have HN := hide (show ctUp L P S ⟨(s : Nat), pa, ea⟩ crew (k + 1) = (spanN L a k, m + spanS L ⟨(s : Nat), pa, ea⟩ P a k) by rw [HST.out]; exact ct_yes hq.out hn)
        have hNL := spanN_lt (L := L) a k hkP hpl
        obtain ⟨hv0, hv9⟩ := HSB.out a k
        obtain ⟨v, hv⟩ : ∃ v, spanS L ⟨(s : Nat), pa, ea⟩ P a k = v := ⟨_, rfl⟩
        rw [hv] at hv0 hv9
        have HVV := hide hv; clear hv hn
        have y0 := below_cell BW x0
        have y1 := below_cell BW x1
        have y2 := below_cell BW x2
        go_wp2_with (go_at_call 83; refine (l19Span_v HVV.out _ _ _ _ crew _ HG.out HGC.out haL hkP (r0.later BW) (r2.later BW)).mono ?_; rintro e w3 ⟨rfl, hb3⟩)
        go_roundw
        case rel => exact ⟨k + 1, spanN L a k, m + v, by omega, by go_num, rfl, rfl, hNL, hide (by rw [HN.out, HVV.out]), below_step hbel hb3 (Nat.le_refl _)⟩
        case measure => simp [intOf] <;> omega
      · have hn' : (n == (crew : Int)) = false := by simp [hn]
        have HN := hide (show ctUp L P S ⟨(s : Nat), pa, ea⟩ crew (k + 1) = (a, m) by rw [HST.out]; exact ct_no hq.out hn)
        clear hn
        go_wp2_with fail
        go_roundw
        case rel => exact ⟨k + 1, a, m, by omega, by go_num, rfl, rfl, haL, HN, hbel⟩
        case measure => simp [intOf] <;> omega
    · obtain rfl : k = S.length := by omega
      go_wp2_with fail
      go_ret
      exact ⟨ret_int (by rw [HT.out, hq.out]), BW⟩
end Go.Proofs.Ytgfamaopplgfgaa
