/- The drawers of chapter 19: crews, people, an assignment; a line. -/
import Derived.Test.YtgfamaopplgfgaaDraw
import Derived.Test.YtgfamaopplgfgaaLibCrew
import Derived.Test.YtgfamaopplgfgaaLibSupport
import Derived.Test.YtgfamaopplgfgaaSpan
import Derived.Test.YtgfamaopplgfgaaSetC
import Derived.Test.YtgfamaopplgfgaaApp
namespace Go.Proofs.Ytgfamaopplgfgaa
open Go Go.RowKit
set_option linter.unusedVariables false
set_option maxRecDepth 100000 in
set_option maxHeartbeats 4000000 in
theorem crews_any (B g K : Nat) (w : World) (A0 : Option Addr) (n0 cap0 : Nat) (hn0 : n0 ≤ 50) (h0 : Cur B w g K) (hK : K ≤ 100000) :
    Calls Try.prog 54 #[.pointer (some ⟨g, 0, none⟩), .slice A0 n0 cap0] w (ListPost Crew.enc 3 67 (fun L => L.length ≤ 20) B g (K + 200) w) := by
  have hg0 := h0.lt
  have hb0 : Below w.heap.size w (w.alloc (.cells #[] 67)) := (Below.refl _ _).alloc (Nat.le_refl _) _
  have hown : Own Crew.enc 3 67 w.heap.size (w.alloc (.cells #[] 67)) (.slice (some ⟨w.heap.size, 0, none⟩) 0 0) ([] : List Crew) := own_empty (Nat.le_refl _)
  have hmov : w.grownBy (w.alloc (.cells #[] 67)) (some g) := moved_below hb0
  have hcur := h0.below hb0
  clear hb0 h0
  go_enter Try.func54, Try.ntmps54
  obtain ⟨mx, hmax⟩ : ∃ mx : Int, max (1 : Int) (n0 : Int) = mx := ⟨_, rfl⟩
  have hmx : mx ≤ 200 ∧ -1000000 ≤ mx := by omega
  obtain ⟨hmx0, hmx1⟩ := hmx; have HM := hide hmax; clear hmax
  go_wp2_with (first | (go_at_call 72; refine (pick_any B g _ _ _ (by assumption) (by omega) (by omega) (by omega)).mono ?_; rintro e w1 ⟨j, rfl, hj, hcur, hm1⟩; have hown := own_moved hm1 hg0 hown; have hmov := moved_trans hmov hm1; clear hm1))
  go_loopw [5, 6] (fun l n wr => ∃ (A : Option Addr) (cap z : Nat) (L : List Crew), l = .slice A z cap ∧ L.length = z ∧ Own Crew.enc 3 67 w.heap.size wr (.slice A z cap) L ∧ ∃ m : Nat, n = .int .i64 m ∧ z + m ≤ 3 ∧ Cur B wr g (K + 1 + 3 * z) ∧ w.grownBy wr (some g)) (fun _ n _ => (intOf n).toNat)
  case atStart => exact ⟨_, _, _, [], rfl, rfl, hown, 1 + j, in_eq (by omega), by omega, hcur, hmov⟩
  case round =>
    clear hown hcur hmov hj
    obtain ⟨A, cap, z, L, rfl, hL, hown, m, rfl, hm, hcur, hmov⟩ := hrel
    subst hL
    by_cases h0 : m = 0
    · subst h0
      have hz : ((0 : Nat) : Int) = 0 := rfl
      rw [hz]
      go_wp2_with fail
      refine (pick_any B g _ _ _ (by assumption) (by omega) (by omega) (by omega)).mono ?_
      rintro e w1 ⟨j, rfl, hj, hcur, hm1⟩
      obtain ⟨y, hy⟩ : ∃ y : Int, y = (j : Int) := ⟨_, rfl⟩
      have hown := own_moved hm1 hg0 hown
      have hmov := moved_trans hmov hm1
      rw [← hy]; clear hm1 hj hy
      by_cases y0 : y = 0
      · subst y0
        go_wp2_with (first | (go_at_call 88; refine (among_lit B g _ _ _ _ _ _ (by simp [intOf]) (by rfl) (by first | rfl | simp) (by omega) (by omega) (by assumption) (by omega)).mono ?_; rintro e w1 ⟨x, rfl, hx, hcur, hm1⟩; have hown := own_moved hm1 hg0 hown; have hmov := moved_trans hmov hm1; clear hm1) | (at_builtin; refine wpList_push _ rfl (.tmp 34) (.tmp 45) 25 67 rfl Try.underlying25 Crew.infoE rfl (by omega) (by omega) Crew.enc_len Crew.enc_one w.heap.size _ _ _ ⟨_, _, _⟩ _ rfl rfl _ rfl rfl hown hmov.size (by omega) ?_; intro A5 cap5 w5 ho5 hb5; have hown := ho5; have hcur := hcur.step hg0 hb5; have hmov := moved_step hmov hb5; clear ho5 hb5))
        go_ret
        exact ⟨_, _, _, _, rfl, by first | rfl | exact hL | simp, hown, by first | (show _ ≤ _; simp; done) | (show _ ≤ _; simp; omega) | (show _ ≤ _; omega), hcur.mono (by omega), hmov⟩
      by_cases y1 : y = 1
      · subst y1
        have hown : Own Crew.enc 3 67 w.heap.size (w1.alloc (.cells #[] 67)) (.slice (some ⟨w1.heap.size, 0, none⟩) 0 0) ([] : List Crew) := own_empty hmov.size
        have hb1 : Below w1.heap.size w1 (w1.alloc (.cells #[] 67)) := (Below.refl _ _).alloc (Nat.le_refl _) _
        have hcur := hcur.below hb1; have hmov := moved_then hmov hb1; clear hb1
        go_wp2_with fail
        go_ret
        exact ⟨_, _, _, _, rfl, by first | rfl | exact hL | simp, hown, by first | (show _ ≤ _; simp; done) | (show _ ≤ _; simp; omega) | (show _ ≤ _; omega), hcur.mono (by omega), hmov⟩
      have e0 : (y == 0) = false := by simpa using y0
      have e1 : (y == 1) = false := by simpa using y1
      clear y0 y1
      go_wp2_with fail
      go_ret
      exact ⟨_, _, _, _, rfl, by first | rfl | exact hL | simp, hown, by first | (show _ ≤ _; simp; done) | (show _ ≤ _; simp; omega) | (show _ ≤ _; omega), hcur.mono (by omega), hmov⟩
    · obtain ⟨q, rfl⟩ : ∃ q, m = q + 1 := ⟨m - 1, by omega⟩
      have hq : (0 : Int) < ((q + 1 : Nat) : Int) := by omega
      go_wp2_with (first | (go_at_call 87; refine (l1Most_m HM.out _).mono ?_; rintro e w1 ⟨rfl, rfl⟩) | (go_at_call 88; refine (among_lit B g _ _ _ _ _ _ (by simp [intOf]) (by rfl) (by first | rfl | simp) (by omega) (by omega) (by assumption) (by omega)).mono ?_; rintro e w1 ⟨x, rfl, hx, hcur, hm1⟩; have hown := own_moved hm1 hg0 hown; have hmov := moved_trans hmov hm1; clear hm1) | (go_at_call 72; refine (pick_any B g _ _ _ (by assumption) (by omega) (by omega) (by omega)).mono ?_; rintro e w1 ⟨j, rfl, hj, hcur, hm1⟩; have hown := own_moved hm1 hg0 hown; have hmov := moved_trans hmov hm1; clear hm1) | (at_builtin; refine wpList_push _ rfl (.tmp 15) (.tmp 28) 25 67 rfl Try.underlying25 Crew.infoE rfl (by omega) (by omega) Crew.enc_len Crew.enc_one w.heap.size _ _ _ ⟨_, _, _⟩ _ rfl rfl _ rfl rfl hown hmov.size (by omega) ?_; intro A5 cap5 w5 ho5 hb5; have hown := ho5; have hcur := hcur.step hg0 hb5; have hmov := moved_step hmov hb5; clear ho5 hb5))
      go_roundw
      case rel => exact ⟨_, _, _, _, rfl, by simp, hown, q, in_eq (by omega), by omega, hcur.mono (by omega), hmov⟩
      case measure => simp [intOf] <;> omega
set_option maxRecDepth 100000 in
set_option maxHeartbeats 4000000 in
theorem people_any (B g K : Nat) (w : World) (A0 : Option Addr) (n0 cap0 : Nat) (hn0 : n0 ≤ 50) (h0 : Cur B w g K) (hK : K ≤ 100000) :
    Calls Try.prog 55 #[.pointer (some ⟨g, 0, none⟩), .slice A0 n0 cap0] w (ListPost encI 1 3 (fun L => L.length ≤ 60) B g (K + 200) w) := by
  have hg0 := h0.lt
  have hb0 : Below w.heap.size w (w.alloc (.cells #[] 3)) := (Below.refl _ _).alloc (Nat.le_refl _) _
  have hown : Own encI 1 3 w.heap.size (w.alloc (.cells #[] 3)) (.slice (some ⟨w.heap.size, 0, none⟩) 0 0) ([] : List Int) := own_empty (Nat.le_refl _)
  have hmov : w.grownBy (w.alloc (.cells #[] 3)) (some g) := moved_below hb0
  have hcur := h0.below hb0
  clear hb0 h0
  go_enter Try.func55, Try.ntmps55
  go_wp2_with fail
  go_loopw [5, 6] (fun l n wr => ∃ (A : Option Addr) (cap z : Nat) (L : List Int), l = .slice A z cap ∧ L.length = z ∧ Own encI 1 3 w.heap.size wr (.slice A z cap) L ∧ n = .int .i64 ((z : Int) + 1) ∧ z ≤ 50 ∧ Cur B wr g (K + z) ∧ w.grownBy wr (some g)) (fun _ n _ => 60 - (intOf n).toNat)
  case atStart => exact ⟨_, _, _, [], rfl, rfl, hown, rfl, by omega, hcur, hmov⟩
  case round =>
    clear hown hcur hmov
    obtain ⟨A, cap, z, L, rfl, hL, hown, rfl, hm, hcur, hmov⟩ := hrel
    by_cases hlt : (z : Int) + 1 < (n0 : Int)
    · subst hL
      go_wp2_with (first | (go_at_call 88; refine (among_lit B g _ _ _ _ _ _ (by simp [intOf]) (by rfl) (by first | rfl | simp) (by omega) (by omega) (by assumption) (by omega)).mono ?_; rintro e w1 ⟨x, rfl, hx, hcur, hm1⟩; have hown := own_moved hm1 hg0 hown; have hmov := moved_trans hmov hm1; clear hm1) | (at_builtin; refine wpList_push _ rfl (.tmp 14) (.tmp 18) 26 3 rfl Try.underlying26 infoI rfl (by omega) (by omega) encI_len encI_one w.heap.size _ _ _ _ _ rfl rfl _ rfl rfl hown hmov.size (by omega) ?_; intro A5 cap5 w5 ho5 hb5; have hown := ho5; have hcur := hcur.step hg0 hb5; have hmov := moved_step hmov hb5; clear ho5 hb5))
      go_roundw
      case rel => exact ⟨_, _, _, _, rfl, by simp, hown, in_eq (by omega), by omega, hcur.mono (by omega), hmov⟩
      case measure => simp [intOf] <;> omega
    · go_wp2_with fail
      refine (pick_any B g _ _ _ (by assumption) (by omega) (by omega) (by omega)).mono ?_
      rintro e w1 ⟨j, rfl, hj, hcur, hm1⟩
      obtain ⟨y, hy⟩ : ∃ y : Int, y = (j : Int) := ⟨_, rfl⟩
      have hown := own_moved hm1 hg0 hown
      have hmov := moved_trans hmov hm1
      rw [← hy]; clear hm1 hj hy
      by_cases y0 : y = 0
      · subst y0
        subst hL
        go_wp2_with (first | (at_builtin; refine wpList_push _ rfl (.tmp 24) (.tmp 25) 26 3 rfl Try.underlying26 infoI rfl (by omega) (by omega) encI_len encI_one w.heap.size _ _ _ _ _ rfl rfl _ rfl rfl hown hmov.size (by omega) ?_; intro A5 cap5 w5 ho5 hb5; have hown := ho5; have hcur := hcur.step hg0 hb5; have hmov := moved_step hmov hb5; clear ho5 hb5))
        go_ret
        exact ⟨_, _, _, _, rfl, by first | rfl | exact hL | simp, hown, by first | (show _ ≤ _; simp; done) | (show _ ≤ _; simp; omega) | (show _ ≤ _; omega), hcur.mono (by omega), hmov⟩
      by_cases y1 : y = 1
      · subst y1
        by_cases hz0 : z = 0
        · subst hz0
          go_wp2_with fail
          go_ret
          exact ⟨_, _, _, _, rfl, by first | rfl | exact hL | simp, hown, by first | (show _ ≤ _; simp; done) | (show _ ≤ _; simp; omega) | (show _ ≤ _; omega), hcur.mono (by omega), hmov⟩
        · obtain ⟨p, rfl, hp0, _⟩ := own_head hown hL (by omega)
          obtain ⟨u0, hu0⟩ := own_sm hown hL (j := 0) (by omega)
          have hfz := own_int_frozen hown hL 0
          have hzp : (0 : Int) < (z : Int) := by omega
          go_wp2_with (first | (go_at_call 88; refine (among_lit B g _ _ _ _ _ _ (by simp [intOf]) (by rfl) (by first | rfl | simp) (by omega) (by omega) (by assumption) (by omega)).mono ?_; rintro e w1 ⟨x, rfl, hx, hcur, hm1⟩; have hown := own_moved hm1 hg0 hown; have hmov := moved_trans hmov hm1; clear hm1; obtain ⟨u1, hu1⟩ := own_sm hown hL (j := 0) (by omega); have hfz1 := own_int_frozen hown hL 0))
          have hset := own_int_set hown hL (k := 0) (by omega) x
          have hcur := hcur.step hg0 ((Below.refl w.heap.size w1).setCell (p := ⟨p, 0, none⟩) hp0 (.int .i64 x))
          have hmov := moved_step hmov ((Below.refl w.heap.size w1).setCell (p := ⟨p, 0, none⟩) hp0 (.int .i64 x))
          go_wp2_with fail
          go_ret
          exact ⟨_, _, _, _, rfl, by rw [List.length_set]; exact hL, hset, by show _ ≤ _; rw [List.length_set]; omega, hcur.mono (by omega), hmov⟩
      have e0 : (y == 0) = false := by simpa using y0
      have e1 : (y == 1) = false := by simpa using y1
      clear y0 y1
      go_wp2_with fail
      go_ret
      exact ⟨_, _, _, _, rfl, by first | rfl | exact hL | simp, hown, by first | (show _ ≤ _; simp; done) | (show _ ≤ _; simp; omega) | (show _ ≤ _; omega), hcur.mono (by omega), hmov⟩
set_option maxRecDepth 100000 in
set_option maxHeartbeats 4000000 in
theorem assignment_any (B g K : Nat) (w : World) (A0 A1 : Option Addr) (n0 cap0 n1 cap1 : Nat) (hn0 : n0 ≤ 50) (hn1 : n1 ≤ 100) (h0 : Cur B w g K) (hK : K ≤ 100000) :
    Calls Try.prog 67 #[.pointer (some ⟨g, 0, none⟩), .slice A0 n0 cap0, .slice A1 n1 cap1] w (ListPost encI 1 3 (fun L => L.length ≤ 100) B g (K + 200) w) := by
  have hg0 := h0.lt
  have hb0 : Below w.heap.size w (w.alloc (.cells #[] 3)) := (Below.refl _ _).alloc (Nat.le_refl _) _
  have hown : Own encI 1 3 w.heap.size (w.alloc (.cells #[] 3)) (.slice (some ⟨w.heap.size, 0, none⟩) 0 0) ([] : List Int) := own_empty (Nat.le_refl _)
  have hmov : w.grownBy (w.alloc (.cells #[] 3)) (some g) := moved_below hb0
  have hcur := h0.below hb0
  clear hb0 h0
  go_enter Try.func67, Try.ntmps67
  obtain ⟨mx, hmax⟩ : ∃ mx : Int, max (1 : Int) (n0 : Int) = mx := ⟨_, rfl⟩
  have hmx : mx ≤ 200 ∧ -1000000 ≤ mx := by omega
  obtain ⟨hmx0, hmx1⟩ := hmx; have HM := hide hmax; clear hmax
  go_wp2_with fail
  go_loopw [7, 8] (fun l n wr => ∃ (A : Option Addr) (cap z : Nat) (L : List Int), l = .slice A z cap ∧ L.length = z ∧ Own encI 1 3 w.heap.size wr (.slice A z cap) L ∧ n = .int .i64 (z : Int) ∧ z ≤ n1 ∧ Cur B wr g (K + z) ∧ w.grownBy wr (some g)) (fun _ n _ => n1 - (intOf n).toNat)
  case atStart => exact ⟨_, _, _, [], rfl, rfl, hown, rfl, by omega, hcur, hmov⟩
  case round =>
    clear hown hcur hmov
    obtain ⟨A, cap, z, L, rfl, hL, hown, rfl, hm, hcur, hmov⟩ := hrel
    by_cases hlt : z < n1
    · subst hL
      have hlti : (L.length : Int) < (n1 : Int) := by omega
      go_wp2_with (first | (go_at_call 87; refine (l1Most_m HM.out _).mono ?_; rintro e w1 ⟨rfl, rfl⟩) | (go_at_call 72; refine (pick_any B g _ _ _ (by assumption) (by omega) (by omega) (by omega)).mono ?_; rintro e w1 ⟨j, rfl, hj, hcur, hm1⟩; have hown := own_moved hm1 hg0 hown; have hmov := moved_trans hmov hm1; clear hm1) | (at_builtin; refine wpList_push _ rfl (.tmp 16) (.tmp 22) 26 3 rfl Try.underlying26 infoI rfl (by omega) (by omega) encI_len encI_one w.heap.size _ _ _ _ _ rfl rfl _ rfl rfl hown hmov.size (by omega) ?_; intro A5 cap5 w5 ho5 hb5; have hown := ho5; have hcur := hcur.step hg0 hb5; have hmov := moved_step hmov hb5; clear ho5 hb5))
      go_roundw
      case rel => exact ⟨_, _, _, _, rfl, by simp, hown, in_eq (by omega), by omega, hcur.mono (by omega), hmov⟩
      case measure => simp [intOf] <;> omega
    · have hlti : ¬ (z : Int) < (n1 : Int) := by omega
      by_cases hz0 : z = 0
      · subst hz0
        go_wp2_with (first | (go_at_call 86; refine (one_any B g _ _ _ (by assumption) (by omega) (by omega) (by omega)).mono ?_; rintro e w1 ⟨q, rfl, hcur, hm1⟩; have hown := own_moved hm1 hg0 hown; have hmov := moved_trans hmov hm1; clear hm1))
        all_goals (go_ret; exact ⟨_, _, _, _, rfl, by first | rfl | exact hL | simp, hown, by first | (show _ ≤ _; simp; done) | (show _ ≤ _; simp; omega) | (show _ ≤ _; omega), hcur.mono (by omega), hmov⟩)
      · obtain ⟨p, rfl, hp0, _⟩ := own_head hown hL (by omega)
        have hzp : (0 : Int) < (z : Int) := by omega
        go_wp2_with fail
        refine (one_any B g _ _ _ (by assumption) (by omega) (by omega) (by omega)).mono ?_
        rintro e w1 ⟨q, rfl, hcur, hm1⟩
        have hown := own_moved hm1 hg0 hown; have hmov := moved_trans hmov hm1; clear hm1
        cases q
        · go_wp2_with fail
          go_ret
          exact ⟨_, _, _, _, rfl, by first | rfl | exact hL | simp, hown, by first | (show _ ≤ _; simp; done) | (show _ ≤ _; simp; omega) | (show _ ≤ _; omega), hcur.mono (by omega), hmov⟩
        · go_wp2_with (first | (go_at_call 88; refine (among_lit B g _ _ _ _ _ _ (by simp [intOf]) (by rfl) (by first | rfl | simp) (by omega) (by omega) (by assumption) (by omega)).mono ?_; rintro e w1 ⟨x, rfl, hx, hcur, hm1⟩; have hown := own_moved hm1 hg0 hown; have hmov := moved_trans hmov hm1; clear hm1; obtain ⟨u1, hu1⟩ := own_sm hown hL (j := 0) (by omega); have hfz1 := own_int_frozen hown hL 0))
          have hset := own_int_set hown hL (k := 0) (by omega) x
          have hcur := hcur.step hg0 ((Below.refl w.heap.size w1).setCell (p := ⟨p, 0, none⟩) hp0 (.int .i64 x))
          have hmov := moved_step hmov ((Below.refl w.heap.size w1).setCell (p := ⟨p, 0, none⟩) hp0 (.int .i64 x))
          go_wp2_with fail
          go_ret
          exact ⟨_, _, _, _, rfl, by rw [List.length_set]; exact hL, hset, by show _ ≤ _; rw [List.length_set]; omega, hcur.mono (by omega), hmov⟩
end Go.Proofs.Ytgfamaopplgfgaa
