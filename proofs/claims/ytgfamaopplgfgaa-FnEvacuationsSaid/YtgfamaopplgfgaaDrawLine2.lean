/- The drawers of chapter 19: a line. -/
import Derived.Test.YtgfamaopplgfgaaDrawLine
namespace Go.Proofs.Ytgfamaopplgfgaa
open Go Go.RowKit
set_option linter.unusedVariables false
theorem l1Most_some (a b : Int) (w : World) : Calls Try.prog 87 #[.int .i64 a, .int .i64 b] w (MostPost w) := (l1Most_any a b w).mono fun e w' ⟨h1, h2⟩ => ⟨_, h1, h2⟩
set_option maxRecDepth 100000 in
set_option maxHeartbeats 4000000 in
theorem line_any (B g K : Nat) (w : World) (h0 : Cur B w g K) (hK : K ≤ 100000) :
    Calls Try.prog 85 #[.pointer (some ⟨g, 0, none⟩)] w (ListPost Support.enc 3 100 (fun L => L.length ≤ 20) B g (K + 300) w) := by
  have hg0 := h0.lt
  go_enter Try.func85, Try.ntmps85
  have hmov := moved_refl w g; have hcur := h0
  go_wp2_with (first | (go_at_call 88; refine (among_lit B g _ _ _ _ _ _ (by simp [intOf]) (by rfl) (by first | rfl | simp) (by omega) (by omega) (by assumption) (by omega)).mono ?_; rintro e w1 ⟨x, rfl, hx, hcur, hm1⟩; have hmov := moved_trans hmov hm1; clear hm1))
  have hb0 : Below w1.heap.size w1 (w1.alloc (.cells #[.int .i64 0, .int .i64 x, .bool true] 100)) := (Below.refl _ _).alloc (Nat.le_refl _) _
  have hown : Own Support.enc 3 100 w.heap.size (w1.alloc (.cells #[.int .i64 0, .int .i64 x, .bool true] 100)) (.slice (some ⟨w1.heap.size, 0, none⟩) 1 1) [⟨0, x, true⟩] := World.ownsRow_lit (e := 100) (size := 3) w1 #[.int .i64 0, .int .i64 x, .bool true] 1 hmov.size (by decide) rfl
  have hcur := hcur.below hb0
  have hmov := moved_then hmov hb0
  have y1 : (w1.alloc (.cells #[.int .i64 0, .int .i64 x, .bool true] 100)).cell? ⟨w1.heap.size, 1, none⟩ = some (.int .i64 x) := cell_new w1 _ _ _ 1 _ rfl rfl
  have hN : w.heap.size ≤ w1.heap.size := by have := hb0.size; exact (World.ownsRow.lt hown w1.heap.size rfl).1
  clear hb0 hx
  generalize (w1.alloc (.cells #[.int .i64 0, .int .i64 x, .bool true] 100)) = w2 at *
  have a0 := after_cell y1
  go_wp2_with fail
  refine wp_region_after (by kernel_rfl) (by kernel_rfl) ?_
  repeat (go_big_quiet_step (fail))
  refine wpQuiet_nil ?_
  rintro w3 ⟨⟨_, hb3⟩, rfl⟩
  clear a0 y1
  have hown := Own.below hown hb3; have hcur := hcur.below hb3; have hmov := moved_then hmov hb3
  generalize w1.heap.size = p at *
  go_wp2_with (first | (go_at_call 72; refine (pick_any B g _ _ _ (by assumption) (by omega) (by omega) (by omega)).mono ?_; rintro e w1 ⟨j, rfl, hj, hcur, hm1⟩; have hown := own_moved hm1 hg0 hown; have hmov := moved_trans hmov hm1; clear hm1))
  go_loopw [3, 4, 5, 6] (fun l a b n wr => ∃ (A : Option Addr) (cap z : Nat) (L : List Support), l = .slice A z cap ∧ L.length = z ∧ Own Support.enc 3 100 w.heap.size wr (.slice A z cap) L ∧ ∃ (x y : Int) (m : Nat), a = .int .i64 x ∧ b = .int .i64 y ∧ n = .int .i64 m ∧ 1 ≤ z ∧ z + m ≤ 5 ∧ Cur B wr g (K + 3 * z) ∧ w.grownBy wr (some g)) (fun _ _ _ n _ => (intOf n).toNat)
  case atStart => exact ⟨_, _, _, _, rfl, rfl, hown, 0, x, 1 + j, rfl, rfl, in_eq (by omega), by omega, by omega, hcur.mono (by omega), hmov⟩
  case round =>
    clear hown hcur hmov hj
    obtain ⟨A, cap, z, L, rfl, hL, hown, x, y, m, rfl, rfl, rfl, hz1, hm, hcur, hmov⟩ := hrel
    by_cases h0 : m = 0
    · subst h0
      have hz : ((0 : Nat) : Int) = 0 := rfl
      rw [hz]
      obtain ⟨p, rfl, hp0, hp1⟩ := own_head hown hL (by omega)
      obtain ⟨qn, rfl⟩ : ∃ qn, z = qn + 1 := ⟨z - 1, by omega⟩
      obtain ⟨u0, hu0⟩ := own_sm hown hL (j := qn * 3 + 2) (by omega)
      have hfz := Own.frozen_ hown hL (qn * 3 + 2)
      have hgq := List.getElem?_eq_getElem (show qn < L.length by omega)
      have hset := Own.set_cell Support.enc_len hown hL (c' := { L[qn]'(by omega) with station := true }) hgq (show 2 < 3 by omega) (u := .bool true) rfl
      have hbs := (Below.refl w.heap.size wr).setCell (p := ⟨p, qn * 3 + 2, none⟩) hp0 (.bool true)
      have hcs := hcur.step hg0 hbs; have hms := moved_step hmov hbs; clear hbs
      have hqz : (qn : Int) < (qn : Int) + 1 := by omega
      go_wp2_with fail
      have hl2 : (L.set qn { L[qn]'(by omega) with station := true }).length = qn + 1 := by rw [List.length_set]; exact hL
      generalize (L.set qn { L[qn]'(by omega) with station := true }) = M at *
      generalize wr.setCell ⟨p, qn * 3 + 2, none⟩ (.bool true) = wS at *
      clear hown hcur hmov hu0 hfz hgq hL hp1
      have hown := hset; have hcur := hcs; have hmov := hms; have hL := hl2
      clear hset hcs hms hl2
      refine (pick_any B g _ _ _ (by assumption) (by omega) (by omega) (by omega)).mono ?_
      rintro e w1 ⟨j, rfl, hj, hcur, hm1⟩
      obtain ⟨y, hy⟩ : ∃ y : Int, y = (j : Int) := ⟨_, rfl⟩
      have hown := own_moved hm1 hg0 hown
      have hmov := moved_trans hmov hm1
      rw [← hy]; clear hm1 hj hy
      by_cases y0 : y = 0
      · subst y0
        go_wp2_with (first | (go_at_call 88; refine (among_lit B g _ _ _ _ _ _ (by simp [intOf]) (by rfl) (by first | rfl | simp) (by omega) (by omega) (by assumption) (by omega)).mono ?_; rintro e w1 ⟨x, rfl, hx, hcur, hm1⟩; have hown := own_moved hm1 hg0 hown; have hmov := moved_trans hmov hm1; clear hm1) | (go_at_call 86; refine (one_any B g _ _ _ (by assumption) (by omega) (by omega) (by omega)).mono ?_; rintro e w1 ⟨q, rfl, hcur, hm1⟩; have hown := own_moved hm1 hg0 hown; have hmov := moved_trans hmov hm1; clear hm1) | (with_reducible show wpList _ _ _ (⟨none, _, _, _, _, _⟩ :: _) _ _; refine wpList_store_mid rfl 100 (.tmp 59) (.tmp 58) rfl p (0) _ rfl rfl (Own.there_ hown hL (by simp <;> omega)) (by kernel_rfl) (by simp [Value.oneCell']) ?_))
        have hset := Own.set_ Support.enc_len hown hL (k := 0) (by omega) ⟨x, 400, q⟩
        have hbs := below_setCells p hp0 (Support.enc ⟨x, 400, q⟩) 0 w1 (Below.refl w.heap.size w1)
        have hcs := hcur.step hg0 hbs; have hms := moved_step hmov hbs; clear hbs
        go_ret
        exact ⟨_, _, _, _, rfl, by rw [List.length_set]; exact hL, hset, by show _ ≤ _; rw [List.length_set]; omega, hcs.mono (by omega), hms⟩
      by_cases y1 : y = 1
      · subst y1
        go_wp2_with fail
        refine (among_lit B g _ _ _ _ _ _ (by simp [intOf]) (by rfl) (by first | rfl | simp) (by omega) (by omega) (by assumption) (by omega)).mono ?_
        rintro e w1 ⟨xz1, rfl, hx_xz1, hcur, hm1⟩
        have hown := own_moved hm1 hg0 hown
        have hmov := moved_trans hmov hm1; clear hm1
        go_wp2_with (first | (go_at_call 88; refine (among_lit B g _ _ _ _ _ _ (by simp [intOf]) (by rfl) (by first | rfl | simp) (by omega) (by omega) (by assumption) (by omega)).mono ?_; rintro e w1 ⟨x, rfl, hx, hcur, hm1⟩; have hown := own_moved hm1 hg0 hown; have hmov := moved_trans hmov hm1; clear hm1) | (with_reducible show wpList _ _ _ (⟨none, _, _, _, _, _⟩ :: _) _ _; refine wpList_store_mid rfl 100 (.tmp 73) (.tmp 72) rfl p (qn * 3) _ rfl rfl (Own.there_ hown hL (by simp <;> omega)) (by kernel_rfl) (by simp [Value.oneCell']) ?_))
        have hset := Own.set_ Support.enc_len hown hL (k := qn) (by omega) ⟨xz1, x, true⟩
        have hbs := below_setCells p hp0 (Support.enc ⟨xz1, x, true⟩) (qn * 3) w1 (Below.refl w.heap.size w1)
        have hcs := hcur.step hg0 hbs; have hms := moved_step hmov hbs; clear hbs
        go_ret
        exact ⟨_, _, _, _, rfl, by rw [List.length_set]; exact hL, hset, by show _ ≤ _; rw [List.length_set]; omega, hcs.mono (by omega), hms⟩
      by_cases y2 : y = 2
      · subst y2
        obtain ⟨u0, hu0⟩ := own_sm hown hL (j := qn * 3 + 2) (by omega)
        have hfz := Own.frozen_ hown hL (qn * 3 + 2)
        have hgq := List.getElem?_eq_getElem (show qn < M.length by omega)
        have hset := Own.set_cell Support.enc_len hown hL (c' := { M[qn]'(by omega) with station := false }) hgq (show 2 < 3 by omega) (u := .bool false) rfl
        have hbs := (Below.refl w.heap.size w1).setCell (p := ⟨p, qn * 3 + 2, none⟩) hp0 (.bool false)
        have hcs := hcur.step hg0 hbs; have hms := moved_step hmov hbs; clear hbs
        go_wp2_with fail
        go_ret
        exact ⟨_, _, _, _, rfl, by rw [List.length_set]; exact hL, hset, by show _ ≤ _; rw [List.length_set]; omega, hcs.mono (by omega), hms⟩
      by_cases y3 : y = 3
      · subst y3
        go_wp2_with fail
        go_loopw [3, 4] (fun l a wr => ∃ (A : Option Addr) (cap z : Nat) (L : List Support), l = .slice A z cap ∧ L.length = z ∧ Own Support.enc 3 100 w.heap.size wr (.slice A z cap) L ∧ ∃ (x : Int), a = .int .i64 x ∧ z ≤ 12 ∧ Cur B wr g (K + 50 + z) ∧ w.grownBy wr (some g)) (fun l _ _ => 20 - lenOf l)
        case atStart => exact ⟨_, _, _, _, rfl, hL, hown, x, rfl, by omega, hcur.mono (by omega), hmov⟩
        case round =>
          clear hown hcur hmov hp0 hL
          obtain ⟨A, cap, z, L, rfl, hL, hown, x, rfl, hz, hcur, hmov⟩ := hrel
          subst hL
          go_wp2_with (first | (go_at_call 72; refine (pick_any B g _ _ _ (by assumption) (by omega) (by omega) (by omega)).mono ?_; rintro e w1 ⟨j, rfl, hj, hcur, hm1⟩; have hown := own_moved hm1 hg0 hown; have hmov := moved_trans hmov hm1; clear hm1) | (at_builtin; refine wpList_push _ rfl (.tmp 92) (.tmp 96) 24 100 rfl Try.underlying24 Support.infoE rfl (by omega) (by omega) Support.enc_len Support.enc_one w.heap.size _ _ _ ⟨_, _, _⟩ _ rfl rfl _ rfl rfl hown hmov.size (by omega) ?_; intro A5 cap5 w5 ho5 hb5; have hown := ho5; have hcur := hcur.step hg0 hb5; have hmov := moved_step hmov hb5; clear ho5 hb5))
          · go_roundw
            case rel => exact ⟨_, _, _, _, rfl, by simp, hown, _, rfl, by omega, hcur.mono (by omega), hmov⟩
            case measure => simp [lenOf] <;> omega
          · go_ret
            exact ⟨_, _, _, _, rfl, rfl, hown, by show _ ≤ 20; omega, hcur.mono (by omega), hmov⟩
      by_cases y4 : y = 4
      · subst y4
        have hcp := own_cple hown hL
        have ht := own_take Support.enc_len hown hL (k := 1) (by omega)
        have h1c : 1 ≤ cap := by omega
        go_wp2_with fail
        go_ret
        exact ⟨_, _, _, _, rfl, by rw [List.length_take]; omega, ht, by show _ ≤ _; rw [List.length_take]; omega, hcur.mono (by omega), hmov⟩
      have e0 : (y == 0) = false := by simpa using y0
      have e1 : (y == 1) = false := by simpa using y1
      have e2 : (y == 2) = false := by simpa using y2
      have e3 : (y == 3) = false := by simpa using y3
      have e4 : (y == 4) = false := by simpa using y4
      clear y0 y1 y2 y3 y4
      go_wp2_with fail
      go_ret
      exact ⟨_, _, _, _, rfl, by first | rfl | exact hL | simp, hown, by first | (show _ ≤ _; simp; done) | (show _ ≤ _; simp; omega) | (show _ ≤ _; omega), hcur.mono (by omega), hmov⟩
    · obtain ⟨mm, rfl⟩ : ∃ mm, m = mm + 1 := ⟨m - 1, by omega⟩
      subst hL
      have hq : (0 : Int) < ((mm + 1 : Nat) : Int) := by omega
      go_wp2_with (first | (go_at_call 87; refine (l1Most_some _ _ _).mono ?_; rintro e w1 ⟨y, rfl, rfl⟩) | (go_at_call 88; refine (among_lit B g _ _ _ _ _ _ (by simp [intOf]) (by rfl) (by first | rfl | simp) (by omega) (by omega) (by assumption) (by omega)).mono ?_; rintro e w1 ⟨x, rfl, hx, hcur, hm1⟩; have hown := own_moved hm1 hg0 hown; have hmov := moved_trans hmov hm1; clear hm1) | (go_at_call 86; refine (one_any B g _ _ _ (by assumption) (by omega) (by omega) (by omega)).mono ?_; rintro e w1 ⟨q, rfl, hcur, hm1⟩; have hown := own_moved hm1 hg0 hown; have hmov := moved_trans hmov hm1; clear hm1) | (at_builtin; refine wpList_push _ rfl (.tmp 34) (.tmp 40) 24 100 rfl Try.underlying24 Support.infoE rfl (by omega) (by omega) Support.enc_len Support.enc_one w.heap.size _ _ _ ⟨_, _, _⟩ _ rfl rfl _ rfl rfl hown hmov.size (by omega) ?_; intro A5 cap5 w5 ho5 hb5; have hown := ho5; have hcur := hcur.step hg0 hb5; have hmov := moved_step hmov hb5; clear ho5 hb5))
      go_roundw
      case rel => exact ⟨_, _, _, _, rfl, by simp, hown, _, _, mm, rfl, rfl, in_eq (by omega), by omega, by omega, hcur.mono (by omega), hmov⟩
      case measure => simp [intOf] <;> omega
end Go.Proofs.Ytgfamaopplgfgaa
