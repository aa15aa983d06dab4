/- The drawers of chapter 20: a record, patterns, a fault. -/
import Derived.Test.YtmnepaedkilnoaaDraw
import Derived.Test.YtmnepaedkilnoaaLibEvent
import Derived.Test.YtmnepaedkilnoaaLibPattern
namespace Go.Proofs.Ytmnepaedkilnoaa
open Go Go.RowKit
set_option linter.unusedVariables false
set_option maxRecDepth 100000 in
set_option maxHeartbeats 4000000 in
theorem record_any (B g K : Nat) (w : World) (h0 : Cur B w g K) (hK : K ≤ 100000) :
    Calls Try.prog 75 #[.pointer (some ⟨g, 0, none⟩)] w (ListPost Event.enc 2 58 (fun L => L.length ≤ 40) B g (K + 200) w) := by
  have hg0 := h0.lt
  have hb0 : Below w.heap.size w (w.alloc (.cells #[] 58)) := (Below.refl _ _).alloc (Nat.le_refl _) _
  have hown : Own Event.enc 2 58 w.heap.size (w.alloc (.cells #[] 58)) (.slice (some ⟨w.heap.size, 0, none⟩) 0 0) ([] : List Event) := own_empty (Nat.le_refl _)
  have hmov : w.grownBy (w.alloc (.cells #[] 58)) (some g) := moved_below hb0
  have hcur := h0.below hb0
  clear hb0 h0
  go_enter Try.func75, Try.ntmps75
  go_wp2_with (first | (go_at_call 79; refine (among_lit B g _ _ _ _ _ _ (by simp [intOf]) (by rfl) (by first | rfl | simp) (by omega) (by omega) (by assumption) (by omega)).mono ?_; rintro e w1 ⟨x, rfl, hx, hcur, hm1⟩; have hown := own_moved hm1 hg0 hown; have hmov := moved_trans hmov hm1; clear hm1) | (go_at_call 88; refine (pick_any B g _ _ _ (by assumption) (by omega) (by omega) (by omega)).mono ?_; rintro e w1 ⟨j, rfl, hj, hcur, hm1⟩; have hown := own_moved hm1 hg0 hown; have hmov := moved_trans hmov hm1; clear hm1))
  clear hx
  go_loopw [3, 4, 5] (fun l t n wr => ∃ (A : Option Addr) (cap z : Nat) (L : List Event) (tm : Int) (m : Nat), l = .slice A z cap ∧ L.length = z ∧ t = .int .i64 tm ∧ n = .int .i64 m ∧ z + m ≤ 13 ∧ Own Event.enc 2 58 w.heap.size wr (.slice A z cap) L ∧ Cur B wr g (K + 2 + 2 * z) ∧ w.grownBy wr (some g)) (fun _ _ n _ => (intOf n).toNat)
  case atStart => exact ⟨_, _, _, [], x, j, rfl, rfl, rfl, rfl, by omega, hown, hcur, hmov⟩
  case round =>
    clear hown hcur hmov hj
    obtain ⟨A, cap, z, L, tm, m, rfl, hL, rfl, rfl, hm, hown, hcur, hmov⟩ := hrel
    subst hL
    by_cases h0 : m = 0
    · subst h0
      have hz : ((0 : Nat) : Int) = 0 := rfl
      rw [hz]
      go_wp2_with fail
      refine (pick_any B g _ _ _ (by assumption) (by omega) (by omega) (by omega)).mono ?_
      rintro e w1 ⟨j, rfl, hj, hcur, hm1⟩
      obtain ⟨y, hy⟩ : ∃ y : Int, y = (j : Int) := ⟨_, rfl⟩
      have hown := own_moved hm1 hg0 hown
      have hmov := moved_trans hmov hm1
      rw [← hy]; clear hm1 hj hy
      by_cases y0 : y = 0
      · subst y0
        go_wp2_with (first | (go_at_call 79; refine (among_lit B g _ _ _ _ _ _ (by simp [intOf]) (by rfl) (by first | rfl | simp) (by omega) (by omega) (by assumption) (by omega)).mono ?_; rintro e w1 ⟨x, rfl, hx, hcur, hm1⟩; have hown := own_moved hm1 hg0 hown; have hmov := moved_trans hmov hm1; clear hm1) | (at_builtin; refine wpList_push _ rfl (.tmp 33) (.tmp 41) 25 58 rfl Try.underlying25 Event.infoE rfl (by omega) (by omega) Event.enc_len Event.enc_one w.heap.size _ _ _ ⟨_, _⟩ _ rfl rfl _ rfl rfl hown hmov.size (by omega) ?_; intro A5 cap5 w5 ho5 hb5; have hown := ho5; have hcur := hcur.step hg0 hb5; have hmov := moved_step hmov hb5; clear ho5 hb5))
        go_ret
        exact ⟨_, _, _, _, rfl, by simp, hown, by simp; omega, hcur.mono (by omega), hmov⟩
      by_cases y1 : y = 1
      · subst y1
        go_wp2_with fail
        go_loopw [3] (fun l wr => ∃ (A : Option Addr) (cap z : Nat) (L : List Event), l = .slice A z cap ∧ L.length = z ∧ z ≤ 32 ∧ Own Event.enc 2 58 w.heap.size wr (.slice A z cap) L ∧ Cur B wr g (K + 50 + z) ∧ w.grownBy wr (some g)) (fun l _ => 40 - lenOf l)
        case atStart => exact ⟨_, _, _, _, rfl, rfl, by omega, hown, hcur.mono (by omega), hmov⟩
        case round =>
          clear hown hcur hmov
          obtain ⟨A, cap, z, L, rfl, hL, hz2, hown, hcur, hmov⟩ := hrel
          subst hL
          go_wp2_with (first | (go_at_call 88; refine (pick_any B g _ _ _ (by assumption) (by omega) (by omega) (by omega)).mono ?_; rintro e w1 ⟨j, rfl, hj, hcur, hm1⟩; have hown := own_moved hm1 hg0 hown; have hmov := moved_trans hmov hm1; clear hm1) | (at_builtin; refine wpList_push _ rfl (.tmp 51) (.tmp 53) 25 58 rfl Try.underlying25 Event.infoE rfl (by omega) (by omega) Event.enc_len Event.enc_one w.heap.size _ _ _ ⟨_, _⟩ _ rfl rfl _ rfl rfl hown hmov.size (by omega) ?_; intro A5 cap5 w5 ho5 hb5; have hown := ho5; have hcur := hcur.step hg0 hb5; have hmov := moved_step hmov hb5; clear ho5 hb5))
          · go_roundw
            case rel => exact ⟨_, _, _, _, rfl, by simp, by omega, hown, hcur.mono (by omega), hmov⟩
            case measure => simp [lenOf] <;> omega
          · go_ret
            exact ⟨_, _, _, _, rfl, rfl, hown, by show _ ≤ 40; omega, hcur.mono (by omega), hmov⟩
      have e0 : (y == 0) = false := by simpa using y0
      have e1 : (y == 1) = false := by simpa using y1
      clear y0 y1
      go_wp2_with fail
      go_ret
      exact ⟨_, _, _, _, rfl, rfl, hown, by show _ ≤ 40; omega, hcur.mono (by omega), hmov⟩
    · obtain ⟨q, rfl⟩ : ∃ q, m = q + 1 := ⟨m - 1, by omega⟩
      have hq : (0 : Int) < ((q + 1 : Nat) : Int) := by omega
      go_wp2_with (first | (go_at_call 79; refine (among_lit B g _ _ _ _ _ _ (by simp [intOf]) (by rfl) (by first | rfl | simp) (by omega) (by omega) (by assumption) (by omega)).mono ?_; rintro e w1 ⟨x, rfl, hx, hcur, hm1⟩; have hown := own_moved hm1 hg0 hown; have hmov := moved_trans hmov hm1; clear hm1) | (go_at_call 88; refine (pick_any B g _ _ _ (by assumption) (by omega) (by omega) (by omega)).mono ?_; rintro e w1 ⟨j, rfl, hj, hcur, hm1⟩; have hown := own_moved hm1 hg0 hown; have hmov := moved_trans hmov hm1; clear hm1) | (at_builtin; refine wpList_push _ rfl (.tmp 16) (.tmp 22) 25 58 rfl Try.underlying25 Event.infoE rfl (by omega) (by omega) Event.enc_len Event.enc_one w.heap.size _ _ _ ⟨_, _⟩ _ rfl rfl _ rfl rfl hown hmov.size (by omega) ?_; intro A5 cap5 w5 ho5 hb5; have hown := ho5; have hcur := hcur.step hg0 hb5; have hmov := moved_step hmov hb5; clear ho5 hb5))
      go_roundw
      case rel => exact ⟨_, _, _, _, _, q, rfl, by simp, rfl, in_eq (by omega), by omega, hown, hcur.mono (by omega), hmov⟩
      case measure => simp [intOf] <;> omega
end Go.Proofs.Ytmnepaedkilnoaa
