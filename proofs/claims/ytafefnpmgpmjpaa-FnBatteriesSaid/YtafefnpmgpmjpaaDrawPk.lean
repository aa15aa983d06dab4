/- DrawPeakOf: two rows of numbers that are drawn side by side. -/
import Derived.Test.YtafefnpmgpmjpaaDraw
import Derived.Test.YtafefnpmgpmjpaaInts
import Derived.Test.YtafefnpmgpmjpaaRowI
import Derived.Test.YtafefnpmgpmjpaaSetC
import Derived.Test.YtafefnpmgpmjpaaDel
import Derived.Deep.DeepCutAuto
namespace Go.Proofs.Ytafefnpmgpmjpaa
open Go Go.RowKit
set_option linter.unusedVariables false
set_option linter.unusedSimpArgs false
def PkDraw (w : World) (e : Ending) (w' : World) : Prop := ∃ (A1 A2 : Option Addr) (c1 c2 : Nat) (P Q : List Int), e = .returned (.tuple #[.slice A1 P.length c1, .slice A2 Q.length c2]) ∧ P.length ≤ 40 ∧ Q.length ≤ 40 ∧ P.length ≤ c1 ∧ Q.length ≤ c2 ∧ Rd encI 1 w'.heap.size w' A1 P ∧ Rd encI 1 w'.heap.size w' A2 Q ∧ Below w.heap.size w w'
set_option maxRecDepth 100000 in
set_option maxHeartbeats 2000000 in
theorem DrawPeakOf_any (A : Option Addr) (Lc : List Int) (cap : Nat) (w : World) (hc : CodeIs w A Lc) :
    Calls Try.prog 26 #[.slice A Lc.length cap] w (PkDraw w) := by
  have hcur := cur_new hc cap
  have hb0 : Below w.heap.size w (w.alloc (.cells #[.slice A Lc.length cap, .int .i64 0, .int .u64 0] 77)) := (Below.refl _ _).alloc (Nat.le_refl _) _
  have hg0 := hcur.lt
  have HZ0 := hide (show (w.alloc (.cells #[.slice A Lc.length cap, .int .i64 0, .int .u64 0] 77)).heap.size = w.heap.size + 1 by simp)
  go_enter Try.func26, Try.ntmps26
  go_wp2_with fail
  generalize (w.alloc (.cells #[.slice A Lc.length cap, .int .i64 0, .int .u64 0] 77)) = w0 at *
  have HB := hb0; clear hb0
  have hz0 : w0.heap.size = w.heap.size + 1 := HZ0.out
  have own1 : Own encI 1 3 (w.heap.size + 1) ((w0.alloc (.cells #[] 3)).alloc (.cells #[] 3)) (.slice (some ⟨w0.heap.size, 0, none⟩) 0 0) ([] : List Int) := World.ownsRow.alloc (own_none rfl (by omega)) _
  have own2 : Own encI 1 3 (w.heap.size + 1) ((w0.alloc (.cells #[] 3)).alloc (.cells #[] 3)) (.slice (some ⟨w0.heap.size + 1, 0, none⟩) 0 0) ([] : List Int) := own_none (by simp) (by omega)
  have hne : w0.heap.size ≠ w0.heap.size + 1 := by omega
  have hb1 : Below w0.heap.size w0 ((w0.alloc (.cells #[] 3)).alloc (.cells #[] 3)) := ((Below.refl _ _).alloc (Nat.le_refl _) _).alloc (by simp) _
  have hcur := hcur.below hb1
  have HB := below_step HB hb1 (by omega); clear hb1
  generalize ((w0.alloc (.cells #[] 3)).alloc (.cells #[] 3)) = w1 at *
  have hs1 : w.heap.size + 1 ≤ w1.heap.size := by have := (own_ltw own1); omega
  rw [hz0] at own1 own2 hne
  refine (pick_any _ _ _ _ _ (by assumption) (by omega) (by omega) (by omega)).mono ?_
  rintro e w1 ⟨j, rfl, hj_j, hcur, hm⟩
  have own1 := own_moved hm (by omega) own1
  have own2 := own_moved hm (by omega) own2
  have HB := HB.trans (below_moved hm (Nat.le_refl _) (by omega)); have hsz := hm.size; clear hm
  have hj5 : j < 5 := by omega
  go_wp2_with fail
  go_loopw [5, 6, 7] (fun x1 x2 x3 wr => ∃ (p1 p2 c1 c2 : Nat) (P Q : List Int) (m : Nat), x1 = .slice (some ⟨p1, 0, none⟩) P.length c1 ∧ x2 = .slice (some ⟨p2, 0, none⟩) Q.length c2 ∧ x3 = .int .i64 m ∧ P.length + m ≤ 5 ∧ 1 ≤ P.length + m ∧ Q.length + m ≤ 5 ∧ 1 ≤ Q.length + m ∧ p1 ≠ p2 ∧ Own encI 1 3 (w.heap.size + 1) wr (.slice (some ⟨p1, 0, none⟩) P.length c1) P ∧ Own encI 1 3 (w.heap.size + 1) wr (.slice (some ⟨p2, 0, none⟩) Q.length c2) Q ∧ Cur w.heap.size wr w.heap.size (10 + 2 * P.length) ∧ Below w.heap.size w wr ∧ w.heap.size + 1 ≤ wr.heap.size) (fun _ _ x3 _ => (intOf x3).toNat)
  case atStart => exact ⟨_, _, _, _, [], [], 1 + j, rfl, rfl, in_eq (by omega), (by first | omega | (simp; done) | (simp; omega) | (simp at *; omega)), (by first | omega | (simp; done) | (simp; omega) | (simp at *; omega)), (by first | omega | (simp; done) | (simp; omega) | (simp at *; omega)), (by first | omega | (simp; done) | (simp; omega) | (simp at *; omega)), hne, own1, own2, hcur.mono (by omega), HB, by omega⟩
  case round =>
    clear own1 own2 hcur HB hne hs1
    obtain ⟨p1, p2, c1, c2, P, Q, m, rfl, rfl, rfl, hm5, hm1, hm6, hm2, hne, own1, own2, hcur, HB, hs1⟩ := hrel
    by_cases h0 : m = 0
    · subst h0
      have hz : ((0 : Nat) : Int) = 0 := rfl
      rw [hz]
      go_wp2_with fail
      refine (pick_any _ _ _ _ _ (by assumption) (by omega) (by omega) (by omega)).mono ?_
      rintro e w1 ⟨j, rfl, hj, hcur, hm⟩
      obtain ⟨y, hy⟩ : ∃ y : Int, y = (j : Int) := ⟨_, rfl⟩
      have own1 := own_moved hm (by omega) own1
      have own2 := own_moved hm (by omega) own2
      have HB := HB.trans (below_moved hm (Nat.le_refl _) (by omega)); have hsz := hm.size; clear hm
      rw [← hy]; clear hj hy
      by_cases y0 : y = 0
      · subst y0
        have hP1 : (0 : Int) < (P.length : Int) := by omega
        go_wp2_with fail
        refine (among_lit _ _ _ _ _ _ _ _ (by simp [intOf]) (by rfl) (by first | rfl | simp) (by omega) (by omega) (by assumption) (by omega)).mono ?_
        rintro e w1 ⟨y, rfl, hx_y, hcur, hm⟩
        clear hx_y
        have own1 := own_moved hm (by omega) own1
        have own2 := own_moved hm (by omega) own2
        have HB := HB.trans (below_moved hm (Nat.le_refl _) (by omega)); have hsz := hm.size; clear hm
        have hfz := Own.frozen_ own1 rfl 0
        obtain ⟨v0, hv0⟩ : ∃ v, P[0]? = some v := ⟨_, List.getElem?_eq_getElem (by omega)⟩
        have u0 := own_int own1 rfl hv0
        have hset := Own.set_cell encI_len own1 rfl (k := 0) (j := 0) (c' := y) hv0 (by omega) (u := .int .i64 y) rfl
        have own2 := set_keep (k := 0) (u := .int .i64 y) own2 (Ne.symm hne)
        have hgq := own_geq own1
        have HB := HB.trans ((Below.refl w.heap.size w1).setCell (p := ⟨p1, 0, none⟩) (by show w.heap.size ≤ p1; omega) (.int .i64 y))
        go_wp2_with fail
        go_ret2
        exact ⟨some ⟨p1, 0, none⟩, some ⟨p2, 0, none⟩, c1, c2, P.set 0 y, Q, by rw [List.length_set] <;> rfl, (by first | omega | (simp; done) | (simp; omega) | (simp at *; omega)), (by first | omega | (simp; done) | (simp; omega) | (simp at *; omega)), by simpa using own_cple own1 rfl, by simpa using own_cple own2 rfl, own_rdm encI_len hset, own_rdm encI_len own2, HB⟩
      by_cases y1 : y = 1
      · subst y1
        have hP1 : (0 : Int) < (Q.length : Int) := by omega
        go_wp2_with fail
        refine (among_lit _ _ _ _ _ _ _ _ (by simp [intOf]) (by rfl) (by first | rfl | simp) (by omega) (by omega) (by assumption) (by omega)).mono ?_
        rintro e w1 ⟨y, rfl, hx_y, hcur, hm⟩
        clear hx_y
        have own1 := own_moved hm (by omega) own1
        have own2 := own_moved hm (by omega) own2
        have HB := HB.trans (below_moved hm (Nat.le_refl _) (by omega)); have hsz := hm.size; clear hm
        have hfz := Own.frozen_ own2 rfl 0
        obtain ⟨v0, hv0⟩ : ∃ v, Q[0]? = some v := ⟨_, List.getElem?_eq_getElem (by omega)⟩
        have u0 := own_int own2 rfl hv0
        have hset := Own.set_cell encI_len own2 rfl (k := 0) (j := 0) (c' := y) hv0 (by omega) (u := .int .i64 y) rfl
        have own1 := set_keep (k := 0) (u := .int .i64 y) own1 hne
        have hgq := own_geq own2
        have HB := HB.trans ((Below.refl w.heap.size w1).setCell (p := ⟨p2, 0, none⟩) (by show w.heap.size ≤ p2; omega) (.int .i64 y))
        go_wp2_with fail
        go_ret2
        exact ⟨some ⟨p1, 0, none⟩, some ⟨p2, 0, none⟩, c1, c2, P, Q.set 0 y, by rw [List.length_set] <;> rfl, (by first | omega | (simp; done) | (simp; omega) | (simp at *; omega)), (by first | omega | (simp; done) | (simp; omega) | (simp at *; omega)), by simpa using own_cple own1 rfl, by simpa using own_cple own2 rfl, own_rdm encI_len own1, own_rdm encI_len hset, HB⟩
      by_cases y2 : y = 2
      · subst y2
        go_wp2_with (at_builtin; refine wpList_push2 _ rfl (.tmp 50) (.tmp 51) 47 3 rfl Try.underlying47 infoI rfl (by omega) (by omega) encI_len encI_one (w.heap.size + 1) _ _ Q 1 _ rfl rfl _ rfl rfl own2 (by omega) (by omega) ?_; intro q2 cp2 w5 ho5 hb5 hg5 hq5; have own1o := own1; have own1 := push_keep own1o hg5 hne; have hne := push_ne own1o hq5 hne; have own2 := ho5; have hcur := hcur.low (by omega) hb5; have hz5 := hb5.size; have HB := HB.trans (hb5.mono (by omega)); clear ho5 hb5 hg5 hq5 own1o)
        go_ret2
        exact ⟨some ⟨p1, 0, none⟩, some ⟨q2, 0, none⟩, c1, cp2, P, Q ++ [1], by rw [List.length_append]; rfl, (by first | omega | (simp; done) | (simp; omega) | (simp at *; omega)), (by first | omega | (simp; done) | (simp; omega) | (simp at *; omega)), own_cple own1 rfl, (by have h := own_cple own2 (by simp); rw [List.length_append]; exact h), own_rdm encI_len own1, own_rdm encI_len own2, HB⟩
      by_cases y3 : y = 3
      · subst y3
        go_wp2_with fail
        go_loopw [5, 6] (fun x1 x2 wr => ∃ (p1 p2 c1 c2 : Nat) (P Q : List Int), x1 = .slice (some ⟨p1, 0, none⟩) P.length c1 ∧ x2 = .slice (some ⟨p2, 0, none⟩) Q.length c2 ∧ P.length ≤ 21 ∧ Q.length ≤ P.length + 5 ∧ p1 ≠ p2 ∧ Own encI 1 3 (w.heap.size + 1) wr (.slice (some ⟨p1, 0, none⟩) P.length c1) P ∧ Own encI 1 3 (w.heap.size + 1) wr (.slice (some ⟨p2, 0, none⟩) Q.length c2) Q ∧ Cur w.heap.size wr w.heap.size (100 + 2 * P.length) ∧ Below w.heap.size w wr ∧ w.heap.size + 1 ≤ wr.heap.size) (fun x1 _ _ => 40 - lenOf x1)
        case atStart => exact ⟨_, _, _, _, P, Q, rfl, rfl, by omega, by omega, hne, own1, own2, hcur.mono (by omega), HB, by omega⟩
        case round =>
          clear own1 own2 hcur HB hne hs1 hm5 hm1 hm6 hm2
          obtain ⟨p1, p2, c1, c2, P, Q, rfl, rfl, hP21, hQ26, hne, own1, own2, hcur, HB, hs1⟩ := hrel
          go_wp2_with fail
          refine (pick_any _ _ _ _ _ (by assumption) (by omega) (by omega) (by omega)).mono ?_
          rintro e w1 ⟨k, rfl, hj_k, hcur, hm⟩
          have own1 := own_moved hm (by omega) own1
          have own2 := own_moved hm (by omega) own2
          have HB := HB.trans (below_moved hm (Nat.le_refl _) (by omega)); have hsz := hm.size; clear hm
          by_cases hlt : (P.length : Int) < 20 + (k : Int)
          · go_wp2_with (first | (at_builtin; refine wpList_push2 _ rfl (.tmp 61) (.tmp 62) 47 3 rfl Try.underlying47 infoI rfl (by omega) (by omega) encI_len encI_one (w.heap.size + 1) _ _ P 5 _ rfl rfl _ rfl rfl own1 (by omega) (by omega) ?_; intro q1 cp1 w5 ho5 hb5 hg5 hq5; have own2o := own2; have own2 := push_keep own2o hg5 (Ne.symm hne); have hne := Ne.symm (push_ne own2o hq5 (Ne.symm hne)); have own1 := ho5; have hcur := hcur.low (by omega) hb5; have hz5 := hb5.size; have HB := HB.trans (hb5.mono (by omega)); clear ho5 hb5 hg5 hq5 own2o) | (at_builtin; refine wpList_push2 _ rfl (.tmp 64) (.tmp 65) 47 3 rfl Try.underlying47 infoI rfl (by omega) (by omega) encI_len encI_one (w.heap.size + 1) _ _ Q 5 _ rfl rfl _ rfl rfl own2 (by omega) (by omega) ?_; intro q2 cp2 w5 ho5 hb5 hg5 hq5; have own1o := own1; have own1 := push_keep own1o hg5 hne; have hne := push_ne own1o hq5 hne; have own2 := ho5; have hcur := hcur.low (by omega) hb5; have hz5 := hb5.size; have HB := HB.trans (hb5.mono (by omega)); clear ho5 hb5 hg5 hq5 own1o))
            go_roundw
            case rel => exact ⟨_, _, _, _, P ++ [5], Q ++ [5], sl_eq (by simp), sl_eq (by simp), (by first | omega | (simp; done) | (simp; omega) | (simp at *; omega)), (by first | omega | (simp; done) | (simp; omega) | (simp at *; omega)), hne, by rw [List.length_append]; exact own1, by rw [List.length_append]; exact own2, hcur.mono (by first | omega | (simp; done) | (simp; omega) | (simp at *; omega)), HB, by omega⟩
            case measure => simp [lenOf] <;> omega
          · go_wp2_with fail
            go_ret2
            exact ⟨_, _, _, _, P, Q, rfl, by omega, by omega, own_cple own1 rfl, own_cple own2 rfl, own_rdm encI_len own1, own_rdm encI_len own2, HB⟩
      have e0 : (y == 0) = false := by simpa using y0
      have e1 : (y == 1) = false := by simpa using y1
      have e2 : (y == 2) = false := by simpa using y2
      have e3 : (y == 3) = false := by simpa using y3
      clear y0 y1 y2 y3
      go_wp2_with fail
      go_ret2
      exact ⟨_, _, _, _, P, Q, rfl, by omega, by omega, own_cple own1 rfl, own_cple own2 rfl, own_rdm encI_len own1, own_rdm encI_len own2, HB⟩
    · have hq : (0 : Int) < (m : Int) := by omega
      go_wp2_with fail
      refine (among_lit _ _ _ _ _ _ _ _ (by simp [intOf]) (by rfl) (by first | rfl | simp) (by omega) (by omega) (by assumption) (by omega)).mono ?_
      rintro e w1 ⟨a, rfl, hx_a, hcur, hm⟩
      clear hx_a
      have own1 := own_moved hm (by omega) own1
      have own2 := own_moved hm (by omega) own2
      have HB := HB.trans (below_moved hm (Nat.le_refl _) (by omega)); have hsz := hm.size; clear hm
      go_wp2_with (at_builtin; refine wpList_push2 _ rfl (.tmp 20) (.tmp 24) 47 3 rfl Try.underlying47 infoI rfl (by omega) (by omega) encI_len encI_one (w.heap.size + 1) _ _ P a _ rfl rfl _ rfl rfl own1 (by omega) (by omega) ?_; intro q1 cp1 w5 ho5 hb5 hg5 hq5; have own2o := own2; have own2 := push_keep own2o hg5 (Ne.symm hne); have hne := Ne.symm (push_ne own2o hq5 (Ne.symm hne)); have own1 := ho5; have hcur := hcur.low (by omega) hb5; have hz5 := hb5.size; have HB := HB.trans (hb5.mono (by omega)); clear ho5 hb5 hg5 hq5 own2o)
      refine (among_lit _ _ _ _ _ _ _ _ (by simp [intOf]) (by rfl) (by first | rfl | simp) (by omega) (by omega) (by assumption) (by omega)).mono ?_
      rintro e w1 ⟨b, rfl, hx_b, hcur, hm⟩
      clear hx_b
      have own1 := own_moved hm (by omega) own1
      have own2 := own_moved hm (by omega) own2
      have HB := HB.trans (below_moved hm (Nat.le_refl _) (by omega)); have hsz := hm.size; clear hm
      go_wp2_with (at_builtin; refine wpList_push2 _ rfl (.tmp 26) (.tmp 30) 47 3 rfl Try.underlying47 infoI rfl (by omega) (by omega) encI_len encI_one (w.heap.size + 1) _ _ Q b _ rfl rfl _ rfl rfl own2 (by omega) (by omega) ?_; intro q2 cp2 w5 ho5 hb5 hg5 hq5; have own1o := own1; have own1 := push_keep own1o hg5 hne; have hne := push_ne own1o hq5 hne; have own2 := ho5; have hcur := hcur.low (by omega) hb5; have hz5 := hb5.size; have HB := HB.trans (hb5.mono (by omega)); clear ho5 hb5 hg5 hq5 own1o)
      go_roundw
      case rel => exact ⟨_, _, _, _, P ++ [a], Q ++ [b], m - 1, sl_eq (by simp), sl_eq (by simp), in_eq (by omega), (by first | omega | (simp; done) | (simp; omega) | (simp at *; omega)), (by first | omega | (simp; done) | (simp; omega) | (simp at *; omega)), (by first | omega | (simp; done) | (simp; omega) | (simp at *; omega)), (by first | omega | (simp; done) | (simp; omega) | (simp at *; omega)), hne, by rw [List.length_append]; exact own1, by rw [List.length_append]; exact own2, hcur.mono (by first | omega | (simp; done) | (simp; omega) | (simp at *; omega)), HB, by omega⟩
      case measure => simp [intOf] <;> omega
end Go.Proofs.Ytafefnpmgpmjpaa
