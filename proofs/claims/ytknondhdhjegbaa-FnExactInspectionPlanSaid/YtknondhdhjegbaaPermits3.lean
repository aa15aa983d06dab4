/- Permits: the worst grade and the conditions with it; the program's function and the reference's. -/
import Derived.Test.YtknondhdhjegbaaPermits2
namespace Go.Proofs.Ytknondhdhjegbaa
open Go Go.RowKit

def worstOf (L : List Condition) : Int := L.foldl (fun m c => max m c.grade) 0
def worstIn (L : List Condition) (g : Int) : List Int := (L.filter fun c => decide (c.grade = g)).map (·.number)
def worstB (L : List Condition) : Bool := goodC L && decide (L.length ≠ 0)
def worstV (L : List Condition) : Int := if worstB L then worstOf L else 0
def worstL (L : List Condition) : List Int := if worstB L then worstIn L (worstOf L) else []
theorem worstOf_step {L : List Condition} {k : Nat} (h : k < L.length) : worstOf (L.take (k + 1)) = max (worstOf (L.take k)) L[k].grade := by
  rw [take_snocL L k h, worstOf, List.foldl_append]; rfl
theorem worst_yes {L : List Condition} {k : Nat} {g : Int} (h : k < L.length) (hd : L[k].grade = g) : worstIn (L.take (k + 1)) g = worstIn (L.take k) g ++ [L[k].number] := by
  unfold worstIn; rw [take_snocL L k h, List.filter_append, List.map_append]; congr 1; simp [hd]
theorem worst_no {L : List Condition} {k : Nat} {g : Int} (h : k < L.length) (hd : ¬ L[k].grade = g) : worstIn (L.take (k + 1)) g = worstIn (L.take k) g := by
  unfold worstIn; rw [take_snocL L k h, List.filter_append, List.map_append]; simp [hd]
theorem worst_len (L : List Condition) (g : Int) : (worstIn L g).length ≤ L.length := by
  unfold worstIn; rw [List.length_map]; exact List.length_filter_le _ _
theorem worstL_len (L : List Condition) : (worstL L).length ≤ 12 := by
  unfold worstL
  split
  · rename_i h
    have := worst_len L (worstOf L)
    have := goodC_len (L := L) (by simp only [worstB, Bool.and_eq_true] at h; exact h.1)
    omega
  · exact Nat.zero_le _

set_option maxHeartbeats 2000000 in
theorem WorstGrade_any (L : List Condition) (A : Option Addr) (cap : Nat) (w : World) (hr : Rd Condition.enc 5 w.heap.size w A L) (hok : ∀ c ∈ L, c.Ok) (hl : L.length ≤ maxLen) :
    Calls Try.prog 24 #[.slice A L.length cap] w (Gives (worstL L).length (fun v => .tuple #[.int .i64 (worstV L), v, .bool (worstB L)]) (fun w' v => Own encI 1 3 w.heap.size w' v (worstL L)) w) := by
  cases hg : goodC L
  · have hf : worstB L = false := by simp [worstB, hg]
    have hv : worstL L = [] := by simp [worstL, hf]
    go_enter Try.func24, Try.ntmps24
    go_wp2_with (go_at_call 19; refine (AreC_is hg _ _ _ hr hok hl).mono ?_; rintro e w1 ⟨rfl, hb1⟩)
    go_ret3
    exact ⟨none, 0, by simp [hv, hf, worstV], by rw [hv]; exact own_nil _ _ _, hb1⟩
  · by_cases hL : L.length = 0
    · have hf : worstB L = false := by simp [worstB, hL]
      have hv : worstL L = [] := by simp [worstL, hf]
      obtain rfl : L = [] := List.eq_nil_of_length_eq_zero hL
      go_enter Try.func24, Try.ntmps24
      go_wp2_with (go_at_call 19; refine (AreC_is hg _ _ _ hr hok hl).mono ?_; rintro e w1 ⟨rfl, hb1⟩)
      go_ret3
      exact ⟨none, 0, by simp [hv, hf, worstV], by rw [hv]; exact own_nil _ _ _, hb1⟩
    · have hgc := hide (goodC_cond hg)
      have hlen := goodC_len hg
      have hz : ((L.length : Int) == 0) = false := by rw [beq_eq_false_iff_ne]; omega
      have HU := hide (show worstB L = true by simp only [worstB, hg, Bool.true_and]; exact decide_eq_true hL)
      have HV := hide (show worstL L = worstIn L (worstOf L) by simp [worstL, HU.out])
      have HW := hide (show worstV L = worstOf L by simp [worstV, HU.out])
      have HG := hide hg; clear hg
      have hcell : ∀ k, k < L.length → ∃ b o, A = some ⟨b, o, none⟩ := fun k hk => by
        obtain ⟨b, o, h, _⟩ := Condition.rd_at hr (by intro h; subst h; simp at hk)
        exact ⟨b, o, h⟩
      obtain ⟨b, o, rfl, hb, hc⟩ := Condition.rd_at hr (by intro h; subst h; simp at hL)
      clear hcell
      go_enter Try.func24, Try.ntmps24
      go_wp2_with (go_at_call 19; refine (AreC_is HG.out _ _ _ hr hok hl).mono ?_; rintro e w1 ⟨rfl, hb1⟩)
      have hbn : Below w.heap.size w (w1.alloc (.cells #[] 3)) := hb1.alloc hb1.size _
      have hown0 : Own encI 1 3 w.heap.size (w1.alloc (.cells #[] 3)) (.slice (some ⟨w1.heap.size, 0, none⟩) 0 0) [] := own_empty hb1.size
      go_loopw [22, 5] (fun i m wr => ∃ k : Nat, k ≤ L.length ∧ i = .int .i64 k ∧ m = .int .i64 (worstOf (L.take k)) ∧ Own encI 1 3 w.heap.size wr (.slice (some ⟨w1.heap.size, 0, none⟩) 0 0) [] ∧ Below w.heap.size w wr) (fun i _ _ => L.length - (intOf i).toNat)
      case atStart => exact ⟨0, Nat.zero_le _, rfl, rfl, hown0, hbn⟩
      case round =>
        obtain ⟨k, hk, rfl, rfl, hown, hbel⟩ := hrel
        by_cases hlt : k < L.length
        · obtain ⟨c0, c1, c2, c3, c4⟩ := hc k _ (List.getElem?_eq_getElem hlt)
          have HS := hide (worstOf_step hlt)
          generalize L[k] = c at *
          replace c0 := below_cell hbel c0
          replace c1 := below_cell hbel c1
          replace c2 := below_cell hbel c2
          replace c3 := below_cell hbel c3
          replace c4 := below_cell hbel c4
          generalize worstOf (L.take k) = m at *
          go_wp2_with fail
          all_goals
            go_roundw
            case rel => exact ⟨k + 1, by omega, by go_num, by rw [HS.out]; go_num, World.ownsRow.alloc hown _, hbel.alloc hbel.size _⟩
            case measure => simp [intOf]; omega
        · obtain rfl : k = L.length := by omega
          rw [List.take_length]
          go_wp2_with fail
          generalize worstOf L = g at *
          go_loopw [33, 6] (fun i m wr => ∃ (k : Nat) (A' : Option Addr) (cap' : Nat), k ≤ L.length ∧ i = .int .i64 k ∧ m = .slice A' (worstIn (L.take k) g).length cap' ∧ Own encI 1 3 w.heap.size wr (.slice A' (worstIn (L.take k) g).length cap') (worstIn (L.take k) g) ∧ Below w.heap.size w wr) (fun i _ _ => L.length - (intOf i).toNat)
          case atStart => exact ⟨0, _, _, Nat.zero_le _, rfl, rfl, hown, hbel⟩
          case round =>
            clear hown hbel
            obtain ⟨k, A', cap', hk, rfl, rfl, hown, hbel⟩ := hrel
            by_cases hlt : k < L.length
            · obtain ⟨c0, c1, c2, c3, c4⟩ := hc k _ (List.getElem?_eq_getElem hlt)
              have HY := hide (worst_yes (g := g) hlt)
              have HN := hide (worst_no (g := g) hlt)
              have hul := worst_len (L.take k) g
              have htl : (L.take k).length ≤ 12 := by rw [List.length_take]; omega
              generalize L[k] = c at *
              replace c0 := below_cell hbel c0
              replace c1 := below_cell hbel c1
              replace c2 := below_cell hbel c2
              replace c3 := below_cell hbel c3
              replace c4 := below_cell hbel c4
              generalize worstIn (L.take k) g = U at *
              by_cases hday : c.grade = g
              · have hb0 : (c.grade == g) = true := by simp [hday]
                have HD := hide hday; clear hday
                have hwb := hbel.size
                have hown2 := World.ownsRow.alloc hown (.cells #[.int .i64 c.number, .string c.what, .int .i64 c.every, .int .i64 c.last, .int .i64 c.grade] 26)
                go_wp2_with (at_builtin; refine wpList_push _ rfl (.tmp 41) (.tmp 44) 39 3 rfl Try.underlying39 infoI rfl (by omega) (by omega) encI_len encI_one w.heap.size A' cap' U c.number _ rfl rfl _ rfl (by simp) hown2 (by simp; omega) (by omega) ?_; intro A2 cap2 w3 ho3 hb3)
                go_roundw
                case rel => exact ⟨k + 1, A2, cap2, by omega, by go_num, sl_eq (by rw [HY.out HD.out]; simp), by rw [HY.out HD.out, List.length_append]; exact ho3, (hbel.alloc hbel.size _).trans hb3⟩
                case measure => simp [intOf]; omega
              · have hb0 : (c.grade == g) = false := by simp [hday]
                go_wp2_with fail
                go_roundw
                case rel => exact ⟨k + 1, A', cap', by omega, by go_num, sl_eq (by rw [HN.out hday]), by rw [HN.out hday]; exact World.ownsRow.alloc hown _, hbel.alloc hbel.size _⟩
                case measure => simp [intOf]; omega
            · obtain rfl : k = L.length := by omega
              rw [List.take_length] at hown ⊢
              go_wp2_with fail
              go_ret3
              exact ⟨A', cap', ret_3 (in_eq HW.out.symm) (sl_eq (by rw [HV.out])) (bo_eq HU.out.symm), by rw [HV.out]; exact hown, hbel⟩

set_option maxHeartbeats 2000000 in
theorem WorstGrade_spec (L : List Condition) (A : Option Addr) (cap : Nat) (w : World) (hr : Rd Condition.enc 5 w.heap.size w A L) (hok : ∀ c ∈ L, c.Ok) (hl : L.length ≤ maxLen) :
    Calls Try.prog 23 #[.slice A L.length cap] w (Gives (worstL L).length (fun v => .tuple #[.int .i64 (worstV L), v, .bool (worstB L)]) (fun w' v => Own encI 1 3 w.heap.size w' v (worstL L)) w) := by
  have hba : Below w.heap.size w (w.alloc (.cells #[] 3)) := (Below.refl _ _).alloc (Nat.le_refl _) _
  have hra : Rd Condition.enc 5 (w.alloc (.cells #[] 3)).heap.size (w.alloc (.cells #[] 3)) A L := hr.later hba
  have howa : Own encI 1 3 w.heap.size (w.alloc (.cells #[] 3)) (.slice (some ⟨w.heap.size, 0, none⟩) 0 0) [] := own_empty (Nat.le_refl _)
  cases hg : goodC L
  · have hf : worstB L = false := by simp [worstB, hg]
    have hv : worstL L = [] := by simp [worstL, hf]
    go_enter Try.func23, Try.ntmps23
    go_wp2_with (go_at_call 52; refine (GoodC_is hg _ _ _ hra hok hl).mono ?_; rintro e w1 ⟨rfl, hb1⟩)
    go_ret3
    exact ⟨_, _, ret_3 (in_eq (by simp [worstV, hf])) (sl_eq (by rw [hv]; rfl)) (bo_eq hf.symm), by rw [hv]; exact Own.below howa hb1, below_new' hb1⟩
  · by_cases hL : L.length = 0
    · have hf : worstB L = false := by simp [worstB, hL]
      have hv : worstL L = [] := by simp [worstL, hf]
      obtain rfl : L = [] := List.eq_nil_of_length_eq_zero hL
      go_enter Try.func23, Try.ntmps23
      go_wp2_with (go_at_call 52; refine (GoodC_is hg _ _ _ hra hok hl).mono ?_; rintro e w1 ⟨rfl, hb1⟩)
      go_ret3
      exact ⟨_, _, ret_3 (in_eq (by simp [worstV, hf])) (sl_eq (by rw [hv]; rfl)) (bo_eq hf.symm), by rw [hv]; exact Own.below howa hb1, below_new' hb1⟩
    · have hgc := hide (goodC_cond hg)
      have hlen := goodC_len hg
      have hz : ((L.length : Int) == 0) = false := by rw [beq_eq_false_iff_ne]; omega
      have HU := hide (show worstB L = true by simp only [worstB, hg, Bool.true_and]; exact decide_eq_true hL)
      have HV := hide (show worstL L = worstIn L (worstOf L) by simp [worstL, HU.out])
      have HW := hide (show worstV L = worstOf L by simp [worstV, HU.out])
      have HG := hide hg; clear hg
      obtain ⟨b, o, rfl, hb, hc⟩ := Condition.rd_at hr (by intro h; subst h; simp at hL)
      go_enter Try.func23, Try.ntmps23
      go_wp2_with (go_at_call 52; refine (GoodC_is HG.out _ _ _ hra hok hl).mono ?_; rintro e w1 ⟨rfl, hb1⟩)
      go_loopw [7, 6] (fun i m wr => ∃ k : Nat, k ≤ L.length ∧ i = .int .i64 k ∧ m = .int .i64 (worstOf (L.take k)) ∧ Own encI 1 3 w.heap.size wr (.slice (some ⟨w.heap.size, 0, none⟩) 0 0) [] ∧ Below w.heap.size w wr) (fun i _ _ => L.length - (intOf i).toNat)
      case atStart => exact ⟨0, Nat.zero_le _, rfl, rfl, Own.below howa hb1, below_new' hb1⟩
      case round =>
        obtain ⟨k, hk, rfl, rfl, hown, hbel⟩ := hrel
        by_cases hlt : k < L.length
        · obtain ⟨c0, c1, c2, c3, c4⟩ := hc k _ (List.getElem?_eq_getElem hlt)
          have HS := hide (worstOf_step hlt)
          generalize L[k] = c at *
          replace c4 := below_cell hbel c4
          generalize worstOf (L.take k) = m at *
          go_wp2_with (go_at_call 58; refine (l1Most_any _ _ _).mono ?_; rintro e w3 ⟨rfl, rfl⟩)
          go_roundw
          case rel => exact ⟨k + 1, by omega, by go_num, by rw [HS.out], hown, hbel⟩
          case measure => simp [intOf]; omega
        · obtain rfl : k = L.length := by omega
          rw [List.take_length]
          go_wp2_with fail
          generalize worstOf L = g at *
          go_loopw [8, 5] (fun i m wr => ∃ (k : Nat) (A' : Option Addr) (cap' : Nat), k ≤ L.length ∧ i = .int .i64 k ∧ m = .slice A' (worstIn (L.take k) g).length cap' ∧ Own encI 1 3 w.heap.size wr (.slice A' (worstIn (L.take k) g).length cap') (worstIn (L.take k) g) ∧ Below w.heap.size w wr) (fun i _ _ => L.length - (intOf i).toNat)
          case atStart => exact ⟨0, _, _, Nat.zero_le _, rfl, rfl, hown, hbel⟩
          case round =>
            clear hown hbel
            obtain ⟨k, A', cap', hk, rfl, rfl, hown, hbel⟩ := hrel
            by_cases hlt : k < L.length
            · obtain ⟨c0, c1, c2, c3, c4⟩ := hc k _ (List.getElem?_eq_getElem hlt)
              have HY := hide (worst_yes (g := g) hlt)
              have HN := hide (worst_no (g := g) hlt)
              have hul := worst_len (L.take k) g
              have htl : (L.take k).length ≤ 12 := by rw [List.length_take]; omega
              generalize L[k] = c at *
              replace c0 := below_cell hbel c0
              replace c4 := below_cell hbel c4
              generalize worstIn (L.take k) g = U at *
              by_cases hday : c.grade = g
              · have hb0 : (c.grade == g) = true := by simp [hday]
                have HD := hide hday; clear hday
                have hwb := hbel.size
                go_wp2_with (at_builtin; refine wpList_push _ rfl (.tmp 45) (.tmp 51) 39 3 rfl Try.underlying39 infoI rfl (by omega) (by omega) encI_len encI_one w.heap.size A' cap' U c.number _ rfl rfl _ rfl rfl hown (by omega) (by omega) ?_; intro A2 cap2 w3 ho3 hb3)
                go_roundw
                case rel => exact ⟨k + 1, A2, cap2, by omega, by go_num, sl_eq (by rw [HY.out HD.out]; simp), by rw [HY.out HD.out, List.length_append]; exact ho3, hbel.trans hb3⟩
                case measure => simp [intOf]; omega
              · have hb0 : (c.grade == g) = false := by simp [hday]
                go_wp2_with fail
                go_roundw
                case rel => exact ⟨k + 1, A', cap', by omega, by go_num, sl_eq (by rw [HN.out hday]), by rw [HN.out hday]; exact hown, hbel⟩
                case measure => simp [intOf]; omega
            · obtain rfl : k = L.length := by omega
              rw [List.take_length] at hown ⊢
              go_wp2_with fail
              go_ret3
              exact ⟨A', cap', ret_3 (in_eq HW.out.symm) (sl_eq (by rw [HV.out])) (bo_eq HU.out.symm), by rw [HV.out]; exact hown, hbel⟩
end Go.Proofs.Ytknondhdhjegbaa
