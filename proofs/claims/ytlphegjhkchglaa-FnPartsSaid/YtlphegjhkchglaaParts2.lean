/- Parts: what is to be ordered and what it costs; the program's functions and the reference's. -/
import Derived.Test.YtlphegjhkchglaaParts
import Derived.Test.YtlphegjhkchglaaLibPart
import Derived.Test.YtlphegjhkchglaaInts
import Derived.Test.YtlphegjhkchglaaPush
namespace Go.Proofs.Ytlphegjhkchglaa
open Go Go.RowKit
theorem parts_bd {L : List Part} (h : partsB L = true) {k : Nat} {c : Part} (hk : L[k]? = some c) : (0 ≤ c.have_ ∧ c.have_ ≤ 500) ∧ (0 ≤ c.least ∧ c.least ≤ 500) ∧ (0 ≤ c.lead ∧ c.lead ≤ 200) ∧ (0 ≤ c.price ∧ c.price ≤ 100000) := by
  have := riseB_one h k c hk
  simp only [stockOk, stockB, Bool.and_eq_true, inB_iff] at this
  exact ⟨this.2.1, this.2.2.1, this.2.2.2.1, this.2.2.2.2⟩
def missOf (c : Part) : Int := max (c.least - c.have_) 0
def orderL (L : List Part) : List Int := L.map missOf
def orderV (L : List Part) : List Int := if partsB L then orderL L else []
theorem order_step {L : List Part} {k : Nat} {c : Part} (hk : L[k]? = some c) : orderL (L.take (k + 1)) = orderL (L.take k) ++ [missOf c] := by
  obtain ⟨hlt, rfl⟩ := List.getElem?_eq_some_iff.1 hk
  unfold orderL; rw [take_snocL L k hlt, List.map_append]; rfl
theorem orderV_len (L : List Part) : (orderV L).length ≤ 10 := by
  unfold orderV
  split
  · rename_i h; simp only [orderL, List.length_map]; exact riseB_len h
  · exact Nat.zero_le _

set_option maxRecDepth 100000 in
set_option maxHeartbeats 2000000 in
theorem ToOrder_any (L : List Part) (A : Option Addr) (cap : Nat) (w : World) (hr : Rd Part.enc 5 w.heap.size w A L) (hok : ∀ c ∈ L, c.Ok) (hl : L.length ≤ maxLen) :
    Calls Try.prog 23 #[.slice A L.length cap] w (Gives (orderV L).length (fun v => .tuple #[v, .bool (partsB L)]) (fun w' v => Own encI 1 3 w.heap.size w' v (orderV L)) w) := by
  cases hg : partsB L
  · have HV := hide (show orderV L = [] by simp [orderV, hg])
    go_enter Try.func23, Try.ntmps23
    go_wp2_with (go_at_call 16; refine (AreParts_is hg _ _ _ hr hok hl).mono ?_; rintro e w1 ⟨rfl, hb1⟩)
    go_ret2
    rw [HV.out]
    exact ⟨none, 0, rfl, own_nil _ _ _, hb1⟩
  · have hlen := riseB_len hg
    have HV := hide (show orderV L = orderL L by simp [orderV, hg])
    have HG := hide hg; clear hg
    go_enter Try.func23, Try.ntmps23
    go_wp2_with (go_at_call 16; refine (AreParts_is HG.out _ _ _ hr hok hl).mono ?_; rintro e w1 ⟨rfl, hb1⟩)
    have hbn : Below w.heap.size w (w1.alloc (.cells #[] 3)) := hb1.alloc hb1.size _
    have hown0 : Own encI 1 3 w.heap.size (w1.alloc (.cells #[] 3)) (.slice (some ⟨w1.heap.size, 0, none⟩) 0 0) [] := own_empty hb1.size
    go_loopw [13, 4] (fun i m wr => ∃ (k : Nat) (A' : Option Addr) (cap' : Nat), k ≤ L.length ∧ i = .int .i64 k ∧ m = .slice A' (orderL (L.take k)).length cap' ∧ Own encI 1 3 w.heap.size wr (.slice A' (orderL (L.take k)).length cap') (orderL (L.take k)) ∧ Below w.heap.size w wr) (fun i _ _ => L.length - (intOf i).toNat)
    case atStart => exact ⟨0, _, _, Nat.zero_le _, rfl, rfl, hown0, hbn⟩
    case round =>
      clear hown0
      obtain ⟨k, A', cap', hk, rfl, rfl, hown, hbel⟩ := hrel
      by_cases hlt : k < L.length
      · obtain ⟨b, o, rfl, hb, hc⟩ := Part.rd_at hr (by intro h; subst h; simp at hlt)
        have hget := List.getElem?_eq_getElem hlt
        obtain ⟨c0, c1, c2, c3, c4⟩ := hc k _ hget
        have HS := hide (order_step hget)
        obtain ⟨bd1, bd2, _, _⟩ := parts_bd HG.out hget
        have hul : (orderL (L.take k)).length ≤ 10 := by simp [orderL]; omega
        generalize L[k] = c at *
        clear hc hr hget
        replace c0 := below_cell hbel c0
        replace c1 := below_cell hbel c1
        replace c2 := below_cell hbel c2
        replace c3 := below_cell hbel c3
        replace c4 := below_cell hbel c4
        generalize orderL (L.take k) = U at *
        have hwb := hbel.size
        have hki : (k : Int) < (L.length : Int) := by omega
        have hown2 := World.ownsRow.alloc hown (.cells #[.string c.name, .int .i64 c.have_, .int .i64 c.least, .int .i64 c.lead, .int .i64 c.price] 62)
        by_cases hm : c.least - c.have_ < 0
        · have HM := hide (show missOf c = 0 by unfold missOf; omega)
          go_wp2_with (at_builtin; refine wpList_push _ rfl (.tmp 17) (.tmp 24) 33 3 rfl Try.underlying33 infoI rfl (by omega) (by omega) encI_len encI_one w.heap.size A' cap' U (0) _ rfl rfl _ rfl (by simp) hown2 (by simp; omega) (by omega) ?_; intro A2 cap2 w3 ho3 hb3)
          go_roundw
          case rel => exact ⟨k + 1, A2, cap2, by omega, by go_num, sl_eq (by rw [HS.out]; simp), by rw [HS.out, HM.out, List.length_append]; exact ho3, (hbel.alloc hbel.size _).trans hb3⟩
          case measure => simp [intOf]; omega
        · have HM := hide (show missOf c = c.least - c.have_ by unfold missOf; omega)
          go_wp2_with (at_builtin; refine wpList_push _ rfl (.tmp 17) (.tmp 24) 33 3 rfl Try.underlying33 infoI rfl (by omega) (by omega) encI_len encI_one w.heap.size A' cap' U (c.least - c.have_) _ rfl rfl _ rfl (by simp) hown2 (by simp; omega) (by omega) ?_; intro A2 cap2 w3 ho3 hb3)
          go_roundw
          case rel => exact ⟨k + 1, A2, cap2, by omega, by go_num, sl_eq (by rw [HS.out]; simp), by rw [HS.out, HM.out, List.length_append]; exact ho3, (hbel.alloc hbel.size _).trans hb3⟩
          case measure => simp [intOf]; omega
      · obtain rfl : k = L.length := by omega
        rw [List.take_length] at hown ⊢
        go_wp2_with fail
        go_ret2
        rw [HV.out]
        exact ⟨A', cap', rfl, hown, hbel⟩
set_option maxRecDepth 100000 in
set_option maxHeartbeats 2000000 in
theorem ToOrder_spec (L : List Part) (A : Option Addr) (cap : Nat) (w : World) (hr : Rd Part.enc 5 w.heap.size w A L) (hok : ∀ c ∈ L, c.Ok) (hl : L.length ≤ maxLen) :
    Calls Try.prog 22 #[.slice A L.length cap] w (Gives (orderV L).length (fun v => .tuple #[v, .bool (partsB L)]) (fun w' v => Own encI 1 3 w.heap.size w' v (orderV L)) w) := by
  have hba : Below w.heap.size w (w.alloc (.cells #[] 3)) := (Below.refl _ _).alloc (Nat.le_refl _) _
  have hown0 : Own encI 1 3 w.heap.size (w.alloc (.cells #[] 3)) (.slice (some ⟨w.heap.size, 0, none⟩) 0 0) [] := own_empty (Nat.le_refl _)
  cases hg : partsB L
  · have HV := hide (show orderV L = [] by simp [orderV, hg])
    go_enter Try.func22, Try.ntmps22
    go_wp2_with (go_at_call 50; refine (l23Good_is hg _ _ _ (hr.later hba) hok hl).mono ?_; rintro e w1 ⟨rfl, hb1⟩)
    go_ret2
    rw [HV.out]
    exact ⟨some ⟨w.heap.size, 0, none⟩, 0, rfl, Own.below hown0 hb1, below_step hba hb1 (Nat.le_refl _)⟩
  · have hlen := riseB_len hg
    have HV := hide (show orderV L = orderL L by simp [orderV, hg])
    have HG := hide hg; clear hg
    go_enter Try.func22, Try.ntmps22
    go_wp2_with (go_at_call 50; refine (l23Good_is HG.out _ _ _ (hr.later hba) hok hl).mono ?_; rintro e w1 ⟨rfl, hb1⟩)
    go_loopw [5, 4] (fun i m wr => ∃ (k : Nat) (A' : Option Addr) (cap' : Nat), k ≤ L.length ∧ i = .int .i64 k ∧ m = .slice A' (orderL (L.take k)).length cap' ∧ Own encI 1 3 w.heap.size wr (.slice A' (orderL (L.take k)).length cap') (orderL (L.take k)) ∧ Below w.heap.size w wr) (fun i _ _ => L.length - (intOf i).toNat)
    case atStart => exact ⟨0, _, _, Nat.zero_le _, rfl, rfl, Own.below hown0 hb1, below_step hba hb1 (Nat.le_refl _)⟩
    case round =>
      clear hown0
      obtain ⟨k, A', cap', hk, rfl, rfl, hown, hbel⟩ := hrel
      by_cases hlt : k < L.length
      · obtain ⟨b, o, rfl, hb, hc⟩ := Part.rd_at hr (by intro h; subst h; simp at hlt)
        have hget := List.getElem?_eq_getElem hlt
        obtain ⟨c0, c1, c2, c3, c4⟩ := hc k _ hget
        have HS := hide (order_step hget)
        obtain ⟨bd1, bd2, _, _⟩ := parts_bd HG.out hget
        have hul : (orderL (L.take k)).length ≤ 10 := by simp [orderL]; omega
        generalize L[k] = c at *
        clear hc hr hget
        replace c0 := below_cell hbel c0
        replace c1 := below_cell hbel c1
        replace c2 := below_cell hbel c2
        replace c3 := below_cell hbel c3
        replace c4 := below_cell hbel c4
        generalize orderL (L.take k) = U at *
        have hwb := hbel.size
        have hki : (k : Int) < (L.length : Int) := by omega
        have hown2 := World.ownsRow.drew hown
        have HM := hide (show missOf c = max 0 (IntKind.i64.wrap (c.least - c.have_)) by rw [IntKind.wrap_i64]; unfold missOf; omega)
        have n1 := World.new_ne wr _ c1
        have n2 := World.new_ne wr _ c2
        go_wp2_with fail
        go_region_held_law (fun w' => w'.cell? ⟨b, o + k * 5 + 1, none⟩ = some (.int .i64 c.have_) ∧ w'.cell? ⟨b, o + k * 5 + 2, none⟩ = some (.int .i64 c.least)) (first | exact ⟨(hb3.cell hb).trans c1, (hb3.cell hb).trans c2⟩ | go_keep) (first | (refine step_push (w := wr.drew) rfl (.tmp 17) (.tmp 30) 33 3 rfl Try.underlying33 infoI rfl (by omega) (by omega) encI_len encI_one w.heap.size A' cap' U (max 0 (IntKind.i64.wrap (c.least - c.have_))) _ rfl rfl _ rfl rfl hown2 hwb (by omega) ?_; intro A2 cap2 w3 ho3 hb3) | (go_at_call 54; refine (l1Most_any _ _ _).mono ?_; rintro e w' ⟨rfl, rfl⟩))
        go_wp2_with fail
        go_roundw
        case rel => exact ⟨k + 1, A2, cap2, by omega, by go_num, sl_eq (by rw [HS.out]; simp), by rw [HS.out, HM.out, List.length_append]; exact ho3, hbel.drew.trans hb3⟩
        case measure => simp [intOf]; omega
      · obtain rfl : k = L.length := by omega
        rw [List.take_length] at hown ⊢
        go_wp2_with fail
        go_ret2
        rw [HV.out]
        exact ⟨A', cap', rfl, hown, hbel⟩
end Go.Proofs.Ytlphegjhkchglaa
