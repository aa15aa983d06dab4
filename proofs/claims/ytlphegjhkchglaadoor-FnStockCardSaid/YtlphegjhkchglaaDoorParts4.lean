/- Parts: the dearest part; the program's function and the reference's. -/
import Derived.Test.YtlphegjhkchglaaDoorParts3
namespace Go.Proofs.YtlphegjhkchglaaDoor
open Go Go.RowKit
set_option maxRecDepth 100000 in
set_option maxHeartbeats 1000000 in
theorem DearestPart_any (L : List Part) (A : Option Addr) (cap : Nat) (w : World) (hr : Rd Part.enc 5 w.heap.size w A L) (hok : ∀ c ∈ L, c.Ok) (hl : L.length ≤ maxLen) :
    Calls Tryd.prog 19 #[.slice A L.length cap] w fun e w' => e = .returned (.tuple #[.string (dearN L), .int .i64 (dearV L), .bool (dearB L)]) ∧ Below w.heap.size w w' := by
  cases hg : partsB L
  · have HB := hide (show dearB L = false by simp [dearB, hg])
    go_enter Tryd.func19, Tryd.ntmps19
    go_wp2_with (go_at_call 31; refine (AreParts_is hg _ _ _ hr hok hl).mono ?_; rintro e w1 ⟨rfl, hb1⟩)
    go_ret3
    exact ⟨by simp only [dearN, dearV, HB.out]; rfl, hb1⟩
  · by_cases hL : L.length = 0
    · have HB := hide (show dearB L = false by simp [dearB, hL])
      obtain rfl : L = [] := List.eq_nil_of_length_eq_zero hL
      go_enter Tryd.func19, Tryd.ntmps19
      go_wp2_with (go_at_call 31; refine (AreParts_is hg _ _ _ hr hok hl).mono ?_; rintro e w1 ⟨rfl, hb1⟩)
      go_ret3
      exact ⟨by simp only [dearN, dearV, HB.out]; rfl, hb1⟩
    · have hlen := riseB_len hg
      have HB := hide (show dearB L = true by simp [dearB, hg, hL])
      have HN := hide (show dearN L = (dearAt L L.length).name by simp [dearN, HB.out])
      have HV := hide (show dearV L = (dearAt L L.length).price * (dearAt L L.length).have_ by simp [dearV, HB.out])
      have hz : ((L.length : Int) == 0) = false := by rw [beq_eq_false_iff_ne]; omega
      have HI := hide (dear_in hL)
      have HG := hide hg; clear hg
      obtain ⟨b, o, rfl, hb, hc⟩ := Part.rd_at hr (by intro h; subst h; simp at hL)
      have hgz := List.getElem?_eq_getElem (show 0 < L.length by omega)
      obtain ⟨z0, z1, z2, z3, z4⟩ := hc 0 _ hgz
      have hd0 := hide (dear_zero hgz)
      generalize L[0] = cz at *
      clear hgz
      simp only [Nat.zero_mul, Nat.add_zero] at z0 z1 z2 z3 z4
      have hkz : (0 : Int) < (L.length : Int) := by omega
      go_enter Tryd.func19, Tryd.ntmps19
      go_wp2_with (go_at_call 31; refine (AreParts_is HG.out _ _ _ hr hok hl).mono ?_; rintro e w1 ⟨rfl, hb1⟩; have y0 := below_cell hb1 z0; have y1 := below_cell hb1 z1; have y2 := below_cell hb1 z2; have y3 := below_cell hb1 z3; have y4 := below_cell hb1 z4)
      go_loopw [21] (fun i wr => ∃ k : Nat, k ≤ L.length ∧ i = .int .i64 k ∧ Hid (wr.rangeAt w1.heap.size 0 (dearAt L k).enc) ∧ Hid (wr.there w1.heap.size 0 5) ∧ Below w.heap.size w wr) (fun i _ => L.length - (intOf i).toNat)
      case atStart => exact ⟨0, Nat.zero_le _, rfl, hide (by rw [hd0.out]; exact range_new _ _ _ _ rfl), hide (there_new _ _ _ 5 rfl), hb1.alloc hb1.size _⟩
      case round =>
        obtain ⟨k, hk, rfl, hra, hth, hbel⟩ := hrel
        obtain ⟨jj, hjj⟩ := HI.out k hk
        have hbb := dear_bd HG.out hjj
        by_cases hlt : k < L.length
        · have hget := List.getElem?_eq_getElem hlt
          obtain ⟨c0, c1, c2, c3, c4⟩ := hc k _ hget
          have HS := hide (dear_step hget)
          have hcb := dear_bd HG.out hget
          generalize L[k] = c at *
          clear hc hr hget hjj
          replace c0 := below_cell hbel c0
          replace c1 := below_cell hbel c1
          replace c2 := below_cell hbel c2
          replace c3 := below_cell hbel c3
          replace c4 := below_cell hbel c4
          generalize dearAt L k = d at *
          have hw1 := hb1.size
          have hki : (k : Int) < (L.length : Int) := by omega
          have hba : Below wr.heap.size wr (wr.alloc (.cells #[.string c.name, .int .i64 c.have_, .int .i64 c.least, .int .i64 c.lead, .int .i64 c.price] 27)) := (Below.refl _ _).alloc (Nat.le_refl _) _
          have e1 : wr.cell? ⟨w1.heap.size, 1, none⟩ = some (.int .i64 d.have_) := hra.out 1 _ rfl
          have e4 : wr.cell? ⟨w1.heap.size, 4, none⟩ = some (.int .i64 d.price) := hra.out 4 _ rfl
          have f1 := below_cell hba e1
          have f4 := below_cell hba e4
          by_cases hlow : d.price * d.have_ < c.price * c.have_
          · have hT := hide (show (wr.alloc (.cells #[.string c.name, .int .i64 c.have_, .int .i64 c.least, .int .i64 c.lead, .int .i64 c.price] 27)).there w1.heap.size 0 (#[.string c.name, .int .i64 c.have_, .int .i64 c.least, .int .i64 c.lead, .int .i64 c.price] : Array Value).size from there_below hba hth.out)
            go_wp2_with (with_reducible show wpList _ _ _ (⟨none, _, _, _, _, _⟩ :: _) _ _; refine wpList_store_mid rfl 27 (.tmp 5) (.tmp 36) rfl w1.heap.size 0 #[.string c.name, .int .i64 c.have_, .int .i64 c.least, .int .i64 c.lead, .int .i64 c.price] rfl rfl hT.out (by kernel_rfl) (by simp [Value.oneCell']) ?_)
            go_roundw
            case rel => exact ⟨k + 1, by omega, by go_num, hide (by rw [HS.out, dearStep, if_pos hlow]; exact World.rangeAt_setCells_same _ _ _ _ hT.out), hide (World.there_setCells hT.out _ _ _), below_setCells _ hw1 _ _ _ (hbel.alloc hbel.size _)⟩
            case measure => simp [intOf]; omega
          · go_wp2_with fail
            go_roundw
            case rel => exact ⟨k + 1, by omega, by go_num, hide (by rw [HS.out, dearStep, if_neg hlow]; exact range_below hba hra.out), hide (there_below hba hth.out), hbel.alloc hbel.size _⟩
            case measure => simp [intOf]; omega
        · obtain rfl : k = L.length := by omega
          generalize dearAt L L.length = d at *
          have e0 := after_cell (hra.out 0 _ rfl)
          have e1 := after_cell (hra.out 1 _ rfl)
          have e4 := after_cell (hra.out 4 _ rfl)
          go_wp2_with fail
          refine wp_region_after (by kernel_rfl) (by kernel_rfl) ?_
          repeat (go_big_quiet_step (fail))
          refine wpQuiet_nil ?_
          rintro w2 ⟨⟨_, hb2⟩, rfl⟩
          go_wp2_with fail
          go_ret3
          exact ⟨by rw [HN.out, HV.out, HB.out]; rfl, below_step hbel hb2 (Nat.le_refl _)⟩
set_option maxRecDepth 100000 in
set_option maxHeartbeats 1000000 in
theorem DearestPart_spec (L : List Part) (A : Option Addr) (cap : Nat) (w : World) (hr : Rd Part.enc 5 w.heap.size w A L) (hok : ∀ c ∈ L, c.Ok) (hl : L.length ≤ maxLen) :
    Calls Tryd.prog 20 #[.slice A L.length cap] w fun e w' => e = .returned (.tuple #[.string (dearN L), .int .i64 (dearV L), .bool (dearB L)]) ∧ Below w.heap.size w w' := by
  cases hg : partsB L
  · have HB := hide (show dearB L = false by simp [dearB, hg])
    go_enter Tryd.func20, Tryd.ntmps20
    go_wp2_with (go_at_call 35; refine (l23Good_is hg _ _ _ hr hok hl).mono ?_; rintro e w1 ⟨rfl, hb1⟩)
    go_ret3
    exact ⟨by simp only [dearN, dearV, HB.out]; rfl, hb1⟩
  · by_cases hL : L.length = 0
    · have HB := hide (show dearB L = false by simp [dearB, hL])
      obtain rfl : L = [] := List.eq_nil_of_length_eq_zero hL
      go_enter Tryd.func20, Tryd.ntmps20
      go_wp2_with (go_at_call 35; refine (l23Good_is hg _ _ _ hr hok hl).mono ?_; rintro e w1 ⟨rfl, hb1⟩)
      go_ret3
      exact ⟨by simp only [dearN, dearV, HB.out]; rfl, hb1⟩
    · have hlen := riseB_len hg
      have HB := hide (show dearB L = true by simp [dearB, hg, hL])
      have HN := hide (show dearN L = (dearAt L L.length).name by simp [dearN, HB.out])
      have HV := hide (show dearV L = (dearAt L L.length).price * (dearAt L L.length).have_ by simp [dearV, HB.out])
      have hz : ((L.length : Int) == 0) = false := by rw [beq_eq_false_iff_ne]; omega
      have HI := hide (dear_in hL)
      have HG := hide hg; clear hg
      obtain ⟨b, o, rfl, hb, hc⟩ := Part.rd_at hr (by intro h; subst h; simp at hL)
      have hgz := List.getElem?_eq_getElem (show 0 < L.length by omega)
      have hd0 := hide (dear_zero hgz)
      go_enter Tryd.func20, Tryd.ntmps20
      go_wp2_with (go_at_call 35; refine (l23Good_is HG.out _ _ _ hr hok hl).mono ?_; rintro e w1 ⟨rfl, hb1⟩)
      go_loopw [7, 5, 6] (fun i x y wr => ∃ k : Nat, k ≤ L.length ∧ i = .int .i64 k ∧ (k = 0 ∧ x = .string ⟨#[]⟩ ∧ y = .int .i64 (-1) ∨ 0 < k ∧ x = .string (dearAt L k).name ∧ y = .int .i64 ((dearAt L k).price * (dearAt L k).have_)) ∧ Below w.heap.size w wr) (fun i _ _ _ => L.length - (intOf i).toNat)
      case atStart => exact ⟨0, Nat.zero_le _, rfl, .inl ⟨rfl, rfl, rfl⟩, hb1⟩
      case round =>
        obtain ⟨k, hk, rfl, hxy, hbel⟩ := hrel
        obtain ⟨jj, hjj⟩ := HI.out k hk
        have hbb := dear_bd HG.out hjj
        clear hjj
        by_cases hlt : k < L.length
        · have hget := List.getElem?_eq_getElem hlt
          obtain ⟨c0, c1, c2, c3, c4⟩ := hc k _ hget
          have HS := hide (dear_step hget)
          have hcb := dear_bd HG.out hget
          have hd00 : k = 0 → dearAt L k = L[k] := fun h => by subst h; exact hd0.out
          generalize L[k] = c at *
          clear hc hr hget hgz
          have q0 := after_cell (below_cell hbel c0)
          have q1 := after_cell (below_cell hbel c1)
          have q4 := after_cell (below_cell hbel c4)
          generalize dearAt L k = d at *
          have hki : (k : Int) < (L.length : Int) := by omega
          rcases hxy with ⟨rfl, rfl, rfl⟩ | ⟨hk0, rfl, rfl⟩
          · have hd : d = c := hd00 rfl
            clear hd00
            simp only [Nat.zero_mul, Nat.add_zero] at q0 q1 q4 c0
            have hlow : (-1 : Int) < c.price * c.have_ := by omega
            go_wp2_with fail
            refine wp_region_after (by kernel_rfl) (by kernel_rfl) ?_
            repeat (go_big_quiet_step (fail))
            refine wpQuiet_nil ?_
            rintro w2 ⟨⟨_, hb2⟩, rfl⟩
            have u0 := below_cell (below_step hbel hb2 (Nat.le_refl _)) c0
            go_wp2_with fail
            go_roundw
            case rel => exact ⟨0 + 1, by omega, by go_num, .inr ⟨by omega, by rw [HS.out, hd]; simp [dearStep], by rw [HS.out, hd]; simp [dearStep]⟩, below_step hbel hb2 (Nat.le_refl _)⟩
            case measure => simp [intOf]; omega
          · by_cases hlow : d.price * d.have_ < c.price * c.have_
            · go_wp2_with fail
              refine wp_region_after (by kernel_rfl) (by kernel_rfl) ?_
              repeat (go_big_quiet_step (fail))
              refine wpQuiet_nil ?_
              rintro w2 ⟨⟨_, hb2⟩, rfl⟩
              have u0 := below_cell (below_step hbel hb2 (Nat.le_refl _)) c0
              go_wp2_with fail
              go_roundw
              case rel => exact ⟨k + 1, by omega, by go_num, .inr ⟨by omega, by rw [HS.out, dearStep, if_pos hlow], by rw [HS.out, dearStep, if_pos hlow]⟩, below_step hbel hb2 (Nat.le_refl _)⟩
              case measure => simp [intOf]; omega
            · go_wp2_with fail
              refine wp_region_after (by kernel_rfl) (by kernel_rfl) ?_
              repeat (go_big_quiet_step (fail))
              refine wpQuiet_nil ?_
              rintro w2 ⟨⟨_, hb2⟩, rfl⟩
              go_wp2_with fail
              go_roundw
              case rel => exact ⟨k + 1, by omega, by go_num, .inr ⟨by omega, by rw [HS.out, dearStep, if_neg (by omega)], by rw [HS.out, dearStep, if_neg (by omega)]⟩, below_step hbel hb2 (Nat.le_refl _)⟩
              case measure => simp [intOf]; omega
        · obtain rfl : k = L.length := by omega
          rcases hxy with ⟨hk0, _, _⟩ | ⟨hk0, rfl, rfl⟩
          · omega
          · go_wp2_with fail
            go_ret3
            exact ⟨by rw [HN.out, HV.out, HB.out]; rfl, hbel⟩
end Go.Proofs.YtlphegjhkchglaaDoor
