/- DutyCounts: how many of the staff can do each duty; the program's function and the reference's. -/
import Derived.Test.YtfaicjlpncidgaaHours
import Derived.Test.YtfaicjlpncidgaaDel
import Derived.Test.YtfaicjlpncidgaaInts
namespace Go.Proofs.Ytfaicjlpncidgaa
open Go Go.RowKit
def dutyV (d : Int) (j : Nat) : Int := bits .and .i64 (d / 2 ^ min j 64) 1
def addUpto (d : Int) (s : List Int) (j : Nat) : List Int := s.mapIdx fun i x => if i < j then x + dutyV d i else x
def dutyS (L : List Worker) : List Int := L.foldl (fun s c => addUpto c.duties s 3) [0, 0, 0]
def dutyL (L : List Worker) : List Int := if staffB L then dutyS L else []
theorem dutyV_bd {d : Int} {j : Nat} (h1 : 1 ≤ d) (h7 : d ≤ 7) (hj : j < 3) : 0 ≤ dutyV d j ∧ dutyV d j ≤ 1 := by
  have hd : d = 1 ∨ d = 2 ∨ d = 3 ∨ d = 4 ∨ d = 5 ∨ d = 6 ∨ d = 7 := by omega
  have hj' : j = 0 ∨ j = 1 ∨ j = 2 := by omega
  rcases hd with rfl | rfl | rfl | rfl | rfl | rfl | rfl <;> rcases hj' with rfl | rfl | rfl <;> decide
theorem add_len (d : Int) (s : List Int) (j : Nat) : (addUpto d s j).length = s.length := by simp [addUpto]
theorem add_zero (d : Int) (s : List Int) : addUpto d s 0 = s := by
  apply List.ext_getElem (add_len d s 0)
  intro i h1 h2
  simp [addUpto]
theorem add_step {d : Int} {s : List Int} {j : Nat} {x : Int} (h : (addUpto d s j)[j]? = some x) : addUpto d s (j + 1) = (addUpto d s j).set j (x + dutyV d j) := by
  obtain ⟨hj, rfl⟩ := List.getElem?_eq_some_iff.1 h
  apply List.ext_getElem (by simp [addUpto])
  intro i h1 h2
  rw [List.getElem_set]
  split
  · rename_i he; subst he
    simp [addUpto]
  · rename_i he
    simp only [addUpto, List.getElem_mapIdx]
    by_cases hi : i < j
    · rw [if_pos hi, if_pos (by omega)]
    · rw [if_neg hi, if_neg (by omega)]
theorem add_bd {d : Int} {s : List Int} {j : Nat} {n : Int} (h1 : 1 ≤ d) (h7 : d ≤ 7) (hs : s.length = 3) (h : ∀ (i : Nat) (x : Int), s[i]? = some x → 0 ≤ x ∧ x ≤ n) : ∀ (i : Nat) (x : Int), (addUpto d s j)[i]? = some x → 0 ≤ x ∧ x ≤ n + 1 := by
  intro i x hx
  obtain ⟨hi, rfl⟩ := List.getElem?_eq_some_iff.1 hx
  have hi' : i < s.length := by rw [add_len] at hi; exact hi
  have := h i _ (List.getElem?_eq_getElem hi')
  have := dutyV_bd h1 h7 (show i < 3 by omega)
  simp only [addUpto, List.getElem_mapIdx]
  split <;> omega
theorem duty_step {L : List Worker} {k : Nat} {c : Worker} (hk : L[k]? = some c) : dutyS (L.take (k + 1)) = addUpto c.duties (dutyS (L.take k)) 3 := by
  obtain ⟨hlt, rfl⟩ := List.getElem?_eq_some_iff.1 hk
  unfold dutyS; rw [take_snocL L k hlt, List.foldl_append]; rfl
theorem duty_len (L : List Worker) : (dutyS L).length = 3 := by
  unfold dutyS
  suffices h : ∀ s : List Int, s.length = 3 → (L.foldl (fun s c => addUpto c.duties s 3) s).length = 3 from h _ rfl
  induction L with
  | nil => intro s h; exact h
  | cons c r ih => intro s h; exact ih _ (by rw [add_len]; exact h)
theorem duty_bd {L : List Worker} (h : staffB L = true) : ∀ k, k ≤ L.length → ∀ (i : Nat) (x : Int), (dutyS (L.take k))[i]? = some x → 0 ≤ x ∧ x ≤ k := by
  intro k
  induction k with
  | zero =>
    intro _ i x hx
    have hi := (List.getElem?_eq_some_iff.1 hx).1
    simp only [List.take_zero, dutyS, List.foldl_nil, List.length_cons, List.length_nil] at hi
    have : i = 0 ∨ i = 1 ∨ i = 2 := by omega
    rcases this with rfl | rfl | rfl <;> · simp [dutyS] at hx; omega
  | succ k ih =>
    intro hk i x hx
    have hg := List.getElem?_eq_getElem (show k < L.length by omega)
    have h1 := riseB_one h k _ hg
    simp only [workB, Bool.and_eq_true, inB_iff] at h1
    rw [duty_step hg] at hx
    have := add_bd (n := k) (by omega) (by omega) (duty_len _) (ih (by omega)) i x hx
    omega
theorem dutyL_len (L : List Worker) : (dutyL L).length ≤ 3 := by
  unfold dutyL; split
  · rw [duty_len]; exact Nat.le_refl _
  · exact Nat.zero_le _
theorem flat_int (L : List Int) : L.flatMap encI = L.map fun n => Value.int .i64 n := by
  induction L with
  | nil => rfl
  | cons c r ih => rw [List.flatMap_cons, ih]; rfl
theorem own_lit3 {T lo : Nat} {w : World} (hlo : lo ≤ w.heap.size) : Own encI 1 T lo (w.alloc (.cells #[.int .i64 0, .int .i64 0, .int .i64 0] T)) (.slice (some ⟨w.heap.size, 0, none⟩) 3 3) [0, 0, 0] :=
  World.ownsRow_lit w #[.int .i64 0, .int .i64 0, .int .i64 0] 3 hlo (by unfold maxLen; omega) rfl

set_option maxRecDepth 100000 in
set_option maxHeartbeats 1000000 in
theorem DutyCounts_any (L : List Worker) (A : Option Addr) (cap : Nat) (w : World) (hr : Rd Worker.enc 4 w.heap.size w A L) (hok : ∀ c ∈ L, c.Ok) (hl : L.length ≤ maxLen) :
    Calls Try.prog 20 #[.slice A L.length cap] w (Gives (dutyL L).length (fun v => .tuple #[v, .bool (staffB L)]) (fun w' v => Own encI 1 3 w.heap.size w' v (dutyL L)) w) := by
  cases hg : staffB L
  · have HV := hide (show dutyL L = [] by simp [dutyL, hg])
    go_enter Try.func20, Try.ntmps20
    go_wp2_with (go_at_call 17; refine (AreStaff_is hg _ _ _ hr hok hl).mono ?_; rintro e w1 ⟨rfl, hb1⟩)
    go_ret2
    rw [HV.out]
    exact ⟨none, 0, rfl, own_nil _ _ _, hb1⟩
  · have hlen := riseB_len hg
    have HV := hide (show dutyL L = dutyS L by simp [dutyL, hg])
    have HG := hide hg; clear hg
    go_enter Try.func20, Try.ntmps20
    go_wp2_with (go_at_call 17; refine (AreStaff_is HG.out _ _ _ hr hok hl).mono ?_; rintro e w1 ⟨rfl, hb1⟩)
    go_loopw [14] (fun i wr => ∃ k : Nat, k ≤ L.length ∧ i = .int .i64 k ∧ Own encI 1 3 w.heap.size wr (.slice (some ⟨w1.heap.size, 0, none⟩) 3 3) (dutyS (L.take k)) ∧ Below w.heap.size w wr) (fun i _ => L.length - (intOf i).toNat)
    case atStart => exact ⟨0, Nat.zero_le _, rfl, own_lit3 hb1.size, hb1.alloc hb1.size _⟩
    case round =>
      obtain ⟨k, hk, rfl, hown, hbel⟩ := hrel
      by_cases hlt : k < L.length
      · obtain ⟨b, o, rfl, hb, hc⟩ := Worker.rd_at hr (by intro h; subst h; simp at hlt)
        have hget := List.getElem?_eq_getElem hlt
        obtain ⟨c0, c1, c2, c3⟩ := hc k _ hget
        have HS := hide (duty_step hget)
        have hwk := riseB_one HG.out k _ hget
        have hsb := hide (duty_bd HG.out k hk)
        have hsl := duty_len (L.take k)
        generalize L[k] = c at *
        simp only [workB, Bool.and_eq_true, inB_iff] at hwk
        obtain ⟨_, _, hdu, _⟩ := hwk
        clear hc hr hget
        replace c0 := below_cell hbel c0
        replace c1 := below_cell hbel c1
        replace c2 := below_cell hbel c2
        replace c3 := below_cell hbel c3
        generalize dutyS (L.take k) = U at *
        have hwb := hbel.size
        have hw1 := hb1.size
        obtain ⟨_, hA, _, hgo⟩ := Own.lo_le hown (by omega)
        cases hA
        have hki : (k : Int) < (L.length : Int) := by omega
        obtain ⟨wo, hwo⟩ : ∃ wo : World, wo = wr := ⟨_, rfl⟩
        subst hwo
        go_wp2_with fail
        go_loopw [20] (fun i wr => ∃ j : Nat, j ≤ 3 ∧ i = .int .i64 j ∧ Own encI 1 3 w.heap.size wr (.slice (some ⟨w1.heap.size, 0, none⟩) 3 3) (addUpto c.duties U j) ∧ Below w.heap.size w wr ∧ wr.cell? ⟨wo.heap.size, 2, none⟩ = some (.int .i64 c.duties)) (fun i _ => 3 - (intOf i).toNat)
        case atStart => exact ⟨0, by omega, rfl, by rw [add_zero]; exact World.ownsRow.alloc hown _, hbel.alloc hbel.size _, by simp⟩
        case round =>
          clear hown hbel
          obtain ⟨j, hj, rfl, hown, hbel, hbox⟩ := hrel
          by_cases hj3 : j < 3
          · have hlen3 : (addUpto c.duties U j).length = 3 := by rw [add_len, hsl]
            have hgj := List.getElem?_eq_getElem (show j < (addUpto c.duties U j).length by omega)
            have HA := hide (add_step hgj)
            have hbx := add_bd (j := j) hdu.1 hdu.2 hsl hsb.out j _ hgj
            have hvb := dutyV_bd hdu.1 hdu.2 hj3
            have hcell := own_int hown hlen3 hgj
            generalize (addUpto c.duties U j)[j] = x at *
            clear hgj
            have hji : (j : Int) < 3 := by omega
            obtain ⟨_, hA, _, hgw⟩ := Own.lo_le hown (by omega)
            cases hA
            have hfz : wr.frozen? ⟨w1.heap.size, j, none⟩ = false := own_int_frozen hown hlen3 j
            have hW := hide (show wrap64 (x + bits BinOp.and IntKind.i64 (c.duties / 2 ^ min j 64) 1) = x + dutyV c.duties j by unfold wrap64; unfold dutyV at *; omega)
            have hset := hide (own_int_set hown hlen3 (by omega) (x + dutyV c.duties j))
            have hbx2 : (World.setCell wr ⟨w1.heap.size, j, none⟩ (.int .i64 (x + dutyV c.duties j))).cell? ⟨wo.heap.size, 2, none⟩ = some (.int .i64 c.duties) := (World.cell?_setCell_other _ _ _ _ (by intro h; injection h with h; omega)).trans hbox
            clear hown
            go_wp2_with fail
            refine wp_region_tail 12 (by kernel_rfl) (by kernel_rfl) ?_
            simp only [List.take_succ_cons, List.take_zero, List.drop_succ_cons, List.drop_zero]
            repeat (first | still_step)
            refine wpStill_nil ?_
            go_wp2_with fail
            go_roundw
            case rel => exact ⟨j + 1, by omega, by go_num, by rw [HA.out, hW.out]; exact hset.out, by rw [hW.out]; exact (hbel.setCell (p := ⟨w1.heap.size, j, none⟩) (by show w.heap.size ≤ w1.heap.size; omega) _).drew, by rw [hW.out]; exact hbx2⟩
            case measure => simp [intOf]; omega
          · obtain rfl : j = 3 := by omega
            go_wp2_with fail
            go_roundw
            case rel => exact ⟨k + 1, by omega, by go_num, by rw [HS.out]; exact hown, hbel⟩
            case measure => simp [intOf]; omega
      · obtain rfl : k = L.length := by omega
        rw [List.take_length] at hown
        go_wp2_with fail
        go_ret2
        rw [HV.out]
        exact ⟨_, 3, by rw [duty_len]; rfl, by rw [duty_len]; exact hown, hbel⟩

set_option maxRecDepth 100000 in
set_option maxHeartbeats 1000000 in
theorem DutyCounts_spec (L : List Worker) (A : Option Addr) (cap : Nat) (w : World) (hr : Rd Worker.enc 4 w.heap.size w A L) (hok : ∀ c ∈ L, c.Ok) (hl : L.length ≤ maxLen) :
    Calls Try.prog 19 #[.slice A L.length cap] w (Gives (dutyL L).length (fun v => .tuple #[v, .bool (staffB L)]) (fun w' v => Own encI 1 3 w.heap.size w' v (dutyL L)) w) := by
  cases hg : staffB L
  · have HV := hide (show dutyL L = [] by simp [dutyL, hg])
    go_enter Try.func19, Try.ntmps19
    go_wp2_with (go_at_call 62; refine (l22Staff_is hg _ _ _ hr hok hl).mono ?_; rintro e w1 ⟨rfl, hb1⟩)
    go_ret2
    rw [HV.out]
    exact ⟨some ⟨w1.heap.size, 0, none⟩, 0, rfl, own_empty hb1.size, hb1.alloc hb1.size _⟩
  · have hlen := riseB_len hg
    have HV := hide (show dutyL L = dutyS L by simp [dutyL, hg])
    have HG := hide hg; clear hg
    have hmk : ∀ W : World, (Instr.makeSlice 29 (.int .i64 3) (.int .i64 3)).run Try.prog W = .ok (.slice (some ⟨W.heap.size, 0, none⟩) 3 3) (W.alloc (.cells #[.int .i64 0, .int .i64 0, .int .i64 0] 3)) := fun W => by
      obtain ⟨i0, hi, hz0, hz1, hz2⟩ := info_parts infoI
      have := run_make_rowN (P := Try.prog) 29 3 i0 _ Try.underlying29 hi hz0 .i64 .i64 3 3 (Nat.le_refl _) (by rw [hz2]; omega) (by omega) W
      have hm : madeCells (Value.int .i64 0).cells (3 * 1) = #[.int .i64 0, .int .i64 0, .int .i64 0] := by kernel_rfl
      rw [hz1, hm] at this
      exact this
    go_enter Try.func19, Try.ntmps19
    go_wp2_with (go_at_call 62; refine (l22Staff_is HG.out _ _ _ hr hok hl).mono ?_; rintro e w1 ⟨rfl, hb1⟩)
    go_loopw [5] (fun i wr => ∃ k : Nat, k ≤ L.length ∧ i = .int .i64 k ∧ Own encI 1 3 w.heap.size wr (.slice (some ⟨w1.heap.size, 0, none⟩) 3 3) (dutyS (L.take k)) ∧ Below w.heap.size w wr) (fun i _ => L.length - (intOf i).toNat)
    case atStart => exact ⟨0, Nat.zero_le _, rfl, own_lit3 hb1.size, hb1.alloc hb1.size _⟩
    case round =>
      obtain ⟨k, hk, rfl, hown, hbel⟩ := hrel
      by_cases hlt : k < L.length
      · obtain ⟨b, o, rfl, hb, hc⟩ := Worker.rd_at hr (by intro h; subst h; simp at hlt)
        have hget := List.getElem?_eq_getElem hlt
        obtain ⟨c0, c1, c2, c3⟩ := hc k _ hget
        have HS := hide (duty_step hget)
        have hwk := riseB_one HG.out k _ hget
        have hsb := hide (duty_bd HG.out k hk)
        have hsl := duty_len (L.take k)
        generalize L[k] = c at *
        simp only [workB, Bool.and_eq_true, inB_iff] at hwk
        obtain ⟨_, _, hdu, _⟩ := hwk
        clear hc hr hget c0 c1 c3
        replace c2 : w.cell? ⟨b, o + k * 4 + 2, none⟩ = some (.int .i64 c.duties) := c2
        generalize dutyS (L.take k) = U at *
        have hwb := hbel.size
        have hw1 := hb1.size
        obtain ⟨_, hA, _, hgo⟩ := Own.lo_le hown (by omega)
        cases hA
        have hki : (k : Int) < (L.length : Int) := by omega
        obtain ⟨wo, hwo⟩ : ∃ wo : World, wo = wr := ⟨_, rfl⟩
        subst hwo
        go_wp2_with fail
        go_loopw [6] (fun i wr => ∃ j : Nat, j ≤ 3 ∧ i = .int .i64 j ∧ Own encI 1 3 w.heap.size wr (.slice (some ⟨w1.heap.size, 0, none⟩) 3 3) (addUpto c.duties U j) ∧ Below w.heap.size w wr) (fun i _ => 3 - (intOf i).toNat)
        case atStart => exact ⟨0, by omega, rfl, by rw [add_zero]; exact hown, hbel⟩
        case round =>
          clear hown hbel
          obtain ⟨j, hj, rfl, hown, hbel⟩ := hrel
          by_cases hj3 : j < 3
          · have hlen3 : (addUpto c.duties U j).length = 3 := by rw [add_len, hsl]
            have hgj := List.getElem?_eq_getElem (show j < (addUpto c.duties U j).length by omega)
            have HA := hide (add_step hgj)
            have hbx := add_bd (j := j) hdu.1 hdu.2 hsl hsb.out j _ hgj
            have hvb := dutyV_bd hdu.1 hdu.2 hj3
            have hcell := own_int hown hlen3 hgj
            have hc2 := below_cell hbel c2
            generalize (addUpto c.duties U j)[j] = x at *
            clear hgj
            have hji : (j : Int) < 3 := by omega
            obtain ⟨_, hA, _, hgw⟩ := Own.lo_le hown (by omega)
            cases hA
            have hfz : wr.frozen? ⟨w1.heap.size, j, none⟩ = false := own_int_frozen hown hlen3 j
            have hW := hide (show wrap64 (x + bits BinOp.and IntKind.i64 (c.duties / 2 ^ min j 64) 1) = x + dutyV c.duties j by unfold wrap64; unfold dutyV at *; omega)
            have hset := hide (own_int_set hown hlen3 (by omega) (x + dutyV c.duties j))
            clear hown
            go_wp2_with fail
            refine wp_region_tail 17 (by kernel_rfl) (by kernel_rfl) ?_
            simp only [List.take_succ_cons, List.take_zero, List.drop_succ_cons, List.drop_zero]
            repeat (first | still_step)
            refine wpStill_nil ?_
            go_wp2_with fail
            go_roundw
            case rel => exact ⟨j + 1, by omega, by go_num, by rw [HA.out, hW.out]; exact hset.out, by rw [hW.out]; exact (hbel.setCell (p := ⟨w1.heap.size, j, none⟩) (by show w.heap.size ≤ w1.heap.size; omega) _).drew⟩
            case measure => simp [intOf]; omega
          · obtain rfl : j = 3 := by omega
            go_wp2_with fail
            go_roundw
            case rel => exact ⟨k + 1, by omega, by go_num, by rw [HS.out]; exact hown, hbel⟩
            case measure => simp [intOf]; omega
      · obtain rfl : k = L.length := by omega
        rw [List.take_length] at hown
        go_wp2_with fail
        go_ret2
        rw [HV.out]
        exact ⟨_, 3, by rw [duty_len]; rfl, by rw [duty_len]; exact hown, hbel⟩
end Go.Proofs.Ytfaicjlpncidgaa
