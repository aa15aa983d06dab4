/- Permits: until when the permit holds, the conditions that are not met, the worst grade; the program's functions and the reference's. -/
import Derived.Test.YtknondhdhjegbaaInts
import Derived.Test.YtknondhdhjegbaaPermits
namespace Go.Proofs.Ytknondhdhjegbaa
open Go Go.RowKit

theorem goodC_cond {L : List Condition} (h : goodC L = true) : ∀ (k : Nat) (c : Condition), L[k]? = some c → condB c = true := by
  intro k c hk
  simp only [goodC, Bool.and_eq_true] at h
  have hlt : k < L.length := (List.getElem?_eq_some_iff.1 hk).1
  have := allAt_at h.1 hlt
  simp only [okAt, hk, Bool.and_eq_true] at this
  exact this.1
theorem goodC_len {L : List Condition} (h : goodC L = true) : L.length ≤ 12 := by
  simp only [goodC, Bool.and_eq_true] at h
  simpa using h.2
theorem condB_bd {c : Condition} (h : condB c = true) : (1 ≤ c.number ∧ c.number ≤ 99) ∧ (1 ≤ c.every ∧ c.every ≤ 1000) ∧ (0 ≤ c.last ∧ c.last ≤ 9999) ∧ (1 ≤ c.grade ∧ c.grade ≤ 5) := by
  simp only [condB, Bool.and_eq_true, inB_iff] at h
  exact ⟨h.1, h.2.2.1, h.2.2.2.1, h.2.2.2.2⟩
theorem endC_bd {c : Condition} (h : condB c = true) : -1 ≤ endC c ∧ endC c ≤ 10999 := by
  have := condB_bd h
  unfold endC
  split
  · omega
  · split <;> omega

def lastOf (L : List Condition) : Int := L.foldl (fun m c => min m (endC c)) 9999
def holdsB (L : List Condition) (day : Int) : Bool := goodC L && (inB day 0 9999 && decide (day ≤ lastOf L))
def holdsV (L : List Condition) (day : Int) : Int := if holdsB L day then lastOf L else 0
theorem lastOf_step {L : List Condition} {k : Nat} (h : k < L.length) : lastOf (L.take (k + 1)) = min (lastOf (L.take k)) (endC L[k]) := by
  rw [take_snocL L k h, lastOf, List.foldl_append]; rfl

theorem AreC_is {L : List Condition} {g : Bool} (h : goodC L = g) (A : Option Addr) (cap : Nat) (w : World) (hr : Rd Condition.enc 5 w.heap.size w A L) (hok : ∀ c ∈ L, c.Ok) (hl : L.length ≤ maxLen) :
    Calls Try.prog 19 #[.slice A L.length cap] w fun e w' => e = .returned (.bool g) ∧ Below w.heap.size w w' := h ▸ AreConditions_any L A cap w hr hok hl
theorem GoodC_is {L : List Condition} {g : Bool} (h : goodC L = g) (A : Option Addr) (cap : Nat) (w : World) (hr : Rd Condition.enc 5 w.heap.size w A L) (hok : ∀ c ∈ L, c.Ok) (hl : L.length ≤ maxLen) :
    Calls Try.prog 52 #[.slice A L.length cap] w fun e w' => e = .returned (.bool g) ∧ Below w.heap.size w w' := h ▸ l24Good_any L A cap w hr hok hl

set_option maxHeartbeats 1000000 in
theorem HoldsUntil_any (L : List Condition) (A : Option Addr) (cap : Nat) (day : Int) (w : World) (hr : Rd Condition.enc 5 w.heap.size w A L) (hok : ∀ c ∈ L, c.Ok) (hl : L.length ≤ maxLen) :
    Calls Try.prog 22 #[.slice A L.length cap, .int .i64 day] w fun e w' => e = .returned (.tuple #[.int .i64 (holdsV L day), .bool (holdsB L day)]) ∧ Below w.heap.size w w' := by
  cases hg : goodC L
  · have hf : holdsB L day = false := by simp [holdsB, hg]
    go_enter Try.func22, Try.ntmps22
    go_wp2_with (go_at_call 19; refine (AreC_is hg _ _ _ hr hok hl).mono ?_; rintro e w1 ⟨rfl, hb1⟩)
    go_ret2
    exact ⟨by simp [holdsV, hf], hb1⟩
  · cases hd : inB day 0 9999
    · have hf : holdsB L day = false := by simp [holdsB, hd]
      go_enter Try.func22, Try.ntmps22
      go_wp2_with (first | (go_at_call 19; refine (AreC_is hg _ _ _ hr hok hl).mono ?_; rintro e w1 ⟨rfl, hb1⟩) | (go_at_call 51; refine (isDate_any _ _).mono ?_; rintro e w2 ⟨rfl, rfl⟩))
      go_ret2
      exact ⟨by simp [holdsV, hf], hb1⟩
    · have hgc := hide (goodC_cond hg)
      have hlen := goodC_len hg
      have HG := hide hg; clear hg
      have HD := hide hd
      go_enter Try.func22, Try.ntmps22
      go_wp2_with (first | (go_at_call 19; refine (AreC_is HG.out _ _ _ hr hok hl).mono ?_; rintro e w1 ⟨rfl, hb1⟩) | (go_at_call 51; refine (isDate_any _ _).mono ?_; rintro e w2 ⟨rfl, rfl⟩))
      go_loopw [19, 6] (fun i m wr => ∃ k : Nat, k ≤ L.length ∧ i = .int .i64 k ∧ m = .int .i64 (lastOf (L.take k)) ∧ Below w.heap.size w wr) (fun i _ _ => L.length - (intOf i).toNat)
      case atStart => exact ⟨0, Nat.zero_le _, rfl, rfl, hb1⟩
      case round =>
        obtain ⟨k, hk, rfl, rfl, hbel⟩ := hrel
        by_cases hlt : k < L.length
        · obtain ⟨b, o, rfl, hb, hc⟩ := Condition.rd_at hr (by intro h; subst h; simp at hlt)
          obtain ⟨c0, c1, c2, c3, c4⟩ := hc k _ (List.getElem?_eq_getElem hlt)
          have hbd := condB_bd (hgc.out k _ (List.getElem?_eq_getElem hlt))
          have HS := hide (lastOf_step hlt)
          generalize L[k] = c at *
          replace c0 := below_cell hbel c0
          replace c1 := below_cell hbel c1
          replace c2 := below_cell hbel c2
          replace c3 := below_cell hbel c3
          replace c4 := below_cell hbel c4
          clear hc hr
          generalize lastOf (L.take k) = m at *
          go_wp2_with (go_at_call 57; refine (lastMet_any c _ (by omega) (by omega) (by omega) (by omega)).mono ?_; rintro e w2 ⟨rfl, hb2⟩)
          all_goals
            go_roundw
            case rel => exact ⟨k + 1, by omega, by go_num, by rw [HS.out]; go_num, below_next hbel hb2 (Nat.le_refl _)⟩
            case measure => simp [intOf]; omega
        · obtain rfl : k = L.length := by omega
          rw [List.take_length]
          by_cases hday : lastOf L < day
          · have hf : holdsB L day = false := by simp [holdsB]; omega
            go_wp2_with fail
            go_ret2
            exact ⟨by simp [holdsV, hf], hbel⟩
          · have hf : holdsB L day = true := by simp [holdsB, HG.out, HD.out]; omega
            go_wp2_with fail
            go_ret2
            exact ⟨by simp [holdsV, hf], hbel⟩

set_option maxHeartbeats 1000000 in
theorem HoldsUntil_spec (L : List Condition) (A : Option Addr) (cap : Nat) (day : Int) (w : World) (hr : Rd Condition.enc 5 w.heap.size w A L) (hok : ∀ c ∈ L, c.Ok) (hl : L.length ≤ maxLen) :
    Calls Try.prog 21 #[.slice A L.length cap, .int .i64 day] w fun e w' => e = .returned (.tuple #[.int .i64 (holdsV L day), .bool (holdsB L day)]) ∧ Below w.heap.size w w' := by
  cases hg : goodC L
  · have hf : holdsB L day = false := by simp [holdsB, hg]
    go_enter Try.func21, Try.ntmps21
    go_wp2_with (go_at_call 52; refine (GoodC_is hg _ _ _ hr hok hl).mono ?_; rintro e w1 ⟨rfl, hb1⟩)
    go_ret2
    exact ⟨by simp [holdsV, hf], hb1⟩
  · cases hd : inB day 0 9999
    · have hf : holdsB L day = false := by simp [holdsB, hd]
      go_enter Try.func21, Try.ntmps21
      go_wp2_with (first | (go_at_call 52; refine (GoodC_is hg _ _ _ hr hok hl).mono ?_; rintro e w1 ⟨rfl, hb1⟩) | (go_at_call 54; refine (l24Day_any _ _).mono ?_; rintro e w2 ⟨rfl, rfl⟩))
      go_ret2
      exact ⟨by simp [holdsV, hf], hb1⟩
    · have hgc := hide (goodC_cond hg)
      have hlen := goodC_len hg
      have HG := hide hg; clear hg
      have HD := hide hd
      go_enter Try.func21, Try.ntmps21
      go_wp2_with (first | (go_at_call 52; refine (GoodC_is HG.out _ _ _ hr hok hl).mono ?_; rintro e w1 ⟨rfl, hb1⟩) | (go_at_call 54; refine (l24Day_any _ _).mono ?_; rintro e w2 ⟨rfl, rfl⟩))
      go_loopw [7, 6] (fun i m wr => ∃ k : Nat, k ≤ L.length ∧ i = .int .i64 k ∧ m = .int .i64 (lastOf (L.take k)) ∧ Below w.heap.size w wr) (fun i _ _ => L.length - (intOf i).toNat)
      case atStart => exact ⟨0, Nat.zero_le _, rfl, rfl, hb1⟩
      case round =>
        obtain ⟨k, hk, rfl, rfl, hbel⟩ := hrel
        by_cases hlt : k < L.length
        · obtain ⟨b, o, rfl, hb, hc⟩ := Condition.rd_at hr (by intro h; subst h; simp at hlt)
          obtain ⟨c0, c1, c2, c3, c4⟩ := hc k _ (List.getElem?_eq_getElem hlt)
          have hbd := condB_bd (hgc.out k _ (List.getElem?_eq_getElem hlt))
          have HS := hide (lastOf_step hlt)
          generalize L[k] = c at *
          replace c0 := below_cell hbel c0
          replace c1 := below_cell hbel c1
          replace c2 := below_cell hbel c2
          replace c3 := below_cell hbel c3
          replace c4 := below_cell hbel c4
          clear hc hr
          generalize lastOf (L.take k) = m at *
          go_wp2_with (first | (go_at_call 56; refine (l24End_any c _ (by omega) (by omega) (by omega) (by omega)).mono ?_; rintro e w2 ⟨rfl, hb2⟩) | (go_at_call 55; refine (l1Least_any _ _ _).mono ?_; rintro e w3 ⟨rfl, rfl⟩))
          go_roundw
          case rel => exact ⟨k + 1, by omega, by go_num, by rw [HS.out], below_step hbel hb2 (Nat.le_refl _)⟩
          case measure => simp [intOf]; omega
        · obtain rfl : k = L.length := by omega
          rw [List.take_length]
          by_cases hday : lastOf L < day
          · have hf : holdsB L day = false := by simp [holdsB]; omega
            go_wp2_with fail
            go_ret2
            exact ⟨by simp [holdsV, hf], hbel⟩
          · have hf : holdsB L day = true := by simp [holdsB, HG.out, HD.out]; omega
            go_wp2_with fail
            go_ret2
            exact ⟨by simp [holdsV, hf], hbel⟩

/- the conditions that are not met on a day -/
def unmetB (L : List Condition) (day : Int) : Bool := goodC L && inB day 0 9999
def unmetOf (L : List Condition) (day : Int) : List Int := (L.filter fun c => decide (endC c < day)).map (·.number)
def unmetV (L : List Condition) (day : Int) : List Int := if unmetB L day then unmetOf L day else []
theorem unmet_yes {L : List Condition} {k : Nat} {day : Int} (h : k < L.length) (hd : endC L[k] < day) : unmetOf (L.take (k + 1)) day = unmetOf (L.take k) day ++ [L[k].number] := by
  unfold unmetOf; rw [take_snocL L k h, List.filter_append, List.map_append]; congr 1; simp [hd]
theorem unmet_no {L : List Condition} {k : Nat} {day : Int} (h : k < L.length) (hd : ¬ endC L[k] < day) : unmetOf (L.take (k + 1)) day = unmetOf (L.take k) day := by
  unfold unmetOf; rw [take_snocL L k h, List.filter_append, List.map_append]; simp; omega
theorem unmet_len (L : List Condition) (day : Int) : (unmetOf L day).length ≤ L.length := by
  unfold unmetOf; rw [List.length_map]; exact List.length_filter_le _ _
theorem unmetV_len (L : List Condition) (day : Int) : (unmetV L day).length ≤ 12 := by
  unfold unmetV
  split
  · rename_i h
    have := unmet_len L day
    have := goodC_len (L := L) (by simp only [unmetB, Bool.and_eq_true] at h; exact h.1)
    omega
  · exact Nat.zero_le _

set_option maxHeartbeats 1000000 in
theorem UnmetOn_any (L : List Condition) (A : Option Addr) (cap : Nat) (day : Int) (w : World) (hr : Rd Condition.enc 5 w.heap.size w A L) (hok : ∀ c ∈ L, c.Ok) (hl : L.length ≤ maxLen) :
    Calls Try.prog 33 #[.slice A L.length cap, .int .i64 day] w (Gives (unmetV L day).length (fun v => .tuple #[v, .bool (unmetB L day)]) (fun w' v => Own encI 1 3 w.heap.size w' v (unmetV L day)) w) := by
  cases hg : goodC L
  · have hf : unmetB L day = false := by simp [unmetB, hg]
    have hv : unmetV L day = [] := by simp [unmetV, hf]
    go_enter Try.func33, Try.ntmps33
    go_wp2_with (go_at_call 19; refine (AreC_is hg _ _ _ hr hok hl).mono ?_; rintro e w1 ⟨rfl, hb1⟩)
    go_ret2
    exact ⟨none, 0, by simp [hv, hf], by rw [hv]; exact own_nil _ _ _, hb1⟩
  · cases hd : inB day 0 9999
    · have hf : unmetB L day = false := by simp [unmetB, hd]
      have hv : unmetV L day = [] := by simp [unmetV, hf]
      go_enter Try.func33, Try.ntmps33
      go_wp2_with (first | (go_at_call 19; refine (AreC_is hg _ _ _ hr hok hl).mono ?_; rintro e w1 ⟨rfl, hb1⟩) | (go_at_call 51; refine (isDate_any _ _).mono ?_; rintro e w2 ⟨rfl, rfl⟩))
      go_ret2
      exact ⟨none, 0, by simp [hv, hf], by rw [hv]; exact own_nil _ _ _, hb1⟩
    · have hgc := hide (goodC_cond hg)
      have hlen := goodC_len hg
      have HU := hide (show unmetB L day = true by simp [unmetB, hg, hd])
      have HV := hide (show unmetV L day = unmetOf L day by simp [unmetV, HU.out])
      have HG := hide hg; clear hg
      go_enter Try.func33, Try.ntmps33
      go_wp2_with (first | (go_at_call 19; refine (AreC_is HG.out _ _ _ hr hok hl).mono ?_; rintro e w1 ⟨rfl, hb1⟩) | (go_at_call 51; refine (isDate_any _ _).mono ?_; rintro e w2 ⟨rfl, rfl⟩))
      go_loopw [20, 6] (fun i m wr => ∃ (k : Nat) (A' : Option Addr) (cap' : Nat), k ≤ L.length ∧ i = .int .i64 k ∧ m = .slice A' (unmetOf (L.take k) day).length cap' ∧ Own encI 1 3 w.heap.size wr (.slice A' (unmetOf (L.take k) day).length cap') (unmetOf (L.take k) day) ∧ Below w.heap.size w wr) (fun i _ _ => L.length - (intOf i).toNat)
      case atStart => exact ⟨0, _, _, Nat.zero_le _, rfl, rfl, own_empty hb1.size, hb1.alloc hb1.size _⟩
      case round =>
        obtain ⟨k, A', cap', hk, rfl, rfl, hown, hbel⟩ := hrel
        by_cases hlt : k < L.length
        · obtain ⟨b, o, rfl, hb, hc⟩ := Condition.rd_at hr (by intro h; subst h; simp at hlt)
          obtain ⟨c0, c1, c2, c3, c4⟩ := hc k _ (List.getElem?_eq_getElem hlt)
          have hbd := condB_bd (hgc.out k _ (List.getElem?_eq_getElem hlt))
          have HY := hide (unmet_yes (day := day) hlt)
          have HN := hide (unmet_no (day := day) hlt)
          have hul := unmet_len (L.take k) day
          have htl : (L.take k).length ≤ 12 := by rw [List.length_take]; omega
          generalize L[k] = c at *
          replace c0 := below_cell hbel c0
          replace c1 := below_cell hbel c1
          replace c2 := below_cell hbel c2
          replace c3 := below_cell hbel c3
          replace c4 := below_cell hbel c4
          clear hc hr
          generalize unmetOf (L.take k) day = U at *
          by_cases hday : endC c < day
          · go_wp2_with (first | (go_at_call 57; refine (lastMet_any c _ (by omega) (by omega) (by omega) (by omega)).mono ?_; rintro e w2 ⟨rfl, hb2⟩; have q0 := below_cell (a := ⟨wr.heap.size, 0, none⟩) (v := .int .i64 c.number) hb2 (by simp); have hbx := below_new' hb2; have ho2 := Own.below hown hbx) | (at_builtin; refine wpList_push _ rfl (.tmp 28) (.tmp 31) 39 3 rfl Try.underlying39 infoI rfl (by omega) (by omega) encI_len encI_one w.heap.size A' cap' U c.number _ rfl rfl _ rfl rfl ho2 (by have := hbel.size; have := hbx.size; omega) (by omega) ?_; intro A2 cap2 w3 ho3 hb3))
            go_roundw
            case rel => exact ⟨k + 1, A2, cap2, by omega, by go_num, sl_eq (by rw [HY.out hday]; simp), by rw [HY.out hday, List.length_append]; exact ho3, (below_step hbel hbx (Nat.le_refl _)).trans hb3⟩
            case measure => simp [intOf]; omega
          · go_wp2_with (go_at_call 57; refine (lastMet_any c _ (by omega) (by omega) (by omega) (by omega)).mono ?_; rintro e w2 ⟨rfl, hb2⟩; have hbx := below_new' hb2)
            go_roundw
            case rel => exact ⟨k + 1, A', cap', by omega, by go_num, sl_eq (by rw [HN.out (by omega)]), by rw [HN.out (by omega)]; exact Own.below hown hbx, below_step hbel hbx (Nat.le_refl _)⟩
            case measure => simp [intOf]; omega
        · obtain rfl : k = L.length := by omega
          rw [List.take_length] at hown ⊢
          go_wp2_with fail
          go_ret2
          exact ⟨A', cap', ret_2 (sl_eq (by rw [HV.out])) (bo_eq HU.out.symm), by rw [HV.out]; exact hown, hbel⟩

set_option maxHeartbeats 1000000 in
theorem UnmetOn_spec (L : List Condition) (A : Option Addr) (cap : Nat) (day : Int) (w : World) (hr : Rd Condition.enc 5 w.heap.size w A L) (hok : ∀ c ∈ L, c.Ok) (hl : L.length ≤ maxLen) :
    Calls Try.prog 32 #[.slice A L.length cap, .int .i64 day] w (Gives (unmetV L day).length (fun v => .tuple #[v, .bool (unmetB L day)]) (fun w' v => Own encI 1 3 w.heap.size w' v (unmetV L day)) w) := by
  have hba : Below w.heap.size w (w.alloc (.cells #[] 3)) := (Below.refl _ _).alloc (Nat.le_refl _) _
  have hra : Rd Condition.enc 5 (w.alloc (.cells #[] 3)).heap.size (w.alloc (.cells #[] 3)) A L := hr.later hba
  have howa : Own encI 1 3 w.heap.size (w.alloc (.cells #[] 3)) (.slice (some ⟨w.heap.size, 0, none⟩) 0 0) [] := own_empty (Nat.le_refl _)
  cases hg : goodC L
  · have hf : unmetB L day = false := by simp [unmetB, hg]
    have hv : unmetV L day = [] := by simp [unmetV, hf]
    go_enter Try.func32, Try.ntmps32
    go_wp2_with (go_at_call 52; refine (GoodC_is hg _ _ _ hra hok hl).mono ?_; rintro e w1 ⟨rfl, hb1⟩)
    go_ret2
    exact ⟨_, _, ret_2 (sl_eq (by rw [hv]; rfl)) (bo_eq hf.symm), by rw [hv]; exact Own.below howa hb1, below_new' hb1⟩
  · cases hd : inB day 0 9999
    · have hf : unmetB L day = false := by simp [unmetB, hd]
      have hv : unmetV L day = [] := by simp [unmetV, hf]
      go_enter Try.func32, Try.ntmps32
      go_wp2_with (first | (go_at_call 52; refine (GoodC_is hg _ _ _ hra hok hl).mono ?_; rintro e w1 ⟨rfl, hb1⟩) | (go_at_call 54; refine (l24Day_any _ _).mono ?_; rintro e w2 ⟨rfl, rfl⟩))
      go_ret2
      exact ⟨_, _, ret_2 (sl_eq (by rw [hv]; rfl)) (bo_eq hf.symm), by rw [hv]; exact Own.below howa hb1, below_new' hb1⟩
    · have hgc := hide (goodC_cond hg)
      have hlen := goodC_len hg
      have HU := hide (show unmetB L day = true by simp [unmetB, hg, hd])
      have HV := hide (show unmetV L day = unmetOf L day by simp [unmetV, HU.out])
      have HG := hide hg; clear hg
      go_enter Try.func32, Try.ntmps32
      go_wp2_with (first | (go_at_call 52; refine (GoodC_is HG.out _ _ _ hra hok hl).mono ?_; rintro e w1 ⟨rfl, hb1⟩) | (go_at_call 54; refine (l24Day_any _ _).mono ?_; rintro e w2 ⟨rfl, rfl⟩))
      go_loopw [7, 6] (fun i m wr => ∃ (k : Nat) (A' : Option Addr) (cap' : Nat), k ≤ L.length ∧ i = .int .i64 k ∧ m = .slice A' (unmetOf (L.take k) day).length cap' ∧ Own encI 1 3 w.heap.size wr (.slice A' (unmetOf (L.take k) day).length cap') (unmetOf (L.take k) day) ∧ Below w.heap.size w wr) (fun i _ _ => L.length - (intOf i).toNat)
      case atStart => exact ⟨0, _, _, Nat.zero_le _, rfl, rfl, Own.below howa hb1, below_new' hb1⟩
      case round =>
        obtain ⟨k, A', cap', hk, rfl, rfl, hown, hbel⟩ := hrel
        by_cases hlt : k < L.length
        · obtain ⟨b, o, rfl, hb, hc⟩ := Condition.rd_at hr (by intro h; subst h; simp at hlt)
          obtain ⟨c0, c1, c2, c3, c4⟩ := hc k _ (List.getElem?_eq_getElem hlt)
          have hbd := condB_bd (hgc.out k _ (List.getElem?_eq_getElem hlt))
          have HY := hide (unmet_yes (day := day) hlt)
          have HN := hide (unmet_no (day := day) hlt)
          have hul := unmet_len (L.take k) day
          have htl : (L.take k).length ≤ 12 := by rw [List.length_take]; omega
          generalize L[k] = c at *
          replace c0 := below_cell hbel c0
          replace c1 := below_cell hbel c1
          replace c2 := below_cell hbel c2
          replace c3 := below_cell hbel c3
          replace c4 := below_cell hbel c4
          clear hc hr hra
          generalize unmetOf (L.take k) day = U at *
          by_cases hday : endC c < day
          · go_wp2_with (first | (go_at_call 56; refine (l24End_any c _ (by omega) (by omega) (by omega) (by omega)).mono ?_; rintro e w2 ⟨rfl, hb2⟩; have q0 := below_cell hb2 c0; have ho2 := Own.below hown hb2) | (at_builtin; refine wpList_push _ rfl (.tmp 31) (.tmp 37) 39 3 rfl Try.underlying39 infoI rfl (by omega) (by omega) encI_len encI_one w.heap.size A' cap' U c.number _ rfl rfl _ rfl rfl ho2 (by have := hbel.size; have := hb2.size; omega) (by omega) ?_; intro A2 cap2 w3 ho3 hb3))
            go_roundw
            case rel => exact ⟨k + 1, A2, cap2, by omega, by go_num, sl_eq (by rw [HY.out hday]; simp), by rw [HY.out hday, List.length_append]; exact ho3, (below_step hbel hb2 (Nat.le_refl _)).trans hb3⟩
            case measure => simp [intOf]; omega
          · go_wp2_with (go_at_call 56; refine (l24End_any c _ (by omega) (by omega) (by omega) (by omega)).mono ?_; rintro e w2 ⟨rfl, hb2⟩)
            go_roundw
            case rel => exact ⟨k + 1, A', cap', by omega, by go_num, sl_eq (by rw [HN.out (by omega)]), by rw [HN.out (by omega)]; exact Own.below hown hb2, below_step hbel hb2 (Nat.le_refl _)⟩
            case measure => simp [intOf]; omega
        · obtain rfl : k = L.length := by omega
          rw [List.take_length] at hown ⊢
          go_wp2_with fail
          go_ret2
          exact ⟨A', cap', ret_2 (sl_eq (by rw [HV.out])) (bo_eq HU.out.symm), by rw [HV.out]; exact hown, hbel⟩
end Go.Proofs.Ytknondhdhjegbaa
