/- InspectionPlan: the plain list, and the reference's function. -/
import Derived.Test.YtknondhdhjegbaaTabP
import Derived.Test.YtknondhdhjegbaaPermits3
namespace Go.Proofs.Ytknondhdhjegbaa
open Go Go.RowKit
set_option linter.unusedVariables false
def dueC (fr day : Int) (c : Condition) : Bool := decide (max fr (endC c) ≤ day) && ((day - max fr (endC c)) % c.every == 0)
def rowsD (fr day : Int) (L : List Condition) : List (List Int) := (L.filter (dueC fr day)).map fun c => [day, c.number]
def inspTo (L : List Condition) (fr : Int) : Nat → List (List Int)
  | 0 => []
  | m + 1 => inspTo L fr m ++ rowsD fr (fr + m) L
def inspOk (L : List Condition) (fr to : Int) : Bool := goodC L && (inB to 0 9999 && (inB fr 0 to && decide (to - fr ≤ 400)))
def inspV (L : List Condition) (fr to : Int) : List (List Int) := if inspOk L fr to then inspTo L fr (to - fr + 1).toNat else []
theorem rows_yes {L : List Condition} {fr day : Int} {k : Nat} (h : k < L.length) (hd : dueC fr day L[k] = true) : rowsD fr day (L.take (k + 1)) = rowsD fr day (L.take k) ++ [[day, L[k].number]] := by
  rw [take_snocL L k h, rowsD, rowsD, List.filter_append, List.map_append]; simp [hd]
theorem rows_no {L : List Condition} {fr day : Int} {k : Nat} (h : k < L.length) (hd : dueC fr day L[k] = false) : rowsD fr day (L.take (k + 1)) = rowsD fr day (L.take k) := by
  rw [take_snocL L k h, rowsD, rowsD, List.filter_append, List.map_append]; simp [hd]
theorem rows_len (L : List Condition) (fr day : Int) : (rowsD fr day L).length ≤ L.length := by
  rw [rowsD, List.length_map]; exact List.length_filter_le _ _
theorem rows_tot (fr day : Int) : ∀ L : List Condition, totV (rowsD fr day L) = 2 * (rowsD fr day L).length
  | [] => rfl
  | c :: r => by
    have := rows_tot fr day r
    unfold rowsD at *
    rw [List.filter_cons]
    split
    · simp [totV, this]; omega
    · exact this
theorem insp_len (L : List Condition) (fr : Int) (hl : L.length ≤ 12) : ∀ m, (inspTo L fr m).length ≤ 12 * m ∧ totV (inspTo L fr m) ≤ 24 * m ∧ ∀ x ∈ inspTo L fr m, x.length ≤ 2
  | 0 => ⟨Nat.le_refl _, Nat.le_refl _, fun x hx => by cases hx⟩
  | m + 1 => by
    obtain ⟨h1, h2, h3⟩ := insp_len L fr hl m
    have h4 := rows_len L fr (fr + m)
    have h5 := rows_tot fr (fr + m) L
    unfold inspTo
    refine ⟨by rw [List.length_append]; omega, by rw [totV_append]; omega, fun x hx => ?_⟩
    rcases List.mem_append.1 hx with h | h
    · exact h3 x h
    · simp only [rowsD, List.mem_map] at h
      obtain ⟨c, _, rfl⟩ := h
      simp
theorem inspV_len (L : List Condition) (fr to : Int) : (inspV L fr to).length ≤ 4812 ∧ totV (inspV L fr to) ≤ 9624 ∧ ∀ x ∈ inspV L fr to, x.length ≤ 1000000 := by
  unfold inspV
  split
  · rename_i h
    simp only [inspOk, Bool.and_eq_true, decide_eq_true_eq] at h
    have hl := goodC_len h.1
    obtain ⟨h1, h2, h3⟩ := insp_len L fr hl (to - fr + 1).toNat
    have hm : (to - fr + 1).toNat ≤ 401 := by omega
    exact ⟨by omega, by omega, fun x hx => Nat.le_trans (h3 x hx) (by omega)⟩
  · exact ⟨by simp, by simp [totV], fun x hx => by cases hx⟩
theorem tab_eqD {lo hi cap : Nat} {w : World} {A : Option Addr} {V U : List (List Int)} (h : Tab lo hi w A cap V) (e : V = U) : Tab lo hi w A cap U := e ▸ h
set_option maxRecDepth 100000 in
set_option maxHeartbeats 8000000 in
theorem InspectionPlan_spec (L : List Condition) (fr to : Int) (A : Option Addr) (cap : Nat) (w : World) (hr : Rd Condition.enc 5 w.heap.size w A L) (hok : ∀ c ∈ L, c.Ok) (hl : L.length ≤ maxLen) :
    Calls Try.prog 43 #[.slice A L.length cap, .int .i64 fr, .int .i64 to] w (GivesT (inspV L fr to) (fun v => .tuple #[v, .bool (inspOk L fr to)]) w) := by
  have hba : Below w.heap.size w (w.alloc (.cells #[] 39)) := (Below.refl _ _).alloc (Nat.le_refl _) _
  have hta := tab_empty (lo := w.heap.size) (w := w) (Nat.le_refl _)
  cases h0 : goodC L
  · as_aux_lemma =>
      have HB := hide (show inspOk L fr to = false by simp [inspOk, h0])
      have HV := hide (show inspV L fr to = [] by rw [inspV, if_neg (by rw [HB.out]; decide)])
      have HP := hide h0; clear h0
      go_enter Try.func43, Try.ntmps43
      go_wp2_with (first | (go_at_call 52; refine (GoodC_is HP.out _ _ _ (hr.later hba) hok hl).mono ?_; rintro e w1 ⟨rfl, hb1⟩) | (go_at_call 54; refine (l24Day_any _ _).mono ?_; rintro e w2 ⟨rfl, rfl⟩; rw [h1]) | (go_at_call 73; refine (l1In_is (by assumption) _).mono ?_; rintro e w2 ⟨rfl, rfl⟩))
      go_ret2
      rw [HV.out, HB.out]
      exact ⟨_, _, rfl, (hta.below hb1).mono (Nat.le_refl _) hb1.size, below_step hba hb1 (Nat.le_refl _)⟩
  cases h1 : inB to 0 9999
  · as_aux_lemma =>
      have HB := hide (show inspOk L fr to = false by simp [inspOk, h0, h1])
      have HV := hide (show inspV L fr to = [] by rw [inspV, if_neg (by rw [HB.out]; decide)])
      have HP := hide h0; clear h0
      go_enter Try.func43, Try.ntmps43
      go_wp2_with (first | (go_at_call 52; refine (GoodC_is HP.out _ _ _ (hr.later hba) hok hl).mono ?_; rintro e w1 ⟨rfl, hb1⟩) | (go_at_call 54; refine (l24Day_any _ _).mono ?_; rintro e w2 ⟨rfl, rfl⟩; rw [h1]) | (go_at_call 73; refine (l1In_is (by assumption) _).mono ?_; rintro e w2 ⟨rfl, rfl⟩))
      go_ret2
      rw [HV.out, HB.out]
      exact ⟨_, _, rfl, (hta.below hb1).mono (Nat.le_refl _) hb1.size, below_step hba hb1 (Nat.le_refl _)⟩
  cases h2 : inB fr 0 to
  · as_aux_lemma =>
      have HB := hide (show inspOk L fr to = false by simp [inspOk, h0, h1, h2])
      have HV := hide (show inspV L fr to = [] by rw [inspV, if_neg (by rw [HB.out]; decide)])
      have HP := hide h0; clear h0
      go_enter Try.func43, Try.ntmps43
      go_wp2_with (first | (go_at_call 52; refine (GoodC_is HP.out _ _ _ (hr.later hba) hok hl).mono ?_; rintro e w1 ⟨rfl, hb1⟩) | (go_at_call 54; refine (l24Day_any _ _).mono ?_; rintro e w2 ⟨rfl, rfl⟩; rw [h1]) | (go_at_call 73; refine (l1In_is (by assumption) _).mono ?_; rintro e w2 ⟨rfl, rfl⟩))
      go_ret2
      rw [HV.out, HB.out]
      exact ⟨_, _, rfl, (hta.below hb1).mono (Nat.le_refl _) hb1.size, below_step hba hb1 (Nat.le_refl _)⟩
  have hb := inB_iff.1 h1; have hc := inB_iff.1 h2
  by_cases h3 : to - fr ≤ 400
  rotate_left
  · as_aux_lemma =>
      have hwr : IntKind.i64.wrap (to - fr) = to - fr := by rw [IntKind.wrap_i64]; omega
      have HB := hide (show inspOk L fr to = false by simp [inspOk, h0, h1, h2, h3])
      have HV := hide (show inspV L fr to = [] by rw [inspV, if_neg (by rw [HB.out]; decide)])
      have HP := hide h0; clear h0
      go_enter Try.func43, Try.ntmps43
      go_wp2_with (first | (go_at_call 52; refine (GoodC_is HP.out _ _ _ (hr.later hba) hok hl).mono ?_; rintro e w1 ⟨rfl, hb1⟩) | (go_at_call 54; refine (l24Day_any _ _).mono ?_; rintro e w2 ⟨rfl, rfl⟩; rw [h1]) | (go_at_call 73; refine (l1In_is (by assumption) _).mono ?_; rintro e w2 ⟨rfl, rfl⟩))
      go_ret2
      rw [HV.out, HB.out]
      exact ⟨_, _, rfl, (hta.below hb1).mono (Nat.le_refl _) hb1.size, below_step hba hb1 (Nat.le_refl _)⟩
  have HB := hide (show inspOk L fr to = true by simp [inspOk, h0, h1, h2, h3])
  have HV := hide (show inspV L fr to = inspTo L fr (to - fr + 1).toNat by rw [inspV, if_pos HB.out])
  have hlen := goodC_len h0
  have HGC := hide (goodC_cond h0)
  have HP := hide h0; clear h0
  obtain ⟨n, hn⟩ : ∃ n : Nat, n = (to - fr + 1).toNat := ⟨_, rfl⟩
  rw [← hn] at HV
  have hn2 : (n : Int) = to - fr + 1 := by omega
  have hwr : IntKind.i64.wrap (to - fr) = to - fr := by rw [IntKind.wrap_i64]; omega
  clear hn
  go_enter Try.func43, Try.ntmps43
  go_wp2_with (first | (go_at_call 52; refine (GoodC_is HP.out _ _ _ (hr.later hba) hok hl).mono ?_; rintro e w1 ⟨rfl, hb1⟩) | (go_at_call 54; refine (l24Day_any _ _).mono ?_; rintro e w2 ⟨rfl, rfl⟩; rw [h1]) | (go_at_call 73; refine (l1In_is (by assumption) _).mono ?_; rintro e w2 ⟨rfl, rfl⟩))
  have BB := below_step hba hb1 (Nat.le_refl _)
  have ht := (hta.below hb1).mono (Nat.le_refl _) hb1.size
  go_loopw [9, 8] (fun i m wr => ∃ (d : Nat) (A : Option Addr) (cap : Nat), d ≤ n ∧ i = .int .i64 (fr + d) ∧ m = .slice A (inspTo L fr d).length cap ∧ Hid (Tab w.heap.size wr.heap.size wr A cap (inspTo L fr d)) ∧ Below w.heap.size w wr) (fun i _ _ => 20000 - (intOf i).toNat)
  case atStart => exact ⟨0, _, _, Nat.zero_le _, by simp, rfl, hide ht, BB⟩
  case round =>
    clear ht BB hta hba
    obtain ⟨d, A, cap, hd, rfl, rfl, HT, hbel⟩ := hrel
    obtain ⟨dy, hdy⟩ : ∃ dy : Int, dy = fr + d := ⟨_, rfl⟩
    rw [← hdy]
    by_cases hlt : d < n
    · have hdi : dy ≤ to := by omega
      have HDY := hide hdy
      have hdb : 0 ≤ dy ∧ dy ≤ 9999 := by omega
      obtain ⟨hdb0, hdb1⟩ := hdb
      clear hdy
      go_wp2_with fail
      go_loopw [10, 8] (fun i m wr => ∃ (k : Nat) (A : Option Addr) (cap : Nat), k ≤ L.length ∧ i = .int .i64 k ∧ m = .slice A (inspTo L fr d ++ rowsD fr dy (L.take k)).length cap ∧ Hid (Tab w.heap.size wr.heap.size wr A cap (inspTo L fr d ++ rowsD fr dy (L.take k))) ∧ Below w.heap.size w wr) (fun i _ _ => L.length - (intOf i).toNat)
      case atStart => exact ⟨0, A, cap, Nat.zero_le _, rfl, sl_eq (by simp [rowsD]), hide (tab_eqD HT.out (by simp [rowsD])), hbel⟩
      case round =>
        clear HT hbel
        obtain ⟨k, A, cap, hk, rfl, rfl, HT, hbel⟩ := hrel
        obtain ⟨U, hU⟩ : ∃ U, U = inspTo L fr d ++ rowsD fr dy (L.take k) := ⟨_, rfl⟩
        rw [← hU] at HT ⊢
        by_cases hlk : k < L.length
        · have hki : (k : Int) < (L.length : Int) := by omega
          have hget := List.getElem?_eq_getElem hlk
          have hbd := condB_bd (HGC.out k _ hget)
          have HG := hide hget
          have HY := hide (fun (h : dueC fr dy L[k] = true) => show inspTo L fr d ++ rowsD fr dy (L.take (k + 1)) = U ++ [[dy, L[k].number]] by rw [hU, rows_yes hlk h, List.append_assoc])
          have HN := hide (fun (h : dueC fr dy L[k] = false) => show inspTo L fr d ++ rowsD fr dy (L.take (k + 1)) = U by rw [hU, rows_no hlk h])
          have hUl : U.length ≤ 5000 := by
            have e1 := (insp_len L fr hlen d).1
            have e2 := rows_len (L.take k) fr dy
            have e3 : (L.take k).length ≤ 12 := by rw [List.length_take]; omega
            rw [hU, List.length_append]
            have : d ≤ 401 := by omega
            omega
          clear hU
          obtain ⟨b, o, rfl, _, hcL⟩ := Condition.rd_at hr (by intro h; rw [h] at hlk; simp at hlk)
          obtain ⟨x0, x1, x2, x3, x4⟩ := hcL k _ hget
          generalize L[k] = c at *
          replace x0 := below_cell hbel x0; replace x1 := below_cell hbel x1; replace x2 := below_cell hbel x2; replace x3 := below_cell hbel x3; replace x4 := below_cell hbel x4
          obtain ⟨⟨b0, b1⟩, ⟨b2, b3⟩, ⟨b4, b5⟩, b6, b7⟩ := hbd
          clear hcL hget
          have heb := endC_bd (HGC.out k _ HG.out)
          go_wp2_with fail
          refine (l24End_any c _ (by omega) (by omega) (by omega) (by omega)).mono ?_
          rintro e w3 ⟨rfl, hb3⟩
          replace hbel := below_step hbel hb3 (Nat.le_refl _)
          replace HT := hide ((HT.out.below hb3).mono (Nat.le_refl _) hb3.size)
          replace x0 := below_cell hb3 x0; replace x2 := below_cell hb3 x2
          clear hb3 x1 x3 x4
          go_wp2_with fail
          refine (l1Most_any _ _ _).mono ?_
          rintro e w4 ⟨rfl, rfl⟩
          have hdd : dueC fr dy c = (decide (max fr (endC c) ≤ dy) && ((dy - max fr (endC c)) % c.every == 0)) := rfl
          obtain ⟨fi, hfi⟩ : ∃ fi, fi = max fr (endC c) := ⟨_, rfl⟩
          rw [← hfi] at hdd ⊢
          have hfb : 0 ≤ fi ∧ fi ≤ 20000 := by omega
          obtain ⟨hf0, hf1⟩ := hfb
          have HDD := hide hdd; clear hdd hfi heb HG
          have hev : ¬ c.every = 0 := by omega
          have hwd : IntKind.i64.wrap (dy - fi) = dy - fi := by rw [IntKind.wrap_i64]; omega
          by_cases hq : fi ≤ dy
          · have hqd : 0 ≤ dy - fi := by omega
            cases hm : ((dy - fi) % c.every == 0)
            · have hdue : dueC fr dy c = false := by rw [HDD.out, hm]; simp
              have HC := hide (HN.out hdue); have HM := hide hm
              clear hdue
              go_wp2_with fail
              go_roundw
              case rel => exact ⟨k + 1, A, cap, by omega, by go_num, sl_eq (by rw [HC.out]), hide (tab_eqD HT.out (by rw [HC.out])), hbel⟩
              case measure => simp [intOf] <;> omega
            · have hdue : dueC fr dy c = true := by rw [HDD.out, hm]; simp [hq]
              have HC := hide (HY.out hdue)
              clear hdue
              obtain ⟨R, eR, ho, hr2, ha, hh⟩ := HT.out
              have hRl : R.length ≤ 5000 := by rw [← eR, List.length_map] at hUl; exact hUl
              rw [← eR, List.length_map]
              have HER := hide eR; have HHA := hide (fun g hg => (ha g hg).2); clear eR ha hh hUl
              go_wp2_with (at_builtin; have ho' := World.ownsRow.alloc ho (.cells #[.int .i64 dy, .int .i64 c.number] 3); refine wpList_push2 _ rfl (.tmp 68) (.tmp 76) 60 39 rfl Try.underlying60 rowInfo rfl (by omega) (by omega) Row.enc_len Row.enc_one w.heap.size _ _ R ⟨[dy, c.number], some ⟨_, 0, none⟩, 2⟩ _ rfl rfl _ rfl (by first | rfl | simp) ho' (by have := hbel.size; simp; omega) (by omega) ?_; intro q5 cap5 w5 ho5 hb5 hg5 hq5)
              have ht5 := tab_push hbel.size ho hr2 HHA.out ho5 hg5 hq5
              rw [HER.out, ← HC.out] at ht5
              have hl5 : R.length + 1 = (inspTo L fr d ++ rowsD fr dy (L.take (k + 1))).length := by rw [HC.out, ← HER.out]; simp
              have HT5 := hide ht5; clear ht5
              have hb6 := (hbel.alloc hbel.size (.cells #[.int .i64 dy, .int .i64 c.number] 3)).trans hb5
              go_roundw
              case rel => exact ⟨k + 1, _, _, by omega, by go_num, sl_eq hl5, HT5, hb6⟩
              case measure => simp [intOf] <;> omega
          · have hdue : dueC fr dy c = false := by rw [HDD.out, decide_eq_false hq]; rfl
            have HC := hide (HN.out hdue)
            clear hdue
            go_wp2_with fail
            go_roundw
            case rel => exact ⟨k + 1, A, cap, by omega, by go_num, sl_eq (by rw [HC.out]), hide (tab_eqD HT.out (by rw [HC.out])), hbel⟩
            case measure => simp [intOf] <;> omega
        · have hki : ¬ (k : Int) < (L.length : Int) := by omega
          obtain rfl : k = L.length := by omega
          rw [List.take_length] at hU
          have he : U = inspTo L fr (d + 1) := by rw [hU, inspTo, HDY.out]
          rw [he] at HT ⊢
          clear hU he
          go_wp2_with fail
          go_roundw
          case rel => exact ⟨d + 1, A, cap, by omega, by first | (refine congrArg (Value.int .i64) ?_; have := HDY.out; omega) | go_num, rfl, HT, hbel⟩
          case measure => simp [intOf] <;> omega
    · obtain rfl : d = n := by omega
      have hdi : ¬ dy ≤ to := by omega
      go_wp2_with fail
      go_ret2
      rw [HV.out, HB.out]
      exact ⟨A, cap, rfl, HT.out, hbel⟩
end Go.Proofs.Ytknondhdhjegbaa
