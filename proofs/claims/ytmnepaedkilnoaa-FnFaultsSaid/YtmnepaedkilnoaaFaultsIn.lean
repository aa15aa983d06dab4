/- The faults with a match: both packages. Slices are as the reader gives them. -/
import Derived.Test.YtmnepaedkilnoaaAsked
import Derived.Test.YtmnepaedkilnoaaPush
namespace Go.Proofs.Ytmnepaedkilnoaa
open Go Go.RowKit
set_option linter.unusedVariables false
def faultsF (R : List Event) (P : List Pat) : List Int := (P.filter fun p => !(mFirst R p).isEmpty).map fun p => p.fault
def faultsC (R : List Event) (L : List Pattern) : List Int := faultsF R (Pattern.pats L)
def faultsL (R : List Event) (P : List Pat) : List Int := if recB R && patsB P then faultsF R P else []
theorem faultsL_len (R : List Event) (P : List Pat) : (faultsL R P).length ≤ 6 := by
  unfold faultsL
  split
  · rename_i h
    simp only [Bool.and_eq_true] at h
    have := riseB_len h.2
    have h2 := List.length_filter_le (fun p : Pat => !(mFirst R p).isEmpty) P
    simp only [faultsF, List.length_map]
    omega
  · exact Nat.zero_le _
theorem faultsC_no {R : List Event} {L : List Pattern} {k : Nat} {c : Pattern} (hk : L[k]? = some c) (h : mFirst R c.toPat = []) : faultsC R (L.take (k + 1)) = faultsC R (L.take k) := by
  obtain ⟨hlt, rfl⟩ := List.getElem?_eq_some_iff.1 hk
  rw [take_snocL L k hlt]
  simp only [faultsC, faultsF, Pattern.pats, List.map_append, List.filter_append, List.map_cons, List.map_nil, List.filter_cons, List.filter_nil, h, List.isEmpty_nil, Bool.not_true, Bool.false_eq_true, if_false, List.append_nil]
theorem faultsC_yes {R : List Event} {L : List Pattern} {k : Nat} {c : Pattern} (hk : L[k]? = some c) (h : mFirst R c.toPat ≠ []) : faultsC R (L.take (k + 1)) = faultsC R (L.take k) ++ [c.fault] := by
  obtain ⟨hlt, rfl⟩ := List.getElem?_eq_some_iff.1 hk
  rw [take_snocL L k hlt]
  have h2 : (mFirst R L[k].toPat).isEmpty = false := by
    cases hh : mFirst R L[k].toPat with
    | nil => exact absurd hh h
    | cons a l => rfl
  simp only [faultsC, faultsF, Pattern.pats, List.map_append, List.filter_append, List.map_cons, List.map_nil, List.filter_cons, List.filter_nil, h2, Bool.not_false, if_true]

set_option maxRecDepth 100000 in
set_option maxHeartbeats 2000000 in
theorem FaultsIn_any {L : List Pattern} {P : List Pat} (hPP : Pattern.pats L = P) (A0 A1 : Option Addr) (c0 c1 : Nat) (R : List Event) (w : World) (r0 : Rd Event.enc 2 w.heap.size w A0 R) (ok0 : ∀ c ∈ R, c.Ok) (l0 : R.length ≤ maxLen) (r1 : Rd Pattern.enc 3 w.heap.size w A1 L) (ok1 : ∀ c ∈ L, c.Ok) (l1 : L.length ≤ maxLen) (d1 : Pattern.DeepP w.heap.size w L) :
    Calls Try.prog 35 #[.slice A0 R.length c0, .slice A1 L.length c1] w (Gives (faultsL R P).length (fun v => .tuple #[v, .bool (recB R && patsB P)]) (fun w' v => Own encI 1 3 w.heap.size w' v (faultsL R P)) w) := by
  subst hPP
  cases hR : recB R
  · have HV := hide (show faultsL R (Pattern.pats L) = [] by simp [faultsL, hR])
    go_enter Try.func35, Try.ntmps35
    go_wp2_with (first | (go_at_call 17; refine (IsRecordOf_is hR _ _ _ r0 ok0 l0).mono ?_; rintro e w1 ⟨rfl, hb1⟩; have B1 := hb1) | (go_at_call 22; refine (ArePatterns_is rfl hP _ _ _ (r1.later B1) ok1 l1 (d1.later B1)).mono ?_; rintro e w2 ⟨rfl, hb2⟩; have B2 := below_step B1 hb2 (Nat.le_refl _)))
    go_ret2
    rw [HV.out]
    exact ⟨none, 0, rfl, own_nil _ _ _, B1⟩
  · have HZ0 := True.intro
    cases hP : patsB (Pattern.pats L)
    · have HV := hide (show faultsL R (Pattern.pats L) = [] by simp [faultsL, hP])
      have HR := hide hR; clear hR
      go_enter Try.func35, Try.ntmps35
      go_wp2_with (first | (go_at_call 17; refine (IsRecordOf_is HR.out _ _ _ r0 ok0 l0).mono ?_; rintro e w1 ⟨rfl, hb1⟩; have B1 := hb1) | (go_at_call 22; refine (ArePatterns_is rfl hP _ _ _ (r1.later B1) ok1 l1 (d1.later B1)).mono ?_; rintro e w2 ⟨rfl, hb2⟩; have B2 := below_step B1 hb2 (Nat.le_refl _)))
      go_ret2
      rw [HV.out]
      exact ⟨none, 0, rfl, own_nil _ _ _, B2⟩
    · have HZ1 := True.intro
      have HV := hide (show faultsL R (Pattern.pats L) = faultsC R L by simp [faultsL, hR, hP, faultsC])
      have hlen := riseB_len hP
      rw [Pattern.pats, List.length_map] at hlen
      have HPB := hide (fun (c : Pattern) (hc : c ∈ L) => show patB c.toPat = true from by obtain ⟨j, hj, rfl⟩ := List.mem_iff_getElem.1 hc; exact riseB_one hP j _ (by simp [Pattern.pats, List.getElem?_eq_getElem hj]))
      have HR := hide hR; have HP := hide hP; clear hR hP
      go_enter Try.func35, Try.ntmps35
      go_wp2_with (first | (go_at_call 17; refine (IsRecordOf_is HR.out _ _ _ r0 ok0 l0).mono ?_; rintro e w1 ⟨rfl, hb1⟩; have B1 := hb1) | (go_at_call 22; refine (ArePatterns_is rfl HP.out _ _ _ (r1.later B1) ok1 l1 (d1.later B1)).mono ?_; rintro e w2 ⟨rfl, hb2⟩; have B2 := below_step B1 hb2 (Nat.le_refl _)))
      have hbn : Below w.heap.size w (w2.alloc (.cells #[] 3)) := B2.alloc B2.size _
      have hown0 : Own encI 1 3 w.heap.size (w2.alloc (.cells #[] 3)) (.slice (some ⟨w2.heap.size, 0, none⟩) 0 0) [] := own_empty B2.size
      go_loopw [20, 6] (fun i m wr => ∃ (k : Nat) (A' : Option Addr) (cap' : Nat), k ≤ L.length ∧ i = .int .i64 k ∧ m = .slice A' (faultsC R (L.take k)).length cap' ∧ Own encI 1 3 w.heap.size wr (.slice A' (faultsC R (L.take k)).length cap') (faultsC R (L.take k)) ∧ Below w.heap.size w wr) (fun i _ _ => L.length - (intOf i).toNat)
      case atStart => exact ⟨0, _, _, Nat.zero_le _, rfl, rfl, hown0, hbn⟩
      case round =>
        clear hown0
        obtain ⟨k, A', cap', hk, rfl, rfl, hown, hbel⟩ := hrel
        by_cases hlt : k < L.length
        · obtain ⟨b, o, rfl, hb, hc⟩ := Pattern.rd_at r1 (by intro h; subst h; simp at hlt)
          have hget := List.getElem?_eq_getElem hlt
          obtain ⟨x0, x1, x2⟩ := hc k _ hget
          have hpb := HPB.out L[k] (List.getElem_mem hlt)
          have hdc := d1 L[k] (List.getElem_mem hlt)
          have HY := hide (@faultsC_yes R L k _ hget); have HN := hide (@faultsC_no R L k _ hget)
          have hul : (faultsC R (L.take k)).length ≤ 6 := by have h2 := List.length_filter_le (fun p : Pat => !(mFirst R p).isEmpty) (Pattern.pats (L.take k)); simp only [faultsC, faultsF, List.length_map, Pattern.pats, List.length_take] at h2 ⊢; omega
          generalize L[k] = c at *
          have HPC := hide hpb; have HDC := hide hdc
          clear hc hget hpb hdc r1 d1
          replace x0 := below_cell hbel x0
          replace x1 := below_cell hbel x1
          replace x2 := below_cell hbel x2
          generalize faultsC R (L.take k) = U at *
          have hki : (k : Int) < (L.length : Int) := by omega
          have B3 : Below w.heap.size w (wr.alloc (.cells #[.int .i64 c.fault, .slice c.ca c.codes.length c.cc, .int .i64 c.within] 62)) := hbel.alloc hbel.size _
          have hwb := B3.size
          have R3 := hide (r0.later B3); have D3 := hide (HDC.out.later B3)
          obtain ⟨z0, _⟩ := CF.new wr #[.int .i64 c.fault, .slice c.ca c.codes.length c.cc, .int .i64 c.within] 62 wr.heap.size 0 _ rfl rfl
          by_cases hm : mFirst R c.toPat = []
          · have HM := hide hm; clear hm
            have hq0 := neq_nil
            go_wp2_with (go_at_call 73; refine (firstMatch_p c.toPat c.ca c.cc R _ _ _ HR.out HPC.out R3.out D3.out).mono ?_; intro e w4 hq; obtain ⟨rfl, hb4⟩ := givesM_none hq HM.out)
            go_roundw
            case rel => exact ⟨k + 1, A', cap', by omega, by go_num, by rw [HN.out HM.out], by rw [HN.out HM.out]; exact Own.below (World.ownsRow.alloc hown _) hb4, below_step B3 hb4 (Nat.le_refl _)⟩
            case measure => simp [intOf]; omega
          · have HM := hide hm; clear hm
            have hq0 := neq_some
            have hpos := len_pos HM.out
            have hpos' : (0 : Int) < ((mFirst R c.toPat).length : Int) := by omega
            go_wp2_with (first | (go_at_call 73; refine (firstMatch_p c.toPat c.ca c.cc R _ _ _ HR.out HPC.out R3.out D3.out).mono ?_; intro e w4 hq; obtain ⟨g, cap1, rfl, ho, hb4⟩ := givesM_some hq HM.out; have hown2 := Own.below (World.ownsRow.alloc hown (.cells #[.int .i64 c.fault, .slice c.ca c.codes.length c.cc, .int .i64 c.within] 62)) hb4; have hws4 : w.heap.size ≤ w4.heap.size := (below_step B3 hb4 (Nat.le_refl _)).size; have y0 := below_cell hb4 z0) | (at_builtin; refine wpList_push _ rfl (.tmp 28) (.tmp 31) 45 3 rfl Try.underlying45 infoI rfl (by omega) (by omega) encI_len encI_one w.heap.size A' cap' U c.fault _ rfl rfl _ rfl rfl hown2 hws4 (by omega) ?_; intro A5 cap5 w5 ho5 hb5))
            go_roundw
            case rel => exact ⟨k + 1, A5, cap5, by omega, by go_num, sl_eq (by rw [HY.out HM.out]; simp), by rw [HY.out HM.out, List.length_append]; exact ho5, (below_step B3 hb4 (Nat.le_refl _)).trans hb5⟩
            case measure => simp [intOf]; omega
        · obtain rfl : k = L.length := by omega
          rw [List.take_length] at hown ⊢
          go_wp2_with fail
          go_ret2
          rw [HV.out]
          exact ⟨A', cap', rfl, hown, hbel⟩
set_option maxRecDepth 100000 in
set_option maxHeartbeats 2000000 in
theorem FaultsIn_spec {L : List Pattern} {P : List Pat} (hPP : Pattern.pats L = P) (A0 A1 : Option Addr) (c0 c1 : Nat) (R : List Event) (w : World) (r0 : Rd Event.enc 2 w.heap.size w A0 R) (ok0 : ∀ c ∈ R, c.Ok) (l0 : R.length ≤ maxLen) (r1 : Rd Pattern.enc 3 w.heap.size w A1 L) (ok1 : ∀ c ∈ L, c.Ok) (l1 : L.length ≤ maxLen) (d1 : Pattern.DeepP w.heap.size w L) :
    Calls Try.prog 34 #[.slice A0 R.length c0, .slice A1 L.length c1] w (Gives (faultsL R P).length (fun v => .tuple #[v, .bool (recB R && patsB P)]) (fun w' v => Own encI 1 3 w.heap.size w' v (faultsL R P)) w) := by
  subst hPP
  have hba : Below w.heap.size w (w.alloc (.cells #[] 3)) := (Below.refl _ _).alloc (Nat.le_refl _) _
  have hown0 : Own encI 1 3 w.heap.size (w.alloc (.cells #[] 3)) (.slice (some ⟨w.heap.size, 0, none⟩) 0 0) [] := own_empty (Nat.le_refl _)
  cases hR : recB R
  · have HV := hide (show faultsL R (Pattern.pats L) = [] by simp [faultsL, hR])
    go_enter Try.func34, Try.ntmps34
    go_wp2_with (first | (go_at_call 54; refine (l20Record_is hR _ _ _ (r0.later hba) ok0 l0).mono ?_; rintro e w1 ⟨rfl, hb1⟩; have B1 := below_step hba hb1 (Nat.le_refl _)) | (go_at_call 59; refine (l20Patterns_is rfl hP _ _ _ (r1.later B1) ok1 l1 (d1.later B1)).mono ?_; rintro e w2 ⟨rfl, hb2⟩; have B2 := below_step B1 hb2 (Nat.le_refl _)))
    go_ret2
    rw [HV.out]
    exact ⟨some ⟨w.heap.size, 0, none⟩, 0, rfl, Own.below hown0 hb1, B1⟩
  · have HZ0 := True.intro
    cases hP : patsB (Pattern.pats L)
    · have HV := hide (show faultsL R (Pattern.pats L) = [] by simp [faultsL, hP])
      have HR := hide hR; clear hR
      go_enter Try.func34, Try.ntmps34
      go_wp2_with (first | (go_at_call 54; refine (l20Record_is HR.out _ _ _ (r0.later hba) ok0 l0).mono ?_; rintro e w1 ⟨rfl, hb1⟩; have B1 := below_step hba hb1 (Nat.le_refl _)) | (go_at_call 59; refine (l20Patterns_is rfl hP _ _ _ (r1.later B1) ok1 l1 (d1.later B1)).mono ?_; rintro e w2 ⟨rfl, hb2⟩; have B2 := below_step B1 hb2 (Nat.le_refl _)))
      go_ret2
      rw [HV.out]
      exact ⟨some ⟨w.heap.size, 0, none⟩, 0, rfl, Own.below (Own.below hown0 hb1) hb2, B2⟩
    · have HZ1 := True.intro
      have HV := hide (show faultsL R (Pattern.pats L) = faultsC R L by simp [faultsL, hR, hP, faultsC])
      have hlen := riseB_len hP
      rw [Pattern.pats, List.length_map] at hlen
      have HPB := hide (fun (c : Pattern) (hc : c ∈ L) => show patB c.toPat = true from by obtain ⟨j, hj, rfl⟩ := List.mem_iff_getElem.1 hc; exact riseB_one hP j _ (by simp [Pattern.pats, List.getElem?_eq_getElem hj]))
      have HR := hide hR; have HP := hide hP; clear hR hP
      go_enter Try.func34, Try.ntmps34
      go_wp2_with (first | (go_at_call 54; refine (l20Record_is HR.out _ _ _ (r0.later hba) ok0 l0).mono ?_; rintro e w1 ⟨rfl, hb1⟩; have B1 := below_step hba hb1 (Nat.le_refl _)) | (go_at_call 59; refine (l20Patterns_is rfl HP.out _ _ _ (r1.later B1) ok1 l1 (d1.later B1)).mono ?_; rintro e w2 ⟨rfl, hb2⟩; have B2 := below_step B1 hb2 (Nat.le_refl _)))
      go_loopw [7, 6] (fun i m wr => ∃ (k : Nat) (A' : Option Addr) (cap' : Nat), k ≤ L.length ∧ i = .int .i64 k ∧ m = .slice A' (faultsC R (L.take k)).length cap' ∧ Own encI 1 3 w.heap.size wr (.slice A' (faultsC R (L.take k)).length cap') (faultsC R (L.take k)) ∧ Below w.heap.size w wr) (fun i _ _ => L.length - (intOf i).toNat)
      case atStart => exact ⟨0, _, _, Nat.zero_le _, rfl, rfl, Own.below (Own.below hown0 hb1) hb2, B2⟩
      case round =>
        clear hown0
        obtain ⟨k, A', cap', hk, rfl, rfl, hown, hbel⟩ := hrel
        by_cases hlt : k < L.length
        · obtain ⟨b, o, rfl, hb, hc⟩ := Pattern.rd_at r1 (by intro h; subst h; simp at hlt)
          have hget := List.getElem?_eq_getElem hlt
          obtain ⟨x0, x1, x2⟩ := hc k _ hget
          have hpb := HPB.out L[k] (List.getElem_mem hlt)
          have hdc := d1 L[k] (List.getElem_mem hlt)
          have HY := hide (@faultsC_yes R L k _ hget); have HN := hide (@faultsC_no R L k _ hget)
          have hul : (faultsC R (L.take k)).length ≤ 6 := by have h2 := List.length_filter_le (fun p : Pat => !(mFirst R p).isEmpty) (Pattern.pats (L.take k)); simp only [faultsC, faultsF, List.length_map, Pattern.pats, List.length_take] at h2 ⊢; omega
          generalize L[k] = c at *
          have HPC := hide hpb; have HDC := hide hdc
          clear hc hget hpb hdc r1 d1
          replace x0 := below_cell hbel x0
          replace x1 := below_cell hbel x1
          replace x2 := below_cell hbel x2
          generalize faultsC R (L.take k) = U at *
          have hki : (k : Int) < (L.length : Int) := by omega
          have B3 := hbel
          have hwb := B3.size
          have R3 := hide (r0.later B3); have D3 := hide (HDC.out.later B3)
          by_cases hm : mFirst R c.toPat = []
          · have HM := hide hm; clear hm
            go_wp2_with (go_at_call 72; refine (l20First_p c.toPat c.ca c.cc R _ _ _ HR.out HPC.out R3.out D3.out).mono ?_; intro e w4 hq; obtain ⟨A2, cap2, rfl, hb4⟩ := givesE_none hq HM.out)
            go_roundw
            case rel => exact ⟨k + 1, A', cap', by omega, by go_num, by rw [HN.out HM.out], by rw [HN.out HM.out]; exact Own.below hown hb4, below_step B3 hb4 (Nat.le_refl _)⟩
            case measure => simp [intOf]; omega
          · have HM := hide hm; clear hm
            have hpos := len_pos HM.out
            have hpos' : (0 : Int) < ((mFirst R c.toPat).length : Int) := by omega
            go_wp2_with (first | (go_at_call 72; refine (l20First_p c.toPat c.ca c.cc R _ _ _ HR.out HPC.out R3.out D3.out).mono ?_; intro e w4 hq; obtain ⟨g, cap1, rfl, ho, hb4⟩ := givesE_some hq HM.out; have hown2 := Own.below hown hb4; have hws4 : w.heap.size ≤ w4.heap.size := (below_step B3 hb4 (Nat.le_refl _)).size; have y0 := below_cell hb4 x0) | (at_builtin; refine wpList_push _ rfl (.tmp 32) (.tmp 38) 45 3 rfl Try.underlying45 infoI rfl (by omega) (by omega) encI_len encI_one w.heap.size A' cap' U c.fault _ rfl rfl _ rfl rfl hown2 hws4 (by omega) ?_; intro A5 cap5 w5 ho5 hb5))
            go_roundw
            case rel => exact ⟨k + 1, A5, cap5, by omega, by go_num, sl_eq (by rw [HY.out HM.out]; simp), by rw [HY.out HM.out, List.length_append]; exact ho5, (below_step B3 hb4 (Nat.le_refl _)).trans hb5⟩
            case measure => simp [intOf]; omega
        · obtain rfl : k = L.length := by omega
          rw [List.take_length] at hown ⊢
          go_wp2_with fail
          go_ret2
          rw [HV.out]
          exact ⟨A', cap', rfl, hown, hbel⟩
end Go.Proofs.Ytmnepaedkilnoaa
