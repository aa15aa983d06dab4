/- Uses of parts: the reference's run over its order. -/
import Derived.Test.YtlphegjhkchglaaUseO
namespace Go.Proofs.Ytlphegjhkchglaa
open Go Go.RowKit
set_option linter.unusedVariables false
set_option linter.unusedSimpArgs false
def havL (L : List Part) (k : Nat) : List Int := (L.take k).map (·.have_)
theorem havL_len {L : List Part} {k : Nat} (h : k ≤ L.length) : (havL L k).length = k := by simp [havL]; omega
theorem havL_step {L : List Part} {k : Nat} {c : Part} (hk : L[k]? = some c) : havL L (k + 1) = havL L k ++ [c.have_] := by
  obtain ⟨hlt, rfl⟩ := List.getElem?_eq_some_iff.1 hk
  unfold havL; rw [take_snocL L k hlt, List.map_append]; rfl
theorem havL_all (L : List Part) : havL L L.length = (run0 L).1 := by rw [havL, List.take_length]; rfl
def dueK (U : List Use) (D : Int) (k : Nat) : List Nat := ((ordU U).take k).filter fun i => decide (dayU U i ≤ D)
theorem dueK_yes {U : List Use} {D : Int} {k i : Nat} (h : (ordU U)[k]? = some i) (hd : dayU U i ≤ D) : dueK U D (k + 1) = dueK U D k ++ [i] := by
  obtain ⟨hlt, rfl⟩ := List.getElem?_eq_some_iff.1 h
  unfold dueK; rw [take_snocL _ k hlt, List.filter_append]; simp [hd]
theorem dueK_no {U : List Use} {D : Int} {k i : Nat} (h : (ordU U)[k]? = some i) (hd : ¬ dayU U i ≤ D) : dueK U D (k + 1) = dueK U D k := by
  obtain ⟨hlt, rfl⟩ := List.getElem?_eq_some_iff.1 h
  unfold dueK; rw [take_snocL _ k hlt, List.filter_append]; simp [hd]
theorem dueK_all (U : List Use) (D : Int) : dueK U D U.length = dueU U D := by rw [dueK, ← ordU_len, List.take_length]; rfl
theorem dueK_lt {U : List Use} {D : Int} {k i : Nat} (h : i ∈ dueK U D k) : i < U.length := ordU_lt (List.mem_of_mem_take (List.mem_filter.1 h).1)
theorem dueK_new {U : List Use} {D : Int} {k i : Nat} (h : (ordU U)[k]? = some i) : i ∉ dueK U D k := by
  intro hi
  have h1 := (List.mem_filter.1 hi).1
  obtain ⟨j, hj, he⟩ := List.mem_iff_getElem.1 h1
  have hjk : j < k := by simp at hj; omega
  have hn := List.nodup_iff_pairwise_ne.1 (ordU_nodup U)
  obtain ⟨hlt, rfl⟩ := List.getElem?_eq_some_iff.1 h
  have := List.pairwise_iff_getElem.1 hn j k (by omega) hlt hjk
  rw [List.getElem_take] at he
  exact this he
theorem run_k {L : List Part} {U : List Use} (h : usesB L U = true) {D : Int} {k : Nat} {S M : List Int} (hr : runO L U (dueK U D k) = (S, M)) : S.length = L.length ∧ (∀ x ∈ S, 0 ≤ x ∧ x ≤ 500) ∧ M.length ≤ 20 ∧ (∀ x ∈ M, ∃ i ∈ dueK U D k, x = (i : Int)) := by
  obtain ⟨f1, f2, f3, f4⟩ := run_facts h _ (dueK U D k) rfl (fun i hi => dueK_lt hi)
  rw [hr] at f1 f2 f3 f4
  refine ⟨f1, f2, ?_, f4⟩
  have h1 := List.length_filter_le (fun i => decide (dayU U i ≤ D)) ((ordU U).take k)
  have h2 : ((ordU U).take k).length ≤ U.length := by rw [List.length_take, ordU_len]; omega
  have h3 := (usesB_len h).2
  have h4 : (dueK U D k).length ≤ U.length := Nat.le_trans h1 h2
  simp only at f3
  omega
set_option maxRecDepth 100000 in
set_option maxHeartbeats 8000000 in
theorem l23Run_any (L : List Part) (U : List Use) (D : Int) (A0 A1 : Option Addr) (c0 c1 : Nat) (w : World) (h : usesB L U = true) (r0 : Rd Part.enc 5 w.heap.size w A0 L) (r1 : Rd Use.enc 3 w.heap.size w A1 U) :
    Calls Try.prog 68 #[.slice A0 L.length c0, .slice A1 U.length c1, .int .i64 D] w fun e w' => ∃ (g cg q cq : Nat), e = .returned (.tuple #[.slice (some ⟨g, 0, none⟩) L.length cg, .slice (some ⟨q, 0, none⟩) (missL L U D).length cq]) ∧ Own encI 1 3 w.heap.size w' (.slice (some ⟨g, 0, none⟩) L.length cg) (runL L U D).1 ∧ Own encI 1 3 w.heap.size w' (.slice (some ⟨q, 0, none⟩) (missL L U D).length cq) (missL L U D) ∧ Below w.heap.size w w' := by
  obtain ⟨hl10, hu20⟩ := usesB_len h
  have l0 : L.length ≤ maxLen := by unfold maxLen; omega
  have H := hide h; clear h
  have hb0 : Below w.heap.size w ((w.alloc (.cells #[] 3)).alloc (.cells #[] 3)) := ((Below.refl _ _).alloc (Nat.le_refl _) _).alloc (by simp) _
  have ho1 : Own encI 1 3 w.heap.size ((w.alloc (.cells #[] 3)).alloc (.cells #[] 3)) (.slice (some ⟨w.heap.size, 0, none⟩) 0 0) [] := World.ownsRow.alloc (own_empty (Nat.le_refl _)) _
  have ho2 : Own encI 1 3 w.heap.size ((w.alloc (.cells #[] 3)).alloc (.cells #[] 3)) (.slice (some ⟨w.heap.size + 1, 0, none⟩) 0 0) [] := by simpa using (own_empty (enc := encI) (sz := 1) (T := 3) (lo := w.heap.size) (w := w.alloc (.cells #[] 3)) (by simp))
  go_enter Try.func68, Try.ntmps68
  go_wp2_with fail
  go_loopw [10, 8] (fun i s wr => ∃ (k g cap : Nat), k ≤ L.length ∧ i = .int .i64 k ∧ s = .slice (some ⟨g, 0, none⟩) (havL L k).length cap ∧ Own encI 1 3 w.heap.size wr (.slice (some ⟨g, 0, none⟩) (havL L k).length cap) (havL L k) ∧ w.heap.size + 1 ≠ g ∧ Own encI 1 3 w.heap.size wr (.slice (some ⟨w.heap.size + 1, 0, none⟩) 0 0) [] ∧ Below w.heap.size w wr) (fun i _ _ => L.length - (intOf i).toNat)
  case atStart => exact ⟨0, _, _, Nat.zero_le _, rfl, rfl, ho1, by omega, ho2, hb0⟩
  case round =>
    clear ho1 ho2 hb0
    obtain ⟨k, g, cap, hk, rfl, rfl, hos, hne, hom, hbel⟩ := hrel
    by_cases hlt : k < L.length
    · have hki : (k : Int) < (L.length : Int) := by omega
      obtain ⟨b, ob, rfl, _, hc⟩ := Part.rd_at r0 (by intro h; subst h; simp at hlt)
      have hg := List.getElem?_eq_getElem hlt
      have y := below_cell hbel (hc k _ hg).2.1
      have HS := hide (havL_step hg)
      have hsl : (havL L k).length ≤ 10 := by rw [havL_len hk]; omega
      generalize L[k] = c at *
      generalize havL L k = S at *
      clear hc hg
      have hws := hbel.size
      go_wp2_with (at_builtin; refine wpList_push2 _ rfl (.tmp 23) (.tmp 29) 33 3 rfl Try.underlying33 infoI rfl (by omega) (by omega) encI_len encI_one w.heap.size _ cap S c.have_ _ rfl rfl _ rfl rfl hos hws (by omega) ?_; intro q5 cap5 w5 ho5 hb5 hg5 hq5)
      go_roundw
      case rel => exact ⟨k + 1, q5, cap5, by omega, by go_num, sl_eq (by rw [HS.out]; simp), by rw [HS.out, List.length_append]; exact ho5, push_ne hom hq5 hne, push_keep hom hg5 hne, hbel.trans hb5⟩
      case measure => simp [intOf] <;> omega
    · obtain rfl : k = L.length := by omega
      have hsl := havL_len (Nat.le_refl L.length)
      rw [havL_all] at hos hsl ⊢
      rw [hsl] at hos ⊢
      go_wp2_with (go_at_call 81; refine (l23Order_any U _ _ _ (r1.later hbel) hu20).mono ?_; rintro e w4 ⟨p, cp, rfl, hop, hb4⟩)
      have B4 := below_step hbel hb4 (Nat.le_refl _)
      have hpg : p ≠ g := by have := own_geq hop; have := own_ltw hos; omega
      have hos4 := Own.below hos hb4; have hom4 := Own.below hom hb4; have hop4 := Own.mono_ hop hbel.size
      clear hos hom hop
      go_loopw [12, 9] (fun i m wr => ∃ (k q cq : Nat) (S M : List Int), k ≤ U.length ∧ i = .int .i64 k ∧ m = .slice (some ⟨q, 0, none⟩) (srtI M).length cq ∧ Hid (runO L U (dueK U D k) = (S, M)) ∧ Own encI 1 3 w.heap.size wr (.slice (some ⟨g, 0, none⟩) L.length cap) S ∧ Own encI 1 3 w.heap.size wr (.slice (some ⟨q, 0, none⟩) (srtI M).length cq) (srtI M) ∧ Own encI 1 3 w.heap.size wr (.slice (some ⟨p, 0, none⟩) U.length cp) (toI (ordU U)) ∧ q ≠ g ∧ Below w.heap.size w wr) (fun i _ _ => U.length - (intOf i).toNat)
      case atStart => exact ⟨0, _, _, _, [], Nat.zero_le _, rfl, rfl, hide rfl, hos4, hom4, hop4, hne, B4⟩
      case round =>
        clear hos4 hom4 hop4 B4 hb4 hbel
        obtain ⟨k, q, cq, S, M, hk, rfl, rfl, hrun, hos, hom, hop, hqg, hbel⟩ := hrel
        by_cases hlt : k < U.length
        · have hki : (k : Int) < (U.length : Int) := by omega
          obtain ⟨f1, f2, f3, f4⟩ := run_k H.out hrun.out
          obtain ⟨i, hi⟩ : ∃ i, (ordU U)[k]? = some i := ⟨_, List.getElem?_eq_getElem (by rw [ordU_len]; omega)⟩
          have hiU := ordU_lt (List.mem_of_getElem? hi)
          have yo := own_int hop (by rw [toI_len, ordU_len]) (toI_at hi)
          obtain ⟨bu, ou, rfl, _, hcu⟩ := Use.rd_at r1 (by intro h; subst h; simp at hlt)
          have hgi := List.getElem?_eq_getElem hiU
          obtain ⟨u0, u1, u2⟩ := hcu i _ hgi
          obtain ⟨⟨kk, hkk, hkl⟩, ⟨d0, d9⟩, n0, n9⟩ := uses_at H.out hgi
          have hday := dayU_at hgi
          generalize U[i] = u at *
          replace u0 := below_cell hbel u0; replace u1 := below_cell hbel u1; replace u2 := below_cell hbel u2
          obtain ⟨x, hx⟩ : ∃ x, S[kk]? = some x := ⟨_, List.getElem?_eq_getElem (by omega)⟩
          obtain ⟨x0, x9⟩ := f2 x (List.mem_of_getElem? hx)
          have hnew : (i : Int) ∉ srtI M := fun hmem => by
            obtain ⟨j, hj, he⟩ := f4 _ ((srtI_perm M).mem_iff.1 hmem)
            have : i = j := by omega
            subst this
            exact dueK_new hi hj
          have hml : (srtI M).length ≤ 20 := by rw [(srtI_perm M).length_eq]; exact f3
          have hii : (i : Int) < (U.length : Int) := by omega
          have hkki : (kk : Int) < (L.length : Int) := by omega
          have HKK := hide hkk; have HI := hide hi; have HGI := hide hgi; have HDAY := hide hday; have HX := hide hx; have HNEW := hide hnew; have F1 := hide f1
          clear hkk hi hgi hday hx hnew f1 f2 f4 hcu
          have hws := hbel.size
          have BB : Below wr.heap.size wr (wr.alloc (.cells #[.string u.name, .int .i64 u.day, .int .i64 u.count] 60)) := (Below.refl _ _).alloc (Nat.le_refl _) _
          have BX := below_step hbel BB (Nat.le_refl _)
          have hosx := Own.below hos BB; have homx := Own.below hom BB; have hopx := Own.below hop BB
          have yx := own_int hosx F1.out HX.out
          have yox := below_cell BB yo
          have z2 := cell_new wr #[.string u.name, .int .i64 u.day, .int .i64 u.count] 60 wr.heap.size 2 _ rfl rfl
          by_cases hdd : D < u.day
          · have HDU := hide (dueK_no (D := D) HI.out (by rw [HDAY.out]; omega))
            go_wp2_with (go_at_call 65; refine (l23Find_is HKK.out _ _ _ (r0.later BX) l0).mono ?_; rintro e w' ⟨rfl, rfl⟩)
            go_roundw
            case rel => exact ⟨k + 1, q, cq, S, M, by omega, by go_num, rfl, hide (by rw [HDU.out]; exact hrun.out), hosx, homx, hopx, hqg, BX⟩
            case measure => simp [intOf] <;> omega
          · have HDU := hide (dueK_yes (D := D) HI.out (by rw [HDAY.out]; omega))
            have a0 := after_cell yx; have a1 := after_cell z2
            by_cases hle : u.count ≤ x
            · have hd : decide (u.count ≤ x) = true := decide_eq_true hle
              go_wp2_with (go_at_call 65; refine (l23Find_is HKK.out _ _ _ (r0.later BX) l0).mono ?_; rintro e w' ⟨rfl, rfl⟩)
              refine wp_region_after (by kernel_rfl) (by kernel_rfl) ?_
              repeat (go_big_quiet_step (fail))
              refine wpQuiet_nil ?_
              rintro W3 ⟨⟨_, hb3⟩, rfl⟩
              clear a0 a1
              have B3 := below_step BX hb3 (Nat.le_refl _)
              have hos3 := Own.below hosx hb3; have hom3 := Own.below homx hb3; have hop3 := Own.below hopx hb3
              have yx3 := below_cell hb3 yx; have z3 := below_cell hb3 z2
              have hfz := own_int_frozen hos3 F1.out kk
              have hset := hide (own_int_set hos3 F1.out hkl (x - u.count))
              have hm3 := hide (set_keep (k := kk) (u := .int .i64 (x - u.count)) hom3 hqg)
              have hp3 := hide (set_keep (k := kk) (u := .int .i64 (x - u.count)) hop3 hpg)
              have hgw := own_geq hos3
              have hw5 : IntKind.i64.wrap (x - u.count) = x - u.count := by rw [IntKind.wrap_i64]; omega
              have HR := hide (show runO L U (dueK U D (k + 1)) = (S.set kk (x - u.count), M) by rw [HDU.out, runO_snoc]; exact runS_yes hrun.out HGI.out HKK.out HX.out hle)
              have HB3 := hide B3
              clear hos hom hop hosx homx hopx hos3 hom3 hop3 yx yo yox z2 u0 u1 u2
              go_wp2_with fail
              refine wp_region_tail 10 (by kernel_rfl) (by kernel_rfl) ?_
              simp only [List.take_succ_cons, List.take_zero, List.drop_succ_cons, List.drop_zero]
              repeat (first | still_step)
              refine wpStill_nil ?_
              go_wp2_with fail
              go_roundw
              case rel => exact ⟨k + 1, q, cq, _, M, by omega, by go_num, rfl, HR, by first | exact hset.out | (rw [hw5]; exact hset.out), by first | exact hm3.out | (rw [hw5]; exact hm3.out), by first | exact hp3.out | (rw [hw5]; exact hp3.out), hqg, by first | exact (HB3.out.setCell (p := ⟨g, kk, none⟩) hgw _).drew | exact HB3.out.setCell (p := ⟨g, kk, none⟩) hgw _⟩
              case measure => simp [intOf] <;> omega
            · have hd : decide (u.count ≤ x) = false := decide_eq_false hle
              have HR := hide (show runO L U (dueK U D (k + 1)) = (S, M ++ [(i : Int)]) by rw [HDU.out, runO_snoc]; exact runS_no hrun.out HGI.out HKK.out HX.out hle)
              go_wp2_with (go_at_call 65; refine (l23Find_is HKK.out _ _ _ (r0.later BX) l0).mono ?_; rintro e w' ⟨rfl, rfl⟩)
              refine wp_region_after (by kernel_rfl) (by kernel_rfl) ?_
              repeat (go_big_quiet_step (fail))
              refine wpQuiet_nil ?_
              rintro W3 ⟨⟨_, hb3⟩, rfl⟩
              clear a0 a1
              have B3 := below_step BX hb3 (Nat.le_refl _)
              have hos3 := Own.below hosx hb3; have hom3 := Own.below homx hb3; have hop3 := Own.below hopx hb3
              have yo3 := below_cell hb3 yox
              have hgl := own_ltw hos3
              clear hos hom hop hosx homx hopx yx yo yox z2 u0 u1 u2
              go_wp2_with (go_at_call 82; refine (l1Put_any (srtI M) (i : Int) _ _ _ w.heap.size _ rfl (by simp) hom3 (by omega) HNEW.out).mono ?_; rintro e w6 ⟨q6, c6, rfl, ho6, hb6⟩)
              have hq6 := own_geq ho6
              go_roundw
              case rel => exact ⟨k + 1, q6, c6, S, _, by omega, by go_num, sl_eq (by rw [(srtI_perm _).length_eq, (srtI_perm _).length_eq]; simp), HR, Own.below hos3 hb6, by rw [srtI_snoc, show (putI (srtI M) (i : Int)).length = (srtI M).length + 1 by rw [← srtI_snoc, (srtI_perm _).length_eq, (srtI_perm _).length_eq]; simp]; exact Own.mono_ ho6 B3.size, Own.below hop3 hb6, by omega, below_step B3 hb6 (Nat.le_refl _)⟩
              case measure => simp [intOf] <;> omega
        · obtain rfl : k = U.length := by omega
          have HR := hide (show runL L U D = (S, M) by rw [runL, ← dueK_all]; exact hrun.out)
          go_wp2_with fail
          go_ret2
          rw [missL, HR.out]
          exact ⟨g, cap, q, cq, rfl, hos, hom, hbel⟩
end Go.Proofs.Ytlphegjhkchglaa
