/- In how many ways a pattern is met: the reference's function. Slices are as the reader gives them. -/
import Derived.Test.YtmnepaedkilnoaaWays
import Derived.Test.YtmnepaedkilnoaaSetC
import Derived.Test.YtmnepaedkilnoaaToInt
namespace Go.Proofs.Ytmnepaedkilnoaa
open Go Go.RowKit
set_option linter.unusedVariables false
set_option maxRecDepth 100000 in
set_option maxHeartbeats 4000000 in
theorem CountMatches_spec {L : List Pattern} {P : List Pat} (hPP : Pattern.pats L = P) (A0 A1 : Option Addr) (c0 c1 : Nat) (R : List Event) (fault : Int) (w : World) (r0 : Rd Event.enc 2 w.heap.size w A0 R) (ok0 : ∀ c ∈ R, c.Ok) (l0 : R.length ≤ maxLen) (r1 : Rd Pattern.enc 3 w.heap.size w A1 L) (ok1 : ∀ c ∈ L, c.Ok) (l1 : L.length ≤ maxLen) (d1 : Pattern.DeepP w.heap.size w L) :
    Calls Try.prog 28 #[.slice A0 R.length c0, .slice A1 L.length c1, .int .i64 fault] w (fun e w' => e = .returned (.tuple #[.int .i64 (cntI R P fault), .bool (cntB R P fault)]) ∧ Below w.heap.size w w') := by
  subst hPP
  rcases pick_cases R L fault with ⟨hpk, hno⟩ | ⟨k, c, hpk, hR, hP, hi, hk, hg, hpb⟩
  · have HV := hide (show cntI R (Pattern.pats L) fault = 0 by simp [cntI, hpk])
    have HV2 := hide (show cntB R (Pattern.pats L) fault = false by simp [cntB, hpk])
    have HN := hide hno; clear hno hpk
    go_enter Try.func28, Try.ntmps28
    go_wp2_with (go_at_call 67; refine (l20Asked_no L _ _ _ _ R fault _ r0 ok0 l0 r1 ok1 l1 d1 HN.out).mono ?_; rintro e w1 ⟨rfl, hb1⟩)
    go_ret2
    exact ⟨by rw [HV.out, HV2.out]; rfl, hb1⟩
  · have HV := hide (show cntI R (Pattern.pats L) fault = if 10000 < waysUp R c.toPat R.length then 0 else waysUp R c.toPat R.length by simp only [cntI, hpk])
    have HV2 := hide (show cntB R (Pattern.pats L) fault = decide (waysUp R c.toPat R.length ≤ 10000) by simp only [cntB, hpk])
    have hlr := riseB_len hR
    have HRB := hide (fun (k : Nat) (e : Event) (hk : R[k]? = some e) => recB_bd hR hk)
    obtain ⟨⟨pf0, pf1⟩, ⟨pl0, pl1⟩, pw0, pw1⟩ := patB_bd hpb
    have hmk := hmk_int (c.codes.length) (by omega)
    have HR := hide hR; have HP := hide hP; have HI := hide hi; have HG := hide hg; have HPB := hide hpb; have HME := hide (List.mem_of_getElem? hg)
    clear hR hP hi hpb hpk
    obtain ⟨bc, oc, hca, hbc, hcc⟩ := rd_int (d1 c HME.out) (by intro h; simp [h] at pl0)
    obtain ⟨b, o, rfl, hb, hc⟩ := Pattern.rd_at r1 (by intro h; subst h; simp at hk)
    obtain ⟨x0, x1, x2⟩ := hc k c hg
    have hki : (k : Int) < (L.length : Int) := by omega
    clear hc hg
    go_enter Try.func28, Try.ntmps28
    go_wp2_with (first | (go_at_call 67; refine (l20Asked_yes L _ _ _ _ R fault _ r0 ok0 l0 r1 ok1 l1 d1 HR.out HP.out k HI.out).mono ?_; rintro e w1 ⟨rfl, hb1⟩; have B2 := hb1; have y0 := below_cell hb1 x0; have y1 := below_cell hb1 x1; have y2 := below_cell hb1 x2) | (go_at_call 68; refine (l20Find_is HI.out _ _ _ (r1.later hb1) l1).mono ?_; rintro e w3 ⟨rfl, rfl⟩))
    have hbB : Below w.heap.size w (w1.alloc (.cells #[.int .i64 c.fault, .slice (some ⟨bc, oc, none⟩) c.codes.length c.cc, .int .i64 c.within] 62)) := hb1.alloc hb1.size _
    have z1 : (w1.alloc (.cells #[.int .i64 c.fault, .slice (some ⟨bc, oc, none⟩) c.codes.length c.cc, .int .i64 c.within] 62)).cell? ⟨w1.heap.size, 1, none⟩ = some (.slice (some ⟨bc, oc, none⟩) c.codes.length c.cc) := (CF.new w1 #[.int .i64 c.fault, .slice (some ⟨bc, oc, none⟩) c.codes.length c.cc, .int .i64 c.within] 62 w1.heap.size 1 _ rfl rfl).1
    have z2 : (w1.alloc (.cells #[.int .i64 c.fault, .slice (some ⟨bc, oc, none⟩) c.codes.length c.cc, .int .i64 c.within] 62)).cell? ⟨w1.heap.size, 2, none⟩ = some (.int .i64 c.within) := (CF.new w1 #[.int .i64 c.fault, .slice (some ⟨bc, oc, none⟩) c.codes.length c.cc, .int .i64 c.within] 62 w1.heap.size 2 _ rfl rfl).1
    have hszB : w1.heap.size + 1 = (w1.alloc (.cells #[.int .i64 c.fault, .slice (some ⟨bc, oc, none⟩) c.codes.length c.cc, .int .i64 c.within] 62)).heap.size := by simp
    generalize (w1.alloc (.cells #[.int .i64 c.fault, .slice (some ⟨bc, oc, none⟩) c.codes.length c.cc, .int .i64 c.within] 62)) = wB at *
    go_loopw [10, 9] (fun i s wr => ∃ k : Nat, k ≤ R.length ∧ i = .int .i64 k ∧ s = .int .i64 (waysUp R c.toPat k) ∧ Hid (0 ≤ waysUp R c.toPat k ∧ waysUp R c.toPat k ≤ k * 1073741824) ∧ Below wB.heap.size wB wr) (fun i _ _ => R.length - (intOf i).toNat)
    case atStart => exact ⟨0, Nat.zero_le _, rfl, rfl, hide (by simp [waysUp]), Below.refl _ _⟩
    case round =>
      obtain ⟨k, hk, rfl, rfl, hsum, hbel⟩ := hrel
      have hbw := below_step hbB hbel (Nat.le_refl _)
      have y1 := below_cell hbel z1; have y2 := below_cell hbel z2
      obtain ⟨hs0, hs1⟩ := hsum.out
      by_cases hlt : k < R.length
      · obtain ⟨br, ob, rfl, hbr, hcr⟩ := Event.rd_at r0 (by intro h; subst h; simp at hlt)
        have hget := List.getElem?_eq_getElem hlt
        obtain ⟨e0t, e0c⟩ := hcr k _ hget
        have hEB := HRB.out _ _ hget
        generalize R[k] = e0 at *
        replace e0t := below_cell hbw e0t; replace e0c := below_cell hbw e0c
        obtain ⟨⟨he0, he1⟩, _⟩ := hEB
        have hg0 := List.getElem?_eq_getElem (show 0 < c.codes.length by omega)
        have q0c := below_cell hbw (hcc 0 _ hg0)
        generalize c.codes[0] = q0 at *
        have q0d := q0c; rw [Nat.add_zero] at q0d
        have hc0 : (0 : Int) < (c.codes.length : Int) := by omega
        have hkr : (k : Int) < (R.length : Int) := by omega
        have a0 := after_cell e0c
        have a1 := after_cell y1
        have a2 := after_cell q0d
        have a3 := after_cell q0c
        by_cases hq : e0.code = q0
        · have hd0 : decide (e0.code = q0) = true := by simpa using hq
          have HYS : Hid (∀ {u : Int} {W : List Int}, wGo R c.toPat e0.time (R.length - (k + 1)) (k + 1) (ways0 c.codes.length) = W → W[c.codes.length - 1]? = some u → wFrom R c.toPat k = u) := hide (fun h1 h2 => wFrom_yes hget hg0 hq h1 h2)
          clear hget hg0
          go_wp2_with fail
          refine wp_region_after (by kernel_rfl) (by kernel_rfl) ?_
          repeat (go_big_quiet_step (fail))
          refine wpQuiet_nil ?_
          rintro w5 ⟨⟨_, hb5⟩, rfl⟩
          clear a0 a1 a2 a3
          replace e0t := below_cell hb5 e0t
          replace y1 := below_cell hb5 y1
          replace y2 := below_cell hb5 y2
          have BW := below_step hbel hb5 (Nat.le_refl _)
          have BW2 := below_step hbB BW (Nat.le_refl _)
          have ho0 : Own encI 1 3 w5.heap.size (w5.alloc (.cells (madeCells #[.int .i64 0] c.codes.length) 3)) (.slice (some ⟨w5.heap.size, 0, none⟩) c.codes.length c.codes.length) (List.replicate c.codes.length 0) := own_zeros (Nat.le_refl _) (by unfold maxLen; omega)
          have u0 := own_int ho0 (List.length_replicate ..) (show (List.replicate c.codes.length (0 : Int))[0]? = some 0 by rw [List.getElem?_replicate, if_pos (by omega)])
          have f0 := own_int_frozen ho0 (List.length_replicate ..) 0
          have ho1 := own_made1 (T := 3) (lo := w5.heap.size) (n := c.codes.length) (j := 0) (w := w5) (Nat.le_refl _) (by unfold maxLen; omega)
          rw [zeros_set0 (by omega)] at ho1
          have hb6 : Below w5.heap.size w5 (w5.alloc (.cells ((madeCells #[.int .i64 0] c.codes.length).setIfInBounds 0 (.int .i64 1)) 3)) := (Below.refl _ _).alloc (Nat.le_refl _) _
          go_wp2_with fail
          go_loopw [12] (fun x wv => ∃ (i : Nat) (W : List Int), k + 1 ≤ i ∧ i ≤ R.length ∧ x = .int .i64 i ∧ W.length = c.codes.length ∧ Own encI 1 3 w5.heap.size wv (.slice (some ⟨w5.heap.size, 0, none⟩) c.codes.length c.codes.length) W ∧ Hid (Cnt (2 ^ i) W) ∧ Hid (wGo R c.toPat e0.time (R.length - i) i W = wGo R c.toPat e0.time (R.length - (k + 1)) (k + 1) (ways0 c.codes.length)) ∧ Below w5.heap.size w5 wv) (fun x _ => R.length - (intOf x).toNat)
          case atStart => exact ⟨k + 1, _, Nat.le_refl _, by omega, by go_num, ways0_len (by omega), ho1, hide (ways0_cnt (pow_bd (by omega)).1), hide rfl, hb6⟩
          case round =>
            obtain ⟨i, W, hki1, hil, rfl, hWl, hown, hcnt, hgo, hb7⟩ := hrel
            clear ho0 ho1 u0 f0 hb6
            have e0w := below_cell hb7 e0t; have p2w := below_cell hb7 y2; have p1w := below_cell hb7 y1
            have BV := below_step BW2 hb7 (Nat.le_refl _)
            by_cases hir : i < R.length
            · have hgi := List.getElem?_eq_getElem hir
              obtain ⟨et, ec⟩ := hcr i _ hgi
              have hEI := HRB.out _ _ hgi
              generalize R[i] = e at *
              replace et := below_cell BV et; replace ec := below_cell BV ec
              obtain ⟨⟨ei0, ei1⟩, _⟩ := hEI
              have hir2 : (i : Int) < (R.length : Int) := by omega
              have a0 := after_cell et
              have a1 := after_cell e0w
              have a2 := after_cell p2w
              by_cases hlate : e.time - e0.time ≤ c.within
              · have hd1 : decide (e.time - e0.time ≤ c.within) = true := by simpa using hlate
                obtain ⟨f, hfe⟩ : ∃ f, R.length - i = f + 1 := ⟨R.length - i - 1, by omega⟩
                have hgf := wGo_on (f := f) (W := W) (p := c.toPat) (t0 := e0.time) hgi (by omega)
                rw [← hfe, hgo.out, show f = R.length - (i + 1) by omega] at hgf
                have HGF := hide hgf; clear hgf hfe hgi
                go_wp2_with fail
                refine wp_region_after (by kernel_rfl) (by kernel_rfl) ?_
                repeat (go_big_quiet_step (fail))
                refine wpQuiet_nil ?_
                rintro w8 ⟨⟨_, hb8⟩, rfl⟩
                clear a0 a1 a2
                replace p1w := below_cell hb8 p1w
                replace ec := below_cell hb8 ec
                have hown8 := Own.below hown hb8
                have BX := below_step hb7 hb8 (Nat.le_refl _)
                have BV8 := below_step BV hb8 (Nat.le_refl _)
                have hcc8 : Hid (∀ (k : Nat) (n : Int), c.codes[k]? = some n → w8.cell? ⟨bc, oc + k, none⟩ = some (.int .i64 n)) := hide (fun k n hk => below_cell BV8 (hcc k n hk))
                have hpw0 := (pow_bd (i := i) (by omega)).1; have hpw1 := (pow_bd (i := i) (by omega)).2
                have hck0 : Hid (CntK (2 ^ i) (c.codes.length - 1) W) := hide (CntK.start hcnt.out (by omega))
                have HPW := hide (pow_step i)
                generalize (2 : Int) ^ i = Z at *
                clear hcc
                go_wp2_with fail
                go_loopw [13] (fun y wx => ∃ (j : Nat) (V : List Int), j ≤ c.codes.length - 1 ∧ y = .int .i64 j ∧ V.length = c.codes.length ∧ Own encI 1 3 w5.heap.size wx (.slice (some ⟨w5.heap.size, 0, none⟩) c.codes.length c.codes.length) V ∧ Hid (CntK Z j V) ∧ Hid (kDown c.codes e.code j V = kDown c.codes e.code (c.codes.length - 1) W) ∧ Below w5.heap.size w8 wx) (fun y _ => (intOf y).toNat)
                case atStart => exact ⟨c.codes.length - 1, W, Nat.le_refl _, in_eq (by omega), hWl, hown8, hck0, hide rfl, Below.refl _ _⟩
                case round =>
                  clear hown hown8 hck0 hcnt
                  obtain ⟨j, V, hjn, rfl, hVl, hown9, hck, hkd, hb10⟩ := hrel
                  have hsz9 : w5.heap.size ≤ wr.heap.size := by have := BX.size; have := hb10.size; omega
                  by_cases hj0 : j = 0
                  · subst hj0
                    have HKD : Hid (V = kDown c.codes e.code (c.codes.length - 1) W) := hkd
                    go_wp2_with fail
                    go_roundw
                    case rel => exact ⟨i + 1, V, by omega, by omega, by go_num, hVl, hown9, hide (by rw [HPW.out]; exact CntK.all hck.out), hide (by rw [HKD.out]; exact HGF.out.symm), BX.trans hb10⟩
                    case measure => simp [intOf] <;> omega
                  · obtain ⟨m, rfl⟩ : ∃ m, j = m + 1 := ⟨j - 1, by omega⟩
                    have hgc := List.getElem?_eq_getElem (show m + 1 < c.codes.length by omega)
                    have hg1 := List.getElem?_eq_getElem (show m + 1 < V.length by omega)
                    have hgv := List.getElem?_eq_getElem (show m < V.length by omega)
                    have cw := (hb10.cell (p := ⟨bc, oc + (m + 1), none⟩) (by have := BW2.size; show bc < w5.heap.size; omega)).trans (hcc8.out _ _ hgc)
                    have cu := own_int hown9 hVl hg1; have cv := own_int hown9 hVl hgv
                    have hbu := hck.out _ _ hg1; have hbv := hck.out _ _ hgv
                    have hfz := own_int_frozen hown9 hVl (m + 1)
                    have ecw := (hb10.cell (p := ⟨br, ob + i * 2 + 1, none⟩) (by have := BW2.size; show br < w5.heap.size; omega)).trans ec
                    have p1v := (hb10.cell (p := ⟨w1.heap.size, 1, none⟩) (by have := BW.size; show w1.heap.size < w5.heap.size; omega)).trans p1w
                    have HIT := hide (fun (h : c.codes[m + 1] = e.code) => kDown_hit hgc h hg1 hgv)
                    have MISS := hide (fun (h : ¬ c.codes[m + 1] = e.code) => kDown_miss (W := V) hgc h)
                    have HCK := hide (CntK.hit hck.out hg1 hgv)
                    generalize c.codes[m + 1] = q at *
                    generalize V[m + 1] = u at *
                    generalize V[m] = v at *
                    clear hgc hg1 hgv
                    have hmi : ((m + 1 : Nat) : Int) < (c.codes.length : Int) := by omega
                    have hmj : ((m : Nat) : Int) < (c.codes.length : Int) := by omega
                    have a0 := after_cell ecw
                    have a1 := after_cell p1v
                    have a2 := after_cell cw
                    by_cases hq2 : q = e.code
                    · have hd2 : decide (e.code = q) = true := by simp [hq2]
                      go_wp2_with fail
                      refine wp_region_after (by kernel_rfl) (by kernel_rfl) ?_
                      repeat (go_big_quiet_step (fail))
                      refine wpQuiet_nil ?_
                      rintro w9 ⟨⟨_, hb9⟩, rfl⟩
                      clear a0 a1 a2
                      replace cu := below_cell hb9 cu; replace cv := below_cell hb9 cv
                      have hW := hide (show wrap64 (u + v) = u + v by unfold wrap64; omega)
                      have hset := hide (own_int_set (Own.below hown9 hb9) hVl (k := m + 1) (by omega) (u + v))
                      replace hfz := own_int_frozen (Own.below hown9 hb9) hVl (m + 1)
                      have HB9 := hide (below_step hb10 hb9 BX.size)
                      clear hown9
                      have hj1 : (m : Int) + 1 < (c.codes.length : Int) := by omega
                      have hj2 : (0 : Int) ≤ (m : Int) + 1 := by omega
                      have hj3 : ((m : Int) + 1).toNat = m + 1 := by omega
                      have hj4 : wrap64 ((m : Int) + 1 - 1) = (m : Int) := by unfold wrap64; omega
                      have hj5 : IntKind.i64.wrap (m : Int) = (m : Int) := by rw [IntKind.wrap_i64]; omega
                      have hj6 : IntKind.i64.wrap (u + v) = u + v := by rw [IntKind.wrap_i64]; omega
                      go_wp2_with fail
                      refine wp_region_tail 13 (by kernel_rfl) (by kernel_rfl) ?_
                      simp only [List.take_succ_cons, List.take_zero, List.drop_succ_cons, List.drop_zero]
                      repeat (first | still_step)
                      refine wpStill_nil ?_
                      go_wp2_with fail
                      go_roundw
                      case rel => exact ⟨m, V.set (m + 1) (u + v), by omega, in_eq (by omega), by rw [List.length_set]; exact hVl, by first | exact hset.out | (rw [hW.out]; exact hset.out), HCK, hide (by rw [← HIT.out hq2]; exact hkd.out), by first | exact (HB9.out.setCell (p := ⟨w5.heap.size, m + 1, none⟩) (Nat.le_refl _) _).drew | (rw [hW.out]; exact (HB9.out.setCell (p := ⟨w5.heap.size, m + 1, none⟩) (Nat.le_refl _) _).drew)⟩
                      case measure => simp [intOf] <;> omega
                    · have hd2 : decide (e.code = q) = false := by simp; omega
                      go_wp2_with fail
                      refine wp_region_after (by kernel_rfl) (by kernel_rfl) ?_
                      repeat (go_big_quiet_step (fail))
                      refine wpQuiet_nil ?_
                      rintro w9 ⟨⟨_, hb9⟩, rfl⟩
                      go_wp2_with fail
                      go_roundw
                      case rel => exact ⟨m, V, by omega, in_eq (by omega), hVl, Own.below hown9 hb9, hide (CntK.miss hck.out), hide (by rw [← MISS.out hq2]; exact hkd.out), below_step hb10 hb9 BX.size⟩
                      case measure => simp [intOf] <;> omega
              · have hd1 : decide (e.time - e0.time ≤ c.within) = false := by simpa using hlate
                have hgf := wGo_late (f := R.length - i) (W := W) (p := c.toPat) (t0 := e0.time) hgi (by omega)
                rw [hgo.out] at hgf
                have hul := List.getElem?_eq_getElem (show c.codes.length - 1 < W.length by omega)
                have hub := hcnt.out _ _ hul
                have hpw := (pow_bd (i := i) (by omega)).2
                have uc := own_int hown hWl hul
                have HF := hide (HYS.out hgf hul)
                generalize W[c.codes.length - 1]'(by omega) = u at *
                have hnn : (c.codes.length : Int) - 1 < (c.codes.length : Int) := by omega
                clear hgi hul hgf hgo hcnt
                go_wp2_with fail
                refine wp_region_after (by kernel_rfl) (by kernel_rfl) ?_
                repeat (go_big_quiet_step (fail))
                refine wpQuiet_nil ?_
                rintro w8 ⟨⟨_, hb8⟩, rfl⟩
                replace uc := below_cell hb8 uc
                go_wp2_with fail
                go_roundw
                case rel => exact ⟨k + 1, by omega, by go_num, by rw [waysUp, HF.out], hide (by rw [waysUp, HF.out]; omega), below_step (below_step BW hb7 (Nat.le_refl _)) hb8 (Nat.le_refl _)⟩
                case measure => simp [intOf] <;> omega
            · obtain rfl : i = R.length := by omega
              have hd0 : decide ((R.length : Int) < (R.length : Int)) = false := by simp
              have hgf := wGo_end (R := R) (f := R.length - R.length) (i := R.length) (W := W) (p := c.toPat) (t0 := e0.time) (Nat.le_refl _)
              rw [hgo.out] at hgf
              have hul := List.getElem?_eq_getElem (show c.codes.length - 1 < W.length by omega)
              have hub := hcnt.out _ _ hul
              have hpw := (pow_bd (i := R.length) (by omega)).2
              have uc := own_int hown hWl hul
              have HF := hide (HYS.out hgf hul)
              generalize W[c.codes.length - 1]'(by omega) = u at *
              have hnn : (c.codes.length : Int) - 1 < (c.codes.length : Int) := by omega
              clear hul hgf hgo hcnt
              go_wp2_with fail
              refine wp_region_after (by kernel_rfl) (by kernel_rfl) ?_
              repeat (go_big_quiet_step (fail))
              refine wpQuiet_nil ?_
              rintro w8 ⟨⟨_, hb8⟩, rfl⟩
              replace uc := below_cell hb8 uc
              go_wp2_with fail
              go_roundw
              case rel => exact ⟨k + 1, by omega, by go_num, by rw [waysUp, HF.out], hide (by rw [waysUp, HF.out]; omega), below_step (below_step BW hb7 (Nat.le_refl _)) hb8 (Nat.le_refl _)⟩
              case measure => simp [intOf] <;> omega
        · have hd0 : decide (e0.code = q0) = false := by simpa using hq
          have HN := hide (wFrom_no hget hg0 hq)
          clear hget hg0
          go_wp2_with fail
          refine wp_region_after (by kernel_rfl) (by kernel_rfl) ?_
          repeat (go_big_quiet_step (fail))
          refine wpQuiet_nil ?_
          rintro w5 ⟨⟨_, hb5⟩, rfl⟩
          go_wp2_with fail
          go_roundw
          case rel => exact ⟨k + 1, by omega, by go_num, by rw [waysUp, HN.out, Int.add_zero], hide (by rw [waysUp, HN.out]; omega), below_step hbel hb5 (Nat.le_refl _)⟩
          case measure => simp [intOf] <;> omega
      · obtain rfl : k = R.length := by omega
        by_cases h9 : 10000 < waysUp R c.toPat R.length
        · generalize waysUp R c.toPat R.length = s at *
          go_wp2_with fail
          go_ret2
          exact ⟨ret_2 (in_eq (by rw [HV.out]; first | rw [if_pos (by omega)] | rw [if_neg (by omega)])) (bo_eq (by rw [HV2.out]; first | exact (decide_eq_false (by omega)).symm | exact (decide_eq_true (by omega)).symm)), hbw⟩
        · generalize waysUp R c.toPat R.length = s at *
          go_wp2_with fail
          go_ret2
          exact ⟨ret_2 (in_eq (by rw [HV.out]; first | rw [if_pos (by omega)] | rw [if_neg (by omega)])) (bo_eq (by rw [HV2.out]; first | exact (decide_eq_false (by omega)).symm | exact (decide_eq_true (by omega)).symm)), hbw⟩
end Go.Proofs.Ytmnepaedkilnoaa
