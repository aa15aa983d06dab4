/- InspectionPlan: the program's function. -/
import Derived.Test.YtknondhdhjegbaaInspP
import Derived.Test.YtknondhdhjegbaaTabS
import Derived.Deep.DeepCutAuto
import Derived.Deep.CutBlock
namespace Go.Proofs.Ytknondhdhjegbaa
open Go Go.RowKit
set_option linter.unusedVariables false
theorem rowsC_get {fr te : Int} {c : Condition} {i : Nat} (h : i < cntC (max (endC c) fr) c.every te) : (rowsC fr te c).take (i + 1) = (rowsC fr te c).take i ++ [[max (endC c) fr + c.every * (i : Int), c.number]] := by
  have hl : i < (rowsC fr te c).length := by simp [rowsC]; exact h
  rw [take_snocL _ i hl]
  simp [rowsC]
theorem rowsC_len (fr te : Int) (c : Condition) : (rowsC fr te c).length = cntC (max (endC c) fr) c.every te := by simp [rowsC]
theorem cnt_le {s e te : Int} (he : 1 ≤ e) (hs : 0 ≤ s) (ht : te - s ≤ 400) : cntC s e te ≤ 401 := by
  rcases Nat.lt_or_ge 401 (cntC s e te) with h | h
  · have h1 := (cnt_iff he 401).1 h
    have h2 : (401 : Int) ≤ e * 401 := by omega
    omega
  · exact h
theorem preV_take {L : List Condition} {fr te : Int} {k : Nat} (h : k < L.length) : preV (L.take (k + 1)) fr te = preV (L.take k) fr te ++ rowsC fr te L[k] := by
  rw [take_snocL L k h, preV, preV, List.flatMap_append]; simp
set_option maxRecDepth 100000 in
set_option maxHeartbeats 8000000 in
theorem InspectionPlan_any (L : List Condition) (fr te : Int) (A : Option Addr) (cap : Nat) (w : World) (hr : Rd Condition.enc 5 w.heap.size w A L) (hok : ∀ c ∈ L, c.Ok) (hl : L.length ≤ maxLen) :
    Calls Try.prog 44 #[.slice A L.length cap, .int .i64 fr, .int .i64 te] w (GivesT (inspV L fr te) (fun v => .tuple #[v, .bool (inspOk L fr te)]) w) := by
  cases h0 : goodC L
  · as_aux_lemma =>
      have HB := hide (show inspOk L fr te = false by simp [inspOk, h0])
      have HV := hide (show inspV L fr te = [] by rw [inspV, if_neg (by rw [HB.out]; decide)])
      have HP := hide h0; clear h0
      go_enter Try.func44, Try.ntmps44
      go_wp2_with (first | (go_at_call 19; refine (AreC_is HP.out _ _ _ hr hok hl).mono ?_; rintro e w1 ⟨rfl, hb1⟩) | (go_at_call 49; refine (within_is (by assumption) _).mono ?_; rintro e w2 ⟨rfl, rfl⟩))
      go_ret2
      rw [HV.out, HB.out]
      exact ⟨none, 0, rfl, ⟨[], rfl, own_nil _ _ _, .nil, fun g hg => (by cases hg), fun r hr => by cases hr⟩, hb1⟩
  cases h2 : inB fr 0 te
  · as_aux_lemma =>
      have HB := hide (show inspOk L fr te = false by simp [inspOk, h2])
      have HV := hide (show inspV L fr te = [] by rw [inspV, if_neg (by rw [HB.out]; decide)])
      have HP := hide h0; clear h0
      go_enter Try.func44, Try.ntmps44
      go_wp2_with (first | (go_at_call 19; refine (AreC_is HP.out _ _ _ hr hok hl).mono ?_; rintro e w1 ⟨rfl, hb1⟩) | (go_at_call 49; refine (within_is (by assumption) _).mono ?_; rintro e w2 ⟨rfl, rfl⟩))
      go_ret2
      rw [HV.out, HB.out]
      exact ⟨none, 0, rfl, ⟨[], rfl, own_nil _ _ _, .nil, fun g hg => (by cases hg), fun r hr => by cases hr⟩, hb1⟩
  have hc := inB_iff.1 h2
  by_cases h1 : 9999 < te
  · as_aux_lemma =>
      have HB := hide (show inspOk L fr te = false by have : inB te 0 9999 = false := (by rcases Bool.eq_false_or_eq_true (inB te 0 9999) with h | h; exact absurd (inB_iff.1 h).2 (by omega); exact h); simp [inspOk, this])
      have HV := hide (show inspV L fr te = [] by rw [inspV, if_neg (by rw [HB.out]; decide)])
      have HP := hide h0; clear h0
      go_enter Try.func44, Try.ntmps44
      go_wp2_with (first | (go_at_call 19; refine (AreC_is HP.out _ _ _ hr hok hl).mono ?_; rintro e w1 ⟨rfl, hb1⟩) | (go_at_call 49; refine (within_is (by assumption) _).mono ?_; rintro e w2 ⟨rfl, rfl⟩))
      go_ret2
      rw [HV.out, HB.out]
      exact ⟨none, 0, rfl, ⟨[], rfl, own_nil _ _ _, .nil, fun g hg => (by cases hg), fun r hr => by cases hr⟩, hb1⟩
  by_cases h3 : 400 < te - fr
  · as_aux_lemma =>
      have HB := hide (show inspOk L fr te = false by have : decide (te - fr ≤ 400) = false := decide_eq_false (by omega); simp [inspOk, this])
      have HV := hide (show inspV L fr te = [] by rw [inspV, if_neg (by rw [HB.out]; decide)])
      have HP := hide h0; clear h0
      have hwr : IntKind.i64.wrap (te - fr) = te - fr := by rw [IntKind.wrap_i64]; omega
      go_enter Try.func44, Try.ntmps44
      go_wp2_with (first | (go_at_call 19; refine (AreC_is HP.out _ _ _ hr hok hl).mono ?_; rintro e w1 ⟨rfl, hb1⟩) | (go_at_call 49; refine (within_is (by assumption) _).mono ?_; rintro e w2 ⟨rfl, rfl⟩))
      go_ret2
      rw [HV.out, HB.out]
      exact ⟨none, 0, rfl, ⟨[], rfl, own_nil _ _ _, .nil, fun g hg => (by cases hg), fun r hr => by cases hr⟩, hb1⟩
  have HB := hide (show inspOk L fr te = true by simp only [inspOk, h0, h2, Bool.true_and, Bool.and_eq_true, decide_eq_true_eq]; exact ⟨inB_iff.2 ⟨by omega, by omega⟩, by omega⟩)
  have HV := hide (show inspV L fr te = inspTo L fr (te - fr + 1).toNat by rw [inspV, if_pos HB.out])
  have hlen := goodC_len h0
  have HGC := hide (goodC_cond h0)
  have HP := hide h0; clear h0
  have hwr : IntKind.i64.wrap (te - fr) = te - fr := by rw [IntKind.wrap_i64]; omega
  have hfrto : fr ≤ te := hc.2
  have hw0 : w.heap.size ≤ w.heap.size := Nat.le_refl _
  go_enter Try.func44, Try.ntmps44
  go_wp2_with (first | (go_at_call 19; refine (AreC_is HP.out _ _ _ hr hok hl).mono ?_; rintro e w1 ⟨rfl, hb1⟩) | (go_at_call 49; refine (within_is (by assumption) _).mono ?_; rintro e w2 ⟨rfl, rfl⟩))
  have BB := hb1.alloc hb1.size (.cells #[] 39)
  have ht := tab_empty (lo := w.heap.size) (w := w1) hb1.size
  go_loopw [34, 8] (fun i m wr => ∃ (k : Nat) (A : Option Addr) (cap : Nat) (U : List (List Int)), k ≤ L.length ∧ i = .int .i64 k ∧ m = .slice A U.length cap ∧ U.length ≤ 401 * k ∧ Hid (U = preV (L.take k) fr te) ∧ Hid (Tab w.heap.size wr.heap.size wr A cap U) ∧ A ≠ none ∧ Below w.heap.size w wr) (fun i _ _ => L.length - (intOf i).toNat)
  case atStart => exact ⟨0, _, _, [], Nat.zero_le _, rfl, rfl, by simp, hide (by simp [preV]), hide ht, by simp, BB⟩
  case round =>
    clear ht BB
    obtain ⟨k, A, cap, U, hk, rfl, rfl, hUl, HU, HT, hAn, hbel⟩ := hrel
    by_cases hlk : k < L.length
    · have hki : (k : Int) < (L.length : Int) := by omega
      have hget := List.getElem?_eq_getElem hlk
      have hbd := condB_bd (HGC.out k _ hget)
      have heb := endC_bd (HGC.out k _ hget)
      have HPT := hide (preV_take (fr := fr) (te := te) hlk)
      obtain ⟨b, o, rfl, _, hcL⟩ := Condition.rd_at hr (by intro h; rw [h] at hlk; simp at hlk)
      obtain ⟨x0, x1, x2, x3, x4⟩ := hcL k _ hget
      generalize L[k] = c at *
      replace x0 := below_cell hbel x0; replace x1 := below_cell hbel x1; replace x2 := below_cell hbel x2; replace x3 := below_cell hbel x3; replace x4 := below_cell hbel x4
      obtain ⟨⟨b0, b1⟩, ⟨b2, b3⟩, ⟨b4, b5⟩, b6, b7⟩ := hbd
      clear hcL hget
      have hAp : ∀ g, A = some ⟨g, 0, none⟩ → g ≠ wr.heap.size := fun g hg => by obtain ⟨R, _, _, _, ha, _⟩ := HT.out; have := (ha g hg).1; omega
      have hbx : Below wr.heap.size wr (wr.alloc (.cells #[.int .i64 c.number, .string c.what, .int .i64 c.every, .int .i64 c.last, .int .i64 c.grade] 26)) := (Below.refl _ _).alloc (Nat.le_refl _) _
      obtain ⟨z0, z1, z2, z3, z4⟩ := Condition.box_after wr c 26 ⟨_, Below.refl _ _⟩
      replace hbel := below_step hbel hbx (Nat.le_refl _)
      replace HT := hide ((HT.out.below hbx).mono (Nat.le_refl _) hbx.size)
      clear hbx
      go_upto_region 7 with fail
      generalize (wr.alloc (.cells #[.int .i64 c.number, .string c.what, .int .i64 c.every, .int .i64 c.last, .int .i64 c.grade] 26)) = wz at *
      generalize wr.heap.size = pz at *
      clear x0 x1 x2 x3 x4
      go_wp2_with fail
      refine (lastMet_any c _ (by omega) (by omega) (by omega) (by omega)).mono ?_
      rintro e w3 ⟨rfl, hb3⟩
      replace z0 := below_cell hb3 z0; replace z2 := below_cell hb3 z2
      replace hbel := below_step hbel hb3 (Nat.le_refl _)
      replace HT := hide ((HT.out.below hb3).mono (Nat.le_refl _) hb3.size)
      clear hb3 z1 z3 z4
      go_upto_block 2 with fail
      have hmx : (if endC c < fr then fr else endC c) = max (endC c) fr := by split <;> omega
      try rw [hmx]
      obtain ⟨s, hs⟩ : ∃ s, s = max (endC c) fr := ⟨_, rfl⟩
      rw [← hs]
      have hsb : 0 ≤ s ∧ s ≤ 20000 := by omega
      obtain ⟨hs0, hs1⟩ := hsb
      have HS := hide hs
      have HCL := hide (fun h400 : te - s ≤ 400 => cnt_le (te := te) b2 hs0 h400)
      clear hmx hs heb
      go_wp2_with fail
      go_loopw [11, 8] (fun i m wr => ∃ (q : Nat) (d : Int) (A : Option Addr) (cap : Nat) (V : List (List Int)), q ≤ cntC s c.every te ∧ i = .int .i64 d ∧ Hid (d = s + c.every * (q : Int)) ∧ 0 ≤ d ∧ d ≤ 21000 ∧ m = .slice A V.length cap ∧ V.length ≤ 401 * k + q ∧ Hid (V = U ++ (rowsC fr te c).take q) ∧ Hid (Tab w.heap.size wr.heap.size wr A cap V) ∧ A ≠ none ∧ (∀ g, A = some ⟨g, 0, none⟩ → g ≠ pz) ∧ wr.cell? ⟨pz, 0, none⟩ = some (.int .i64 c.number) ∧ wr.cell? ⟨pz, 2, none⟩ = some (.int .i64 c.every) ∧ Below w.heap.size w wr) (fun i _ _ => 30000 - (intOf i).toNat)
      case atStart => exact ⟨0, s, A, cap, U, Nat.zero_le _, rfl, hide (by simp), by omega, by omega, rfl, by omega, hide (by simp), HT, hAn, hAp, z0, z2, hbel⟩
      case round =>
        clear HT hbel z0 z2 hAp hAn
        obtain ⟨q, d, A, cap, V, hq, rfl, HD, d0, d1, rfl, hVl, HV2, HT, hAn, hAp, z0, z2, hbel⟩ := hrel
        by_cases hle : d ≤ te
        · have hqc : q < cntC s c.every te := (cnt_iff b2 q).2 (by rw [← HD.out]; exact hle)
          have hq401 : cntC s c.every te ≤ 401 := HCL.out (by have := HS.out; omega)
          obtain ⟨R, eR, ho, hr2, ha, hh⟩ := HT.out
          have hRl : R.length ≤ 6000 := by rw [← eR, List.length_map] at hVl; omega
          have hRV : R.length = V.length := by rw [← eR, List.length_map]
          rw [← hRV]
          have HER := hide eR; have HHA := hide (fun g hg => (ha g hg).2)
          have HNP := hide hAp
          have hob : ∀ g, (Value.slice A R.length cap).ownBlock = some g → g ≠ pz := fun g hg => by
            rcases ho.2 with ⟨h3, _⟩ | ⟨g2, c2, cur, h3, _⟩
            · injection h3 with h3; subst h3; cases hg
            · injection h3 with h3; subst h3; have h4 : some g2 = some g := hg; injection h4 with h4; subst h4; exact hAp g2 rfl
          have HOB := hide hob
          have hpz := World.block_lt_of_cell? _ _ z0
          clear eR ha hh hob hAp
          go_wp2_with (at_builtin; have ho' := World.ownsRow.alloc ho (.cells #[.int .i64 d, .int .i64 c.number] 3); refine wpList_push2 _ rfl (.tmp 49) (.tmp 54) 60 39 rfl Try.underlying60 rowInfo rfl (by omega) (by omega) Row.enc_len Row.enc_one w.heap.size _ _ R ⟨[d, c.number], some ⟨_, 0, none⟩, 2⟩ _ rfl rfl _ rfl (by first | rfl | simp) ho' (by have := hbel.size; simp; omega) (by omega) ?_; intro q5 cap5 w5 ho5 hb5 hg5 hq5; have z05 := hg5.cell (below_cell ((Below.refl _ _).alloc (Nat.le_refl _) _) (below_cell ((Below.refl _ _).alloc (Nat.le_refl _) _) z0)) (by intro e; exact HOB.out pz e.symm rfl); have z25 := hg5.cell (below_cell ((Below.refl _ _).alloc (Nat.le_refl _) _) (below_cell ((Below.refl _ _).alloc (Nat.le_refl _) _) z2)) (by intro e; exact HOB.out pz e.symm rfl))
          have hT2 := tab_push hbel.size ho hr2 HHA.out ho5 hg5 hq5
          rw [HER.out] at hT2
          have hV6 : (V ++ [[d, c.number]]).length = R.length + 1 := by rw [List.length_append, hRV]; rfl
          have hd6 : d + c.every = s + c.every * ((q + 1 : Nat) : Int) := by rw [HD.out, Int.natCast_add, Int.mul_add]; omega
          have hq6 : V ++ [[d, c.number]] = U ++ (rowsC fr te c).take (q + 1) := by
            have h7 := rowsC_get (fr := fr) (te := te) (c := c) (i := q) (by rw [← HS.out]; exact hqc)
            rw [← HS.out, ← HD.out] at h7
            rw [h7, ← List.append_assoc, ← HV2.out]
          have hA6 : ∀ g, (some ⟨q5, 0, none⟩ : Option Addr) = some ⟨g, 0, none⟩ → g ≠ pz := fun g hg => by
            injection hg with hg; injection hg with hg; subst hg
            rcases hq5 with h7 | h7
            · exact HOB.out _ h7
            · have hpz2 : pz < wr.heap.size := hpz
              simp at h7; omega
          have hb6 := (hbel.alloc hbel.size _).trans hb5
          go_roundw
          case rel => exact ⟨q + 1, d + c.every, some ⟨q5, 0, none⟩, cap5, V ++ [[d, c.number]], by omega, rfl, hide hd6, by omega, by omega, by rw [List.length_append]; rfl, by rw [hV6]; omega, hide hq6, hide hT2, by simp, hA6, z05, z25, hb6⟩
          case measure => simp [intOf] <;> omega
        · have hqe : q = cntC s c.every te := by
            rcases Nat.lt_or_ge q (cntC s c.every te) with h7 | h7
            · exact absurd (by rw [HD.out]; exact (cnt_iff b2 q).1 h7) hle
            · omega
          have hq401 : cntC s c.every te ≤ 401 := by
            by_cases h400 : te - s ≤ 400
            · exact HCL.out h400
            · have := HS.out; omega
          have hVE : V = preV (L.take (k + 1)) fr te := by
            rw [HPT.out, ← HU.out, HV2.out, hqe, List.take_of_length_le (by rw [rowsC_len, ← HS.out]; exact Nat.le_refl _)]
          go_wp2_with fail
          go_roundw
          case rel => exact ⟨k + 1, A, cap, V, by omega, by go_num, rfl, by omega, hide hVE, hide HT.out, hAn, hbel⟩
          case measure => simp [intOf] <;> omega
    · have hki : ¬ (k : Int) < (L.length : Int) := by omega
      obtain rfl : k = L.length := by omega
      have hl12 : L.length ≤ 12 := hlen
      rw [List.take_length] at HU
      obtain ⟨g, rfl⟩ : ∃ g, A = some ⟨g, 0, none⟩ := by
        obtain ⟨R, _, ho, _⟩ := HT.out
        rcases ho.2 with ⟨h3, _⟩ | ⟨g2, c2, cur, h3, _⟩
        · injection h3 with h3; exact absurd h3 hAn
        · injection h3 with h3; exact ⟨g2, h3⟩
      have hrow2 : ∀ x ∈ U, x.length ≤ 1000000 := fun x hx => by
        rw [HU.out] at hx
        simp only [preV, rowsC, List.mem_flatMap, List.mem_map] at hx
        obtain ⟨c, _, i, _, rfl⟩ := hx
        simp
      have hglo : w.heap.size ≤ g := by
        obtain ⟨R, _, ho, _⟩ := HT.out
        exact (World.ownsRow.lt ho g rfl).1
      go_wp2_with (go_at_call 74; refine (tab_sort (f := 75) HT.out (by omega) hrow2 (fun _ _ => by kernel_rfl) (fun L M A B ca cb w h1 h2 h3 h4 => inspCmp_any L M A B ca cb w h1 h2 h3 h4)).mono ?_; rintro e w9 ⟨rfl, Q, hQp, hQs, hQt, hQg⟩)
      go_ret2
      have hQ : Q = inspV L fr te := by
        rw [HV.out]
        refine insp_is (L := L) (fr := fr) (n := (te - fr + 1).toNat) HP.out (show (((te - fr + 1).toNat : Nat) : Int) = te - fr + 1 by omega) (by rw [← HU.out]; exact hQp) (hQs.imp fun h => by omega)
      have hQl : U.length = (inspV L fr te).length := by rw [← hQ]; exact hQp.length_eq.symm
      rw [HB.out, hQl]
      rw [hQ] at hQt
      exact ⟨_, _, rfl, hQt.mono (Nat.le_refl _) hQg.size, hbel.grown hQg hbel.size (fun q hq => by injection hq with hq; omega)⟩
end Go.Proofs.Ytknondhdhjegbaa
