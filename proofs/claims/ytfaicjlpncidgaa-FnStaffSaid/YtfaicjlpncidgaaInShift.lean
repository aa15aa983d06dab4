/- slices.Insert of one thing at slices of Shift: walked once, on its three roads. Slices have at most 10^6 elements. -/
import Derived.Test.YtfaicjlpncidgaaLibShift
import Derived.Test.YtfaicjlpncidgaaIns
namespace Go.Proofs.Ytfaicjlpncidgaa
open Go Go.RowKit
namespace Shift
set_option maxRecDepth 100000 in
set_option maxHeartbeats 2000000 in
theorem Insert_any (L : List Shift) (c : Shift) (i : Nat) (hi : i ≤ L.length) (A : Option Addr) (cap lo vb : Nat) (w : World) (hown : Own enc 4 66 lo w (.slice A L.length cap) L) (hlo : lo ≤ w.heap.size) (hl : L.length ≤ 1000000)
    (hvb : w.heap[vb]? = some (.cells #[.int .i64 c.day, .int .i64 c.part, .int .i64 c.who, .int .i64 c.duty] 66 (0, 0))) (hne : ∀ g, A = some ⟨g, 0, none⟩ → vb ≠ g) :
    Calls Try.prog 111 #[.slice A L.length cap, .int .i64 i, .slice (some ⟨vb, 0, none⟩) 1 1] w fun e w' => ∃ A' cap', e = .returned (.slice A' (L.length + 1) cap') ∧ Own enc 4 66 lo w' (.slice A' (L.length + 1) cap') (insL L i c) ∧ Below lo w w' := by
  obtain ⟨i0, hi0, hz0, hz1, hz2⟩ := info_parts infoE
  have hvs : ∀ j v, c.enc[j]? = some v → w.cell? ⟨vb, j, none⟩ = some v := fun j v hj => by rw [cell_of_row w vb j _ 66 (0, 0) hvb, ← Array.getElem?_toList]; exact hj
  have hcap := Own.room hown rfl
  have hio := insL_len L i c hi
  by_cases hin : i = L.length
  · have HL := hide (show (insL L i c).flatMap enc = L.flatMap enc ++ c.enc by rw [hin, insL_end, List.flatMap_append]; simp)
    have hend : ∀ (v1 : Value) (w1 : World), w1.ownsRow lo 66 4 v1 (L.length + 1) (L.flatMap enc ++ c.enc) → Below lo w w1 → ∃ A' cap', Ending.returned v1 = .returned (.slice A' (L.length + 1) cap') ∧ Own enc 4 66 lo w1 (.slice A' (L.length + 1) cap') (insL L i c) ∧ Below lo w w1 := by
      intro v1 w1 ho hb
      have hx : ∃ A' cap', v1 = .slice A' (L.length + 1) cap' := by
        rcases ho.2 with ⟨_, h0⟩ | ⟨g, cap', _, hv, _⟩
        · omega
        · exact ⟨_, _, hv⟩
      obtain ⟨A', cap', rfl⟩ := hx
      exact ⟨A', cap', rfl, by unfold Own; rw [HL.out, hio]; exact ho, hb⟩
    have HE := hide hend; clear hend
    have HV := hide (show ∀ j u, c.enc[j]? = some u → w.cell? ((⟨vb, 0, none⟩ : Addr).add j) = some u from fun j u hj => by rw [Addr.add_mid, Nat.zero_add]; exact hvs j u hj)
    clear hvs
    subst hin
    have hz3 : ¬ ((1 : Int) = 0) := by omega
    rcases hown.2 with ⟨hv, h0⟩ | ⟨g, cap', cur, hv, hlg, _, _, _, _, _⟩
    · injection hv with ha hb hc
      subst ha hc
      have HO := hide hown; clear hown
      have h0' : (L.length : Int) = 0 := by omega
      go_enter Try.func111, Try.ntmps111
      go_wp2_with (at_builtin; refine wpList_append_own _ rfl (.tmp 23) (.tmp 24) 38 rfl lo 66 i0 _ 4 32 Try.underlying38 hi0 hz0 hz1 hz2 rfl (by decide) (.slice none L.length 0) L.length (L.flatMap enc) rfl HO.out ⟨vb, 0, none⟩ 1 1 c.enc rfl rfl HV.out (enc_one c) (by unfold maxLen; omega) (by omega) hlo ?_; intro v1 w1 ho1 hg1 hn1)
      go_ret
      exact HE.out v1 w1 ho1 ((Below.refl lo w).grown hg1 hlo (fun k hk => by simp [Value.ownBlock] at hk))
    · injection hv with ha hb hc
      subst ha hc
      have HO := hide hown; clear hown
      by_cases hcn : cap = L.length
      all_goals
        go_enter Try.func111, Try.ntmps111
        go_wp2_with (at_builtin; refine wpList_append_own _ rfl (.tmp 23) (.tmp 24) 38 rfl lo 66 i0 _ 4 32 Try.underlying38 hi0 hz0 hz1 hz2 rfl (by decide) (.slice (some ⟨g, 0, none⟩) L.length cap) L.length (L.flatMap enc) rfl HO.out ⟨vb, 0, none⟩ 1 1 c.enc rfl rfl HV.out (enc_one c) (by unfold maxLen; omega) (by omega) hlo ?_; intro v1 w1 ho1 hg1 hn1)
        go_ret
        exact HE.out v1 w1 ho1 ((Below.refl lo w).grown hg1 hlo (fun k hk => by simp [Value.ownBlock] at hk; omega))
  · obtain ⟨g, rfl, hlg, hgw⟩ := Own.lo_le hown (by omega)
    have hbne := hne g rfl
    have hfi : (i : Int) ≠ (L.length : Int) := by omega
    have hz3 : ¬ ((1 : Int) = 0) := by omega
    have hz4 : ¬ ((i : Int) = (L.length : Int)) := by omega
    have hsz : (Try.prog.info? 66).map (·.size) = some 4 := by rw [hi0]; simp [hz1]
    have hP := flat_take enc_len L i hi
    have hQ := flat_drop enc_len L i
    have hPQ := flat_parts (enc := enc) L i
    have h1Q : ∀ v ∈ (L.drop i).flatMap enc, v.oneCell' = true := flat_one _
    have h1C : ∀ v ∈ c.enc, v.oneCell' = true := enc_one c
    have HI := hide (flat_ins (enc := enc) L i c)
    have hQc : ∀ j v, ((L.drop i).flatMap enc)[j]? = some v → w.cell? ⟨g, i * 4 + j, none⟩ = some v := fun j v hj => own_cell hown (by rw [hPQ, List.getElem?_append_right (by omega), hP, show i * 4 + j - i * 4 = j by omega]; exact hj)
    generalize (L.take i).flatMap enc = P0 at *
    generalize (L.drop i).flatMap enc = Q0 at *
    by_cases hroom : L.length + 1 ≤ cap
    · obtain ⟨J, hJ, hR⟩ := Own.room_ hown hroom
      replace hR := World.ownsRow.drew hR
      obtain ⟨X, Y, hXY, hX, hY⟩ := split_at (Q0 ++ J) 4 ((L.length - i) * 4) (by rw [List.length_append, hQ, hJ]; omega)
      rw [hPQ, List.append_assoc, hXY] at hR
      have hT : ∀ o k, o + k ≤ (L.length + 1) * 4 → w.drew.there g o k := fun o k hk j hj => by
        obtain ⟨u, hu⟩ := own_there hR (j := o + j) (by omega)
        exact ⟨by rw [hu]; rfl, World.ownsRow.frozenAt hR _⟩
      have hF := hide (own_two (Q := Q0) (C := c.enc) hR (by rw [hX]; rfl) (by rw [hY, hQ]))
      rw [hP, show i * 4 + c.enc.length = (i + 1) * 4 from (Nat.succ_mul i 4).symm] at hF
      have hsb : ∃ k, w.shape? g = some (66, k) ∧ k ≠ 0 := by
        rcases hown.2 with ⟨hv, _⟩ | ⟨g', c', cur, hv, _, hh, _, _, hs, _⟩
        · cases hv
        · injection hv with a b d
          injection a with a
          injection a with a
          subst a d
          exact ⟨cur.size, by unfold World.shape?; rw [hh], by rw [hs]; omega⟩
      obtain ⟨kB, hsb, hkB⟩ := hsb
      have hsa : w.shape? vb = some (66, 4) := by unfold World.shape?; rw [hvb]; rfl
      have hov : ∀ lb cb, (callFunc 114 #[.slice (some ⟨vb, 0, none⟩) 1 1, .slice (some ⟨g, (i + 1) * 4, none⟩) lb cb]).run Try.prog w = .ok (.value (.bool false)) w := fun lb cb => by
        rw [run_callFunc_extern Try.func114 (by kernel_rfl) (by kernel_rfl) (by kernel_rfl) (e := Extern.SlicesOverlaps.overlaps #[38, 38] #[4]) (by kernel_rfl),
          Lib.run_overlaps_apart w 38 4 66 Try.underlying38 4 (fun w => by simp [sizeOf, typeInfo, hi0, hz1]) ⟨vb, 0, none⟩ ⟨g, (i + 1) * 4, none⟩ 1 1 lb cb hbne 66 66 4 kB hsa hsb hkB (frozen_of_row w vb 0 _ 66 hvb) (frozen_of_row w vb 4 _ 66 hvb)]
        rfl
      have hcp1 : ∀ ty dc sc, (Builtin.copy_ #[38, 38] ty #[.slice (some ⟨g, (i + 1) * 4, none⟩) (L.length - i) dc, .slice (some ⟨g, i * 4, none⟩) (L.length + 1 - i) sc]).run Try.prog w.drew = .ok (goInt (Nat.min (L.length + 1 - i) (L.length - i) : Nat)) (w.drew.setCells g ((i + 1) * 4) Q0) := fun ty dc sc =>
        run_copy_rows w.drew _ _ ty 66 g ((i + 1) * 4) (L.length - i) dc ⟨g, i * 4, none⟩ (L.length + 1 - i) sc 4 Q0 Try.underlying38 hsz (by rw [hQ]; simp only [Nat.min_def]; split <;> omega)
          (fun j v hj => by rw [Addr.add_mid]; exact hQc j v hj) (hT _ _ (by omega)) h1Q
      obtain ⟨W1, hW1⟩ : ∃ W1, W1 = w.drew.setCells g ((i + 1) * 4) Q0 := ⟨_, rfl⟩
      have hcp2 : ∀ (W : World), W = W1 → ∀ ty dc, (Builtin.copy_ #[38, 38] ty #[.slice (some ⟨g, i * 4, none⟩) (L.length + 1 - i) dc, .slice (some ⟨vb, 0, none⟩) 1 1]).run Try.prog W = .ok (goInt (Nat.min 1 (L.length + 1 - i) : Nat)) (W.setCells g (i * 4) c.enc) := fun W hW ty dc =>
        run_copy_rows W _ _ ty 66 g (i * 4) (L.length + 1 - i) dc ⟨vb, 0, none⟩ 1 1 4 c.enc Try.underlying38 hsz (by simp only [Nat.min_def]; split <;> simp [enc] <;> omega)
          (fun j v hj => by rw [Addr.add_mid, hW, hW1, World.cell?_setCells_out _ _ _ _ _ (fun h _ => absurd h hbne), Nat.zero_add]; exact hvs j v hj)
          (by rw [hW, hW1]; exact World.there_setCells (w := w.drew) (hT (i * 4) 4 (by omega)) _ _ _) h1C
      rw [← hW1] at hcp1
      have hcl : ∃ n1 : Nat, L.length = n1 := ⟨_, rfl⟩
      have hw1 : IntKind.i64.wrap ((i : Int) + 1) = (i : Int) + 1 := by rw [IntKind.wrap_i64]; omega
      have hb1 : (0 : Int) ≤ (i : Int) + 1 := by omega
      have htn : ((i : Int) + 1).toNat = i + 1 := by omega
      have hb2 : ¬ (cap = i + 1) := by omega
      have hb3 : (i : Int) ≤ (L.length : Int) + 1 := by omega
      have hb4 : ¬ (cap = i) := by omega
      have hb5 : (i : Int) + 1 ≤ (L.length : Int) + 1 := by omega
      have hii : (i : Int) ≤ (L.length : Int) := by omega
      clear hR hXY hX hY hPQ hT hsa hsb hvs hQc
      have HO := hide hown; clear hown
      go_enter Try.func111, Try.ntmps111
      go_wp2_with (simp only [hov])
      go_region_law (refine step_copy_run rfl _ _ 38 38 rfl _ _ (by simp [Act.eval, Act.put]) (by simp [Act.eval, Act.put]) (hcp1 _ _ _) ?_)
      go_wp2_with (at_builtin; refine wpList_copy_run _ rfl _ _ 38 38 rfl _ _ rfl rfl (hcp2 _ rfl _ _) ?_)
      go_ret
      subst hW1
      exact ⟨_, _, rfl, by unfold Own; rw [hio, HI.out]; exact hF.out, below_setCells g hlg _ _ _ (below_setCells g hlg _ _ _ (Below.refl _ _).drew)⟩
    · have hz5 : (cap : Int) < (L.length : Int) + 1 := by omega
      have hkk : (L.length : Int) + 1 - (i : Int) = ((L.length + 1 - i : Nat) : Int) := by omega
      have hik : i + (L.length + 1 - i) = L.length + 1 := by omega
      have hold : (Builtin.firstCells i0.size i (.slice (some ⟨g, 0, none⟩) i cap)).run Try.prog w.drew = .ok P0.toArray w.drew := by
        rw [hz1]
        exact run_firstCells_some w.drew 4 i ⟨g, 0, none⟩ i cap P0 hP (fun j v hj => by
          rw [Addr.add_mid, Nat.zero_add]
          exact own_cell hown (by rw [hPQ, List.getElem?_append_left (List.getElem?_eq_some_iff.1 hj).1]; exact hj))
      have hrz : ∀ ty, (Builtin.append_ #[38, 3] ty #[.slice (some ⟨g, 0, none⟩) i cap, .int .i64 ((L.length : Int) + 1 - (i : Int))]).run Try.prog w =
          .ok (.slice (some ⟨w.heap.size, 0, none⟩) (L.length + 1) (grownCap w (L.length + 1) cap 66)) (w.drew.alloc (.cells (P0.toArray ++ Builtin.zeroCells (Value.agg #[.int .i64 0, .int .i64 0, .int .i64 0, .int .i64 0]).cells (L.length + 1 - i) ++ Builtin.zeroCells (Value.agg #[.int .i64 0, .int .i64 0, .int .i64 0, .int .i64 0]).cells (grownCap w (L.length + 1) cap 66 - (L.length + 1))) 66)) := fun ty => by
        have h := Lib.run_append_grow_zeros w 38 3 ty 66 i0 _ .i64 .i64 Try.underlying38 Try.underlying3 hi0 hz0 (some ⟨g, 0, none⟩) i cap P0 hold (L.length + 1 - i) (by omega) (by omega) (by omega) (by omega) (by rw [hz2]; omega) (by rw [hz2, hik]; exact growslice_fits (by omega) (by omega))
        rw [hik] at h
        rw [hkk]
        exact h
      obtain ⟨G, hG⟩ : ∃ G, G = grownCap w (L.length + 1) cap 66 := ⟨_, rfl⟩
      obtain ⟨Z, hZ⟩ : ∃ Z, Z = Builtin.zeroCells (Value.agg #[.int .i64 0, .int .i64 0, .int .i64 0, .int .i64 0]).cells (L.length + 1 - i) := ⟨_, rfl⟩
      obtain ⟨ROW, hROW⟩ : ∃ ROW : Array Value, ROW = P0.toArray ++ Z ++ Builtin.zeroCells (Value.agg #[.int .i64 0, .int .i64 0, .int .i64 0, .int .i64 0]).cells (G - (L.length + 1)) := ⟨_, rfl⟩
      rw [← hG, ← hZ, ← hROW] at hrz
      have hZl : Z.toList.length = 4 + (L.length - i) * 4 := by rw [hZ]; simp [Builtin.zeroCells, Value.cells]; omega
      have hGn : L.length + 1 ≤ G := by rw [hG]; exact grownCap_ge w _ _ _
      have hGm : G ≤ maxLen := by rw [hG]; exact grownCap_le_maxLen w _ _ _ (by unfold maxLen; omega)
      have hRs : ROW.size = G * 4 := by rw [hROW]; simp [Builtin.zeroCells, Value.cells, hP] ; simp at hZl; omega
      have hR : ((w.alloc (.cells ROW 66)).drew).ownsRow lo 66 4 (.slice (some ⟨w.heap.size, 0, none⟩) (L.length + 1) G) (L.length + 1) (P0 ++ Z.toList) :=
        ⟨by rw [List.length_append, hP, hZl]; omega, .inr ⟨w.heap.size, G, ROW, rfl, hlo, heap_alloc_new w _, hGn, hGm, hRs, by
          rw [hROW]
          have : (P0 ++ Z.toList).length = (L.length + 1) * 4 := by rw [List.length_append, hP, hZl]; omega
          rw [Array.toList_append, Array.toList_append, List.toList_toArray, ← this, List.take_left']
          rfl⟩⟩
      obtain ⟨X, Y, hXY, hX, hY⟩ := split_at Z.toList 4 ((L.length - i) * 4) hZl
      rw [hXY] at hR
      have hF := hide (own_two' (Q := Q0) (C := c.enc) hR (by rw [hX]; rfl) (by rw [hY, hQ]))
      rw [hP, show i * 4 + c.enc.length = (i + 1) * 4 from (Nat.succ_mul i 4).symm] at hF
      have hT : ∀ o k, o + k ≤ (L.length + 1) * 4 → ((w.alloc (.cells ROW 66)).drew).there w.heap.size o k := fun o k hk j hj => by
        obtain ⟨u, hu⟩ := own_there hR (j := o + j) (by omega)
        exact ⟨by rw [hu]; rfl, World.ownsRow.frozenAt hR _⟩
      have hvw : vb < w.heap.size := (Array.getElem?_eq_some_iff.1 hvb).1
      have hcpA : ∀ ty dc, (Builtin.copy_ #[38, 38] ty #[.slice (some ⟨w.heap.size, i * 4, none⟩) (L.length + 1 - i) dc, .slice (some ⟨vb, 0, none⟩) 1 1]).run Try.prog ((w.alloc (.cells ROW 66)).drew) = .ok (goInt (Nat.min 1 (L.length + 1 - i) : Nat)) (((w.alloc (.cells ROW 66)).drew).setCells w.heap.size (i * 4) c.enc) := fun ty dc =>
        run_copy_rows _ _ _ ty 66 w.heap.size (i * 4) (L.length + 1 - i) dc ⟨vb, 0, none⟩ 1 1 4 c.enc Try.underlying38 hsz (by simp only [Nat.min_def]; split <;> simp [enc] <;> omega)
          (fun j v hj => by rw [Addr.add_mid, Nat.zero_add]; exact (World.cell?_alloc_lt w _ _ hvw).trans (hvs j v hj))
          (hT (i * 4) 4 (by omega)) h1C
      have hcpB : ∀ ty dc sc, (Builtin.copy_ #[38, 38] ty #[.slice (some ⟨w.heap.size, (i + 1) * 4, none⟩) (L.length - i) dc, .slice (some ⟨g, i * 4, none⟩) (L.length - i) sc]).run Try.prog ((((w.alloc (.cells ROW 66)).drew).setCells w.heap.size (i * 4) c.enc).drew) = .ok (goInt (Nat.min (L.length - i) (L.length - i) : Nat)) (((((w.alloc (.cells ROW 66)).drew).setCells w.heap.size (i * 4) c.enc).drew).setCells w.heap.size ((i + 1) * 4) Q0) := fun ty dc sc =>
        run_copy_rows _ _ _ ty 66 w.heap.size ((i + 1) * 4) (L.length - i) dc ⟨g, i * 4, none⟩ (L.length - i) sc 4 Q0 Try.underlying38 hsz (by rw [hQ]; simp only [Nat.min_def]; split <;> omega)
          (fun j v hj => by
            rw [Addr.add_mid]
            refine (World.cell?_setCells_out w.heap.size c.enc (i * 4) ((w.alloc (.cells ROW 66)).drew) ⟨g, i * 4 + j, none⟩ (fun h _ => absurd h (by show ¬ g = w.heap.size; omega))).trans ?_
            exact (World.cell?_alloc_lt w _ _ hgw).trans (hQc j v hj))
          (World.there_setCells (w := (w.alloc (.cells ROW 66)).drew) (hT ((i + 1) * 4) Q0.length (by omega)) _ _ _) h1Q
      have hw1 : IntKind.i64.wrap ((i : Int) + 1) = (i : Int) + 1 := by rw [IntKind.wrap_i64]; omega
      have hb1 : (0 : Int) ≤ (i : Int) + 1 := by omega
      have htn : ((i : Int) + 1).toNat = i + 1 := by omega
      have hb2 : ¬ (G = i + 1) := by omega
      have hb3 : (i : Int) ≤ (L.length : Int) + 1 := by omega
      have hb4 : ¬ (G = i) := by omega
      have hb5 : (i : Int) + 1 ≤ (L.length : Int) + 1 := by omega
      have hb6 : ¬ (cap = i) := by omega
      have hii : (i : Int) ≤ (L.length : Int) := by omega
      have hG63 : G ≤ 9223372036854775807 := by unfold maxLen at hGm; omega
      clear hR hXY hX hY hPQ hT hvs hQc hZ hROW hRs hold hG hZl hkk hik
      have HO := hide hown; clear hown
      go_enter Try.func111, Try.ntmps111
      go_wp2_with (first
        | (at_builtin; refine Lib.wpList_append_run _ rfl _ _ _ _ rfl _ _ rfl rfl _ _ (hrz _) ?_)
        | (at_builtin; refine wpList_copy_run _ rfl _ _ 38 38 rfl _ _ rfl rfl (hcpA _ _) ?_))
      go_region_law (refine step_copy_run rfl _ _ 38 38 rfl _ _ (by simp [Act.eval, Act.put]) (by simp [Act.eval, Act.put]) (hcpB _ _ _) ?_)
      go_wp2_with fail
      go_ret
      exact ⟨_, _, rfl, by unfold Own; rw [hio, HI.out]; exact hF.out, below_setCells _ hlo _ _ _ (below_setCells _ hlo _ _ _ ((Below.refl _ _).alloc hlo _).drew).drew⟩
end Shift
end Go.Proofs.Ytfaicjlpncidgaa
