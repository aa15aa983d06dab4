/- The drawers of chapter 22: a shift, staff, a plan. -/
import Derived.Test.YtfaicjlpncidgaaDraw
import Derived.Test.YtfaicjlpncidgaaLibShift
import Derived.Test.YtfaicjlpncidgaaLibWorker
import Derived.Test.YtfaicjlpncidgaaSetC
import Derived.Test.YtfaicjlpncidgaaDel
import Derived.Test.YtfaicjlpncidgaaPut5
import Derived.Deep.DeepCutAuto
namespace Go.Proofs.Ytfaicjlpncidgaa
open Go Go.RowKit
set_option linter.unusedVariables false
theorem of_ok {cs : Array Value} (h : ((strsOf cs).all fun x => decide (x.size ≤ maxLen)) = true) {x : ByteArray} (hx : x ∈ strsOf cs) : x.size ≤ maxLen := by
  have := List.all_eq_true.1 h x hx
  simpa using this
theorem Shift.one_cells {lo p : Nat} {w : World} {c : Shift} (h : Own Shift.enc 4 66 lo w (.slice (some ⟨p, 0, none⟩) 1 1) [c]) : w.cell? ⟨p, 0, none⟩ = some (.int .i64 c.day) ∧ w.cell? ⟨p, 1, none⟩ = some (.int .i64 c.part) ∧ w.cell? ⟨p, 2, none⟩ = some (.int .i64 c.who) ∧ w.cell? ⟨p, 3, none⟩ = some (.int .i64 c.duty) :=
  ⟨own_cell h (flat_get Shift.enc_len [c] 0 c rfl 0 _ rfl), own_cell h (flat_get Shift.enc_len [c] 0 c rfl 1 _ rfl), own_cell h (flat_get Shift.enc_len [c] 0 c rfl 2 _ rfl), own_cell h (flat_get Shift.enc_len [c] 0 c rfl 3 _ rfl)⟩
theorem Shift.one_heap {lo p : Nat} {w : World} {c : Shift} (h : Own Shift.enc 4 66 lo w (.slice (some ⟨p, 0, none⟩) 1 1) [c]) : w.heap[p]? = some (.cells #[.int .i64 c.day, .int .i64 c.part, .int .i64 c.who, .int .i64 c.duty] 66 (0, 0)) := by
  rcases h.2 with ⟨hv, _⟩ | ⟨g, c2, cur, hv, _, hh, _, _, hsz, htk⟩
  · cases hv
  · cases hv
    rw [hh]
    have e : cur.toList = Shift.enc c := by
      have e2 : cur.toList.take (1 * 4) = [c].flatMap Shift.enc := htk
      rw [List.take_of_length_le (by rw [Array.length_toList]; omega)] at e2
      rw [e2]; simp
    have e3 : cur = #[.int .i64 c.day, .int .i64 c.part, .int .i64 c.who, .int .i64 c.duty] := by rw [← Array.toArray_toList (xs := cur), e]; rfl
    rw [e3]
theorem Worker.one_cells {lo p : Nat} {w : World} {c : Worker} (h : Own Worker.enc 4 75 lo w (.slice (some ⟨p, 0, none⟩) 1 1) [c]) : w.cell? ⟨p, 0, none⟩ = some (.int .i64 c.id) ∧ w.cell? ⟨p, 1, none⟩ = some (.string c.name) ∧ w.cell? ⟨p, 2, none⟩ = some (.int .i64 c.duties) ∧ w.cell? ⟨p, 3, none⟩ = some (.int .i64 c.hours) :=
  ⟨own_cell h (flat_get Worker.enc_len [c] 0 c rfl 0 _ rfl), own_cell h (flat_get Worker.enc_len [c] 0 c rfl 1 _ rfl), own_cell h (flat_get Worker.enc_len [c] 0 c rfl 2 _ rfl), own_cell h (flat_get Worker.enc_len [c] 0 c rfl 3 _ rfl)⟩
theorem Worker.one_heap {lo p : Nat} {w : World} {c : Worker} (h : Own Worker.enc 4 75 lo w (.slice (some ⟨p, 0, none⟩) 1 1) [c]) : w.heap[p]? = some (.cells #[.int .i64 c.id, .string c.name, .int .i64 c.duties, .int .i64 c.hours] 75 (0, 0)) := by
  rcases h.2 with ⟨hv, _⟩ | ⟨g, c2, cur, hv, _, hh, _, _, hsz, htk⟩
  · cases hv
  · cases hv
    rw [hh]
    have e : cur.toList = Worker.enc c := by
      have e2 : cur.toList.take (1 * 4) = [c].flatMap Worker.enc := htk
      rw [List.take_of_length_le (by rw [Array.length_toList]; omega)] at e2
      rw [e2]; simp
    have e3 : cur = #[.int .i64 c.id, .string c.name, .int .i64 c.duties, .int .i64 c.hours] := by rw [← Array.toArray_toList (xs := cur), e]; rfl
    rw [e3]
def ShiftPost (B g K : Nat) (w : World) (e : Ending) (w' : World) : Prop := ∃ c : Shift, e = .returned (.agg #[.int .i64 c.day, .int .i64 c.part, .int .i64 c.who, .int .i64 c.duty]) ∧ Cur B w' g K ∧ w.grownBy w' (some g)
set_option maxRecDepth 100000 in
set_option maxHeartbeats 4000000 in
theorem shift_any (B g K lo : Nat) (A1 : Option Addr) (c1 : Nat) (S : List Worker) (w : World) (h0 : Cur B w g K) (hK : K ≤ 100000) (hS50 : S.length ≤ 50) (hglo : g < lo) (hS : Own Worker.enc 4 75 lo w (.slice A1 S.length c1) S) :
    Calls Try.prog 87 #[.pointer (some ⟨g, 0, none⟩), .slice A1 S.length c1] w (ShiftPost B g (K + 10) w) := by
  have hg0 := h0.lt
  have hb0 : Below w.heap.size w (w.alloc (.cells #[.int .i64 0, .int .i64 0, .int .i64 0, .int .i64 0] 66)) := (Below.refl _ _).alloc (Nat.le_refl _) _
  have hR : Own Shift.enc 4 66 w.heap.size (w.alloc (.cells #[.int .i64 0, .int .i64 0, .int .i64 0, .int .i64 0] 66)) (.slice (some ⟨w.heap.size, 0, none⟩) 1 1) [(⟨0, 0, 0, 0⟩ : Shift)] := World.ownsRow_lit (e := 66) (size := 4) w #[.int .i64 0, .int .i64 0, .int .i64 0, .int .i64 0] 1 (Nat.le_refl _) (by decide) rfl
  have hS := Own.below hS hb0
  have hmov : w.grownBy (w.alloc (.cells #[.int .i64 0, .int .i64 0, .int .i64 0, .int .i64 0] 66)) (some g) := moved_below hb0
  have hcur := h0.below hb0
  clear hb0 h0
  go_enter Try.func87, Try.ntmps87
  go_wp2_with fail
  refine (among_lit B g _ _ _ _ _ _ (by simp [intOf]) (by rfl) (by first | rfl | simp) (by omega) (by omega) (by assumption) (by omega)).mono ?_
  rintro e w1 ⟨x0, rfl, hx_x0, hcur, hm1⟩
  have hR := own_moved hm1 hg0 hR; have hS := own_moved hm1 hglo hS
  have hmov := moved_trans hmov hm1; clear hm1
  go_wp2_with fail
  refine (pick_any B g _ _ _ (by assumption) (by omega) (by omega) (by omega)).mono ?_
  rintro e w1 ⟨x1, rfl, hx_x1, hcur, hm1⟩
  have hR := own_moved hm1 hg0 hR; have hS := own_moved hm1 hglo hS
  have hmov := moved_trans hmov hm1; clear hm1
  go_wp2_with fail
  refine (among_lit B g _ _ _ _ _ _ (by simp [intOf]) (by rfl) (by first | rfl | simp) (by omega) (by omega) (by assumption) (by omega)).mono ?_
  rintro e w1 ⟨x3, rfl, hx_x3, hcur, hm1⟩
  have hR := own_moved hm1 hg0 hR; have hS := own_moved hm1 hglo hS
  have hmov := moved_trans hmov hm1; clear hm1
  clear hx_x0 hx_x1 hx_x3
  go_upto_region 2 with fail
  have hb1 : Below w1.heap.size w1 (w1.alloc (.cells #[.int .i64 x0, .int .i64 x1, .int .i64 1, .int .i64 x3] 66)) := (Below.refl _ _).alloc (Nat.le_refl _) _
  have hX : Own Shift.enc 4 66 w.heap.size (w1.alloc (.cells #[.int .i64 x0, .int .i64 x1, .int .i64 1, .int .i64 x3] 66)) (.slice (some ⟨w1.heap.size, 0, none⟩) 1 1) [(⟨x0, x1, 1, x3⟩ : Shift)] := World.ownsRow_lit (e := 66) (size := 4) w1 #[.int .i64 x0, .int .i64 x1, .int .i64 1, .int .i64 x3] 1 hmov.size (by decide) rfl
  have hne : w1.heap.size ≠ w.heap.size := Nat.ne_of_gt (hR.lt _ rfl).2
  have hnS : ∀ k, (Value.slice A1 S.length c1).ownBlock = some k → k < w1.heap.size := fun k hk => (hS.lt k hk).2
  have hle : w.heap.size ≤ w1.heap.size := hmov.size
  have hR := Own.below hR hb1; have hcur := hcur.below hb1; have hmov := moved_then hmov hb1; have hS := Own.below hS hb1
  clear hb1
  generalize (w1.alloc (.cells #[.int .i64 x0, .int .i64 x1, .int .i64 1, .int .i64 x3] 66)) = wx at *
  generalize w1.heap.size = px at *
  by_cases hn : S.length = 0
  · have hni : ¬ (0 : Int) < (S.length : Int) := by omega
    clear hS hnS
    go_wp2_with fail
    refine (pick_any B g _ _ _ (by assumption) (by omega) (by omega) (by omega)).mono ?_
    rintro e w1 ⟨j, rfl, hj, hcur, hm1⟩
    obtain ⟨y, hy⟩ : ∃ y : Int, y = (j : Int) := ⟨_, rfl⟩
    have hR := own_moved hm1 hg0 hR
    have hX := own_moved hm1 hg0 hX
    have hmov := moved_trans hmov hm1
    rw [← hy]; clear hm1 hj hy
    by_cases y0 : y = 0
    · subst y0
      go_wp2_with fail
      refine (among_lit B g _ _ _ _ _ _ (by simp [intOf]) (by rfl) (by first | rfl | simp) (by omega) (by omega) (by assumption) (by omega)).mono ?_
      rintro e w1 ⟨y, rfl, hx_y, hcur, hm1⟩
      have hR := own_moved hm1 hg0 hR; have hX := own_moved hm1 hg0 hX
      have hmov := moved_trans hmov hm1; clear hm1
      obtain ⟨u0, u1, u2, u3⟩ := Shift.one_cells hX
      have hfz := Own.frozen_ hX rfl 0
      have hbs := (Below.refl w.heap.size w1).setCell (p := ⟨px, 0, none⟩) hle (.int .i64 y)
      have hR := own_grown hR (moved_set (g := px) (j := 0) (u := .int .i64 y) (moved_refl w1 px)) (.inl (by intro e; injection e with e; exact hne e.symm))
      have hcur := hcur.step hg0 hbs; have hmov := moved_step hmov hbs; clear hbs
      go_wp2_with (first | (with_reducible show wpList _ _ _ (⟨none, _, _, _, _, _⟩ :: _) _ _; refine wpList_store_mid rfl 66 (.tmp 4) (.tmp 53) rfl w.heap.size 0 _ rfl rfl (Own.there_ hR rfl (by simp)) (by kernel_rfl) (by simp [Value.oneCell']) ?_))
      have hRf := Own.set_ Shift.enc_len hR rfl (k := 0) (by simp) (⟨y, x1, 1, x3⟩ : Shift)
      have hbs := below_setCells w.heap.size (Nat.le_refl _) (Shift.enc ⟨y, x1, 1, x3⟩) (0 * 4) _ (Below.refl w.heap.size (w1.setCell ⟨px, 0, none⟩ (.int .i64 y)))
      have hh := Shift.one_heap hRf
      refine bodyPost_ret (results_cell_row rfl _ _ w.heap.size 66 _ (0, 0) _ rfl hh Try.underlying66 rfl (by kernel_rfl)) rfl ?_
      exact ⟨⟨y, x1, 1, x3⟩, rfl, (hcur.step hg0 hbs).mono (by omega), moved_step hmov hbs⟩
    by_cases y1 : y = 1
    · subst y1
      go_wp2_with fail
      refine (among_lit B g _ _ _ _ _ _ (by simp [intOf]) (by rfl) (by first | rfl | simp) (by omega) (by omega) (by assumption) (by omega)).mono ?_
      rintro e w1 ⟨y, rfl, hx_y, hcur, hm1⟩
      have hR := own_moved hm1 hg0 hR; have hX := own_moved hm1 hg0 hX
      have hmov := moved_trans hmov hm1; clear hm1
      obtain ⟨u0, u1, u2, u3⟩ := Shift.one_cells hX
      have hfz := Own.frozen_ hX rfl 1
      have hbs := (Below.refl w.heap.size w1).setCell (p := ⟨px, 1, none⟩) hle (.int .i64 y)
      have hR := own_grown hR (moved_set (g := px) (j := 1) (u := .int .i64 y) (moved_refl w1 px)) (.inl (by intro e; injection e with e; exact hne e.symm))
      have hcur := hcur.step hg0 hbs; have hmov := moved_step hmov hbs; clear hbs
      go_wp2_with (first | (with_reducible show wpList _ _ _ (⟨none, _, _, _, _, _⟩ :: _) _ _; refine wpList_store_mid rfl 66 (.tmp 4) (.tmp 53) rfl w.heap.size 0 _ rfl rfl (Own.there_ hR rfl (by simp)) (by kernel_rfl) (by simp [Value.oneCell']) ?_))
      have hRf := Own.set_ Shift.enc_len hR rfl (k := 0) (by simp) (⟨x0, y, 1, x3⟩ : Shift)
      have hbs := below_setCells w.heap.size (Nat.le_refl _) (Shift.enc ⟨x0, y, 1, x3⟩) (0 * 4) _ (Below.refl w.heap.size (w1.setCell ⟨px, 1, none⟩ (.int .i64 y)))
      have hh := Shift.one_heap hRf
      refine bodyPost_ret (results_cell_row rfl _ _ w.heap.size 66 _ (0, 0) _ rfl hh Try.underlying66 rfl (by kernel_rfl)) rfl ?_
      exact ⟨⟨x0, y, 1, x3⟩, rfl, (hcur.step hg0 hbs).mono (by omega), moved_step hmov hbs⟩
    by_cases y2 : y = 2
    · subst y2
      go_wp2_with fail
      refine (among_lit B g _ _ _ _ _ _ (by simp [intOf]) (by rfl) (by first | rfl | simp) (by omega) (by omega) (by assumption) (by omega)).mono ?_
      rintro e w1 ⟨y, rfl, hx_y, hcur, hm1⟩
      have hR := own_moved hm1 hg0 hR; have hX := own_moved hm1 hg0 hX
      have hmov := moved_trans hmov hm1; clear hm1
      obtain ⟨u0, u1, u2, u3⟩ := Shift.one_cells hX
      have hfz := Own.frozen_ hX rfl 2
      have hbs := (Below.refl w.heap.size w1).setCell (p := ⟨px, 2, none⟩) hle (.int .i64 y)
      have hR := own_grown hR (moved_set (g := px) (j := 2) (u := .int .i64 y) (moved_refl w1 px)) (.inl (by intro e; injection e with e; exact hne e.symm))
      have hcur := hcur.step hg0 hbs; have hmov := moved_step hmov hbs; clear hbs
      go_wp2_with (first | (with_reducible show wpList _ _ _ (⟨none, _, _, _, _, _⟩ :: _) _ _; refine wpList_store_mid rfl 66 (.tmp 4) (.tmp 53) rfl w.heap.size 0 _ rfl rfl (Own.there_ hR rfl (by simp)) (by kernel_rfl) (by simp [Value.oneCell']) ?_))
      have hRf := Own.set_ Shift.enc_len hR rfl (k := 0) (by simp) (⟨x0, x1, y, x3⟩ : Shift)
      have hbs := below_setCells w.heap.size (Nat.le_refl _) (Shift.enc ⟨x0, x1, y, x3⟩) (0 * 4) _ (Below.refl w.heap.size (w1.setCell ⟨px, 2, none⟩ (.int .i64 y)))
      have hh := Shift.one_heap hRf
      refine bodyPost_ret (results_cell_row rfl _ _ w.heap.size 66 _ (0, 0) _ rfl hh Try.underlying66 rfl (by kernel_rfl)) rfl ?_
      exact ⟨⟨x0, x1, y, x3⟩, rfl, (hcur.step hg0 hbs).mono (by omega), moved_step hmov hbs⟩
    by_cases y3 : y = 3
    · subst y3
      go_wp2_with fail
      refine (among_lit B g _ _ _ _ _ _ (by simp [intOf]) (by rfl) (by first | rfl | simp) (by omega) (by omega) (by assumption) (by omega)).mono ?_
      rintro e w1 ⟨y, rfl, hx_y, hcur, hm1⟩
      have hR := own_moved hm1 hg0 hR; have hX := own_moved hm1 hg0 hX
      have hmov := moved_trans hmov hm1; clear hm1
      obtain ⟨u0, u1, u2, u3⟩ := Shift.one_cells hX
      have hfz := Own.frozen_ hX rfl 3
      have hbs := (Below.refl w.heap.size w1).setCell (p := ⟨px, 3, none⟩) hle (.int .i64 y)
      have hR := own_grown hR (moved_set (g := px) (j := 3) (u := .int .i64 y) (moved_refl w1 px)) (.inl (by intro e; injection e with e; exact hne e.symm))
      have hcur := hcur.step hg0 hbs; have hmov := moved_step hmov hbs; clear hbs
      go_wp2_with (first | (with_reducible show wpList _ _ _ (⟨none, _, _, _, _, _⟩ :: _) _ _; refine wpList_store_mid rfl 66 (.tmp 4) (.tmp 53) rfl w.heap.size 0 _ rfl rfl (Own.there_ hR rfl (by simp)) (by kernel_rfl) (by simp [Value.oneCell']) ?_))
      have hRf := Own.set_ Shift.enc_len hR rfl (k := 0) (by simp) (⟨x0, x1, 1, y⟩ : Shift)
      have hbs := below_setCells w.heap.size (Nat.le_refl _) (Shift.enc ⟨x0, x1, 1, y⟩) (0 * 4) _ (Below.refl w.heap.size (w1.setCell ⟨px, 3, none⟩ (.int .i64 y)))
      have hh := Shift.one_heap hRf
      refine bodyPost_ret (results_cell_row rfl _ _ w.heap.size 66 _ (0, 0) _ rfl hh Try.underlying66 rfl (by kernel_rfl)) rfl ?_
      exact ⟨⟨x0, x1, 1, y⟩, rfl, (hcur.step hg0 hbs).mono (by omega), moved_step hmov hbs⟩
    have e0 : (y == 0) = false := by simpa using y0
    have e1 : (y == 1) = false := by simpa using y1
    have e2 : (y == 2) = false := by simpa using y2
    have e3 : (y == 3) = false := by simpa using y3
    clear y0 y1 y2 y3
    obtain ⟨u0, u1, u2, u3⟩ := Shift.one_cells hX
    go_wp2_with (first | (with_reducible show wpList _ _ _ (⟨none, _, _, _, _, _⟩ :: _) _ _; refine wpList_store_mid rfl 66 (.tmp 4) (.tmp 53) rfl w.heap.size 0 _ rfl rfl (Own.there_ hR rfl (by simp)) (by kernel_rfl) (by simp [Value.oneCell']) ?_))
    have hRf := Own.set_ Shift.enc_len hR rfl (k := 0) (by simp) (⟨x0, x1, 1, x3⟩ : Shift)
    have hbs := below_setCells w.heap.size (Nat.le_refl _) (Shift.enc ⟨x0, x1, 1, x3⟩) (0 * 4) _ (Below.refl w.heap.size w1)
    have hh := Shift.one_heap hRf
    refine bodyPost_ret (results_cell_row rfl _ _ w.heap.size 66 _ (0, 0) _ rfl hh Try.underlying66 rfl (by kernel_rfl)) rfl ?_
    exact ⟨⟨x0, x1, 1, x3⟩, rfl, (hcur.step hg0 hbs).mono (by omega), moved_step hmov hbs⟩
  · have hni : (0 : Int) < (S.length : Int) := by omega
    go_wp2_with fail
    refine (pick_any B g _ _ _ (by assumption) (by omega) (by omega) (by omega)).mono ?_
    rintro e w1 ⟨j, rfl, hx_j, hcur, hm1⟩
    have hR := own_moved hm1 hg0 hR; have hS := own_moved hm1 hglo hS; have hX := own_moved hm1 hg0 hX
    have hmov := moved_trans hmov hm1; clear hm1
    have hj2 : j < S.length := by omega
    have hj3 : (j : Int) < (S.length : Int) := by omega
    obtain ⟨p, rfl, _, _⟩ := own_head hS rfl (by omega)
    have y := own_cell hS (flat_get Worker.enc_len S j _ (List.getElem?_eq_getElem hj2) 0 _ rfl)
    rw [Nat.add_zero] at y
    obtain ⟨u0, u1, u2, u3⟩ := Shift.one_cells hX
    generalize S[j].id = id0 at *
    have hXS := Own.set_cell Shift.enc_len hX rfl (k := 0) (j := 2) (c := ⟨x0, x1, 1, x3⟩) (c' := ⟨x0, x1, id0, x3⟩) rfl (by omega) (u := .int .i64 id0) rfl
    have hfz := Own.frozen_ hX rfl 2
    have hbs := (Below.refl w.heap.size w1).setCell (p := ⟨px, 2, none⟩) hle (.int .i64 id0)
    have hR := own_grown hR (moved_set (g := px) (j := 2) (u := .int .i64 id0) (moved_refl w1 px)) (.inl (by intro e; injection e with e; exact hne e.symm))
    have hcur := hcur.step hg0 hbs; have hmov := moved_step hmov hbs; clear hbs
    clear hx_j
    go_wp2_with fail
    have hXS : Own Shift.enc 4 66 w.heap.size (w1.setCell ⟨px, 2, none⟩ (.int .i64 id0)) (.slice (some ⟨px, 0, none⟩) 1 1) [⟨x0, x1, id0, x3⟩] := hXS
    generalize (w1.setCell ⟨px, 2, none⟩ (.int .i64 id0)) = wS at *
    clear u0 u1 u2 u3 hfz hX y hS
    have hX := hXS; clear hXS
    refine (pick_any B g _ _ _ (by assumption) (by omega) (by omega) (by omega)).mono ?_
    rintro e w1 ⟨j, rfl, hj, hcur, hm1⟩
    obtain ⟨y, hy⟩ : ∃ y : Int, y = (j : Int) := ⟨_, rfl⟩
    have hR := own_moved hm1 hg0 hR
    have hX := own_moved hm1 hg0 hX
    have hmov := moved_trans hmov hm1
    rw [← hy]; clear hm1 hj hy
    by_cases y0 : y = 0
    · subst y0
      go_wp2_with fail
      refine (among_lit B g _ _ _ _ _ _ (by simp [intOf]) (by rfl) (by first | rfl | simp) (by omega) (by omega) (by assumption) (by omega)).mono ?_
      rintro e w1 ⟨y, rfl, hx_y, hcur, hm1⟩
      have hR := own_moved hm1 hg0 hR; have hX := own_moved hm1 hg0 hX
      have hmov := moved_trans hmov hm1; clear hm1
      obtain ⟨u0, u1, u2, u3⟩ := Shift.one_cells hX
      have hfz := Own.frozen_ hX rfl 0
      have hbs := (Below.refl w.heap.size w1).setCell (p := ⟨px, 0, none⟩) hle (.int .i64 y)
      have hR := own_grown hR (moved_set (g := px) (j := 0) (u := .int .i64 y) (moved_refl w1 px)) (.inl (by intro e; injection e with e; exact hne e.symm))
      have hcur := hcur.step hg0 hbs; have hmov := moved_step hmov hbs; clear hbs
      go_wp2_with (first | (with_reducible show wpList _ _ _ (⟨none, _, _, _, _, _⟩ :: _) _ _; refine wpList_store_mid rfl 66 (.tmp 4) (.tmp 53) rfl w.heap.size 0 _ rfl rfl (Own.there_ hR rfl (by simp)) (by kernel_rfl) (by simp [Value.oneCell']) ?_))
      have hRf := Own.set_ Shift.enc_len hR rfl (k := 0) (by simp) (⟨y, x1, id0, x3⟩ : Shift)
      have hbs := below_setCells w.heap.size (Nat.le_refl _) (Shift.enc ⟨y, x1, id0, x3⟩) (0 * 4) _ (Below.refl w.heap.size (w1.setCell ⟨px, 0, none⟩ (.int .i64 y)))
      have hh := Shift.one_heap hRf
      refine bodyPost_ret (results_cell_row rfl _ _ w.heap.size 66 _ (0, 0) _ rfl hh Try.underlying66 rfl (by kernel_rfl)) rfl ?_
      exact ⟨⟨y, x1, id0, x3⟩, rfl, (hcur.step hg0 hbs).mono (by omega), moved_step hmov hbs⟩
    by_cases y1 : y = 1
    · subst y1
      go_wp2_with fail
      refine (among_lit B g _ _ _ _ _ _ (by simp [intOf]) (by rfl) (by first | rfl | simp) (by omega) (by omega) (by assumption) (by omega)).mono ?_
      rintro e w1 ⟨y, rfl, hx_y, hcur, hm1⟩
      have hR := own_moved hm1 hg0 hR; have hX := own_moved hm1 hg0 hX
      have hmov := moved_trans hmov hm1; clear hm1
      obtain ⟨u0, u1, u2, u3⟩ := Shift.one_cells hX
      have hfz := Own.frozen_ hX rfl 1
      have hbs := (Below.refl w.heap.size w1).setCell (p := ⟨px, 1, none⟩) hle (.int .i64 y)
      have hR := own_grown hR (moved_set (g := px) (j := 1) (u := .int .i64 y) (moved_refl w1 px)) (.inl (by intro e; injection e with e; exact hne e.symm))
      have hcur := hcur.step hg0 hbs; have hmov := moved_step hmov hbs; clear hbs
      go_wp2_with (first | (with_reducible show wpList _ _ _ (⟨none, _, _, _, _, _⟩ :: _) _ _; refine wpList_store_mid rfl 66 (.tmp 4) (.tmp 53) rfl w.heap.size 0 _ rfl rfl (Own.there_ hR rfl (by simp)) (by kernel_rfl) (by simp [Value.oneCell']) ?_))
      have hRf := Own.set_ Shift.enc_len hR rfl (k := 0) (by simp) (⟨x0, y, id0, x3⟩ : Shift)
      have hbs := below_setCells w.heap.size (Nat.le_refl _) (Shift.enc ⟨x0, y, id0, x3⟩) (0 * 4) _ (Below.refl w.heap.size (w1.setCell ⟨px, 1, none⟩ (.int .i64 y)))
      have hh := Shift.one_heap hRf
      refine bodyPost_ret (results_cell_row rfl _ _ w.heap.size 66 _ (0, 0) _ rfl hh Try.underlying66 rfl (by kernel_rfl)) rfl ?_
      exact ⟨⟨x0, y, id0, x3⟩, rfl, (hcur.step hg0 hbs).mono (by omega), moved_step hmov hbs⟩
    by_cases y2 : y = 2
    · subst y2
      go_wp2_with fail
      refine (among_lit B g _ _ _ _ _ _ (by simp [intOf]) (by rfl) (by first | rfl | simp) (by omega) (by omega) (by assumption) (by omega)).mono ?_
      rintro e w1 ⟨y, rfl, hx_y, hcur, hm1⟩
      have hR := own_moved hm1 hg0 hR; have hX := own_moved hm1 hg0 hX
      have hmov := moved_trans hmov hm1; clear hm1
      obtain ⟨u0, u1, u2, u3⟩ := Shift.one_cells hX
      have hfz := Own.frozen_ hX rfl 2
      have hbs := (Below.refl w.heap.size w1).setCell (p := ⟨px, 2, none⟩) hle (.int .i64 y)
      have hR := own_grown hR (moved_set (g := px) (j := 2) (u := .int .i64 y) (moved_refl w1 px)) (.inl (by intro e; injection e with e; exact hne e.symm))
      have hcur := hcur.step hg0 hbs; have hmov := moved_step hmov hbs; clear hbs
      go_wp2_with (first | (with_reducible show wpList _ _ _ (⟨none, _, _, _, _, _⟩ :: _) _ _; refine wpList_store_mid rfl 66 (.tmp 4) (.tmp 53) rfl w.heap.size 0 _ rfl rfl (Own.there_ hR rfl (by simp)) (by kernel_rfl) (by simp [Value.oneCell']) ?_))
      have hRf := Own.set_ Shift.enc_len hR rfl (k := 0) (by simp) (⟨x0, x1, y, x3⟩ : Shift)
      have hbs := below_setCells w.heap.size (Nat.le_refl _) (Shift.enc ⟨x0, x1, y, x3⟩) (0 * 4) _ (Below.refl w.heap.size (w1.setCell ⟨px, 2, none⟩ (.int .i64 y)))
      have hh := Shift.one_heap hRf
      refine bodyPost_ret (results_cell_row rfl _ _ w.heap.size 66 _ (0, 0) _ rfl hh Try.underlying66 rfl (by kernel_rfl)) rfl ?_
      exact ⟨⟨x0, x1, y, x3⟩, rfl, (hcur.step hg0 hbs).mono (by omega), moved_step hmov hbs⟩
    by_cases y3 : y = 3
    · subst y3
      go_wp2_with fail
      refine (among_lit B g _ _ _ _ _ _ (by simp [intOf]) (by rfl) (by first | rfl | simp) (by omega) (by omega) (by assumption) (by omega)).mono ?_
      rintro e w1 ⟨y, rfl, hx_y, hcur, hm1⟩
      have hR := own_moved hm1 hg0 hR; have hX := own_moved hm1 hg0 hX
      have hmov := moved_trans hmov hm1; clear hm1
      obtain ⟨u0, u1, u2, u3⟩ := Shift.one_cells hX
      have hfz := Own.frozen_ hX rfl 3
      have hbs := (Below.refl w.heap.size w1).setCell (p := ⟨px, 3, none⟩) hle (.int .i64 y)
      have hR := own_grown hR (moved_set (g := px) (j := 3) (u := .int .i64 y) (moved_refl w1 px)) (.inl (by intro e; injection e with e; exact hne e.symm))
      have hcur := hcur.step hg0 hbs; have hmov := moved_step hmov hbs; clear hbs
      go_wp2_with (first | (with_reducible show wpList _ _ _ (⟨none, _, _, _, _, _⟩ :: _) _ _; refine wpList_store_mid rfl 66 (.tmp 4) (.tmp 53) rfl w.heap.size 0 _ rfl rfl (Own.there_ hR rfl (by simp)) (by kernel_rfl) (by simp [Value.oneCell']) ?_))
      have hRf := Own.set_ Shift.enc_len hR rfl (k := 0) (by simp) (⟨x0, x1, id0, y⟩ : Shift)
      have hbs := below_setCells w.heap.size (Nat.le_refl _) (Shift.enc ⟨x0, x1, id0, y⟩) (0 * 4) _ (Below.refl w.heap.size (w1.setCell ⟨px, 3, none⟩ (.int .i64 y)))
      have hh := Shift.one_heap hRf
      refine bodyPost_ret (results_cell_row rfl _ _ w.heap.size 66 _ (0, 0) _ rfl hh Try.underlying66 rfl (by kernel_rfl)) rfl ?_
      exact ⟨⟨x0, x1, id0, y⟩, rfl, (hcur.step hg0 hbs).mono (by omega), moved_step hmov hbs⟩
    have e0 : (y == 0) = false := by simpa using y0
    have e1 : (y == 1) = false := by simpa using y1
    have e2 : (y == 2) = false := by simpa using y2
    have e3 : (y == 3) = false := by simpa using y3
    clear y0 y1 y2 y3
    obtain ⟨u0, u1, u2, u3⟩ := Shift.one_cells hX
    go_wp2_with (first | (with_reducible show wpList _ _ _ (⟨none, _, _, _, _, _⟩ :: _) _ _; refine wpList_store_mid rfl 66 (.tmp 4) (.tmp 53) rfl w.heap.size 0 _ rfl rfl (Own.there_ hR rfl (by simp)) (by kernel_rfl) (by simp [Value.oneCell']) ?_))
    have hRf := Own.set_ Shift.enc_len hR rfl (k := 0) (by simp) (⟨x0, x1, id0, x3⟩ : Shift)
    have hbs := below_setCells w.heap.size (Nat.le_refl _) (Shift.enc ⟨x0, x1, id0, x3⟩) (0 * 4) _ (Below.refl w.heap.size w1)
    have hh := Shift.one_heap hRf
    refine bodyPost_ret (results_cell_row rfl _ _ w.heap.size 66 _ (0, 0) _ rfl hh Try.underlying66 rfl (by kernel_rfl)) rfl ?_
    exact ⟨⟨x0, x1, id0, x3⟩, rfl, (hcur.step hg0 hbs).mono (by omega), moved_step hmov hbs⟩
set_option maxRecDepth 100000 in
set_option maxHeartbeats 4000000 in
theorem plan22_any (B g K lo : Nat) (A1 : Option Addr) (c1 : Nat) (S : List Worker) (w : World) (h0 : Cur B w g K) (hK : K ≤ 90000) (hS50 : S.length ≤ 50) (hok : ∀ c ∈ S, c.Ok) (hglo : g < lo) (hS : Own Worker.enc 4 75 lo w (.slice A1 S.length c1) S) :
    Calls Try.prog 86 #[.pointer (some ⟨g, 0, none⟩), .slice A1 S.length c1] w (ListPost Shift.enc 4 66 (fun L => L.length ≤ 50) B g (K + 300) w) := by
  have hg0 := h0.lt
  have hb0 : Below w.heap.size w (w.alloc (.cells #[] 66)) := (Below.refl _ _).alloc (Nat.le_refl _) _
  have hown : Own Shift.enc 4 66 w.heap.size (w.alloc (.cells #[] 66)) (.slice (some ⟨w.heap.size, 0, none⟩) 0 0) ([] : List Shift) := own_empty (Nat.le_refl _)
  have hS := Own.below hS hb0
  have hmov : w.grownBy (w.alloc (.cells #[] 66)) (some g) := moved_below hb0
  have hcur := h0.below hb0
  clear hb0 h0
  go_enter Try.func86, Try.ntmps86
  go_wp2_with fail
  refine (pick_any B g _ _ _ (by assumption) (by omega) (by omega) (by omega)).mono ?_
  rintro e w1 ⟨j, rfl, hx_j, hcur, hm1⟩
  have hown := own_moved hm1 hg0 hown; have hS := own_moved hm1 hglo hS
  have hmov := moved_trans hmov hm1; clear hm1
  go_wp2_with fail
  go_loopw [5, 6] (fun l n wr => ∃ (A : Option Addr) (cap : Nat) (L : List Shift) (m : Nat), l = .slice A L.length cap ∧ n = .int .i64 m ∧ m ≤ 8 ∧ L.length ≤ 40 ∧ Own Shift.enc 4 66 w.heap.size wr (.slice A L.length cap) L ∧ Own Worker.enc 4 75 lo wr (.slice A1 S.length c1) S ∧ Cur B wr g (K + 1 + 20 * (8 - m)) ∧ w.grownBy wr (some g)) (fun _ n _ => (intOf n).toNat)
  case atStart => exact ⟨_, _, [], j, rfl, rfl, by omega, by simp, hown, hS, hcur.mono (by omega), hmov⟩
  case round =>
    clear hown hcur hmov hx_j hS
    obtain ⟨A, cap, L, m, rfl, rfl, hm8, hL40, hown, hS, hcur, hmov⟩ := hrel
    by_cases h0 : m = 0
    · subst h0
      have hz : ((0 : Nat) : Int) = 0 := rfl
      rw [hz]
      go_wp2_with fail
      refine (one_any B g _ _ _ (by assumption) (by omega) (by omega) (by omega)).mono ?_
      rintro e w1 ⟨q, rfl, hcur, hm1⟩
      have hown := own_moved hm1 hg0 hown; have hS := own_moved hm1 hglo hS
      have hmov := moved_trans hmov hm1; clear hm1
      cases q
      · go_wp2_with fail
        go_ret
        exact ⟨_, _, _, _, rfl, rfl, hown, by show _ ≤ 50; omega, hcur.mono (by omega), hmov⟩
      · go_wp2_with fail
        refine (shift_any B g _ lo _ _ S _ (by assumption) (by omega) hS50 hglo hS).mono ?_
        rintro e w1 ⟨s, rfl, hcur, hm1⟩
        have hown := own_moved hm1 hg0 hown; have hmov := moved_trans hmov hm1; clear hm1
        go_wp2_with (first | (at_builtin; refine wpList_push _ rfl (.tmp 29) (.tmp 33) 38 66 rfl Try.underlying38 Shift.infoE rfl (by omega) (by omega) Shift.enc_len Shift.enc_one w.heap.size _ _ _ s _ rfl rfl _ rfl rfl hown hmov.size (by omega) ?_; intro A5 cap5 w5 ho5 hb5; have hown := ho5; have hcur := hcur.step hg0 hb5; have hmov := moved_step hmov hb5; clear ho5 hb5))
        go_ret
        exact ⟨_, _, _, _, rfl, by simp, hown, by show _ ≤ 50; simp; omega, hcur.mono (by omega), hmov⟩
    · obtain ⟨q, rfl⟩ : ∃ q, m = q + 1 := ⟨m - 1, by omega⟩
      have hq : (0 : Int) < ((q + 1 : Nat) : Int) := by omega
      go_wp2_with fail
      refine (shift_any B g _ lo _ _ S _ (by assumption) (by omega) hS50 hglo hS).mono ?_
      rintro e w1 ⟨s, rfl, hcur, hm1⟩
      have hown := own_moved hm1 hg0 hown; have hS := own_moved hm1 hglo hS; have hmov := moved_trans hmov hm1; clear hm1
      go_wp2_with fail
      refine (PutShift_spec S L s _ _ _ _ _ (own_rdm (fun _ => rfl) hS) (own_rdm (fun _ => rfl) hown) hok (by unfold maxLen; omega) (by unfold maxLen; omega) (own_nilcap hown) (own_cple hown rfl)).mono ?_
      rintro e w2 ⟨A2, c2, rfl, ho2, hb2⟩
      have hl2 := putRL_len S L s
      generalize putRL S L s = L2 at *
      generalize putRB S L s = b2 at *
      have ho2 := Own.mono_ ho2 hmov.size
      have hown := Own.below hown hb2; have hS := Own.below hS hb2; have hcur := hcur.below hb2; have hmov := moved_then hmov hb2; clear hb2
      cases b2
      · go_wp2_with fail
        go_roundw
        case rel => exact ⟨_, _, L, q, rfl, in_eq (by omega), by omega, by omega, hown, hS, hcur.mono (by omega), hmov⟩
        case measure => simp [intOf] <;> omega
      · go_wp2_with fail
        go_roundw
        case rel => exact ⟨_, _, L2, q, rfl, in_eq (by omega), by omega, by omega, ho2, hS, hcur.mono (by omega), hmov⟩
        case measure => simp [intOf] <;> omega
theorem okpushW {L : List Worker} {c : Worker} (h : ∀ x ∈ L, x.Ok) (hc : c.Ok) : ∀ x ∈ L ++ [c], x.Ok := fun x hx => by
  rcases List.mem_append.1 hx with h1 | h1
  · exact h x h1
  · simp at h1; subst h1; exact hc
theorem oksetW {L : List Worker} {c : Worker} {k : Nat} (h : ∀ x ∈ L, x.Ok) (hc : c.Ok) : ∀ x ∈ L.set k c, x.Ok := fun x hx => by
  rcases List.mem_or_eq_of_mem_set hx with h1 | h1
  · exact h x h1
  · rw [h1]; exact hc
def GoodStaff (L : List Worker) : Prop := (∀ c ∈ L, c.Ok) ∧ L.length ≤ 20
set_option maxRecDepth 100000 in
set_option maxHeartbeats 4000000 in
theorem staff_any (B g K : Nat) (w : World) (h0 : Cur B w g K) (hK : K ≤ 90000) :
    Calls Try.prog 85 #[.pointer (some ⟨g, 0, none⟩)] w (ListPost Worker.enc 4 75 GoodStaff B g (K + 300) w) := by
  have hg0 := h0.lt
  have hb0 : Below w.heap.size w (w.alloc (.cells #[] 75)) := (Below.refl _ _).alloc (Nat.le_refl _) _
  have hown : Own Worker.enc 4 75 w.heap.size (w.alloc (.cells #[] 75)) (.slice (some ⟨w.heap.size, 0, none⟩) 0 0) ([] : List Worker) := own_empty (Nat.le_refl _)
  have hmov : w.grownBy (w.alloc (.cells #[] 75)) (some g) := moved_below hb0
  have hcur := h0.below hb0
  clear hb0 h0
  go_enter Try.func85, Try.ntmps85
  go_wp2_with fail
  refine (pick_any B g _ _ _ (by assumption) (by omega) (by omega) (by omega)).mono ?_
  rintro e w1 ⟨j, rfl, hx_j, hcur, hm1⟩
  have hown := own_moved hm1 hg0 hown
  have hmov := moved_trans hmov hm1; clear hm1
  go_wp2_with fail
  go_loopw [3, 4, 5] (fun l t n wr => ∃ (A : Option Addr) (cap z : Nat) (L : List Worker) (tm : Int) (m : Nat), l = .slice A z cap ∧ L.length = z ∧ t = .int .i64 tm ∧ n = .int .i64 m ∧ z + m ≤ 5 ∧ (∀ c ∈ L, c.Ok) ∧ Own Worker.enc 4 75 w.heap.size wr (.slice A z cap) L ∧ Cur B wr g (K + 2 + 10 * z) ∧ w.grownBy wr (some g)) (fun _ _ n _ => (intOf n).toNat)
  case atStart => exact ⟨_, _, _, [], 0, j, rfl, rfl, rfl, rfl, by omega, (fun c hc => by cases hc), hown, hcur.mono (by omega), hmov⟩
  case round =>
    clear hown hcur hmov hx_j
    obtain ⟨A, cap, z, L, tm, m, rfl, hL, rfl, rfl, hm, hok, hown, hcur, hmov⟩ := hrel
    by_cases h0 : m = 0
    · subst h0
      have hz : ((0 : Nat) : Int) = 0 := rfl
      rw [hz]
      by_cases hz0 : z = 0
      · subst hz0
        go_wp2_with fail
        go_ret
        exact ⟨_, _, _, _, rfl, hL, hown, ⟨hok, by omega⟩, hcur.mono (by omega), hmov⟩
      · have hzb : ((z : Int) == 0) = false := by simp; omega
        go_wp2_with fail
        refine (pick_any B g _ _ _ (by assumption) (by omega) (by omega) (by omega)).mono ?_
        rintro e w1 ⟨k, rfl, hx_k, hcur, hm1⟩
        have hown := own_moved hm1 hg0 hown
        have hmov := moved_trans hmov hm1; clear hm1
        have hkz : k < z := by omega
        have hkL : k < L.length := by omega
        have hki : (k : Int) < (z : Int) := by omega
        obtain ⟨p, rfl, hp0, _⟩ := own_head hown hL (by omega)
        have hgk := List.getElem?_eq_getElem hkL
        have hown2 : Own Worker.enc 4 75 w.heap.size w1 (.slice (some ⟨p, 0, none⟩) L.length cap) L := by rw [hL]; exact hown
        have y0 := own_cell hown2 (flat_get Worker.enc_len L k _ hgk 0 _ rfl)
        have y1 := own_cell hown2 (flat_get Worker.enc_len L k _ hgk 1 _ rfl)
        have y2 := own_cell hown2 (flat_get Worker.enc_len L k _ hgk 2 _ rfl)
        have y3 := own_cell hown2 (flat_get Worker.enc_len L k _ hgk 3 _ rfl)
        rw [Nat.add_zero] at y0
        have hco := hok _ (List.getElem_mem hkL)
        generalize L[k] = c at *
        clear hown2 hgk hx_k hkL
        go_upto_region 12 with fail
        have hb1 : Below w1.heap.size w1 (w1.alloc (.cells #[.int .i64 c.id, .string c.name, .int .i64 c.duties, .int .i64 c.hours] 75)) := (Below.refl _ _).alloc (Nat.le_refl _) _
        have hX : Own Worker.enc 4 75 w.heap.size (w1.alloc (.cells #[.int .i64 c.id, .string c.name, .int .i64 c.duties, .int .i64 c.hours] 75)) (.slice (some ⟨w1.heap.size, 0, none⟩) 1 1) [c] := World.ownsRow_lit (e := 75) (size := 4) w1 #[.int .i64 c.id, .string c.name, .int .i64 c.duties, .int .i64 c.hours] 1 hmov.size (by decide) rfl
        have hle : w.heap.size ≤ w1.heap.size := hmov.size
        have hnp : p ≠ w1.heap.size := Nat.ne_of_lt (hown.lt p rfl).2
        have hown := Own.below hown hb1; have hcur := hcur.below hb1; have hmov := moved_then hmov hb1
        clear hb1 y0 y1 y2 y3
        generalize (w1.alloc (.cells #[.int .i64 c.id, .string c.name, .int .i64 c.duties, .int .i64 c.hours] 75)) = wx at *
        generalize w1.heap.size = px at *
        go_wp2_with fail
        refine (pick_any B g _ _ _ (by assumption) (by omega) (by omega) (by omega)).mono ?_
        rintro e w1 ⟨j, rfl, hj, hcur, hm1⟩
        obtain ⟨y, hy⟩ : ∃ y : Int, y = (j : Int) := ⟨_, rfl⟩
        have hown := own_moved hm1 hg0 hown
        have hX := own_moved hm1 hg0 hX
        have hmov := moved_trans hmov hm1
        rw [← hy]; clear hm1 hj hy
        by_cases y0 : y = 0
        · subst y0
          go_wp2_with fail
          refine (among_lit B g _ _ _ _ _ _ (by simp [intOf]) (by rfl) (by first | rfl | simp) (by omega) (by omega) (by assumption) (by omega)).mono ?_
          rintro e w1 ⟨y, rfl, hx_y, hcur, hm1⟩
          have hown := own_moved hm1 hg0 hown; have hX := own_moved hm1 hg0 hX
          have hmov := moved_trans hmov hm1; clear hm1
          obtain ⟨u0, u1, u2, u3⟩ := Worker.one_cells hX
          have hfz := Own.frozen_ hX rfl 0
          have hbs := (Below.refl w.heap.size w1).setCell (p := ⟨px, 0, none⟩) hle (.int .i64 y)
          have hown := own_grown hown (moved_set (g := px) (j := 0) (u := .int .i64 y) (moved_refl w1 px)) (.inl (by intro e; injection e with e; exact hnp e))
          have hcur := hcur.step hg0 hbs; have hmov := moved_step hmov hbs; clear hbs
          go_wp2_with (first | (with_reducible show wpList _ _ _ (⟨none, _, _, _, _, _⟩ :: _) _ _; refine wpList_store_mid rfl 75 (.tmp 90) (.tmp 89) rfl p (k * 4) _ rfl rfl (Own.there_ hown hL (by simp <;> omega)) (by kernel_rfl) (by simp [Value.oneCell']) ?_))
          have hset := Own.set_ Worker.enc_len hown hL (k := k) (by omega) (⟨y, c.name, c.duties, c.hours⟩ : Worker)
          have hbs := below_setCells p hp0 (Worker.enc ⟨y, c.name, c.duties, c.hours⟩) (k * 4) _ (Below.refl w.heap.size (w1.setCell ⟨px, 0, none⟩ (.int .i64 y)))
          have hcs := hcur.step hg0 hbs; have hms := moved_step hmov hbs; clear hbs
          go_ret
          exact ⟨_, _, _, _, rfl, by rw [List.length_set]; exact hL, hset, ⟨oksetW hok (c := ⟨y, c.name, c.duties, c.hours⟩) hco, by rw [List.length_set]; omega⟩, hcs.mono (by omega), hms⟩
        by_cases y1 : y = 1
        · subst y1
          go_wp2_with fail
          refine (of_lit B g _ _ _ _ _ _ (by simp [strOf]) (by rfl) (by simp) (by omega) (by omega) (by assumption) (by omega)).mono ?_
          rintro e w1 ⟨y, rfl, hx_y, hcur, hm1⟩
          have hown := own_moved hm1 hg0 hown; have hX := own_moved hm1 hg0 hX
          have hmov := moved_trans hmov hm1; clear hm1
          have ok_y := of_ok (by rfl) hx_y; clear hx_y
          obtain ⟨u0, u1, u2, u3⟩ := Worker.one_cells hX
          have hfz := Own.frozen_ hX rfl 1
          have hbs := (Below.refl w.heap.size w1).setCell (p := ⟨px, 1, none⟩) hle (.string y)
          have hown := own_grown hown (moved_set (g := px) (j := 1) (u := .string y) (moved_refl w1 px)) (.inl (by intro e; injection e with e; exact hnp e))
          have hcur := hcur.step hg0 hbs; have hmov := moved_step hmov hbs; clear hbs
          go_wp2_with (first | (with_reducible show wpList _ _ _ (⟨none, _, _, _, _, _⟩ :: _) _ _; refine wpList_store_mid rfl 75 (.tmp 90) (.tmp 89) rfl p (k * 4) _ rfl rfl (Own.there_ hown hL (by simp <;> omega)) (by kernel_rfl) (by simp [Value.oneCell']) ?_))
          have hset := Own.set_ Worker.enc_len hown hL (k := k) (by omega) (⟨c.id, y, c.duties, c.hours⟩ : Worker)
          have hbs := below_setCells p hp0 (Worker.enc ⟨c.id, y, c.duties, c.hours⟩) (k * 4) _ (Below.refl w.heap.size (w1.setCell ⟨px, 1, none⟩ (.string y)))
          have hcs := hcur.step hg0 hbs; have hms := moved_step hmov hbs; clear hbs
          go_ret
          exact ⟨_, _, _, _, rfl, by rw [List.length_set]; exact hL, hset, ⟨oksetW hok (c := ⟨c.id, y, c.duties, c.hours⟩) ok_y, by rw [List.length_set]; omega⟩, hcs.mono (by omega), hms⟩
        by_cases y2 : y = 2
        · subst y2
          go_wp2_with fail
          refine (among_lit B g _ _ _ _ _ _ (by simp [intOf]) (by rfl) (by first | rfl | simp) (by omega) (by omega) (by assumption) (by omega)).mono ?_
          rintro e w1 ⟨y, rfl, hx_y, hcur, hm1⟩
          have hown := own_moved hm1 hg0 hown; have hX := own_moved hm1 hg0 hX
          have hmov := moved_trans hmov hm1; clear hm1
          obtain ⟨u0, u1, u2, u3⟩ := Worker.one_cells hX
          have hfz := Own.frozen_ hX rfl 2
          have hbs := (Below.refl w.heap.size w1).setCell (p := ⟨px, 2, none⟩) hle (.int .i64 y)
          have hown := own_grown hown (moved_set (g := px) (j := 2) (u := .int .i64 y) (moved_refl w1 px)) (.inl (by intro e; injection e with e; exact hnp e))
          have hcur := hcur.step hg0 hbs; have hmov := moved_step hmov hbs; clear hbs
          go_wp2_with (first | (with_reducible show wpList _ _ _ (⟨none, _, _, _, _, _⟩ :: _) _ _; refine wpList_store_mid rfl 75 (.tmp 90) (.tmp 89) rfl p (k * 4) _ rfl rfl (Own.there_ hown hL (by simp <;> omega)) (by kernel_rfl) (by simp [Value.oneCell']) ?_))
          have hset := Own.set_ Worker.enc_len hown hL (k := k) (by omega) (⟨c.id, c.name, y, c.hours⟩ : Worker)
          have hbs := below_setCells p hp0 (Worker.enc ⟨c.id, c.name, y, c.hours⟩) (k * 4) _ (Below.refl w.heap.size (w1.setCell ⟨px, 2, none⟩ (.int .i64 y)))
          have hcs := hcur.step hg0 hbs; have hms := moved_step hmov hbs; clear hbs
          go_ret
          exact ⟨_, _, _, _, rfl, by rw [List.length_set]; exact hL, hset, ⟨oksetW hok (c := ⟨c.id, c.name, y, c.hours⟩) hco, by rw [List.length_set]; omega⟩, hcs.mono (by omega), hms⟩
        by_cases y3 : y = 3
        · subst y3
          go_wp2_with fail
          refine (among_lit B g _ _ _ _ _ _ (by simp [intOf]) (by rfl) (by first | rfl | simp) (by omega) (by omega) (by assumption) (by omega)).mono ?_
          rintro e w1 ⟨y, rfl, hx_y, hcur, hm1⟩
          have hown := own_moved hm1 hg0 hown; have hX := own_moved hm1 hg0 hX
          have hmov := moved_trans hmov hm1; clear hm1
          obtain ⟨u0, u1, u2, u3⟩ := Worker.one_cells hX
          have hfz := Own.frozen_ hX rfl 3
          have hbs := (Below.refl w.heap.size w1).setCell (p := ⟨px, 3, none⟩) hle (.int .i64 y)
          have hown := own_grown hown (moved_set (g := px) (j := 3) (u := .int .i64 y) (moved_refl w1 px)) (.inl (by intro e; injection e with e; exact hnp e))
          have hcur := hcur.step hg0 hbs; have hmov := moved_step hmov hbs; clear hbs
          go_wp2_with (first | (with_reducible show wpList _ _ _ (⟨none, _, _, _, _, _⟩ :: _) _ _; refine wpList_store_mid rfl 75 (.tmp 90) (.tmp 89) rfl p (k * 4) _ rfl rfl (Own.there_ hown hL (by simp <;> omega)) (by kernel_rfl) (by simp [Value.oneCell']) ?_))
          have hset := Own.set_ Worker.enc_len hown hL (k := k) (by omega) (⟨c.id, c.name, c.duties, y⟩ : Worker)
          have hbs := below_setCells p hp0 (Worker.enc ⟨c.id, c.name, c.duties, y⟩) (k * 4) _ (Below.refl w.heap.size (w1.setCell ⟨px, 3, none⟩ (.int .i64 y)))
          have hcs := hcur.step hg0 hbs; have hms := moved_step hmov hbs; clear hbs
          go_ret
          exact ⟨_, _, _, _, rfl, by rw [List.length_set]; exact hL, hset, ⟨oksetW hok (c := ⟨c.id, c.name, c.duties, y⟩) hco, by rw [List.length_set]; omega⟩, hcs.mono (by omega), hms⟩
        by_cases y4 : y = 4
        · subst y4
          go_wp2_with fail
          go_loopw [3, 4] (fun l t wr => ∃ (A : Option Addr) (cap z : Nat) (L : List Worker) (tm : Int), l = .slice A z cap ∧ L.length = z ∧ t = .int .i64 tm ∧ k < z ∧ z ≤ 12 ∧ (∀ c ∈ L, c.Ok) ∧ Own Worker.enc 4 75 w.heap.size wr (.slice A z cap) L ∧ Own Worker.enc 4 75 w.heap.size wr (.slice (some ⟨px, 0, none⟩) 1 1) [c] ∧ (∀ q, (Value.slice A z cap).ownBlock = some q → q ≠ px) ∧ Cur B wr g (K + 150 + z) ∧ w.grownBy wr (some g)) (fun l _ _ => 20 - lenOf l)
          case atStart => exact ⟨_, _, _, L, tm, rfl, hL, rfl, hkz, by omega, hok, hown, hX, (fun q hq => by have h2 : some p = some q := hq; injection h2 with h2; omega), hcur.mono (by omega), hmov⟩
          case round =>
            clear hown hcur hmov hok hX hnp hp0 hL hkz hki
            obtain ⟨A, cap, z, L, tm, rfl, hL, rfl, hkz, hz2, hok, hown, hX, hnq, hcur, hmov⟩ := hrel
            go_wp2_with fail
            refine (pick_any B g _ _ _ (by assumption) (by omega) (by omega) (by omega)).mono ?_
            rintro e w1 ⟨j2, rfl, hx_j2, hcur, hm1⟩
            have hown := own_moved hm1 hg0 hown; have hX := own_moved hm1 hg0 hX
            have hmov := moved_trans hmov hm1; clear hm1
            by_cases hlt2 : (z : Int) < 8 + (j2 : Int)
            · subst hL
              have hpxb := (hX.lt px rfl).2
              go_wp2_with (at_builtin; refine wpList_push2 _ rfl (.tmp 82) (.tmp 85) 25 75 rfl Try.underlying25 Worker.infoE rfl (by omega) (by omega) Worker.enc_len Worker.enc_one w.heap.size _ _ L ⟨_, ⟨#[120]⟩, 1, 8⟩ _ rfl rfl _ rfl rfl hown hmov.size (by omega) ?_; intro q5 cap5 w5 ho5 hb5 hg5 hq5)
              have hX5 := own_grown (World.ownsRow.alloc hX _) hg5 (.inl (by intro e; exact hnq px e.symm rfl))
              go_roundw
              case rel => exact ⟨_, _, _, _, _, rfl, by simp, rfl, by omega, by omega, okpushW hok (c := ⟨_, ⟨#[120]⟩, 1, 8⟩) (show (1 : Nat) ≤ maxLen by unfold maxLen; omega), ho5, hX5, (fun q hq => by have h2 : some q5 = some q := hq; injection h2 with h2; subst h2; rcases hq5 with h3 | h3; exact hnq q5 h3; omega), (hcur.step hg0 hb5).mono (by omega), moved_step hmov hb5⟩
              case measure => simp [lenOf] <;> omega
            · obtain ⟨p, rfl, hp0, _⟩ := own_head hown hL (by omega)
              have hki : (k : Int) < (z : Int) := by omega
              obtain ⟨u0, u1, u2, u3⟩ := Worker.one_cells hX
              go_wp2_with (first | (with_reducible show wpList _ _ _ (⟨none, _, _, _, _, _⟩ :: _) _ _; refine wpList_store_mid rfl 75 (.tmp 90) (.tmp 89) rfl p (k * 4) _ rfl rfl (Own.there_ hown hL (by simp <;> omega)) (by kernel_rfl) (by simp [Value.oneCell']) ?_))
              have hset := Own.set_ Worker.enc_len hown hL (k := k) (by omega) (c : Worker)
              have hbs := below_setCells p hp0 (Worker.enc c) (k * 4) _ (Below.refl w.heap.size w1)
              have hcs := hcur.step hg0 hbs; have hms := moved_step hmov hbs; clear hbs
              go_ret
              exact ⟨_, _, _, _, rfl, by rw [List.length_set]; exact hL, hset, ⟨oksetW hok (c := c) hco, by rw [List.length_set]; omega⟩, hcs.mono (by omega), hms⟩
        have e0 : (y == 0) = false := by simpa using y0
        have e1 : (y == 1) = false := by simpa using y1
        have e2 : (y == 2) = false := by simpa using y2
        have e3 : (y == 3) = false := by simpa using y3
        have e4 : (y == 4) = false := by simpa using y4
        clear y0 y1 y2 y3 y4
        obtain ⟨u0, u1, u2, u3⟩ := Worker.one_cells hX
        go_wp2_with (first | (with_reducible show wpList _ _ _ (⟨none, _, _, _, _, _⟩ :: _) _ _; refine wpList_store_mid rfl 75 (.tmp 90) (.tmp 89) rfl p (k * 4) _ rfl rfl (Own.there_ hown hL (by simp <;> omega)) (by kernel_rfl) (by simp [Value.oneCell']) ?_))
        have hset := Own.set_ Worker.enc_len hown hL (k := k) (by omega) (c : Worker)
        have hbs := below_setCells p hp0 (Worker.enc c) (k * 4) _ (Below.refl w.heap.size w1)
        have hcs := hcur.step hg0 hbs; have hms := moved_step hmov hbs; clear hbs
        go_ret
        exact ⟨_, _, _, _, rfl, by rw [List.length_set]; exact hL, hset, ⟨oksetW hok (c := c) hco, by rw [List.length_set]; omega⟩, hcs.mono (by omega), hms⟩
    · obtain ⟨q, rfl⟩ : ∃ q, m = q + 1 := ⟨m - 1, by omega⟩
      have hq : (0 : Int) < ((q + 1 : Nat) : Int) := by omega
      subst hL
      go_wp2_with fail
      refine (pick_any B g _ _ _ (by assumption) (by omega) (by omega) (by omega)).mono ?_
      rintro e w1 ⟨j1, rfl, hx_j1, hcur, hm1⟩
      have hown := own_moved hm1 hg0 hown
      have hmov := moved_trans hmov hm1; clear hm1
      go_wp2_with fail
      refine (of_lit B g _ _ _ _ _ _ (by simp [strOf]) (by rfl) (by simp) (by omega) (by omega) (by assumption) (by omega)).mono ?_
      rintro e w1 ⟨s0, rfl, hx_s0, hcur, hm1⟩
      have hown := own_moved hm1 hg0 hown
      have hmov := moved_trans hmov hm1; clear hm1
      have ok_s0 := of_ok (by rfl) hx_s0; clear hx_s0
      go_wp2_with (first | (go_at_call 107; refine (among_lit B g _ _ _ _ _ _ (by simp [intOf]) (by rfl) (by first | rfl | simp) (by omega) (by omega) (by assumption) (by omega)).mono ?_; rintro e w1 ⟨x, rfl, hx, hcur, hm1⟩; have hown := own_moved hm1 hg0 hown; have hmov := moved_trans hmov hm1; clear hm1) | (at_builtin; refine wpList_push _ rfl (.tmp 20) (.tmp 32) 25 75 rfl Try.underlying25 Worker.infoE rfl (by omega) (by omega) Worker.enc_len Worker.enc_one w.heap.size _ _ _ ⟨_, s0, _, _⟩ _ rfl rfl _ rfl rfl hown hmov.size (by omega) ?_; intro A5 cap5 w5 ho5 hb5; have hown := ho5; have hcur := hcur.step hg0 hb5; have hmov := moved_step hmov hb5; clear ho5 hb5))
      go_roundw
      case rel => exact ⟨_, _, _, _, _, q, rfl, by simp, rfl, in_eq (by omega), by omega, okpushW hok (c := ⟨_, s0, _, _⟩) ok_s0, hown, hcur.mono (by omega), hmov⟩
      case measure => simp [intOf] <;> omega
end Go.Proofs.Ytfaicjlpncidgaa
