/- The drawers of chapter 24: a condition, conditions, a day. -/
import Derived.Test.YtknondhdhjegbaaDraw
import Derived.Test.YtknondhdhjegbaaLibCondition
import Derived.Test.YtknondhdhjegbaaSetC
import Derived.Test.YtknondhdhjegbaaDel
import Derived.Deep.DeepCutAuto
namespace Go.Proofs.Ytknondhdhjegbaa
open Go Go.RowKit
set_option linter.unusedVariables false
theorem of_ok {cs : Array Value} (h : ((strsOf cs).all fun x => decide (x.size ≤ maxLen)) = true) {x : ByteArray} (hx : x ∈ strsOf cs) : x.size ≤ maxLen := by
  have := List.all_eq_true.1 h x hx
  simpa using this
theorem Condition.one_cells {lo p : Nat} {w : World} {c : Condition} (h : Own Condition.enc 5 26 lo w (.slice (some ⟨p, 0, none⟩) 1 1) [c]) : w.cell? ⟨p, 0, none⟩ = some (.int .i64 c.number) ∧ w.cell? ⟨p, 1, none⟩ = some (.string c.what) ∧ w.cell? ⟨p, 2, none⟩ = some (.int .i64 c.every) ∧ w.cell? ⟨p, 3, none⟩ = some (.int .i64 c.last) ∧ w.cell? ⟨p, 4, none⟩ = some (.int .i64 c.grade) :=
  ⟨own_cell h (flat_get Condition.enc_len [c] 0 c rfl 0 _ rfl), own_cell h (flat_get Condition.enc_len [c] 0 c rfl 1 _ rfl), own_cell h (flat_get Condition.enc_len [c] 0 c rfl 2 _ rfl), own_cell h (flat_get Condition.enc_len [c] 0 c rfl 3 _ rfl), own_cell h (flat_get Condition.enc_len [c] 0 c rfl 4 _ rfl)⟩
theorem Condition.one_heap {lo p : Nat} {w : World} {c : Condition} (h : Own Condition.enc 5 26 lo w (.slice (some ⟨p, 0, none⟩) 1 1) [c]) : w.heap[p]? = some (.cells #[.int .i64 c.number, .string c.what, .int .i64 c.every, .int .i64 c.last, .int .i64 c.grade] 26 (0, 0)) := by
  rcases h.2 with ⟨hv, _⟩ | ⟨g, c2, cur, hv, _, hh, _, _, hsz, htk⟩
  · cases hv
  · cases hv
    rw [hh]
    have e : cur.toList = Condition.enc c := by
      have e2 : cur.toList.take (1 * 5) = [c].flatMap Condition.enc := htk
      rw [List.take_of_length_le (by rw [Array.length_toList]; omega)] at e2
      rw [e2]; simp
    have e3 : cur = #[.int .i64 c.number, .string c.what, .int .i64 c.every, .int .i64 c.last, .int .i64 c.grade] := by rw [← Array.toArray_toList (xs := cur), e]; rfl
    rw [e3]
def CondPost (B g K : Nat) (w : World) (e : Ending) (w' : World) : Prop := ∃ c : Condition, e = .returned (.agg #[.int .i64 c.number, .string c.what, .int .i64 c.every, .int .i64 c.last, .int .i64 c.grade]) ∧ c.Ok ∧ Cur B w' g K ∧ w.grownBy w' (some g)
set_option maxRecDepth 100000 in
set_option maxHeartbeats 4000000 in
theorem condition_any (B g K : Nat) (number : Int) (w : World) (h0 : Cur B w g K) (hK : K ≤ 100000) :
    Calls Try.prog 78 #[.pointer (some ⟨g, 0, none⟩), .int .i64 number] w (CondPost B g (K + 10) w) := by
  have hg0 := h0.lt
  have hb0 : Below w.heap.size w (w.alloc (.cells #[.int .i64 0, .string ⟨#[]⟩, .int .i64 0, .int .i64 0, .int .i64 0] 26)) := (Below.refl _ _).alloc (Nat.le_refl _) _
  have hR : Own Condition.enc 5 26 w.heap.size (w.alloc (.cells #[.int .i64 0, .string ⟨#[]⟩, .int .i64 0, .int .i64 0, .int .i64 0] 26)) (.slice (some ⟨w.heap.size, 0, none⟩) 1 1) [(⟨0, ⟨#[]⟩, 0, 0, 0⟩ : Condition)] := World.ownsRow_lit (e := 26) (size := 5) w #[.int .i64 0, .string ⟨#[]⟩, .int .i64 0, .int .i64 0, .int .i64 0] 1 (Nat.le_refl _) (by decide) rfl
  have hmov : w.grownBy (w.alloc (.cells #[.int .i64 0, .string ⟨#[]⟩, .int .i64 0, .int .i64 0, .int .i64 0] 26)) (some g) := moved_below hb0
  have hcur := h0.below hb0
  clear hb0 h0
  go_enter Try.func78, Try.ntmps78
  go_wp2_with fail
  refine (of_lit B g _ _ _ _ _ _ (by simp [strOf]) (by rfl) (by simp) (by omega) (by omega) (by assumption) (by omega)).mono ?_
  rintro e w1 ⟨s0, rfl, hx_s0, hcur, hm1⟩
  have hR := own_moved hm1 hg0 hR
  have hmov := moved_trans hmov hm1; clear hm1
  have ok_s0 := of_ok (by rfl) hx_s0; clear hx_s0
  go_wp2_with fail
  refine (among_lit B g _ _ _ _ _ _ (by simp [intOf]) (by rfl) (by first | rfl | simp) (by omega) (by omega) (by assumption) (by omega)).mono ?_
  rintro e w1 ⟨x2, rfl, hx_x2, hcur, hm1⟩
  have hR := own_moved hm1 hg0 hR
  have hmov := moved_trans hmov hm1; clear hm1
  go_wp2_with fail
  refine (among_lit B g _ _ _ _ _ _ (by simp [intOf]) (by rfl) (by first | rfl | simp) (by omega) (by omega) (by assumption) (by omega)).mono ?_
  rintro e w1 ⟨x3, rfl, hx_x3, hcur, hm1⟩
  have hR := own_moved hm1 hg0 hR
  have hmov := moved_trans hmov hm1; clear hm1
  go_wp2_with fail
  refine (among_lit B g _ _ _ _ _ _ (by simp [intOf]) (by rfl) (by first | rfl | simp) (by omega) (by omega) (by assumption) (by omega)).mono ?_
  rintro e w1 ⟨x4, rfl, hx_x4, hcur, hm1⟩
  have hR := own_moved hm1 hg0 hR
  have hmov := moved_trans hmov hm1; clear hm1
  clear hx_x2 hx_x3 hx_x4
  go_wp2_with fail
  have hb1 : Below w1.heap.size w1 (w1.alloc (.cells #[.int .i64 number, .string s0, .int .i64 x2, .int .i64 x3, .int .i64 x4] 26)) := (Below.refl _ _).alloc (Nat.le_refl _) _
  have hX : Own Condition.enc 5 26 w.heap.size (w1.alloc (.cells #[.int .i64 number, .string s0, .int .i64 x2, .int .i64 x3, .int .i64 x4] 26)) (.slice (some ⟨w1.heap.size, 0, none⟩) 1 1) [(⟨number, s0, x2, x3, x4⟩ : Condition)] := World.ownsRow_lit (e := 26) (size := 5) w1 #[.int .i64 number, .string s0, .int .i64 x2, .int .i64 x3, .int .i64 x4] 1 hmov.size (by decide) rfl
  have hne : w1.heap.size ≠ w.heap.size := Nat.ne_of_gt (hR.lt _ rfl).2
  have hle : w.heap.size ≤ w1.heap.size := hmov.size
  have hR := Own.below hR hb1; have hcur := hcur.below hb1; have hmov := moved_then hmov hb1
  clear hb1
  generalize (w1.alloc (.cells #[.int .i64 number, .string s0, .int .i64 x2, .int .i64 x3, .int .i64 x4] 26)) = wx at *
  generalize w1.heap.size = px at *
  refine (pick_any B g _ _ _ (by assumption) (by omega) (by omega) (by omega)).mono ?_
  rintro e w1 ⟨j, rfl, hj, hcur, hm1⟩
  obtain ⟨y, hy⟩ : ∃ y : Int, y = (j : Int) := ⟨_, rfl⟩
  have hR := own_moved hm1 hg0 hR
  have hX := own_moved hm1 hg0 hX
  have hmov := moved_trans hmov hm1
  rw [← hy]; clear hm1 hj hy
  by_cases y0 : y = 0
  · subst y0
    go_wp2_with fail
    refine (among_lit B g _ _ _ _ _ _ (by simp [intOf]) (by rfl) (by first | rfl | simp) (by omega) (by omega) (by assumption) (by omega)).mono ?_
    rintro e w1 ⟨y, rfl, hx_y, hcur, hm1⟩
    have hR := own_moved hm1 hg0 hR
    have hX := own_moved hm1 hg0 hX
    have hmov := moved_trans hmov hm1; clear hm1
    obtain ⟨u0, u1, u2, u3, u4⟩ := Condition.one_cells hX
    have hfz := Own.frozen_ hX rfl 0
    have hbs := (Below.refl w.heap.size w1).setCell (p := ⟨px, 0, none⟩) hle (.int .i64 y)
    have hR := own_grown hR (moved_set (g := px) (j := 0) (u := .int .i64 y) (moved_refl w1 px)) (.inl (by intro e; injection e with e; exact hne e.symm))
    have hcur := hcur.step hg0 hbs; have hmov := moved_step hmov hbs; clear hbs
    go_wp2_with (first | (with_reducible show wpList _ _ _ (⟨none, _, _, _, _, _⟩ :: _) _ _; refine wpList_store_mid rfl 26 (.tmp 4) (.tmp 52) rfl w.heap.size 0 _ rfl rfl (Own.there_ hR rfl (by simp)) (by kernel_rfl) (by simp [Value.oneCell']) ?_))
    have hRf := Own.set_ Condition.enc_len hR rfl (k := 0) (by simp) (⟨y, s0, x2, x3, x4⟩ : Condition)
    have hbs := below_setCells w.heap.size (Nat.le_refl _) (Condition.enc ⟨y, s0, x2, x3, x4⟩) (0 * 5) _ (Below.refl w.heap.size (w1.setCell ⟨px, 0, none⟩ (.int .i64 y)))
    have hh := Condition.one_heap hRf
    refine bodyPost_ret (results_cell_row rfl _ _ w.heap.size 26 _ (0, 0) _ rfl hh Try.underlying26 rfl (by kernel_rfl)) rfl ?_
    exact ⟨⟨y, s0, x2, x3, x4⟩, rfl, ok_s0, (hcur.step hg0 hbs).mono (by omega), moved_step hmov hbs⟩
  by_cases y1 : y = 1
  · subst y1
    go_wp2_with fail
    refine (of_lit B g _ _ _ _ _ _ (by simp [strOf]) (by rfl) (by simp) (by omega) (by omega) (by assumption) (by omega)).mono ?_
    rintro e w1 ⟨y, rfl, hx_y, hcur, hm1⟩
    have hR := own_moved hm1 hg0 hR
    have hX := own_moved hm1 hg0 hX
    have hmov := moved_trans hmov hm1; clear hm1
    have ok_y := of_ok (by rfl) hx_y; clear hx_y
    obtain ⟨u0, u1, u2, u3, u4⟩ := Condition.one_cells hX
    have hfz := Own.frozen_ hX rfl 1
    have hbs := (Below.refl w.heap.size w1).setCell (p := ⟨px, 1, none⟩) hle (.string y)
    have hR := own_grown hR (moved_set (g := px) (j := 1) (u := .string y) (moved_refl w1 px)) (.inl (by intro e; injection e with e; exact hne e.symm))
    have hcur := hcur.step hg0 hbs; have hmov := moved_step hmov hbs; clear hbs
    go_wp2_with (first | (with_reducible show wpList _ _ _ (⟨none, _, _, _, _, _⟩ :: _) _ _; refine wpList_store_mid rfl 26 (.tmp 4) (.tmp 52) rfl w.heap.size 0 _ rfl rfl (Own.there_ hR rfl (by simp)) (by kernel_rfl) (by simp [Value.oneCell']) ?_))
    have hRf := Own.set_ Condition.enc_len hR rfl (k := 0) (by simp) (⟨number, y, x2, x3, x4⟩ : Condition)
    have hbs := below_setCells w.heap.size (Nat.le_refl _) (Condition.enc ⟨number, y, x2, x3, x4⟩) (0 * 5) _ (Below.refl w.heap.size (w1.setCell ⟨px, 1, none⟩ (.string y)))
    have hh := Condition.one_heap hRf
    refine bodyPost_ret (results_cell_row rfl _ _ w.heap.size 26 _ (0, 0) _ rfl hh Try.underlying26 rfl (by kernel_rfl)) rfl ?_
    exact ⟨⟨number, y, x2, x3, x4⟩, rfl, ok_y, (hcur.step hg0 hbs).mono (by omega), moved_step hmov hbs⟩
  by_cases y2 : y = 2
  · subst y2
    go_wp2_with fail
    refine (among_lit B g _ _ _ _ _ _ (by simp [intOf]) (by rfl) (by first | rfl | simp) (by omega) (by omega) (by assumption) (by omega)).mono ?_
    rintro e w1 ⟨y, rfl, hx_y, hcur, hm1⟩
    have hR := own_moved hm1 hg0 hR
    have hX := own_moved hm1 hg0 hX
    have hmov := moved_trans hmov hm1; clear hm1
    obtain ⟨u0, u1, u2, u3, u4⟩ := Condition.one_cells hX
    have hfz := Own.frozen_ hX rfl 2
    have hbs := (Below.refl w.heap.size w1).setCell (p := ⟨px, 2, none⟩) hle (.int .i64 y)
    have hR := own_grown hR (moved_set (g := px) (j := 2) (u := .int .i64 y) (moved_refl w1 px)) (.inl (by intro e; injection e with e; exact hne e.symm))
    have hcur := hcur.step hg0 hbs; have hmov := moved_step hmov hbs; clear hbs
    go_wp2_with (first | (with_reducible show wpList _ _ _ (⟨none, _, _, _, _, _⟩ :: _) _ _; refine wpList_store_mid rfl 26 (.tmp 4) (.tmp 52) rfl w.heap.size 0 _ rfl rfl (Own.there_ hR rfl (by simp)) (by kernel_rfl) (by simp [Value.oneCell']) ?_))
    have hRf := Own.set_ Condition.enc_len hR rfl (k := 0) (by simp) (⟨number, s0, y, x3, x4⟩ : Condition)
    have hbs := below_setCells w.heap.size (Nat.le_refl _) (Condition.enc ⟨number, s0, y, x3, x4⟩) (0 * 5) _ (Below.refl w.heap.size (w1.setCell ⟨px, 2, none⟩ (.int .i64 y)))
    have hh := Condition.one_heap hRf
    refine bodyPost_ret (results_cell_row rfl _ _ w.heap.size 26 _ (0, 0) _ rfl hh Try.underlying26 rfl (by kernel_rfl)) rfl ?_
    exact ⟨⟨number, s0, y, x3, x4⟩, rfl, ok_s0, (hcur.step hg0 hbs).mono (by omega), moved_step hmov hbs⟩
  by_cases y3 : y = 3
  · subst y3
    go_wp2_with fail
    refine (among_lit B g _ _ _ _ _ _ (by simp [intOf]) (by rfl) (by first | rfl | simp) (by omega) (by omega) (by assumption) (by omega)).mono ?_
    rintro e w1 ⟨y, rfl, hx_y, hcur, hm1⟩
    have hR := own_moved hm1 hg0 hR
    have hX := own_moved hm1 hg0 hX
    have hmov := moved_trans hmov hm1; clear hm1
    obtain ⟨u0, u1, u2, u3, u4⟩ := Condition.one_cells hX
    have hfz := Own.frozen_ hX rfl 3
    have hbs := (Below.refl w.heap.size w1).setCell (p := ⟨px, 3, none⟩) hle (.int .i64 y)
    have hR := own_grown hR (moved_set (g := px) (j := 3) (u := .int .i64 y) (moved_refl w1 px)) (.inl (by intro e; injection e with e; exact hne e.symm))
    have hcur := hcur.step hg0 hbs; have hmov := moved_step hmov hbs; clear hbs
    go_wp2_with (first | (with_reducible show wpList _ _ _ (⟨none, _, _, _, _, _⟩ :: _) _ _; refine wpList_store_mid rfl 26 (.tmp 4) (.tmp 52) rfl w.heap.size 0 _ rfl rfl (Own.there_ hR rfl (by simp)) (by kernel_rfl) (by simp [Value.oneCell']) ?_))
    have hRf := Own.set_ Condition.enc_len hR rfl (k := 0) (by simp) (⟨number, s0, x2, y, x4⟩ : Condition)
    have hbs := below_setCells w.heap.size (Nat.le_refl _) (Condition.enc ⟨number, s0, x2, y, x4⟩) (0 * 5) _ (Below.refl w.heap.size (w1.setCell ⟨px, 3, none⟩ (.int .i64 y)))
    have hh := Condition.one_heap hRf
    refine bodyPost_ret (results_cell_row rfl _ _ w.heap.size 26 _ (0, 0) _ rfl hh Try.underlying26 rfl (by kernel_rfl)) rfl ?_
    exact ⟨⟨number, s0, x2, y, x4⟩, rfl, ok_s0, (hcur.step hg0 hbs).mono (by omega), moved_step hmov hbs⟩
  by_cases y4 : y = 4
  · subst y4
    go_wp2_with fail
    refine (among_lit B g _ _ _ _ _ _ (by simp [intOf]) (by rfl) (by first | rfl | simp) (by omega) (by omega) (by assumption) (by omega)).mono ?_
    rintro e w1 ⟨y, rfl, hx_y, hcur, hm1⟩
    have hR := own_moved hm1 hg0 hR
    have hX := own_moved hm1 hg0 hX
    have hmov := moved_trans hmov hm1; clear hm1
    obtain ⟨u0, u1, u2, u3, u4⟩ := Condition.one_cells hX
    have hfz := Own.frozen_ hX rfl 4
    have hbs := (Below.refl w.heap.size w1).setCell (p := ⟨px, 4, none⟩) hle (.int .i64 y)
    have hR := own_grown hR (moved_set (g := px) (j := 4) (u := .int .i64 y) (moved_refl w1 px)) (.inl (by intro e; injection e with e; exact hne e.symm))
    have hcur := hcur.step hg0 hbs; have hmov := moved_step hmov hbs; clear hbs
    go_wp2_with (first | (with_reducible show wpList _ _ _ (⟨none, _, _, _, _, _⟩ :: _) _ _; refine wpList_store_mid rfl 26 (.tmp 4) (.tmp 52) rfl w.heap.size 0 _ rfl rfl (Own.there_ hR rfl (by simp)) (by kernel_rfl) (by simp [Value.oneCell']) ?_))
    have hRf := Own.set_ Condition.enc_len hR rfl (k := 0) (by simp) (⟨number, s0, x2, x3, y⟩ : Condition)
    have hbs := below_setCells w.heap.size (Nat.le_refl _) (Condition.enc ⟨number, s0, x2, x3, y⟩) (0 * 5) _ (Below.refl w.heap.size (w1.setCell ⟨px, 4, none⟩ (.int .i64 y)))
    have hh := Condition.one_heap hRf
    refine bodyPost_ret (results_cell_row rfl _ _ w.heap.size 26 _ (0, 0) _ rfl hh Try.underlying26 rfl (by kernel_rfl)) rfl ?_
    exact ⟨⟨number, s0, x2, x3, y⟩, rfl, ok_s0, (hcur.step hg0 hbs).mono (by omega), moved_step hmov hbs⟩
  have e0 : (y == 0) = false := by simpa using y0
  have e1 : (y == 1) = false := by simpa using y1
  have e2 : (y == 2) = false := by simpa using y2
  have e3 : (y == 3) = false := by simpa using y3
  have e4 : (y == 4) = false := by simpa using y4
  clear y0 y1 y2 y3 y4
  obtain ⟨u0, u1, u2, u3, u4⟩ := Condition.one_cells hX
  go_wp2_with (first | (with_reducible show wpList _ _ _ (⟨none, _, _, _, _, _⟩ :: _) _ _; refine wpList_store_mid rfl 26 (.tmp 4) (.tmp 52) rfl w.heap.size 0 _ rfl rfl (Own.there_ hR rfl (by simp)) (by kernel_rfl) (by simp [Value.oneCell']) ?_))
  have hRf := Own.set_ Condition.enc_len hR rfl (k := 0) (by simp) (⟨number, s0, x2, x3, x4⟩ : Condition)
  have hbs := below_setCells w.heap.size (Nat.le_refl _) (Condition.enc ⟨number, s0, x2, x3, x4⟩) (0 * 5) _ (Below.refl w.heap.size w1)
  have hh := Condition.one_heap hRf
  refine bodyPost_ret (results_cell_row rfl _ _ w.heap.size 26 _ (0, 0) _ rfl hh Try.underlying26 rfl (by kernel_rfl)) rfl ?_
  exact ⟨⟨number, s0, x2, x3, x4⟩, rfl, ok_s0, (hcur.step hg0 hbs).mono (by omega), moved_step hmov hbs⟩
theorem okpush {L : List Condition} {c : Condition} (h : ∀ x ∈ L, x.Ok) (hc : c.Ok) : ∀ x ∈ L ++ [c], x.Ok := fun x hx => by
  rcases List.mem_append.1 hx with h1 | h1
  · exact h x h1
  · simp at h1; subst h1; exact hc
def GoodCons (L : List Condition) : Prop := (∀ c ∈ L, c.Ok) ∧ L.length ≤ 40
set_option maxRecDepth 100000 in
set_option maxHeartbeats 4000000 in
theorem conditions_any (B g K : Nat) (w : World) (h0 : Cur B w g K) (hK : K ≤ 90000) :
    Calls Try.prog 64 #[.pointer (some ⟨g, 0, none⟩)] w (ListPost Condition.enc 5 26 GoodCons B g (K + 300) w) := by
  have hg0 := h0.lt
  have hb0 : Below w.heap.size w (w.alloc (.cells #[] 26)) := (Below.refl _ _).alloc (Nat.le_refl _) _
  have hown : Own Condition.enc 5 26 w.heap.size (w.alloc (.cells #[] 26)) (.slice (some ⟨w.heap.size, 0, none⟩) 0 0) ([] : List Condition) := own_empty (Nat.le_refl _)
  have hmov : w.grownBy (w.alloc (.cells #[] 26)) (some g) := moved_below hb0
  have hcur := h0.below hb0
  clear hb0 h0
  go_enter Try.func64, Try.ntmps64
  go_wp2_with fail
  refine (pick_any B g _ _ _ (by assumption) (by omega) (by omega) (by omega)).mono ?_
  rintro e w1 ⟨j, rfl, hx_j, hcur, hm1⟩
  have hown := own_moved hm1 hg0 hown
  have hmov := moved_trans hmov hm1; clear hm1
  go_wp2_with fail
  go_loopw [3, 4, 5] (fun l t n wr => ∃ (A : Option Addr) (cap z : Nat) (L : List Condition) (tm : Int) (m : Nat), l = .slice A z cap ∧ L.length = z ∧ t = .int .i64 tm ∧ n = .int .i64 m ∧ z + m ≤ 6 ∧ (∀ c ∈ L, c.Ok) ∧ Own Condition.enc 5 26 w.heap.size wr (.slice A z cap) L ∧ Cur B wr g (K + 2 + 20 * z) ∧ w.grownBy wr (some g)) (fun _ _ n _ => (intOf n).toNat)
  case atStart => exact ⟨_, _, _, [], 0, j, rfl, rfl, rfl, rfl, by omega, (fun c hc => by cases hc), hown, hcur.mono (by omega), hmov⟩
  case round =>
    clear hown hcur hmov hx_j
    obtain ⟨A, cap, z, L, tm, m, rfl, hL, rfl, rfl, hm, hok, hown, hcur, hmov⟩ := hrel
    subst hL
    by_cases h0 : m = 0
    · subst h0
      have hz : ((0 : Nat) : Int) = 0 := rfl
      rw [hz]
      go_wp2_with fail
      refine (one_any B g _ _ _ (by assumption) (by omega) (by omega) (by omega)).mono ?_
      rintro e w1 ⟨q, rfl, hcur, hm1⟩
      have hown := own_moved hm1 hg0 hown
      have hmov := moved_trans hmov hm1; clear hm1
      cases q
      · go_wp2_with fail
        go_ret
        exact ⟨_, _, _, _, rfl, rfl, hown, ⟨hok, by omega⟩, hcur.mono (by omega), hmov⟩
      · go_wp2_with fail
        go_loopw [3, 4] (fun l t wr => ∃ (A : Option Addr) (cap z : Nat) (L : List Condition) (tm : Int), l = .slice A z cap ∧ L.length = z ∧ t = .int .i64 tm ∧ z ≤ 13 ∧ (∀ c ∈ L, c.Ok) ∧ Own Condition.enc 5 26 w.heap.size wr (.slice A z cap) L ∧ Cur B wr g (K + 200 + z) ∧ w.grownBy wr (some g)) (fun l _ _ => 20 - lenOf l)
        case atStart => exact ⟨_, _, _, _, tm, rfl, rfl, rfl, by omega, hok, hown, hcur.mono (by omega), hmov⟩
        case round =>
          clear hown hcur hmov hok
          obtain ⟨A, cap, z, L, tm, rfl, hL, rfl, hz2, hok, hown, hcur, hmov⟩ := hrel
          subst hL
          go_wp2_with (first | (go_at_call 67; refine (pick_any B g _ _ _ (by assumption) (by omega) (by omega) (by omega)).mono ?_; rintro e w1 ⟨j, rfl, hj, hcur, hm1⟩; have hown := own_moved hm1 hg0 hown; have hmov := moved_trans hmov hm1; clear hm1) | (at_builtin; refine wpList_push _ rfl (.tmp 48) (.tmp 51) 32 26 rfl Try.underlying32 Condition.infoE rfl (by omega) (by omega) Condition.enc_len Condition.enc_one w.heap.size _ _ _ ⟨_, _, _, _, _⟩ _ rfl rfl _ rfl rfl hown hmov.size (by omega) ?_; intro A5 cap5 w5 ho5 hb5; have hown := ho5; have hcur := hcur.step hg0 hb5; have hmov := moved_step hmov hb5; clear ho5 hb5))
          · go_roundw
            case rel => exact ⟨_, _, _, _, _, rfl, by simp, rfl, by omega, okpush hok (c := ⟨_, ⟨#[120]⟩, 5, 0, 1⟩) (show (1 : Nat) ≤ maxLen by unfold maxLen; omega), hown, hcur.mono (by omega), hmov⟩
            case measure => simp [lenOf] <;> omega
          · go_ret
            exact ⟨_, _, _, _, rfl, rfl, hown, ⟨hok, by omega⟩, hcur.mono (by omega), hmov⟩
    · obtain ⟨q, rfl⟩ : ∃ q, m = q + 1 := ⟨m - 1, by omega⟩
      have hq : (0 : Int) < ((q + 1 : Nat) : Int) := by omega
      go_wp2_with fail
      refine (pick_any B g _ _ _ (by assumption) (by omega) (by omega) (by omega)).mono ?_
      rintro e w1 ⟨j1, rfl, hx_j1, hcur, hm1⟩
      have hown := own_moved hm1 hg0 hown
      have hmov := moved_trans hmov hm1; clear hm1
      go_wp2_with fail
      refine (pick_any B g _ _ _ (by assumption) (by omega) (by omega) (by omega)).mono ?_
      rintro e w1 ⟨j2, rfl, hx_j2, hcur, hm1⟩
      have hown := own_moved hm1 hg0 hown
      have hmov := moved_trans hmov hm1; clear hm1
      go_wp2_with fail
      refine (condition_any B g _ _ _ (by assumption) (by omega)).mono ?_
      rintro e w1 ⟨c, rfl, hco, hcur, hm1⟩
      have hown := own_moved hm1 hg0 hown
      have hmov := moved_trans hmov hm1; clear hm1
      go_upto_region 8 with fail
      have hb1 : Below w1.heap.size w1 (w1.alloc (.cells #[.int .i64 c.number, .string c.what, .int .i64 c.every, .int .i64 c.last, .int .i64 c.grade] 26)) := (Below.refl _ _).alloc (Nat.le_refl _) _
      have hX : Own Condition.enc 5 26 w.heap.size (w1.alloc (.cells #[.int .i64 c.number, .string c.what, .int .i64 c.every, .int .i64 c.last, .int .i64 c.grade] 26)) (.slice (some ⟨w1.heap.size, 0, none⟩) 1 1) [c] := World.ownsRow_lit (e := 26) (size := 5) w1 #[.int .i64 c.number, .string c.what, .int .i64 c.every, .int .i64 c.last, .int .i64 c.grade] 1 hmov.size (by decide) rfl
      have hle : w.heap.size ≤ w1.heap.size := hmov.size
      have hown1 := hown
      have hown := Own.below hown hb1; have hcur := hcur.below hb1; have hmov := moved_then hmov hb1
      clear hb1
      have hne : ∀ p, (Value.slice A L.length cap).ownBlock = some p → p ≠ w1.heap.size := fun p hp => Nat.ne_of_lt (hown1.lt p hp).2
      clear hown1
      generalize (w1.alloc (.cells #[.int .i64 c.number, .string c.what, .int .i64 c.every, .int .i64 c.last, .int .i64 c.grade] 26)) = wx at *
      generalize w1.heap.size = px at *
      obtain ⟨u0, u1, u2, u3, u4⟩ := Condition.one_cells hX
      cases hb5 : (c.grade == 5)
      · go_wp2_with (first | (at_builtin; refine wpList_push _ rfl (.tmp 34) (.tmp 36) 32 26 rfl Try.underlying32 Condition.infoE rfl (by omega) (by omega) Condition.enc_len Condition.enc_one w.heap.size _ _ _ ⟨_, _, _, _, _⟩ _ rfl rfl _ rfl rfl hown hmov.size (by omega) ?_; intro A5 cap5 w5 ho5 hb5; have hown := ho5; have hcur := hcur.step hg0 hb5; have hmov := moved_step hmov hb5; clear ho5 hb5))
        go_roundw
        case rel => exact ⟨_, _, _, _, _, q, rfl, by simp, rfl, in_eq (by omega), by omega, okpush hok hco, hown, hcur.mono (by omega), hmov⟩
        case measure => simp [intOf] <;> omega
      · go_wp2_with fail
        refine (one_any B g _ _ _ (by assumption) (by omega) (by omega) (by omega)).mono ?_
        rintro e w1 ⟨r, rfl, hcur, hm1⟩
        have hown := own_moved hm1 hg0 hown; have hX := own_moved hm1 hg0 hX
        have hmov := moved_trans hmov hm1; clear hm1
        clear u0 u1 u2 u3 u4
        obtain ⟨u0, u1, u2, u3, u4⟩ := Condition.one_cells hX
        cases r
        · go_wp2_with (first | (at_builtin; refine wpList_push _ rfl (.tmp 34) (.tmp 36) 32 26 rfl Try.underlying32 Condition.infoE rfl (by omega) (by omega) Condition.enc_len Condition.enc_one w.heap.size _ _ _ ⟨_, _, _, _, _⟩ _ rfl rfl _ rfl rfl hown hmov.size (by omega) ?_; intro A5 cap5 w5 ho5 hb5; have hown := ho5; have hcur := hcur.step hg0 hb5; have hmov := moved_step hmov hb5; clear ho5 hb5))
          go_roundw
          case rel => exact ⟨_, _, _, _, _, q, rfl, by simp, rfl, in_eq (by omega), by omega, okpush hok hco, hown, hcur.mono (by omega), hmov⟩
          case measure => simp [intOf] <;> omega
        · have hfz := Own.frozen_ hX rfl 4
          have hbs := (Below.refl w.heap.size w1).setCell (p := ⟨px, 4, none⟩) hle (.int .i64 1)
          have hown := own_grown hown (moved_set (g := px) (j := 4) (u := .int .i64 1) (moved_refl w1 px)) (.inl (fun e => hne px e rfl))
          have hXS := Own.set_cell Condition.enc_len hX rfl (k := 0) (j := 4) (c := c) (c' := { c with grade := 1 }) rfl (by omega) (u := .int .i64 1) rfl
          have hcur := hcur.step hg0 hbs; have hmov := moved_step hmov hbs; clear hbs
          go_upto_region 10 with fail
          have hXS : Own Condition.enc 5 26 w.heap.size (w1.setCell ⟨px, 4, none⟩ (.int .i64 1)) (.slice (some ⟨px, 0, none⟩) 1 1) [{ c with grade := 1 }] := hXS
          generalize (w1.setCell ⟨px, 4, none⟩ (.int .i64 1)) = wS at *
          clear u0 u1 u2 u3 u4 hfz hX
          obtain ⟨u0, u1, u2, u3, u4⟩ := Condition.one_cells hXS
          go_wp2_with (first | (at_builtin; refine wpList_push _ rfl (.tmp 34) (.tmp 36) 32 26 rfl Try.underlying32 Condition.infoE rfl (by omega) (by omega) Condition.enc_len Condition.enc_one w.heap.size _ _ _ ⟨c.number, c.what, c.every, c.last, 1⟩ _ rfl rfl _ rfl rfl hown hmov.size (by omega) ?_; intro A5 cap5 w5 ho5 hb5; have hown := ho5; have hcur := hcur.step hg0 hb5; have hmov := moved_step hmov hb5; clear ho5 hb5))
          go_roundw
          case rel => exact ⟨_, _, _, _, _, q, rfl, by simp, rfl, in_eq (by omega), by omega, okpush hok (c := ⟨c.number, c.what, c.every, c.last, 1⟩) hco, hown, hcur.mono (by omega), hmov⟩
          case measure => simp [intOf] <;> omega

theorem among_cut (B g K m n : Nat) (cs : Array Value) (T : TypeId) (W w1 : World) (hcs : ∀ v ∈ cs.toList, v = .int .i64 (intOf v)) (hn : cs.size = n) (hm0 : 0 < m) (hmn : m ≤ n) (hn2 : n ≤ 200) (hg : g < W.heap.size) (hm1 : (W.alloc (.cells cs T)).grownBy w1 (some g)) (h : Cur B w1 g K) (hK : K ≤ 1000000000) :
    Calls Try.prog 65 #[.pointer (some ⟨g, 0, none⟩), .slice (some ⟨W.heap.size, 0, none⟩) m n] w1 (AmongPost B g (K + 1) w1 ((intsOf cs).take m)) := by
  have hln : ((intsOf cs).take m).length = m := by rw [List.length_take, intsOf, List.length_map, Array.length_toList]; omega
  have hA := among_any B g K W.heap.size 0 n ((intsOf cs).take m) w1 h hK (by omega) (by omega) (Nat.ne_of_gt hg) (fun i x hx => by
    rw [List.getElem?_take] at hx
    split at hx
    · exact moved_cell hm1 (Nat.ne_of_gt hg) (lit_at cs hcs W T i x hx)
    · cases hx)
  rw [hln] at hA
  exact hA
theorem day24_any (B g K : Nat) (w : World) (h0 : Cur B w g K) (hK : K ≤ 100000) :
    Calls Try.prog 68 #[.pointer (some ⟨g, 0, none⟩)] w (fun e w' => ∃ x : Int, e = .returned (.int .i64 x) ∧ Cur B w' g (K + 10) ∧ w.grownBy w' (some g)) := by
  have hg0 := h0.lt
  go_enter Try.func68, Try.ntmps68
  go_wp2_with fail
  refine (pick_any B g _ _ _ (h0.below ((Below.refl _ _).alloc (Nat.le_refl _) _)) (by omega) (by omega) (by omega)).mono ?_
  rintro e w1 ⟨j, rfl, hj, hcur, hm1⟩
  go_wp2_with fail
  refine (among_cut B g _ _ _ _ _ _ _ (by simp [intOf]) (by rfl) (by omega) (by omega) (by omega) hg0 hm1 hcur (by omega)).mono ?_
  rintro e w2 ⟨x, rfl, hx, hcur, hm2⟩
  go_wp2_with fail
  go_ret
  exact ⟨x, rfl, hcur.mono (by omega), moved_trans (moved_first ((Below.refl _ _).alloc (Nat.le_refl _) _) hm1) hm2⟩
/- what the laws draw: conditions, and numbers -/
def ConsOf (A : Option Addr) (n c : Nat) (L : List Condition) (w w' : World) : Prop := L.length = n ∧ n ≤ 40 ∧ (A = none → c = 0) ∧ (∀ c ∈ L, c.Ok) ∧ Rd Condition.enc 5 w'.heap.size w' A L ∧ Below w.heap.size w w'
def CDraw (w : World) (e : Ending) (w' : World) : Prop := ∃ (A : Option Addr) (n c : Nat) (L : List Condition), e = .returned (.slice A n c) ∧ ConsOf A n c L w w'
def CxDraw (w : World) (e : Ending) (w' : World) : Prop := ∃ (A : Option Addr) (n c : Nat) (L : List Condition) (x : Int), e = .returned (.tuple #[.slice A n c, .int .i64 x]) ∧ ConsOf A n c L w w'
def CxyzDraw (w : World) (e : Ending) (w' : World) : Prop := ∃ (A : Option Addr) (n c : Nat) (L : List Condition) (x y z : Int), e = .returned (.tuple #[.slice A n c, .int .i64 x, .int .i64 y, .int .i64 z]) ∧ ConsOf A n c L w w'
theorem cons_of {lo n c : Nat} {A : Option Addr} {L : List Condition} {w w' : World} (hL : L.length = n) (h : Own Condition.enc 5 26 lo w' (.slice A n c) L) (hz : GoodCons L) (hb : Below w.heap.size w w') : ConsOf A n c L w w' :=
  ⟨hL, by have := hz.2; omega, own_nilcap h, hz.1, by subst hL; exact own_rdm (fun _ => rfl) h, hb⟩
set_option maxRecDepth 100000 in
set_option maxHeartbeats 2000000 in
theorem DrawAreConditions_any (A : Option Addr) (Lc : List Int) (cap : Nat) (w : World) (hc : CodeIs w A Lc) :
    Calls Try.prog 69 #[.slice A Lc.length cap] w (CDraw w) := by
  have hcur := cur_new hc cap
  have hb0 : Below w.heap.size w (w.alloc (.cells #[.slice A Lc.length cap, .int .i64 0, .int .u64 0] 79)) := (Below.refl _ _).alloc (Nat.le_refl _) _
  have hg0 := hcur.lt
  have HZ0 := hide (show (w.alloc (.cells #[.slice A Lc.length cap, .int .i64 0, .int .u64 0] 79)).heap.size = w.heap.size + 1 by simp)
  go_enter Try.func69, Try.ntmps69
  go_wp2_with fail
  generalize (w.alloc (.cells #[.slice A Lc.length cap, .int .i64 0, .int .u64 0] 79)) = w0 at *
  have HB := hb0; clear hb0
  refine (conditions_any _ _ _ _ (by assumption) (by omega)).mono ?_
  rintro e w1 ⟨AL, cL, nL, L, rfl, hLL, hownL, hzL, hcur, hm⟩
  have HB := HB.trans (below_moved hm (Nat.le_refl _) (by omega)); have hs1 := hm.size; clear hm
  go_wp2_with fail
  go_ret
  exact ⟨_, _, _, _, rfl, cons_of hLL hownL hzL HB⟩
theorem DrawWorstGrade_any (A : Option Addr) (Lc : List Int) (cap : Nat) (w : World) (hc : CodeIs w A Lc) : Calls Try.prog 40 #[.slice A Lc.length cap] w (CDraw w) := by
  go_enter Try.func40, Try.ntmps40
  go_wp2_with fail
  refine (DrawAreConditions_any A Lc cap _ hc).mono ?_
  rintro e w1 ⟨A1, n, c, L, rfl, h⟩
  go_wp2_with fail
  go_ret
  exact ⟨_, _, _, _, rfl, h⟩
set_option maxRecDepth 100000 in
set_option maxHeartbeats 2000000 in
theorem DrawUnmetOn_any (A : Option Addr) (Lc : List Int) (cap : Nat) (w : World) (hc : CodeIs w A Lc) :
    Calls Try.prog 63 #[.slice A Lc.length cap] w (CxDraw w) := by
  have hcur := cur_new hc cap
  have hb0 : Below w.heap.size w (w.alloc (.cells #[.slice A Lc.length cap, .int .i64 0, .int .u64 0] 79)) := (Below.refl _ _).alloc (Nat.le_refl _) _
  have hg0 := hcur.lt
  have HZ0 := hide (show (w.alloc (.cells #[.slice A Lc.length cap, .int .i64 0, .int .u64 0] 79)).heap.size = w.heap.size + 1 by simp)
  go_enter Try.func63, Try.ntmps63
  go_wp2_with fail
  generalize (w.alloc (.cells #[.slice A Lc.length cap, .int .i64 0, .int .u64 0] 79)) = w0 at *
  have HB := hb0; clear hb0
  refine (conditions_any _ _ _ _ (by assumption) (by omega)).mono ?_
  rintro e w1 ⟨AL, cL, nL, L, rfl, hLL, hownL, hzL, hcur, hm⟩
  have HB := HB.trans (below_moved hm (Nat.le_refl _) (by omega)); have hs1 := hm.size; clear hm
  go_wp2_with fail
  refine (day24_any _ _ _ _ (by assumption) (by omega)).mono ?_
  rintro e w2 ⟨x, rfl, hcur, hm⟩
  have hownL := own_moved hm (by omega) hownL; have HB := HB.trans (below_moved hm (Nat.le_refl _) (by omega)); have hsz := hm.size; clear hm
  go_wp2_with fail
  go_ret2
  exact ⟨_, _, _, _, _, rfl, cons_of hLL hownL hzL HB⟩
theorem DrawHoldsUntil_any (A : Option Addr) (Lc : List Int) (cap : Nat) (w : World) (hc : CodeIs w A Lc) : Calls Try.prog 35 #[.slice A Lc.length cap] w (CxDraw w) := by
  go_enter Try.func35, Try.ntmps35
  go_wp2_with fail
  refine (DrawUnmetOn_any A Lc cap _ hc).mono ?_
  rintro e w1 ⟨A1, n, c, L, x, rfl, h⟩
  go_wp2_with fail
  go_ret2
  exact ⟨_, _, _, _, _, rfl, h⟩
set_option maxRecDepth 100000 in
set_option maxHeartbeats 2000000 in
theorem DrawInspectAgain_any (A : Option Addr) (Lc : List Int) (cap : Nat) (w : World) (hc : CodeIs w A Lc) :
    Calls Try.prog 37 #[.slice A Lc.length cap] w (CxyzDraw w) := by
  have hcur := cur_new hc cap
  have hb0 : Below w.heap.size w (w.alloc (.cells #[.slice A Lc.length cap, .int .i64 0, .int .u64 0] 79)) := (Below.refl _ _).alloc (Nat.le_refl _) _
  have hg0 := hcur.lt
  have HZ0 := hide (show (w.alloc (.cells #[.slice A Lc.length cap, .int .i64 0, .int .u64 0] 79)).heap.size = w.heap.size + 1 by simp)
  go_enter Try.func37, Try.ntmps37
  go_wp2_with fail
  generalize (w.alloc (.cells #[.slice A Lc.length cap, .int .i64 0, .int .u64 0] 79)) = w0 at *
  have HB := hb0; clear hb0
  refine (conditions_any _ _ _ _ (by assumption) (by omega)).mono ?_
  rintro e w1 ⟨AL, cL, nL, L, rfl, hLL, hownL, hzL, hcur, hm⟩
  have HB := HB.trans (below_moved hm (Nat.le_refl _) (by omega)); have hs1 := hm.size; clear hm
  go_wp2_with fail
  refine (among_lit _ _ _ _ _ _ _ _ (by simp [intOf]) (by rfl) (by first | rfl | simp) (by omega) (by omega) (by assumption) (by omega)).mono ?_
  rintro e w2 ⟨x, rfl, hx, hcur, hm⟩
  have hownL := own_moved hm (by omega) hownL; have HB := HB.trans (below_moved hm (Nat.le_refl _) (by omega)); have hsz := hm.size; clear hm; clear hx
  by_cases hn : nL = 0
  · subst hn
    go_wp2_with fail
    refine (day24_any _ _ _ _ (by assumption) (by omega)).mono ?_
    rintro e w5 ⟨d, rfl, hcur, hm⟩
    have hownL := own_moved hm (by omega) hownL; have HB := HB.trans (below_moved hm (Nat.le_refl _) (by omega)); have hsz := hm.size; clear hm
    go_wp2_with fail
    refine (pick_any _ _ _ _ _ (hcur.below ((Below.refl _ _).alloc (Nat.le_refl _) _)) (by omega) (by omega) (by omega)).mono ?_
    rintro e w6 ⟨jc, rfl, hjc, hcur, hm6⟩
    have hm := moved_first ((Below.refl _ _).alloc (Nat.le_refl _) _) hm6
    have hs5 := hsz; clear hsz
    have hownL := own_moved hm (by omega) hownL; have HB := HB.trans (below_moved hm (Nat.le_refl _) (by omega)); have hsz := hm.size; clear hm
    go_wp2_with fail
    refine (among_cut _ _ _ _ _ _ _ _ _ (by simp [intOf]) (by rfl) (by omega) (by omega) (by omega) (by omega) hm6 hcur (by omega)).mono ?_
    rintro e w7 ⟨z, rfl, hx, hcur, hm⟩
    have hownL := own_moved hm (by omega) hownL; have HB := HB.trans (below_moved hm (Nat.le_refl _) (by omega)); have hsz := hm.size; clear hm
    go_wp2_with fail
    (try simp only [Exit.inBlock, Exit.then]); refine bodyPost_ret (results_tmp4 rfl _ _ _) rfl ?_
    exact ⟨_, _, _, _, _, _, _, rfl, cons_of hLL hownL hzL HB⟩
  · have hnp : (0 : Int) < (nL : Int) := by omega
    have hn40 : nL ≤ 40 := by have := hzL.2; omega
    go_wp2_with fail
    refine (one_any _ _ _ _ _ (by assumption) (by omega) (by omega) (by omega)).mono ?_
    rintro e w3 ⟨q, rfl, hcur, hm⟩
    have hs2 := hsz; clear hsz
    have hownL := own_moved hm (by omega) hownL; have HB := HB.trans (below_moved hm (Nat.le_refl _) (by omega)); have hsz := hm.size; clear hm
    cases q
    · go_wp2_with fail
      refine (pick_any _ _ _ _ _ (by assumption) (by omega) (by omega) (by omega)).mono ?_
      rintro e w4 ⟨j, rfl, hj, hcur, hm⟩
      have hs3 := hsz; clear hsz
      have hownL := own_moved hm (by omega) hownL; have HB := HB.trans (below_moved hm (Nat.le_refl _) (by omega)); have hsz := hm.size; clear hm
      have hj2 : j < L.length := by omega
      have hj3 : (j : Int) < (nL : Int) := by omega
      obtain ⟨p, rfl, hp0, _⟩ := own_head hownL hLL (by omega)
      have hown2 : Own Condition.enc 5 26 w0.heap.size w4 (.slice (some ⟨p, 0, none⟩) L.length cL) L := by rw [hLL]; exact hownL
      have y := own_cell hown2 (flat_get Condition.enc_len L j _ (List.getElem?_eq_getElem hj2) 0 _ rfl)
      rw [Nat.add_zero] at y
      generalize L[j].number = cn at *
      go_wp2_with fail
      refine (day24_any _ _ _ _ (by assumption) (by omega)).mono ?_
      rintro e w5 ⟨d, rfl, hcur, hm⟩
      have hownL := own_moved hm (by omega) hownL; have HB := HB.trans (below_moved hm (Nat.le_refl _) (by omega)); have hsz := hm.size; clear hm
      go_wp2_with fail
      refine (pick_any _ _ _ _ _ (hcur.below ((Below.refl _ _).alloc (Nat.le_refl _) _)) (by omega) (by omega) (by omega)).mono ?_
      rintro e w6 ⟨jc, rfl, hjc, hcur, hm6⟩
      have hm := moved_first ((Below.refl _ _).alloc (Nat.le_refl _) _) hm6
      have hs5 := hsz; clear hsz
      have hownL := own_moved hm (by omega) hownL; have HB := HB.trans (below_moved hm (Nat.le_refl _) (by omega)); have hsz := hm.size; clear hm
      go_wp2_with fail
      refine (among_cut _ _ _ _ _ _ _ _ _ (by simp [intOf]) (by rfl) (by omega) (by omega) (by omega) (by omega) hm6 hcur (by omega)).mono ?_
      rintro e w7 ⟨z, rfl, hx, hcur, hm⟩
      have hownL := own_moved hm (by omega) hownL; have HB := HB.trans (below_moved hm (Nat.le_refl _) (by omega)); have hsz := hm.size; clear hm
      go_wp2_with fail
      (try simp only [Exit.inBlock, Exit.then]); refine bodyPost_ret (results_tmp4 rfl _ _ _) rfl ?_
      exact ⟨_, _, _, _, _, _, _, rfl, cons_of hLL hownL hzL HB⟩
    · have hs3 := hsz; clear hsz
      have hsz : True := trivial
      go_wp2_with fail
      refine (day24_any _ _ _ _ (by assumption) (by omega)).mono ?_
      rintro e w5 ⟨d, rfl, hcur, hm⟩
      have hownL := own_moved hm (by omega) hownL; have HB := HB.trans (below_moved hm (Nat.le_refl _) (by omega)); have hsz := hm.size; clear hm
      go_wp2_with fail
      refine (pick_any _ _ _ _ _ (hcur.below ((Below.refl _ _).alloc (Nat.le_refl _) _)) (by omega) (by omega) (by omega)).mono ?_
      rintro e w6 ⟨jc, rfl, hjc, hcur, hm6⟩
      have hm := moved_first ((Below.refl _ _).alloc (Nat.le_refl _) _) hm6
      have hs5 := hsz; clear hsz
      have hownL := own_moved hm (by omega) hownL; have HB := HB.trans (below_moved hm (Nat.le_refl _) (by omega)); have hsz := hm.size; clear hm
      go_wp2_with fail
      refine (among_cut _ _ _ _ _ _ _ _ _ (by simp [intOf]) (by rfl) (by omega) (by omega) (by omega) (by omega) hm6 hcur (by omega)).mono ?_
      rintro e w7 ⟨z, rfl, hx, hcur, hm⟩
      have hownL := own_moved hm (by omega) hownL; have HB := HB.trans (below_moved hm (Nat.le_refl _) (by omega)); have hsz := hm.size; clear hm
      go_wp2_with fail
      (try simp only [Exit.inBlock, Exit.then]); refine bodyPost_ret (results_tmp4 rfl _ _ _) rfl ?_
      exact ⟨_, _, _, _, _, _, _, rfl, cons_of hLL hownL hzL HB⟩
end Go.Proofs.Ytknondhdhjegbaa
