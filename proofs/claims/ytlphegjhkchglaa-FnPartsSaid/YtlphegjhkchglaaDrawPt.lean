/- The drawers of chapter 23: a part, parts, a part's name. -/
import Derived.Test.YtlphegjhkchglaaRowI
import Derived.Test.YtlphegjhkchglaaLibPart
import Derived.Test.YtlphegjhkchglaaDel
import Derived.Deep.DeepCutAuto
import Derived.Laws.IdiomStrings
namespace Go.Proofs.Ytlphegjhkchglaa
open Go Go.RowKit
set_option linter.unusedVariables false
set_option linter.unusedSimpArgs false
theorem of_ok {cs : Array Value} (h : ((strsOf cs).all fun x => decide (x.size ≤ maxLen)) = true) {x : ByteArray} (hx : x ∈ strsOf cs) : x.size ≤ maxLen := by
  have := List.all_eq_true.1 h x hx
  simpa using this
theorem Part.drw_cells {lo p : Nat} {w : World} {c : Part} (h : Own Part.enc 5 62 lo w (.slice (some ⟨p, 0, none⟩) 1 1) [c]) : w.cell? ⟨p, 0, none⟩ = some (.string c.name) ∧ w.cell? ⟨p, 1, none⟩ = some (.int .i64 c.have_) ∧ w.cell? ⟨p, 2, none⟩ = some (.int .i64 c.least) ∧ w.cell? ⟨p, 3, none⟩ = some (.int .i64 c.lead) ∧ w.cell? ⟨p, 4, none⟩ = some (.int .i64 c.price) :=
  ⟨own_cell h (flat_get Part.enc_len [c] 0 c rfl 0 _ rfl), own_cell h (flat_get Part.enc_len [c] 0 c rfl 1 _ rfl), own_cell h (flat_get Part.enc_len [c] 0 c rfl 2 _ rfl), own_cell h (flat_get Part.enc_len [c] 0 c rfl 3 _ rfl), own_cell h (flat_get Part.enc_len [c] 0 c rfl 4 _ rfl)⟩
theorem Part.drw_heap {lo p : Nat} {w : World} {c : Part} (h : Own Part.enc 5 62 lo w (.slice (some ⟨p, 0, none⟩) 1 1) [c]) : w.heap[p]? = some (.cells #[.string c.name, .int .i64 c.have_, .int .i64 c.least, .int .i64 c.lead, .int .i64 c.price] 62 (0, 0)) := by
  rcases h.2 with ⟨hv, _⟩ | ⟨g, c2, cur, hv, _, hh, _, _, hsz, htk⟩
  · cases hv
  · cases hv
    rw [hh]
    have e : cur.toList = Part.enc c := by
      have e2 : cur.toList.take (1 * 5) = [c].flatMap Part.enc := htk
      rw [List.take_of_length_le (by rw [Array.length_toList]; omega)] at e2
      rw [e2]; simp
    have e3 : cur = #[.string c.name, .int .i64 c.have_, .int .i64 c.least, .int .i64 c.lead, .int .i64 c.price] := by rw [← Array.toArray_toList (xs := cur), e]; rfl
    rw [e3]
def encT (s : ByteArray) : List Value := [.string s]
theorem encT_len (s : ByteArray) : (encT s).length = 1 := rfl
def PartPost (B g K : Nat) (w : World) (e : Ending) (w' : World) : Prop := ∃ c : Part, e = .returned (.agg #[.string c.name, .int .i64 c.have_, .int .i64 c.least, .int .i64 c.lead, .int .i64 c.price]) ∧ c.Ok ∧ Cur B w' g K ∧ w.grownBy w' (some g)
set_option maxRecDepth 100000 in
set_option maxHeartbeats 4000000 in
theorem part_any (B g K : Nat) (name : ByteArray) (hn : name.size ≤ maxLen) (w : World) (h0 : Cur B w g K) (hK : K ≤ 100000) :
    Calls Try.prog 88 #[.pointer (some ⟨g, 0, none⟩), .string name] w (PartPost B g (K + 10) w) := by
  have hg0 := h0.lt
  have hb0 : Below w.heap.size w (w.alloc (.cells #[.string ⟨#[]⟩, .int .i64 0, .int .i64 0, .int .i64 0, .int .i64 0] 62)) := (Below.refl _ _).alloc (Nat.le_refl _) _
  have hR : Own Part.enc 5 62 w.heap.size (w.alloc (.cells #[.string ⟨#[]⟩, .int .i64 0, .int .i64 0, .int .i64 0, .int .i64 0] 62)) (.slice (some ⟨w.heap.size, 0, none⟩) 1 1) [(⟨⟨#[]⟩, 0, 0, 0, 0⟩ : Part)] := World.ownsRow_lit (e := 62) (size := 5) w #[.string ⟨#[]⟩, .int .i64 0, .int .i64 0, .int .i64 0, .int .i64 0] 1 (Nat.le_refl _) (by decide) rfl
  have hmov : w.grownBy (w.alloc (.cells #[.string ⟨#[]⟩, .int .i64 0, .int .i64 0, .int .i64 0, .int .i64 0] 62)) (some g) := moved_below hb0
  have hcur := h0.below hb0
  clear hb0 h0
  have HN := hide hn; clear hn
  go_enter Try.func88, Try.ntmps88
  go_wp2_with fail
  refine (among_lit B g _ _ _ _ _ _ (by simp [intOf]) (by rfl) (by first | rfl | simp) (by omega) (by omega) (by assumption) (by omega)).mono ?_
  rintro e w1 ⟨x1, rfl, hx_x1, hcur, hm1⟩
  have hR := own_moved hm1 hg0 hR
  have hmov := moved_trans hmov hm1; clear hm1
  go_wp2_with fail
  refine (among_lit B g _ _ _ _ _ _ (by simp [intOf]) (by rfl) (by first | rfl | simp) (by omega) (by omega) (by assumption) (by omega)).mono ?_
  rintro e w1 ⟨x2, rfl, hx_x2, hcur, hm1⟩
  have hR := own_moved hm1 hg0 hR
  have hmov := moved_trans hmov hm1; clear hm1
  go_wp2_with fail
  refine (among_lit B g _ _ _ _ _ _ (by simp [intOf]) (by rfl) (by first | rfl | simp) (by omega) (by omega) (by assumption) (by omega)).mono ?_
  rintro e w1 ⟨x3, rfl, hx_x3, hcur, hm1⟩
  have hR := own_moved hm1 hg0 hR
  have hmov := moved_trans hmov hm1; clear hm1
  go_wp2_with fail
  refine (among_lit B g _ _ _ _ _ _ (by simp [intOf]) (by rfl) (by first | rfl | simp) (by omega) (by omega) (by assumption) (by omega)).mono ?_
  rintro e w1 ⟨x4, rfl, hx_x4, hcur, hm1⟩
  have hR := own_moved hm1 hg0 hR
  have hmov := moved_trans hmov hm1; clear hm1
  clear hx_x1 hx_x2 hx_x3 hx_x4
  go_wp2_with fail
  have hb1 : Below w1.heap.size w1 (w1.alloc (.cells #[.string name, .int .i64 x1, .int .i64 x2, .int .i64 x3, .int .i64 x4] 62)) := (Below.refl _ _).alloc (Nat.le_refl _) _
  have hX : Own Part.enc 5 62 w.heap.size (w1.alloc (.cells #[.string name, .int .i64 x1, .int .i64 x2, .int .i64 x3, .int .i64 x4] 62)) (.slice (some ⟨w1.heap.size, 0, none⟩) 1 1) [(⟨name, x1, x2, x3, x4⟩ : Part)] := World.ownsRow_lit (e := 62) (size := 5) w1 #[.string name, .int .i64 x1, .int .i64 x2, .int .i64 x3, .int .i64 x4] 1 hmov.size (by decide) rfl
  have hne : w1.heap.size ≠ w.heap.size := Nat.ne_of_gt (hR.lt _ rfl).2
  have hle : w.heap.size ≤ w1.heap.size := hmov.size
  have hR := Own.below hR hb1; have hcur := hcur.below hb1; have hmov := moved_then hmov hb1
  clear hb1
  generalize (w1.alloc (.cells #[.string name, .int .i64 x1, .int .i64 x2, .int .i64 x3, .int .i64 x4] 62)) = wx at *
  generalize w1.heap.size = px at *
  refine (pick_any B g _ _ _ (by assumption) (by omega) (by omega) (by omega)).mono ?_
  rintro e w1 ⟨j, rfl, hj, hcur, hm1⟩
  obtain ⟨y, hy⟩ : ∃ y : Int, y = (j : Int) := ⟨_, rfl⟩
  have hR := own_moved hm1 hg0 hR
  have hX := own_moved hm1 hg0 hX
  have hmov := moved_trans hmov hm1
  rw [← hy]; clear hm1 hj hy
  by_cases y0 : y = 0
  · subst y0
    go_wp2_with fail
    refine (of_lit B g _ _ _ _ _ _ (by simp [strOf]) (by rfl) (by simp) (by omega) (by omega) (by assumption) (by omega)).mono ?_
    rintro e w1 ⟨y, rfl, hx_y, hcur, hm1⟩
    have hR := own_moved hm1 hg0 hR
    have hX := own_moved hm1 hg0 hX
    have hmov := moved_trans hmov hm1; clear hm1
    have ok_y := of_ok (by rfl) hx_y; clear hx_y
    obtain ⟨u0, u1, u2, u3, u4⟩ := Part.drw_cells hX
    have hfz := Own.frozen_ hX rfl 0
    have hbs := (Below.refl w.heap.size w1).setCell (p := ⟨px, 0, none⟩) hle (.string y)
    have hR := own_grown hR (moved_set (g := px) (j := 0) (u := .string y) (moved_refl w1 px)) (.inl (by intro e; injection e with e; exact hne e.symm))
    have hcur := hcur.step hg0 hbs; have hmov := moved_step hmov hbs; clear hbs
    go_wp2_with (first | (with_reducible show wpList _ _ _ (⟨none, _, _, _, _, _⟩ :: _) _ _; refine wpList_store_mid rfl 62 (.tmp 4) (.tmp 52) rfl w.heap.size 0 _ rfl rfl (Own.there_ hR rfl (by simp)) (by kernel_rfl) (by simp [Value.oneCell']) ?_))
    have hRf := Own.set_ Part.enc_len hR rfl (k := 0) (by simp) (⟨y, x1, x2, x3, x4⟩ : Part)
    have hbs := below_setCells w.heap.size (Nat.le_refl _) (Part.enc ⟨y, x1, x2, x3, x4⟩) (0 * 5) _ (Below.refl w.heap.size (w1.setCell ⟨px, 0, none⟩ (.string y)))
    have hh := Part.drw_heap hRf
    refine bodyPost_ret (results_cell_row rfl _ _ w.heap.size 62 _ (0, 0) _ rfl hh Try.underlying62 rfl (by kernel_rfl)) rfl ?_
    exact ⟨⟨y, x1, x2, x3, x4⟩, rfl, ok_y, (hcur.step hg0 hbs).mono (by omega), moved_step hmov hbs⟩
  by_cases y1 : y = 1
  · subst y1
    go_wp2_with fail
    refine (among_lit B g _ _ _ _ _ _ (by simp [intOf]) (by rfl) (by first | rfl | simp) (by omega) (by omega) (by assumption) (by omega)).mono ?_
    rintro e w1 ⟨y, rfl, hx_y, hcur, hm1⟩
    have hR := own_moved hm1 hg0 hR
    have hX := own_moved hm1 hg0 hX
    have hmov := moved_trans hmov hm1; clear hm1
    obtain ⟨u0, u1, u2, u3, u4⟩ := Part.drw_cells hX
    have hfz := Own.frozen_ hX rfl 1
    have hbs := (Below.refl w.heap.size w1).setCell (p := ⟨px, 1, none⟩) hle (.int .i64 y)
    have hR := own_grown hR (moved_set (g := px) (j := 1) (u := .int .i64 y) (moved_refl w1 px)) (.inl (by intro e; injection e with e; exact hne e.symm))
    have hcur := hcur.step hg0 hbs; have hmov := moved_step hmov hbs; clear hbs
    go_wp2_with (first | (with_reducible show wpList _ _ _ (⟨none, _, _, _, _, _⟩ :: _) _ _; refine wpList_store_mid rfl 62 (.tmp 4) (.tmp 52) rfl w.heap.size 0 _ rfl rfl (Own.there_ hR rfl (by simp)) (by kernel_rfl) (by simp [Value.oneCell']) ?_))
    have hRf := Own.set_ Part.enc_len hR rfl (k := 0) (by simp) (⟨name, y, x2, x3, x4⟩ : Part)
    have hbs := below_setCells w.heap.size (Nat.le_refl _) (Part.enc ⟨name, y, x2, x3, x4⟩) (0 * 5) _ (Below.refl w.heap.size (w1.setCell ⟨px, 1, none⟩ (.int .i64 y)))
    have hh := Part.drw_heap hRf
    refine bodyPost_ret (results_cell_row rfl _ _ w.heap.size 62 _ (0, 0) _ rfl hh Try.underlying62 rfl (by kernel_rfl)) rfl ?_
    exact ⟨⟨name, y, x2, x3, x4⟩, rfl, HN.out, (hcur.step hg0 hbs).mono (by omega), moved_step hmov hbs⟩
  by_cases y2 : y = 2
  · subst y2
    go_wp2_with fail
    refine (among_lit B g _ _ _ _ _ _ (by simp [intOf]) (by rfl) (by first | rfl | simp) (by omega) (by omega) (by assumption) (by omega)).mono ?_
    rintro e w1 ⟨y, rfl, hx_y, hcur, hm1⟩
    have hR := own_moved hm1 hg0 hR
    have hX := own_moved hm1 hg0 hX
    have hmov := moved_trans hmov hm1; clear hm1
    obtain ⟨u0, u1, u2, u3, u4⟩ := Part.drw_cells hX
    have hfz := Own.frozen_ hX rfl 2
    have hbs := (Below.refl w.heap.size w1).setCell (p := ⟨px, 2, none⟩) hle (.int .i64 y)
    have hR := own_grown hR (moved_set (g := px) (j := 2) (u := .int .i64 y) (moved_refl w1 px)) (.inl (by intro e; injection e with e; exact hne e.symm))
    have hcur := hcur.step hg0 hbs; have hmov := moved_step hmov hbs; clear hbs
    go_wp2_with (first | (with_reducible show wpList _ _ _ (⟨none, _, _, _, _, _⟩ :: _) _ _; refine wpList_store_mid rfl 62 (.tmp 4) (.tmp 52) rfl w.heap.size 0 _ rfl rfl (Own.there_ hR rfl (by simp)) (by kernel_rfl) (by simp [Value.oneCell']) ?_))
    have hRf := Own.set_ Part.enc_len hR rfl (k := 0) (by simp) (⟨name, x1, y, x3, x4⟩ : Part)
    have hbs := below_setCells w.heap.size (Nat.le_refl _) (Part.enc ⟨name, x1, y, x3, x4⟩) (0 * 5) _ (Below.refl w.heap.size (w1.setCell ⟨px, 2, none⟩ (.int .i64 y)))
    have hh := Part.drw_heap hRf
    refine bodyPost_ret (results_cell_row rfl _ _ w.heap.size 62 _ (0, 0) _ rfl hh Try.underlying62 rfl (by kernel_rfl)) rfl ?_
    exact ⟨⟨name, x1, y, x3, x4⟩, rfl, HN.out, (hcur.step hg0 hbs).mono (by omega), moved_step hmov hbs⟩
  by_cases y3 : y = 3
  · subst y3
    go_wp2_with fail
    refine (among_lit B g _ _ _ _ _ _ (by simp [intOf]) (by rfl) (by first | rfl | simp) (by omega) (by omega) (by assumption) (by omega)).mono ?_
    rintro e w1 ⟨y, rfl, hx_y, hcur, hm1⟩
    have hR := own_moved hm1 hg0 hR
    have hX := own_moved hm1 hg0 hX
    have hmov := moved_trans hmov hm1; clear hm1
    obtain ⟨u0, u1, u2, u3, u4⟩ := Part.drw_cells hX
    have hfz := Own.frozen_ hX rfl 3
    have hbs := (Below.refl w.heap.size w1).setCell (p := ⟨px, 3, none⟩) hle (.int .i64 y)
    have hR := own_grown hR (moved_set (g := px) (j := 3) (u := .int .i64 y) (moved_refl w1 px)) (.inl (by intro e; injection e with e; exact hne e.symm))
    have hcur := hcur.step hg0 hbs; have hmov := moved_step hmov hbs; clear hbs
    go_wp2_with (first | (with_reducible show wpList _ _ _ (⟨none, _, _, _, _, _⟩ :: _) _ _; refine wpList_store_mid rfl 62 (.tmp 4) (.tmp 52) rfl w.heap.size 0 _ rfl rfl (Own.there_ hR rfl (by simp)) (by kernel_rfl) (by simp [Value.oneCell']) ?_))
    have hRf := Own.set_ Part.enc_len hR rfl (k := 0) (by simp) (⟨name, x1, x2, y, x4⟩ : Part)
    have hbs := below_setCells w.heap.size (Nat.le_refl _) (Part.enc ⟨name, x1, x2, y, x4⟩) (0 * 5) _ (Below.refl w.heap.size (w1.setCell ⟨px, 3, none⟩ (.int .i64 y)))
    have hh := Part.drw_heap hRf
    refine bodyPost_ret (results_cell_row rfl _ _ w.heap.size 62 _ (0, 0) _ rfl hh Try.underlying62 rfl (by kernel_rfl)) rfl ?_
    exact ⟨⟨name, x1, x2, y, x4⟩, rfl, HN.out, (hcur.step hg0 hbs).mono (by omega), moved_step hmov hbs⟩
  by_cases y4 : y = 4
  · subst y4
    go_wp2_with fail
    refine (among_lit B g _ _ _ _ _ _ (by simp [intOf]) (by rfl) (by first | rfl | simp) (by omega) (by omega) (by assumption) (by omega)).mono ?_
    rintro e w1 ⟨y, rfl, hx_y, hcur, hm1⟩
    have hR := own_moved hm1 hg0 hR
    have hX := own_moved hm1 hg0 hX
    have hmov := moved_trans hmov hm1; clear hm1
    obtain ⟨u0, u1, u2, u3, u4⟩ := Part.drw_cells hX
    have hfz := Own.frozen_ hX rfl 4
    have hbs := (Below.refl w.heap.size w1).setCell (p := ⟨px, 4, none⟩) hle (.int .i64 y)
    have hR := own_grown hR (moved_set (g := px) (j := 4) (u := .int .i64 y) (moved_refl w1 px)) (.inl (by intro e; injection e with e; exact hne e.symm))
    have hcur := hcur.step hg0 hbs; have hmov := moved_step hmov hbs; clear hbs
    go_wp2_with (first | (with_reducible show wpList _ _ _ (⟨none, _, _, _, _, _⟩ :: _) _ _; refine wpList_store_mid rfl 62 (.tmp 4) (.tmp 52) rfl w.heap.size 0 _ rfl rfl (Own.there_ hR rfl (by simp)) (by kernel_rfl) (by simp [Value.oneCell']) ?_))
    have hRf := Own.set_ Part.enc_len hR rfl (k := 0) (by simp) (⟨name, x1, x2, x3, y⟩ : Part)
    have hbs := below_setCells w.heap.size (Nat.le_refl _) (Part.enc ⟨name, x1, x2, x3, y⟩) (0 * 5) _ (Below.refl w.heap.size (w1.setCell ⟨px, 4, none⟩ (.int .i64 y)))
    have hh := Part.drw_heap hRf
    refine bodyPost_ret (results_cell_row rfl _ _ w.heap.size 62 _ (0, 0) _ rfl hh Try.underlying62 rfl (by kernel_rfl)) rfl ?_
    exact ⟨⟨name, x1, x2, x3, y⟩, rfl, HN.out, (hcur.step hg0 hbs).mono (by omega), moved_step hmov hbs⟩
  have e0 : (y == 0) = false := by simpa using y0
  have e1 : (y == 1) = false := by simpa using y1
  have e2 : (y == 2) = false := by simpa using y2
  have e3 : (y == 3) = false := by simpa using y3
  have e4 : (y == 4) = false := by simpa using y4
  clear y0 y1 y2 y3 y4
  obtain ⟨u0, u1, u2, u3, u4⟩ := Part.drw_cells hX
  go_wp2_with (first | (with_reducible show wpList _ _ _ (⟨none, _, _, _, _, _⟩ :: _) _ _; refine wpList_store_mid rfl 62 (.tmp 4) (.tmp 52) rfl w.heap.size 0 _ rfl rfl (Own.there_ hR rfl (by simp)) (by kernel_rfl) (by simp [Value.oneCell']) ?_))
  have hRf := Own.set_ Part.enc_len hR rfl (k := 0) (by simp) (⟨name, x1, x2, x3, x4⟩ : Part)
  have hbs := below_setCells w.heap.size (Nat.le_refl _) (Part.enc ⟨name, x1, x2, x3, x4⟩) (0 * 5) _ (Below.refl w.heap.size w1)
  have hh := Part.drw_heap hRf
  refine bodyPost_ret (results_cell_row rfl _ _ w.heap.size 62 _ (0, 0) _ rfl hh Try.underlying62 rfl (by kernel_rfl)) rfl ?_
  exact ⟨⟨name, x1, x2, x3, x4⟩, rfl, HN.out, (hcur.step hg0 hbs).mono (by omega), moved_step hmov hbs⟩
theorem okpush {L : List Part} {c : Part} (h : ∀ x ∈ L, x.Ok) (hc : c.Ok) : ∀ x ∈ L ++ [c], x.Ok := fun x hx => by
  rcases List.mem_append.1 hx with h1 | h1
  · exact h x h1
  · simp at h1; subst h1; exact hc
def GoodPts (L : List Part) : Prop := (∀ c ∈ L, c.Ok) ∧ L.length ≤ 20
def ptNames : List ByteArray := [⟨#[98, 111, 108, 116]⟩, ⟨#[98, 114, 97, 107, 101]⟩, ⟨#[100, 111, 111, 114]⟩, ⟨#[103, 114, 105, 112]⟩, ⟨#[119, 104, 101, 101, 108]⟩]
theorem ptNames_size {k : Nat} {s : ByteArray} (h : ptNames[k]? = some s) : s.size ≤ maxLen := by
  have := List.mem_of_getElem? h
  simp only [ptNames, List.mem_cons, List.not_mem_nil, or_false] at this
  unfold maxLen
  rcases this with rfl | rfl | rfl | rfl | rfl <;> (show _ ≤ _; decide)
set_option maxRecDepth 100000 in
set_option maxHeartbeats 4000000 in
theorem parts23_any (B g K : Nat) (w : World) (h0 : Cur B w g K) (hK : K ≤ 90000) :
    Calls Try.prog 70 #[.pointer (some ⟨g, 0, none⟩)] w (ListPost Part.enc 5 62 GoodPts B g (K + 300) w) := by
  have hg0 := h0.lt
  have hb0 : Below w.heap.size w ((w.alloc (.cells #[] 62)).alloc (.cells #[.string ⟨#[98, 111, 108, 116]⟩, .string ⟨#[98, 114, 97, 107, 101]⟩, .string ⟨#[100, 111, 111, 114]⟩, .string ⟨#[103, 114, 105, 112]⟩, .string ⟨#[119, 104, 101, 101, 108]⟩] 9)) := ((Below.refl _ _).alloc (Nat.le_refl _) _).alloc (by simp) _
  have hown : Own Part.enc 5 62 w.heap.size ((w.alloc (.cells #[] 62)).alloc (.cells #[.string ⟨#[98, 111, 108, 116]⟩, .string ⟨#[98, 114, 97, 107, 101]⟩, .string ⟨#[100, 111, 111, 114]⟩, .string ⟨#[103, 114, 105, 112]⟩, .string ⟨#[119, 104, 101, 101, 108]⟩] 9)) (.slice (some ⟨w.heap.size, 0, none⟩) 0 0) ([] : List Part) := World.ownsRow.alloc (own_empty (Nat.le_refl _)) _
  have hnm : Own encT 1 9 w.heap.size ((w.alloc (.cells #[] 62)).alloc (.cells #[.string ⟨#[98, 111, 108, 116]⟩, .string ⟨#[98, 114, 97, 107, 101]⟩, .string ⟨#[100, 111, 111, 114]⟩, .string ⟨#[103, 114, 105, 112]⟩, .string ⟨#[119, 104, 101, 101, 108]⟩] 9)) (.slice (some ⟨w.heap.size + 1, 0, none⟩) 5 5) ptNames := by
    have := World.ownsRow_lit (e := 9) (size := 1) (base := w.heap.size) (w.alloc (.cells #[] 62)) #[.string ⟨#[98, 111, 108, 116]⟩, .string ⟨#[98, 114, 97, 107, 101]⟩, .string ⟨#[100, 111, 111, 114]⟩, .string ⟨#[103, 114, 105, 112]⟩, .string ⟨#[119, 104, 101, 101, 108]⟩] 5 (by simp) (by decide) rfl
    rw [show (w.alloc (.cells #[] 62)).heap.size = w.heap.size + 1 by simp] at this
    exact this
  have hmov : w.grownBy ((w.alloc (.cells #[] 62)).alloc (.cells #[.string ⟨#[98, 111, 108, 116]⟩, .string ⟨#[98, 114, 97, 107, 101]⟩, .string ⟨#[100, 111, 111, 114]⟩, .string ⟨#[103, 114, 105, 112]⟩, .string ⟨#[119, 104, 101, 101, 108]⟩] 9)) (some g) := moved_below hb0
  have hcur := h0.below hb0
  clear hb0 h0
  go_enter Try.func70, Try.ntmps70
  go_wp2_with fail
  go_loopw [5, 3] (fun i l wr => ∃ (k q cap : Nat) (L : List Part), k ≤ 5 ∧ i = .int .i64 k ∧ l = .slice (some ⟨q, 0, none⟩) L.length cap ∧ L.length ≤ k ∧ (∀ c ∈ L, c.Ok) ∧ Own Part.enc 5 62 w.heap.size wr (.slice (some ⟨q, 0, none⟩) L.length cap) L ∧ Own encT 1 9 w.heap.size wr (.slice (some ⟨w.heap.size + 1, 0, none⟩) 5 5) ptNames ∧ w.heap.size + 1 ≠ q ∧ Cur B wr g (K + 15 * k) ∧ w.grownBy wr (some g)) (fun i _ _ => 5 - (intOf i).toNat)
  case atStart => exact ⟨0, _, _, [], by omega, rfl, rfl, Nat.le_refl _, (fun c hc => by cases hc), hown, hnm, by omega, hcur, hmov⟩
  case round =>
    clear hown hnm hcur hmov
    obtain ⟨k, q, cap, L, hk, rfl, rfl, hll, hok, hown, hnm, hne, hcur, hmov⟩ := hrel
    by_cases hlt : k < 5
    · have hki : (k : Int) < 5 := by omega
      go_wp2_with fail
      refine (one_any B g _ _ _ (by assumption) (by omega) (by omega) (by omega)).mono ?_
      rintro e w1 ⟨b, rfl, hcur, hm1⟩
      have hown := own_moved hm1 hg0 hown
      have hnm := own_moved hm1 hg0 hnm
      have hmov := moved_trans hmov hm1; clear hm1
      cases b
      · go_wp2_with fail
        go_roundw
        case rel => exact ⟨k + 1, q, cap, L, by omega, by go_num, rfl, by omega, hok, hown, hnm, hne, hcur.mono (by omega), hmov⟩
        case measure => simp [intOf] <;> omega
      · obtain ⟨s, hs⟩ : ∃ s, ptNames[k]? = some s := ⟨_, List.getElem?_eq_getElem (by show k < 5; omega)⟩
        have y := own_cell hnm (flat_get encT_len ptNames k s hs 0 _ rfl)
        simp only [Nat.mul_one, Nat.add_zero] at y
        have HSZ := hide (ptNames_size hs); clear hs
        go_wp2_with (first | (go_at_call 88; refine (part_any B g _ _ HSZ.out _ (by assumption) (by omega)).mono ?_; rintro e w1 ⟨c, rfl, hco, hcur, hm1⟩; have hown := own_moved hm1 hg0 hown; have hnm := own_moved hm1 hg0 hnm; have hmov := moved_trans hmov hm1; clear hm1) | (at_builtin; refine wpList_push2 _ rfl (.tmp 17) (.tmp 24) 25 62 rfl Try.underlying25 Part.infoE rfl (by omega) (by omega) Part.enc_len Part.enc_one w.heap.size _ cap L c _ rfl rfl _ rfl rfl hown hmov.size (by omega) ?_; intro q5 cap5 w5 ho5 hb5 hg5 hq5; have hcur := hcur.step hg0 hb5; have hmov := moved_step hmov hb5))
        go_roundw
        case rel => exact ⟨k + 1, q5, cap5, L ++ [c], by omega, by go_num, sl_eq (by simp), by simp; omega, okpush hok hco, by rw [List.length_append]; exact ho5, push_keep hnm hg5 hne, push_ne hnm hq5 hne, hcur.mono (by omega), hmov⟩
        case measure => simp [intOf] <;> omega
    · obtain rfl : k = 5 := by omega
      clear hnm hne
      go_wp2_with fail
      refine (pick_any B g _ _ _ (by assumption) (by omega) (by omega) (by omega)).mono ?_
      rintro e w1 ⟨j, rfl, hj, hcur, hm1⟩
      obtain ⟨y, hy⟩ : ∃ y : Int, y = (j : Int) := ⟨_, rfl⟩
      have hown := own_moved hm1 hg0 hown
      have hmov := moved_trans hmov hm1
      rw [← hy]; clear hm1 hj hy
      by_cases y0 : y = 0
      · subst y0
        have hdz : (⟨#[100, 111, 111, 114]⟩ : ByteArray).size ≤ maxLen := by unfold maxLen; show 4 ≤ _; decide
        go_wp2_with (first | (go_at_call 88; refine (part_any B g _ _ (by assumption) _ (by assumption) (by omega)).mono ?_; rintro e w1 ⟨c, rfl, hco, hcur, hm1⟩; have hown := own_moved hm1 hg0 hown; have hmov := moved_trans hmov hm1; clear hm1) | (at_builtin; refine wpList_push _ rfl (.tmp 30) (.tmp 33) 25 62 rfl Try.underlying25 Part.infoE rfl (by omega) (by omega) Part.enc_len Part.enc_one w.heap.size _ _ _ c _ rfl rfl _ rfl rfl hown hmov.size (by omega) ?_; intro A5 cap5 w5 ho5 hb5; have hown := ho5; have hcur := hcur.step hg0 hb5; have hmov := moved_step hmov hb5; clear ho5 hb5))
        go_ret
        exact ⟨_, _, _, _, rfl, by first | rfl | simp, hown, ⟨okpush hok hco, by simp; omega⟩, hcur.mono (by omega), hmov⟩
      by_cases y1 : y = 1
      · subst y1
        have hown : Own Part.enc 5 62 w.heap.size (w1.alloc (.cells #[] 62)) (.slice (some ⟨w1.heap.size, 0, none⟩) 0 0) ([] : List Part) := own_empty hmov.size
        have hb1 : Below w1.heap.size w1 (w1.alloc (.cells #[] 62)) := (Below.refl _ _).alloc (Nat.le_refl _) _
        have hcur := hcur.below hb1; have hmov := moved_then hmov hb1; clear hb1 hok
        go_wp2_with fail
        go_loopw [6, 3] (fun n l wr => ∃ (A : Option Addr) (cap z : Nat) (L : List Part), l = .slice A z cap ∧ L.length = z ∧ n = .int .i64 z ∧ z ≤ 11 ∧ (∀ c ∈ L, c.Ok) ∧ Own Part.enc 5 62 w.heap.size wr (.slice A z cap) L ∧ Cur B wr g (K + 150 + z) ∧ w.grownBy wr (some g)) (fun _ l _ => 20 - lenOf l)
        case atStart => exact ⟨_, _, _, [], rfl, rfl, rfl, by omega, (fun c hc => by cases hc), hown, hcur.mono (by omega), hmov⟩
        case round =>
          clear hown hcur hmov
          obtain ⟨A, cap, z, L, rfl, hL, rfl, hz, hok, hown, hcur, hmov⟩ := hrel
          subst hL
          have hcv : ∀ W : World, (convert 55 9 (.slice (some ⟨W.heap.size, 0, none⟩) 1 1)).run Try.prog (W.alloc (.cells #[.int .u8 (97 + (L.length : Int))] 5)) = .ok (.string ⟨#[UInt8.ofNat (97 + L.length)]⟩) (W.alloc (.cells #[.int .u8 (97 + (L.length : Int))] 5)) := fun W => by
            refine run_convert_bytes_back _ 55 9 5 ⟨W.heap.size, 0, none⟩ 1 [UInt8.ofNat (97 + L.length)] Try.underlying55 Try.underlying5 Try.underlying9 (fun j hj => ?_)
            obtain rfl : j = 0 := by simpa using hj
            have hv : ((UInt8.ofNat (97 + L.length)).toNat : Int) = 97 + (L.length : Int) := by rw [UInt8.toNat_ofNat']; omega
            rw [Addr.add_mid]
            refine (cell_new W _ _ _ 0 _ rfl rfl).trans ?_
            first | (simp [hv]; done) | (simp [hv]; omega)
          go_wp2_with (first | (go_at_call 73; refine (pick_any B g _ _ _ (by assumption) (by omega) (by omega) (by omega)).mono ?_; rintro e w1 ⟨j, rfl, hj, hcur, hm1⟩; have hown := own_moved hm1 hg0 hown; have hmov := moved_trans hmov hm1; clear hm1) | (at_builtin; refine wpList_push _ rfl (.tmp 45) (.tmp 53) 25 62 rfl Try.underlying25 Part.infoE rfl (by omega) (by omega) Part.enc_len Part.enc_one w.heap.size _ _ _ ⟨_, _, _, _, _⟩ _ rfl rfl _ rfl (by first | rfl | simp) (World.ownsRow.alloc hown (.cells #[.int .u8 (97 + (L.length : Int))] 5)) (by have := hmov.size; simp; omega) (by omega) ?_; intro A5 cap5 w5 ho5 hb5; have hown := ho5; have hba1 : Below w1.heap.size w1 (w1.alloc (.cells #[.int .u8 (97 + (L.length : Int))] 5)) := (Below.refl _ _).alloc (Nat.le_refl _) _; have hcur := (hcur.below hba1).step hg0 hb5; have hmov := moved_step (moved_then hmov hba1) hb5; clear ho5 hb5 hba1))
          · go_roundw
            case rel => exact ⟨_, _, _, _, rfl, by simp, by go_num, by omega, okpush hok (c := ⟨_, _, _, _, _⟩) (by show ByteArray.size _ ≤ maxLen; unfold maxLen; simp [ByteArray.size]), hown, hcur.mono (by omega), hmov⟩
            case measure => simp [lenOf] <;> omega
          · go_ret
            exact ⟨_, _, _, _, rfl, by first | rfl | simp, hown, ⟨hok, by omega⟩, hcur.mono (by omega), hmov⟩
      have e0 : (y == 0) = false := by simpa using y0
      have e1 : (y == 1) = false := by simpa using y1
      clear y0 y1
      go_wp2_with fail
      go_ret
      exact ⟨_, _, _, _, rfl, by first | rfl | simp, hown, ⟨hok, by omega⟩, hcur.mono (by omega), hmov⟩
theorem of_lit_ok {cs : Array Value} (h : ((strsOf cs).all fun x => decide (x.size ≤ maxLen)) = true) {x : ByteArray} (hx : x ∈ strsOf cs) : x.size ≤ maxLen := of_ok h hx
set_option maxRecDepth 100000 in
set_option maxHeartbeats 2000000 in
theorem partName_any (B g K n cap lo : Nat) (L : List Part) (A : Option Addr) (w : World) (hL : L.length = n) (hn : n ≤ 20) (hok : ∀ c ∈ L, c.Ok) (ho : Own Part.enc 5 62 lo w (.slice A n cap) L) (hgl : g < lo) (h0 : Cur B w g K) (hK : K ≤ 100000) :
    Calls Try.prog 74 #[.pointer (some ⟨g, 0, none⟩), .slice A n cap] w (fun e w' => ∃ x : ByteArray, e = .returned (.string x) ∧ x.size ≤ maxLen ∧ Cur B w' g (K + 10) ∧ w.grownBy w' (some g)) := by
  have hg0 := h0.lt
  have hcur := h0; have hmov := moved_refl w g
  by_cases hn0 : n = 0
  · subst hn0
    go_enter Try.func74, Try.ntmps74
    go_wp2_with fail
    refine (of_lit B g _ _ _ _ _ _ (by simp [strOf]) (by rfl) (by simp) (by omega) (by omega) (by assumption) (by omega)).mono ?_
    rintro e w1 ⟨x, rfl, hx_x, hcur, hm1⟩
    have hmov := moved_trans hmov hm1; clear hm1
    have ok_x := of_ok (by rfl) hx_x; clear hx_x
    go_wp2_with fail
    go_ret
    exact ⟨x, rfl, ok_x, hcur.mono (by omega), hmov⟩
  · have hnb : ((n : Int) == 0) = false := by simp; omega
    go_enter Try.func74, Try.ntmps74
    go_wp2_with fail
    refine (one_any B g _ _ _ (by assumption) (by omega) (by omega) (by omega)).mono ?_
    rintro e w1 ⟨b, rfl, hcur, hm1⟩
    have ho := own_moved hm1 hgl ho; have hmov := moved_trans hmov hm1; clear hm1
    cases b
    · go_wp2_with fail
      refine (pick_any B g _ _ _ (by assumption) (by omega) (by omega) (by omega)).mono ?_
      rintro e w1 ⟨j, rfl, hj, hcur, hm1⟩
      have ho := own_moved hm1 hgl ho; have hmov := moved_trans hmov hm1; clear hm1
      have hj2 : j < L.length := by omega
      have hj3 : (j : Int) < (n : Int) := by omega
      obtain ⟨p, rfl⟩ := own_some ho (by omega)
      have ho2 : Own Part.enc 5 62 lo w1 (.slice (some ⟨p, 0, none⟩) L.length cap) L := by rw [hL]; exact ho
      have y := own_cell ho2 (flat_get Part.enc_len L j _ (List.getElem?_eq_getElem hj2) 0 _ rfl)
      rw [Nat.add_zero] at y
      have hsz := hok _ (List.getElem_mem hj2)
      generalize L[j] = c at *
      have HSZ := hide (show c.name.size ≤ maxLen from hsz); clear hsz ho2
      go_wp2_with fail
      go_ret
      exact ⟨c.name, rfl, HSZ.out, hcur.mono (by omega), hmov⟩
    · go_wp2_with fail
      refine (of_lit B g _ _ _ _ _ _ (by simp [strOf]) (by rfl) (by simp) (by omega) (by omega) (by assumption) (by omega)).mono ?_
      rintro e w1 ⟨x, rfl, hx_x, hcur, hm1⟩
      have hmov := moved_trans hmov hm1; clear hm1
      have ok_x := of_ok (by rfl) hx_x; clear hx_x
      go_wp2_with fail
      go_ret
      exact ⟨x, rfl, ok_x, hcur.mono (by omega), hmov⟩
theorem among_cut (B g K m n : Nat) (cs : Array Value) (T : TypeId) (W w1 : World) (hcs : ∀ v ∈ cs.toList, v = .int .i64 (intOf v)) (hn : cs.size = n) (hm0 : 0 < m) (hmn : m ≤ n) (hn2 : n ≤ 200) (hg : g < W.heap.size) (hm1 : (W.alloc (.cells cs T)).grownBy w1 (some g)) (h : Cur B w1 g K) (hK : K ≤ 1000000000) :
    Calls Try.prog 72 #[.pointer (some ⟨g, 0, none⟩), .slice (some ⟨W.heap.size, 0, none⟩) m n] w1 (AmongPost B g (K + 1) w1 ((intsOf cs).take m)) := by
  have hln : ((intsOf cs).take m).length = m := by rw [List.length_take, intsOf, List.length_map, Array.length_toList]; omega
  have hA := among_any B g K W.heap.size 0 n ((intsOf cs).take m) w1 h hK (by omega) (by omega) (Nat.ne_of_gt hg) (fun i x hx => by
    rw [List.getElem?_take] at hx
    split at hx
    · exact moved_cell hm1 (Nat.ne_of_gt hg) (lit_at cs hcs W T i x hx)
    · cases hx)
  rw [hln] at hA
  exact hA
def PtsOf (A : Option Addr) (n c : Nat) (L : List Part) (w w' : World) : Prop := L.length = n ∧ n ≤ 20 ∧ (A = none → c = 0) ∧ (∀ c ∈ L, c.Ok) ∧ Rd Part.enc 5 w'.heap.size w' A L ∧ Below w.heap.size w w'
def PDraw (w : World) (e : Ending) (w' : World) : Prop := ∃ (A : Option Addr) (n c : Nat) (L : List Part), e = .returned (.slice A n c) ∧ PtsOf A n c L w w'
def PnxDraw (w : World) (e : Ending) (w' : World) : Prop := ∃ (A : Option Addr) (n c : Nat) (L : List Part) (s : ByteArray) (x : Int), e = .returned (.tuple #[.slice A n c, .string s, .int .i64 x]) ∧ s.size ≤ maxLen ∧ PtsOf A n c L w w'
def P1Draw (w : World) (e : Ending) (w' : World) : Prop := ∃ c : Part, e = .returned (.agg #[.string c.name, .int .i64 c.have_, .int .i64 c.least, .int .i64 c.lead, .int .i64 c.price]) ∧ c.Ok ∧ Below w.heap.size w w'
theorem pts_of {lo n c : Nat} {A : Option Addr} {L : List Part} {w w' : World} (hL : L.length = n) (h : Own Part.enc 5 62 lo w' (.slice A n c) L) (hz : GoodPts L) (hb : Below w.heap.size w w') : PtsOf A n c L w w' :=
  ⟨hL, by have := hz.2; omega, own_nilcap h, hz.1, by subst hL; exact own_rdm (fun _ => rfl) h, hb⟩
set_option maxRecDepth 100000 in
set_option maxHeartbeats 2000000 in
theorem DrawAreParts_any (A : Option Addr) (Lc : List Int) (cap : Nat) (w : World) (hc : CodeIs w A Lc) :
    Calls Try.prog 75 #[.slice A Lc.length cap] w (PDraw w) := by
  have hcur := cur_new hc cap
  have hb0 : Below w.heap.size w (w.alloc (.cells #[.slice A Lc.length cap, .int .i64 0, .int .u64 0] 89)) := (Below.refl _ _).alloc (Nat.le_refl _) _
  have hg0 := hcur.lt
  have HZ0 := hide (show (w.alloc (.cells #[.slice A Lc.length cap, .int .i64 0, .int .u64 0] 89)).heap.size = w.heap.size + 1 by simp)
  go_enter Try.func75, Try.ntmps75
  go_wp2_with fail
  generalize (w.alloc (.cells #[.slice A Lc.length cap, .int .i64 0, .int .u64 0] 89)) = w0 at *
  have HB := hb0; clear hb0
  refine (parts23_any _ _ _ _ (by assumption) (by omega)).mono ?_
  rintro e w1 ⟨AL, cL, nL, L, rfl, hLL, hownL, hzL, hcur, hm⟩
  have HB := HB.trans (below_moved hm (Nat.le_refl _) (by omega)); have hs1 := hm.size; clear hm
  go_wp2_with fail
  go_ret
  exact ⟨_, _, _, _, rfl, pts_of hLL hownL hzL HB⟩
theorem DrawToOrder_any (A : Option Addr) (Lc : List Int) (cap : Nat) (w : World) (hc : CodeIs w A Lc) : Calls Try.prog 48 #[.slice A Lc.length cap] w (PDraw w) := by
  go_enter Try.func48, Try.ntmps48
  go_wp2_with fail
  refine (DrawAreParts_any A Lc cap _ hc).mono ?_
  rintro e w1 ⟨A1, n, c, L, rfl, h⟩
  go_wp2_with fail
  go_ret
  exact ⟨_, _, _, _, rfl, h⟩
end Go.Proofs.Ytlphegjhkchglaa
