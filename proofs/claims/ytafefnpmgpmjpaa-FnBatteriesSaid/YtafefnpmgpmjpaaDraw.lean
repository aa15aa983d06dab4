/- The cursor that draws from bytes, and its calls: what is drawn is some number in its range; the cursor's block alone is written. -/
import Derived.Test.YtafefnpmgpmjpaaInts
import Derived.Deep.AppendLies
namespace Go.Proofs.Ytafefnpmgpmjpaa
open Go Go.RowKit
set_option linter.unusedVariables false
def encU8 (b : Int) : List Value := [.int .u8 b]
theorem encU8_len (b : Int) : (encU8 b).length = 1 := rfl
/- the block of a cursor whose place is at most K: its code lies below B -/
def Cur (B : Nat) (w : World) (g K : Nat) : Prop :=
  ∃ (A : Option Addr) (L : List Int) (cap k : Nat) (s : Int), B ≤ g ∧ L.length ≤ maxLen ∧ (∀ b ∈ L, 0 ≤ b ∧ b < 256) ∧ Rd encU8 1 B w A L ∧ k ≤ K ∧
    w.heap[g]? = some (.cells #[.slice A L.length cap, .int .i64 k, .int .u64 s] 77 (0, 0))
theorem Cur.lt {B g K : Nat} {w : World} (h : Cur B w g K) : g < w.heap.size := by
  obtain ⟨_, _, _, _, _, _, _, _, _, _, hh⟩ := h
  exact (Array.getElem?_eq_some_iff.1 hh).1
theorem Cur.le {B g K : Nat} {w : World} (h : Cur B w g K) : B ≤ g := by
  obtain ⟨_, _, _, _, _, hb, _⟩ := h
  exact hb
theorem Cur.mono {B g K K' : Nat} {w : World} (h : Cur B w g K) (hK : K ≤ K') : Cur B w g K' := by
  obtain ⟨A, L, cap, k, s, h1, h2, h3, h4, h5, h6⟩ := h
  exact ⟨A, L, cap, k, s, h1, h2, h3, h4, Nat.le_trans h5 hK, h6⟩
theorem Cur.below {B g K : Nat} {w w' : World} (h : Cur B w g K) (hb : Below w.heap.size w w') : Cur B w' g K := by
  have hg := h.lt
  obtain ⟨A, L, cap, k, s, h1, h2, h3, h4, h5, h6⟩ := h
  exact ⟨A, L, cap, k, s, h1, h2, h3, h4.keep fun p hp => hb.cell (by omega), h5, (hb.block g hg).trans h6⟩
/- the world has moved: new blocks, and the cursor's block -/
theorem moved_refl (w : World) (g : Nat) : w.grownBy w (some g) := ⟨rfl, rfl, rfl, Nat.le_refl _, fun _ _ _ => rfl⟩
theorem moved_trans {a b c : World} {g : Nat} (h : a.grownBy b (some g)) (k : b.grownBy c (some g)) : a.grownBy c (some g) :=
  ⟨k.os.trans h.os, k.tape.trans h.tape, k.output.trans h.output, Nat.le_trans h.size k.size, fun i hi hne => (k.block i (Nat.lt_of_lt_of_le hi h.size) hne).trans (h.block i hi hne)⟩
theorem moved_below {a b : World} {g : Nat} (h : Below a.heap.size a b) : a.grownBy b (some g) := grown_below (moved_refl a g) h
theorem moved_then {a b c : World} {g : Nat} (h : a.grownBy b (some g)) (k : Below b.heap.size b c) : a.grownBy c (some g) := grown_below h k
theorem moved_first {a b c : World} {g : Nat} (h : Below a.heap.size a b) (k : b.grownBy c (some g)) : a.grownBy c (some g) := moved_trans (moved_below h) k
theorem below_moved {B g : Nat} {a b : World} (h : a.grownBy b (some g)) (hg : B ≤ g) (hB : B ≤ a.heap.size) : Below B a b :=
  ⟨h.os, h.tape, h.output, h.size, fun i hi => h.block i (Nat.lt_of_lt_of_le hi hB) (by intro e; injection e with e; omega)⟩
theorem moved_set {a b : World} {g j : Nat} {u : Value} (h : a.grownBy b (some g)) : a.grownBy (b.setCell ⟨g, j, none⟩ u) (some g) := grown_set h
theorem moved_cell {a b : World} {g p o : Nat} {v : Value} (h : a.grownBy b (some g)) (hp : p ≠ g) (hc : a.cell? ⟨p, o, none⟩ = some v) : b.cell? ⟨p, o, none⟩ = some v :=
  (h.cell_far _ (World.block_lt_of_cell? a ⟨p, o, none⟩ hc) (by intro e; injection e with e; exact hp e)).trans hc
theorem moved_own {α : Type} {enc : α → List Value} {sz T g : Nat} {a b : World} {v : Value} {L : List α} (h : a.grownBy b (some g)) (ho : Own enc sz T (g + 1) a v L) : Own enc sz T (g + 1) b v L :=
  World.ownsRow.kept ho h (by
    cases e : v.ownBlock with
    | none => exact .inl rfl
    | some k => exact .inr (by have := (ho.lt k e).1; simp; omega))
theorem moved_step {a b c : World} {g : Nat} (h : a.grownBy b (some g)) (k : Below a.heap.size b c) : a.grownBy c (some g) :=
  ⟨k.os.trans h.os, k.tape.trans h.tape, k.output.trans h.output, Nat.le_trans h.size k.size, fun i hi hne => (k.block i hi).trans (h.block i hi hne)⟩
theorem Cur.step {B g K : Nat} {a b c : World} (h : Cur B b g K) (hg : g < a.heap.size) (k : Below a.heap.size b c) : Cur B c g K := by
  obtain ⟨A, L, cap, j, s, h1, h2, h3, h4, h5, h6⟩ := h
  exact ⟨A, L, cap, j, s, h1, h2, h3, h4.keep fun p hp => k.cell (by omega), h5, (k.block g hg).trans h6⟩
theorem own_moved {α : Type} {enc : α → List Value} {sz T g lo : Nat} {a b : World} {v : Value} {L : List α} (h : a.grownBy b (some g)) (hg : g < lo) (ho : Own enc sz T lo a v L) : Own enc sz T lo b v L :=
  World.ownsRow.kept ho h (by
    cases e : v.ownBlock with
    | none => exact .inl rfl
    | some k => exact .inr (by have := (ho.lt k e).1; simp; omega))
theorem own_head {α : Type} {enc : α → List Value} {sz T lo n cap : Nat} {w : World} {A : Option Addr} {L : List α} (h : Own enc sz T lo w (.slice A n cap) L) (hn : L.length = n) (h0 : 0 < n) : ∃ p, A = some ⟨p, 0, none⟩ ∧ lo ≤ p ∧ p < w.heap.size := by
  subst hn; exact own_form h h0
theorem own_sm {α : Type} {enc : α → List Value} {sz T lo n cap p : Nat} {w : World} {L : List α} (h : Own enc sz T lo w (.slice (some ⟨p, 0, none⟩) n cap) L) (hn : L.length = n) {j : Nat} (hj : j < n * sz) : ∃ u, w.cell? ⟨p, j, none⟩ = some u := by
  subst hn; exact own_there h hj
theorem own_cple {α : Type} {enc : α → List Value} {sz T lo n cap : Nat} {w : World} {A : Option Addr} {L : List α} (h : Own enc sz T lo w (.slice A n cap) L) (hn : L.length = n) : n ≤ cap := by
  subst hn
  rcases h.2 with ⟨hv, h0⟩ | ⟨g, c, cur, hv, _, _, hc, _⟩
  · omega
  · injection hv with _ _ h3; omega
theorem own_take {α : Type} {enc : α → List Value} {sz T lo n cap p k : Nat} {w : World} {L : List α} (he : ∀ c, (enc c).length = sz) (h : Own enc sz T lo w (.slice (some ⟨p, 0, none⟩) n cap) L) (hn : L.length = n) (hk : k ≤ n) : Own enc sz T lo w (.slice (some ⟨p, 0, none⟩) k cap) (L.take k) := by
  subst hn
  rcases h.2 with ⟨hv, _⟩ | ⟨g, c, cur, hv, h1, h2, h3, h4, h5, h6⟩
  · cases hv
  · injection hv with e1 e2 e3
    injection e1 with e1; injection e1 with e1
    subst e1; subst e3
    have hl : (L.take k).length = k := by rw [List.length_take]; omega
    refine ⟨by rw [flat_length he], .inr ⟨p, cap, cur, by rw [hl], h1, h2, by rw [hl]; omega, h4, h5, ?_⟩⟩
    rw [hl]
    have e : (L.take k).flatMap enc = (L.flatMap enc).take (k * sz) := by
      have h7 : ((L.take k).flatMap enc).length = k * sz := by rw [flat_length he, hl]
      calc (L.take k).flatMap enc = ((L.take k).flatMap enc ++ (L.drop k).flatMap enc).take (k * sz) := by rw [← h7, List.take_left]
        _ = (L.flatMap enc).take (k * sz) := by rw [← List.flatMap_append, List.take_append_drop]
    rw [e, ← h6, List.take_take, Nat.min_eq_left (Nat.mul_le_mul_right _ hk)]
def MostPost (w : World) (e : Ending) (w' : World) : Prop := ∃ m : Int, e = .returned (.int .i64 m) ∧ w = w'
def lenOf : Value → Nat
  | .slice _ n _ => n
  | _ => 0
/- what a drawer of a list hands back -/
def ListPost {α : Type} (enc : α → List Value) (sz : Nat) (T : TypeId) (Good : List α → Prop) (B g K : Nat) (w : World) (e : Ending) (w' : World) : Prop :=
  ∃ (A : Option Addr) (cap n : Nat) (L : List α), e = .returned (.slice A n cap) ∧ L.length = n ∧ Own enc sz T w.heap.size w' (.slice A n cap) L ∧ Good L ∧ Cur B w' g K ∧ w.grownBy w' (some g)
theorem cell_at {w : World} {g j : Nat} {cs : Array Value} {T : TypeId} {v : Value} (hh : w.heap[g]? = some (.cells cs T (0, 0))) (hv : cs[j]? = some v) : w.cell? ⟨g, j, none⟩ = some v := by
  rw [cell_of_row w g j cs T (0, 0) hh, hv]
theorem free_at {w : World} {g j : Nat} {cs : Array Value} {T : TypeId} (hh : w.heap[g]? = some (.cells cs T (0, 0))) : w.frozen? ⟨g, j, none⟩ = false := frozen_of_row w g j cs T hh
def NextPost (B g K : Nat) (w : World) (hi : Int) (e : Ending) (w' : World) : Prop := ∃ x : Nat, e = .returned (.int .i64 x) ∧ (x : Int) ≤ hi ∧ Cur B w' g K ∧ w.grownBy w' (some g)
theorem bits_255 (x : Int) : 0 ≤ bits .and .u64 x 255 ∧ bits .and .u64 x 255 ≤ 255 := by
  have h : (BitVec.ofInt 64 x &&& BitVec.ofInt 64 255).toNat ≤ 255 := by
    rw [BitVec.toNat_and]; exact Nat.le_trans Nat.and_le_right (by decide)
  have e : bits .and .u64 x 255 = IntKind.u64.wrap (((BitVec.ofInt 64 x &&& BitVec.ofInt 64 255).toNat : Nat) : Int) := rfl
  rw [e, IntKind.wrap_u64]; omega
set_option maxRecDepth 100000 in
set_option maxHeartbeats 2000000 in
theorem next_any (B g K : Nat) (w : World) (h : Cur B w g K) (hK : K ≤ 1000000000) :
    Calls Try.prog 82 #[.pointer (some ⟨g, 0, none⟩)] w (NextPost B g (K + 1) w 255) := by
  have hB : B ≤ w.heap.size := Nat.le_trans h.le (Nat.le_of_lt h.lt)
  obtain ⟨A, L, cap, k, s, h1, h2, h3, h4, h5, h6⟩ := h
  have x0 := cell_at (j := 0) h6 rfl
  have x1 := cell_at (j := 1) h6 rfl
  have HH := hide h6; have HG := hide h6; clear h6
  have hl2 := h2
  unfold maxLen at hl2
  by_cases hlt : k < L.length
  · obtain ⟨b, o, rfl, hb, hc⟩ := h4.at_ (by intro h; subst h; simp at hlt)
    have y := hc k _ (List.getElem?_eq_getElem hlt) 0 _ rfl
    rw [Nat.mul_one, Nat.add_zero] at y
    obtain ⟨hb0, hb1⟩ := h3 _ (List.getElem_mem hlt)
    have HC := hide h4; clear hc h4
    generalize L[k] = z at *
    have hkl : (k : Int) < (L.length : Int) := by omega
    go_enter Try.func82, Try.ntmps82
    go_wp2_with fail
    have a0 := after_cell x0
    have a1 := after_cell x1
    refine wp_region_after (by kernel_rfl) (by kernel_rfl) ?_
    repeat (go_big_quiet_step (fail))
    refine wpQuiet_nil ?_
    rintro w1 ⟨⟨_, hb1⟩, rfl⟩
    clear a0 a1
    replace x0 := below_cell hb1 x0; replace x1 := below_cell hb1 x1
    replace y := below_cell hb1 y
    go_wp2_with fail
    have a0 := after_cell x0
    have a1 := after_cell x1
    have a2 := after_cell y
    refine wp_region_after (by kernel_rfl) (by kernel_rfl) ?_
    repeat (go_big_quiet_step (fail))
    refine wpQuiet_nil ?_
    rintro w2 ⟨⟨_, hb2⟩, rfl⟩
    clear a0 a1 a2
    have BW := below_step hb1 hb2 (Nat.le_refl _)
    replace HH := (BW.block g (Array.getElem?_eq_some_iff.1 HH.out).1).trans HH.out
    have f1 := free_at (j := 1) HH; have f2 := free_at (j := 2) HH; have x1' := cell_at (j := 1) HH rfl; have x2' := cell_at (j := 2) HH rfl
    have HB := hide HH; clear HH x0 x1
    have hsz := hide BW.size
    go_wp2_with fail
    obtain ⟨s', hs'⟩ : ∃ s' : Int, s' = IntKind.u64.wrap (IntKind.u64.wrap (IntKind.u64.wrap (s * 6364136223846793005) + z) + 935935) := ⟨_, rfl⟩
    rw [← hs']; clear hs'
    have h3w := heap_setCell_same _ g 2 _ 77 (.int .u64 s') (heap_setCell_same w2 g 1 _ 77 (.int .i64 ((k : Int) + 1)) HB.out)
    have m3 := hide (moved_set (j := 2) (u := .int .u64 s') (moved_set (j := 1) (u := .int .i64 ((k : Int) + 1)) (moved_below (g := g) BW)))
    clear f1 f2 x1' x2'
    generalize ((w2.setCell { block := g, off := 1 } (Value.int IntKind.i64 ((k : Int) + 1))).setCell { block := g, off := 2 } (Value.int IntKind.u64 s')) = w3 at *
    have x0 := cell_at (j := 0) h3w rfl; have x1 := cell_at (j := 1) h3w rfl; have x2 := cell_at (j := 2) h3w rfl
    have H3 := hide h3w; clear h3w
    have a0 := after_cell x0
    have a1 := after_cell x1
    refine wp_region_after (by kernel_rfl) (by kernel_rfl) ?_
    repeat (go_big_quiet_step (fail))
    refine wpQuiet_nil ?_
    rintro w4 ⟨⟨_, hb4⟩, rfl⟩
    clear a0 a1
    replace x2 := below_cell hb4 x2
    have M4 := hide (moved_then m3.out hb4)
    have H4 := hide ((hb4.block g (Array.getElem?_eq_some_iff.1 H3.out).1).trans H3.out)
    have hle : ((k : Int) + 1 ≤ (L.length : Int)) := by omega
    go_wp2_with fail
    go_ret
    exact ⟨z.toNat, ret_int (by omega), by omega, ⟨_, L, cap, k + 1, s', h1, h2, h3, HC.out.below (below_moved M4.out h1 hB), by omega, H4.out⟩, M4.out⟩
  · have HC := hide h4; clear h4
    have hkl : ¬ (k : Int) < (L.length : Int) := by omega
    have hd0 : decide ((k : Int) < (L.length : Int)) = false := by simpa using hkl
    go_enter Try.func82, Try.ntmps82
    go_wp2_with fail
    have a0 := after_cell x0
    have a1 := after_cell x1
    refine wp_region_after (by kernel_rfl) (by kernel_rfl) ?_
    repeat (go_big_quiet_step (fail))
    refine wpQuiet_nil ?_
    rintro w1 ⟨⟨_, hb1⟩, rfl⟩
    clear a0 a1
    replace x0 := below_cell hb1 x0; replace x1 := below_cell hb1 x1
    obtain ⟨w2, rfl⟩ : ∃ w2, w2 = w1 := ⟨_, rfl⟩
    have BW := hb1
    replace HH := (BW.block g (Array.getElem?_eq_some_iff.1 HH.out).1).trans HH.out
    have f1 := free_at (j := 1) HH; have f2 := free_at (j := 2) HH; have x1' := cell_at (j := 1) HH rfl; have x2' := cell_at (j := 2) HH rfl
    have HB := hide HH; clear HH x0 x1
    have hsz := hide BW.size
    go_wp2_with fail
    obtain ⟨s', hs'⟩ : ∃ s' : Int, s' = IntKind.u64.wrap (IntKind.u64.wrap (IntKind.u64.wrap (s * 6364136223846793005)) + 935935) := ⟨_, rfl⟩
    rw [← hs']; clear hs'
    have h3w := heap_setCell_same _ g 2 _ 77 (.int .u64 s') (heap_setCell_same w2 g 1 _ 77 (.int .i64 ((k : Int) + 1)) HB.out)
    have m3 := hide (moved_set (j := 2) (u := .int .u64 s') (moved_set (j := 1) (u := .int .i64 ((k : Int) + 1)) (moved_below (g := g) BW)))
    clear f1 f2 x1' x2'
    generalize ((w2.setCell { block := g, off := 1 } (Value.int IntKind.i64 ((k : Int) + 1))).setCell { block := g, off := 2 } (Value.int IntKind.u64 s')) = w3 at *
    have x0 := cell_at (j := 0) h3w rfl; have x1 := cell_at (j := 1) h3w rfl; have x2 := cell_at (j := 2) h3w rfl
    have H3 := hide h3w; clear h3w
    have a0 := after_cell x0
    have a1 := after_cell x1
    refine wp_region_after (by kernel_rfl) (by kernel_rfl) ?_
    repeat (go_big_quiet_step (fail))
    refine wpQuiet_nil ?_
    rintro w4 ⟨⟨_, hb4⟩, rfl⟩
    clear a0 a1
    replace x2 := below_cell hb4 x2
    have M4 := hide (moved_then m3.out hb4)
    have H4 := hide ((hb4.block g (Array.getElem?_eq_some_iff.1 H3.out).1).trans H3.out)
    obtain ⟨hb0, hb1'⟩ := bits_255 (s' / 1099511627776)
    go_wp2_with fail
    go_ret
    exact ⟨(bits .and .u64 (s' / 1099511627776) 255).toNat, ret_int (by omega), by omega, ⟨_, L, cap, k + 1, s', h1, h2, h3, HC.out.below (below_moved M4.out h1 hB), by omega, H4.out⟩, M4.out⟩
def PickPost (B g K : Nat) (w : World) (n : Int) (e : Ending) (w' : World) : Prop := ∃ j : Nat, e = .returned (.int .i64 j) ∧ ((j : Int) < n ∨ j = 0) ∧ Cur B w' g K ∧ w.grownBy w' (some g)
def OnePost (B g K : Nat) (w : World) (e : Ending) (w' : World) : Prop := ∃ b : Bool, e = .returned (.bool b) ∧ Cur B w' g K ∧ w.grownBy w' (some g)
def AmongPost (B g K : Nat) (w : World) (L : List Int) (e : Ending) (w' : World) : Prop := ∃ x : Int, e = .returned (.int .i64 x) ∧ x ∈ L ∧ Cur B w' g K ∧ w.grownBy w' (some g)
def OfPost (B g K : Nat) (w : World) (L : List ByteArray) (e : Ending) (w' : World) : Prop := ∃ x : ByteArray, e = .returned (.string x) ∧ x ∈ L ∧ Cur B w' g K ∧ w.grownBy w' (some g)
set_option maxHeartbeats 1000000 in
theorem pick_any (B g K : Nat) (n : Int) (w : World) (h : Cur B w g K) (hK : K ≤ 1000000000) (hn : n ≤ 200) (hn0 : -1000000 ≤ n) :
    Calls Try.prog 57 #[.pointer (some ⟨g, 0, none⟩), .int .i64 n] w (PickPost B g (K + 1) w n) := by
  by_cases h1 : n ≤ 1
  · go_enter Try.func57, Try.ntmps57
    go_wp2_with fail
    go_ret
    exact ⟨0, rfl, .inr rfl, h.mono (Nat.le_succ K), moved_refl _ _⟩
  · go_enter Try.func57, Try.ntmps57
    go_wp2_with (go_at_call 82; refine (next_any B g K _ h hK).mono ?_; rintro e w1 ⟨x, rfl, hx, hc1, hm1⟩)
    go_ret
    have hr := Int.emod_lt_of_pos (x : Int) (show 0 < n by omega)
    have hr0 := Int.emod_nonneg (x : Int) (show n ≠ 0 by omega)
    exact ⟨((x : Int) % n).toNat, ret_int (by omega), .inl (by omega), hc1, hm1⟩
set_option maxHeartbeats 1000000 in
theorem one_any (B g K : Nat) (n : Int) (w : World) (h : Cur B w g K) (hK : K ≤ 1000000000) (hn : n ≤ 200) (hn0 : -1000000 ≤ n) :
    Calls Try.prog 83 #[.pointer (some ⟨g, 0, none⟩), .int .i64 n] w (OnePost B g (K + 1) w) := by
  go_enter Try.func83, Try.ntmps83
  go_wp2_with (go_at_call 57; refine (pick_any B g K _ _ h hK hn hn0).mono ?_; rintro e w1 ⟨x, rfl, hx, hc1, hm1⟩)
  go_ret
  exact ⟨_, rfl, hc1, hm1⟩
set_option maxHeartbeats 1000000 in
theorem among_any (B g K p o cap : Nat) (L : List Int) (w : World) (h : Cur B w g K) (hK : K ≤ 1000000000) (hl : L.length ≤ 200) (h0 : 0 < L.length) (hp : p ≠ g)
    (hc : ∀ i x, L[i]? = some x → w.cell? ⟨p, o + i, none⟩ = some (.int .i64 x)) :
    Calls Try.prog 62 #[.pointer (some ⟨g, 0, none⟩), .slice (some ⟨p, o, none⟩) L.length cap] w (AmongPost B g (K + 1) w L) := by
  have HC := hide hc; clear hc
  go_enter Try.func62, Try.ntmps62
  go_wp2_with (go_at_call 57; refine (pick_any B g K _ _ h hK (by omega) (by omega)).mono ?_; rintro e w1 ⟨j, rfl, hx, hc1, hm1⟩; have hj : j < L.length := (by omega); have hji : (j : Int) < (L.length : Int) := (by omega); have HX := hide (List.getElem_mem hj); have y := moved_cell hm1 hp (HC.out j _ (List.getElem?_eq_getElem hj)); generalize L[j] = x at *; clear hx)
  go_ret
  exact ⟨x, rfl, HX.out, hc1, hm1⟩
/- a literal of numbers, made just ahead of the call -/
def intsOf (cs : Array Value) : List Int := cs.toList.map intOf
theorem lit_at (cs : Array Value) (h : ∀ v ∈ cs.toList, v = .int .i64 (intOf v)) (W : World) (T : TypeId) (i : Nat) (x : Int) (hx : (intsOf cs)[i]? = some x) :
    (W.alloc (.cells cs T)).cell? ⟨W.heap.size, 0 + i, none⟩ = some (.int .i64 x) := by
  unfold intsOf at hx
  rw [List.getElem?_map] at hx
  cases hv : cs.toList[i]? with
  | none => rw [hv] at hx; cases hx
  | some v =>
    rw [hv] at hx
    injection hx with hx
    rw [Nat.zero_add, cell_of_row _ _ i cs T (0, 0) (heap_alloc_new W _), ← Array.getElem?_toList, hv, h v (List.mem_of_getElem? hv), hx]
theorem among_lit (B g K n p : Nat) (cs : Array Value) (T : TypeId) (W : World) (hcs : ∀ v ∈ cs.toList, v = .int .i64 (intOf v)) (hn : cs.size = n) (hp : W.heap.size = p) (hn0 : 0 < n) (hn2 : n ≤ 200) (h : Cur B W g K) (hK : K ≤ 1000000000) :
    Calls Try.prog 62 #[.pointer (some ⟨g, 0, none⟩), .slice (some ⟨p, 0, none⟩) n n] (W.alloc (.cells cs T)) (AmongPost B g (K + 1) W (intsOf cs)) := by
  subst hp
  have hl : (intsOf cs).length = n := by simp [intsOf, hn]
  have hb : Below W.heap.size W (W.alloc (.cells cs T)) := (Below.refl _ _).alloc (Nat.le_refl _) _
  have h2 := among_any B g K W.heap.size 0 n (intsOf cs) (W.alloc (.cells cs T)) (h.below hb) hK (by omega) (by omega) (Nat.ne_of_gt h.lt) (lit_at cs hcs W T)
  rw [hl] at h2
  exact h2.mono fun e w' ⟨x, he, hx, hc, hm⟩ => ⟨x, he, hx, hc, moved_first hb hm⟩
theorem results_tmp4 {fn : Func} {t u v x : Tmp} (h : fn.results = #[.tmp t, .tmp u, .tmp v, .tmp x]) (tmps : Array Value) (P : Program) (w : World) :
    (results fn tmps).run P w = .ok (.tuple #[tmps.getD t undef, tmps.getD u undef, tmps.getD v undef, tmps.getD x undef]) w := by
  simp [results, h]
theorem results_tmp5 {fn : Func} {t u v x y : Tmp} (h : fn.results = #[.tmp t, .tmp u, .tmp v, .tmp x, .tmp y]) (tmps : Array Value) (P : Program) (w : World) :
    (results fn tmps).run P w = .ok (.tuple #[tmps.getD t undef, tmps.getD u undef, tmps.getD v undef, tmps.getD x undef, tmps.getD y undef]) w := by
  simp [results, h]
theorem results_tmp6 {fn : Func} {t u v x y z : Tmp} (h : fn.results = #[.tmp t, .tmp u, .tmp v, .tmp x, .tmp y, .tmp z]) (tmps : Array Value) (P : Program) (w : World) :
    (results fn tmps).run P w = .ok (.tuple #[tmps.getD t undef, tmps.getD u undef, tmps.getD v undef, tmps.getD x undef, tmps.getD y undef, tmps.getD z undef]) w := by
  simp [results, h]
/- the code that a drawer is given -/
def CodeIs (w : World) (A : Option Addr) (L : List Int) : Prop := L.length ≤ maxLen ∧ (∀ b ∈ L, 0 ≤ b ∧ b < 256) ∧ Rd encU8 1 w.heap.size w A L
theorem CodeIs.later {w w' : World} {A : Option Addr} {L : List Int} (h : CodeIs w A L) (hb : Below w.heap.size w w') : CodeIs w' A L := ⟨h.1, h.2.1, h.2.2.later hb⟩
theorem cur_new {w : World} {A : Option Addr} {L : List Int} (h : CodeIs w A L) (cap : Nat) : Cur w.heap.size (w.alloc (.cells #[.slice A L.length cap, .int .i64 0, .int .u64 0] 77)) w.heap.size 0 :=
  ⟨A, L, cap, 0, 0, Nat.le_refl _, h.1, h.2.1, h.2.2.keep fun p hp => World.cell?_alloc_lt w _ p hp, Nat.le_refl _, heap_alloc_new w _⟩
theorem own_rdm {α : Type} {enc : α → List Value} {sz T lo n cap : Nat} {w : World} {A : Option Addr} {L : List α} (he : ∀ c, (enc c).length = sz) (h : Own enc sz T lo w (.slice A n cap) L) : Rd enc sz w.heap.size w A L := Own.rd_of he h
/- one thing is appended to a row of the call's own: what became of the other blocks is told -/
theorem wpList_push2 {α : Type} {enc : α → List Value} {sz : Nat} {P : Program} (w : World) {ops : Array Oper} {rest : List Oper} {o : Oper} {a : Act} {Q : Exit → Act → World → Prop} (hgd : o.guard = none) (s x : Operand) (t e : TypeId)
    (ho : o.op = .call { callee := .builtin .append, args := #[s, x], argTypes := #[t, t] }) (ht : P.underlying t = some (.slice e)) {z : Value} {bytes : Nat}
    (hinfo : (P.info? e).map (fun i => (i.zero, i.size, i.bytes)) = some (some z, sz, bytes)) (hzs : z.cells.size = sz) (hsz : 0 < sz) (hby : bytes ≤ 1000)
    (he : ∀ c, (enc c).length = sz) (h1 : ∀ c, ∀ u ∈ enc c, u.oneCell' = true)
    (lo : Nat) (A : Option Addr) (cap : Nat) (L : List α) (c : α) (cs : Array Value) (hcs : cs.toList = enc c)
    (hs : a.eval s = .slice A L.length cap) (nb : Nat) (hx : a.eval x = .slice (some ⟨nb, 0, none⟩) 1 1) (hnb : w.heap.size = nb) (hown : Own enc sz e lo w (.slice A L.length cap) L) (hlo : lo ≤ w.heap.size) (hn : L.length ≤ 100000000)
    (h : ∀ q cap' w', Own enc sz e lo w' (.slice (some ⟨q, 0, none⟩) (L.length + 1) cap') (L ++ [c]) → Below lo w w' → (w.alloc (.cells cs e)).grownBy w' (Value.slice A L.length cap).ownBlock → ((Value.slice A L.length cap).ownBlock = some q ∨ q = w.heap.size + 1) →
      wpList P ops Q rest (a.put o.dst (.slice (some ⟨q, 0, none⟩) (L.length + 1) cap')) w') :
    wpList P ops Q (o :: rest) a (w.alloc (.cells cs e)) := by
  subst hnb
  obtain ⟨i, hi, hz, hsi, hbi⟩ := info_parts hinfo
  refine wpList_append_lies _ hgd s x t ho lo e i z sz bytes ht hi hz hsi hbi hzs hsz _ L.length (L.flatMap enc) hs (World.ownsRow.alloc hown _) ⟨w.heap.size, 0, none⟩ 1 1 (enc c) hx (by rw [he, Nat.one_mul]) ?_ (h1 c) (by omega) (by unfold maxLen; omega) ?_ (by simp; omega) (w.heap.size + 1) (by simp) ?_
  · intro j u hu
    rw [Addr.add_mid, Nat.zero_add, cell_of_row _ _ j cs e (0, 0) (heap_alloc_new w _), ← Array.getElem?_toList, hcs, hu]
  · calc (L.length + 1) * bytes ≤ 100000001 * 1000 := Nat.mul_le_mul (by omega) hby
      _ ≤ 140737488355328 := by decide
  · intro g cap' w' ho' hg hq _
    have hb : Below lo w w' := ((Below.refl lo w).alloc hlo _).grown hg (by simp; omega) (fun k hk => by
      rcases hown.lt k hk with ⟨h3, _⟩
      exact h3)
    refine h g cap' w' ?_ hb hg hq
    unfold Own
    rw [List.length_append, List.flatMap_append]
    simpa using ho'
/- the same, at a step of a region that draws its order -/
theorem step_push2 {α : Type} {enc : α → List Value} {sz : Nat} {P : Program} (w : World) {ops : Array Oper} {o : Oper} {a : Act} {K : Act → World → Prop} {Q : Exit → Act → World → Prop} {E : Prop} (hgd : o.guard = none) (s x : Operand) (t e : TypeId)
    (ho : o.op = .call { callee := .builtin .append, args := #[s, x], argTypes := #[t, t] }) (ht : P.underlying t = some (.slice e)) {z : Value} {bytes : Nat}
    (hinfo : (P.info? e).map (fun i => (i.zero, i.size, i.bytes)) = some (some z, sz, bytes)) (hzs : z.cells.size = sz) (hsz : 0 < sz) (hby : bytes ≤ 1000)
    (he : ∀ c, (enc c).length = sz) (h1 : ∀ c, ∀ u ∈ enc c, u.oneCell' = true)
    (lo : Nat) (A : Option Addr) (cap : Nat) (L : List α) (c : α) (cs : Array Value) (hcs : cs.toList = enc c)
    (hs : a.eval s = .slice A L.length cap) (nb : Nat) (hx : a.eval x = .slice (some ⟨nb, 0, none⟩) 1 1) (hnb : w.heap.size = nb) (hown : Own enc sz e lo w (.slice A L.length cap) L) (hlo : lo ≤ w.heap.size) (hn : L.length ≤ 100000000)
    (h : ∀ q cap' w', Own enc sz e lo w' (.slice (some ⟨q, 0, none⟩) (L.length + 1) cap') (L ++ [c]) → Below lo w w' → (w.alloc (.cells cs e)).grownBy w' (Value.slice A L.length cap).ownBlock → ((Value.slice A L.length cap).ownBlock = some q ∨ q = w.heap.size + 1) →
      K (a.put o.dst (.slice (some ⟨q, 0, none⟩) (L.length + 1) cap')) w') :
    if Region.wanted o (yielded ops a.tmps) = true then Oper.wp P o a (w.alloc (.cells cs e)) K Q else E := by
  subst hnb
  obtain ⟨i, hi, hz, hsi, hbi⟩ := info_parts hinfo
  refine step_append_lies _ hgd s x t ho lo e i z sz bytes ht hi hz hsi hbi hzs hsz _ L.length (L.flatMap enc) hs (World.ownsRow.alloc hown _) ⟨w.heap.size, 0, none⟩ 1 1 (enc c) hx (by rw [he, Nat.one_mul]) ?_ (h1 c) (by omega) (by unfold maxLen; omega) ?_ (by simp; omega) (w.heap.size + 1) (by simp) ?_
  · intro j u hu
    rw [Addr.add_mid, Nat.zero_add, cell_of_row _ _ j cs e (0, 0) (heap_alloc_new w _), ← Array.getElem?_toList, hcs, hu]
  · calc (L.length + 1) * bytes ≤ 100000001 * 1000 := Nat.mul_le_mul (by omega) hby
      _ ≤ 140737488355328 := by decide
  · intro g cap' w' ho' hg hq _
    have hb : Below lo w w' := ((Below.refl lo w).alloc hlo _).grown hg (by simp; omega) (fun k hk => by
      rcases hown.lt k hk with ⟨h3, _⟩
      exact h3)
    refine h g cap' w' ?_ hb hg hq
    unfold Own
    rw [List.length_append, List.flatMap_append]
    simpa using ho'
theorem own_keep {α : Type} {enc : α → List Value} {sz T lo m : Nat} {a b : World} {v : Value} {L : List α} (ho : Own enc sz T lo a v L) (hm : a.heap.size ≤ m) (hb : Below m a b) : Own enc sz T lo b v L := Own.below ho (hb.mono hm)
theorem own_low {α : Type} {enc : α → List Value} {sz T lo m : Nat} {a b : World} {v : Value} {L : List α} (ho : Own enc sz T lo a v L) (hlt : ∀ k, v.ownBlock = some k → k < m) (hb : Below m a b) : Own enc sz T lo b v L := by
  refine ⟨ho.1, ?_⟩
  rcases ho.2 with h | ⟨g, cap, cur, rfl, h1, h2, r⟩
  · exact .inl h
  · exact .inr ⟨g, cap, cur, rfl, h1, (hb.block g (hlt g rfl)).trans h2, r⟩
theorem Cur.low {B g K m : Nat} {b c : World} (h : Cur B b g K) (hg : g < m) (k : Below m b c) : Cur B c g K := by
  obtain ⟨A, L, cap, j, s, h1, h2, h3, h4, h5, h6⟩ := h
  exact ⟨A, L, cap, j, s, h1, h2, h3, h4.keep fun p hp => k.cell (by omega), h5, (k.block g hg).trans h6⟩
theorem own_grown {α : Type} {enc : α → List Value} {sz T lo : Nat} {row : Option Nat} {a b : World} {v : Value} {L : List α} (ho : Own enc sz T lo a v L) (hg : a.grownBy b row) (hne : v.ownBlock ≠ row ∨ v.ownBlock = none) : Own enc sz T lo b v L :=
  World.ownsRow.kept ho hg (hne.elim .inr .inl)
set_option maxHeartbeats 1000000 in
theorem of_any (B g K p o cap : Nat) (L : List ByteArray) (w : World) (h : Cur B w g K) (hK : K ≤ 1000000000) (hl : L.length ≤ 200) (h0 : 0 < L.length) (hp : p ≠ g)
    (hc : ∀ i x, L[i]? = some x → w.cell? ⟨p, o + i, none⟩ = some (.string x)) :
    Calls Try.prog 84 #[.pointer (some ⟨g, 0, none⟩), .slice (some ⟨p, o, none⟩) L.length cap] w (OfPost B g (K + 1) w L) := by
  have HC := hide hc; clear hc
  go_enter Try.func84, Try.ntmps84
  go_wp2_with (go_at_call 57; refine (pick_any B g K _ _ h hK (by omega) (by omega)).mono ?_; rintro e w1 ⟨j, rfl, hx, hc1, hm1⟩; have hj : j < L.length := (by omega); have hji : (j : Int) < (L.length : Int) := (by omega); have HX := hide (List.getElem_mem hj); have y := moved_cell hm1 hp (HC.out j _ (List.getElem?_eq_getElem hj)); generalize L[j] = x at *; clear hx)
  go_ret
  exact ⟨x, rfl, HX.out, hc1, hm1⟩
def strOf : Value → ByteArray
  | .string s => s
  | _ => default
def strsOf (cs : Array Value) : List ByteArray := cs.toList.map strOf
theorem slit_at (cs : Array Value) (h : ∀ v ∈ cs.toList, v = .string (strOf v)) (W : World) (T : TypeId) (i : Nat) (x : ByteArray) (hx : (strsOf cs)[i]? = some x) :
    (W.alloc (.cells cs T)).cell? ⟨W.heap.size, 0 + i, none⟩ = some (.string x) := by
  unfold strsOf at hx
  rw [List.getElem?_map] at hx
  cases hv : cs.toList[i]? with
  | none => rw [hv] at hx; cases hx
  | some v =>
    rw [hv] at hx
    injection hx with hx
    rw [Nat.zero_add, cell_of_row _ _ i cs T (0, 0) (heap_alloc_new W _), ← Array.getElem?_toList, hv, h v (List.mem_of_getElem? hv), hx]
theorem of_lit (B g K n p : Nat) (cs : Array Value) (T : TypeId) (W : World) (hcs : ∀ v ∈ cs.toList, v = .string (strOf v)) (hn : cs.size = n) (hp : W.heap.size = p) (hn0 : 0 < n) (hn2 : n ≤ 200) (h : Cur B W g K) (hK : K ≤ 1000000000) :
    Calls Try.prog 84 #[.pointer (some ⟨g, 0, none⟩), .slice (some ⟨p, 0, none⟩) n n] (W.alloc (.cells cs T)) (OfPost B g (K + 1) W (strsOf cs)) := by
  subst hp
  have hl : (strsOf cs).length = n := by simp [strsOf, hn]
  have hb : Below W.heap.size W (W.alloc (.cells cs T)) := (Below.refl _ _).alloc (Nat.le_refl _) _
  have h2 := of_any B g K W.heap.size 0 n (strsOf cs) (W.alloc (.cells cs T)) (h.below hb) hK (by omega) (by omega) (Nat.ne_of_gt h.lt) (slit_at cs hcs W T)
  rw [hl] at h2
  exact h2.mono fun e w' ⟨x, he, hx, hc, hm⟩ => ⟨x, he, hx, hc, moved_first hb hm⟩
end Go.Proofs.Ytafefnpmgpmjpaa
