/- The drawer of a battery, and the Draw functions that hand one over. -/
import Derived.Test.YtafefnpmgpmjpaaDrawX18
import Derived.Test.YtafefnpmgpmjpaaStBattery
import Derived.Test.YtafefnpmgpmjpaaSetC
import Derived.Test.YtafefnpmgpmjpaaDel
import Derived.Deep.RegionHeldLaw
import Derived.Deep.RegionHeld3
import Derived.Deep.DeepCutAuto
namespace Go.Proofs.Ytafefnpmgpmjpaa
open Go Go.RowKit
set_option linter.unusedVariables false
set_option linter.unusedSimpArgs false
theorem Battery.one_cells {lo p : Nat} {w : World} {c : Battery} (h : Own Battery.enc 3 30 lo w (.slice (some ⟨p, 0, none⟩) 1 1) [c]) : w.cell? ⟨p, 0, none⟩ = some (.int .i64 c.capacity) ∧ w.cell? ⟨p, 1, none⟩ = some (.int .i64 c.charge) ∧ w.cell? ⟨p, 2, none⟩ = some (.int .i64 c.most) :=
  ⟨own_cell h (flat_get Battery.enc_len [c] 0 c rfl 0 _ rfl), own_cell h (flat_get Battery.enc_len [c] 0 c rfl 1 _ rfl), own_cell h (flat_get Battery.enc_len [c] 0 c rfl 2 _ rfl)⟩
theorem Battery.one_heap {lo p : Nat} {w : World} {c : Battery} (h : Own Battery.enc 3 30 lo w (.slice (some ⟨p, 0, none⟩) 1 1) [c]) : w.heap[p]? = some (.cells #[.int .i64 c.capacity, .int .i64 c.charge, .int .i64 c.most] 30 (0, 0)) := by
  rcases h.2 with ⟨hv, _⟩ | ⟨g, c2, cur, hv, _, hh, _, _, hsz, htk⟩
  · cases hv
  · cases hv
    rw [hh]
    have e : cur.toList = Battery.enc c := by
      have e2 : cur.toList.take (1 * 3) = [c].flatMap Battery.enc := htk
      rw [List.take_of_length_le (by rw [Array.length_toList]; omega)] at e2
      rw [e2]; simp
    have e3 : cur = #[.int .i64 c.capacity, .int .i64 c.charge, .int .i64 c.most] := by rw [← Array.toArray_toList (xs := cur), e]; rfl
    rw [e3]
theorem setCells_grown (g : Nat) : ∀ (vs : List Value) (o : Nat) (w : World), w.grownBy (w.setCells g o vs) (some g)
  | [], o, w => World.grownBy.refl w _
  | v :: r, o, w => by
    rw [World.setCells]
    exact moved_trans (moved_set (moved_refl w g)) (setCells_grown g r (o + 1) _)
theorem own_far {α : Type} {enc : α → List Value} {sz T lo g : Nat} {w : World} {v : Value} {L : List α} (h : Own enc sz T lo w v L) (hg : g < lo) (o : Nat) (vs : List Value) : Own enc sz T lo (w.setCells g o vs) v L := own_moved (setCells_grown g vs o w) hg h
theorem results_rt {P : Program} {fn : Func} {x p : Tmp} {ty : TypeId} (h : fn.results = #[.cell p ty, .tmp x]) (tmps : Array Value) (w : World) (g : Nat) (t : TypeId) (cs : Array Value) (fr : Nat × Nat) (d : TypeDesc)
    (hp : tmps.getD p undef = .pointer (some ⟨g, 0, none⟩)) (hg : w.heap[g]? = some (.cells cs t fr))
    (hu : P.underlying ty = some d) (hd : (match d with | .struct _ | .array _ _ => true | _ => false) = true) (hi : (P.info? ty).map (·.size) = some cs.size) :
    (results fn tmps).run P w = .ok (.tuple #[.agg cs, tmps.getD x undef]) w := by
  have hp' : tmps[p]?.getD undef = .pointer (some ⟨g, 0, none⟩) := by simpa using hp
  simp [results, h, hp', asAddr, run_loadVar_row w g t ty cs fr d hg hu hd hi]
theorem results_rtt {P : Program} {fn : Func} {x y p : Tmp} {ty : TypeId} (h : fn.results = #[.cell p ty, .tmp x, .tmp y]) (tmps : Array Value) (w : World) (g : Nat) (t : TypeId) (cs : Array Value) (fr : Nat × Nat) (d : TypeDesc)
    (hp : tmps.getD p undef = .pointer (some ⟨g, 0, none⟩)) (hg : w.heap[g]? = some (.cells cs t fr))
    (hu : P.underlying ty = some d) (hd : (match d with | .struct _ | .array _ _ => true | _ => false) = true) (hi : (P.info? ty).map (·.size) = some cs.size) :
    (results fn tmps).run P w = .ok (.tuple #[.agg cs, tmps.getD x undef, tmps.getD y undef]) w := by
  have hp' : tmps[p]?.getD undef = .pointer (some ⟨g, 0, none⟩) := by simpa using hp
  simp [results, h, hp', asAddr, run_loadVar_row w g t ty cs fr d hg hu hd hi]
theorem results_trt {P : Program} {fn : Func} {x y p : Tmp} {ty : TypeId} (h : fn.results = #[.tmp x, .cell p ty, .tmp y]) (tmps : Array Value) (w : World) (g : Nat) (t : TypeId) (cs : Array Value) (fr : Nat × Nat) (d : TypeDesc)
    (hp : tmps.getD p undef = .pointer (some ⟨g, 0, none⟩)) (hg : w.heap[g]? = some (.cells cs t fr))
    (hu : P.underlying ty = some d) (hd : (match d with | .struct _ | .array _ _ => true | _ => false) = true) (hi : (P.info? ty).map (·.size) = some cs.size) :
    (results fn tmps).run P w = .ok (.tuple #[tmps.getD x undef, .agg cs, tmps.getD y undef]) w := by
  have hp' : tmps[p]?.getD undef = .pointer (some ⟨g, 0, none⟩) := by simpa using hp
  simp [results, h, hp', asAddr, run_loadVar_row w g t ty cs fr d hg hu hd hi]
def BatPost (B g K : Nat) (w : World) (e : Ending) (w' : World) : Prop := ∃ c : Battery, e = .returned (.agg #[.int .i64 c.capacity, .int .i64 c.charge, .int .i64 c.most]) ∧ (0 ≤ c.most ∧ c.most ≤ 1000001) ∧ Cur B w' g K ∧ w.grownBy w' (some g)
set_option maxRecDepth 100000 in
set_option maxHeartbeats 4000000 in
theorem battery_any (B g K : Nat) (w : World) (h0 : Cur B w g K) (hK : K ≤ 100000) :
    Calls Try.prog 54 #[.pointer (some ⟨g, 0, none⟩)] w (BatPost B g (K + 10) w) := by
  have hg0 := h0.lt
  have hb0 : Below w.heap.size w (w.alloc (.cells #[.int .i64 0, .int .i64 0, .int .i64 0] 30)) := (Below.refl _ _).alloc (Nat.le_refl _) _
  have hR : Own Battery.enc 3 30 w.heap.size (w.alloc (.cells #[.int .i64 0, .int .i64 0, .int .i64 0] 30)) (.slice (some ⟨w.heap.size, 0, none⟩) 1 1) [(⟨0, 0, 0⟩ : Battery)] := World.ownsRow_lit (e := 30) (size := 3) w #[.int .i64 0, .int .i64 0, .int .i64 0] 1 (Nat.le_refl _) (by decide) rfl
  have hmov : w.grownBy (w.alloc (.cells #[.int .i64 0, .int .i64 0, .int .i64 0] 30)) (some g) := moved_below hb0
  have hcur := h0.below hb0
  clear hb0 h0
  go_enter Try.func54, Try.ntmps54
  go_wp2_with fail
  refine (among_lit B g _ _ _ _ _ _ (by simp [intOf]) (by rfl) (by first | rfl | simp) (by omega) (by omega) (by assumption) (by omega)).mono ?_
  rintro e w1 ⟨x0, rfl, hx_x0, hcur, hm1⟩
  have hR := own_moved hm1 hg0 hR
  have hmov := moved_trans hmov hm1; clear hm1
  have HX0 : 1 ≤ x0 ∧ x0 ≤ 1000000 := by simp only [intsOf, intOf, List.map_cons, List.map_nil, List.mem_cons, List.not_mem_nil, or_false] at hx_x0; omega
  clear hx_x0
  go_wp2_with fail
  refine (among_lit B g _ _ _ _ _ _ (by simp [intOf]) (by rfl) (by first | rfl | simp) (by omega) (by omega) (by assumption) (by omega)).mono ?_
  rintro e w1 ⟨x2, rfl, hx_x2, hcur, hm1⟩
  have hR := own_moved hm1 hg0 hR
  have hmov := moved_trans hmov hm1; clear hm1
  have HX2 : 1 ≤ x2 ∧ x2 ≤ 1000000 := by simp only [intsOf, intOf, List.map_cons, List.map_nil, List.mem_cons, List.not_mem_nil, or_false] at hx_x2; omega
  clear hx_x2
  go_upto_region 2 with fail
  have hb1 : Below w1.heap.size w1 (w1.alloc (.cells #[.int .i64 x0, .int .i64 0, .int .i64 x2] 30)) := (Below.refl _ _).alloc (Nat.le_refl _) _
  have hX : Own Battery.enc 3 30 w.heap.size (w1.alloc (.cells #[.int .i64 x0, .int .i64 0, .int .i64 x2] 30)) (.slice (some ⟨w1.heap.size, 0, none⟩) 1 1) [(⟨x0, 0, x2⟩ : Battery)] := World.ownsRow_lit (e := 30) (size := 3) w1 #[.int .i64 x0, .int .i64 0, .int .i64 x2] 1 hmov.size (by decide) rfl
  have hne : w1.heap.size ≠ w.heap.size := Nat.ne_of_gt (hR.lt _ rfl).2
  have hle : w.heap.size ≤ w1.heap.size := hmov.size
  have hR := Own.below hR hb1; have hcur := hcur.below hb1; have hmov := moved_then hmov hb1
  clear hb1
  generalize (w1.alloc (.cells #[.int .i64 x0, .int .i64 0, .int .i64 x2] 30)) = wx at *
  generalize w1.heap.size = px at *
  obtain ⟨u0, u1, u2⟩ := Battery.one_cells hX
  go_wp2_with fail
  refine (among_lit B g _ _ _ _ _ _ (by simp [intOf]) (by rfl) (by first | rfl | simp) (by omega) (by omega) (by assumption) (by omega)).mono ?_
  rintro e w1 ⟨x1, rfl, hx_x1, hcur, hm1⟩
  have hR := own_moved hm1 hg0 hR
  have hX := own_moved hm1 hg0 hX
  have hmov := moved_trans hmov hm1; clear hm1
  clear hx_x1 u0 u1 u2
  obtain ⟨u0, u1, u2⟩ := Battery.one_cells hX
  have hXS := Own.set_cell Battery.enc_len hX rfl (k := 0) (j := 1) (c := ⟨x0, 0, x2⟩) (c' := ⟨x0, x1, x2⟩) rfl (by omega) (u := .int .i64 x1) rfl
  have hfz := Own.frozen_ hX rfl 1
  have hbs := (Below.refl w.heap.size w1).setCell (p := ⟨px, 1, none⟩) hle (.int .i64 x1)
  have hR := own_grown hR (moved_set (g := px) (j := 1) (u := .int .i64 x1) (moved_refl w1 px)) (.inl (by intro e; injection e with e; exact hne e.symm))
  have hcur := hcur.step hg0 hbs; have hmov := moved_step hmov hbs; clear hbs
  go_wp2_with fail
  have hXS : Own Battery.enc 3 30 w.heap.size (w1.setCell ⟨px, 1, none⟩ (.int .i64 x1)) (.slice (some ⟨px, 0, none⟩) 1 1) [⟨x0, x1, x2⟩] := hXS
  generalize (w1.setCell ⟨px, 1, none⟩ (.int .i64 x1)) = wS at *
  clear u0 u1 u2 hfz hX
  have hX := hXS; clear hXS
  refine (pick_any B g _ _ _ (by assumption) (by omega) (by omega) (by omega)).mono ?_
  rintro e w1 ⟨j, rfl, hj, hcur, hm1⟩
  obtain ⟨y, hy⟩ : ∃ y : Int, y = (j : Int) := ⟨_, rfl⟩
  have hR := own_moved hm1 hg0 hR
  have hX := own_moved hm1 hg0 hX
  have hmov := moved_trans hmov hm1
  rw [← hy]; clear hm1 hj hy
  by_cases y0 : y = 0
  · subst y0
    obtain ⟨u0, u1, u2⟩ := Battery.one_cells hX
    go_wp2_with fail
    clear u0 u1 u2
    refine (among_lit B g _ _ _ _ _ _ (by simp [intOf]) (by rfl) (by first | rfl | simp) (by omega) (by omega) (by assumption) (by omega)).mono ?_
    rintro e w1 ⟨y, rfl, hx_y, hcur, hm1⟩
    have hR := own_moved hm1 hg0 hR
    have hX := own_moved hm1 hg0 hX
    have hmov := moved_trans hmov hm1; clear hm1
    clear hx_y
    obtain ⟨u0, u1, u2⟩ := Battery.one_cells hX
    have hfz := Own.frozen_ hX rfl 0
    have hbs := (Below.refl w.heap.size w1).setCell (p := ⟨px, 0, none⟩) hle (.int .i64 y)
    have hR := own_grown hR (moved_set (g := px) (j := 0) (u := .int .i64 y) (moved_refl w1 px)) (.inl (by intro e; injection e with e; exact hne e.symm))
    have hcur := hcur.step hg0 hbs; have hmov := moved_step hmov hbs; clear hbs
    go_wp2_with (first | (with_reducible show wpList _ _ _ (⟨none, _, _, _, _, _⟩ :: _) _ _; refine wpList_store_mid rfl 30 (.tmp 2) (.tmp 43) rfl w.heap.size 0 _ rfl rfl (Own.there_ hR rfl (by simp)) (by kernel_rfl) (by simp [Value.oneCell']) ?_))
    have hRf := Own.set_ Battery.enc_len hR rfl (k := 0) (by simp) (⟨y, x1, x2⟩ : Battery)
    have hbs := below_setCells w.heap.size (Nat.le_refl _) (Battery.enc ⟨y, x1, x2⟩) (0 * 3) _ (Below.refl w.heap.size (w1.setCell ⟨px, 0, none⟩ (.int .i64 y)))
    have hh := Battery.one_heap hRf
    refine bodyPost_ret (results_cell_row rfl _ _ w.heap.size 30 _ (0, 0) _ rfl hh Try.underlying30 rfl (by kernel_rfl)) rfl ?_
    exact ⟨⟨y, x1, x2⟩, rfl, by show 0 ≤ x2 ∧ x2 ≤ 1000001; omega, (hcur.step hg0 hbs).mono (by omega), moved_step hmov hbs⟩
  by_cases y1 : y = 1
  · subst y1
    obtain ⟨u0, u1, u2⟩ := Battery.one_cells hX
    go_wp2_with fail
    clear u0 u1 u2
    refine (among_lit B g _ _ _ _ _ _ (by simp [intOf]) (by rfl) (by first | rfl | simp) (by omega) (by omega) (by assumption) (by omega)).mono ?_
    rintro e w1 ⟨y, rfl, hx_y, hcur, hm1⟩
    have hR := own_moved hm1 hg0 hR
    have hX := own_moved hm1 hg0 hX
    have hmov := moved_trans hmov hm1; clear hm1
    clear hx_y
    obtain ⟨u0, u1, u2⟩ := Battery.one_cells hX
    have hfz := Own.frozen_ hX rfl 1
    have hbs := (Below.refl w.heap.size w1).setCell (p := ⟨px, 1, none⟩) hle (.int .i64 y)
    have hR := own_grown hR (moved_set (g := px) (j := 1) (u := .int .i64 y) (moved_refl w1 px)) (.inl (by intro e; injection e with e; exact hne e.symm))
    have hcur := hcur.step hg0 hbs; have hmov := moved_step hmov hbs; clear hbs
    go_wp2_with (first | (with_reducible show wpList _ _ _ (⟨none, _, _, _, _, _⟩ :: _) _ _; refine wpList_store_mid rfl 30 (.tmp 2) (.tmp 43) rfl w.heap.size 0 _ rfl rfl (Own.there_ hR rfl (by simp)) (by kernel_rfl) (by simp [Value.oneCell']) ?_))
    have hRf := Own.set_ Battery.enc_len hR rfl (k := 0) (by simp) (⟨x0, y, x2⟩ : Battery)
    have hbs := below_setCells w.heap.size (Nat.le_refl _) (Battery.enc ⟨x0, y, x2⟩) (0 * 3) _ (Below.refl w.heap.size (w1.setCell ⟨px, 1, none⟩ (.int .i64 y)))
    have hh := Battery.one_heap hRf
    refine bodyPost_ret (results_cell_row rfl _ _ w.heap.size 30 _ (0, 0) _ rfl hh Try.underlying30 rfl (by kernel_rfl)) rfl ?_
    exact ⟨⟨x0, y, x2⟩, rfl, by show 0 ≤ x2 ∧ x2 ≤ 1000001; omega, (hcur.step hg0 hbs).mono (by omega), moved_step hmov hbs⟩
  by_cases y2 : y = 2
  · subst y2
    obtain ⟨u0, u1, u2⟩ := Battery.one_cells hX
    go_wp2_with fail
    clear u0 u1 u2
    refine (among_lit B g _ _ _ _ _ _ (by simp [intOf]) (by rfl) (by first | rfl | simp) (by omega) (by omega) (by assumption) (by omega)).mono ?_
    rintro e w1 ⟨y, rfl, hx_y, hcur, hm1⟩
    have hR := own_moved hm1 hg0 hR
    have hX := own_moved hm1 hg0 hX
    have hmov := moved_trans hmov hm1; clear hm1
    have HY : 0 ≤ y ∧ y ≤ 1000001 := by simp only [intsOf, intOf, List.map_cons, List.map_nil, List.mem_cons, List.not_mem_nil, or_false] at hx_y; omega
    clear hx_y
    obtain ⟨u0, u1, u2⟩ := Battery.one_cells hX
    have hfz := Own.frozen_ hX rfl 2
    have hbs := (Below.refl w.heap.size w1).setCell (p := ⟨px, 2, none⟩) hle (.int .i64 y)
    have hR := own_grown hR (moved_set (g := px) (j := 2) (u := .int .i64 y) (moved_refl w1 px)) (.inl (by intro e; injection e with e; exact hne e.symm))
    have hcur := hcur.step hg0 hbs; have hmov := moved_step hmov hbs; clear hbs
    go_wp2_with (first | (with_reducible show wpList _ _ _ (⟨none, _, _, _, _, _⟩ :: _) _ _; refine wpList_store_mid rfl 30 (.tmp 2) (.tmp 43) rfl w.heap.size 0 _ rfl rfl (Own.there_ hR rfl (by simp)) (by kernel_rfl) (by simp [Value.oneCell']) ?_))
    have hRf := Own.set_ Battery.enc_len hR rfl (k := 0) (by simp) (⟨x0, x1, y⟩ : Battery)
    have hbs := below_setCells w.heap.size (Nat.le_refl _) (Battery.enc ⟨x0, x1, y⟩) (0 * 3) _ (Below.refl w.heap.size (w1.setCell ⟨px, 2, none⟩ (.int .i64 y)))
    have hh := Battery.one_heap hRf
    refine bodyPost_ret (results_cell_row rfl _ _ w.heap.size 30 _ (0, 0) _ rfl hh Try.underlying30 rfl (by kernel_rfl)) rfl ?_
    exact ⟨⟨x0, x1, y⟩, rfl, HY, (hcur.step hg0 hbs).mono (by omega), moved_step hmov hbs⟩
  have e0 : (y == 0) = false := by simpa using y0
  have e1 : (y == 1) = false := by simpa using y1
  have e2 : (y == 2) = false := by simpa using y2
  clear y0 y1 y2
  obtain ⟨u0, u1, u2⟩ := Battery.one_cells hX
  go_wp2_with (first | (with_reducible show wpList _ _ _ (⟨none, _, _, _, _, _⟩ :: _) _ _; refine wpList_store_mid rfl 30 (.tmp 2) (.tmp 43) rfl w.heap.size 0 _ rfl rfl (Own.there_ hR rfl (by simp)) (by kernel_rfl) (by simp [Value.oneCell']) ?_))
  have hRf := Own.set_ Battery.enc_len hR rfl (k := 0) (by simp) (⟨x0, x1, x2⟩ : Battery)
  have hbs := below_setCells w.heap.size (Nat.le_refl _) (Battery.enc ⟨x0, x1, x2⟩) (0 * 3) _ (Below.refl w.heap.size w1)
  have hh := Battery.one_heap hRf
  refine bodyPost_ret (results_cell_row rfl _ _ w.heap.size 30 _ (0, 0) _ rfl hh Try.underlying30 rfl (by kernel_rfl)) rfl ?_
  exact ⟨⟨x0, x1, x2⟩, rfl, by show 0 ≤ x2 ∧ x2 ≤ 1000001; omega, (hcur.step hg0 hbs).mono (by omega), moved_step hmov hbs⟩
theorem store_keep {X : World} {p r : Nat} {u0 u1 u2 v0 v1 v2 : Value} (hne : p ≠ r) (h : X.cell? ⟨p, 0, none⟩ = some v0 ∧ X.cell? ⟨p, 1, none⟩ = some v1 ∧ X.cell? ⟨p, 2, none⟩ = some v2) :
    (((X.setCell ⟨r, 0, none⟩ u0).setCell ⟨r, 1, none⟩ u1).setCell ⟨r, 2, none⟩ u2).cell? ⟨p, 0, none⟩ = some v0 ∧ (((X.setCell ⟨r, 0, none⟩ u0).setCell ⟨r, 1, none⟩ u1).setCell ⟨r, 2, none⟩ u2).cell? ⟨p, 1, none⟩ = some v1 ∧ (((X.setCell ⟨r, 0, none⟩ u0).setCell ⟨r, 1, none⟩ u1).setCell ⟨r, 2, none⟩ u2).cell? ⟨p, 2, none⟩ = some v2 := by
  have hm := moved_set (u := u2) (j := 2) (moved_set (u := u1) (j := 1) (moved_set (u := u0) (j := 0) (moved_refl X r)))
  exact ⟨moved_cell hm hne h.1, moved_cell hm hne h.2.1, moved_cell hm hne h.2.2⟩
def BxDraw (w : World) (e : Ending) (w' : World) : Prop := ∃ (b : Battery) (x : Int), e = .returned (.tuple #[.agg #[.int .i64 b.capacity, .int .i64 b.charge, .int .i64 b.most], .int .i64 x]) ∧ Below w.heap.size w w'
def BxyDraw (w : World) (e : Ending) (w' : World) : Prop := ∃ (b : Battery) (x y : Int), e = .returned (.tuple #[.agg #[.int .i64 b.capacity, .int .i64 b.charge, .int .i64 b.most], .int .i64 x, .int .i64 y]) ∧ Below w.heap.size w w'
def CsBxDraw (w : World) (e : Ending) (w' : World) : Prop := ∃ (A : Option Addr) (n c : Nat) (L : List Consumer) (b : Battery) (x : Int), e = .returned (.tuple #[.slice A n c, .agg #[.int .i64 b.capacity, .int .i64 b.charge, .int .i64 b.most], .int .i64 x]) ∧ CsOf A n c L w w'
set_option maxRecDepth 100000 in
set_option maxHeartbeats 4000000 in
theorem DrawMinutesLeft_any (A : Option Addr) (Lc : List Int) (cap : Nat) (w : World) (hc : CodeIs w A Lc) :
    Calls Try.prog 15 #[.slice A Lc.length cap] w (BxDraw w) := by
  have hbz : Below w.heap.size w (w.alloc (.cells #[.int .i64 0, .int .i64 0, .int .i64 0] 30)) := (Below.refl _ _).alloc (Nat.le_refl _) _
  have hR : Own Battery.enc 3 30 w.heap.size (w.alloc (.cells #[.int .i64 0, .int .i64 0, .int .i64 0] 30)) (.slice (some ⟨w.heap.size, 0, none⟩) 1 1) [(⟨0, 0, 0⟩ : Battery)] := World.ownsRow_lit (e := 30) (size := 3) w #[.int .i64 0, .int .i64 0, .int .i64 0] 1 (Nat.le_refl _) (by decide) rfl
  have hzs : (w.alloc (.cells #[.int .i64 0, .int .i64 0, .int .i64 0] 30)).heap.size = w.heap.size + 1 := by simp
  have hcur := cur_new (hc.later hbz) cap
  rw [hzs] at hcur
  have hb1 : Below (w.alloc (.cells #[.int .i64 0, .int .i64 0, .int .i64 0] 30)).heap.size (w.alloc (.cells #[.int .i64 0, .int .i64 0, .int .i64 0] 30)) ((w.alloc (.cells #[.int .i64 0, .int .i64 0, .int .i64 0] 30)).alloc (.cells #[.slice A Lc.length cap, .int .i64 0, .int .u64 0] 77)) := (Below.refl _ _).alloc (Nat.le_refl _) _
  have hR := Own.below hR hb1
  have HB := below_step hbz hb1 (Nat.le_refl _)
  have hg0 := hcur.lt
  have HZ0 := hide (show ((w.alloc (.cells #[.int .i64 0, .int .i64 0, .int .i64 0] 30)).alloc (.cells #[.slice A Lc.length cap, .int .i64 0, .int .u64 0] 77)).heap.size = w.heap.size + 2 by simp)
  clear hb1 hbz
  go_enter Try.func15, Try.ntmps15
  go_wp2_with fail
  generalize ((w.alloc (.cells #[.int .i64 0, .int .i64 0, .int .i64 0] 30)).alloc (.cells #[.slice A Lc.length cap, .int .i64 0, .int .u64 0] 77)) = w0 at *
  refine (battery_any _ _ _ _ (by assumption) (by omega)).mono ?_
  rintro e w1 ⟨b, rfl, hmost, hcur, hm⟩
  have hR := own_grown hR hm (.inl (by intro e; have e2 : some w.heap.size = some (w.heap.size + 1) := e; injection e2 with e2; omega))
  have HB := HB.trans (below_moved hm (by omega) (by omega)); have hs1 := hm.size; clear hm
  obtain ⟨z0, z1, z2⟩ := Battery.box_after w1 b 30 ⟨_, Below.refl _ _⟩
  have hb2 : Below w1.heap.size w1 (w1.alloc (.cells #[.int .i64 b.capacity, .int .i64 b.charge, .int .i64 b.most] 30)) := (Below.refl _ _).alloc (Nat.le_refl _) _
  go_upto_region 3 with fail
  have hsx : (w1.alloc (.cells #[.int .i64 b.capacity, .int .i64 b.charge, .int .i64 b.most] 30)).heap.size = w1.heap.size + 1 := by simp
  have hcur := hcur.below hb2; have hR := Own.below hR hb2; have HB := below_step HB hb2 (by omega); clear hb2
  generalize (w1.alloc (.cells #[.int .i64 b.capacity, .int .i64 b.charge, .int .i64 b.most] 30)) = wx at *
  have hpx : w1.heap.size ≠ w.heap.size + 1 := by omega
  have hpr : w1.heap.size ≠ w.heap.size := by omega
  have hge : w.heap.size + 1 ≤ w1.heap.size := by omega
  generalize w1.heap.size = px at z0 z1 z2 hsx hpx hpr hge ⊢
  have HF := hide (fun (X : World) (hX : wx.grownBy X (some (w.heap.size + 1))) => show X.cell? ⟨px, 0, none⟩ = some (.int .i64 b.capacity) ∧ X.cell? ⟨px, 1, none⟩ = some (.int .i64 b.charge) ∧ X.cell? ⟨px, 2, none⟩ = some (.int .i64 b.most) from ⟨moved_cell hX hpx z0, moved_cell hX hpx z1, moved_cell hX hpx z2⟩)
  go_region_held3 (fun w' => w'.cell? ⟨px, 0, none⟩ = some (.int .i64 b.capacity) ∧ w'.cell? ⟨px, 1, none⟩ = some (.int .i64 b.charge) ∧ w'.cell? ⟨px, 2, none⟩ = some (.int .i64 b.most)) (first | exact HF.out _ (by first | assumption | exact moved_refl _ _ | exact moved_drew (by assumption) | exact moved_drew (moved_refl _ _)) | exact store_keep hpr (HF.out _ (by first | assumption | exact moved_refl _ _ | exact moved_drew (by assumption) | exact moved_drew (moved_refl _ _)))) (first | (go_at_call 56; refine (watts_any _ _ _ _ (by first | assumption | exact Cur.below (by assumption) (Below.refl _ _).drew) (by omega)).mono ?_; rintro e w2 ⟨x, rfl, hx, hcur, hm1⟩; have HM := moved_trans (show wx.grownBy _ (some (w.heap.size + 1)) from (by first | assumption | exact moved_refl _ _ | exact moved_drew (by assumption) | exact moved_drew (moved_refl _ _))) hm1; clear hm1; obtain ⟨r0, r1, r2⟩ := Battery.one_cells (own_grown hR HM (.inl (by intro e; have e2 : some w.heap.size = some (w.heap.size + 1) := e; injection e2 with e2; omega))); have f0 := Own.frozen_ (own_grown hR HM (.inl (by intro e; have e2 : some w.heap.size = some (w.heap.size + 1) := e; injection e2 with e2; omega))) rfl 0; have f1 := Own.frozen_ (own_grown hR HM (.inl (by intro e; have e2 : some w.heap.size = some (w.heap.size + 1) := e; injection e2 with e2; omega))) rfl 1; have f2 := Own.frozen_ (own_grown hR HM (.inl (by intro e; have e2 : some w.heap.size = some (w.heap.size + 1) := e; injection e2 with e2; omega))) rfl 2) | (go_at_call 57; refine (pick_any _ _ _ _ _ (by first | assumption | exact Cur.below (by assumption) (Below.refl _ _).drew) (by omega) (by omega) (by omega)).mono ?_; rintro e w2 ⟨j, rfl, hj, hcur, hm1⟩; have hq0 : 0 ≤ (j : Int) / 19 := (by omega); have hq1 : (j : Int) / 19 ≤ 1 := (by omega); have hqw : IntKind.i64.wrap ((j : Int) / 19) = (j : Int) / 19 := (by rw [IntKind.wrap_i64]; omega); have HM := moved_trans (show wx.grownBy _ (some (w.heap.size + 1)) from (by first | assumption | exact moved_refl _ _ | exact moved_drew (by assumption) | exact moved_drew (moved_refl _ _))) hm1; clear hm1; obtain ⟨r0, r1, r2⟩ := Battery.one_cells (own_grown hR HM (.inl (by intro e; have e2 : some w.heap.size = some (w.heap.size + 1) := e; injection e2 with e2; omega))); have f0 := Own.frozen_ (own_grown hR HM (.inl (by intro e; have e2 : some w.heap.size = some (w.heap.size + 1) := e; injection e2 with e2; omega))) rfl 0; have f1 := Own.frozen_ (own_grown hR HM (.inl (by intro e; have e2 : some w.heap.size = some (w.heap.size + 1) := e; injection e2 with e2; omega))) rfl 1; have f2 := Own.frozen_ (own_grown hR HM (.inl (by intro e; have e2 : some w.heap.size = some (w.heap.size + 1) := e; injection e2 with e2; omega))) rfl 2) | (go_at_call 55; refine (l1Least_any _ _ _).mono ?_; rintro e w2 ⟨rfl, rfl⟩))
  have hR2 := own_grown hR HM (.inl (by intro e; have e2 : some w.heap.size = some (w.heap.size + 1) := e; injection e2 with e2; omega))
  have hRf : Own Battery.enc 3 30 w.heap.size (((w2.setCell ⟨w.heap.size, 0, none⟩ (.int .i64 b.capacity)).setCell ⟨w.heap.size, 1, none⟩ (.int .i64 b.charge)).setCell ⟨w.heap.size, 2, none⟩ (.int .i64 b.most)) (.slice (some ⟨w.heap.size, 0, none⟩) 1 1) [b] := Own.set_ Battery.enc_len hR2 rfl (k := 0) (by simp) b
  have hh := Battery.one_heap hRf
  have HB2 : Below w.heap.size w (((w2.setCell ⟨w.heap.size, 0, none⟩ (.int .i64 b.capacity)).setCell ⟨w.heap.size, 1, none⟩ (.int .i64 b.charge)).setCell ⟨w.heap.size, 2, none⟩ (.int .i64 b.most)) := below_setCells w.heap.size (Nat.le_refl _) (Battery.enc b) 0 _ (HB.trans (below_moved HM (by omega) (by omega)))
  go_wp2_with fail
  refine bodyPost_ret (results_rt rfl _ _ w.heap.size 30 _ (0, 0) _ rfl hh Try.underlying30 rfl (by kernel_rfl)) rfl ?_
  exact ⟨b, _, rfl, HB2⟩
set_option maxRecDepth 100000 in
set_option maxHeartbeats 4000000 in
theorem DrawTakeOut_any (A : Option Addr) (Lc : List Int) (cap : Nat) (w : World) (hc : CodeIs w A Lc) :
    Calls Try.prog 19 #[.slice A Lc.length cap] w (BxyDraw w) := by
  have hbz : Below w.heap.size w (w.alloc (.cells #[.int .i64 0, .int .i64 0, .int .i64 0] 30)) := (Below.refl _ _).alloc (Nat.le_refl _) _
  have hR : Own Battery.enc 3 30 w.heap.size (w.alloc (.cells #[.int .i64 0, .int .i64 0, .int .i64 0] 30)) (.slice (some ⟨w.heap.size, 0, none⟩) 1 1) [(⟨0, 0, 0⟩ : Battery)] := World.ownsRow_lit (e := 30) (size := 3) w #[.int .i64 0, .int .i64 0, .int .i64 0] 1 (Nat.le_refl _) (by decide) rfl
  have hzs : (w.alloc (.cells #[.int .i64 0, .int .i64 0, .int .i64 0] 30)).heap.size = w.heap.size + 1 := by simp
  have hcur := cur_new (hc.later hbz) cap
  rw [hzs] at hcur
  have hb1 : Below (w.alloc (.cells #[.int .i64 0, .int .i64 0, .int .i64 0] 30)).heap.size (w.alloc (.cells #[.int .i64 0, .int .i64 0, .int .i64 0] 30)) ((w.alloc (.cells #[.int .i64 0, .int .i64 0, .int .i64 0] 30)).alloc (.cells #[.slice A Lc.length cap, .int .i64 0, .int .u64 0] 77)) := (Below.refl _ _).alloc (Nat.le_refl _) _
  have hR := Own.below hR hb1
  have HB := below_step hbz hb1 (Nat.le_refl _)
  have hg0 := hcur.lt
  have HZ0 := hide (show ((w.alloc (.cells #[.int .i64 0, .int .i64 0, .int .i64 0] 30)).alloc (.cells #[.slice A Lc.length cap, .int .i64 0, .int .u64 0] 77)).heap.size = w.heap.size + 2 by simp)
  clear hb1 hbz
  go_enter Try.func19, Try.ntmps19
  go_wp2_with fail
  generalize ((w.alloc (.cells #[.int .i64 0, .int .i64 0, .int .i64 0] 30)).alloc (.cells #[.slice A Lc.length cap, .int .i64 0, .int .u64 0] 77)) = w0 at *
  refine (battery_any _ _ _ _ (by assumption) (by omega)).mono ?_
  rintro e w1 ⟨b, rfl, hmost, hcur, hm⟩
  have hR := own_grown hR hm (.inl (by intro e; have e2 : some w.heap.size = some (w.heap.size + 1) := e; injection e2 with e2; omega))
  have HB := HB.trans (below_moved hm (by omega) (by omega)); have hs1 := hm.size; clear hm
  obtain ⟨z0, z1, z2⟩ := Battery.box_after w1 b 30 ⟨_, Below.refl _ _⟩
  have hb2 : Below w1.heap.size w1 (w1.alloc (.cells #[.int .i64 b.capacity, .int .i64 b.charge, .int .i64 b.most] 30)) := (Below.refl _ _).alloc (Nat.le_refl _) _
  go_upto_region 3 with fail
  have hsx : (w1.alloc (.cells #[.int .i64 b.capacity, .int .i64 b.charge, .int .i64 b.most] 30)).heap.size = w1.heap.size + 1 := by simp
  have hcur := hcur.below hb2; have hR := Own.below hR hb2; have HB := below_step HB hb2 (by omega); clear hb2
  generalize (w1.alloc (.cells #[.int .i64 b.capacity, .int .i64 b.charge, .int .i64 b.most] 30)) = wx at *
  have hpx : w1.heap.size ≠ w.heap.size + 1 := by omega
  have hpr : w1.heap.size ≠ w.heap.size := by omega
  have hge : w.heap.size + 1 ≤ w1.heap.size := by omega
  generalize w1.heap.size = px at z0 z1 z2 hsx hpx hpr hge ⊢
  have HF := hide (fun (X : World) (hX : wx.grownBy X (some (w.heap.size + 1))) => show X.cell? ⟨px, 0, none⟩ = some (.int .i64 b.capacity) ∧ X.cell? ⟨px, 1, none⟩ = some (.int .i64 b.charge) ∧ X.cell? ⟨px, 2, none⟩ = some (.int .i64 b.most) from ⟨moved_cell hX hpx z0, moved_cell hX hpx z1, moved_cell hX hpx z2⟩)
  go_region_held3 (fun w' => w'.cell? ⟨px, 0, none⟩ = some (.int .i64 b.capacity) ∧ w'.cell? ⟨px, 1, none⟩ = some (.int .i64 b.charge) ∧ w'.cell? ⟨px, 2, none⟩ = some (.int .i64 b.most)) (first | exact HF.out _ (by first | assumption | exact moved_refl _ _ | exact moved_drew (by assumption) | exact moved_drew (moved_refl _ _)) | exact store_keep hpr (HF.out _ (by first | assumption | exact moved_refl _ _ | exact moved_drew (by assumption) | exact moved_drew (moved_refl _ _)))) (first | (go_at_call 56; refine (watts_any _ _ _ _ (by first | assumption | exact Cur.below (by assumption) (Below.refl _ _).drew) (by omega)).mono ?_; rintro e w2 ⟨x, rfl, hx, hcur, hm1⟩; have HM := moved_trans (show wx.grownBy _ (some (w.heap.size + 1)) from (by first | assumption | exact moved_refl _ _ | exact moved_drew (by assumption) | exact moved_drew (moved_refl _ _))) hm1; clear hm1; obtain ⟨r0, r1, r2⟩ := Battery.one_cells (own_grown hR HM (.inl (by intro e; have e2 : some w.heap.size = some (w.heap.size + 1) := e; injection e2 with e2; omega))); have f0 := Own.frozen_ (own_grown hR HM (.inl (by intro e; have e2 : some w.heap.size = some (w.heap.size + 1) := e; injection e2 with e2; omega))) rfl 0; have f1 := Own.frozen_ (own_grown hR HM (.inl (by intro e; have e2 : some w.heap.size = some (w.heap.size + 1) := e; injection e2 with e2; omega))) rfl 1; have f2 := Own.frozen_ (own_grown hR HM (.inl (by intro e; have e2 : some w.heap.size = some (w.heap.size + 1) := e; injection e2 with e2; omega))) rfl 2) | (go_at_call 57; refine (pick_any _ _ _ _ _ (by first | assumption | exact Cur.below (by assumption) (Below.refl _ _).drew) (by omega) (by omega) (by omega)).mono ?_; rintro e w2 ⟨j, rfl, hj, hcur, hm1⟩; have hq0 : 0 ≤ (j : Int) / 19 := (by omega); have hq1 : (j : Int) / 19 ≤ 1 := (by omega); have hqw : IntKind.i64.wrap ((j : Int) / 19) = (j : Int) / 19 := (by rw [IntKind.wrap_i64]; omega); have HM := moved_trans (show wx.grownBy _ (some (w.heap.size + 1)) from (by first | assumption | exact moved_refl _ _ | exact moved_drew (by assumption) | exact moved_drew (moved_refl _ _))) hm1; clear hm1; obtain ⟨r0, r1, r2⟩ := Battery.one_cells (own_grown hR HM (.inl (by intro e; have e2 : some w.heap.size = some (w.heap.size + 1) := e; injection e2 with e2; omega))); have f0 := Own.frozen_ (own_grown hR HM (.inl (by intro e; have e2 : some w.heap.size = some (w.heap.size + 1) := e; injection e2 with e2; omega))) rfl 0; have f1 := Own.frozen_ (own_grown hR HM (.inl (by intro e; have e2 : some w.heap.size = some (w.heap.size + 1) := e; injection e2 with e2; omega))) rfl 1; have f2 := Own.frozen_ (own_grown hR HM (.inl (by intro e; have e2 : some w.heap.size = some (w.heap.size + 1) := e; injection e2 with e2; omega))) rfl 2) | (go_at_call 55; refine (l1Least_any _ _ _).mono ?_; rintro e w2 ⟨rfl, rfl⟩) | (go_at_call 59; refine (minutes_any _ _ _ _ (by first | assumption | exact Cur.below (by assumption) (Below.refl _ _).drew) (by omega)).mono ?_; rintro e w2 ⟨y, rfl, hy, hcur, hm1⟩; have HM := moved_trans (show wx.grownBy _ (some (w.heap.size + 1)) from (by first | assumption | exact moved_refl _ _ | exact moved_drew (by assumption) | exact moved_drew (moved_refl _ _))) hm1; clear hm1; obtain ⟨r0, r1, r2⟩ := Battery.one_cells (own_grown hR HM (.inl (by intro e; have e2 : some w.heap.size = some (w.heap.size + 1) := e; injection e2 with e2; omega))); have f0 := Own.frozen_ (own_grown hR HM (.inl (by intro e; have e2 : some w.heap.size = some (w.heap.size + 1) := e; injection e2 with e2; omega))) rfl 0; have f1 := Own.frozen_ (own_grown hR HM (.inl (by intro e; have e2 : some w.heap.size = some (w.heap.size + 1) := e; injection e2 with e2; omega))) rfl 1; have f2 := Own.frozen_ (own_grown hR HM (.inl (by intro e; have e2 : some w.heap.size = some (w.heap.size + 1) := e; injection e2 with e2; omega))) rfl 2))
  have hR2 := own_grown hR HM (.inl (by intro e; have e2 : some w.heap.size = some (w.heap.size + 1) := e; injection e2 with e2; omega))
  have hRf : Own Battery.enc 3 30 w.heap.size (((w2.setCell ⟨w.heap.size, 0, none⟩ (.int .i64 b.capacity)).setCell ⟨w.heap.size, 1, none⟩ (.int .i64 b.charge)).setCell ⟨w.heap.size, 2, none⟩ (.int .i64 b.most)) (.slice (some ⟨w.heap.size, 0, none⟩) 1 1) [b] := Own.set_ Battery.enc_len hR2 rfl (k := 0) (by simp) b
  have hh := Battery.one_heap hRf
  have HB2 : Below w.heap.size w (((w2.setCell ⟨w.heap.size, 0, none⟩ (.int .i64 b.capacity)).setCell ⟨w.heap.size, 1, none⟩ (.int .i64 b.charge)).setCell ⟨w.heap.size, 2, none⟩ (.int .i64 b.most)) := below_setCells w.heap.size (Nat.le_refl _) (Battery.enc b) 0 _ (HB.trans (below_moved HM (by omega) (by omega)))
  go_wp2_with fail
  refine bodyPost_ret (results_rtt rfl _ _ w.heap.size 30 _ (0, 0) _ rfl hh Try.underlying30 rfl (by kernel_rfl)) rfl ?_
  exact ⟨b, _, _, rfl, HB2⟩
set_option maxRecDepth 100000 in
set_option maxHeartbeats 4000000 in
theorem DrawLongestRank_any (A : Option Addr) (Lc : List Int) (cap : Nat) (w : World) (hc : CodeIs w A Lc) :
    Calls Try.prog 24 #[.slice A Lc.length cap] w (CsBxDraw w) := by
  have hbz : Below w.heap.size w (w.alloc (.cells #[.int .i64 0, .int .i64 0, .int .i64 0] 30)) := (Below.refl _ _).alloc (Nat.le_refl _) _
  have hR : Own Battery.enc 3 30 w.heap.size (w.alloc (.cells #[.int .i64 0, .int .i64 0, .int .i64 0] 30)) (.slice (some ⟨w.heap.size, 0, none⟩) 1 1) [(⟨0, 0, 0⟩ : Battery)] := World.ownsRow_lit (e := 30) (size := 3) w #[.int .i64 0, .int .i64 0, .int .i64 0] 1 (Nat.le_refl _) (by decide) rfl
  have hzs : (w.alloc (.cells #[.int .i64 0, .int .i64 0, .int .i64 0] 30)).heap.size = w.heap.size + 1 := by simp
  have hcur := cur_new (hc.later hbz) cap
  rw [hzs] at hcur
  have hb1 : Below (w.alloc (.cells #[.int .i64 0, .int .i64 0, .int .i64 0] 30)).heap.size (w.alloc (.cells #[.int .i64 0, .int .i64 0, .int .i64 0] 30)) ((w.alloc (.cells #[.int .i64 0, .int .i64 0, .int .i64 0] 30)).alloc (.cells #[.slice A Lc.length cap, .int .i64 0, .int .u64 0] 77)) := (Below.refl _ _).alloc (Nat.le_refl _) _
  have hR := Own.below hR hb1
  have HB := below_step hbz hb1 (Nat.le_refl _)
  have hg0 := hcur.lt
  have HZ0 := hide (show ((w.alloc (.cells #[.int .i64 0, .int .i64 0, .int .i64 0] 30)).alloc (.cells #[.slice A Lc.length cap, .int .i64 0, .int .u64 0] 77)).heap.size = w.heap.size + 2 by simp)
  clear hb1 hbz
  go_enter Try.func24, Try.ntmps24
  go_wp2_with fail
  generalize ((w.alloc (.cells #[.int .i64 0, .int .i64 0, .int .i64 0] 30)).alloc (.cells #[.slice A Lc.length cap, .int .i64 0, .int .u64 0] 77)) = w0 at *
  refine (consumers_any _ _ _ _ (by assumption) (by omega)).mono ?_
  rintro e w1 ⟨AL, cL, nL, L, rfl, hLL, hownL, hzL, hcur, hm⟩
  have hR := own_grown hR hm (.inl (by intro e; have e2 : some w.heap.size = some (w.heap.size + 1) := e; injection e2 with e2; omega)); have HB := HB.trans (below_moved hm (by omega) (by omega)); have hs0 := hm.size; clear hm
  go_wp2_with fail
  refine (battery_any _ _ _ _ (by assumption) (by omega)).mono ?_
  rintro e w1 ⟨b, rfl, hmost, hcur, hm⟩
  have hR := own_grown hR hm (.inl (by intro e; have e2 : some w.heap.size = some (w.heap.size + 1) := e; injection e2 with e2; omega))
  have hownL := own_moved hm (by omega) hownL; have HB := HB.trans (below_moved hm (by omega) (by omega)); have hs1 := hm.size; clear hm
  obtain ⟨z0, z1, z2⟩ := Battery.box_after w1 b 30 ⟨_, Below.refl _ _⟩
  have hb2 : Below w1.heap.size w1 (w1.alloc (.cells #[.int .i64 b.capacity, .int .i64 b.charge, .int .i64 b.most] 30)) := (Below.refl _ _).alloc (Nat.le_refl _) _
  go_upto_region 4 with fail
  have hsx : (w1.alloc (.cells #[.int .i64 b.capacity, .int .i64 b.charge, .int .i64 b.most] 30)).heap.size = w1.heap.size + 1 := by simp
  have hcur := hcur.below hb2; have hR := Own.below hR hb2; have hownL := Own.below hownL hb2; have HB := below_step HB hb2 (by omega); clear hb2
  generalize (w1.alloc (.cells #[.int .i64 b.capacity, .int .i64 b.charge, .int .i64 b.most] 30)) = wx at *
  have hpx : w1.heap.size ≠ w.heap.size + 1 := by omega
  have hpr : w1.heap.size ≠ w.heap.size := by omega
  have hge : w.heap.size + 1 ≤ w1.heap.size := by omega
  generalize w1.heap.size = px at z0 z1 z2 hsx hpx hpr hge ⊢
  have HF := hide (fun (X : World) (hX : wx.grownBy X (some (w.heap.size + 1))) => show X.cell? ⟨px, 0, none⟩ = some (.int .i64 b.capacity) ∧ X.cell? ⟨px, 1, none⟩ = some (.int .i64 b.charge) ∧ X.cell? ⟨px, 2, none⟩ = some (.int .i64 b.most) from ⟨moved_cell hX hpx z0, moved_cell hX hpx z1, moved_cell hX hpx z2⟩)
  go_region_held3 (fun w' => w'.cell? ⟨px, 0, none⟩ = some (.int .i64 b.capacity) ∧ w'.cell? ⟨px, 1, none⟩ = some (.int .i64 b.charge) ∧ w'.cell? ⟨px, 2, none⟩ = some (.int .i64 b.most)) (first | exact HF.out _ (by first | assumption | exact moved_refl _ _ | exact moved_drew (by assumption) | exact moved_drew (moved_refl _ _)) | exact store_keep hpr (HF.out _ (by first | assumption | exact moved_refl _ _ | exact moved_drew (by assumption) | exact moved_drew (moved_refl _ _)))) (first | (go_at_call 59; refine (minutes_any _ _ _ _ (by first | assumption | exact Cur.below (by assumption) (Below.refl _ _).drew) (by omega)).mono ?_; rintro e w2 ⟨y, rfl, hy, hcur, hm1⟩; have HM := moved_trans (show wx.grownBy _ (some (w.heap.size + 1)) from (by first | assumption | exact moved_refl _ _ | exact moved_drew (by assumption) | exact moved_drew (moved_refl _ _))) hm1; clear hm1; obtain ⟨r0, r1, r2⟩ := Battery.one_cells (own_grown hR HM (.inl (by intro e; have e2 : some w.heap.size = some (w.heap.size + 1) := e; injection e2 with e2; omega))); have f0 := Own.frozen_ (own_grown hR HM (.inl (by intro e; have e2 : some w.heap.size = some (w.heap.size + 1) := e; injection e2 with e2; omega))) rfl 0; have f1 := Own.frozen_ (own_grown hR HM (.inl (by intro e; have e2 : some w.heap.size = some (w.heap.size + 1) := e; injection e2 with e2; omega))) rfl 1; have f2 := Own.frozen_ (own_grown hR HM (.inl (by intro e; have e2 : some w.heap.size = some (w.heap.size + 1) := e; injection e2 with e2; omega))) rfl 2))
  have hR2 := own_grown hR HM (.inl (by intro e; have e2 : some w.heap.size = some (w.heap.size + 1) := e; injection e2 with e2; omega))
  have hRf : Own Battery.enc 3 30 w.heap.size (((w2.setCell ⟨w.heap.size, 0, none⟩ (.int .i64 b.capacity)).setCell ⟨w.heap.size, 1, none⟩ (.int .i64 b.charge)).setCell ⟨w.heap.size, 2, none⟩ (.int .i64 b.most)) (.slice (some ⟨w.heap.size, 0, none⟩) 1 1) [b] := Own.set_ Battery.enc_len hR2 rfl (k := 0) (by simp) b
  have hh := Battery.one_heap hRf
  have HB2 : Below w.heap.size w (((w2.setCell ⟨w.heap.size, 0, none⟩ (.int .i64 b.capacity)).setCell ⟨w.heap.size, 1, none⟩ (.int .i64 b.charge)).setCell ⟨w.heap.size, 2, none⟩ (.int .i64 b.most)) := below_setCells w.heap.size (Nat.le_refl _) (Battery.enc b) 0 _ (HB.trans (below_moved HM (by omega) (by omega)))
  go_wp2_with fail
  refine bodyPost_ret (results_trt rfl _ _ w.heap.size 30 _ (0, 0) _ rfl hh Try.underlying30 rfl (by kernel_rfl)) rfl ?_
  have hownL := own_far (own_moved HM (by omega) hownL) (show w.heap.size < _ by omega) 0 (Battery.enc b)
  exact ⟨_, _, _, _, b, _, rfl, cs_of hLL hownL hzL HB2⟩
end Go.Proofs.Ytafefnpmgpmjpaa
