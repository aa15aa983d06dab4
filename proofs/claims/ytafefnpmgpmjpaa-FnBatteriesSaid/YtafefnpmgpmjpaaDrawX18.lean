/- The drawers of chapter 18: a supply, a power, minutes; Draw functions. -/
import Derived.Test.YtafefnpmgpmjpaaDrawCs
import Derived.Test.YtafefnpmgpmjpaaCons
namespace Go.Proofs.Ytafefnpmgpmjpaa
open Go Go.RowKit
set_option linter.unusedVariables false
set_option linter.unusedSimpArgs false
theorem among_cut (B g K m n : Nat) (cs : Array Value) (T : TypeId) (W w1 : World) (hcs : ∀ v ∈ cs.toList, v = .int .i64 (intOf v)) (hn : cs.size = n) (hm0 : 0 < m) (hmn : m ≤ n) (hn2 : n ≤ 200) (hg : g < W.heap.size) (hm1 : (W.alloc (.cells cs T)).grownBy w1 (some g)) (h : Cur B w1 g K) (hK : K ≤ 1000000000) :
    Calls Try.prog 62 #[.pointer (some ⟨g, 0, none⟩), .slice (some ⟨W.heap.size, 0, none⟩) m n] w1 (AmongPost B g (K + 1) w1 ((intsOf cs).take m)) := by
  have hln : ((intsOf cs).take m).length = m := by rw [List.length_take, intsOf, List.length_map, Array.length_toList]; omega
  have hA := among_any B g K W.heap.size 0 n ((intsOf cs).take m) w1 h hK (by omega) (by omega) (Nat.ne_of_gt hg) (fun i x hx => by
    rw [List.getElem?_take] at hx
    split at hx
    · exact moved_cell hm1 (Nat.ne_of_gt hg) (lit_at cs hcs W T i x hx)
    · cases hx)
  rw [hln] at hA
  exact hA
set_option maxHeartbeats 1000000 in
theorem supply_any (B g K : Nat) (w : World) (h0 : Cur B w g K) (hK : K ≤ 100000) :
    Calls Try.prog 76 #[.pointer (some ⟨g, 0, none⟩)] w (AmongPost B g (K + 2) w [0, 1, 550, 1000, 3500, 1000500, 2000000, -1, 2000001]) := by
  have hg0 := h0.lt
  go_enter Try.func76, Try.ntmps76
  go_wp2_with fail
  refine (pick_any _ _ _ _ _ (h0.below ((Below.refl _ _).alloc (Nat.le_refl _) _)) (by omega) (by omega) (by omega)).mono ?_
  rintro e w3 ⟨j, rfl, hj, hcur, hm6⟩
  have hm := moved_first ((Below.refl _ _).alloc (Nat.le_refl _) _) hm6
  go_wp2_with fail
  refine (among_cut _ _ _ _ _ _ _ _ _ (by simp [intOf]) (by rfl) (by omega) (by omega) (by omega) (by omega) hm6 hcur (by omega)).mono ?_
  rintro e w4 ⟨x, rfl, hx, hcur, hm2⟩
  have HX := hide (show x ∈ [0, 1, 550, 1000, 3500, 1000500, 2000000, -1, 2000001] from List.mem_of_mem_take hx); clear hx
  go_wp2_with fail
  go_ret
  exact ⟨x, rfl, HX.out, hcur.mono (by omega), moved_trans hm hm2⟩
set_option maxHeartbeats 1000000 in
theorem watts_any (B g K : Nat) (w : World) (h0 : Cur B w g K) (hK : K ≤ 100000) :
    Calls Try.prog 56 #[.pointer (some ⟨g, 0, none⟩)] w (AmongPost B g (K + 2) w [1, 50, 500, 4000, 0, 1000000, -1, 1000001]) := by
  have hg0 := h0.lt
  go_enter Try.func56, Try.ntmps56
  go_wp2_with fail
  refine (pick_any _ _ _ _ _ (h0.below ((Below.refl _ _).alloc (Nat.le_refl _) _)) (by omega) (by omega) (by omega)).mono ?_
  rintro e w3 ⟨j, rfl, hj, hcur, hm6⟩
  have hm := moved_first ((Below.refl _ _).alloc (Nat.le_refl _) _) hm6
  go_wp2_with fail
  refine (among_cut _ _ _ _ _ _ _ _ _ (by simp [intOf]) (by rfl) (by omega) (by omega) (by omega) (by omega) hm6 hcur (by omega)).mono ?_
  rintro e w4 ⟨x, rfl, hx, hcur, hm2⟩
  have HX := hide (show x ∈ [1, 50, 500, 4000, 0, 1000000, -1, 1000001] from List.mem_of_mem_take hx); clear hx
  go_wp2_with fail
  go_ret
  exact ⟨x, rfl, HX.out, hcur.mono (by omega), moved_trans hm hm2⟩
set_option maxHeartbeats 1000000 in
theorem minutes_any (B g K : Nat) (w : World) (h0 : Cur B w g K) (hK : K ≤ 100000) :
    Calls Try.prog 59 #[.pointer (some ⟨g, 0, none⟩)] w (AmongPost B g (K + 2) w [0, 1, 7, 60, 90, 10000, -1, 10001]) := by
  have hg0 := h0.lt
  go_enter Try.func59, Try.ntmps59
  go_wp2_with fail
  refine (pick_any _ _ _ _ _ (h0.below ((Below.refl _ _).alloc (Nat.le_refl _) _)) (by omega) (by omega) (by omega)).mono ?_
  rintro e w3 ⟨j, rfl, hj, hcur, hm6⟩
  have hm := moved_first ((Below.refl _ _).alloc (Nat.le_refl _) _) hm6
  go_wp2_with fail
  refine (among_cut _ _ _ _ _ _ _ _ _ (by simp [intOf]) (by rfl) (by omega) (by omega) (by omega) (by omega) hm6 hcur (by omega)).mono ?_
  rintro e w4 ⟨x, rfl, hx, hcur, hm2⟩
  have HX := hide (show x ∈ [0, 1, 7, 60, 90, 10000, -1, 10001] from List.mem_of_mem_take hx); clear hx
  go_wp2_with fail
  go_ret
  exact ⟨x, rfl, HX.out, hcur.mono (by omega), moved_trans hm hm2⟩
def CsOf (A : Option Addr) (n c : Nat) (L : List Consumer) (w w' : World) : Prop := L.length = n ∧ n ≤ 20 ∧ n ≤ c ∧ (∀ c ∈ L, c.Ok) ∧ Rd Consumer.enc 3 w'.heap.size w' A L ∧ Below w.heap.size w w'
theorem cs_of {lo n c : Nat} {A : Option Addr} {L : List Consumer} {w w' : World} (hL : L.length = n) (h : Own Consumer.enc 3 65 lo w' (.slice A n c) L) (hz : GoodCs L) (hb : Below w.heap.size w w') : CsOf A n c L w w' :=
  ⟨hL, by have := hz.2; omega, own_cap h, hz.1, by subst hL; exact own_rdm (fun _ => rfl) h, hb⟩
def CsxDraw (lo hi : Int) (w : World) (e : Ending) (w' : World) : Prop := ∃ (A : Option Addr) (n c : Nat) (L : List Consumer) (x : Int), e = .returned (.tuple #[.slice A n c, .int .i64 x]) ∧ lo ≤ x ∧ x ≤ hi ∧ CsOf A n c L w w'
set_option maxRecDepth 100000 in
set_option maxHeartbeats 2000000 in
theorem DrawServedWith_any (A : Option Addr) (Lc : List Int) (cap : Nat) (w : World) (hc : CodeIs w A Lc) :
    Calls Try.prog 37 #[.slice A Lc.length cap] w (CsxDraw (-1) 2000001 w) := by
  have hcur := cur_new hc cap
  have hb0 : Below w.heap.size w (w.alloc (.cells #[.slice A Lc.length cap, .int .i64 0, .int .u64 0] 77)) := (Below.refl _ _).alloc (Nat.le_refl _) _
  have hg0 := hcur.lt
  have HZ0 := hide (show (w.alloc (.cells #[.slice A Lc.length cap, .int .i64 0, .int .u64 0] 77)).heap.size = w.heap.size + 1 by simp)
  go_enter Try.func37, Try.ntmps37
  go_wp2_with fail
  generalize (w.alloc (.cells #[.slice A Lc.length cap, .int .i64 0, .int .u64 0] 77)) = w0 at *
  have HB := hb0; clear hb0
  refine (consumers_any _ _ _ _ (by assumption) (by omega)).mono ?_
  rintro e w1 ⟨AL, cL, nL, L, rfl, hLL, hownL, hzL, hcur, hm⟩
  have HB := HB.trans (below_moved hm (Nat.le_refl _) (by omega)); have hs1 := hm.size; clear hm
  go_wp2_with fail
  refine (supply_any _ _ _ _ (by assumption) (by omega)).mono ?_
  rintro e w4 ⟨x, rfl, hx, hcur, hm⟩
  have hownL := own_moved hm (by omega) hownL; have HB := HB.trans (below_moved hm (Nat.le_refl _) (by omega)); have hsz := hm.size; clear hm
  have HX := hide (show (-1 : Int) ≤ x ∧ x ≤ 2000001 by simp only [List.mem_cons, List.not_mem_nil, or_false] at hx; omega); clear hx
  go_wp2_with fail
  go_ret2
  exact ⟨_, _, _, _, _, rfl, HX.out.1, HX.out.2, cs_of hLL hownL hzL HB⟩
set_option maxRecDepth 100000 in
set_option maxHeartbeats 2000000 in
theorem DrawEmergencyLoad_any (A : Option Addr) (Lc : List Int) (cap : Nat) (w : World) (hc : CodeIs w A Lc) :
    Calls Try.prog 40 #[.slice A Lc.length cap] w (CsxDraw 0 10 w) := by
  have hcur := cur_new hc cap
  have hb0 : Below w.heap.size w (w.alloc (.cells #[.slice A Lc.length cap, .int .i64 0, .int .u64 0] 77)) := (Below.refl _ _).alloc (Nat.le_refl _) _
  have hg0 := hcur.lt
  have HZ0 := hide (show (w.alloc (.cells #[.slice A Lc.length cap, .int .i64 0, .int .u64 0] 77)).heap.size = w.heap.size + 1 by simp)
  go_enter Try.func40, Try.ntmps40
  go_wp2_with fail
  generalize (w.alloc (.cells #[.slice A Lc.length cap, .int .i64 0, .int .u64 0] 77)) = w0 at *
  have HB := hb0; clear hb0
  refine (consumers_any _ _ _ _ (by assumption) (by omega)).mono ?_
  rintro e w1 ⟨AL, cL, nL, L, rfl, hLL, hownL, hzL, hcur, hm⟩
  have HB := HB.trans (below_moved hm (Nat.le_refl _) (by omega)); have hs1 := hm.size; clear hm
  go_wp2_with fail
  refine (pick_any _ _ _ _ _ (hcur.below ((Below.refl _ _).alloc (Nat.le_refl _) _)) (by omega) (by omega) (by omega)).mono ?_
  rintro e w3 ⟨j, rfl, hj, hcur, hm6⟩
  have hm := moved_first ((Below.refl _ _).alloc (Nat.le_refl _) _) hm6
  have hownL := own_moved hm (by omega) hownL; have HB := HB.trans (below_moved hm (Nat.le_refl _) (by omega)); have hsz0 := hm.size; clear hm
  go_wp2_with fail
  refine (among_cut _ _ _ _ _ _ _ _ _ (by simp [intOf]) (by rfl) (by omega) (by omega) (by omega) (by omega) hm6 hcur (by omega)).mono ?_
  rintro e w4 ⟨x, rfl, hx, hcur, hm⟩
  have hownL := own_moved hm (by omega) hownL; have HB := HB.trans (below_moved hm (Nat.le_refl _) (by omega)); have hsz := hm.size; clear hm
  have HX := hide (show (0 : Int) ≤ x ∧ x ≤ 10 by have hx2 := List.mem_of_mem_take hx; simp only [intsOf, intOf, List.map_cons, List.map_nil, List.mem_cons, List.not_mem_nil, or_false] at hx2; omega); clear hx
  go_wp2_with fail
  go_ret2
  exact ⟨_, _, _, _, _, rfl, HX.out.1, HX.out.2, cs_of hLL hownL hzL HB⟩
end Go.Proofs.Ytafefnpmgpmjpaa
