/- cmp.Compare and cmp.Or at int: each walked once. -/
import Derived.Test.YtlphegjhkchglaaMark
namespace Go.Proofs.Ytlphegjhkchglaa
open Go Go.RowKit
def cmpI (a b : Int) : Int := if a < b then -1 else if b < a then 1 else 0
theorem cmpI_neg {a b : Int} : cmpI a b < 0 ↔ a < b := by unfold cmpI; split <;> (try split) <;> omega
theorem cmpI_zero {a b : Int} : cmpI a b = 0 ↔ a = b := by unfold cmpI; split <;> (try split) <;> omega
theorem cmpI_bd (a b : Int) : -1 ≤ cmpI a b ∧ cmpI a b ≤ 1 := by unfold cmpI; split <;> (try split) <;> omega
theorem Compare_any (a b : Int) (w : World) : Calls Try.prog 85 #[.int .i64 a, .int .i64 b] w fun e w' => e = .returned (.int .i64 (cmpI a b)) ∧ w = w' := by
  by_cases h : a < b
  · have hc := hide (show cmpI a b = -1 by simp [cmpI, h])
    go_enter Try.func85, Try.ntmps85
    go_wp2
    go_ret
    exact ⟨ret_int hc.out.symm, rfl⟩
  · by_cases h2 : b < a
    · have hc := hide (show cmpI a b = 1 by simp [cmpI, h, h2])
      go_enter Try.func85, Try.ntmps85
      go_wp2
      go_ret
      exact ⟨ret_int hc.out.symm, rfl⟩
    · have hc := hide (show cmpI a b = 0 by simp [cmpI, h, h2])
      go_enter Try.func85, Try.ntmps85
      go_wp2
      go_ret
      exact ⟨ret_int hc.out.symm, rfl⟩
theorem cell_new_d (W : World) (cs : Array Value) (t : TypeId) (g j : Nat) (v : Value) (hg : W.heap.size = g) (hv : cs[j]? = some v) : (W.alloc (.cells cs t)).drew.cell? ⟨g, j, none⟩ = some v := cell_new W cs t g j v hg hv
theorem rd_three {w : World} {g : Nat} {x y z : Int} (h0 : w.cell? ⟨g, 0, none⟩ = some (.int .i64 x)) (h1 : w.cell? ⟨g, 1, none⟩ = some (.int .i64 y)) (h2 : w.cell? ⟨g, 2, none⟩ = some (.int .i64 z)) : Rd encI 1 w.heap.size w (some ⟨g, 0, none⟩) [x, y, z] := by
  refine .inr ⟨g, 0, rfl, World.block_lt_of_cell? w _ h0, fun k c hk j v hv => ?_⟩
  have hj : j < (encI c).length := (List.getElem?_eq_some_iff.1 hv).1
  rw [encI_len] at hj
  obtain rfl : j = 0 := by omega
  have hk3 : k < 3 := by simpa using (List.getElem?_eq_some_iff.1 hk).1
  match k, hk3 with
  | 0, _ => simp at hk; subst hk; simp [encI] at hv; subst hv; simpa using h0
  | 1, _ => simp at hk; subst hk; simp [encI] at hv; subst hv; simpa using h1
  | 2, _ => simp at hk; subst hk; simp [encI] at hv; subst hv; simpa using h2
theorem rd_two {w : World} {g : Nat} {x y : Int} (h0 : w.cell? ⟨g, 0, none⟩ = some (.int .i64 x)) (h1 : w.cell? ⟨g, 1, none⟩ = some (.int .i64 y)) : Rd encI 1 w.heap.size w (some ⟨g, 0, none⟩) [x, y] := by
  refine .inr ⟨g, 0, rfl, World.block_lt_of_cell? w _ h0, fun k c hk j v hv => ?_⟩
  have hj : j < (encI c).length := (List.getElem?_eq_some_iff.1 hv).1
  rw [encI_len] at hj
  obtain rfl : j = 0 := by omega
  have hk3 : k < 2 := by simpa using (List.getElem?_eq_some_iff.1 hk).1
  match k, hk3 with
  | 0, _ => simp at hk; subst hk; simp [encI] at hv; subst hv; simpa using h0
  | 1, _ => simp at hk; subst hk; simp [encI] at hv; subst hv; simpa using h1
def orL : List Int → Int
  | [] => 0
  | x :: r => if x = 0 then orL r else x
theorem orL_skip : ∀ (L : List Int) (k : Nat), (∀ (j : Nat) (d : Int), j < k → L[j]? = some d → d = 0) → orL L = orL (L.drop k)
  | L, 0, _ => rfl
  | [], k + 1, _ => by simp
  | x :: r, k + 1, h => by
    have hx : x = 0 := h 0 x (by omega) rfl
    rw [List.drop_succ_cons, ← orL_skip r k (fun j d hj hd => h (j + 1) d (by omega) (by simpa using hd)), orL, if_pos hx]
end Go.Proofs.Ytlphegjhkchglaa
