/- cmp.Compare and cmp.Or at int: each walked once. -/
import Derived.Test.YtafefnpmgpmjpaaMark
namespace Go.Proofs.Ytafefnpmgpmjpaa
open Go Go.RowKit
def cmpI (a b : Int) : Int := if a < b then -1 else if b < a then 1 else 0
theorem cmpI_neg {a b : Int} : cmpI a b < 0 ↔ a < b := by unfold cmpI; split <;> (try split) <;> omega
theorem cmpI_zero {a b : Int} : cmpI a b = 0 ↔ a = b := by unfold cmpI; split <;> (try split) <;> omega
theorem cmpI_bd (a b : Int) : -1 ≤ cmpI a b ∧ cmpI a b ≤ 1 := by unfold cmpI; split <;> (try split) <;> omega
theorem Compare_any (a b : Int) (w : World) : Calls Try.prog 72 #[.int .i64 a, .int .i64 b] w fun e w' => e = .returned (.int .i64 (cmpI a b)) ∧ w = w' := by
  by_cases h : a < b
  · have hc := hide (show cmpI a b = -1 by simp [cmpI, h])
    go_enter Try.func72, Try.ntmps72
    go_wp2
    go_ret
    exact ⟨ret_int hc.out.symm, rfl⟩
  · by_cases h2 : b < a
    · have hc := hide (show cmpI a b = 1 by simp [cmpI, h, h2])
      go_enter Try.func72, Try.ntmps72
      go_wp2
      go_ret
      exact ⟨ret_int hc.out.symm, rfl⟩
    · have hc := hide (show cmpI a b = 0 by simp [cmpI, h, h2])
      go_enter Try.func72, Try.ntmps72
      go_wp2
      go_ret
      exact ⟨ret_int hc.out.symm, rfl⟩
theorem cell_new_d (W : World) (cs : Array Value) (t : TypeId) (g j : Nat) (v : Value) (hg : W.heap.size = g) (hv : cs[j]? = some v) : (W.alloc (.cells cs t)).drew.cell? ⟨g, j, none⟩ = some v := cell_new W cs t g j v hg hv
theorem rd_three {w : World} {g : Nat} {x y z : Int} (h0 : w.cell? ⟨g, 0, none⟩ = some (.int .i64 x)) (h1 : w.cell? ⟨g, 1, none⟩ = some (.int .i64 y)) (h2 : w.cell? ⟨g, 2, none⟩ = some (.int .i64 z)) : Rd encI 1 w.heap.size w (some ⟨g, 0, none⟩) [x, y, z] := by
  refine .inr ⟨g, 0, rfl, World.block_lt_of_cell? w _ h0, fun k c hk j v hv => ?_⟩
  have hj : j < (encI c).length := (List.getElem?_eq_some_iff.1 hv).1
  rw [encI_len] at hj
  obtain rfl : j = 0 := by omega
  have hk3 : k < 3 := by simpa using (List.getElem?_eq_some_iff.1 hk).1
  match k, hk3 with
  | 0, _ => simp at hk; subst hk; simp [encI] at hv; subst hv; simpa using h0
  | 1, _ => simp at hk; subst hk; simp [encI] at hv; subst hv; simpa using h1
  | 2, _ => simp at hk; subst hk; simp [encI] at hv; subst hv; simpa using h2
theorem rd_two {w : World} {g : Nat} {x y : Int} (h0 : w.cell? ⟨g, 0, none⟩ = some (.int .i64 x)) (h1 : w.cell? ⟨g, 1, none⟩ = some (.int .i64 y)) : Rd encI 1 w.heap.size w (some ⟨g, 0, none⟩) [x, y] := by
  refine .inr ⟨g, 0, rfl, World.block_lt_of_cell? w _ h0, fun k c hk j v hv => ?_⟩
  have hj : j < (encI c).length := (List.getElem?_eq_some_iff.1 hv).1
  rw [encI_len] at hj
  obtain rfl : j = 0 := by omega
  have hk3 : k < 2 := by simpa using (List.getElem?_eq_some_iff.1 hk).1
  match k, hk3 with
  | 0, _ => simp at hk; subst hk; simp [encI] at hv; subst hv; simpa using h0
  | 1, _ => simp at hk; subst hk; simp [encI] at hv; subst hv; simpa using h1
def orL : List Int → Int
  | [] => 0
  | x :: r => if x = 0 then orL r else x
theorem orL_skip : ∀ (L : List Int) (k : Nat), (∀ (j : Nat) (d : Int), j < k → L[j]? = some d → d = 0) → orL L = orL (L.drop k)
  | L, 0, _ => rfl
  | [], k + 1, _ => by simp
  | x :: r, k + 1, h => by
    have hx : x = 0 := h 0 x (by omega) rfl
    rw [List.drop_succ_cons, ← orL_skip r k (fun j d hj hd => h (j + 1) d (by omega) (by simpa using hd)), orL, if_pos hx]
set_option maxHeartbeats 400000 in
theorem Or_any (L : List Int) (A : Option Addr) (cap : Nat) (w : World) (hn : L.length ≤ 1000) (hr : Rd encI 1 w.heap.size w A L) :
    Calls Try.prog 75 #[.slice A L.length cap] w fun e w' => e = .returned (.int .i64 (orL L)) ∧ w = w' := by
  by_cases hL : L = []
  · subst hL
    go_enter Try.func75, Try.ntmps75
    go_wp2
    go_loop [8] (fun i => i = .int .i64 0) (fun _ => 0)
    case atStart => rfl
    case round =>
      obtain rfl := hrel
      go_wp2
      go_ret
      exact ⟨rfl, rfl⟩
  · obtain ⟨b, o, rfl, _, hc⟩ := rd_int hr hL
    clear hr
    go_enter Try.func75, Try.ntmps75
    go_wp2_with fail
    go_loop [8] (fun i => ∃ k : Nat, k ≤ L.length ∧ i = .int .i64 k ∧ Hid (∀ (j : Nat) (d : Int), j < k → L[j]? = some d → d = 0)) (fun i => L.length - (intOf i).toNat)
    case atStart => exact ⟨0, Nat.zero_le _, rfl, hide (fun j d hj => absurd hj (Nat.not_lt_zero j))⟩
    case round =>
      obtain ⟨k, hk, rfl, hz⟩ := hrel
      have HS := hide (orL_skip L k hz.out)
      by_cases hlt : k < L.length
      · have hget := List.getElem?_eq_getElem hlt
        have c0 := hc k _ hget
        have HD := hide (List.drop_eq_getElem_cons hlt)
        generalize L[k] = n at *
        have HG := hide hget; clear hget hc
        by_cases hn0 : n = 0
        · have hb : (n != 0) = false := by simp [hn0]
          have HN := hide hn0; clear hn0
          go_wp2_with fail
          go_round
          case rel =>
            refine ⟨k + 1, by omega, by go_num, hide fun j d hj hd => ?_⟩
            rcases Nat.lt_or_eq_of_le (Nat.lt_succ_iff.1 hj) with h1 | h1
            · exact hz.out j d h1 hd
            · subst h1
              rw [HG.out] at hd
              injection hd with hd
              rw [← hd]; exact HN.out
          case measure => simp [intOf]; omega
        · have hb : (n != 0) = true := by simp [hn0]
          go_wp2_with fail
          go_ret
          exact ⟨ret_int (by rw [HS.out, HD.out, orL, if_neg hn0]), rfl⟩
      · go_wp2_with fail
        go_ret
        exact ⟨ret_int (by rw [HS.out, List.drop_eq_nil_of_le (by omega), orL]), rfl⟩
end Go.Proofs.Ytafefnpmgpmjpaa
