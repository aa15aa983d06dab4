/- Equal rows of parts, as the law compares them. -/
import Derived.Test.YtlphegjhkchglaaDoorTools
import Derived.Test.YtlphegjhkchglaaDoorStPart
namespace Go.Proofs.YtlphegjhkchglaaDoor
open Go Go.RowKit
set_option linter.unusedVariables false
set_option maxHeartbeats 1000000 in
theorem rParts_same (L : List Part) (n : Nat) (hL : L.length = n) (A B : Option Addr) (ca cb : Nat) (w : World) (hn : n ≤ 100000000) (ha : Rd Part.enc 5 w.heap.size w A L) (hb : Rd Part.enc 5 w.heap.size w B L) :
    Calls Tryd.prog 13 #[.slice A n ca, .slice B n cb] w fun e w' => e = .returned (.bool true) ∧ Below w.heap.size w w' := by
  subst hL
  by_cases hL : L = []
  · subst hL
    go_enter Tryd.func13, Tryd.ntmps13
    go_wp2
    go_loop [5] (fun i => i = .int .i64 0) (fun _ => 0)
    case atStart => rfl
    case round =>
      obtain rfl := hrel
      go_wp2
      go_ret
      exact ⟨rfl, Below.refl _ _⟩
  · obtain ⟨b1, o1, rfl, _, hc1⟩ := Part.rd_at ha hL
    obtain ⟨b2, o2, rfl, _, hc2⟩ := Part.rd_at hb hL
    clear ha hb
    go_enter Tryd.func13, Tryd.ntmps13
    go_wp2_with fail
    go_loopw [5] (fun i wr => ∃ k : Nat, k ≤ L.length ∧ i = .int .i64 k ∧ Below w.heap.size w wr) (fun i _ => L.length - (intOf i).toNat)
    case atStart => exact ⟨0, Nat.zero_le _, rfl, Below.refl _ _⟩
    case round =>
      obtain ⟨k, hk, rfl, hbw⟩ := hrel
      by_cases hlt : k < L.length
      · obtain ⟨c1, c2, c3, c4, c5⟩ := hc1 k _ (List.getElem?_eq_getElem hlt)
        obtain ⟨d1, d2, d3, d4, d5⟩ := hc2 k _ (List.getElem?_eq_getElem hlt)
        replace c1 := below_cell hbw c1; replace c2 := below_cell hbw c2; replace c3 := below_cell hbw c3; replace c4 := below_cell hbw c4; replace c5 := below_cell hbw c5; replace d1 := below_cell hbw d1; replace d2 := below_cell hbw d2; replace d3 := below_cell hbw d3; replace d4 := below_cell hbw d4; replace d5 := below_cell hbw d5
        generalize L[k] = n at c1 c2 c3 c4 c5 d1 d2 d3 d4 d5
        go_wp2_with fail
        go_quiet (fail)
        go_wp2_with fail
        go_roundw
        case rel => exact ⟨k + 1, by omega, by go_num, below_drewN hbw _⟩
        case measure => simp [intOf]; omega
      · go_wp2_with fail
        go_ret
        exact ⟨rfl, hbw⟩
end Go.Proofs.YtlphegjhkchglaaDoor
