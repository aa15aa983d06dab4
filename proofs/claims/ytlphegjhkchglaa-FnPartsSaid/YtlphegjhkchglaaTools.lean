/- The small functions of the laws: a code that is too long, equal lists, a number in a list. -/
import Derived.Test.YtlphegjhkchglaaDraw
namespace Go.Proofs.Ytlphegjhkchglaa
open Go Go.RowKit
set_option linter.unusedVariables false
def hasB (l : List Int) (x : Int) : Bool := l.any fun d => d == x
theorem hasB_yes {l : List Int} {x : Int} (h : x ∈ l) : hasB l x = true := by simp only [hasB, List.any_eq_true]; exact ⟨x, h, by simp⟩
theorem hasB_no {l : List Int} {x : Int} (h : x ∉ l) : hasB l x = false := by
  simp only [hasB, List.any_eq_false]
  intro y hy he
  have : y = x := by simpa using he
  exact h (this ▸ hy)
theorem rBig_any (n : Nat) (A : Option Addr) (cap : Nat) (w : World) (hn : n ≤ maxLen) : Calls Try.prog 43 #[.slice A n cap] w fun e w' => e = .returned (.bool (decide ((65536 : Int) < n))) ∧ w = w' := by
  unfold maxLen at hn
  go_enter Try.func43, Try.ntmps43
  go_wp2_with fail
  go_ret
  exact ⟨rfl, rfl⟩
set_option maxHeartbeats 1000000 in
theorem rInts_same (L : List Int) (n : Nat) (hL : L.length = n) (A B : Option Addr) (ca cb : Nat) (w : World) (hn : n ≤ 100000000) (ha : Rd encI 1 w.heap.size w A L) (hb : Rd encI 1 w.heap.size w B L) :
    Calls Try.prog 45 #[.slice A n ca, .slice B n cb] w fun e w' => e = .returned (.bool true) ∧ Below w.heap.size w w' := by
  subst hL
  by_cases hL : L = []
  · subst hL
    go_enter Try.func45, Try.ntmps45
    go_wp2
    go_loop [5] (fun i => i = .int .i64 0) (fun _ => 0)
    case atStart => rfl
    case round =>
      obtain rfl := hrel
      go_wp2
      go_ret
      exact ⟨rfl, Below.refl _ _⟩
  · obtain ⟨b1, o1, rfl, _, hc1⟩ := rd_int ha hL
    obtain ⟨b2, o2, rfl, _, hc2⟩ := rd_int hb hL
    clear ha hb
    go_enter Try.func45, Try.ntmps45
    go_wp2_with fail
    go_loopw [5] (fun i wr => ∃ k : Nat, k ≤ L.length ∧ i = .int .i64 k ∧ Below w.heap.size w wr) (fun i _ => L.length - (intOf i).toNat)
    case atStart => exact ⟨0, Nat.zero_le _, rfl, Below.refl _ _⟩
    case round =>
      obtain ⟨k, hk, rfl, hbw⟩ := hrel
      by_cases hlt : k < L.length
      · have c1 := below_cell hbw (hc1 k _ (List.getElem?_eq_getElem hlt))
        have c2 := below_cell hbw (hc2 k _ (List.getElem?_eq_getElem hlt))
        generalize L[k] = n at c1 c2
        go_wp2_with fail
        go_quiet (fail)
        go_wp2_with fail
        go_roundw
        case rel => exact ⟨k + 1, by omega, by go_num, below_drewN hbw _⟩
        case measure => simp [intOf]; omega
      · go_wp2_with fail
        go_ret
        exact ⟨rfl, hbw⟩
set_option maxHeartbeats 1000000 in
theorem rHas_any (L : List Int) (n : Nat) (hL : L.length = n) (x : Int) (A : Option Addr) (cap : Nat) (w : World) (hn : n ≤ 100000000) (hr : Rd encI 1 w.heap.size w A L) :
    Calls Try.prog 46 #[.slice A n cap, .int .i64 x] w fun e w' => e = .returned (.bool (hasB L x)) ∧ w = w' := by
  subst hL
  go_enter Try.func46, Try.ntmps46
  go_wp2_with fail
  go_loop [5] (fun i => ∃ k : Nat, k ≤ L.length ∧ i = .int .i64 k ∧ Hid (∀ d ∈ L.take k, ¬ d = x)) (fun i => L.length - (intOf i).toNat)
  case atStart => exact ⟨0, Nat.zero_le _, rfl, hide (by simp)⟩
  case round =>
    obtain ⟨k, hk, rfl, hno⟩ := hrel
    by_cases hlt : k < L.length
    · obtain ⟨b, o, rfl, _, hc⟩ := rd_int hr (by intro h; subst h; simp at hlt)
      have hg := List.getElem?_eq_getElem hlt
      have y := hc k _ hg
      have HM := hide (List.getElem_mem hlt)
      have HT := hide (take_snocL L k hlt)
      generalize L[k] = d at *
      clear hc hg
      by_cases he : d = x
      · have hb1 : (d == x) = true := by simpa using he
        have HR := hide (hasB_yes (l := L) (x := x) (he ▸ HM.out))
        clear he
        go_wp2_with fail
        go_ret
        exact ⟨ret_bool HR.out.symm, rfl⟩
      · have hb1 : (d == x) = false := by simpa using he
        have HE := hide he; clear he
        go_wp2_with fail
        go_round
        case rel => exact ⟨k + 1, by omega, by go_num, hide (by
          rw [HT.out]; intro d' hd'
          rcases List.mem_append.1 hd' with h | h
          · exact hno.out d' h
          · simp at h; subst h; exact HE.out)⟩
        case measure => simp [intOf]; omega
    · have hkz : k = L.length := by omega
      have HR := hide (hasB_no (l := L) (x := x) (fun hm => by have := hno.out; rw [hkz, List.take_length] at this; exact this x hm rfl))
      go_wp2_with fail
      go_ret
      exact ⟨ret_bool HR.out.symm, rfl⟩
end Go.Proofs.Ytlphegjhkchglaa
