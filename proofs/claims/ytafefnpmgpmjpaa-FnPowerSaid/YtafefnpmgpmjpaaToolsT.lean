/- Rows of texts, as the law compares them. -/
import Derived.Test.YtafefnpmgpmjpaaTools
import Derived.Test.YtafefnpmgpmjpaaStrs
namespace Go.Proofs.Ytafefnpmgpmjpaa
open Go Go.RowKit
set_option linter.unusedVariables false
set_option linter.unusedSimpArgs false
def hasT (l : List ByteArray) (x : ByteArray) : Bool := l.any fun d => d.toList == x.toList
theorem hasT_yes {l : List ByteArray} {x d : ByteArray} (h : d ∈ l) (he : d.toList = x.toList) : hasT l x = true := by simp only [hasT, List.any_eq_true]; exact ⟨d, h, by simp [he]⟩
theorem hasT_no {l : List ByteArray} {x : ByteArray} (h : ∀ d ∈ l, ¬ d.toList = x.toList) : hasT l x = false := by
  simp only [hasT, List.any_eq_false]
  intro d hd
  simpa using h d hd
set_option maxHeartbeats 1000000 in
theorem rTexts_same (L : List ByteArray) (n : Nat) (hL : L.length = n) (A B : Option Addr) (ca cb : Nat) (w : World) (hn : n ≤ 100000000) (ha : Rd encS 1 w.heap.size w A L) (hb : Rd encS 1 w.heap.size w B L) :
    Calls Try.prog 38 #[.slice A n ca, .slice B n cb] w fun e w' => e = .returned (.bool true) ∧ Below w.heap.size w w' := by
  subst hL
  by_cases hL : L = []
  · subst hL
    go_enter Try.func38, Try.ntmps38
    go_wp2
    go_loop [5] (fun i => i = .int .i64 0) (fun _ => 0)
    case atStart => rfl
    case round =>
      obtain rfl := hrel
      go_wp2
      go_ret
      exact ⟨rfl, Below.refl _ _⟩
  · obtain ⟨b1, o1, rfl, _, hc1⟩ := rd_str ha hL
    obtain ⟨b2, o2, rfl, _, hc2⟩ := rd_str hb hL
    clear ha hb
    go_enter Try.func38, Try.ntmps38
    go_wp2_with fail
    go_loopw [5] (fun i wr => ∃ k : Nat, k ≤ L.length ∧ i = .int .i64 k ∧ Below w.heap.size w wr) (fun i _ => L.length - (intOf i).toNat)
    case atStart => exact ⟨0, Nat.zero_le _, rfl, Below.refl _ _⟩
    case round =>
      obtain ⟨k, hk, rfl, hbw⟩ := hrel
      by_cases hlt : k < L.length
      · have c1 := below_cell hbw (hc1 k _ (List.getElem?_eq_getElem hlt))
        have c2 := below_cell hbw (hc2 k _ (List.getElem?_eq_getElem hlt))
        generalize L[k] = n at c1 c2
        have hb1 : (n.toList == n.toList) = true := by simp
        go_wp2_with fail
        go_quiet (fail)
        go_wp2_with fail
        go_roundw
        case rel => exact ⟨k + 1, by omega, by go_num, below_drewN hbw _⟩
        case measure => simp [intOf]; omega
      · go_wp2_with fail
        go_ret
        exact ⟨rfl, hbw⟩
set_option maxHeartbeats 1000000 in
theorem rHasText_any (L : List ByteArray) (n : Nat) (hL : L.length = n) (x : ByteArray) (A : Option Addr) (cap : Nat) (w : World) (hn : n ≤ 100000000) (hr : Rd encS 1 w.heap.size w A L) :
    Calls Try.prog 39 #[.slice A n cap, .string x] w fun e w' => e = .returned (.bool (hasT L x)) ∧ w = w' := by
  subst hL
  go_enter Try.func39, Try.ntmps39
  go_wp2_with fail
  go_loop [5] (fun i => ∃ k : Nat, k ≤ L.length ∧ i = .int .i64 k ∧ Hid (∀ d ∈ L.take k, ¬ d.toList = x.toList)) (fun i => L.length - (intOf i).toNat)
  case atStart => exact ⟨0, Nat.zero_le _, rfl, hide (by simp)⟩
  case round =>
    obtain ⟨k, hk, rfl, hno⟩ := hrel
    by_cases hlt : k < L.length
    · obtain ⟨b, o, rfl, _, hc⟩ := rd_str hr (by intro h; subst h; simp at hlt)
      have hg := List.getElem?_eq_getElem hlt
      have y := hc k _ hg
      have HM := hide (List.getElem_mem hlt)
      have HT := hide (take_snocL L k hlt)
      generalize L[k] = d at *
      clear hc hg
      by_cases he : d.toList = x.toList
      · have hb1 : (d.toList == x.toList) = true := by simpa using he
        have HR := hide (hasT_yes (l := L) (x := x) HM.out he)
        clear he
        go_wp2_with fail
        go_ret
        exact ⟨ret_bool HR.out.symm, rfl⟩
      · have hb1 : (d.toList == x.toList) = false := by simpa using he
        have HE := hide he; clear he
        go_wp2_with fail
        go_round
        case rel => exact ⟨k + 1, by omega, by go_num, hide (by
          rw [HT.out]; intro d' hd'
          rcases List.mem_append.1 hd' with h | h
          · exact hno.out d' h
          · simp at h; subst h; exact HE.out)⟩
        case measure => simp [intOf]; omega
    · have hkz : k = L.length := by omega
      have HR := hide (hasT_no (l := L) (x := x) (by have := hno.out; rw [hkz, List.take_length] at this; exact this))
      go_wp2_with fail
      go_ret
      exact ⟨ret_bool HR.out.symm, rfl⟩
theorem rHasText_is {L : List ByteArray} {x : ByteArray} {b : Bool} (h : hasT L x = b) (A : Option Addr) (cap : Nat) (w : World) (hn : L.length ≤ 100000000) (hr : Rd encS 1 w.heap.size w A L) : Calls Try.prog 39 #[.slice A L.length cap, .string x] w fun e w' => e = .returned (.bool b) ∧ w = w' := h ▸ rHasText_any L L.length rfl x A cap w hn hr
end Go.Proofs.Ytafefnpmgpmjpaa
