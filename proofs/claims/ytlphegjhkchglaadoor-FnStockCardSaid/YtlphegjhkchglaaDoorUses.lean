/- Uses of parts: whether they are valid; the program's functions and the reference's. -/
import Derived.Test.YtlphegjhkchglaaDoorParts2
namespace Go.Proofs.YtlphegjhkchglaaDoor
open Go Go.RowKit
def isN (name : ByteArray) (p : Part) : Bool := p.name.toList == name.toList
theorem isN_pred (name : ByteArray) (L : List Part) (w : World) (B : Nat) (hc : w.cell? ⟨B, 0, none⟩ = some (.string name)) : Part.Pred 47 #[.pointer (some ⟨B, 0, none⟩)] (isN name) L w := by
  refine ⟨entersF Tryd.func47 (by kernel_rfl) rfl, fun W c _ hb => ?_⟩
  have hc1 := below_cell hb hc
  have hc2 : (W.alloc (.cells #[.string c.name, .int .i64 c.have_, .int .i64 c.least, .int .i64 c.lead, .int .i64 c.price] 27)).cell? ⟨B, 0, none⟩ = some (.string name) := below_cell ((Below.refl _ _).alloc (Nat.le_refl _) _) hc1
  show Calls Tryd.prog 47 #[.agg #[.string c.name, .int .i64 c.have_, .int .i64 c.least, .int .i64 c.lead, .int .i64 c.price], .pointer (some ⟨B, 0, none⟩)] W _
  go_enter Tryd.func47, Tryd.ntmps47
  go_wp2_with fail
  go_ret
  exact ⟨rfl, (Below.refl _ _).alloc (Nat.le_refl _) _⟩
theorem partOf_any (L : List Part) (A : Option Addr) (cap : Nat) (name : ByteArray) (w : World) (hr : Rd Part.enc 5 w.heap.size w A L) (hl : L.length ≤ maxLen) :
    Calls Tryd.prog 30 #[.slice A L.length cap, .string name] w fun e w' => e = .returned (.int .i64 (idxF (isN name) L)) ∧ Below w.heap.size w w' := by
  have hba : Below w.heap.size w (w.alloc (.cells #[.string name] 9)) := (Below.refl _ _).alloc (Nat.le_refl _) _
  go_enter Tryd.func30, Tryd.ntmps30
  go_wp2_with (go_at_call 46; refine (Part.IndexFunc_any _ _ (isN name) L _ _ _ (hr.later hba) hl (isN_pred name L _ _ (by simp))).mono ?_; rintro e w1 ⟨rfl, hb1⟩)
  go_ret
  exact ⟨rfl, below_new' hb1⟩
theorem partOf_is {L : List Part} {name : ByteArray} {z : Int} (h : idxF (isN name) L = z) (A : Option Addr) (cap : Nat) (w : World) (hr : Rd Part.enc 5 w.heap.size w A L) (hl : L.length ≤ maxLen) :
    Calls Tryd.prog 30 #[.slice A L.length cap, .string name] w fun e w' => e = .returned (.int .i64 z) ∧ Below w.heap.size w w' := h ▸ partOf_any L A cap name w hr hl
theorem l23Find_any (L : List Part) (A : Option Addr) (cap : Nat) (name : ByteArray) (w : World) (hr : Rd Part.enc 5 w.heap.size w A L) (hl : L.length ≤ maxLen) :
    Calls Tryd.prog 34 #[.slice A L.length cap, .string name] w fun e w' => e = .returned (.int .i64 (idxF (isN name) L)) ∧ w = w' := by
  unfold maxLen at hl
  go_enter Tryd.func34, Tryd.ntmps34
  go_wp2_with fail
  go_loop [5] (fun i => ∃ k : Nat, k ≤ L.length ∧ i = .int .i64 k ∧ Hid (∀ (j : Nat) (d : Part), j < k → L[j]? = some d → isN name d = false)) (fun i => L.length - (intOf i).toNat)
  case atStart => exact ⟨0, Nat.zero_le _, rfl, hide (fun j d hj => absurd hj (Nat.not_lt_zero j))⟩
  case round =>
    obtain ⟨k, hk, rfl, hn⟩ := hrel
    by_cases hlt : k < L.length
    · obtain ⟨b, o, rfl, hb, hc⟩ := Part.rd_at hr (by intro h; subst h; simp at hlt)
      have hget := List.getElem?_eq_getElem hlt
      obtain ⟨c0, c1, c2, c3, c4⟩ := hc k _ hget
      generalize L[k] = c at *
      have HG := hide hget; clear hget hc hr
      cases hw : isN name c
      · have hb0 : (c.name.toList == name.toList) = false := hw
        have HW := hide hw; clear hw
        go_wp2_with fail
        go_round
        case rel => exact ⟨k + 1, by omega, by go_num, hide (no_step hn.out HG.out HW.out)⟩
        case measure => simp [intOf]; omega
      · have hb0 : (c.name.toList == name.toList) = true := hw
        have HW := hide hw; clear hw
        go_wp2_with fail
        go_ret
        exact ⟨ret_int (idxF_hit HG.out HW.out hn.out).symm, rfl⟩
    · obtain rfl : k = L.length := by omega
      go_wp2_with fail
      go_ret
      exact ⟨ret_int (idxF_none hn.out).symm, rfl⟩
theorem l23Find_is {L : List Part} {name : ByteArray} {z : Int} (h : idxF (isN name) L = z) (A : Option Addr) (cap : Nat) (w : World) (hr : Rd Part.enc 5 w.heap.size w A L) (hl : L.length ≤ maxLen) :
    Calls Tryd.prog 34 #[.slice A L.length cap, .string name] w fun e w' => e = .returned (.int .i64 z) ∧ w = w' := h ▸ l23Find_any L A cap name w hr hl
end Go.Proofs.YtlphegjhkchglaaDoor
