/- Stock that is added and taken away again; the cost of all; the dearest part: what the law asks. No program. -/
import Derived.Test.YtlphegjhkchglaaDoorStock2
import Derived.Test.YtlphegjhkchglaaDoorParts4
namespace Go.Proofs.YtlphegjhkchglaaDoor
open Go Go.RowKit
set_option linter.unusedVariables false
theorem stock_back {L : List Part} {s : ByteArray} {n : Int} (hok : ∀ c ∈ L, c.Ok) (h : addB L s n = true) : addB (stockL L s n) s (-n) = true ∧ stockL (stockL L s n) s (-n) = L ∧ (∀ c ∈ stockL L s n, c.Ok) ∧ -500 ≤ n ∧ n ≤ 500 := by
  have h2 := h
  simp only [addB, Bool.and_eq_true] at h2
  obtain ⟨p1, p2, p3, p4⟩ := h2
  obtain ⟨q1, q2⟩ := inB_iff.1 p3
  rcases idxF_cases (isN s) L with ⟨_, hany⟩ | ⟨kk, wk, hi, hkl, hgk, hpk, _, hno⟩
  · rw [hany] at p2; cases p2
  · have hM : stockL L s n = L.set kk (bump wk n) := by rw [stockL, if_pos h, addL_hit hi hgk]
    have hM2 : addL L s n = L.set kk (bump wk n) := addL_hit hi hgk
    rw [hM2] at p4
    rw [hM]
    have hg : (L.set kk (bump wk n))[kk]? = some (bump wk n) := by rw [List.getElem?_set_self hkl]
    have hi2 : idxF (isN s) (L.set kk (bump wk n)) = kk := idxF_hit hg (show isN s (bump wk n) = true from hpk) (fun j d hj hd => by
      rw [List.getElem?_set_ne (by omega)] at hd
      exact hno j d hj hd)
    have hb : bump (bump wk n) (-n) = wk := by
      cases wk
      simp [bump]; omega
    have hL : addL (L.set kk (bump wk n)) s (-n) = L := by
      rw [addL_hit hi2 hg, hb, List.set_set]
      apply List.ext_getElem?
      intro j
      by_cases hj : kk = j
      · subst hj; rw [List.getElem?_set_self hkl, hgk]
      · rw [List.getElem?_set_ne hj]
    have hany2 : (L.set kk (bump wk n)).any (isN s) = true := List.any_eq_true.2 ⟨_, List.mem_of_getElem? hg, hpk⟩
    have hB : addB (L.set kk (bump wk n)) s (-n) = true := by
      simp only [addB, Bool.and_eq_true]
      exact ⟨p4, hany2, inB_iff.2 ⟨by omega, by omega⟩, by rw [hL]; exact p1⟩
    exact ⟨hB, by rw [stockL, if_pos hB, hL], bump_ok hok hgk n, q1, q2⟩
theorem bl_irr : ∀ x : List UInt8, Op.bytesLess x x = false
  | [] => rfl
  | a :: x => by simp [Op.bytesLess, bl_irr x]
theorem bl_trans : ∀ x y z : List UInt8, Op.bytesLess x y = true → Op.bytesLess y z = true → Op.bytesLess x z = true
  | _, [], _, h, _ => by cases ‹List UInt8› <;> simp [Op.bytesLess] at h
  | _, _ :: _, [], _, h => by simp [Op.bytesLess] at h
  | [], _ :: _, _ :: _, _, _ => rfl
  | a :: x, b :: y, c :: z, h1, h2 => by
    simp only [Op.bytesLess, Bool.or_eq_true, Bool.and_eq_true, decide_eq_true_eq, beq_iff_eq] at *
    rcases h1 with h1 | ⟨rfl, h1⟩
    · rcases h2 with h2 | ⟨rfl, h2⟩
      · exact .inl (UInt8.lt_trans h1 h2)
      · exact .inl h1
    · rcases h2 with h2 | ⟨rfl, h2⟩
      · exact .inl h2
      · exact .inr ⟨rfl, bl_trans x y z h1 h2⟩
theorem parts_lt {L : List Part} (h : partsB L = true) {i : Nat} {d : Part} (hd : L[i]? = some d) : ∀ (m : Nat) (c : Part), L[i + m + 1]? = some c → partLt d c = true
  | 0, c, hc => riseB_lt h hd hc
  | m + 1, c, hc => by
    have hlt := (List.getElem?_eq_some_iff.1 hc).1
    have hg := List.getElem?_eq_getElem (show i + m + 1 < L.length by omega)
    have h1 := parts_lt h hd m _ hg
    have h2 := riseB_lt h hg hc
    exact bl_trans _ _ _ h1 h2
theorem parts_eq {L : List Part} (h : partsB L = true) {i j : Nat} {d c : Part} (hd : L[i]? = some d) (hc : L[j]? = some c) (he : d.name.toList = c.name.toList) : d = c := by
  rcases Nat.lt_trichotomy i j with hij | hij | hij
  · obtain ⟨m, rfl⟩ : ∃ m, j = i + m + 1 := ⟨j - i - 1, by omega⟩
    have := parts_lt h hd m c hc
    unfold partLt at this
    rw [he, bl_irr] at this; cases this
  · subst hij; rw [hd] at hc; injection hc
  · obtain ⟨m, rfl⟩ : ∃ m, i = j + m + 1 := ⟨i - j - 1, by omega⟩
    have := parts_lt h hc m d hd
    unfold partLt at this
    rw [he, bl_irr] at this; cases this
theorem dear_most {L : List Part} (hL : L.length ≠ 0) : ∀ k, k ≤ L.length → ∀ (j : Nat) (c : Part), (j < k ∨ j = 0) → L[j]? = some c → c.price * c.have_ ≤ (dearAt L k).price * (dearAt L k).have_ := by
  intro k
  induction k with
  | zero =>
    intro _ j c hj hc
    obtain rfl : j = 0 := by omega
    rw [dear_zero hc]; exact Int.le_refl _
  | succ k ih =>
    intro hk j c hj hc
    have hg := List.getElem?_eq_getElem (show k < L.length by omega)
    rw [dear_step hg]
    unfold dearStep
    by_cases hjk : j = k
    · subst hjk
      rw [hg] at hc; injection hc with hc
      rw [hc]
      split
      · exact Int.le_refl _
      · omega
    · have := ih (by omega) j c (by omega) hc
      split
      · omega
      · exact this
theorem dear_all {L : List Part} (h : dearB L = true) {j : Nat} {c : Part} (hj : L[j]? = some c) : c.have_ * c.price ≤ dearV L ∧ ((c.name.toList == (dearN L).toList) = true → c.have_ * c.price = dearV L) ∧ 0 ≤ c.have_ * c.price ∧ c.have_ * c.price ≤ 50000000 := by
  have h2 := h
  simp only [dearB, Bool.and_eq_true, decide_eq_true_eq] at h2
  have hjl := (List.getElem?_eq_some_iff.1 hj).1
  obtain ⟨b0, b1⟩ := dear_bd h2.1 hj
  have hm := dear_most h2.2 L.length (Nat.le_refl _) j c (.inl hjl) hj
  rw [Int.mul_comm c.have_, dearV, if_pos h]
  refine ⟨hm, fun he => ?_, b0, b1⟩
  obtain ⟨i, hi⟩ := dear_in h2.2 L.length (Nat.le_refl _)
  rw [dearN, if_pos h] at he
  have he2 : c.name.toList = (dearAt L L.length).name.toList := by simpa using he
  rw [parts_eq h2.1 hj hi he2]
theorem orderL_at {L : List Part} {k : Nat} {c : Part} (h : L[k]? = some c) : (orderL L)[k]? = some (missOf c) := by simp [orderL, h]
end Go.Proofs.YtlphegjhkchglaaDoor
