/- Plain facts on batteries: minutes that are left, taking out, putting in, the greatest rank. No program. -/
import Derived.Test.YtafefnpmgpmjpaaLongest
import Derived.Test.YtafefnpmgpmjpaaEmer
import Derived.Test.YtafefnpmgpmjpaaLibInt
namespace Go.Proofs.Ytafefnpmgpmjpaa
open Go Go.RowKit
set_option linter.unusedVariables false
set_option linter.unusedSimpArgs false
def minB (b : Battery) (w : Int) : Bool := batB b && inB w 1 b.most
def minV (b : Battery) (w : Int) : Int := if minB b w then min (60 * b.charge / w) 10000 else 0
def tkB (b : Battery) (w m : Int) : Bool := batB b && (inB w 0 b.most && (inB m 0 10000 && decide (energyI w m ≤ b.charge)))
def tkV (b : Battery) (w m : Int) : Battery := if tkB b w m then ⟨b.capacity, b.charge - energyI w m, b.most⟩ else ⟨0, 0, 0⟩
def ptB (b : Battery) (w m : Int) : Bool := batB b && (inB w 0 b.most && inB m 0 10000)
def ptV (b : Battery) (w m : Int) : Battery := if ptB b w m then ⟨b.capacity, min (b.charge + w * m / 60) b.capacity, b.most⟩ else ⟨0, 0, 0⟩
theorem minB_bd {b : Battery} {w : Int} (h : minB b w = true) : batB b = true ∧ 1 ≤ w ∧ w ≤ b.most ∧ b.most ≤ 1000000 ∧ 0 ≤ b.charge ∧ b.charge ≤ 1000000 := by
  simp only [minB, Bool.and_eq_true, inB_iff] at h
  obtain ⟨⟨a0, a1⟩, ⟨c0, c1⟩, d0, d1⟩ := batB_bd h.1
  exact ⟨h.1, h.2.1, h.2.2, d1, c0, by omega⟩
theorem quot_bd {c w : Int} (hc : 0 ≤ c) (hw : 1 ≤ w) : 0 ≤ 60 * c / w ∧ w * (60 * c / w) ≤ 60 * c ∧ 60 * c < w * (60 * c / w + 1) := by
  have h0 : 0 ≤ 60 * c / w := Int.ediv_nonneg (by omega) (by omega)
  have h1 := Int.mul_ediv_add_emod (60 * c) w
  have h2 := Int.emod_nonneg (60 * c) (show w ≠ 0 by omega)
  have h3 := Int.emod_lt_of_pos (60 * c) (show 0 < w by omega)
  refine ⟨h0, by omega, ?_⟩
  rw [Int.mul_add, Int.mul_one]; omega
theorem minV_bd (b : Battery) (w : Int) : 0 ≤ minV b w ∧ minV b w ≤ 10000 := by
  unfold minV
  split
  · rename_i h
    obtain ⟨_, w1, _, _, c0, _⟩ := minB_bd h
    have := (quot_bd c0 w1).1
    omega
  · omega
theorem min_take {b : Battery} {w : Int} (h : minB b w = true) : tkB b w (minV b w) = true ∧ tkB b w (minV b w + 1) = false := by
  obtain ⟨hb, w1, w2, w3, c0, c1⟩ := minB_bd h
  obtain ⟨q0, q1, q2⟩ := quot_bd c0 w1
  have hv : minV b w = min (60 * b.charge / w) 10000 := by rw [minV, if_pos h]
  obtain ⟨m0, m1⟩ := minV_bd b w
  have hw1 : inB w 0 b.most = true := inB_iff.2 ⟨by omega, w2⟩
  constructor
  · have hm1 : inB (minV b w) 0 10000 = true := inB_iff.2 ⟨m0, m1⟩
    have hle : w * minV b w ≤ w * (60 * b.charge / w) := Int.mul_le_mul_of_nonneg_left (by omega) (by omega)
    have : energyI w (minV b w) ≤ b.charge := by unfold energyI; omega
    simp [tkB, hb, hw1, hm1, this]
  · by_cases h9 : minV b w = 10000
    · have : inB (minV b w + 1) 0 10000 = false := by simp [inB]; omega
      simp [tkB, this]
    · have e : minV b w = 60 * b.charge / w := by omega
      have : ¬ energyI w (minV b w + 1) ≤ b.charge := by rw [e]; unfold energyI; omega
      simp [tkB, this]
theorem tkB_bd {b : Battery} {w m : Int} (h : tkB b w m = true) : batB b = true ∧ (0 ≤ w ∧ w ≤ b.most) ∧ (0 ≤ m ∧ m ≤ 10000) ∧ energyI w m ≤ b.charge := by
  simpa only [tkB, Bool.and_eq_true, inB_iff, decide_eq_true_eq] using h
theorem ptB_bd {b : Battery} {w m : Int} (h : ptB b w m = true) : batB b = true ∧ (0 ≤ w ∧ w ≤ b.most) ∧ (0 ≤ m ∧ m ≤ 10000) := by
  simpa only [ptB, Bool.and_eq_true, inB_iff] using h
theorem quo_bd {w m : Int} (h0 : 0 ≤ w) (h1 : w ≤ 1000000) (h2 : 0 ≤ m) (h3 : m ≤ 10000) : 0 ≤ w * m / 60 ∧ w * m / 60 ≤ 1000000000 ∧ w * m / 60 ≤ energyI w m ∧ 0 ≤ w * m ∧ w * m ≤ 10000000000 := by
  have := prod_bd h0 h1 h2 h3
  unfold energyI
  omega
theorem put_law {b : Battery} {w m : Int} (h : ptB b w m = true) : batB (ptV b w m) = true ∧ b.charge ≤ (ptV b w m).charge := by
  obtain ⟨hb, ⟨w0, w1⟩, m0, m1⟩ := ptB_bd h
  obtain ⟨⟨a0, a1⟩, ⟨c0, c1⟩, d0, d1⟩ := batB_bd hb
  obtain ⟨q0, q1, _⟩ := quo_bd w0 (by omega) m0 m1
  rw [ptV, if_pos h]
  refine ⟨?_, by show b.charge ≤ min (b.charge + w * m / 60) b.capacity; omega⟩
  simp only [batB, Bool.and_eq_true, inB_iff]
  refine ⟨⟨a0, a1⟩, ⟨?_, ?_⟩, d0, d1⟩ <;> omega
theorem take_put {b : Battery} {w m : Int} (h : tkB b w m = true) : ptB (tkV b w m) w m = true ∧ (ptV (tkV b w m) w m).charge ≤ b.charge := by
  obtain ⟨hb, ⟨w0, w1⟩, ⟨m0, m1⟩, he⟩ := tkB_bd h
  obtain ⟨⟨a0, a1⟩, ⟨c0, c1⟩, d0, d1⟩ := batB_bd hb
  obtain ⟨q0, q1, q2, _⟩ := quo_bd w0 (by omega) m0 m1
  obtain ⟨e0, _⟩ := energy_bd w0 (by omega) m0 m1
  have hp : ptB (tkV b w m) w m = true := by
    rw [tkV, if_pos h]
    simp only [ptB, batB, Bool.and_eq_true, inB_iff]
    refine ⟨⟨⟨a0, a1⟩, ⟨?_, ?_⟩, d0, d1⟩, ⟨w0, w1⟩, m0, m1⟩ <;> omega
  refine ⟨hp, ?_⟩
  rw [ptV, if_pos hp, tkV, if_pos h]
  show min (b.charge - energyI w m + w * m / 60) b.capacity ≤ b.charge
  omega
theorem lrGo_law {L : List Consumer} {b : Battery} {m : Int} : ∀ n, lrGo L b m n ≤ n ∧ (0 < lrGo L b m n → takenB b (loadI L ((lrGo L b m n : Nat) : Int)) m = true)
  | 0 => ⟨Nat.le_refl _, fun h => absurd h (by simp [lrGo])⟩
  | n + 1 => by
    cases h : takenB b (loadI L ((n + 1 : Nat) : Int)) m
    · rw [lrGo_no h]
      obtain ⟨h1, h2⟩ := @lrGo_law L b m n
      exact ⟨by omega, h2⟩
    · rw [lrGo_yes h]
      exact ⟨Nat.le_refl _, fun _ => h⟩
theorem long_law {L : List Consumer} {b : Battery} {m : Int} (h : longB L b m = true) (h0 : 0 < longV L b m) : emB L (longV L b m) = true ∧ tkB b (emV L (longV L b m)) m = true := by
  have hv : longV L b m = (lrGo L b m 9 : Nat) := by rw [longV, if_pos h]
  have hh := h
  simp only [longB, Bool.and_eq_true] at hh
  obtain ⟨hc, hb, hm⟩ := hh
  obtain ⟨h1, h2⟩ := @lrGo_law L b m 9
  rw [hv] at h0 ⊢
  have ht := h2 (by omega)
  have he : emB L ((lrGo L b m 9 : Nat) : Int) = true := by
    simp only [emB, Bool.and_eq_true, inB_iff]
    exact ⟨hc, by omega, by omega⟩
  refine ⟨he, ?_⟩
  rw [emV, if_pos he]
  simp only [takenB, Bool.not_eq_true', Bool.or_eq_false_iff, decide_eq_false_iff_not] at ht
  obtain ⟨l0, _⟩ := loadI_bd ((lrGo L b m 9 : Nat) : Int) hc
  have hw : inB (loadI L ((lrGo L b m 9 : Nat) : Int)) 0 b.most = true := inB_iff.2 ⟨l0, by omega⟩
  have he2 : energyI (loadI L ((lrGo L b m 9 : Nat) : Int)) m ≤ b.charge := by omega
  simp [tkB, hb, hw, hm, he2]
theorem longV_bd (L : List Consumer) (b : Battery) (m : Int) : 0 ≤ longV L b m ∧ longV L b m ≤ 9 := by
  unfold longV
  split
  · have := (@lrGo_law L b m 9).1
    omega
  · omega
/- peaks -/
def sumWM : List Int → List Int → Int
  | a :: l, b :: m => a * b + sumWM l m
  | _, _ => 0
def peakB (P Q : List Int) : Bool := inB P.length 1 20 && (decide (Q.length = P.length) && ((P.all fun n => inB n 0 1000000) && (Q.all fun n => inB n 0 1000)))
def peakV (P Q : List Int) : Int := if peakB P Q then P.getD (fullUp P P.length) 0 else 0
def peakE (P Q : List Int) : Int := if peakB P Q then sumWM P Q else 0
theorem sumWM_step : ∀ (P Q : List Int) (k : Nat) (a b : Int), P[k]? = some a → Q[k]? = some b → sumWM (P.take (k + 1)) (Q.take (k + 1)) = sumWM (P.take k) (Q.take k) + a * b
  | [], _, _, _, _, h, _ => by simp at h
  | _ :: _, [], _, _, _, _, h => by simp at h
  | x :: P, y :: Q, 0, a, b, h1, h2 => by simp at h1 h2; subst h1; subst h2; simp [sumWM]
  | x :: P, y :: Q, k + 1, a, b, h1, h2 => by
    simp only [List.take_succ_cons, sumWM]
    have := sumWM_step P Q k a b (by simpa using h1) (by simpa using h2)
    omega
theorem sumWM_bd : ∀ (P Q : List Int), (∀ a ∈ P, 0 ≤ a ∧ a ≤ 1000000) → (∀ b ∈ Q, 0 ≤ b ∧ b ≤ 1000) → 0 ≤ sumWM P Q ∧ sumWM P Q ≤ 1000000000 * P.length
  | [], _, _, _ => by simp [sumWM]
  | _ :: _, [], _, _ => by simp [sumWM]; omega
  | x :: P, y :: Q, h1, h2 => by
    have ih := sumWM_bd P Q (fun a ha => h1 a (List.mem_cons_of_mem _ ha)) (fun a ha => h2 a (List.mem_cons_of_mem _ ha))
    have hx := h1 x List.mem_cons_self
    have hy := h2 y List.mem_cons_self
    have := prod_bd hx.1 hx.2 hy.1 hy.2
    simp only [sumWM, List.length_cons]
    omega
def mxUp (P : List Int) : Nat → Int
  | 0 => 0
  | k + 1 => max (mxUp P k) (P.getD k 0)
theorem mxUp_full {P : List Int} (h : ∀ a ∈ P, 0 ≤ a) : ∀ k, 1 ≤ k → k ≤ P.length → mxUp P k = P.getD (fullUp P k) 0
  | 0, h1, _ => by omega
  | 1, _, h2 => by
    have hg := List.getElem?_eq_getElem (show 0 < P.length by omega)
    have h0 : 0 ≤ P.getD 0 0 := by
      have := h _ (List.getElem_mem (show 0 < P.length by omega))
      simpa [List.getD, hg] using this
    simp only [mxUp, fullUp_one]; omega
  | k + 2, _, h2 => by
    have ih := mxUp_full h (k + 1) (by omega) (by omega)
    rw [mxUp, ih]
    rw [show fullUp P (k + 2) = if P.getD (fullUp P (k + 1)) 0 < P.getD (k + 1) 0 then k + 1 else fullUp P (k + 1) from rfl]
    split <;> omega
theorem mxUp_step {P : List Int} {k : Nat} {n : Int} (hg : P[k]? = some n) : mxUp P (k + 1) = max (mxUp P k) n := by
  rw [mxUp]; simp [List.getD, hg]
theorem mxUp_bd {P : List Int} (h : ∀ a ∈ P, 0 ≤ a ∧ a ≤ 1000000) : ∀ k, 0 ≤ mxUp P k ∧ mxUp P k ≤ 1000000
  | 0 => by simp [mxUp]
  | k + 1 => by
    have ih := mxUp_bd h k
    rw [mxUp]
    have : 0 ≤ P.getD k 0 ∧ P.getD k 0 ≤ 1000000 := by
      cases hk : P[k]? with
      | none => simp [List.getD, hk]
      | some n => have := h n (List.mem_of_getElem? hk); simpa [List.getD, hk] using this
    omega
end Go.Proofs.Ytafefnpmgpmjpaa
