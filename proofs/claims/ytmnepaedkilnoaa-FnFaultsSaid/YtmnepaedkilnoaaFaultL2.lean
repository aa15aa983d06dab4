/- Plain laws of matches, second part: matches rise, faults that are there, unexplained events, the likeliest fault, events within wider times. No program. -/
import Derived.Test.YtmnepaedkilnoaaFaultL
namespace Go.Proofs.Ytmnepaedkilnoaa
open Go Go.RowKit
set_option linter.unusedVariables false
/- a match rises -/
def Rises (hi : Int) (l : List Int) : Prop := (∀ j x y, l[j]? = some x → l[j + 1]? = some y → x < y) ∧ ∀ x ∈ l, x < hi
theorem Rises.snoc {hi hi2 : Int} {l : List Int} (h : Rises hi l) (h2 : hi < hi2) : Rises hi2 (l ++ [hi]) := by
  refine ⟨fun j x y hx hy => ?_, fun x hx => ?_⟩
  · by_cases hj : j + 1 < l.length
    · rw [List.getElem?_append_left (by omega)] at hx
      rw [List.getElem?_append_left hj] at hy
      exact h.1 j x y hx hy
    · have hj2 : j + 1 < (l ++ [hi]).length := (List.getElem?_eq_some_iff.1 hy).1
      rw [List.length_append] at hj2
      simp only [List.length_singleton] at hj2
      rw [List.getElem?_append_left (by omega)] at hx
      rw [List.getElem?_append_right (by omega), show j + 1 - l.length = 0 by omega] at hy
      simp at hy
      subst hy
      exact h.2 x (List.mem_of_getElem? hx)
  · rcases List.mem_append.1 hx with h3 | h3
    · have := h.2 x h3; omega
    · simp at h3; omega
theorem Rises.mono {hi hi2 : Int} {l : List Int} (h : Rises hi l) (h2 : hi ≤ hi2) : Rises hi2 l := ⟨h.1, fun x hx => by have := h.2 x hx; omega⟩
theorem rises_nil (hi : Int) : Rises hi [] := ⟨fun j x y hx => by simp at hx, fun x hx => by cases hx⟩
theorem mGo_rises (R : List Event) (p : Pat) (t0 : Int) (first : Nat) : ∀ (f i : Nat) (out : List Int), Rises i out → ∃ hi, Rises hi (mGo R p t0 first f i out)
  | 0, _, _, _ => ⟨0, rises_nil 0⟩
  | f + 1, i, out, ho => by
    unfold mGo
    split
    · exact ⟨0, rises_nil 0⟩
    · split
      · exact ⟨0, rises_nil 0⟩
      · split
        · exact ⟨0, rises_nil 0⟩
        · split
          · split
            · exact ⟨((i + 1 : Nat) : Int), ho.snoc (by omega)⟩
            · exact mGo_rises R p t0 first f (i + 1) _ (ho.snoc (by omega))
          · split
            · exact ⟨0, rises_nil 0⟩
            · exact mGo_rises R p t0 first f (i + 1) _ (ho.mono (by omega))
theorem first_rises (R : List Event) (p : Pat) : ∃ hi, Rises hi (mFirst R p) := by
  rcases mFirst_cases R p with h | ⟨k, h⟩
  · rw [h]; exact ⟨0, rises_nil 0⟩
  · rw [h]; unfold mFrom
    split
    · exact ⟨0, rises_nil 0⟩
    · exact mGo_rises R p _ k _ k [] (rises_nil _)
/- what FirstMatch hands back, of a match that is there -/
theorem match_facts {R : List Event} {P : List Pat} {fault : Int} (h : matchL R P fault ≠ []) :
    recB R = true ∧ patsB P = true ∧ (∀ j x y, (matchL R P fault)[j]? = some x → (matchL R P fault)[j + 1]? = some y → x < y) ∧
    (∃ (j : Nat) (e : Event), (matchL R P fault)[(matchL R P fault).length - 1]? = some (j : Int) ∧ R[j]? = some e ∧ detV R P fault ≤ e.time) ∧ 0 ≤ detV R P fault ∧ fault ∈ faultsL R P := by
  unfold matchL detV at *
  split at h
  · exact absurd rfl h
  · rename_i p hp
    obtain ⟨a, b, c, d, e⟩ := pick_ok hp
    try simp only [hp]
    obtain ⟨d1, d2⟩ := det_first (p := p) a
    obtain ⟨hi, hr, _⟩ := first_rises R p
    obtain ⟨j, ev, g1, g2, g3⟩ := endT_at (mFirst_places R p) h
    refine ⟨a, b, hr, ⟨j, ev, g1, g2, by have := d2 h; omega⟩, d1.2 h, ?_⟩
    rw [faultsL, if_pos (by rw [a, b]; rfl), faultsF, ← d]
    exact List.mem_map.2 ⟨p, List.mem_filter.2 ⟨c, by simpa using h⟩, rfl⟩
theorem det_ok (R : List Event) (P : List Pat) (fault : Int) : (0 ≤ detV R P fault) ↔ matchL R P fault ≠ [] := by
  unfold matchL detV
  cases hp : pickP R P fault with
  | none => simp
  | some p => exact (det_first (pick_ok hp).1).1
/- unexplained events stand in no first match -/
theorem unex_not {R : List Event} {P : List Pat} {fault x : Int} (h : x ∈ matchL R P fault) : x ∉ unexV R P := by
  unfold matchL at h
  split at h
  · cases h
  · rename_i p hp
    obtain ⟨a, b, c, d, e⟩ := pick_ok hp
    rw [unexV, if_pos (by rw [a, b]; rfl), unexUp]
    intro hm
    have := (List.mem_filter.1 hm).2
    simp only [Bool.not_eq_true', List.any_eq_false] at this
    exact this p c (by simp only [hitP, List.any_eq_true]; exact ⟨x, h, by simp⟩)
/- the likeliest fault is one that is there -/
def LikeOk (R : List Event) (P : List Pat) (s : LikeS) : Prop := (s.1 = 0 ∧ s.2.1 = 0 ∧ ∀ p ∈ P, mFirst R p = []) ∨ (∃ p ∈ P, mFirst R p ≠ [] ∧ s.1 = p.fault)
theorem like_ok {R : List Event} (hR : recB R = true) : ∀ (P Q : List Pat) (s : LikeS), (∀ p ∈ P, patB p = true) → LikeOk R Q s → LikeOk R (Q ++ P) (P.foldl (likeStep R) s)
  | [], Q, s, _, h => by simpa using h
  | p :: P, Q, s, hp, h => by
    rw [List.foldl_cons, show Q ++ p :: P = (Q ++ [p]) ++ P by simp]
    refine like_ok hR P (Q ++ [p]) _ (fun q hq => hp q (List.mem_cons_of_mem _ hq)) ?_
    obtain ⟨_, ⟨l1, _⟩, _⟩ := patB_bd (hp p (List.mem_cons_self ..))
    have hd := (det_first (p := p) hR).1
    unfold likeStep
    split
    · rename_i hc
      exact .inr ⟨p, by simp, hd.1 hc.1, rfl⟩
    · rename_i hc
      rcases h with ⟨a, b, c⟩ | ⟨q, hq, h1, h2⟩
      · refine .inl ⟨a, b, fun q hq => ?_⟩
        rcases List.mem_append.1 hq with h3 | h3
        · exact c q h3
        · simp at h3; subst h3
          apply Classical.byContradiction
          intro hne
          exact hc ⟨hd.2 hne, .inl (by rw [b]; omega)⟩
      · exact .inr ⟨q, List.mem_append_left _ hq, h1, h2⟩
theorem like_there (R : List Event) (P : List Pat) : (likeV R P = 0 ∧ faultsL R P = []) ∨ (0 < likeV R P ∧ likeV R P ∈ faultsL R P ∧ faultsL R P ≠ []) := by
  unfold likeV faultsL
  by_cases hg : (recB R && patsB P) = true
  · rw [if_pos hg, if_pos hg]
    simp only [Bool.and_eq_true] at hg
    have hall : ∀ p ∈ P, patB p = true := fun p hp => by
      obtain ⟨k, hk, he⟩ := List.mem_iff_getElem.1 hp
      exact riseB_one hg.2 k p (by rw [← he]; exact List.getElem?_eq_getElem hk)
    have := like_ok hg.1 P [] (0, 0, 0) hall (.inl ⟨rfl, rfl, fun p hp => by cases hp⟩)
    rw [List.nil_append] at this
    rcases this with ⟨a, b, c⟩ | ⟨p, hp, h1, h2⟩
    · left
      refine ⟨a, ?_⟩
      unfold faultsF
      rw [List.map_eq_nil_iff, List.filter_eq_nil_iff]
      intro p hp
      simp [c p hp]
    · right
      have hm : p.fault ∈ faultsF R P := List.mem_map.2 ⟨p, List.mem_filter.2 ⟨hp, by simpa using h1⟩, rfl⟩
      have hb := (patB_bd (hall p hp)).1
      refine ⟨by unfold likeUp; rw [h2]; omega, by unfold likeUp; rw [h2]; exact hm, fun h => by rw [h] at hm; cases hm⟩
  · rw [if_neg hg, if_neg hg]; left; exact ⟨rfl, rfl⟩
/- events within wider times -/
theorem within_more (R : List Event) {lo hi : Int} (h : withinB R lo hi = true) : withinB R (lo - 1) (hi + 1) = true ∧ (withinV R lo hi).length ≤ (withinV R (lo - 1) (hi + 1)).length ∧ ∀ e ∈ withinV R lo hi, lo ≤ e.time ∧ e.time ≤ hi := by
  have h2 : withinB R (lo - 1) (hi + 1) = true := by
    simp only [withinB, Bool.and_eq_true, decide_eq_true_eq] at h ⊢
    exact ⟨h.1, by omega⟩
  refine ⟨h2, ?_, fun e he => ?_⟩
  · rw [withinV, withinV, if_pos h, if_pos h2]
    unfold withinL
    have : (R.filter (inT lo hi)) = (R.filter (inT (lo - 1) (hi + 1))).filter (inT lo hi) := by
      rw [List.filter_filter]
      congr 1
      funext e
      by_cases h3 : inT lo hi e = true
      · rw [h3]
        simp only [inT, inB_iff] at h3 ⊢
        simp [inB]; omega
      · have : inT lo hi e = false := by simpa using h3
        rw [this]; simp
    rw [this]
    exact List.length_filter_le _ _
  · rw [withinV, if_pos h] at he
    have := (List.mem_filter.1 he).2
    exact inB_iff.1 this
end Go.Proofs.Ytmnepaedkilnoaa
