/- Plain laws of matches: counts are positive where there is a match, matches rise, the smallest end, faults, unexplained events, events within times. No program. -/
import Derived.Test.YtmnepaedkilnoaaWays
import Derived.Test.YtmnepaedkilnoaaDetect
import Derived.Test.YtmnepaedkilnoaaFaultsIn
import Derived.Test.YtmnepaedkilnoaaLikely
import Derived.Test.YtmnepaedkilnoaaUnex
import Derived.Test.YtmnepaedkilnoaaWithin
namespace Go.Proofs.Ytmnepaedkilnoaa
open Go Go.RowKit
set_option linter.unusedVariables false
theorem getD_set {W : List Int} {k j : Nat} {v : Int} (hk : k < W.length) : (W.set k v).getD j 0 = if j = k then v else W.getD j 0 := by
  simp only [List.getD_eq_getElem?_getD, List.getElem?_set]
  by_cases h : k = j
  · subst h; simp [hk]
  · rw [if_neg h, if_neg (fun e => h e.symm)]
theorem kDown_at (cs : List Int) (c : Int) : ∀ (k : Nat) (W : List Int) (j : Nat), k < W.length →
    (kDown cs c k W).getD j 0 = if 1 ≤ j ∧ j ≤ k ∧ cs[j]? = some c then W.getD j 0 + W.getD (j - 1) 0 else W.getD j 0
  | 0, W, j, _ => by rw [kDown, if_neg (by omega)]
  | k + 1, W, j, hk => by
    rw [kDown]
    by_cases hc : cs[k + 1]? = some c
    · rw [if_pos hc, kDown_at cs c k _ j (by rw [List.length_set]; omega), getD_set hk, getD_set hk]
      by_cases hj : j = k + 1
      · subst hj
        have e1 : ¬ (1 ≤ k + 1 ∧ k + 1 ≤ k ∧ cs[k + 1]? = some c) := by omega
        rw [if_neg e1, if_pos rfl, if_pos ⟨by omega, by omega, hc⟩]; simp
      · by_cases hj2 : 1 ≤ j ∧ j ≤ k ∧ cs[j]? = some c
        · rw [if_pos hj2, if_pos (show 1 ≤ j ∧ j ≤ k + 1 ∧ cs[j]? = some c from ⟨hj2.1, by omega, hj2.2.2⟩), if_neg hj, if_neg (show ¬ j - 1 = k + 1 by omega)]
        · rw [if_neg hj2, if_neg hj, if_neg (fun h => hj2 ⟨h.1, by omega, h.2.2⟩)]
    · rw [if_neg hc, kDown_at cs c k W j (by omega)]
      by_cases hj2 : 1 ≤ j ∧ j ≤ k ∧ cs[j]? = some c
      · rw [if_pos hj2, if_pos ⟨hj2.1, by omega, hj2.2.2⟩]
      · rw [if_neg hj2, if_neg (fun h => hj2 ⟨h.1, by
          rcases Nat.lt_or_eq_of_le h.2.1 with h3 | h3
          · omega
          · rw [h3] at h; exact absurd h.2.2 hc, h.2.2⟩)]
/- the first g counts are positive, the others are 0 -/
def Upto (n g : Nat) (W : List Int) : Prop := W.length = n ∧ ∀ j, j < n → 0 ≤ W.getD j 0 ∧ (0 < W.getD j 0 ↔ j < g)
theorem upto0 {n : Nat} (h : 0 < n) : Upto n 1 (ways0 n) := by
  refine ⟨ways0_len h, fun j hj => ?_⟩
  unfold ways0
  rw [List.getD_eq_getElem?_getD]
  cases j with
  | zero => simp
  | succ j => rw [List.getElem?_cons_succ, List.getElem?_replicate]; split <;> simp
theorem upto_down {cs : List Int} {c : Int} {g : Nat} {W : List Int} (h : Upto cs.length g W) (h1 : 1 ≤ g) (hg : g ≤ cs.length) : Upto cs.length (if cs[g]? = some c then g + 1 else g) (kDown cs c (cs.length - 1) W) := by
  obtain ⟨hl, hw⟩ := h
  refine ⟨by rw [kDown_len, hl], fun j hj => ?_⟩
  rw [kDown_at cs c _ W j (by omega)]
  have hj0 := hw j hj
  by_cases hc : 1 ≤ j ∧ j ≤ cs.length - 1 ∧ cs[j]? = some c
  · rw [if_pos hc]
    have hp := hw (j - 1) (by omega)
    by_cases hjg : j = g
    · subst hjg
      rw [if_pos hc.2.2]
      have := hp.2.2 (by omega)
      exact ⟨by omega, fun _ => by omega, fun _ => by omega⟩
    · have e : (j < if cs[g]? = some c then g + 1 else g) ↔ j < g := by split <;> omega
      refine ⟨by omega, fun h3 => e.2 ?_, fun h3 => ?_⟩
      · by_cases hlt : j < g
        · exact hlt
        · have a : ¬ 0 < W.getD j 0 := fun h4 => hlt (hj0.2.1 h4)
          have b : ¬ 0 < W.getD (j - 1) 0 := fun h4 => by have := hp.2.1 h4; omega
          omega
      · have := hj0.2.2 (e.1 h3); omega
  · rw [if_neg hc]
    have e : (j < if cs[g]? = some c then g + 1 else g) ↔ j < g := by
      split
      · rename_i h3
        by_cases hjg : j = g
        · subst hjg; exact absurd ⟨h1, by omega, h3⟩ hc
        · omega
      · exact Iff.rfl
    exact ⟨hj0.1, hj0.2.trans e.symm⟩
theorem upto_go {R : List Event} {p : Pat} {t0 : Int} (hp : 1 ≤ p.codes.length) : ∀ (f i : Nat) (W : List Int), Upto p.codes.length p.codes.length W → Upto p.codes.length p.codes.length (wGo R p t0 f i W)
  | 0, _, _, h => h
  | f + 1, i, W, h => by
    unfold wGo
    split
    · exact h
    · rename_i e he
      split
      · exact h
      · have := upto_down (c := e.code) h hp (Nat.le_refl _)
        rw [if_neg (by rw [List.getElem?_eq_none (Nat.le_refl _)]; simp)] at this
        exact upto_go hp f (i + 1) _ this
theorem last_pos {n g : Nat} {W : List Int} (h : Upto n g W) (hn : 1 ≤ n) (hg : g ≤ n) : 0 < W.getD (n - 1) 0 ↔ g = n := by
  rw [(h.2 (n - 1) (by omega)).2]; omega
theorem go_sync {R : List Event} {p : Pat} {t0 : Int} {first : Nat} : ∀ (f i : Nat) (W out : List Int), first < i → 1 ≤ out.length → out.length < p.codes.length → Upto p.codes.length out.length W →
    (0 < (wGo R p t0 f i W).getD (p.codes.length - 1) 0 ↔ mGo R p t0 first f i out ≠ [])
  | 0, i, W, out, _, h1, h2, hW => by
    rw [wGo, last_pos hW (by omega) (by omega), mGo]; simp; omega
  | f + 1, i, W, out, hi, h1, h2, hW => by
    cases he : R[i]? with
    | none => 
      have hle : R.length ≤ i := List.getElem?_eq_none_iff.1 he
      rw [wGo_end hle, mGo_end hle, last_pos hW (by omega) (by omega)]; simp; omega
    | some e =>
      by_cases hlate : p.within < e.time - t0
      · rw [wGo_late he hlate, mGo_late he hlate, last_pos hW (by omega) (by omega)]; simp; omega
      · rw [wGo_on he hlate]
        have hgc := List.getElem?_eq_getElem h2
        have hd := upto_down (c := e.code) hW h1 (Nat.le_of_lt h2)
        by_cases hcode : e.code = p.codes[out.length]
        · rw [if_pos (by rw [hgc, hcode])] at hd
          by_cases hl : out.length + 1 = p.codes.length
          · rw [mGo_last he hlate hgc hcode hl]
            rw [hl] at hd
            have := upto_go (R := R) (t0 := t0) (by omega) f (i + 1) _ hd
            rw [last_pos this (by omega) (Nat.le_refl _)]
            simp
          · rw [mGo_hit he hlate hgc hcode hl]
            have := go_sync (R := R) (p := p) (t0 := t0) (first := first) f (i + 1) (kDown p.codes e.code (p.codes.length - 1) W) (out ++ [(i : Int)]) (by omega) (by simp) (by rw [List.length_append]; simp; omega) (by rw [List.length_append]; simpa using hd)
            exact this
        · rw [if_neg (by rw [hgc]; simpa using fun h => hcode h.symm)] at hd
          rw [mGo_miss he hlate hgc hcode (by omega)]
          exact go_sync (R := R) (p := p) (t0 := t0) (first := first) f (i + 1) _ out (by omega) h1 h2 hd
theorem from_sync {R : List Event} {p : Pat} (hp : patB p = true) (first : Nat) : 0 < wFrom R p first ↔ mFrom R p first ≠ [] := by
  obtain ⟨_, ⟨l1, l2⟩, w0, _⟩ := patB_bd hp
  cases he : R[first]? with
  | none => simp [wFrom, mFrom, he]
  | some e =>
    have hlt := (List.getElem?_eq_some_iff.1 he).1
    have hgc := List.getElem?_eq_getElem (show 0 < p.codes.length by omega)
    obtain ⟨f, hf⟩ : ∃ f, R.length - first = f + 1 := ⟨R.length - first - 1, by omega⟩
    have hf2 : f = R.length - (first + 1) := by omega
    have hnl : ¬ p.within < e.time - e.time := by omega
    rw [mFrom, he]; simp only []
    by_cases hcode : e.code = p.codes[0]
    · rw [wFrom, he]; simp only []
      rw [if_pos (by rw [hgc, hcode]), hf]
      by_cases hl : 1 = p.codes.length
      · rw [mGo_last (out := []) he hnl hgc hcode (by simpa using hl)]
        have := upto_go (R := R) (p := p) (t0 := e.time) l1 (R.length - (first + 1)) (first + 1) (ways0 p.codes.length) (by have := upto0 (n := p.codes.length) (by omega); rw [← hl] at this ⊢; exact this)
        rw [last_pos this l1 (Nat.le_refl _)]
        simp
      · rw [mGo_hit (out := []) he hnl hgc hcode (by simpa using hl), ← hf2]
        exact go_sync (R := R) (p := p) (first := first) f (first + 1) _ _ (by omega) (by simp) (by simp; omega) (by simpa using upto0 (n := p.codes.length) (by omega))
    · rw [wFrom_no he hgc hcode, mGo_none he hgc hcode rfl]; simp
theorem from_nn {R : List Event} {p : Pat} (hp : patB p = true) (first : Nat) : 0 ≤ wFrom R p first := by
  obtain ⟨_, ⟨l1, l2⟩, w0, _⟩ := patB_bd hp
  have key : ∀ (f i : Nat) (W : List Int) (g : Nat), 1 ≤ g → g ≤ p.codes.length → ∀ t0, Upto p.codes.length g W → ∃ g', Upto p.codes.length g' (wGo R p t0 f i W) := by
    intro f
    induction f with
    | zero => intro i W g _ _ t0 h; exact ⟨g, h⟩
    | succ f ih =>
      intro i W g h1 h2 t0 h
      unfold wGo
      split
      · exact ⟨g, h⟩
      · rename_i e he
        split
        · exact ⟨g, h⟩
        · have hd := upto_down (c := e.code) h h1 h2
          refine ih (i + 1) _ _ (by split <;> omega) ?_ t0 hd
          split
          · rename_i h3; have := (List.getElem?_eq_some_iff.1 h3).1; omega
          · exact h2
  unfold wFrom
  split
  · exact Int.le_refl _
  · split
    · obtain ⟨g', hg'⟩ := key (R.length - (first + 1)) (first + 1) (ways0 p.codes.length) 1 (Nat.le_refl _) l1 _ (upto0 (by omega))
      exact (hg'.2 (p.codes.length - 1) (by omega)).1
    · exact Int.le_refl _
theorem ways_pos {R : List Event} {p : Pat} (hp : patB p = true) : ∀ k, 0 ≤ waysUp R p k ∧ (0 < waysUp R p k ↔ ∃ j, j < k ∧ mFrom R p j ≠ [])
  | 0 => by simp [waysUp]
  | k + 1 => by
    obtain ⟨a, b⟩ := ways_pos (R := R) hp k
    have c := from_nn (R := R) hp k
    have d := from_sync (R := R) hp k
    rw [waysUp]
    refine ⟨by omega, fun h => ?_, fun ⟨j, hj, hne⟩ => ?_⟩
    · by_cases h1 : 0 < waysUp R p k
      · obtain ⟨j, hj, hne⟩ := b.1 h1; exact ⟨j, by omega, hne⟩
      · exact ⟨k, by omega, d.1 (by omega)⟩
    · by_cases hjk : j = k
      · subst hjk; have := d.2 hne; omega
      · have := b.2 ⟨j, by omega, hne⟩; omega
theorem first_iff (R : List Event) (p : Pat) : mFirst R p ≠ [] ↔ ∃ j, j < R.length ∧ mFrom R p j ≠ [] := by
  constructor
  · intro h
    apply Classical.byContradiction
    intro hn
    exact h (mFirst_none fun j hj => Classical.byContradiction fun h2 => hn ⟨j, hj, h2⟩)
  · rintro ⟨j, hj, hne⟩ h
    have hall : ∀ n, n ≤ R.length → ∀ i, i < n → mFrom R p i = [] := by
      intro n
      induction n with
      | zero => intro _ i hi; omega
      | succ n ih =>
        intro hn i hi
        by_cases hin : i = n
        · subst hin
          apply Classical.byContradiction
          intro h2
          rw [mFirst_hit (by omega) (ih (by omega)) h2] at h
          exact h2 h
        · exact ih (by omega) i (by omega)
    exact hne (hall R.length (Nat.le_refl _) j hj)
theorem pick_ok {R : List Event} {P : List Pat} {fault : Int} {p : Pat} (h : pickP R P fault = some p) : recB R = true ∧ patsB P = true ∧ p ∈ P ∧ p.fault = fault ∧ patB p = true := by
  unfold pickP at h
  split at h
  · rename_i hg
    simp only [Bool.and_eq_true] at hg
    have hm := List.mem_of_find?_eq_some h
    have hf := List.find?_some h
    obtain ⟨k, hk, he⟩ := List.mem_iff_getElem.1 hm
    exact ⟨hg.1, hg.2, hm, by simpa [isF] using hf, riseB_one hg.2 k p (by rw [← he]; exact List.getElem?_eq_getElem hk)⟩
  · cases h
/- CountMatches and FirstMatch -/
theorem count_match {R : List Event} {P : List Pat} {fault : Int} (h : cntB R P fault = true) : 0 < cntI R P fault ↔ matchL R P fault ≠ [] := by
  unfold cntB at h
  unfold cntI matchL
  split at h
  · cases h
  · rename_i p hp
    rw [hp]; simp only []
    have hle : waysUp R p R.length ≤ 10000 := of_decide_eq_true h
    rw [if_neg (by omega), (ways_pos (pick_ok hp).2.2.2.2 R.length).2, first_iff]
theorem det_up (R : List Event) (p : Pat) : ∀ k, -1 ≤ detUp R p k → ((0 ≤ detUp R p k ↔ ∃ j, j < k ∧ mFrom R p j ≠ []) ∧ ∀ j, j < k → mFrom R p j ≠ [] → detUp R p k ≤ endT R (mFrom R p j)) ∨ recB R = false
  | 0, _ => .inl ⟨by simp [detUp], fun j hj => by omega⟩
  | k + 1, _ => by
    cases hR : recB R
    · exact .inr rfl
    · left
      have hb := detUp_bd p hR k
      rcases det_up R p k hb.1 with ⟨a, b⟩ | h
      · unfold detUp detStep
        split
        · rename_i hn
          refine ⟨⟨fun h => ?_, fun ⟨j, hj, hne⟩ => ?_⟩, fun j hj hne => ?_⟩
          · obtain ⟨j, hj, hne⟩ := a.1 h; exact ⟨j, by omega, hne⟩
          · by_cases hjk : j = k
            · subst hjk; exact absurd hn hne
            · exact a.2 ⟨j, by omega, hne⟩
          · by_cases hjk : j = k
            · subst hjk; exact absurd hn hne
            · exact b j (by omega) hne
        · rename_i hn
          obtain ⟨q, e, _, he, ht⟩ := endT_at (mFrom_places R p k) hn
          have := recB_bd hR he
          split
          · rename_i hs
            refine ⟨⟨fun _ => ⟨k, by omega, hn⟩, fun _ => by omega⟩, fun j hj hne => ?_⟩
            by_cases hjk : j = k
            · subst hjk; exact Int.le_refl _
            · have := b j (by omega) hne
              have := a.2 ⟨j, by omega, hne⟩
              omega
          · rename_i hs
            refine ⟨⟨fun _ => ⟨k, by omega, hn⟩, fun _ => by omega⟩, fun j hj hne => ?_⟩
            by_cases hjk : j = k
            · subst hjk; omega
            · exact b j (by omega) hne
      · rw [hR] at h; cases h
theorem det_first {R : List Event} {p : Pat} (hR : recB R = true) : (0 ≤ detT R p ↔ mFirst R p ≠ []) ∧ (mFirst R p ≠ [] → detT R p ≤ endT R (mFirst R p)) := by
  rcases det_up R p R.length (detUp_bd p hR _).1 with ⟨a, b⟩ | h
  · refine ⟨by rw [first_iff]; exact a, fun hne => ?_⟩
    obtain ⟨j, hj, hj2⟩ := (first_iff R p).1 hne
    rcases mFirst_cases R p with h | ⟨k, h⟩
    · exact absurd h hne
    · have hk : k < R.length := by
        apply Classical.byContradiction
        intro hk
        have : mFrom R p k = [] := by unfold mFrom; rw [List.getElem?_eq_none (by omega)]
        rw [h] at hne; exact hne this
      rw [h] at hne ⊢
      exact b k hk hne
  · rw [hR] at h; cases h
end Go.Proofs.Ytmnepaedkilnoaa
