/- Uses of parts in the order of their days: what is left, which get nothing. No program. -/
import Derived.Test.YtlphegjhkchglaaUses
import Derived.Test.YtlphegjhkchglaaOrd
namespace Go.Proofs.Ytlphegjhkchglaa
open Go Go.RowKit
set_option linter.unusedVariables false
set_option linter.unusedSimpArgs false
section
variable {α β : Type} {gt : α → α → Bool} {gt2 : β → β → Bool} {f : β → α} (hg : ∀ a b, gt (f a) (f b) = gt2 a b)
include hg
theorem posR_map (L : List β) (x : β) : posR (fun c => gt c (f x)) (L.map f) = posR (fun c => gt2 c x) L := by
  have e : ∀ M : List β, (M.map f).takeWhile (fun c => gt c (f x)) = (M.takeWhile fun c => gt2 c x).map f := fun M => by
    induction M with
    | nil => rfl
    | cons a r ih =>
      rw [List.map_cons, List.takeWhile_cons, List.takeWhile_cons, hg, ih]
      split <;> rfl
  unfold posR posOf
  rw [← List.map_reverse, e, List.length_map, List.length_map]
theorem insS_map (L : List β) (x : β) : (insS gt2 L x).map f = insS gt (L.map f) (f x) := by
  unfold insS
  rw [posR_map hg]
  simp [insL, List.map_take, List.map_drop]
theorem ordL_map_acc : ∀ (L acc : List β), (L.foldl (insS gt2) acc).map f = (L.map f).foldl (insS gt) (acc.map f)
  | [], acc => rfl
  | x :: r, acc => by rw [List.foldl_cons, List.map_cons, List.foldl_cons, ordL_map_acc r, insS_map hg]
theorem ordL_map (L : List β) : (ordL gt2 L).map f = ordL gt (L.map f) := ordL_map_acc hg L []
end
def dayU (U : List Use) (i : Nat) : Int := match U[i]? with | some u => u.day | none => 0
theorem dayU_at {U : List Use} {i : Nat} {u : Use} (h : U[i]? = some u) : dayU U i = u.day := by simp [dayU, h]
def ordU (U : List Use) : List Nat := ordL (gtK (dayU U)) (List.range U.length)
def dueU (U : List Use) (D : Int) : List Nat := (ordU U).filter fun i => decide (dayU U i ≤ D)
theorem dueU_is (U : List Use) (D : Int) : dueU U D = ordL (gtK (dayU U)) ((List.range U.length).filter fun i => decide (dayU U i ≤ D)) := ord_filter _ _
theorem ordU_len (U : List Use) : (ordU U).length = U.length := by rw [ordU, ordL_len, List.length_range]
theorem ordU_lt {U : List Use} {i : Nat} (h : i ∈ ordU U) : i < U.length := by simpa using (ordL_perm (List.range U.length)).mem_iff.1 h
theorem ordU_nodup (U : List Use) : (ordU U).Nodup := (ordL_perm (List.range U.length)).nodup_iff.2 List.nodup_range
def partK (L : List Part) (u : Use) : Nat := (idxF (isN u.name) L).toNat
def runS (L : List Part) (U : List Use) (s : List Int × List Int) (i : Nat) : List Int × List Int := match U[i]? with
  | none => s
  | some u => if u.count ≤ s.1.getD (partK L u) 0 then (s.1.set (partK L u) (s.1.getD (partK L u) 0 - u.count), s.2) else (s.1, s.2 ++ [(i : Int)])
def run0 (L : List Part) : List Int × List Int := (L.map (·.have_), [])
def runO (L : List Part) (U : List Use) (O : List Nat) : List Int × List Int := O.foldl (runS L U) (run0 L)
theorem runO_snoc (L : List Part) (U : List Use) (O : List Nat) (i : Nat) : runO L U (O ++ [i]) = runS L U (runO L U O) i := by simp [runO, List.foldl_append]
theorem runS_yes {L : List Part} {U : List Use} {s : List Int × List Int} {S M : List Int} {i : Nat} {u : Use} {k : Nat} {h : Int} (hs : s = (S, M)) (hu : U[i]? = some u) (hk : idxF (isN u.name) L = k) (hh : S[k]? = some h) (hle : u.count ≤ h) : runS L U s i = (S.set k (h - u.count), M) := by
  subst hs
  have e : partK L u = k := by simp [partK, hk]
  have e2 : S.getD k 0 = h := by simp [List.getD, hh]
  simp only [runS, hu, e, e2]
  rw [if_pos hle]
theorem runS_no {L : List Part} {U : List Use} {s : List Int × List Int} {S M : List Int} {i : Nat} {u : Use} {k : Nat} {h : Int} (hs : s = (S, M)) (hu : U[i]? = some u) (hk : idxF (isN u.name) L = k) (hh : S[k]? = some h) (hle : ¬ u.count ≤ h) : runS L U s i = (S, M ++ [(i : Int)]) := by
  subst hs
  have e : partK L u = k := by simp [partK, hk]
  have e2 : S.getD k 0 = h := by simp [List.getD, hh]
  simp only [runS, hu, e, e2]
  rw [if_neg hle]
theorem uses_at {L : List Part} {U : List Use} (h : usesB L U = true) {i : Nat} {u : Use} (hu : U[i]? = some u) : (∃ k : Nat, idxF (isN u.name) L = k ∧ k < L.length) ∧ (0 ≤ u.day ∧ u.day ≤ 999) ∧ 1 ≤ u.count ∧ u.count ≤ 100 := by
  simp only [usesB, Bool.and_eq_true, Bool.not_eq_true', List.any_eq_false] at h
  have h1 := h.2.2 u (List.mem_of_getElem? hu)
  simp only [useBad, Bool.not_eq_true', Bool.not_eq_false, Bool.and_eq_true, inB_iff] at h1
  refine ⟨?_, h1.2.1, h1.2.2.1, h1.2.2.2⟩
  rcases idxF_cases (isN u.name) L with ⟨_, hany⟩ | ⟨kk, wk, hi, hkl, _⟩
  · rw [hany] at h1; exact absurd h1.1 (by decide)
  · exact ⟨kk, hi, hkl⟩
theorem usesB_parts {L : List Part} {U : List Use} (h : usesB L U = true) : partsB L = true := by simp only [usesB, Bool.and_eq_true] at h; exact h.1
theorem usesB_len {L : List Part} {U : List Use} (h : usesB L U = true) : L.length ≤ 10 ∧ U.length ≤ 20 := by
  have h2 := h
  simp only [usesB, Bool.and_eq_true, decide_eq_true_eq] at h2
  exact ⟨riseB_len h2.1, h2.2.1⟩
/- what holds along a run over an order -/
theorem run_facts {L : List Part} {U : List Use} (h : usesB L U = true) : ∀ (n : Nat) (O : List Nat), O.length = n → (∀ i ∈ O, i < U.length) → (runO L U O).1.length = L.length ∧ (∀ x ∈ (runO L U O).1, 0 ≤ x ∧ x ≤ 500) ∧ (runO L U O).2.length ≤ n ∧ ∀ x ∈ (runO L U O).2, ∃ i ∈ O, x = (i : Int)
  | 0, O, hn, _ => by
    obtain rfl := List.eq_nil_of_length_eq_zero hn
    refine ⟨by simp [runO, run0], fun x hx => ?_, by simp [runO, run0], fun x hx => by simp [runO, run0] at hx⟩
    simp only [runO, run0, List.foldl_nil, List.mem_map] at hx
    obtain ⟨c, hc, rfl⟩ := hx
    obtain ⟨k, hk, rfl⟩ := List.mem_iff_getElem.1 hc
    exact (parts_bd (usesB_parts h) (List.getElem?_eq_getElem hk)).1
  | n + 1, O, hn, hO => by
    obtain ⟨Q, i, rfl⟩ : ∃ Q i, O = Q ++ [i] := by
      rcases List.eq_nil_or_concat O with rfl | ⟨Q, i, rfl⟩
      · simp at hn
      · exact ⟨Q, i, by simp⟩
    obtain ⟨f1, f2, f3, f4⟩ := run_facts h n Q (by simpa using hn) (fun j hj => hO j (by simp [hj]))
    have hi := hO i (by simp)
    have hu := List.getElem?_eq_getElem hi
    obtain ⟨⟨k, hk, hkl⟩, _, hc1, hc2⟩ := uses_at h hu
    have hh := List.getElem?_eq_getElem (show k < (runO L U Q).1.length by omega)
    have hb := f2 _ (List.getElem_mem (show k < (runO L U Q).1.length by omega))
    rw [runO_snoc]
    by_cases hle : (U[i]).count ≤ (runO L U Q).1[k]
    · rw [runS_yes rfl hu hk hh hle]
      refine ⟨by simpa using f1, fun x hx => ?_, by simp only; omega, fun x hx => ?_⟩
      · rcases List.mem_or_eq_of_mem_set hx with h1 | h1
        · exact f2 x h1
        · omega
      · obtain ⟨j, hj, he⟩ := f4 x hx
        exact ⟨j, by simp [hj], he⟩
    · rw [runS_no rfl hu hk hh hle]
      refine ⟨f1, f2, by simp only [List.length_append, List.length_singleton]; omega, fun x hx => ?_⟩
      rcases List.mem_append.1 hx with h1 | h1
      · obtain ⟨j, hj, he⟩ := f4 x h1
        exact ⟨j, by simp [hj], he⟩
      · exact ⟨i, by simp, by simpa using h1⟩
def runL (L : List Part) (U : List Use) (D : Int) : List Int × List Int := runO L U (dueU U D)
theorem due_lt {U : List Use} {D : Int} {i : Nat} (h : i ∈ dueU U D) : i < U.length := ordU_lt (List.mem_filter.1 h).1
theorem run_len {L : List Part} {U : List Use} (h : usesB L U = true) (D : Int) : (runL L U D).1.length = L.length ∧ (runL L U D).2.length ≤ 20 := by
  have hd : (dueU U D).length ≤ 20 := by
    have := List.length_filter_le (fun i => decide (dayU U i ≤ D)) (ordU U)
    rw [ordU_len] at this
    have := (usesB_len h).2
    unfold dueU; omega
  obtain ⟨f1, _, f3, _⟩ := run_facts h _ (dueU U D) rfl (fun i hi => due_lt hi)
  exact ⟨f1, by unfold runL; omega⟩
def stkB (L : List Part) (U : List Use) (D : Int) : Bool := usesB L U && inB D 0 999
def stkV (L : List Part) (U : List Use) (D : Int) : List Int := if stkB L U D then (runL L U D).1 else []
def missL (L : List Part) (U : List Use) (D : Int) : List Int := srtI (runL L U D).2
def missV (L : List Part) (U : List Use) : List Int := if usesB L U then missL L U 999 else []
theorem stkV_len (L : List Part) (U : List Use) (D : Int) : (stkV L U D).length ≤ 10 := by
  unfold stkV
  split
  · rename_i h
    simp only [stkB, Bool.and_eq_true] at h
    rw [(run_len h.1 D).1]; exact (usesB_len h.1).1
  · exact Nat.zero_le _
theorem missL_len {L : List Part} {U : List Use} (h : usesB L U = true) (D : Int) : (missL L U D).length ≤ 20 := by
  rw [missL, (srtI_perm _).length_eq]; exact (run_len h D).2
theorem missL_in {L : List Part} {U : List Use} (h : usesB L U = true) (D : Int) : ∀ x ∈ missL L U D, ∃ i : Nat, i < U.length ∧ x = (i : Int) := fun x hx => by
  have hx := (srtI_perm _).mem_iff.1 hx
  obtain ⟨_, _, _, f4⟩ := run_facts h _ (dueU U D) rfl (fun i hi => due_lt hi)
  obtain ⟨i, hi, he⟩ := f4 x hx
  exact ⟨i, due_lt hi, he⟩
theorem missV_len (L : List Part) (U : List Use) : (missV L U).length ≤ 20 := by
  unfold missV
  split
  · rename_i h; exact missL_len h _
  · exact Nat.zero_le _
end Go.Proofs.Ytlphegjhkchglaa
