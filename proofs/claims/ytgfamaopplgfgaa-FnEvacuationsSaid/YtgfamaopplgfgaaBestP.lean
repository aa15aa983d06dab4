/- The best of all assignments: by their numbers' digits and by recursion; the first that takes the least. No program. -/
import Derived.Test.YtgfamaopplgfgaaEvac
namespace Go.Proofs.Ytgfamaopplgfgaa
open Go Go.RowKit
set_option linter.unusedVariables false
set_option linter.unusedSimpArgs false
/- the t last digits of n, the greatest first -/
def dg (c : Nat) : Nat → Nat → List Int
  | 0, _ => []
  | t + 1, n => ((n / c ^ t % c : Nat) : Int) :: dg c t n
theorem dg_len (c n : Nat) : ∀ t, (dg c t n).length = t
  | 0 => rfl
  | t + 1 => by simp [dg, dg_len c n t]
theorem dg_in {c : Nat} (hc : 0 < c) (n : Nat) : ∀ t, ∀ x ∈ dg c t n, 0 ≤ x ∧ x ≤ (c : Int) - 1
  | 0, x, h => by cases h
  | t + 1, x, h => by
    rcases List.mem_cons.1 h with rfl | h
    · have := Nat.mod_lt (n / c ^ t) hc
      omega
    · exact dg_in hc n t x h
theorem dg_add {c : Nat} (hc : 0 < c) (n : Nat) : ∀ t k, dg c t (n + k * c ^ t) = dg c t n
  | 0, k => rfl
  | t + 1, k => by
    have h1 : n + k * c ^ (t + 1) = n + (k * c) * c ^ t := by rw [Nat.pow_succ, Nat.mul_assoc, Nat.mul_comm (c ^ t) c]
    rw [h1, dg, dg, dg_add hc n t (k * c), Nat.add_mul_div_right _ _ (Nat.pow_pos hc), Nat.add_mul_mod_self_right]
/- all assignments that go on with b, r more -/
def allL (c : Nat) : Nat → List Int → List (List Int)
  | 0, b => [b]
  | r + 1, b => (List.range c).flatMap fun k : Nat => allL c r (b ++ [(k : Int)])
theorem flat_len2 {α β : Type} {f : α → List β} {sz : Nat} (he : ∀ a, (f a).length = sz) : ∀ L : List α, (L.flatMap f).length = L.length * sz
  | [] => by simp
  | x :: r => by simp [he, flat_len2 he r, Nat.add_mul, Nat.add_comm]
theorem flat_get2 {α β : Type} {f : α → List β} {sz : Nat} (he : ∀ a, (f a).length = sz) : ∀ (L : List α) (k : Nat) (a : α), L[k]? = some a → ∀ j v, (f a)[j]? = some v → (L.flatMap f)[k * sz + j]? = some v
  | [], k, a, h, _, _, _ => by simp at h
  | x :: r, 0, a, h, j, v, hv => by
    simp at h; subst h
    have hj : j < (f x).length := (List.getElem?_eq_some_iff.1 hv).1
    rw [List.flatMap_cons, Nat.zero_mul, Nat.zero_add, List.getElem?_append_left hj]; exact hv
  | x :: r, k + 1, a, h, j, v, hv => by
    have := flat_get2 he r k a (by simpa using h) j v hv
    rw [List.flatMap_cons, List.getElem?_append_right (by rw [he, Nat.add_mul]; omega), he, ← this]
    congr 1
    rw [Nat.add_mul]; omega
theorem allL_len (c : Nat) : ∀ r b, (allL c r b).length = c ^ r
  | 0, b => rfl
  | r + 1, b => by
    rw [allL, flat_len2 (fun k => allL_len c r _), List.length_range, Nat.pow_succ, Nat.mul_comm]
theorem allL_get {c : Nat} (hc : 0 < c) : ∀ (r : Nat) (b : List Int) (n : Nat), n < c ^ r → (allL c r b)[n]? = some (b ++ dg c r n)
  | 0, b, n, h => by
    obtain rfl : n = 0 := by simpa using h
    simp [allL, dg]
  | r + 1, b, n, h => by
    have hp : 0 < c ^ r := Nat.pow_pos hc
    have hk : n / c ^ r < c := by
      rw [Nat.div_lt_iff_lt_mul hp, Nat.mul_comm, ← Nat.pow_succ]; exact h
    have hj := Nat.mod_lt n hp
    have ih := allL_get hc r (b ++ [((n / c ^ r : Nat) : Int)]) (n % c ^ r) hj
    have h1 := flat_get2 (f := fun k : Nat => allL c r (b ++ [(k : Int)])) (fun k => allL_len c r _) (List.range c) (n / c ^ r) (n / c ^ r) (by rw [List.getElem?_range hk]) (n % c ^ r) _ ih
    have h2 : n / c ^ r * c ^ r + n % c ^ r = n := by rw [Nat.mul_comm]; exact Nat.div_add_mod _ _
    rw [h2] at h1
    rw [allL, h1, dg, Nat.mod_eq_of_lt hk]
    have h3 := dg_add hc (n % c ^ r) r (n / c ^ r)
    rw [Nat.add_comm, h2] at h3
    rw [h3]; simp
theorem allL_mem {c : Nat} (hc : 0 < c) : ∀ (r : Nat) (b : List Int), ∀ x ∈ allL c r b, ∃ n, n < c ^ r ∧ x = b ++ dg c r n := by
  intro r b x hx
  obtain ⟨n, hn, rfl⟩ := List.mem_iff_getElem.1 hx
  rw [allL_len] at hn
  have := allL_get hc r b n hn
  rw [List.getElem?_eq_getElem (by rw [allL_len]; exact hn)] at this
  injection this with this
  exact ⟨n, hn, this⟩
/- the first of the least -/
def fmS (T : List Int → Int) (s : List Int × Int) (x : List Int) : List Int × Int := if s.2 < 0 ∨ T x < s.2 then (x, T x) else s
def fm (T : List Int → Int) (L : List (List Int)) (s : List Int × Int) : List Int × Int := L.foldl (fmS T) s
theorem fm_snoc (T : List Int → Int) (L : List (List Int)) (x : List Int) (s : List Int × Int) : fm T (L ++ [x]) s = fmS T (fm T L s) x := by simp [fm, List.foldl_append]
theorem fm_app (T : List Int → Int) (L M : List (List Int)) (s : List Int × Int) : fm T (L ++ M) s = fm T M (fm T L s) := by simp [fm, List.foldl_append]
theorem fmS_join {T : List Int → Int} {s o : List Int × Int} {x : List Int} (hx : 0 ≤ T x) (ho : 0 ≤ o.2) :
    fmS T (if s.2 < 0 ∨ o.2 < s.2 then o else s) x = if s.2 < 0 ∨ (fmS T o x).2 < s.2 then fmS T o x else s := by
  unfold fmS
  by_cases h1 : s.2 < 0 ∨ o.2 < s.2
  · rw [if_pos h1]
    by_cases h2 : o.2 < 0 ∨ T x < o.2
    · rw [if_pos h2, if_pos (by simp only; omega)]
    · rw [if_neg h2, if_pos h1]
  · rw [if_neg h1]
    by_cases h2 : o.2 < 0 ∨ T x < o.2
    · rw [if_pos h2]
    · rw [if_neg h2, if_neg h1, if_neg (by omega)]
theorem fm_join {T : List Int → Int} (hT : ∀ x, 0 ≤ T x) : ∀ (n : Nat) (L : List (List Int)), L.length = n + 1 → ∀ s, 0 ≤ (fm T L ([], -1)).2 ∧ fm T L s = if s.2 < 0 ∨ (fm T L ([], -1)).2 < s.2 then fm T L ([], -1) else s
  | 0, L, h, s => by
    match L, h with
    | [x], _ =>
      have := hT x
      simp [fm, fmS]; exact this
  | n + 1, L, h, s => by
    obtain ⟨M, x, rfl⟩ : ∃ M x, L = M ++ [x] := by
      rcases List.eq_nil_or_concat L with rfl | ⟨M, x, rfl⟩
      · simp at h
      · exact ⟨M, x, by simp⟩
    have hM : M.length = n + 1 := by simpa using h
    obtain ⟨h0, h1⟩ := fm_join hT n M hM s
    rw [fm_snoc, fm_snoc, h1]
    refine ⟨?_, fmS_join (hT x) h0⟩
    unfold fmS
    split
    · exact hT x
    · exact h0
theorem timeI_nonneg (L : List Support) (C : List Crew) (P S : List Int) : 0 ≤ timeI L C P S := by
  unfold timeI
  generalize C.length = k
  induction k with
  | zero => exact Int.le_refl _
  | succ k ih => rw [timeUp]; omega
/- what goes on with b, r more: the best of them -/
def bestR (L : List Support) (C : List Crew) (P : List Int) (r : Nat) (b : List Int) : List Int × Int := fm (timeI L C P) (allL C.length r b) ([], -1)
theorem bestR_zero (L : List Support) (C : List Crew) (P b : List Int) : bestR L C P 0 b = (b, timeI L C P b) := by simp [bestR, allL, fm, fmS]
def bestU (L : List Support) (C : List Crew) (P : List Int) (r : Nat) (b : List Int) (k : Nat) : List Int × Int := fm (timeI L C P) ((List.range k).flatMap fun k : Nat => allL C.length r (b ++ [(k : Int)])) ([], -1)
theorem bestU_zero (L : List Support) (C : List Crew) (P b : List Int) (r : Nat) : bestU L C P r b 0 = ([], -1) := rfl
theorem bestU_all (L : List Support) (C : List Crew) (P b : List Int) (r : Nat) : bestU L C P r b C.length = bestR L C P (r + 1) b := rfl
theorem bestR_nonneg {L : List Support} {C : List Crew} (hc : 0 < C.length) (P b : List Int) (r : Nat) : 0 ≤ (bestR L C P r b).2 := by
  have hp : 0 < C.length ^ r := Nat.pow_pos hc
  exact (fm_join (timeI_nonneg L C P) (C.length ^ r - 1) (allL C.length r b) (by rw [allL_len]; omega) ([], -1)).1
theorem bestU_step {L : List Support} {C : List Crew} (hc : 0 < C.length) (P b : List Int) (r k : Nat) : bestU L C P r b (k + 1) = if (bestU L C P r b k).2 < 0 ∨ (bestR L C P r (b ++ [(k : Int)])).2 < (bestU L C P r b k).2 then bestR L C P r (b ++ [(k : Int)]) else bestU L C P r b k := by
  have hp : 0 < C.length ^ r := Nat.pow_pos hc
  unfold bestU
  rw [List.range_succ, List.flatMap_append, fm_app, List.flatMap_cons, List.flatMap_nil, List.append_nil]
  have h := (fm_join (timeI_nonneg L C P) (C.length ^ r - 1) (allL C.length r (b ++ [(k : Int)])) (by rw [allL_len]; omega) (fm (timeI L C P) ((List.range k).flatMap fun k : Nat => allL C.length r (b ++ [(k : Int)])) ([], -1))).2
  exact h
/- by their numbers -/
def bestN (L : List Support) (C : List Crew) (P : List Int) (n : Nat) : List Int × Int := fm (timeI L C P) ((allL C.length P.length []).take n) ([], -1)
theorem bestN_zero (L : List Support) (C : List Crew) (P : List Int) : bestN L C P 0 = ([], -1) := rfl
theorem bestN_all (L : List Support) (C : List Crew) (P : List Int) : bestN L C P (C.length ^ P.length) = bestR L C P P.length [] := by
  unfold bestN bestR
  rw [List.take_of_length_le (by rw [allL_len]; exact Nat.le_refl _)]
theorem bestN_step {L : List Support} {C : List Crew} (hc : 0 < C.length) (P : List Int) {n : Nat} (hn : n < C.length ^ P.length) : bestN L C P (n + 1) = fmS (timeI L C P) (bestN L C P n) (dg C.length P.length n) := by
  have hl : n < (allL C.length P.length []).length := by rw [allL_len]; exact hn
  have hg := allL_get hc P.length [] n hn
  rw [List.getElem?_eq_getElem hl] at hg
  injection hg with hg
  unfold bestN
  rw [take_snocL _ n hl, fm_snoc, hg, List.nil_append]
theorem bestN_yes {L : List Support} {C : List Crew} {P : List Int} (hc : 0 < C.length) {n : Nat} (hn : n < C.length ^ P.length) {b : List Int} {l t : Int} (hz : bestN L C P n = (b, l)) (ht : timeI L C P (dg C.length P.length n) = t) (h : l < 0 ∨ t < l) : bestN L C P (n + 1) = (dg C.length P.length n, t) := by
  rw [bestN_step hc P hn, hz, fmS, ht, if_pos h]
theorem bestN_no {L : List Support} {C : List Crew} {P : List Int} (hc : 0 < C.length) {n : Nat} (hn : n < C.length ^ P.length) {b : List Int} {l t : Int} (hz : bestN L C P n = (b, l)) (ht : timeI L C P (dg C.length P.length n) = t) (h : ¬ (l < 0 ∨ t < l)) : bestN L C P (n + 1) = (b, l) := by
  rw [bestN_step hc P hn, hz, fmS, ht, if_neg h]
def bestB (L : List Support) (C : List Crew) (P : List Int) : Bool := goodR L C P
def bestL (L : List Support) (C : List Crew) (P : List Int) : List Int := if bestB L C P then (bestR L C P P.length []).1 else []
def bestT (L : List Support) (C : List Crew) (P : List Int) : Int := if bestB L C P then (bestR L C P P.length []).2 else 0
theorem dg_as {L : List Support} {C : List Crew} {P : List Int} (h : goodR L C P = true) (hc : 0 < C.length) (n : Nat) : asB L C P (dg C.length P.length n) = true := by
  simp only [asB, h, Bool.true_and, Bool.and_eq_true, decide_eq_true_eq, List.all_eq_true]
  refine ⟨dg_len _ _ _, fun x hx => ?_⟩
  have := dg_in hc n P.length x hx
  exact inB_iff.2 ⟨this.1, this.2⟩
/- the best is one of all, and takes its time -/
theorem fm_mem {T : List Int → Int} (hT : ∀ x, 0 ≤ T x) : ∀ (n : Nat) (L : List (List Int)), L.length = n + 1 → (fm T L ([], -1)).1 ∈ L ∧ (fm T L ([], -1)).2 = T (fm T L ([], -1)).1 ∧ ∀ x ∈ L, (fm T L ([], -1)).2 ≤ T x
  | 0, L, h => by
    match L, h with
    | [x], _ => simp [fm, fmS]
  | n + 1, L, h => by
    obtain ⟨M, x, rfl⟩ : ∃ M x, L = M ++ [x] := by
      rcases List.eq_nil_or_concat L with rfl | ⟨M, x, rfl⟩
      · simp at h
      · exact ⟨M, x, by simp⟩
    have hM : M.length = n + 1 := by simpa using h
    obtain ⟨h1, h2, h3⟩ := fm_mem hT n M hM
    have h4 := (fm_join hT n M hM ([], -1)).1
    rw [fm_snoc]
    generalize fm T M ([], -1) = o at *
    unfold fmS
    split
    · rename_i h5
      refine ⟨by simp, rfl, fun y hy => ?_⟩
      rcases List.mem_append.1 hy with hy | hy
      · have := h3 y hy
        simp only; omega
      · obtain rfl : y = x := by simpa using hy
        exact Int.le_refl _
    · rename_i h5
      refine ⟨by simp [h1], h2, fun y hy => ?_⟩
      rcases List.mem_append.1 hy with hy | hy
      · exact h3 y hy
      · obtain rfl : y = x := by simpa using hy
        omega
theorem best_props {L : List Support} {C : List Crew} {P : List Int} (h : goodR L C P = true) (hc : 0 < C.length) :
    asB L C P (bestR L C P P.length []).1 = true ∧ (bestR L C P P.length []).2 = timeI L C P (bestR L C P P.length []).1 ∧ ∀ S, asB L C P S = true → (∃ n, n < C.length ^ P.length ∧ S = dg C.length P.length n) → (bestR L C P P.length []).2 ≤ timeI L C P S := by
  have hp : 0 < C.length ^ P.length := Nat.pow_pos hc
  obtain ⟨h1, h2, h3⟩ := fm_mem (timeI_nonneg L C P) (C.length ^ P.length - 1) (allL C.length P.length []) (by rw [allL_len]; omega)
  obtain ⟨n, hn, he⟩ := allL_mem hc P.length [] _ h1
  refine ⟨?_, h2, fun S hS ⟨m, hm, hSm⟩ => ?_⟩
  · have : (bestR L C P P.length []).1 = dg C.length P.length n := by rw [← List.nil_append (dg _ _ _)]; exact he
    rw [this]; exact dg_as h hc n
  · refine h3 S ?_
    have hg := allL_get hc P.length [] m hm
    rw [hSm, ← List.nil_append (dg _ _ _)]
    exact List.mem_of_getElem? hg
theorem bestL_len (L : List Support) (C : List Crew) (P : List Int) : (bestL L C P).length ≤ 6 := by
  unfold bestL bestB
  cases h : goodR L C P
  · simp
  · have hg := goodR_len h
    rw [if_pos rfl]
    have := asB_len (best_props h (by omega)).1
    omega
end Go.Proofs.Ytgfamaopplgfgaa
