/- InspectionPlan: what the program makes condition by condition is, but for the order, what the reference makes day by day; the reference's list rises strictly. No program. -/
import Derived.Test.YtknondhdhjegbaaInsp
import Derived.Test.YtknondhdhjegbaaInspS
import Derived.Test.YtknondhdhjegbaaAgain
namespace Go.Proofs.Ytknondhdhjegbaa
open Go Go.RowKit
set_option linter.unusedVariables false
def cntC (s e to : Int) : Nat := if to < s then 0 else ((to - s) / e + 1).toNat
def rowsC (fr to : Int) (c : Condition) : List (List Int) := (List.range (cntC (max (endC c) fr) c.every to)).map fun (i : Nat) => [max (endC c) fr + c.every * (i : Int), c.number]
def preV (L : List Condition) (fr to : Int) : List (List Int) := L.flatMap (rowsC fr to)
theorem cnt_iff {s e to : Int} (he : 1 ≤ e) (i : Nat) : i < cntC s e to ↔ s + e * (i : Int) ≤ to := by
  have hnn : 0 ≤ e * (i : Int) := Int.mul_nonneg (by omega) (by omega)
  unfold cntC
  split
  · constructor
    · intro h; omega
    · intro h; omega
  · rename_i hs
    have h1 := Int.le_ediv_iff_mul_le (a := (i : Int)) (b := to - s) (show 0 < e by omega)
    rw [Int.mul_comm] at h1
    constructor
    · intro h
      have : (i : Int) ≤ (to - s) / e := by omega
      have := h1.1 this
      omega
    · intro h
      have := h1.2 (by omega)
      omega
theorem mem_pre {L : List Condition} {fr to : Int} {x : List Int} (he : ∀ c ∈ L, 1 ≤ c.every) : x ∈ preV L fr to ↔ ∃ c ∈ L, ∃ i : Nat, max (endC c) fr + c.every * (i : Int) ≤ to ∧ x = [max (endC c) fr + c.every * (i : Int), c.number] := by
  simp only [preV, rowsC, List.mem_flatMap, List.mem_map, List.mem_range]
  constructor
  · rintro ⟨c, hc, i, hi, rfl⟩
    exact ⟨c, hc, i, (cnt_iff (he c hc) i).1 hi, rfl⟩
  · rintro ⟨c, hc, i, hi, rfl⟩
    exact ⟨c, hc, i, (cnt_iff (he c hc) i).2 hi, rfl⟩
theorem mem_insp {L : List Condition} {fr : Int} {x : List Int} : ∀ {n : Nat}, x ∈ inspTo L fr n ↔ ∃ d, d < n ∧ ∃ c ∈ L, dueC fr (fr + (d : Int)) c = true ∧ x = [fr + (d : Int), c.number]
  | 0 => by simp [inspTo]
  | n + 1 => by
    rw [inspTo, List.mem_append, mem_insp (n := n)]
    simp only [rowsD, List.mem_map, List.mem_filter]
    constructor
    · rintro (⟨d, hd, h⟩ | ⟨c, ⟨hc, hdu⟩, rfl⟩)
      · exact ⟨d, by omega, h⟩
      · exact ⟨n, by omega, c, hc, hdu, rfl⟩
    · rintro ⟨d, hd, c, hc, hdu, rfl⟩
      rcases Nat.lt_or_ge d n with h | h
      · exact .inl ⟨d, h, c, hc, hdu, rfl⟩
      · obtain rfl : d = n := by omega
        exact .inr ⟨c, ⟨hc, hdu⟩, rfl⟩
theorem mem_same {L : List Condition} {fr to : Int} {n : Nat} {x : List Int} (he : ∀ c ∈ L, 1 ≤ c.every) (hn : (n : Int) = to - fr + 1) : x ∈ preV L fr to ↔ x ∈ inspTo L fr n := by
  rw [mem_pre he, mem_insp]
  constructor
  · rintro ⟨c, hc, i, hi, rfl⟩
    have h1 := he c hc
    have hnn : 0 ≤ c.every * (i : Int) := Int.mul_nonneg (by omega) (by omega)
    have hm : max fr (endC c) = max (endC c) fr := by omega
    obtain ⟨p, hp⟩ : ∃ p, p = c.every * (i : Int) := ⟨_, rfl⟩
    have hdv : p % c.every = 0 := by rw [hp]; exact Int.mul_emod_right _ _
    rw [← hp] at hi hnn ⊢
    refine ⟨(max (endC c) fr + p - fr).toNat, by omega, c, hc, ?_, ?_⟩
    · have e : fr + (((max (endC c) fr + p - fr).toNat : Nat) : Int) = max (endC c) fr + p := by omega
      rw [e, dueC, hm]
      have e2 : max (endC c) fr + p - max (endC c) fr = p := by omega
      rw [e2, hdv]
      simp; omega
    · have e : fr + (((max (endC c) fr + p - fr).toNat : Nat) : Int) = max (endC c) fr + p := by omega
      rw [e]
  · rintro ⟨d, hd, c, hc, hdu, rfl⟩
    have h1 := he c hc
    simp only [dueC, Bool.and_eq_true, decide_eq_true_eq, beq_iff_eq] at hdu
    obtain ⟨h2, h3⟩ := hdu
    have hm : max fr (endC c) = max (endC c) fr := by omega
    rw [hm] at h2 h3
    have h4 := Int.emod_add_mul_ediv (fr + (d : Int) - max (endC c) fr) c.every
    rw [h3] at h4
    have hq : 0 ≤ (fr + (d : Int) - max (endC c) fr) / c.every := Int.ediv_nonneg (by omega) (by omega)
    obtain ⟨q, hqe⟩ : ∃ q : Nat, (q : Int) = (fr + (d : Int) - max (endC c) fr) / c.every := ⟨((fr + (d : Int) - max (endC c) fr) / c.every).toNat, by omega⟩
    rw [← hqe] at h4
    obtain ⟨p, hp⟩ : ∃ p, p = c.every * (q : Int) := ⟨_, rfl⟩
    refine ⟨c, hc, q, ?_, ?_⟩
    · rw [← hp] at h4 ⊢; omega
    · rw [← hp] at h4 ⊢
      have e : max (endC c) fr + p = fr + (d : Int) := by omega
      rw [e]
theorem rowsD_sorted {L : List Condition} {fr day : Int} (h : L.Pairwise fun c d => c.number < d.number) : (rowsD fr day L).Pairwise fun x y => cmpL x y < 0 := by
  unfold rowsD
  refine List.Pairwise.map _ (R := fun c d : Condition => c.number < d.number) (fun c d hcd => (cmpL_two ..).2 (.inr ⟨rfl, hcd⟩)) (h.sublist List.filter_sublist)
theorem insp_sorted {L : List Condition} {fr : Int} (h : L.Pairwise fun c d => c.number < d.number) : ∀ n, (inspTo L fr n).Pairwise fun x y => cmpL x y < 0
  | 0 => .nil
  | n + 1 => by
    rw [inspTo]
    refine List.pairwise_append.2 ⟨insp_sorted h n, rowsD_sorted h, fun x hx y hy => ?_⟩
    obtain ⟨d, hd, c, _, _, rfl⟩ := mem_insp.1 hx
    simp only [rowsD, List.mem_map] at hy
    obtain ⟨c2, _, rfl⟩ := hy
    exact (cmpL_two ..).2 (.inl (by omega))
theorem insp_nodup {L : List Condition} {fr : Int} (h : L.Pairwise fun c d => c.number < d.number) (n : Nat) : (inspTo L fr n).Nodup :=
  (insp_sorted h n).imp fun {a b} hab e => by subst e; rw [cmpL_self] at hab; omega
theorem pre_nodup {fr to : Int} : ∀ {L : List Condition}, (∀ c ∈ L, 1 ≤ c.every) → (L.Pairwise fun c d => c.number < d.number) → (preV L fr to).Nodup
  | [], _, _ => .nil
  | c :: r, he, h => by
    obtain ⟨h1, h2⟩ := List.pairwise_cons.1 h
    have he1 := he c (List.mem_cons_self ..)
    show (rowsC fr to c ++ preV r fr to).Nodup
    refine List.nodup_append.2 ⟨?_, pre_nodup (fun d hd => he d (List.mem_cons_of_mem _ hd)) h2, fun x hx y hy e => ?_⟩
    · unfold rowsC
      show List.Pairwise (fun x y => x ≠ y) _
      refine List.Pairwise.map _ (R := fun i j : Nat => i ≠ j) (fun i j hij e => ?_) List.nodup_range
      injection e with e _
      have e2 : c.every * (i : Int) = c.every * (j : Int) := by omega
      have := Int.eq_of_mul_eq_mul_left (by omega) e2
      omega
    · subst e
      simp only [rowsC, List.mem_map] at hx
      obtain ⟨i, _, rfl⟩ := hx
      obtain ⟨c2, hc2, j, _, e⟩ := (mem_pre (fun d hd => he d (List.mem_cons_of_mem _ hd))).1 hy
      injection e with _ e
      injection e with e _
      have := h1 c2 hc2
      omega
theorem pre_perm {L : List Condition} {fr to : Int} {n : Nat} (he : ∀ c ∈ L, 1 ≤ c.every) (h : L.Pairwise fun c d => c.number < d.number) (hn : (n : Int) = to - fr + 1) : (preV L fr to).Perm (inspTo L fr n) :=
  (List.perm_ext_iff_of_nodup (pre_nodup he h) (insp_nodup h n)).2 fun _ => mem_same he hn
theorem good_pw {L : List Condition} (h : goodC L = true) : L.Pairwise fun c d => c.number < d.number :=
  List.pairwise_iff_getElem.2 fun i j hi hj hij => good_ne h hij (List.getElem?_eq_getElem hi) (List.getElem?_eq_getElem hj)
/- the program's sorted list is the reference's -/
theorem insp_is {L : List Condition} {fr to : Int} {n : Nat} {Q : List (List Int)} (hg : goodC L = true) (hn : (n : Int) = to - fr + 1) (hp : Q.Perm (preV L fr to)) (hq : Q.Pairwise fun x y => ¬ cmpL y x < 0) : Q = inspTo L fr n := by
  have he : ∀ c ∈ L, 1 ≤ c.every := fun c hc => by
    obtain ⟨j, hj, rfl⟩ := List.mem_iff_getElem.1 hc
    exact (condB_bd (goodC_cond hg j _ (List.getElem?_eq_getElem hj))).2.1.1
  exact sorted_is (insp_sorted (good_pw hg) n) hq (hp.trans (pre_perm he (good_pw hg) hn))
end Go.Proofs.Ytknondhdhjegbaa
