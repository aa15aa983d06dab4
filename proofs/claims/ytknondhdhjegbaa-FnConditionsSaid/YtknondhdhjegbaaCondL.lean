/- The plain laws of the permits: until when they hold, what is not met, the worst grade. No program. -/
import Derived.Test.YtknondhdhjegbaaPermits3
import Derived.Test.YtknondhdhjegbaaAgain
namespace Go.Proofs.Ytknondhdhjegbaa
open Go Go.RowKit
set_option linter.unusedVariables false
theorem lastOf_aux : ∀ (L : List Condition) (m : Int), (L.foldl (fun m c => min m (endC c)) m ≤ m) ∧ (∀ c ∈ L, L.foldl (fun m c => min m (endC c)) m ≤ endC c) ∧ (L.foldl (fun m c => min m (endC c)) m = m ∨ ∃ c ∈ L, L.foldl (fun m c => min m (endC c)) m = endC c)
  | [], m => ⟨Int.le_refl _, (fun c hc => by cases hc), .inl rfl⟩
  | c :: r, m => by
    obtain ⟨h1, h2, h3⟩ := lastOf_aux r (min m (endC c))
    simp only [List.foldl_cons]
    refine ⟨by omega, fun d hd => ?_, ?_⟩
    · rcases List.mem_cons.1 hd with h | h
      · subst h; omega
      · exact h2 d h
    · rcases h3 with h | ⟨d, hd, h⟩
      · rw [h]
        by_cases hm : m ≤ endC c
        · left; omega
        · right; exact ⟨c, List.mem_cons_self .., by omega⟩
      · right; exact ⟨d, List.mem_cons_of_mem _ hd, h⟩
theorem lastOf_most (L : List Condition) : lastOf L ≤ 9999 := (lastOf_aux L 9999).1
theorem lastOf_le {L : List Condition} {c : Condition} (h : c ∈ L) : lastOf L ≤ endC c := (lastOf_aux L 9999).2.1 c h
theorem lastOf_is (L : List Condition) : lastOf L = 9999 ∨ ∃ c ∈ L, lastOf L = endC c := (lastOf_aux L 9999).2.2
theorem unmet_nil {L : List Condition} {d : Int} : unmetOf L d = [] ↔ ∀ c ∈ L, d ≤ endC c := by
  simp only [unmetOf, List.map_eq_nil_iff, List.filter_eq_nil_iff, decide_eq_true_eq]
  exact ⟨fun h c hc => by have := h c hc; omega, fun h c hc => by have := h c hc; omega⟩
theorem unmet_last {L : List Condition} {d : Int} (hd : d ≤ 9999) : unmetOf L d = [] ↔ d ≤ lastOf L := by
  rw [unmet_nil]
  constructor
  · intro h
    rcases lastOf_is L with h2 | ⟨c, hc, h2⟩
    · omega
    · rw [h2]; exact h c hc
  · intro h c hc
    have := lastOf_le hc
    omega
/- the permits hold on a day just when they are known and nothing is unmet -/
theorem holds_is (L : List Condition) (d : Int) : holdsB L d = (unmetB L d && decide ((unmetV L d).length = 0)) := by
  unfold holdsB unmetV
  cases hu : unmetB L d
  · unfold unmetB at hu
    rw [← Bool.and_assoc, hu]; rfl
  · have h2 := hu
    simp only [unmetB, Bool.and_eq_true, inB_iff] at h2
    rw [h2.1]
    have h3 : inB d 0 9999 = true := (inB_iff ..).2 h2.2
    rw [h3]
    simp only [Bool.true_and, if_true]
    rw [Bool.eq_iff_iff]
    simp only [decide_eq_true_eq, List.length_eq_zero_iff]
    exact (unmet_last h2.2.2).symm
theorem holds_facts {L : List Condition} {d : Int} (h : holdsB L d = true) : holdsV L d = lastOf L ∧ 0 ≤ lastOf L ∧ lastOf L ≤ 9999 ∧ unmetB L (lastOf L) = true ∧ unmetV L (lastOf L) = [] ∧ (unmetB L (lastOf L + 1) = true → unmetV L (lastOf L + 1) ≠ []) := by
  have h0 := h
  simp only [holdsB, Bool.and_eq_true, decide_eq_true_eq, inB_iff] at h0
  have h9 := lastOf_most L
  have hu : unmetB L (lastOf L) = true := by
    simp only [unmetB, Bool.and_eq_true, inB_iff]; exact ⟨h0.1, by omega, h9⟩
  refine ⟨by rw [holdsV, if_pos h], by omega, h9, hu, by rw [unmetV, if_pos hu]; exact (unmet_last h9).2 (Int.le_refl _), fun h3 h4 => ?_⟩
  rw [unmetV, if_pos h3] at h4
  simp only [unmetB, Bool.and_eq_true, inB_iff] at h3
  have := (unmet_last h3.2.2).1 h4
  omega
theorem unmetV_false {L : List Condition} {d : Int} (h : unmetB L d = false) : unmetV L d = [] := by simp [unmetV, h]
theorem set_get {α : Type} {L : List α} {k : Nat} {c : α} (hk : k < L.length) : (L.set k c)[k]? = some c := by simp [hk]
/- a condition that was inspected on a day is unmet on that day just when its grade is the worst -/
theorem again_facts {L : List Condition} {n d g : Int} (hok : ∀ c ∈ L, c.Ok) (h : agB L n d g = true) : (∀ c ∈ agV L n d g, c.Ok) ∧ unmetB (agV L n d g) d = true ∧ (n ∈ unmetV (agV L n d g) d ↔ g = 5) := by
  have hv : agV L n d g = agL L n d g := by rw [agV, if_pos h]
  have h0 := h
  simp only [agB, Bool.and_eq_true] at h0
  obtain ⟨hg, ha⟩ := h0
  unfold agA at ha
  unfold agL at hv
  cases hf : L.findIdx? (isNo n) with
  | none => rw [hf] at ha; cases ha
  | some k =>
    rw [hf] at ha hv
    cases hk : L[k]? with
    | none => simp only [hk] at ha; cases ha
    | some c =>
      simp only [hk, Bool.and_eq_true, decide_eq_true_eq] at ha hv
      have hkl := (List.getElem?_eq_some_iff.1 hk).1
      have hn : c.number = n := by
        have h1 := List.findIdx?_eq_some_iff_getElem.1 hf
        obtain ⟨h2, h3, _⟩ := h1
        have h4 : L[k] = c := by rw [List.getElem?_eq_getElem h2] at hk; injection hk
        rw [h4] at h3
        simpa [isNo] using h3
      have hgk : (L.set k (againC c d g))[k]? = some (againC c d g) := set_get hkl
      have hcb := goodC_cond ha.2 k _ hgk
      have hbd := condB_bd hcb
      have hlast : (againC c d g).last = d := rfl
      have hgr : (againC c d g).grade = g := rfl
      have hev : (againC c d g).every = c.every := rfl
      have hnm : (againC c d g).number = n := hn
      rw [hlast, hgr, hev, hnm] at hbd
      have hub : unmetB (L.set k (againC c d g)) d = true := by
        simp only [unmetB, Bool.and_eq_true, inB_iff]; exact ⟨ha.2, hbd.2.2.1⟩
      rw [hv]
      refine ⟨again_ok hok hk d g, hub, ?_⟩
      rw [unmetV, if_pos hub]
      have hend : endC (againC c d g) < d ↔ g = 5 := by
        unfold endC
        rw [hlast, hgr, hev]
        constructor
        · intro h1
          by_cases h5 : g = 5
          · exact h5
          · rw [if_neg h5] at h1
            split at h1 <;> omega
        · intro h5
          rw [if_pos h5]; omega
      simp only [unmetOf, List.mem_map, List.mem_filter, decide_eq_true_eq]
      constructor
      · rintro ⟨x, ⟨hx, hxe⟩, hxn⟩
        obtain ⟨j, hj, rfl⟩ := List.mem_iff_getElem.1 hx
        have hgj := List.getElem?_eq_getElem hj
        have hjk : j = k := by
          rcases Nat.lt_trichotomy j k with h1 | h1 | h1
          · have := good_ne ha.2 h1 hgj hgk; omega
          · exact h1
          · have := good_ne ha.2 h1 hgk hgj; omega
        subst hjk
        rw [hgk] at hgj
        injection hgj with hgj
        rw [← hgj] at hxe
        exact hend.1 hxe
      · intro h5
        exact ⟨_, ⟨List.mem_of_getElem? hgk, hend.2 h5⟩, hnm⟩
theorem worstOf_aux : ∀ (L : List Condition) (m : Int), (m ≤ L.foldl (fun m c => max m c.grade) m) ∧ (∀ c ∈ L, c.grade ≤ L.foldl (fun m c => max m c.grade) m) ∧ (L.foldl (fun m c => max m c.grade) m = m ∨ ∃ c ∈ L, L.foldl (fun m c => max m c.grade) m = c.grade)
  | [], m => ⟨Int.le_refl _, (fun c hc => by cases hc), .inl rfl⟩
  | c :: r, m => by
    obtain ⟨h1, h2, h3⟩ := worstOf_aux r (max m c.grade)
    simp only [List.foldl_cons]
    refine ⟨by omega, fun d hd => ?_, ?_⟩
    · rcases List.mem_cons.1 hd with h | h
      · subst h; omega
      · exact h2 d h
    · rcases h3 with h | ⟨d, hd, h⟩
      · rw [h]
        by_cases hm : c.grade ≤ m
        · left; omega
        · right; exact ⟨c, List.mem_cons_self .., by omega⟩
      · right; exact ⟨d, List.mem_cons_of_mem _ hd, h⟩
/- the worst grade: nobody's is worse, somebody's is it, and whose it is are listed -/
theorem worst_facts {L : List Condition} (h : worstB L = true) : worstL L ≠ [] ∧ ∀ (k : Nat) (c : Condition), L[k]? = some c → c.grade ≤ worstV L ∧ (c.number ∈ worstL L ↔ c.grade = worstV L) := by
  have h0 := h
  simp only [worstB, Bool.and_eq_true, decide_eq_true_eq] at h0
  obtain ⟨hg, hl⟩ := h0
  have hv : worstV L = worstOf L := by rw [worstV, if_pos h]
  have hw : worstL L = worstIn L (worstOf L) := by rw [worstL, if_pos h]
  obtain ⟨h1, h2, h3⟩ := worstOf_aux L 0
  have hmem : ∀ (k : Nat) (c : Condition), L[k]? = some c → (c.number ∈ worstIn L (worstOf L) ↔ c.grade = worstOf L) := by
    intro k c hk
    simp only [worstIn, List.mem_map, List.mem_filter, decide_eq_true_eq]
    constructor
    · rintro ⟨x, ⟨hx, hxg⟩, hxn⟩
      obtain ⟨j, hj, rfl⟩ := List.mem_iff_getElem.1 hx
      have hgj := List.getElem?_eq_getElem hj
      have hjk : j = k := by
        rcases Nat.lt_trichotomy j k with h1 | h1 | h1
        · have := good_ne hg h1 hgj hk; omega
        · exact h1
        · have := good_ne hg h1 hk hgj; omega
      subst hjk
      rw [hk] at hgj
      injection hgj with hgj
      rw [hgj]; exact hxg
    · intro h5
      exact ⟨c, ⟨List.mem_of_getElem? hk, h5⟩, rfl⟩
  refine ⟨?_, fun k c hk => ?_⟩
  · rw [hw]
    intro hn
    have hlp : 0 < L.length := by omega
    have hg0 := List.getElem?_eq_getElem hlp
    have hb := condB_bd (goodC_cond hg 0 _ hg0)
    have hm0 := h2 _ (List.getElem_mem hlp)
    rcases h3 with h4 | ⟨c, hc, h4⟩
    · omega
    · obtain ⟨j, hj, rfl⟩ := List.mem_iff_getElem.1 hc
      have := (hmem j _ (List.getElem?_eq_getElem hj)).2 h4.symm
      rw [hn] at this
      cases this
  · rw [hv, hw]
    exact ⟨h2 c (List.mem_of_getElem? hk), hmem k c hk⟩
theorem worstL_false {L : List Condition} (h : worstB L = false) : worstL L = [] := by simp [worstL, h]
end Go.Proofs.Ytknondhdhjegbaa
